/-
  A machine, and how it lies in memory.
-/
import Derived.Test.YtbfjnldneemmiabE18
import Derived.Test.YtbfjnldneemmiabOp
namespace Go.Proofs.Ytbfjnldneemmiab
set_option linter.all false
open Go.Proofs.Ytbfjnldneemmiab.E

structure Mach where
  Class : C256
  Next : List (List Int)
  Rule : List Int

def kNext : Kd (List (List Int)) := kslice 24 (kslice 8 kint)
def kDfa : Kd Mach := kiso (kpair kArr (kpair kNext (kslice 8 kint))) (fun m => (m.Class, m.Next, m.Rule))

structure DSl (w : World) (S : BSet) (m : Mach) (A1 A2 : Option Addr) (c1 c2 : Nat) : Prop where
  cls : ∀ v ∈ m.Class.l, I64 v
  next : Sl 24 (kslice 8 kint) w S A1 c1 m.Next
  rule : Sl 8 kint w S A2 c2 m.Rule

abbrev dfC (m : Mach) (A1 A2 : Option Addr) (c1 c2 : Nat) : List Value := dC m.Class [.slice A1 m.Next.length c1, .slice A2 m.Rule.length c2]

theorem kDfa_open {w : World} {S : BSet} {cs : List Value} {m : Mach} (h : kDfa.R w S cs m) :
    ∃ A1 A2 c1 c2, cs = dC m.Class [.slice A1 m.Next.length c1, .slice A2 m.Rule.length c2] ∧ DSl w S m A1 A2 c1 c2 := by
  obtain ⟨_, _, rfl, ⟨rfl, h2⟩, _, _, rfl, ⟨A1, c1, rfl, h3⟩, ⟨A2, c2, rfl, h4⟩⟩ := h
  exact ⟨A1, A2, c1, c2, by rw [dC_app]; rfl, h2, h3, h4⟩

theorem kDfa_mk {w : World} {S : BSet} {m : Mach} {A1 A2 : Option Addr} {c1 c2 : Nat} (h : DSl w S m A1 A2 c1 c2) :
    kDfa.R w S (dC m.Class [.slice A1 m.Next.length c1, .slice A2 m.Rule.length c2]) m :=
  ⟨dC m.Class [], [.slice A1 m.Next.length c1, .slice A2 m.Rule.length c2], by rw [dC_app]; rfl, ⟨rfl, h.cls⟩, [.slice A1 m.Next.length c1], [.slice A2 m.Rule.length c2], rfl, ⟨A1, c1, rfl, h.next⟩, A2, c2, rfl, h.rule⟩

theorem op22 : Opn Try.prog 22 kArr := op_arr Try.underlying22 Try.underlying3 (by kernel_rfl) (by kernel_rfl)
theorem op23 : Opn Try.prog 23 kNext := op_slice Try.underlying23 (by kernel_rfl) (by kernel_rfl) (by decide) op24
theorem op26 : Opn Try.prog 26 kDfa := op_iso (fun y => ⟨⟨y.1, y.2.1, y.2.2⟩, rfl⟩) (op_struct Try.underlying26 (by kernel_rfl) (ops_cons (by kernel_rfl) op22 rfl (ops_cons (by kernel_rfl) op23 rfl (ops_one (by kernel_rfl) op24))))
theorem eq22 : Try.prog.eqGuardType Try.prog.depth 22 = false := by kernel_rfl

/-! ### structs that are built -/
section built
variable {E : Env} {fr : Frm} {U : List Asn}
abbrev zD (rest : List Value) : List Value := List.replicate 256 (Value.int .i64 0) ++ rest
theorem zD_eq (rest : List Value) : zD rest = dC .zero rest := dC_zero rest
abbrev sD : List (Nat × Nat) := [(0, 256), (256, 1), (257, 1)]
abbrev nilS : Value := .slice none 0 0
variable {t : TypeId} {s1 b1 : Nat} {x y z u : Operand} {c : C256} {v v2 v3 v4 v5 : Value}

theorem n_b26 (ht : tl E.T t = some ⟨.struct sD, s1, b1, zD [nilS, nilS]⟩) {parts : Array (Nat × Operand)} (hp : parts = #[]) : NEV E (.build t parts) fr U (.agg (dC .zero [nilS, nilS]).toArray) := by
  subst hp
  exact n_build ht (ps := []) rfl rfl (by rw [zD_eq]; rfl)

theorem n_b26NR (ht : tl E.T t = some ⟨.struct sD, s1, b1, zD [nilS, nilS]⟩) (hx : val fr x = some v) (hy : val fr y = some v2) (h1 : v.cells.toList = [v]) (h2 : v2.cells.toList = [v2]) :
    NEV E (.build t #[(1, x), (2, y)]) fr U (.agg (dC .zero [v, v2]).toArray) := by
  refine n_build ht (ps := [(1, v), (2, v2)]) (by simp [partVals, hx, hy]) rfl ?_
  rw [zD_eq, fillD_one (i := 1) (o := 256) rfl (by omega) h1 (by simp), fillD_one (i := 2) (o := 257) rfl (by omega) h2 (by simp)]; rfl

theorem n_b26R (ht : tl E.T t = some ⟨.struct sD, s1, b1, zD [nilS, nilS]⟩) (hy : val fr y = some v2) (h2 : v2.cells.toList = [v2]) {parts : Array (Nat × Operand)} (hp : parts = #[(2, y)]) :
    NEV E (.build t parts) fr U (.agg (dC .zero [nilS, v2]).toArray) := by
  subst hp
  refine n_build ht (ps := [(2, v2)]) (by simp [partVals, hy]) rfl ?_
  rw [zD_eq, fillD_one (i := 2) (o := 257) rfl (by omega) h2 (by simp)]; rfl

theorem n_b26CR (ht : tl E.T t = some ⟨.struct sD, s1, b1, zD [nilS, nilS]⟩) (hx : val fr x = some (.agg (dC c []).toArray)) (hy : val fr y = some v2) (h2 : v2.cells.toList = [v2]) :
    NEV E (.build t #[(0, x), (2, y)]) fr U (.agg (dC c [nilS, v2]).toArray) := by
  refine n_build ht (ps := [(0, .agg (dC c []).toArray), (2, v2)]) (by simp [partVals, hx, hy]) rfl ?_
  rw [zD_eq, fillD_arr (i := 0) (r2 := []) rfl (by simp), fillD_one (i := 2) (o := 257) rfl (by omega) h2 (by simp)]; rfl

theorem n_b91 (ht : tl E.T t = some ⟨.struct [(0, 258), (258, 1), (259, 1), (260, 1), (261, 1)], s1, b1, zD [nilS, nilS, nilS, .map none, .map none, nilS]⟩) {A : Option Addr} {n cc : Nat} {M1 M2 : Option Nat} (hx : val fr x = some (.agg (dC c [v, v2]).toArray)) (hy : val fr y = some (.slice A n cc))
    (hz : val fr z = some (.map M1)) (hu : val fr u = some (.map M2)) {parts : Array (Nat × Operand)} (hp : parts = #[(0, x), (1, y), (2, z), (3, u)]) :
    NEV E (.build t parts) fr U (.agg (dC c [v, v2, .slice A n cc, .map M1, .map M2, nilS]).toArray) := by
  subst hp
  refine n_build ht (ps := [(0, .agg (dC c [v, v2]).toArray), (1, .slice A n cc), (2, .map M1), (3, .map M2)]) (by simp [partVals, hx, hy, hz, hu]) rfl ?_
  rw [zD_eq, fillD_arr (i := 0) (r2 := [v, v2]) rfl (by simp), fillD_one (i := 1) (o := 258) rfl (by omega) rfl (by simp), fillD_one (i := 2) (o := 259) rfl (by omega) rfl (by simp), fillD_one (i := 3) (o := 260) rfl (by omega) rfl (by simp)]; rfl
end built

/-! ### when a machine may be -/
def limM (m : Mach) : Bool := decide (m.Next.length > 512) || (decide (m.Rule.length > 512) || m.Next.any fun r => decide (r.length > 256))
def kM (m : Mach) : Nat := (m.Next.getD 0 []).length
def formM (m : Mach) : Bool := decide (m.Next.length = 0) || (decide (m.Rule.length ≠ m.Next.length) || decide (kM m = 0))
def classOk (K : Nat) (v : Int) : Bool := decide (0 ≤ v) && decide (v < K)
def ruleOk (v : Int) : Bool := decide (-1 ≤ v) && decide (v < 64)
def goOk (n : Nat) (v : Int) : Bool := decide (-1 ≤ v) && decide (v < n)
def rowOk (m : Mach) (i : Nat) : Bool := decide ((m.Next.getD i []).length = kM m) && (ruleOk (m.Rule.getD i 0) && (m.Next.getD i []).all (goOk m.Next.length))
def restM (m : Mach) : Bool := m.Class.l.all (classOk (kM m)) && (List.range m.Next.length).all (rowOk m)
def checkM (m : Mach) : Int := if limM m then 5 else if formM m then 2 else if restM m then 0 else 2

theorem checkM_5 {m : Mach} (h : limM m = true) : checkM m = 5 := by unfold checkM; rw [if_pos h]
theorem checkM_f {m : Mach} (h : limM m = false) (h2 : formM m = true) : checkM m = 2 := by unfold checkM; rw [h, h2]; rfl
theorem checkM_r {m : Mach} (h : limM m = false) (h2 : formM m = false) (h3 : restM m = false) : checkM m = 2 := by unfold checkM; rw [h, h2, h3]; rfl
theorem checkM_0 {m : Mach} (h : limM m = false) (h2 : formM m = false) (h3 : restM m = true) : checkM m = 0 := by unfold checkM; rw [h, h2, h3]; rfl

/-- A machine that may be. -/
structure MOk (m : Mach) : Prop where
  n0 : 0 < m.Next.length
  n1 : m.Next.length ≤ 512
  r : m.Rule.length = m.Next.length
  k0 : 0 < kM m
  k1 : kM m ≤ 256
  cls : ∀ v ∈ m.Class.l, 0 ≤ v ∧ v < kM m
  row : ∀ (i : Nat) (h : i < m.Next.length), m.Next[i].length = kM m
  rul : ∀ v ∈ m.Rule, -1 ≤ v ∧ v < 64
  go : ∀ (i : Nat) (h : i < m.Next.length), ∀ v ∈ m.Next[i], -1 ≤ v ∧ v < m.Next.length

theorem mok_check {m : Mach} (h : MOk m) : checkM m = 0 := by
  refine checkM_0 ?_ ?_ ?_
  · unfold limM
    have h1 := h.n1
    simp only [Bool.or_eq_false_iff, decide_eq_false_iff_not, List.any_eq_false, decide_eq_true_eq]
    refine ⟨by omega, by have := h.r; omega, fun r hr => ?_⟩
    obtain ⟨i, hi, rfl⟩ := List.getElem_of_mem hr
    rw [h.row i hi]; have := h.k1; omega
  · unfold formM
    have h1 := h.n0
    have h2 := h.r
    have h3 := h.k0
    simp only [Bool.or_eq_false_iff, decide_eq_false_iff_not]
    omega
  · unfold restM
    rw [Bool.and_eq_true, List.all_eq_true, List.all_eq_true]
    refine ⟨fun v hv => ?_, fun i hi => ?_⟩
    · have := h.cls v hv
      simp only [classOk, Bool.and_eq_true, decide_eq_true_eq]; exact this
    · have hi' := List.mem_range.1 hi
      have hr : i < m.Rule.length := by rw [h.r]; exact hi'
      simp only [rowOk, ruleOk, Bool.and_eq_true, decide_eq_true_eq, List.all_eq_true, List.getD_eq_getElem?_getD, List.getElem?_eq_getElem hi', List.getElem?_eq_getElem hr, Option.getD_some]
      refine ⟨h.row i hi', h.rul _ (List.getElem_mem hr), fun v hv => ?_⟩
      have := h.go i hi' v hv
      simp only [goOk, Bool.and_eq_true, decide_eq_true_eq]; exact this

theorem check_mok {m : Mach} (h : checkM m = 0) : MOk m := by
  have hl : limM m = false := by cases h1 : limM m with
    | false => rfl
    | true => rw [checkM_5 h1] at h; cases h
  have hf : formM m = false := by cases h1 : formM m with
    | false => rfl
    | true => rw [checkM_f hl h1] at h; cases h
  have hr : restM m = true := by cases h1 : restM m with
    | true => rfl
    | false => rw [checkM_r hl hf h1] at h; cases h
  unfold limM at hl
  simp only [Bool.or_eq_false_iff, decide_eq_false_iff_not, List.any_eq_false, decide_eq_true_eq] at hl
  obtain ⟨l1, l2, l3⟩ := hl
  unfold formM at hf
  simp only [Bool.or_eq_false_iff, decide_eq_false_iff_not] at hf
  obtain ⟨f1, f2, f3⟩ := hf
  unfold restM at hr
  rw [Bool.and_eq_true, List.all_eq_true, List.all_eq_true] at hr
  obtain ⟨r1, r2⟩ := hr
  have hrl : m.Rule.length = m.Next.length := by omega
  have each : ∀ (i : Nat) (hi : i < m.Next.length), m.Next[i].length = kM m ∧ (-1 ≤ m.Rule.getD i 0 ∧ m.Rule.getD i 0 < 64) ∧ ∀ v ∈ m.Next[i], -1 ≤ v ∧ v < m.Next.length := by
    intro i hi
    have := r2 i (List.mem_range.2 hi)
    simp only [rowOk, ruleOk, goOk, Bool.and_eq_true, decide_eq_true_eq, List.all_eq_true] at this
    rw [show m.Next.getD i [] = m.Next[i] by rw [List.getD_eq_getElem?_getD, List.getElem?_eq_getElem hi]; rfl] at this
    exact this
  refine ⟨by omega, by omega, hrl, by omega, ?_, ?_, fun i hi => (each i hi).1, ?_, fun i hi => (each i hi).2.2⟩
  · have h0 : 0 < m.Next.length := by omega
    have : kM m = m.Next[0].length := by unfold kM; rw [List.getD_eq_getElem?_getD, List.getElem?_eq_getElem h0]; rfl
    rw [this]
    have := l3 _ (List.getElem_mem h0)
    omega
  · intro v hv
    have := r1 v hv
    simpa only [classOk, Bool.and_eq_true, decide_eq_true_eq] using this
  · intro v hv
    obtain ⟨i, hi, rfl⟩ := List.getElem_of_mem hv
    have := (each i (by omega)).2.1
    rw [show m.Rule.getD i 0 = m.Rule[i] by rw [List.getD_eq_getElem?_getD, List.getElem?_eq_getElem hi]; rfl] at this
    exact this

end Go.Proofs.Ytbfjnldneemmiab
