/-
  A grammar out of its parts; the grammars that may not be.
-/
import Derived.Test.YtbfjnldneemmiaaN1
import Derived.Test.YtbfjnldneemmiaaV10
namespace Go.Proofs.Ytbfjnldneemmiaa
set_option linter.all false
open Go.Proofs.Ytbfjnldneemmiaa.E

instance decI64 (x : Int) : Decidable (I64 x) := inferInstanceAs (Decidable (_ ∧ _))

theorem ent_consL {α : Type} {k : Kd α} {U : List Asn} {ess : List (List Value)} {xs : List α} {es : List Value} {x : α} : Ent (rdA k es x :: rdL k ess xs :: U) (rdL k (es :: ess) (x :: xs) :: U) :=
  Ent.two fun w S1 S2 h2 ⟨hl, h1⟩ => ⟨by simp [hl], fun i h3 h4 => by
    cases i with
    | zero => exact k.mono (fun _ h => .inl h) h2
    | succ i => exact k.mono (fun _ h => .inr h) (h1 i (by simpa using h3) (by simpa using h4))⟩

/-- Numbers that an int can be; lists that are not too long. -/
def PrI (p : Prd) : Prop := I64 p.Left ∧ I64 p.L.N ∧ I64 p.L.Kind ∧ (∀ s ∈ p.Right, I64 s) ∧ p.Right.length ≤ 1000000
instance (p : Prd) : Decidable (PrI p) := by unfold PrI; infer_instance

theorem ent_rights {U : List Asn} : ∀ (acs : List (Option Addr × Nat)) (ps : List Prd), acs.length = ps.length → (∀ p ∈ ps, PrI p) → Ent (prL acs ps ++ U) (rdL kPrd (List.zipWith encR acs ps) ps :: U)
  | [], [], _, _ => ent_nilL
  | ac :: acs, p :: ps, hl, hp => by
    have ih := ent_rights (U := U) acs ps (by simpa using hl) (fun q hq => hp q (List.mem_cons_of_mem _ hq))
    obtain ⟨h1, h2, h3, h4, h5⟩ := hp p (List.mem_cons_self ..)
    have hc : Ent (osl 3 1 (.slice ac.1 p.Right.length ac.2) p.Right.length (p.Right.flatMap fun x => [.int .i64 x]) :: rdL kPrd (List.zipWith encR acs ps) ps :: U) (rdA kPrd (encR ac p) p :: rdL kPrd (List.zipWith encR acs ps) ps :: U) :=
      (ent_flat (kd := kint) (bytes := 8) (fun x => [.int .i64 x]) (fun _ _ x hx => ⟨rfl, h4 x hx⟩) rfl (by omega)).trans (Ent.one fun w S h => by
        obtain ⟨A2, c2, e, h6⟩ := h
        simp only [List.cons.injEq, Value.slice.injEq, and_true, true_and] at e
        obtain ⟨e1, e2⟩ := e
        subst e1
        subst e2
        exact kPrd_mk h1 h2 h3 h6)
    exact (Ent.cons ih).trans (hc.trans ent_consL)
  | [], _ :: _, h, _ => by simp at h
  | _ :: _, [], h, _ => by simp at h

theorem ent_prods {U : List Asn} {acs : List (Option Addr × Nat)} {ps : List Prd} {A : Option Addr} {n d : Nat} (hl : acs.length = ps.length) (hn : n = ps.length) (hb : n ≤ 1000000) (hp : ∀ p ∈ ps, PrI p) :
    Ent (osl 67 4 (.slice A n d) n (prC acs ps) :: (prL acs ps ++ U)) (rdA (kslice 48 kPrd) [.slice A n d] ps :: U) :=
  (Ent.cons (ent_rights acs ps hl hp)).trans (ent_slice (k := kPrd) hn (by omega))

theorem ent_comb {U : List Asn} {s0 s1 s2 s3 s4 : Value} {T N : List ByteArray} {L : List Lev} {Pt' : List Pt} {P : List Prd} :
    Ent (rdA (kslice 48 kPrd) [s4] P :: rdA (kslice 16 kstr) [s0] T :: rdA (kslice 16 kLev) [s1] L :: rdA (kslice 24 kPt) [s2] Pt' :: rdA (kslice 16 kstr) [s3] N :: U) (rdA kGram [s0, s1, s2, s3, s4] ⟨T, L, Pt', N, P⟩ :: U) := by
  refine Ent.trans (Ent.tak (.s (.s (.s (.s .z)))) (Ent.refl _)) (ent_pair.trans ?_)
  refine Ent.trans (Ent.tak (.s (.s (.s .z))) (Ent.refl _)) (ent_pair.trans ?_)
  refine Ent.trans (Ent.tak (.s (.s .z)) (Ent.refl _)) (ent_pair.trans ?_)
  refine Ent.trans (Ent.tak (.s .z) (Ent.refl _)) (ent_pair.trans ?_)
  exact Ent.one fun w S h => h

def GrI (g : Gram) : Prop := (∀ p ∈ g.Prods, PrI p) ∧ (∀ l ∈ g.Levels, I64 l.N ∧ I64 l.Kind) ∧ (∀ t ∈ g.Pats, I64 t.Term) ∧ g.Terms.length ≤ 1000000 ∧ g.Levels.length ≤ 1000000 ∧ g.Pats.length ≤ 1000000 ∧ g.Nons.length ≤ 1000000 ∧ g.Prods.length ≤ 1000000
instance (g : Gram) : Decidable (GrI g) := by unfold GrI; infer_instance

/-- A grammar's five lists, one's own, read. -/
theorem ent_five {U : List Asn} {g : Gram} {a0 a1 a2 a3 a4 : Option Addr} {d0 d1 d2 d3 d4 : Nat} {acs : List (Option Addr × Nat)} (hl : acs.length = g.Prods.length) (hg : GrI g) :
    Ent (osl 67 4 (.slice a4 g.Prods.length d4) g.Prods.length (prC acs g.Prods) :: (ownF g a0 a1 a2 a3 d0 d1 d2 d3 ++ (prL acs g.Prods ++ U)))
      (rdA (kslice 48 kPrd) [.slice a4 g.Prods.length d4] g.Prods :: rdA (kslice 16 kstr) [.slice a0 g.Terms.length d0] g.Terms :: rdA (kslice 16 kLev) [.slice a1 g.Levels.length d1] g.Levels ::
        rdA (kslice 24 kPt) [.slice a2 g.Pats.length d2] g.Pats :: rdA (kslice 16 kstr) [.slice a3 g.Nons.length d3] g.Nons :: U) := by
  obtain ⟨h1, h2, h3, b0, b1, b2, b3, b4⟩ := hg
  have hT : ∀ {W : List Asn} (a : Option Addr) (d : Nat) (l : List ByteArray), l.length ≤ 1000000 → Ent (osl 9 1 (.slice a l.length d) l.length (l.flatMap fun x => [.string x]) :: W) (rdA (kslice 16 kstr) [.slice a l.length d] l :: W) :=
    fun a d l hl => ent_flat (kd := kstr) (fun x => [.string x]) (fun _ _ _ _ => rfl) rfl (by omega)
  have hL : ∀ {W : List Asn}, Ent (osl 65 2 (.slice a1 g.Levels.length d1) g.Levels.length (g.Levels.flatMap encL) :: W) (rdA (kslice 16 kLev) [.slice a1 g.Levels.length d1] g.Levels :: W) :=
    fun {W} => ent_flat (kd := kLev) encL (fun _ _ x hx => ⟨[_], [_], rfl, ⟨rfl, (h2 x hx).1⟩, ⟨rfl, (h2 x hx).2⟩⟩) rfl (by omega)
  have hP : ∀ {W : List Asn}, Ent (osl 146 2 (.slice a2 g.Pats.length d2) g.Pats.length (g.Pats.flatMap encP) :: W) (rdA (kslice 24 kPt) [.slice a2 g.Pats.length d2] g.Pats :: W) :=
    fun {W} => ent_flat (kd := kPt) encP (fun _ _ x hx => ⟨[_], [_], rfl, ⟨rfl, h3 x hx⟩, rfl⟩) rfl (by omega)
  have hrot : Ent (osl 67 4 (.slice a4 g.Prods.length d4) g.Prods.length (prC acs g.Prods) :: (ownF g a0 a1 a2 a3 d0 d1 d2 d3 ++ (prL acs g.Prods ++ U)))
      (osl 67 4 (.slice a4 g.Prods.length d4) g.Prods.length (prC acs g.Prods) :: (prL acs g.Prods ++ (ownF g a0 a1 a2 a3 d0 d1 d2 d3 ++ U))) := Ent.cons Ent.comm3
  refine hrot.trans ((ent_prods hl rfl b4 h1).trans (Ent.cons ?_))
  exact (hT a0 d0 g.Terms b0).trans (Ent.cons (hL.trans (Ent.cons (hP.trans (Ent.cons (hT a3 d3 g.Nons b3))))))

theorem ent_gram {U : List Asn} {g : Gram} {a0 a1 a2 a3 a4 : Option Addr} {d0 d1 d2 d3 d4 : Nat} {acs : List (Option Addr × Nat)} (hl : acs.length = g.Prods.length) (hg : GrI g) :
    Ent (osl 67 4 (.slice a4 g.Prods.length d4) g.Prods.length (prC acs g.Prods) :: (ownF g a0 a1 a2 a3 d0 d1 d2 d3 ++ (prL acs g.Prods ++ U)))
      (rdA kGram [.slice a0 g.Terms.length d0, .slice a1 g.Levels.length d1, .slice a2 g.Pats.length d2, .slice a3 g.Nons.length d3, .slice a4 g.Prods.length d4] g :: U) := (ent_five hl hg).trans ent_comb

theorem Ent.can {e : E.Env} {α : Type} {k : Kd α} {cs : List Value} {x : α} {U W : List Asn} (h : Ent U (rdA k cs x :: W)) : E.Can e U (k.rd cs x) :=
  E.Can.of fun w S hs => by
    obtain ⟨S1, h1, hsub⟩ := Tak.mem (Tak.z (U := W)) (h w S hs)
    exact k.mono hsub h1

def sBt : ByteArray := ⟨#[66]⟩
def leastG : Gram := ⟨[s0], [⟨0, 0⟩], [], [s0, nS], [⟨0, [2], ⟨0, 0⟩⟩, ⟨1, [], ⟨0, 0⟩⟩]⟩
def badG : Nat → Gram
  | 0 => { chap with Levels := chap.Levels.take 2 }
  | 1 => { chap with Prods := chap.Prods.set 0 ⟨0, [1], ⟨0, 0⟩⟩ }
  | 2 => { chap with Prods := chap.Prods.set 0 ⟨0, [4, 4], ⟨0, 0⟩⟩ }
  | 3 => { chap with Prods := chap.Prods.set 1 ⟨0, [5, 2], ⟨0, 0⟩⟩ }
  | 4 => { chap with Prods := chap.Prods.set 1 ⟨3, [5, 2], ⟨0, 0⟩⟩ }
  | 5 => { chap with Prods := chap.Prods.set 1 ⟨1, [0, 2], ⟨0, 0⟩⟩ }
  | 6 => { chap with Prods := chap.Prods.set 1 ⟨1, [3, 2], ⟨0, 0⟩⟩ }
  | 7 => { chap with Prods := chap.Prods.set 1 ⟨1, [6, 2], ⟨0, 0⟩⟩ }
  | 8 => { chap with Prods := chap.Prods.take 3 }
  | 9 => { chap with Levels := chap.Levels.set 1 ⟨1, 0⟩ }
  | 10 => { chap with Levels := chap.Levels.set 1 ⟨129, 1⟩ }
  | 11 => { chap with Prods := chap.Prods.set 2 ⟨1, [4, 1], ⟨1, 4⟩⟩ }
  | 12 => { chap with Nons := chap.Nons ++ [sBt] }
  | 13 => { chap with Prods := chap.Prods.set 0 ⟨1, [4], ⟨0, 0⟩⟩ }
  | 14 => ⟨[], [], [], [], []⟩
  | _ => ⟨[s0], [⟨0, 0⟩], [], [s0], [⟨0, [1], ⟨0, 0⟩⟩]⟩
def bad (i : Nat) : List Gram := (List.range i).map badG
theorem bad_succ (i : Nat) : bad (i + 1) = bad i ++ [badG i] := by unfold bad; rw [List.range_succ, List.map_append]; rfl
theorem bad_len (i : Nat) : (bad i).length = i := by simp [bad]
theorem bad_all : (bad 16).all (fun g => checkE g == 2) = true := by decide +kernel
theorem bad_i (i : Nat) (h : i < 14) : GrI (badG i) := by
  match i, h with
  | 0, _ => decide +kernel
  | 1, _ => decide +kernel
  | 2, _ => decide +kernel
  | 3, _ => decide +kernel
  | 4, _ => decide +kernel
  | 5, _ => decide +kernel
  | 6, _ => decide +kernel
  | 7, _ => decide +kernel
  | 8, _ => decide +kernel
  | 9, _ => decide +kernel
  | 10, _ => decide +kernel
  | 11, _ => decide +kernel
  | 12, _ => decide +kernel
  | 13, _ => decide +kernel
theorem least_ok : checkE leastG = 0 := by decide +kernel
theorem least_i : GrI leastG := by decide +kernel
theorem chap_i : GrI chap := by decide +kernel
def longG : Gram := { chap with Prods := chap.Prods.set 1 ⟨1, List.replicate 13 0, ⟨0, 0⟩⟩ }
theorem long_i : GrI longG := by decide +kernel
theorem long_5 : checkE longG = 5 := by decide +kernel
def manyT : Gram := ⟨List.replicate 49 s0, [], [], [], []⟩
def manyN : Gram := ⟨[], [], [], List.replicate 49 s0, []⟩
def manyP : Gram := ⟨[], [], [], [], List.replicate 129 ⟨0, [], ⟨0, 0⟩⟩⟩
theorem manyT_5 : checkE manyT = 5 := by decide +kernel
theorem manyN_5 : checkE manyN = 5 := by decide +kernel
theorem manyP_5 : checkE manyP = 5 := by decide +kernel
theorem of_6 : ofE chap [6] = 9 := by decide +kernel
theorem of_m : ofE chap [-1] = 9 := by decide +kernel
theorem of_1001 : ofE chap (List.replicate 1001 0) = 5 := by decide +kernel
theorem of_none : ofE ⟨[], [], [], [], []⟩ [-1] = 2 := by decide +kernel
theorem of_04 : ofE chap [0, 4] = 0 := by decide +kernel
theorem of_04r : rowT 3 (bFix chap) [0, 4] = ([true, false, false], false) := by decide +kernel
theorem of_04l : lets [true, false, false] 3 = ⟨#[95]⟩ := by decide +kernel

/-! ### entailments for grammars that are written out -/
theorem ent_nilG {U : List Asn} : Ent U (rdA kGram [.slice none 0 0, .slice none 0 0, .slice none 0 0, .slice none 0 0, .slice none 0 0] ⟨[], [], [], [], []⟩ :: U) :=
  (Ent.osl0 (e := 67) (sz := 4) (Ent.osl0 (e := 9) (sz := 1) (Ent.osl0 (e := 65) (sz := 2) (Ent.osl0 (e := 146) (sz := 2) (Ent.osl0 (e := 9) (sz := 1) (Ent.refl _)))))).trans
    (ent_gram (g := ⟨[], [], [], [], []⟩) (acs := []) (a0 := none) (a1 := none) (a2 := none) (a3 := none) (a4 := none) (d0 := 0) (d1 := 0) (d2 := 0) (d3 := 0) (d4 := 0) rfl (by decide +kernel))

theorem least_ent {l0 l1 l2 l3 l6 : Nat} {U : List Asn} : Ent (strs l0 [s0] :: osl 65 2 (sl l1 1) 1 [.int .i64 0, .int .i64 0] :: strs l2 [s0, nS] :: ints l3 [2] ::
    osl 67 4 (sl l6 2) 2 [.int .i64 0, sl l3 1, .int .i64 0, .int .i64 0, .int .i64 1, .slice none 0 0, .int .i64 0, .int .i64 0] :: U) (rdA kGram [sl l0 1, sl l1 1, .slice none 0 0, sl l2 2, sl l6 2] leastG :: U) := by
  refine Ent.trans ?_ (ent_gram (g := leastG) (acs := [(some ⟨l3, 0, none⟩, 1), (none, 0)]) (a0 := some ⟨l0, 0, none⟩) (a1 := some ⟨l1, 0, none⟩) (a2 := none) (a3 := some ⟨l2, 0, none⟩) (a4 := some ⟨l6, 0, none⟩) (d0 := 1) (d1 := 1) (d2 := 0) (d3 := 2) (d4 := 2) rfl least_i)
  exact Ent.tak (.s (.s (.s (.s .z)))) (Ent.tak .z (Ent.tak .z (Ent.osl0 (Ent.tak .z (Ent.tak .z (Ent.osl0 (Ent.refl _)))))))

theorem bad15_ent {l2 l3 l4 l5 l7 : Nat} {U : List Asn} : Ent (strs l2 [s0] :: osl 65 2 (sl l3 1) 1 [.int .i64 0, .int .i64 0] :: strs l4 [s0] :: ints l5 [1] ::
    osl 67 4 (sl l7 1) 1 [.int .i64 0, sl l5 1, .int .i64 0, .int .i64 0] :: U) (rdA kGram [sl l2 1, sl l3 1, .slice none 0 0, sl l4 1, sl l7 1] (badG 15) :: U) := by
  refine Ent.trans ?_ (ent_gram (g := badG 15) (acs := [(some ⟨l5, 0, none⟩, 1)]) (a0 := some ⟨l2, 0, none⟩) (a1 := some ⟨l3, 0, none⟩) (a2 := none) (a3 := some ⟨l4, 0, none⟩) (a4 := some ⟨l7, 0, none⟩) (d0 := 1) (d1 := 1) (d2 := 0) (d3 := 1) (d4 := 1) rfl (by decide +kernel))
  exact Ent.tak (.s (.s (.s (.s .z)))) (Ent.tak .z (Ent.tak .z (Ent.osl0 (Ent.tak .z (Ent.tak .z (Ent.refl _))))))

theorem ent_strs {b n : Nat} {l : List ByteArray} {U : List Asn} (hn : n = l.length) (hl : n ≤ 1000000) : Ent (osl 9 1 (.slice (some ⟨b, 0, none⟩) n n) n (l.map Value.string) :: U) (rdA (kslice 16 kstr) [.slice (some ⟨b, 0, none⟩) n n] l :: U) := by
  have := ent_flat (U := U) (kd := kstr) (bytes := 16) (n := n) (c := n) (e := 9) (A := some ⟨b, 0, none⟩) (xs := l) (fun x => [.string x]) (fun _ _ _ _ => rfl) hn (by omega)
  rw [List.flatMap_def, flat_one] at this
  exact this

theorem ent_manyT {b : Nat} {U : List Asn} : Ent (osl 9 1 (.slice (some ⟨b, 0, none⟩) 49 49) 49 (List.replicate 49 (.string s0)) :: U) (rdA kGram [.slice (some ⟨b, 0, none⟩) 49 49, .slice none 0 0, .slice none 0 0, .slice none 0 0, .slice none 0 0] manyT :: U) := by
  have h := ent_strs (b := b) (n := 49) (l := List.replicate 49 s0) (U := U) (by simp) (by decide)
  rw [List.map_replicate] at h
  refine h.trans (Ent.trans ?_ ent_comb)
  exact Ent.trans (Ent.cons ((ent_nilS (k := kLev)).trans (Ent.cons ((ent_nilS (k := kPt)).trans (Ent.cons (ent_nilS (k := kstr))))))) ((ent_nilS (k := kPrd)).trans (Ent.refl _))

theorem ent_manyN {b : Nat} {U : List Asn} : Ent (osl 9 1 (.slice (some ⟨b, 0, none⟩) 49 49) 49 (List.replicate 49 (.string s0)) :: U) (rdA kGram [.slice none 0 0, .slice none 0 0, .slice none 0 0, .slice (some ⟨b, 0, none⟩) 49 49, .slice none 0 0] manyN :: U) := by
  have h := ent_strs (b := b) (n := 49) (l := List.replicate 49 s0) (U := U) (by simp) (by decide)
  rw [List.map_replicate] at h
  refine h.trans (Ent.trans ?_ ent_comb)
  exact (ent_nilS (k := kPt)).trans ((ent_nilS (k := kLev)).trans ((ent_nilS (k := kstr)).trans (ent_nilS (k := kPrd))))

theorem prL_nils (U : List Asn) : ∀ n, Ent U (prL (List.replicate n (none, 0)) (List.replicate n ⟨0, [], ⟨0, 0⟩⟩) ++ U)
  | 0 => Ent.refl _
  | n + 1 => (prL_nils U n).trans (Ent.osl0 (Ent.refl _))

theorem ent_manyP {b : Nat} {U : List Asn} : Ent (osl 67 4 (.slice (some ⟨b, 0, none⟩) 129 129) 129 (prC (List.replicate 129 (none, 0)) (List.replicate 129 ⟨0, [], ⟨0, 0⟩⟩)) :: U) (rdA kGram [.slice none 0 0, .slice none 0 0, .slice none 0 0, .slice none 0 0, .slice (some ⟨b, 0, none⟩) 129 129] manyP :: U) := by
  refine Ent.trans ?_ ent_comb
  refine Ent.trans (Ent.cons (prL_nils U 129)) ((ent_prods (by simp) (by simp) (by decide) (fun p hp => by
    rw [List.mem_replicate] at hp
    rw [hp.2]; decide)).trans ?_)
  exact Ent.cons ((ent_nilS (k := kstr)).trans ((ent_nilS (k := kPt)).trans ((ent_nilS (k := kLev)).trans (ent_nilS (k := kstr)))))

end Go.Proofs.Ytbfjnldneemmiaa
