/-
  The engine, twenty-first part: bytes; l[:q], q computed.
-/
import Derived.Test.YtbfjnldneemmiabE20
namespace Go.Proofs.Ytbfjnldneemmiab.E
set_option linter.all false
variable {E : Env} {fr : Frm} {U V : List Asn} {N : Frm → List Asn → Prop}

/-- A byte. -/
def kbyte : Kd Nat where
  sz := 1
  R := fun _ _ cs x => cs = [.int .u8 (x : Nat)] ∧ x < 256
  len := by rintro w S cs x ⟨rfl, _⟩; rfl
  fr := fun _ h => h
  mono := fun _ h => h

theorem op_byte {P : Program} {t : TypeId} (ht : P.underlying t = some (.int .u8)) : Opn P t kbyte := by
  intro H enc w fuel cs x h _
  obtain ⟨n, rfl, _, hw⟩ := DataW.trod_int ht h
  simp only [Lit.wf, Bool.and_eq_true, decide_eq_true_eq] at hw
  have h1 : 0 ≤ n := hw.1
  have h2 : n ≤ 255 := hw.2
  refine ⟨n.toNat, ?_, by omega⟩
  rw [Int.toNat_of_nonneg h1]

/-- l[:q] -/
theorem n_headV {t e : TypeId} {x y : Operand} {s1 b1 : Nat} {z1 : List Value} {i : TI} {A : Option Addr} {n c : Nat} {kk : IntKind} (q : Nat) {q' : Int}
    (ht : tl E.T t = some ⟨.slice e, s1, b1, z1⟩) (he : tl E.T e = some i) (hx : val fr x = some (.slice A n c)) (hy : val fr y = some (.int kk q')) (hq' : q' = (q : Int)) (hq : q ≤ c) :
    NEV E (.slice t x none (some y) none) fr U (.slice A q c) := by
  intro a w dst ty pos af g hf hm
  have h := n_head (E := E) (fr := fr) (U := U) (x := x) (kk := kk) q ht he hx hq' hq a w dst ty pos af g hf hm
  have hev : a.eval y = a.eval (.const (.int kk q')) := hf.eval hy
  unfold execOp at h ⊢
  simp only [Option.map] at h ⊢
  rw [hev]; exact h

end Go.Proofs.Ytbfjnldneemmiab.E
