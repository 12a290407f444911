/-
  What the model reads as an array of two numbers is one.
-/
import Derived.Test.YtjeimmekhfhepaaErBase3
import Derived.Test.YtjeimmekhfhepaaErBase2

namespace Go.Proofs.Ytjeimmekhfhepaa
set_option linter.all false
open Go.Proofs.Ytjeimmekhfhepaa.E

theorem op_arr2 {P : Program} {t e : TypeId} (ht : P.underlying t = some (.array 2 e)) (he : P.underlying e = some (.int .i64)) (hc : P.cellsOf e = 1) (hn : P.cellsOf t = 2) : Opn P t (kpair kint kint) := by
  intro H enc w fuel cs x h _
  obtain ⟨xs, m, _, _, hl, hxl, hf⟩ := DataW.trod_array ht h
  rw [hn] at hl
  have each : ∀ i, i < 2 → ∃ v : Int, cs[i]? = some (.int .i64 v) ∧ I64 v := by
    intro i hi
    have h1 := hf i hi
    rw [hc, Nat.mul_one] at h1
    have h2 : (cs.drop i).take 1 = [cs[i]'(by omega)] := by
      rw [List.drop_eq_getElem_cons (by omega)]; rfl
    rw [h2] at h1
    cases hx : xs[i]? with
    | none =>
      rw [List.getElem?_eq_none_iff] at hx
      omega
    | some y =>
      rw [hx] at h1
      obtain ⟨v, hv, _, hw⟩ := DataW.trod_int he h1
      simp only [List.cons.injEq, and_true] at hv
      refine ⟨v, by rw [List.getElem?_eq_getElem (by omega), hv], ?_⟩
      simp only [Lit.wf, Bool.and_eq_true, decide_eq_true_eq] at hw
      exact hw
  obtain ⟨a, ha, ia⟩ := each 0 (by decide)
  obtain ⟨b, hb, ib⟩ := each 1 (by decide)
  refine ⟨(a, b), [.int .i64 a], [.int .i64 b], ?_, ⟨rfl, ia⟩, ⟨rfl, ib⟩⟩
  apply List.ext_getElem?
  intro i
  rcases i with _ | _ | i
  · exact ha
  · exact hb
  · rw [List.getElem?_eq_none (by omega), List.getElem?_eq_none (by simp)]
theorem op_39 : Opn Try.prog 39 (kpair kint kint) := op_arr2 Try.underlying39 Try.underlying3 (by kernel_rfl) (by kernel_rfl)

end Go.Proofs.Ytjeimmekhfhepaa
