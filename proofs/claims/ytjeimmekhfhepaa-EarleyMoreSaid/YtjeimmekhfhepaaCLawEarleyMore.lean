/-
  EarleyMore: with one more production what was derived, and viable, still is, in as many ways at least.
-/
import Derived.Test.YtjeimmekhfhepaaCEL5
import Derived.Test.YtjeimmekhfhepaaErBase3
import Derived.Test.YtjeimmekhfhepaaCEOp

namespace Go.Proofs.Ytjeimmekhfhepaa.EarleyMoreLaw
set_option linter.all false
open Go.ChangeShapes Go.WideShapes Go.ChangeAt Go.RowKit
open Go.Proofs.Ytjeimmekhfhepaa.E

set_option maxRecDepth 100000 in
theorem lifted (os : Os) (started : os.Started) (H : Type) (enc : TypeId × Value → H) :
    ReturnsInHanded {} Try.checked os 4 .any (Rows.earleyMoreSpec.pre6 enc Try.prog Try.f4 Rows.earleyMoreRow.domain false) (Rows.earleyMoreSpec.post enc Try.prog Try.f4 false true false false) := by
  refine returnsInHanded_of_change_sized (C := Try.checked) Try.own started (by kernel_rfl) Try.func4
    (ChangeSpec.witness6 (enc := enc) (C := Try.checked) false ⟨#[], #[.agg #[.slice none 0 0, .slice none 0 0, .slice none 0 0, .slice none 0 0, .slice none 0 0], .agg #[.int .i64 0, .int .i64 0], .slice none 0 0], []⟩ 8 (by kernel_rfl) (by kernel_rfl) (by kernel_rfl) (by kernel_rfl)) ?_
  intro W base args ds gs before hval0 hW hcnd hsz0 _
  have hsz : (DataW.weightsEach Try.prog (Try.f4.params.toList ++ Rows.earleyMoreSpec.plain.varTypes Try.prog) (ds ++ gs)).all (· ≤ reachBytes) = true := hsz0
  have hval : ∀ (j : Nat) t v, Try.f4.params[j]? = some t → args[j]? = some v → Value.okWide Try.prog W .any base t v := hval0
  have hW' := hW
  obtain ⟨p, q, hA0, hV, rfl, hfz, hnd⟩ := hW
  have hA : DataW.TrodAll enc Try.prog W 0 (fun _ => true) true Try.f4.params.toList args.toList ds p := hA0
  rw [Try.params4] at hA hval hsz
  obtain ⟨v0, vs0, d0, ds0, p0, q0, hargs, rfl, rfl, h0, r0⟩ := trodAll_cons hA
  obtain ⟨v1, vs1, d1, ds1, p1, q1, rfl, rfl, rfl, h1, r1⟩ := trodAll_cons r0
  obtain ⟨v2, vs2, d2, ds2, p2, q2, rfl, rfl, rfl, h2, r2⟩ := trodAll_cons r1
  obtain ⟨rfl, rfl, rfl⟩ := trodAll_nil r2
  obtain rfl : args = #[v0, v1, v2] := by cases args; simp_all
  obtain ⟨rfl, rfl⟩ := trodVars_none hV
  obtain ⟨c0, rfl, _, _⟩ : ∃ cs, v0 = .agg cs ∧ cs.size = Try.prog.cellsOf 27 ∧ Row.okWide Try.prog W .any base 27 cs := by
    have h := hval 0 27 v0 rfl rfl
    unfold Value.okWide at h
    rw [Try.underlying27] at h
    exact h
  have k0 := h0
  have lt0 : ∀ x ∈ p0, x.block < W.heap.size := by obtain ⟨m, hm⟩ := k0; exact DataW.trod_lt m _ _ _ hm
  obtain ⟨x0, hx0⟩ : ∃ x, (kGram).R W (fun b => b < W.heap.size) c0.toList x := by
    obtain ⟨fuel, hf⟩ := h0
    exact op_arg (j := 0) op44 hf hsz rfl rfl
  obtain ⟨c1, rfl, _, _⟩ : ∃ cs, v1 = .agg cs ∧ cs.size = Try.prog.cellsOf 39 ∧ Row.okWide Try.prog W .any base 39 cs := by
    have h := hval 1 39 v1 rfl rfl
    unfold Value.okWide at h
    rw [Try.underlying39] at h
    exact h
  have k1 := h1
  have lt1 : ∀ x ∈ p1, x.block < W.heap.size := by obtain ⟨m, hm⟩ := k1; exact DataW.trod_lt m _ _ _ hm
  obtain ⟨x1, hx1⟩ : ∃ x, (kpair kint kint).R W (fun b => b < W.heap.size) c1.toList x := by
    obtain ⟨fuel, hf⟩ := h1
    exact op_arg (j := 1) op_39 hf hsz rfl rfl
  obtain ⟨a1, b1⟩ := x1
  obtain ⟨e1a, e1b, e1, ⟨f1a, i1a⟩, ⟨f1b, i1b⟩⟩ := hx1
  subst f1a f1b
  obtain rfl : c1 = #[.int .i64 a1, .int .i64 b1] := by cases c1; simpa using e1
  obtain ⟨a2, len2, cap2, rfl⟩ := okWide_slice Try.underlying28 (hval 2 28 v2 rfl rfl)
  have k2 := h2
  have lt2 : ∀ x ∈ p2, x.block < W.heap.size := by obtain ⟨m, hm⟩ := k2; exact DataW.trod_lt m _ _ _ hm
  obtain ⟨x2, hx2⟩ : ∃ x, (kslice 8 kint).R W (fun b => b < W.heap.size) [.slice a2 len2 cap2] x := by
    obtain ⟨fuel, hf⟩ := h2
    exact op_arg (j := 2) op24 hf hsz rfl rfl
  have hm2 : len2 = x2.length := by
    obtain ⟨_, _, e, _⟩ := hx2
    simp only [List.cons.injEq, Value.slice.injEq, and_true] at e
    exact e.2.1
  refine ((more24_w c0.toList x0 a1 b1 i1a i1b a2 len2 cap2 x2 hm2).law W ⟨hx0, hx2⟩).mono fun e W' ⟨he, bel⟩ => ?_
  subst he
  exact ⟨_, rfl, _, _, _, [], _, [], hW', trodAll_mk1 (shut_bool Try.underlying4 _), (trodAll_cons_mk (Below.trod Try.laidOut (by kernel_rfl) (of_decide_eq_true (by kernel_rfl)) k0 bel lt0) (trodAll_cons_mk (Below.trod Try.laidOut (by kernel_rfl) (of_decide_eq_true (by kernel_rfl)) k1 bel lt1) (trodAll_cons_mk (Below.trod Try.laidOut (by kernel_rfl) (of_decide_eq_true (by kernel_rfl)) k2 bel lt2) trodAll_mk0))), rfl, bel.frame _, fun h => by cases h⟩

theorem over : Rows.earleyMoreRow.holds Try.pinned (OpenSpec.ofChange Rows.earleyMoreSpec) :=
  OpenClaim.holds_of_wide 4 Try.f4 rfl rfl rfl rfl rfl rfl rfl ⟨rfl, rfl, rfl, rfl, rfl⟩ rfl rfl rfl rfl rfl (by kernel_rfl) Try.func4 (by kernel_rfl)
    (of_decide_eq_true (by kernel_rfl)) (by unfold Func.isWrapper; first | (rw [if_pos (by decide +kernel)]; kernel_rfl) | (rw [if_neg (by decide +kernel)]; exact ⟨rfl, rfl⟩))
    (fun os started H enc _ => lifted os started H enc)

end Go.Proofs.Ytjeimmekhfhepaa.EarleyMoreLaw

namespace Go.Proofs.Ytjeimmekhfhepaa
theorem earleyMore_holds : Rows.EarleyMoreSaid := EarleyMoreLaw.over
end Go.Proofs.Ytjeimmekhfhepaa
