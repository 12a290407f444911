/-
  The statement ActionOrder, walked.
-/
import Derived.Test.YtcnpjhaedjncdaaDoorCQT1
import Derived.Test.YtcnpjhaedjncdaaDoorAcBase5
import Derived.Test.YtcnpjhaedjncdaaDoorCQBr

namespace Go.Proofs.YtcnpjhaedjncdaaDoor
set_option linter.all false
open Go.Proofs.YtcnpjhaedjncdaaDoor.E

theorem gSl_ren {g : Gram} {b : Nat} {a0 a1 a2 a3 a4 : Option Addr} {d0 d1 d2 d3 d4 : Nat} : gSl (renG g b) a0 a1 a2 a3 a4 d0 d1 d2 d3 d4 = gSl g a0 a1 a2 a3 a4 d0 d1 d2 d3 d4 := by
  unfold gSl
  rw [show (renG g b).Prods.length = g.Prods.length from renT_len _ _ _ _]; rfl
theorem renT_mem {ps : List Prd} {b n : Nat} (hn : ps.length = n + 1) : ∀ (i : Nat), i ≤ n → ∀ p ∈ renT ps b n i, p ∈ ps
  | 0, _, p, h => h
  | i + 1, hi, p, h => by
    unfold renT at h
    rcases List.mem_or_eq_of_mem_set h with h | h
    · exact renT_mem hn i (by omega) p h
    · rw [h, List.getD_eq_getElem?_getD, List.getElem?_eq_getElem (by omega)]
      exact List.getElem_mem _
theorem renG_num {g : Gram} (h : GrN g) {b : Nat} (h2 : 2 ≤ g.Prods.length) : GrN (renG g b) :=
  ⟨fun p hp => h.p p (renT_mem (by omega) _ (Nat.le_refl _) p hp), h.l, h.t, h.nT, h.nL, h.nP, h.nN, by rw [show (renG g b).Prods.length = g.Prods.length from renT_len _ _ _ _]; exact h.nR⟩
/-- Two grammars that differ in the order of productions have parsers of one size. -/
theorem order_p {g h : Gram} {σ τ : Nat → Nat} (H : Sim g h σ τ) (hl : h.Levels = g.Levels) (hp : ∀ k : Nat, k < g.Prods.length → (prd h (σ k)).L = (prd g k).L) :
    actE h = actE g ∧ pDec h = pDec g ∧ (pCla h).length = (pCla g).length ∧ (pAct h).length = (pAct g).length := by
  obtain ⟨hE, h2⟩ := order_all H hl hp
  have hr := H.ere
  by_cases h0 : lrE g = 0
  · obtain ⟨e1, e2, e3⟩ := h2 h0
    unfold pDec pCla pAct
    rw [hE, hr, e1, e2]
    refine ⟨rfl, rfl, rfl, ?_⟩
    split
    · rw [actA_len, actA_len, e3]
    · rfl
  · have hg : actE g ≠ 0 := by unfold actE; rw [if_pos h0]; exact h0
    unfold pDec pCla pAct
    rw [hE, hr, if_neg hg, if_neg h0, if_neg hg, if_neg hg, if_neg h0, if_neg hg]
    exact ⟨rfl, rfl, rfl, rfl⟩

attribute [local irreducible] EVX EVO EVL EV1 NEV
attribute [local irreducible] own osl exA rdA rdL
attribute [local irreducible] bldA mapA bun mapS
set_option maxRecDepth 10000
set_option maxHeartbeats 4000000

theorem actionOrder_w (cs : List Value) (g : Gram) (by_ : Int) (hby : I64 by_) : Trip Tryd.prog 4 [.agg cs.toArray, .int .i64 by_] (kGram.rd cs g) [] (fun v V => v = .bool true ∧ V = []) := by
  refine trip Tryd.tabOk Tryd.func4 rfl rfl rfl rfl ?_
  rintro w SM hG0
  obtain ⟨A0, A1, A2, A3, A4, c0, c1, c2, c3, c4, rfl, hG⟩ := kGram_open hG0
  repeat' (first | refine e_nil ?_ | ((refine e_op ?_); (first | refine o_n (peval_sound rfl) rfl ?_ | refine o_box rfl rfl (fun _ => ?_))) | refine s_seq ?_ | refine s_region ?_)
  rename_i bg
  refine e_op (o_call works21_w rfl .nil Can.tt rfl ?_)
  rintro v V ⟨rfl, rfl⟩
  simp only [List.nil_append]
  repeat' (first | refine e_nil ?_ | ((refine e_op ?_); (first | refine o_n (peval_sound rfl) rfl ?_ | refine o_n (nl rfl rfl tc rfl) rfl ?_)) | refine s_seq ?_ | refine s_region ?_ | refine s_skip ?_ | refine s_false rfl ?_)
  refine e_op (o_call (check_w _ g) rfl .nil (Can.ro hG0) rfl ?_)
  rintro v V ⟨rfl, rfl⟩
  simp only [List.nil_append]
  repeat' (((refine e_op ?_); (refine o_n (peval_sound rfl) rfl ?_)))
  by_cases he : checkE g ≠ 0
  · rw [show (checkE g != 0) = true by simpa using he]
    repeat' (first | refine e_nil ?_ | ((refine e_op ?_); (refine o_n (peval_sound rfl) rfl ?_)) | refine e_noU rfl rfl rfl ?_ | refine s_seq ?_ | refine s_region ?_ | refine s_true rfl ?_)
    refine s_ret ⟨_, _, res1 rfl rfl, ⟨rfl, rfl⟩, Ent.nil _⟩
  replace he : checkE g = 0 := Classical.not_not.1 he
  rw [show (checkE g != 0) = false by simpa using he]
  repeat' (((refine e_yes rfl ?_); (refine o_n (nl rfl rfl tc rfl) rfl ?_)))
  refine e_yes rfl (o_call (few21_w _ g) rfl .nil (Can.ro hG0) rfl ?_)
  rintro v V ⟨rfl, rfl⟩
  simp only [List.nil_append]
  repeat' (((first | refine e_op ?_ | refine e_yes rfl ?_); (refine o_n (peval_sound rfl) rfl ?_)))
  by_cases hfew : ¬ (g.Prods.length : Int) ≤ 30
  · rw [decide_eq_false hfew]
    repeat' (first | refine e_nil ?_ | ((refine e_op ?_); (refine o_n (peval_sound rfl) rfl ?_)) | refine e_noU rfl rfl rfl ?_ | refine s_seq ?_ | refine s_region ?_ | refine s_true rfl ?_)
    refine s_ret ⟨_, _, res1 rfl rfl, ⟨rfl, rfl⟩, Ent.nil _⟩
  replace hfew := Classical.not_not.1 hfew
  rw [decide_eq_true hfew]
  repeat' (first | refine e_nil ?_ | ((first | refine e_op ?_ | refine e_yes rfl ?_); (first | refine o_n (peval_sound rfl) rfl ?_ | refine o_n (nl rfl rfl tc rfl) rfl ?_)))
  by_cases hP2 : g.Prods.length < 2
  · rw [decide_eq_true (p := (g.Prods.length : Int) < 2) (by omega)]
    repeat' (first | refine e_nil ?_ | ((refine e_op ?_); (refine o_n (peval_sound rfl) rfl ?_)) | refine s_seq ?_ | refine s_region ?_ | refine s_true rfl ?_)
    refine s_ret ⟨_, _, res1 rfl rfl, ⟨rfl, rfl⟩, Ent.nil _⟩
  rw [decide_eq_false (p := (g.Prods.length : Int) < 2) (by omega)]
  replace hP2 : 2 ≤ g.Prods.length := by omega
  repeat' (first | ((refine e_op ?_); (refine o_n (nl rfl rfl tc rfl) rfl ?_)) | refine s_seq ?_ | refine s_region ?_ | refine s_skip ?_ | refine s_false rfl ?_)
  refine e_op (o_call (actOf_w _ g (fun _ => by omega)) rfl .nil (Can.ro hG0) rfl ?_)
  rintro v V ⟨x, AA, cA, acs, AG, cG, bcs, AC, cC, rfl, ⟨la, lg, rfl, rfl⟩⟩
  simp only [List.cons_append, List.nil_append]
  repeat' (first | refine e_nil ?_ | ((refine e_op ?_); (first | refine o_n (peval_sound rfl) rfl ?_ | refine o_storeC rfl rfl rfl rfl tc uc rfl rfl rfl ?_ | refine o_alloc rfl rfl (fun _ => ?_))) | refine s_seq ?_)
  rename_i b5
  obtain ⟨b, hbn⟩ : ∃ b : Nat, bringN by_ (g.Prods.length - 1 : Nat) = (b : Int) := ⟨(bringN by_ (g.Prods.length - 1 : Nat)).toNat, by have := bringN_rng (x := by_) (m := (g.Prods.length - 1 : Nat)) (by omega); omega⟩
  have hb : b < g.Prods.length - 1 := by have := bringN_rng (x := by_) (m := (g.Prods.length - 1 : Nat)) (by omega); omega
  have hRp : (renG g b).Prods.length = g.Prods.length := renT_len _ _ _ _
  have hRN := renG_num (gr_num hG he) (b := b) hP2
  have hwn : IntKind.i64.wrap ((g.Prods.length : Int) - 1) = ((g.Prods.length - 1 : Nat) : Int) := by rw [wrap_i64] <;> omega
  obtain ⟨hE, hD, hC, hA⟩ := order_p (renG_sim he hP2 hb) rfl (fun k hk => by rw [renG_prd hP2 hb hk])
  refine s_anyU Tryd.mixed ?_
  refine a_join (ι := Nat × Option Addr × Nat × Option Addr × Nat × Option Addr × Nat) (fun y => [(5, ptrN b5), (6, .int .i64 (actE g)), (7, ptrN y.1), (8, .int .i64 (actE (renG g b)))])
    (fun y => [blk y.1 36 [.slice y.2.1 (pAct (renG g b)).length y.2.2.1, .slice y.2.2.2.1 (pGot (renG g b)).length y.2.2.2.2.1, .slice y.2.2.2.2.2.1 (pCla (renG g b)).length y.2.2.2.2.2.2, .int .i64 (pDec (renG g b) : Nat)], blk b5 36 [.slice AA (pAct g).length cA, .slice AG (pGot g).length cG, .slice AC (pCla g).length cC, .int .i64 (pDec g : Nat)]]) ?_ (fun hfin => ?_)
  · rintro ⟨b7, AA2, cA2, AG2, cG2, AC2, cC2⟩
    simp only
    rw [hE, hD, hC, hA]
    repeat' (first | ((refine e_op ?_); (refine o_n (peval_sound rfl) rfl ?_)) | refine s_seq ?_ | refine s_region ?_)
    simp only [beq_self_eq_true]
    repeat' (((first | refine e_op ?_ | refine e_yes rfl ?_); (first | refine o_n (peval_sound rfl) rfl ?_ | refine o_n (nl rfl rfl tc rfl) rfl ?_)))
    simp only [beq_self_eq_true]
    repeat' (((first | refine e_op ?_ | refine e_yes rfl ?_); (first | refine o_n (peval_sound rfl) rfl ?_ | refine o_n (nl rfl rfl tc rfl) rfl ?_)))
    simp only [beq_self_eq_true]
    repeat' (first | refine e_nil ?_ | ((first | refine e_op ?_ | refine e_yes rfl ?_); (first | refine o_n (peval_sound rfl) rfl ?_ | refine o_n (nl rfl rfl tc rfl) rfl ?_)))
    simp only [beq_self_eq_true]
    skip
    refine s_ret ⟨_, _, res1 rfl rfl, ⟨rfl, rfl⟩, Ent.nil _⟩
  refine a_n 0 rfl (nl rfl rfl tc rfl) (by decide +kernel) (by (exact Ent.refl _)) rfl ?_
  refine a_n 1 rfl (peval_sound rfl) (by decide +kernel) (by (exact Ent.refl _)) rfl ?_
  refine a_n 2 rfl (peval_sound rfl) (by decide +kernel) (by (exact Ent.refl _)) rfl ?_
  refine a_n 3 rfl (nl rfl rfl tc rfl) (by decide +kernel) (by (exact Ent.refl _)) rfl ?_
  refine a_n 4 rfl (peval_sound rfl) (by decide +kernel) (by (exact Ent.refl _)) rfl ?_
  refine a_n 5 rfl (peval_sound rfl) (by decide +kernel) (by (exact Ent.refl _)) rfl ?_
  rw [hwn]
  refine a_2 6 12 (by decide +kernel) rfl rfl rfl rfl (o_call (bring_w by_ (g.Prods.length - 1 : Nat) hby (by unfold I64; omega) (by omega)) rfl .nil Can.tt rfl ?_) (o_alloc rfl rfl (fun b7 => ⟨(by (repeat' (first | exact Ent.refl _ | refine Ent.wk ?_))), ?_⟩))
  · rintro v V ⟨rfl, rfl⟩
    rw [hbn]
    refine ⟨(by (exact Ent.refl _)), ?_⟩
    simp only [List.nil_append]
    refine a_2 7 12 (by decide +kernel) rfl rfl rfl rfl (o_call (renamed_w _ g b hP2 hb (by omega)) rfl .nil (Can.ro hG0) rfl ?_) (o_alloc rfl rfl (fun b7 => ⟨(by (repeat' (first | exact Ent.refl _ | refine Ent.wk ?_))), ?_⟩))
    · rintro v V ⟨h0, h1, h2', h3, b4, d0, d1, d2, d3, d4, acs, hql, rfl, rfl⟩
      refine ⟨Ent.trans ent_dropL (by (exact Ent.refl _)), ?_⟩
      unfold ownG
      simp only [List.cons_append, List.nil_append]
      refine a_2 8 12 (by decide +kernel) rfl rfl rfl rfl (o_call (actOf_w (gSl g h0 h1 h2' h3 (some ⟨b4, 0, none⟩) d0 d1 d2 d3 d4) (renG g b) (fun _ => by rw [hRp]; omega)) rfl .nil (by rw [← gSl_ren (b := b)]; exact can_ownG (W := []) (acs := acs) (by rw [hRp]; exact hql) hRN (by rw [List.append_nil]; unfold ownG; repeat' (first | exact Ent.nil _ | refine Ent.tak tk ?_))) rfl ?_) (o_alloc rfl rfl (fun b7 => ⟨(by (repeat' (first | exact Ent.refl _ | refine Ent.wk ?_))), ?_⟩))
      · rintro v V ⟨x2, AA2, cA2, acs2, AG2, cG2, bcs2, AC2, cC2, rfl, ⟨la2, lg2, rfl, rfl⟩⟩
        refine ⟨(by (repeat' (first | exact Ent.refl _ | refine Ent.wk ?_))), ?_⟩
        simp only [List.cons_append, List.nil_append]
        refine a_n 9 rfl (peval_sound rfl) (by decide +kernel) (by (repeat' (first | exact Ent.refl _ | refine Ent.wk ?_))) rfl ?_
        refine a_n 10 rfl (peval_sound rfl) (by decide +kernel) (by (repeat' (first | exact Ent.refl _ | refine Ent.wk ?_))) rfl ?_
        refine a_n 11 rfl (peval_sound rfl) (by decide +kernel) (by (repeat' (first | exact Ent.refl _ | refine Ent.wk ?_))) rfl ?_
        refine a_1 12 (by decide +kernel) rfl rfl (o_alloc rfl rfl (fun b7 => ⟨(by (repeat' (first | exact Ent.refl _ | refine Ent.wk ?_))), ?_⟩))
        refine a_1 13 (by decide +kernel) rfl rfl (o_storeC rfl rfl rfl rfl tc uc rfl rfl rfl ⟨(by (repeat' (first | exact Ent.refl _ | refine Ent.wk ?_))), ?_⟩)
        refine a_n 14 rfl (peval_sound rfl) (by decide +kernel) (by (repeat' (first | exact Ent.refl _ | refine Ent.wk ?_))) rfl ?_
        refine a_done (by decide +kernel) ?_
        refine s_weak ?_ ?_ (hfin (b7, AA2, cA2, AG2, cG2, AC2, cC2))
        · repeat' (first | exact Sub.nil _ | refine Sub.cons rfl ?_)
        · repeat' (first | exact Ent.nil _ | refine Ent.blkC tc rfl ?_)
      · refine a_1 8 (by decide +kernel) rfl rfl (o_call (actOf_w (gSl g h0 h1 h2' h3 (some ⟨b4, 0, none⟩) d0 d1 d2 d3 d4) (renG g b) (fun _ => by rw [hRp]; omega)) rfl .nil (by rw [← gSl_ren (b := b)]; exact can_ownG (W := []) (acs := acs) (by rw [hRp]; exact hql) hRN (by rw [List.append_nil]; unfold ownG; repeat' (first | exact Ent.nil _ | refine Ent.tak tk ?_))) rfl ?_)
        rintro v V ⟨x2, AA2, cA2, acs2, AG2, cG2, bcs2, AC2, cC2, rfl, ⟨la2, lg2, rfl, rfl⟩⟩
        refine ⟨(by (repeat' (first | exact Ent.refl _ | refine Ent.wk ?_))), ?_⟩
        simp only [List.cons_append, List.nil_append]
        refine a_n 9 rfl (peval_sound rfl) (by decide +kernel) (by (repeat' (first | exact Ent.refl _ | refine Ent.wk ?_))) rfl ?_
        refine a_n 10 rfl (peval_sound rfl) (by decide +kernel) (by (repeat' (first | exact Ent.refl _ | refine Ent.wk ?_))) rfl ?_
        refine a_n 11 rfl (peval_sound rfl) (by decide +kernel) (by (repeat' (first | exact Ent.refl _ | refine Ent.wk ?_))) rfl ?_
        refine a_1 13 (by decide +kernel) rfl rfl (o_storeC rfl rfl rfl rfl tc uc rfl rfl rfl ⟨(by (repeat' (first | exact Ent.refl _ | refine Ent.wk ?_))), ?_⟩)
        refine a_n 14 rfl (peval_sound rfl) (by decide +kernel) (by (repeat' (first | exact Ent.refl _ | refine Ent.wk ?_))) rfl ?_
        refine a_done (by decide +kernel) ?_
        refine s_weak ?_ ?_ (hfin (b7, AA2, cA2, AG2, cG2, AC2, cC2))
        · repeat' (first | exact Sub.nil _ | refine Sub.cons rfl ?_)
        · repeat' (first | exact Ent.nil _ | refine Ent.blkC tc rfl ?_)
    · refine a_1 7 (by decide +kernel) rfl rfl (o_call (renamed_w _ g b hP2 hb (by omega)) rfl .nil (Can.ro hG0) rfl ?_)
      rintro v V ⟨h0, h1, h2', h3, b4, d0, d1, d2, d3, d4, acs, hql, rfl, rfl⟩
      refine ⟨Ent.trans ent_dropL (by (repeat' (first | exact Ent.refl _ | refine Ent.wk ?_))), ?_⟩
      unfold ownG
      simp only [List.cons_append, List.nil_append]
      refine a_1 8 (by decide +kernel) rfl rfl (o_call (actOf_w (gSl g h0 h1 h2' h3 (some ⟨b4, 0, none⟩) d0 d1 d2 d3 d4) (renG g b) (fun _ => by rw [hRp]; omega)) rfl .nil (by rw [← gSl_ren (b := b)]; exact can_ownG (W := []) (acs := acs) (by rw [hRp]; exact hql) hRN (by rw [List.append_nil]; unfold ownG; repeat' (first | exact Ent.nil _ | refine Ent.tak tk ?_))) rfl ?_)
      rintro v V ⟨x2, AA2, cA2, acs2, AG2, cG2, bcs2, AC2, cC2, rfl, ⟨la2, lg2, rfl, rfl⟩⟩
      refine ⟨(by (repeat' (first | exact Ent.refl _ | refine Ent.wk ?_))), ?_⟩
      simp only [List.cons_append, List.nil_append]
      refine a_n 9 rfl (peval_sound rfl) (by decide +kernel) (by (repeat' (first | exact Ent.refl _ | refine Ent.wk ?_))) rfl ?_
      refine a_n 10 rfl (peval_sound rfl) (by decide +kernel) (by (repeat' (first | exact Ent.refl _ | refine Ent.wk ?_))) rfl ?_
      refine a_n 11 rfl (peval_sound rfl) (by decide +kernel) (by (repeat' (first | exact Ent.refl _ | refine Ent.wk ?_))) rfl ?_
      refine a_1 13 (by decide +kernel) rfl rfl (o_storeC rfl rfl rfl rfl tc uc rfl rfl rfl ⟨(by (repeat' (first | exact Ent.refl _ | refine Ent.wk ?_))), ?_⟩)
      refine a_n 14 rfl (peval_sound rfl) (by decide +kernel) (by (repeat' (first | exact Ent.refl _ | refine Ent.wk ?_))) rfl ?_
      refine a_done (by decide +kernel) ?_
      refine s_weak ?_ ?_ (hfin (b7, AA2, cA2, AG2, cG2, AC2, cC2))
      · repeat' (first | exact Sub.nil _ | refine Sub.cons rfl ?_)
      · repeat' (first | exact Ent.nil _ | refine Ent.blkC tc rfl ?_)
  · refine a_1 6 (by decide +kernel) rfl rfl (o_call (bring_w by_ (g.Prods.length - 1 : Nat) hby (by unfold I64; omega) (by omega)) rfl .nil Can.tt rfl ?_)
    rintro v V ⟨rfl, rfl⟩
    rw [hbn]
    refine ⟨(by (repeat' (first | exact Ent.refl _ | refine Ent.wk ?_))), ?_⟩
    simp only [List.nil_append]
    refine a_1 7 (by decide +kernel) rfl rfl (o_call (renamed_w _ g b hP2 hb (by omega)) rfl .nil (Can.ro hG0) rfl ?_)
    rintro v V ⟨h0, h1, h2', h3, b4, d0, d1, d2, d3, d4, acs, hql, rfl, rfl⟩
    refine ⟨Ent.trans ent_dropL (by (repeat' (first | exact Ent.refl _ | refine Ent.wk ?_))), ?_⟩
    unfold ownG
    simp only [List.cons_append, List.nil_append]
    refine a_1 8 (by decide +kernel) rfl rfl (o_call (actOf_w (gSl g h0 h1 h2' h3 (some ⟨b4, 0, none⟩) d0 d1 d2 d3 d4) (renG g b) (fun _ => by rw [hRp]; omega)) rfl .nil (by rw [← gSl_ren (b := b)]; exact can_ownG (W := []) (acs := acs) (by rw [hRp]; exact hql) hRN (by rw [List.append_nil]; unfold ownG; repeat' (first | exact Ent.nil _ | refine Ent.tak tk ?_))) rfl ?_)
    rintro v V ⟨x2, AA2, cA2, acs2, AG2, cG2, bcs2, AC2, cC2, rfl, ⟨la2, lg2, rfl, rfl⟩⟩
    refine ⟨(by (repeat' (first | exact Ent.refl _ | refine Ent.wk ?_))), ?_⟩
    simp only [List.cons_append, List.nil_append]
    refine a_n 9 rfl (peval_sound rfl) (by decide +kernel) (by (repeat' (first | exact Ent.refl _ | refine Ent.wk ?_))) rfl ?_
    refine a_n 10 rfl (peval_sound rfl) (by decide +kernel) (by (repeat' (first | exact Ent.refl _ | refine Ent.wk ?_))) rfl ?_
    refine a_n 11 rfl (peval_sound rfl) (by decide +kernel) (by (repeat' (first | exact Ent.refl _ | refine Ent.wk ?_))) rfl ?_
    refine a_1 13 (by decide +kernel) rfl rfl (o_storeC rfl rfl rfl rfl tc uc rfl rfl rfl ⟨(by (repeat' (first | exact Ent.refl _ | refine Ent.wk ?_))), ?_⟩)
    refine a_n 14 rfl (peval_sound rfl) (by decide +kernel) (by (repeat' (first | exact Ent.refl _ | refine Ent.wk ?_))) rfl ?_
    refine a_done (by decide +kernel) ?_
    refine s_weak ?_ ?_ (hfin (b7, AA2, cA2, AG2, cG2, AC2, cC2))
    · repeat' (first | exact Sub.nil _ | refine Sub.cons rfl ?_)
    · repeat' (first | exact Ent.nil _ | refine Ent.blkC tc rfl ?_)

end Go.Proofs.YtcnpjhaedjncdaaDoor
