/-
  ActionTells: walked.
-/
import Derived.Test.YtcnpjhaedjncdaaGreatDoorArBase6

namespace Go.Proofs.YtcnpjhaedjncdaaGreatDoor
set_option linter.all false
open Go.Proofs.YtcnpjhaedjncdaaGreatDoor.E

/-- Rows that are as long. -/
structure Sh1 {α : Type} (X Y : List (List α)) : Prop where
  n : Y.length = X.length
  r : ∀ (i : Nat) (h : i < X.length) (h' : i < Y.length), Y[i].length = X[i].length
theorem Sh1.refl {α : Type} (X : List (List α)) : Sh1 X X := ⟨rfl, fun _ _ _ => rfl⟩
theorem Sh1.set {α : Type} {X Y : List (List α)} (h : Sh1 X Y) {p : Nat} (hp : p < Y.length) {r : List α} (hr : r.length = Y[p].length) : Sh1 X (Y.set p r) := by
  refine ⟨by rw [List.length_set]; exact h.n, fun i h1 h2 => ?_⟩
  rw [List.length_set] at h2
  rw [List.getElem_set]
  split
  · rename_i e; subst e; rw [hr]; exact h.r p h1 h2
  · exact h.r i h1 h2
theorem act0_set {r : List Acn} (h : 0 < r.length) {o : Nat} (ho : o = 0) : setMany (encAs r) o [.int .i64 99] = encAs (r.set 0 ⟨99, (r[0]).n⟩) := by
  subst ho
  match r, h with
  | a :: r, _ => rfl
theorem got0_set {r : List Int} (h : 0 < r.length) {o : Nat} (ho : o = 0) : setMany (r.map (Value.int .i64)) o [.int .i64 99] = (r.set 0 99).map (Value.int .i64) := by
  subst ho
  match r, h with
  | a :: r, _ => rfl
theorem encCs_len (l : List (Nat × Nat)) : (encCs l).length = l.length * 2 := by
  induction l with
  | nil => rfl
  | cons a l ih => unfold encCs at ih ⊢; rw [List.flatMap_cons, List.length_append, ih, List.length_cons]; show 2 + _ = _; omega
theorem act_row {g : Gram} (i : Nat) (hi : i < (pAct g).length) : (pAct g)[i].length = g.Terms.length ∧ actE g = 0 := by
  by_cases hE : actE g = 0
  · refine ⟨?_, hE⟩
    have e : pAct g = actA g := by unfold pAct; rw [if_pos hE]
    have e2 : (pAct g)[i] = actRow g i := by
      have h2 : (pAct g)[i]? = some (actRow g i) := by
        rw [e]
        unfold actA
        have hl : i < (lrKs g).length := by rw [e, actA_len'] at hi; exact hi
        rw [List.getElem?_map, List.getElem?_range hl]; rfl
      rw [List.getElem?_eq_getElem hi] at h2
      exact Option.some.inj h2
    rw [e2]; unfold actRow; simp
  · exfalso
    have e : pAct g = [] := by unfold pAct; rw [if_neg hE]
    rw [e] at hi; exact absurd hi (Nat.not_lt_zero _)
theorem got_row {g : Gram} (hE : actE g = 0) (i : Nat) (hi : i < (pAct g).length) : ∃ h : i < (pGot g).length, (pGot g)[i].length = g.Nons.length := by
  have h0 : lrE g = 0 := Classical.byContradiction fun hn => by unfold actE at hE; rw [if_pos hn] at hE; exact hn hE
  have hF := goF h0
  have e : pAct g = actA g := by unfold pAct; rw [if_pos hE]
  have e2 : pGot g = gotA g := by unfold pGot; rw [if_pos hE]
  have hl : i < (lrKs g).length := by rw [e, actA_len'] at hi; exact hi
  have hl2 : i < (lrGs g).length := by rw [hF.gk]; exact hl
  have hl3 : i < (pGot g).length := by rw [e2]; unfold gotA; simpa using hl2
  refine ⟨hl3, ?_⟩
  have h2 : (pGot g)[i]? = some ((lrGs g)[i].drop g.Terms.length) := by
    rw [e2]
    unfold gotA
    rw [List.getElem?_map, List.getElem?_eq_getElem hl2]; rfl
  rw [List.getElem?_eq_getElem hl3] at h2
  rw [Option.some.inj h2, List.length_drop, hF.row i hl2]; omega

attribute [local irreducible] EVX EVO EVL EV1 NEV
attribute [local irreducible] own osl exA rdA rdL
attribute [local irreducible] bldA mapA bun mapS
set_option maxRecDepth 10000
set_option maxHeartbeats 4000000

theorem actionTells_w (cs : List Value) (g : Gram) : Trip Tryz.prog 4 [.agg cs.toArray] (kGram.rd cs g) [] (fun v V => v = .bool true ∧ V = []) := by
  refine trip Tryz.tabOk Tryz.func4 rfl rfl rfl rfl ?_
  rintro w SM hG0
  obtain ⟨A0, A1, A2, A3, A4, c0, c1, c2, c3, c4, rfl, hG⟩ := kGram_open hG0
  repeat' (first | refine e_nil ?_ | ((refine e_op ?_); (first | refine o_n (peval_sound rfl) rfl ?_ | refine o_n (nl rfl rfl tc rfl) rfl ?_ | refine o_box rfl rfl (fun _ => ?_))) | refine s_seq ?_ | refine s_region ?_)
  refine e_op (o_call (few21_w _ g) rfl .nil (Can.ro hG0) rfl ?_)
  rintro v V ⟨rfl, rfl⟩
  simp only [List.nil_append]
  repeat' (first | refine e_nil ?_ | ((refine e_op ?_); (refine o_n (peval_sound rfl) rfl ?_)))
  by_cases hfew : (g.Prods.length : Int) ≤ 30
  · rw [decide_eq_true hfew]
    repeat' (first | ((refine e_op ?_); (refine o_n (nl rfl rfl tc rfl) rfl ?_)) | refine s_seq ?_ | refine s_region ?_ | refine s_skip ?_ | refine s_false rfl ?_)
    rename_i bg
    refine e_op (o_call (copy_w _ g) rfl .nil (Can.ro hG0) rfl ?_)
    rintro v V ⟨a0, a1, a2, a3, a4, d0, d1, d2, d3, d4, rfl, rfl⟩
    simp only [List.cons_append, List.nil_append]
    repeat' (first | refine e_nil ?_ | ((refine e_op ?_); (first | refine o_n (nl rfl rfl tc rfl) rfl ?_ | refine o_storeC rfl rfl rfl rfl tc uc rfl rfl rfl ?_ | refine o_alloc rfl rfl (fun _ => ?_))) | refine s_seq ?_ | refine s_region ?_)
    rename_i b6
    refine e_op (o_call (actOf_w [.slice a0 g.Terms.length d0, .slice a1 g.Levels.length d1, .slice a2 g.Pats.length d2, .slice a3 g.Nons.length d3, .slice a4 g.Prods.length d4] g (fun _ => by omega)) rfl .nil (Can.rdA (.s .z)) rfl ?_)
    rintro v V ⟨x, AA, cA, acs, AG, cG, bcs, AC, cC, rfl, hla, hlg, rfl, rfl⟩
    simp only [List.cons_append, List.nil_append]
    have hN := pAct_n g
    repeat' (first | refine e_nil ?_ | ((refine e_op ?_); (first | refine o_n (peval_sound rfl) rfl ?_ | refine o_n (nl rfl rfl tc rfl) rfl ?_ | refine o_storeC rfl rfl rfl rfl tc uc rfl rfl rfl ?_ | refine o_alloc rfl rfl (fun _ => ?_))) | refine s_seq ?_ | refine s_region ?_)
    rename_i b7
    refine e_op (o_call (of21_w _ g) rfl .nil (Can.ro hG0) rfl ?_)
    rintro v V ⟨y, AY, cY, acy, AH, cH, bcy, AD, cD, rfl, hya, hyg, rfl, rfl⟩
    simp only [List.cons_append, List.nil_append]
    repeat' (first | refine e_nil ?_ | ((refine e_op ?_); (first | refine o_n (peval_sound rfl) rfl ?_ | refine o_storeC rfl rfl rfl rfl tc uc rfl rfl rfl ?_ | refine o_alloc rfl rfl (fun _ => ?_))) | refine s_seq ?_)
    rename_i b9
    refine s_anyU Tryz.mixed ?_
    refine a_n 0 rfl (nl rfl rfl tc rfl) (by decide +kernel) (by (exact Ent.refl _)) rfl ?_
    refine a_n 2 rfl (nl rfl rfl tc rfl) (by decide +kernel) (by (exact Ent.refl _)) rfl ?_
    refine a_1 1 (by decide +kernel) rfl rfl (o_call (parser21_w AA AG AC (pAct g).length (pGot g).length (pCla g).length cA cG cC (pDec g : Nat)) rfl .nil Can.tt rfl ?_)
    rintro v V ⟨rfl, rfl⟩
    refine ⟨(by (exact Ent.refl _)), ?_⟩
    simp only [List.nil_append]
    refine a_1 3 (by decide +kernel) rfl rfl (o_call (same21_w [.slice AA (pAct g).length cA, .slice AG (pGot g).length cG, .slice AC (pCla g).length cC, .int .i64 (pDec g : Nat)] [.slice AY (pAct g).length cY, .slice AH (pGot g).length cH, .slice AD (pCla g).length cD, .int .i64 (pDec g : Nat)] (pAct g, pGot g, pCla g, pDec g)) rfl .nil (Can.and (can_par hla hlg hN (Ent.tak tk (Ent.tak tk (Ent.tak tk (Ent.tak tk (Ent.tak tk (Ent.refl _))))))) (can_par hya hyg hN (Ent.tak tk (Ent.tak tk (Ent.tak tk (Ent.tak tk (Ent.tak tk (Ent.refl _)))))))) rfl ?_)
    rintro v V ⟨rfl, rfl⟩
    refine ⟨(by (exact Ent.refl _)), ?_⟩
    simp only [List.nil_append]
    (refine a_n 4 rfl (peval_sound rfl) (by decide +kernel) (by (exact Ent.refl _)) rfl ?_); (refine a_n 5 rfl (peval_sound rfl) (by decide +kernel) (by (exact Ent.refl _)) rfl ?_)
    (refine a_ny 6 rfl rfl (peval_sound rfl) (by decide +kernel) (by (exact Ent.refl _)) rfl ?_); (refine a_ny 7 rfl rfl (peval_sound rfl) (by decide +kernel) (by (exact Ent.refl _)) rfl ?_); (refine a_ny 8 rfl rfl (peval_sound rfl) (by decide +kernel) (by (exact Ent.refl _)) rfl ?_)
    rw [show (actE g != actE g) = false by simp]
    (refine a_n 9 rfl (peval_sound rfl) (by decide +kernel) (by (exact Ent.refl _)) rfl ?_); (refine a_n 10 rfl (peval_sound rfl) (by decide +kernel) (by (exact Ent.refl _)) rfl ?_)
    refine a_ny 11 rfl rfl (nl rfl rfl tc rfl) (by decide +kernel) (by (exact Ent.refl _)) rfl ?_
    refine a_ny 12 rfl rfl (nl rfl rfl tc rfl) (by decide +kernel) (by (exact Ent.refl _)) rfl ?_
    refine a_1y 13 (by decide +kernel) rfl rfl rfl (o_call (same_w [.slice a0 g.Terms.length d0, .slice a1 g.Levels.length d1, .slice a2 g.Pats.length d2, .slice a3 g.Nons.length d3, .slice a4 g.Prods.length d4] _ g) rfl .nil (Can.and (Can.rdA (TakA.tak (A := rdA kGram _ g))) (Can.ro hG0)) rfl ?_)
    rintro v V ⟨rfl, rfl⟩
    refine ⟨(by (exact Ent.refl _)), ?_⟩
    simp only [List.nil_append]
    (refine a_ny 14 rfl rfl (peval_sound rfl) (by decide +kernel) (by (exact Ent.refl _)) rfl ?_)
    (refine a_n 15 rfl (peval_sound rfl) (by decide +kernel) (by (exact Ent.refl _)) rfl ?_)
    refine a_done (by decide +kernel) ?_
    refine s_weak (fr' := [(61, .bool false), (9, ptrN b9), (7, ptrN b7), (1, ptrN bg)]) (V := [blk b7 44 [.slice AA (pAct g).length cA, .slice AG (pGot g).length cG, .slice AC (pCla g).length cC, .int .i64 (pDec g : Nat)], actS AA (pAct g).length cA acs (pAct g), actB acs (pAct g), gotS AG (pGot g).length cG bcs (pGot g), gotB bcs (pGot g), claS AC (pCla g).length cC (pCla g), blk b9 47 [.slice AY (pAct g).length cY, .slice AH (pGot g).length cH, .slice AD (pCla g).length cD, .int .i64 (pDec g : Nat)], actS AY (pAct g).length cY acy (pAct g), actB acy (pAct g), gotS AH (pGot g).length cH bcy (pGot g), gotB bcy (pGot g), claS AD (pCla g).length cD (pCla g), blk bg 27 [.slice A0 g.Terms.length c0, .slice A1 g.Levels.length c1, .slice A2 g.Pats.length c2, .slice A3 g.Nons.length c3, .slice A4 g.Prods.length c4]]) ?_ ?_ ?_
    · repeat' (first | exact Sub.nil _ | refine Sub.cons rfl ?_)
    · repeat' (first | exact Ent.nil _ | refine Ent.tak tk ?_ | refine Ent.blkC tc rfl ?_)
    refine s_openP (TakA.tak (A := actS AA (pAct g).length cA acs (pAct g))) (fun hoA => ?_)
    refine s_openP (TakA.tak (A := gotS AG (pGot g).length cG bcs (pGot g))) (fun hoG => ?_)
    refine s_openP (TakA.tak (A := claS AC (pCla g).length cC (pCla g))) (fun hoC => ?_)
    refine s_addrs (TakA.tak (A := actB acs (pAct g))) hla (fun hxA => ?_)
    refine s_addrs (TakA.tak (A := gotB bcs (pGot g))) hlg (fun hxG => ?_)
    repeat' (first | refine e_nil ?_ | ((refine e_op ?_); (refine o_n (peval_sound rfl) rfl ?_)) | refine s_seq ?_ | refine s_region ?_ | refine s_block ?_ | refine s_skip ?_ | refine s_false rfl ?_)
    refine s_loopK (ι := {z : Nat × List (List Acn) × List (List Int) // z.1 ≤ (pAct g).length ∧ Sh1 (pAct g) z.2.1 ∧ Sh1 (pGot g) z.2.2}) [9, 7, 1] rfl ⟨(0, pAct g, pGot g), Nat.zero_le _, Sh1.refl _, Sh1.refl _⟩ (fun z => [(11, .int .i64 z.1.1)])
      (fun z => [blk b7 44 [.slice AA (pAct g).length cA, .slice AG (pGot g).length cG, .slice AC (pCla g).length cC, .int .i64 (pDec g : Nat)], actS AA (pAct g).length cA acs (pAct g), actB acs z.1.2.1, gotS AG (pGot g).length cG bcs (pGot g), gotB bcs z.1.2.2, claS AC (pCla g).length cC (pCla g), blk b9 47 [.slice AY (pAct g).length cY, .slice AH (pGot g).length cH, .slice AD (pCla g).length cD, .int .i64 (pDec g : Nat)], actS AY (pAct g).length cY acy (pAct g), actB acy (pAct g), gotS AH (pGot g).length cH bcy (pGot g), gotB bcy (pGot g), claS AD (pCla g).length cD (pCla g), blk bg 27 [.slice A0 g.Terms.length c0, .slice A1 g.Levels.length c1, .slice A2 g.Pats.length c2, .slice A3 g.Nons.length c3, .slice A4 g.Prods.length c4]]) (fun z => (pAct g).length - z.1.1) ?_ (Ent.refl _) ?_
    · repeat' (first | exact Sub.nil _ | refine Sub.cons rfl ?_)
    rintro ⟨⟨i, R, G⟩, hi, hR, hG2⟩
    simp only at hi hR hG2 ⊢
    repeat' (first | refine e_nil ?_ | ((refine e_op ?_); (first | refine o_n (peval_sound rfl) rfl ?_ | refine o_n (nl rfl rfl tc rfl) rfl ?_)) | refine s_seq ?_ | refine s_region ?_)
    refine s_cond rfl (fun h => ?_) (fun h => ?_)
    · have hil : i < (pAct g).length := by simpa using h
      obtain ⟨har, hE⟩ := act_row i hil
      obtain ⟨hig, hgr⟩ := got_row hE i hil
      have h0 : lrE g = 0 := Classical.byContradiction fun hn => by unfold actE at hE; rw [if_pos hn] at hE; exact hn hE
      have hwf := (goF h0).wf
      have hT1 := hwf.t
      have hN2 := hwf.n
      obtain ⟨bA, rfl⟩ := hoA (by omega)
      obtain ⟨bG, rfl⟩ := hoG (by omega)
      obtain ⟨br, hbr⟩ := hxA i (by omega) hil (by omega)
      obtain ⟨bq, hbq⟩ := hxG i (by omega) hig (by omega)
      have hlR : acs.length = R.length := by rw [hR.n]; exact hla
      have hlG : bcs.length = G.length := by rw [hG2.n]; exact hlg
      have hiR : i < R.length := by omega
      have hiG : i < G.length := by omega
      have hRr := hR.r i hil hiR
      have hGr := hG2.r i hig hiG
      repeat' (first | ((refine e_op ?_); (first | refine o_n (peval_sound rfl) rfl ?_ | refine o_n (nl rfl rfl tc rfl) rfl ?_)) | refine s_seq ?_ | refine s_region ?_ | refine s_block ?_ | refine s_skip ?_)
      refine e_op (o_n (n_index rfl rfl rfl rfl i rfl hil) rfl ?_)
      refine e_op (o_n (no rfl rfl to (rowC_load hla hil)) rfl ?_)
      rw [hbr]
      refine e_op (o_n (n_index rfl rfl rfl rfl 0 rfl (by omega)) rfl ?_)
      repeat' (((refine e_op ?_); (refine o_n (peval_sound rfl) rfl ?_)))
      refine e_op (o_store_row (vs := [.int .i64 99]) rfl rfl rfl rfl rfl rfl hlR i hiR hbr (by rw [encAs_len]; show 0 + 0 * 2 + 0 + 1 ≤ _; omega) (TakA.tak (A := actB acs R)) (R[i].set 0 ⟨99, (R[i][0]'(by omega)).n⟩) (by rw [List.length_set]) (act0_set (by omega) rfl) ?_)
      repeat' (first | refine e_nil ?_ | ((refine e_op ?_); (first | refine o_n (peval_sound rfl) rfl ?_ | refine o_n (nl rfl rfl tc rfl) rfl ?_)) | refine s_region ?_)
      refine e_op (o_n (n_index rfl rfl rfl rfl i rfl hig) rfl ?_)
      refine e_op (o_n (no rfl rfl to (rowC_load hlg hig)) rfl ?_)
      rw [hbq]
      refine e_op (o_n (n_index rfl rfl rfl rfl 0 rfl (by omega)) rfl ?_)
      refine e_op (o_store_row (vs := [.int .i64 99]) rfl rfl rfl rfl rfl rfl hlG i hiG hbq (by rw [List.length_map]; show 0 + 0 * 1 + 1 ≤ _; omega) (TakA.tak (A := gotB bcs G)) (G[i].set 0 99) (by rw [List.length_set]) (got0_set (by omega) rfl) ?_)
      repeat' (first | refine e_nil ?_ | ((refine e_op ?_); (refine o_n (peval_sound rfl) rfl ?_)) | refine s_region ?_ | refine s_end ?_)
      refine s_back ⟨⟨(i + 1, R.set i (R[i].set 0 ⟨99, (R[i][0]'(by omega)).n⟩), G.set i (G[i].set 0 99)), by simp only; omega, hR.set hiR (by rw [List.length_set]), hG2.set hiG (by rw [List.length_set])⟩, by simp only; omega, ?_, ?_⟩
      · repeat' (first | exact Sub.nil _ | refine Sub.cons rfl ?_ | refine Sub.consE rfl ?_ ?_)
        exact inc (i := i) (by have := hN.r; omega)
      · repeat' (first | exact Ent.nil _ | refine Ent.tak tk ?_)
    repeat' (first | refine e_nil ?_ | ((refine e_op ?_); (refine o_n (peval_sound rfl) rfl ?_)) | refine s_seq ?_ | refine s_region ?_ | refine s_block ?_ | refine s_exit ?_ | refine x_hit ?_ | refine x_code ?_ | refine x_back ?_)
    refine s_loopK (ι := {z : Nat × List Value // z.1 ≤ (pCla g).length ∧ z.2.length = (pCla g).length * 2}) [9, 7, 1] rfl ⟨(0, encCs (pCla g)), Nat.zero_le _, encCs_len _⟩ (fun z => [(12, .int .i64 z.1.1)])
      (fun z => [blk b7 44 [.slice AA (pAct g).length cA, .slice AG (pGot g).length cG, .slice AC (pCla g).length cC, .int .i64 (pDec g : Nat)], actS AA (pAct g).length cA acs (pAct g), actB acs R, gotS AG (pGot g).length cG bcs (pGot g), gotB bcs G, osl 57 2 (.slice AC (pCla g).length cC) (pCla g).length z.1.2, blk b9 47 [.slice AY (pAct g).length cY, .slice AH (pGot g).length cH, .slice AD (pCla g).length cD, .int .i64 (pDec g : Nat)], actS AY (pAct g).length cY acy (pAct g), actB acy (pAct g), gotS AH (pGot g).length cH bcy (pGot g), gotB bcy (pGot g), claS AD (pCla g).length cD (pCla g), blk bg 27 [.slice A0 g.Terms.length c0, .slice A1 g.Levels.length c1, .slice A2 g.Pats.length c2, .slice A3 g.Nons.length c3, .slice A4 g.Prods.length c4]]) (fun z => (pCla g).length - z.1.1) ?_ (Ent.refl _) ?_
    · repeat' (first | exact Sub.nil _ | refine Sub.cons rfl ?_)
    rintro ⟨⟨j, cl⟩, hj, hcl⟩
    simp only at hj hcl ⊢
    repeat' (first | refine e_nil ?_ | ((refine e_op ?_); (first | refine o_n (peval_sound rfl) rfl ?_ | refine o_n (nl rfl rfl tc rfl) rfl ?_)) | refine s_seq ?_ | refine s_region ?_)
    refine s_cond rfl (fun h => ?_) (fun h => ?_)
    · have hjl : j < (pCla g).length := by simpa using h
      obtain ⟨bC, rfl⟩ := hoC (by omega)
      repeat' (first | ((refine e_op ?_); (first | refine o_n (peval_sound rfl) rfl ?_ | refine o_n (nl rfl rfl tc rfl) rfl ?_)) | refine s_seq ?_ | refine s_region ?_ | refine s_block ?_ | refine s_skip ?_)
      refine e_op (o_n (n_index rfl rfl rfl rfl j rfl hjl) rfl ?_)
      repeat' (((refine e_op ?_); (refine o_n (peval_sound rfl) rfl ?_)))
      refine e_op (o_storeO (vs := [.int .i64 99]) rfl rfl rfl rfl to uc rfl rfl (by rw [hcl]; show 0 + j * 2 + 1 + 1 ≤ _; omega) ?_)
      repeat' (first | refine e_nil ?_ | ((refine e_op ?_); (refine o_n (peval_sound rfl) rfl ?_)) | refine s_region ?_ | refine s_end ?_)
      refine s_back ⟨⟨(j + 1, setMany cl (0 + j * 2 + 1) [.int .i64 99]), by simp only; omega, by simp only [setMany_length]; exact hcl⟩, by simp only; omega, ?_, ?_⟩
      · repeat' (first | exact Sub.nil _ | refine Sub.cons rfl ?_ | refine Sub.consE rfl ?_ ?_)
        exact inc (i := j) (by have := hN.c; omega)
      · exact Ent.refl _
    refine s_ent (V := [blk b9 47 [.slice AY (pAct g).length cY, .slice AH (pGot g).length cH, .slice AD (pCla g).length cD, .int .i64 (pDec g : Nat)], actS AY (pAct g).length cY acy (pAct g), actB acy (pAct g), gotS AH (pGot g).length cH bcy (pGot g), gotB bcy (pGot g), claS AD (pCla g).length cD (pCla g), blk bg 27 [.slice A0 g.Terms.length c0, .slice A1 g.Levels.length c1, .slice A2 g.Pats.length c2, .slice A3 g.Nons.length c3, .slice A4 g.Prods.length c4]]) (by repeat' (first | exact Ent.nil _ | refine Ent.tak tk ?_)) ?_
    repeat' (first | ((refine e_op ?_); (refine o_n (nl rfl rfl tc rfl) rfl ?_)) | refine s_seq ?_ | refine s_region ?_ | refine s_exit ?_ | refine x_hit ?_ | refine x_code ?_ | refine x_back ?_)
    refine e_op (o_call (actOf_w _ g (fun _ => by omega)) rfl .nil (Can.ro hG0) rfl ?_)
    rintro v V ⟨z, AZ, cZ, acz, AI, cI, bcz, AJ, cJ, rfl, hza, hzg, rfl, rfl⟩
    simp only [List.cons_append, List.nil_append]
    repeat' (first | refine e_nil ?_ | ((refine e_op ?_); (first | refine o_n (peval_sound rfl) rfl ?_ | refine o_storeC rfl rfl rfl rfl tc uc rfl rfl rfl ?_ | refine o_alloc rfl rfl (fun _ => ?_))) | refine s_seq ?_)
    rename_i b13
    refine s_anyU Tryz.mixed ?_
    refine a_n 0 rfl (nl rfl rfl tc rfl) (by decide +kernel) (by (exact Ent.refl _)) rfl ?_
    refine a_n 2 rfl (nl rfl rfl tc rfl) (by decide +kernel) (by (exact Ent.refl _)) rfl ?_
    refine a_1 1 (by decide +kernel) rfl rfl (o_call (parser21_w AZ AI AJ (pAct g).length (pGot g).length (pCla g).length cZ cI cJ (pDec g : Nat)) rfl .nil Can.tt rfl ?_)
    rintro v V ⟨rfl, rfl⟩
    refine ⟨(by (exact Ent.refl _)), ?_⟩
    simp only [List.nil_append]
    refine a_1 3 (by decide +kernel) rfl rfl (o_call (same21_w [.slice AZ (pAct g).length cZ, .slice AI (pGot g).length cI, .slice AJ (pCla g).length cJ, .int .i64 (pDec g : Nat)] [.slice AY (pAct g).length cY, .slice AH (pGot g).length cH, .slice AD (pCla g).length cD, .int .i64 (pDec g : Nat)] (pAct g, pGot g, pCla g, pDec g)) rfl .nil (Can.and (can_par hza hzg hN (Ent.tak tk (Ent.tak tk (Ent.tak tk (Ent.tak tk (Ent.tak tk (Ent.refl _))))))) (can_par hya hyg hN (Ent.tak tk (Ent.tak tk (Ent.tak tk (Ent.tak tk (Ent.tak tk (Ent.refl _)))))))) rfl ?_)
    rintro v V ⟨rfl, rfl⟩
    refine ⟨(by (exact Ent.refl _)), ?_⟩
    simp only [List.nil_append]
    (refine a_n 4 rfl (peval_sound rfl) (by decide +kernel) (by (exact Ent.refl _)) rfl ?_)
    refine a_1y 5 (by decide +kernel) rfl rfl rfl (o_call works21_w rfl .nil Can.tt rfl ?_)
    rintro v V ⟨rfl, rfl⟩
    refine ⟨(by (exact Ent.refl _)), ?_⟩
    simp only [List.nil_append]
    (refine a_n 6 rfl (peval_sound rfl) (by decide +kernel) (by (exact Ent.refl _)) rfl ?_); (refine a_n 7 rfl (peval_sound rfl) (by decide +kernel) (by (exact Ent.refl _)) rfl ?_)
    refine a_done (by decide +kernel) ?_
    skip
    refine s_ret ⟨_, _, res1 rfl rfl, ⟨rfl, rfl⟩, Ent.nil _⟩
  · rw [decide_eq_false hfew]
    repeat' (first | ((refine e_op ?_); (refine o_n (nl rfl rfl tc rfl) rfl ?_)) | refine s_seq ?_ | refine s_region ?_ | refine s_true rfl ?_)
    refine e_op (o_call (checkR_w _ g) rfl .nil (Can.ro hG0) rfl ?_)
    rintro v V ⟨rfl, rfl⟩
    simp only [List.nil_append]
    repeat' (first | refine e_nil ?_ | ((refine e_op ?_); (refine o_n (peval_sound rfl) rfl ?_)) | refine s_seq ?_ | refine s_region ?_)
    by_cases hce : checkE g = 0
    · rw [show (checkE g == 0) = true by simp [hce]]
      repeat' (first | refine s_seq ?_ | refine s_region ?_ | refine s_true rfl ?_)
      refine e_op (o_call works21_w rfl .nil Can.tt rfl ?_)
      rintro v V ⟨rfl, rfl⟩
      simp only [List.nil_append]
      repeat' (first | refine e_nil ?_ | ((refine e_op ?_); (refine o_n (peval_sound rfl) rfl ?_)))
      refine s_ret ⟨_, _, res1 rfl rfl, ⟨rfl, rfl⟩, Ent.nil _⟩
    · rw [show (checkE g == 0) = false by simp [hce]]
      have hle : lrE g = checkE g := by unfold lrE; rw [if_pos hce]
      have hae : actE g = checkE g := by unfold actE; rw [if_pos (by rw [hle]; exact hce), hle]
      repeat' (first | ((refine e_op ?_); (refine o_n (nl rfl rfl tc rfl) rfl ?_)) | refine s_seq ?_ | refine s_region ?_ | refine s_skip ?_ | refine s_false rfl ?_)
      refine e_op (o_call (actOf_w _ g (fun h => absurd h hce)) rfl .nil (Can.ro hG0) rfl ?_)
      rintro v V ⟨x, AA, cA, acs, AG, cG, bcs, AC, cC, rfl, hla, hlg, rfl, rfl⟩
      simp only [List.cons_append, List.nil_append]
      repeat' (first | refine e_nil ?_ | ((refine e_op ?_); (first | refine o_n (peval_sound rfl) rfl ?_ | refine o_storeC rfl rfl rfl rfl tc uc rfl rfl rfl ?_ | refine o_alloc rfl rfl (fun _ => ?_))) | refine s_seq ?_ | refine s_region ?_)
      rw [show (actE g == checkE g) = true by simp [hae]]
      skip
      refine e_yes rfl (o_call works21_w rfl .nil Can.tt rfl ?_)
      rintro v V ⟨rfl, rfl⟩
      simp only [List.nil_append]
      repeat' (first | refine e_nil ?_ | ((refine e_op ?_); (refine o_n (peval_sound rfl) rfl ?_)))
      refine s_ret ⟨_, _, res1 rfl rfl, ⟨rfl, rfl⟩, Ent.nil _⟩

end Go.Proofs.YtcnpjhaedjncdaaGreatDoor
