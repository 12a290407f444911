/-
  The statement ActionAll, walked.
-/
import Derived.Test.YtcnpjhaedjncdaaDoorAcBase5

namespace Go.Proofs.YtcnpjhaedjncdaaDoor
set_option linter.all false
open Go.Proofs.YtcnpjhaedjncdaaDoor.E

theorem gotA_len (g : Gram) : (gotA g).length = (lrGs g).length := by unfold gotA; simp
theorem gotA_get {g : Gram} {s : Nat} (h : s < (gotA g).length) (h2 : s < (lrGs g).length) : (gotA g)[s] = (lrGs g)[s].drop g.Terms.length := by
  have h3 : s < ((lrGs g).map fun r => r.drop g.Terms.length).length := h
  show ((lrGs g).map fun r => r.drop g.Terms.length)[s] = _
  rw [List.getElem_map]

attribute [local irreducible] EVX EVO EVL EV1 NEV
attribute [local irreducible] own osl exA rdA rdL
attribute [local irreducible] bldA mapA bun mapS
set_option maxRecDepth 10000
set_option maxHeartbeats 4000000

theorem actionAll_w (cs : List Value) (g : Gram) : Trip Tryd.prog 3 [.agg cs.toArray] (kGram.rd cs g) [] (fun v V => v = .bool true ∧ V = []) := by
  refine trip Tryd.tabOk Tryd.func3 rfl rfl rfl rfl ?_
  rintro w SM hG0
  obtain ⟨A0, A1, A2, A3, A4, c0, c1, c2, c3, c4, rfl, hG⟩ := kGram_open hG0
  repeat' (first | refine e_nil ?_ | ((refine e_op ?_); (first | refine o_n (peval_sound rfl) rfl ?_ | refine o_box rfl rfl (fun _ => ?_))) | refine s_seq ?_ | refine s_region ?_)
  rename_i bg
  refine e_op (o_call works21_w rfl .nil Can.tt rfl ?_)
  rintro v V ⟨rfl, rfl⟩
  simp only [List.nil_append]
  repeat' (first | refine e_nil ?_ | ((refine e_op ?_); (first | refine o_n (peval_sound rfl) rfl ?_ | refine o_n (nl rfl rfl tc rfl) rfl ?_)) | refine s_seq ?_ | refine s_region ?_ | refine s_skip ?_ | refine s_false rfl ?_)
  refine e_op (o_call (check_w _ g) rfl .nil (Can.ro hG0) rfl ?_)
  rintro v V ⟨rfl, rfl⟩
  simp only [List.nil_append]
  repeat' (((refine e_op ?_); (refine o_n (peval_sound rfl) rfl ?_)))
  by_cases he : checkE g ≠ 0
  · rw [show (checkE g != 0) = true by simpa using he]
    repeat' (first | refine e_nil ?_ | ((refine e_op ?_); (refine o_n (peval_sound rfl) rfl ?_)) | refine e_noU rfl rfl rfl ?_ | refine s_seq ?_ | refine s_region ?_ | refine s_true rfl ?_)
    refine s_ret ⟨_, _, res1 rfl rfl, ⟨rfl, rfl⟩, Ent.nil _⟩
  replace he : checkE g = 0 := Classical.not_not.1 he
  rw [show (checkE g != 0) = false by simpa using he]
  repeat' (((refine e_yes rfl ?_); (refine o_n (nl rfl rfl tc rfl) rfl ?_)))
  refine e_yes rfl (o_call (few21_w _ g) rfl .nil (Can.ro hG0) rfl ?_)
  rintro v V ⟨rfl, rfl⟩
  simp only [List.nil_append]
  repeat' (first | refine e_nil ?_ | ((first | refine e_op ?_ | refine e_yes rfl ?_); (refine o_n (peval_sound rfl) rfl ?_)))
  by_cases hfew : ¬ (g.Prods.length : Int) ≤ 30
  · rw [decide_eq_false hfew]
    repeat' (first | refine e_nil ?_ | ((refine e_op ?_); (refine o_n (peval_sound rfl) rfl ?_)) | refine s_seq ?_ | refine s_region ?_ | refine s_true rfl ?_)
    refine s_ret ⟨_, _, res1 rfl rfl, ⟨rfl, rfl⟩, Ent.nil _⟩
  replace hfew := Classical.not_not.1 hfew
  rw [decide_eq_true hfew]
  repeat' (first | ((refine e_op ?_); (refine o_n (nl rfl rfl tc rfl) rfl ?_)) | refine s_seq ?_ | refine s_region ?_ | refine s_skip ?_ | refine s_false rfl ?_)
  refine e_op (o_call (actOf_w _ g (fun _ => by omega)) rfl .nil (Can.ro hG0) rfl ?_)
  rintro v V ⟨x, AA, cA, acs, AH, cH, hcs, AC, cC, rfl, ⟨la, lg, rfl, rfl⟩⟩
  simp only [List.cons_append, List.nil_append]
  repeat' (first | refine e_nil ?_ | ((refine e_op ?_); (first | refine o_n (peval_sound rfl) rfl ?_ | refine o_n (nl rfl rfl tc rfl) rfl ?_ | refine o_storeC rfl rfl rfl rfl tc uc rfl rfl rfl ?_ | refine o_alloc rfl rfl (fun _ => ?_))) | refine s_seq ?_ | refine s_region ?_)
  refine e_op (o_call (ofP_w _ g (fun _ => by omega)) rfl .nil (Can.ro hG0) rfl ?_)
  rintro v V ⟨x, rfl, AK, cK, kcs, AG, cG, bcs, hl, hb, rfl, rfl⟩
  simp only [List.cons_append, List.nil_append]
  repeat' (first | refine e_nil ?_ | ((refine e_op ?_); (first | refine o_n (peval_sound rfl) rfl ?_ | refine o_n (nl rfl rfl tc rfl) rfl ?_ | refine o_storeC rfl rfl rfl rfl tc uc rfl rfl rfl ?_ | refine o_alloc rfl rfl (fun _ => ?_))) | refine s_seq ?_ | refine s_region ?_)
  refine e_op (o_call (aheadOf_w _ g (fun _ => by omega)) rfl .nil (Can.ro hG0) rfl ?_)
  rintro v V ⟨AX, n, cX, xcs, D, rfl, hn, hal, hD, hDr, rfl⟩
  simp only [List.cons_append, List.nil_append]
  repeat' (first | refine e_nil ?_ | ((refine e_op ?_); (refine o_n (peval_sound rfl) rfl ?_)) | refine s_seq ?_ | refine s_region ?_)
  rename_i b3 b5
  rcases (lrE_vals he).symm with h5 | h0
  · have hE : actE g = 5 := by unfold actE; rw [if_pos (by rw [h5]; decide), h5]
    rw [h5, hE]
    repeat' (first | refine e_nil ?_ | ((refine e_op ?_); (refine o_n (peval_sound rfl) rfl ?_)) | refine e_noU rfl rfl rfl ?_ | refine s_seq ?_ | refine s_region ?_ | refine s_true rfl ?_)
    refine s_ret ⟨_, _, res1 rfl rfl, ⟨rfl, rfl⟩, Ent.nil _⟩
  have hpc : pCla g = claA g := by unfold pCla; rw [if_pos h0]
  by_cases hcl : claA g ≠ []
  · have hE : actE g = 210 := actE_210 h0 hcl
    have hlp := List.length_pos_iff.2 hcl
    rw [h0, hE, hpc]
    repeat' (first | refine e_nil ?_ | ((first | refine e_op ?_ | refine e_yes rfl ?_); (first | refine o_n (peval_sound rfl) rfl ?_ | refine o_n (nl rfl rfl tc rfl) rfl ?_)) | refine s_seq ?_ | refine s_region ?_ | refine s_skip ?_ | refine s_true rfl ?_ | refine s_false rfl ?_)
    rw [decide_eq_true (p := ((claA g).length : Int) > 0) (by omega)]
    skip
    refine s_ret ⟨_, _, res1 rfl rfl, ⟨rfl, rfl⟩, Ent.nil _⟩
  replace hcl : claA g = [] := Classical.not_not.1 hcl
  have hE := actE_0 h0 hcl
  have e1 : pAct g = actA g := by unfold pAct; rw [if_pos hE]
  have e2 : pGot g = gotA g := by unfold pGot; rw [if_pos hE]
  have e4 : pDec g = decN g := by unfold pDec; rw [if_pos hE]
  have hgl : (lrGs g).length = (lrKs g).length := (goF h0).gk
  have hAl := actA_len g
  have hHl : (gotA g).length = (lrKs g).length := by rw [gotA_len, hgl]
  rw [e1] at la
  rw [e2] at lg
  rw [h0, hE, e1, e2, e4, hpc, hAl, hHl, hgl]
  have hF := goF h0
  have hXP : ∀ (i : Nat) (hi : i < (laX g).length), (laX g)[i].length = g.Prods.length := fun i hi => by rw [laX_row h0 hi, YR_len]
  have hXv : ∀ (i k : Nat) (hi : i < (laX g).length) (hk : k < (laX g)[i].length), (laX g)[i][k] = laRow g i k := fun i k hi hk => laX_at h0 hi hk
  have hXn : (laX g).length = (lrKs g).length := laX_len h0
  generalize hXe : laX g = X at hXn hn hal hD hDr hXP hXv ⊢
  clear hXe
  rw [hXn] at hn
  subst hn
  have hL := hF.lim
  have hwf := hF.wf
  have hT := hL.t
  have hT1 := hwf.t
  have hNo := hL.n
  have hPr := hL.p
  have hK := hF.n
  have hK0 := hF.p0
  have hP0 := hwf.prods
  repeat' (first | refine e_nil ?_ | ((first | refine e_op ?_ | refine e_yes rfl ?_); (first | refine o_n (peval_sound rfl) rfl ?_ | refine o_n (nl rfl rfl tc rfl) rfl ?_)) | refine s_seq ?_ | refine s_region ?_ | refine s_skip ?_ | refine s_false rfl ?_)
  simp only [bne_self_eq_false]
  repeat' (((first | refine e_op ?_ | refine e_yes rfl ?_); (first | refine o_n (peval_sound rfl) rfl ?_ | refine o_n (nl rfl rfl tc rfl) rfl ?_)))
  simp only [bne_self_eq_false]
  repeat' (first | refine e_nil ?_ | ((first | refine e_op ?_ | refine e_yes rfl ?_); (first | refine o_n (peval_sound rfl) rfl ?_ | refine o_n (nl rfl rfl tc rfl) rfl ?_)))
  simp only [bne_self_eq_false]
  repeat' (first | refine e_nil ?_ | ((refine e_op ?_); (refine o_n (peval_sound rfl) rfl ?_)) | refine s_seq ?_ | refine s_region ?_ | refine s_block ?_ | refine s_skip ?_ | refine s_false rfl ?_)
  refine s_open (TakA.tak (A := osl 53 1 (.slice AX (lrKs g).length cX) (lrKs g).length (rowC xcs (rowVs D X)))) (by omega) ?_
  rintro bX rfl
  refine s_open (TakA.tak (A := gotS AG (lrKs g).length cG bcs (lrGs g))) (by omega) ?_
  rintro bG rfl
  refine s_open (TakA.tak (A := gotS AH (lrKs g).length cH hcs (gotA g))) (by omega) ?_
  rintro bH rfl
  refine s_open (TakA.tak (A := actS AA (lrKs g).length cA acs (actA g))) (by omega) ?_
  rintro bA rfl
  refine s_addrs (TakA.tak (A := gotB bcs (lrGs g))) hb (fun hGA => ?_)
  refine s_addrs (TakA.tak (A := actB acs (actA g))) la (fun hAA => ?_)
  refine s_addrs (TakA.tak (A := rowO xcs D X)) (by rw [rowVs_len hD]; exact hal) (fun hXA => ?_)
  refine s_innA (TakA.tak (A := bun (innB D X))) hD hDr (fun hXI => ?_)
  refine s_loopK (ι := {s : Nat // s ≤ (lrKs g).length}) [1, 3, 5, 7] rfl ⟨0, by omega⟩ (fun s => [(10, .int .i64 s.1), (9, .int .i64 (decTo g s.1 0 : Nat))])
    (fun s => [blk b3 36 [.slice (some ⟨bA, 0, none⟩) (lrKs g).length cA, .slice (some ⟨bH, 0, none⟩) (lrKs g).length cH, .slice AC (claA g).length cC, .int .i64 (decN g : Nat)], actS (some ⟨bA, 0, none⟩) (lrKs g).length cA acs (actA g), actB acs (actA g), gotS (some ⟨bH, 0, none⟩) (lrKs g).length cH hcs (gotA g), gotB hcs (gotA g), blk b5 41 [.slice AK (lrKs g).length cK, .slice (some ⟨bG, 0, none⟩) (lrKs g).length cG], gotS (some ⟨bG, 0, none⟩) (lrKs g).length cG bcs (lrGs g), gotB bcs (lrGs g), osl 53 1 (.slice (some ⟨bX, 0, none⟩) (lrKs g).length cX) (lrKs g).length (rowC xcs (rowVs D X)), rowO xcs D X, bun (innB D X), blk bg 27 [.slice A0 g.Terms.length c0, .slice A1 g.Levels.length c1, .slice A2 g.Pats.length c2, .slice A3 g.Nons.length c3, .slice A4 g.Prods.length c4]]) (fun s => (lrKs g).length - s.1) ?_ ?_ ?_
  · repeat' (first | exact Sub.nil _ | refine Sub.cons rfl ?_)
  · repeat' (first | exact Ent.nil _ | refine Ent.tak tk ?_ | refine Ent.blkC tc rfl ?_)
  rintro ⟨s, hs⟩
  simp only at hs ⊢
  repeat' (first | refine e_nil ?_ | ((refine e_op ?_); (first | refine o_n (peval_sound rfl) rfl ?_ | refine o_n (nl rfl rfl tc rfl) rfl ?_)) | refine s_seq ?_ | refine s_region ?_)
  by_cases hlt : s < (lrKs g).length
  · rw [decide_eq_true (p := (s : Int) < ((lrKs g).length : Int)) (by omega)]
    have hsA : s < (actA g).length := by omega
    have hsG : s < (lrGs g).length := by omega
    have hsH : s < (gotA g).length := by omega
    have hsG' : s < (lrKs g).length := hlt
    have hsX : s < X.length := by omega
    have hrow := hF.row s hsG
    have hrA : (actA g)[s].length = g.Terms.length := by rw [actA_get, actRow_len]
    have hPs := hXP s hsX
    have hgd : (gotA g)[s] = (lrGs g)[s].drop g.Terms.length := gotA_get hsH hsG
    have hgdl : (gotA g)[s].length = (lrGs g)[s].length - g.Terms.length := by rw [hgd, List.length_drop]
    obtain ⟨ra, hra⟩ := hAA s (by omega) hsA (by omega)
    obtain ⟨rg, hrg⟩ := hGA s (by omega) hsG (by omega)
    obtain ⟨rx, hrx⟩ := x_addr hal hD hDr hXA hsX (by omega)
    have hlA : ∀ e by_ z, loadL ⟨.slice e, 1, by_, z⟩ (rowC acs (actA g)) (0 + s * 1) = some (.slice (some ⟨ra, 0, none⟩) g.Terms.length (acs[s]'(by omega)).2) := fun e by_ z => by
      have := rowC_load la hsA (e := e) (bytes := by_) (z := z)
      rw [hra, hrA] at this; exact this
    have hlG : ∀ e by_ z, loadL ⟨.slice e, 1, by_, z⟩ (rowC bcs (lrGs g)) (0 + s * 1) = some (.slice (some ⟨rg, 0, none⟩) (lrGs g)[s].length (bcs[s]'(by omega)).2) := fun e by_ z => by
      have := rowC_load hb hsG (e := e) (bytes := by_) (z := z)
      rw [hrg] at this; exact this
    have hlH : ∀ e by_ z, loadL ⟨.slice e, 1, by_, z⟩ (rowC hcs (gotA g)) (0 + s * 1) = some (.slice (hcs[s]'(by omega)).1 (gotA g)[s].length (hcs[s]'(by omega)).2) := fun e by_ z => rowC_load lg hsH (e := e) (bytes := by_) (z := z)
    repeat' (first | refine s_seq ?_ | refine s_block ?_ | refine s_skip ?_ | refine s_true rfl ?_)
    refine s_drawU [25] Tryd.mixed (by decide +kernel) ?_
    repeat' (((first | refine l_n (peval_sound rfl) rfl ?_ rfl ?_ | refine l_n (nl rfl rfl tc rfl) rfl ?_ rfl ?_); · (exact Ent.refl _)))
    refine l_n (n_index rfl rfl rfl rfl s rfl hlt) rfl (Ent.refl _) rfl ?_
    refine l_n (no rfl rfl to (hlA _ _ _)) rfl (Ent.refl _) rfl ?_
    repeat' (((first | refine l_n (peval_sound rfl) rfl ?_ rfl ?_ | refine l_n (nl rfl rfl tc rfl) rfl ?_ rfl ?_); · (exact Ent.refl _)))
    rw [show ((g.Terms.length : Int) != (g.Terms.length : Int)) = false by simp]
    repeat' (((first | refine l_ny rfl (peval_sound rfl) rfl ?_ rfl ?_ | refine l_ny rfl (nl rfl rfl tc rfl) rfl ?_ rfl ?_); · (exact Ent.refl _)))
    refine l_ny rfl (n_index rfl rfl rfl rfl s rfl hlt) rfl (Ent.refl _) rfl ?_
    refine l_ny rfl (no rfl rfl to (hlH _ _ _)) rfl (Ent.refl _) rfl ?_
    repeat' (((first | refine l_ny rfl (peval_sound rfl) rfl ?_ rfl ?_ | refine l_ny rfl (nl rfl rfl tc rfl) rfl ?_ rfl ?_); · (exact Ent.refl _)))
    refine l_ny rfl (n_index rfl rfl rfl rfl s rfl hsG') rfl (Ent.refl _) rfl ?_
    refine l_ny rfl (no rfl rfl to (hlG _ _ _)) rfl (Ent.refl _) rfl ?_
    repeat' (((first | refine l_ny rfl (peval_sound rfl) rfl ?_ rfl ?_ | refine l_ny rfl (nl rfl rfl tc rfl) rfl ?_ rfl ?_); · (exact Ent.refl _)))
    refine l_ny rfl (n_fromV g.Terms.length rfl rfl rfl rfl rfl (by omega)) rfl (Ent.refl _) rfl ?_
    rw [show (lrGs g)[s].length - g.Terms.length = ((lrGs g)[s].drop g.Terms.length).length from List.length_drop.symm]
    refine l_ey rfl rfl (o_call (eqInts_w (hcs[s]'(by omega)).1 _ (hcs[s]'(by omega)).2 _ (gotA g)[s] ((lrGs g)[s].drop g.Terms.length)) rfl .nil (Can.and (can_brow (ei := 3) (sz := 1) (f := fun l : List Int => l.map (Value.int .i64)) lg (.s (.s (.s (.s .z)))) hsH (fun E => can_ints .z (fun x hx => by rw [hgd] at hx; exact gotM_rng h0 hsG x (List.mem_of_mem_drop hx)) (by omega))) (by rw [List.length_drop, ← hrg]; exact can_drop (.s (.s (.s (.s (.s (.s (.s .z))))))) hb hsG (gotM_rng h0 hsG) (by omega) g.Terms.length)) rfl ?_)
    rintro v V ⟨rfl, rfl⟩
    rw [decide_eq_true hgd]
    refine ⟨Ent.refl _, ?_⟩
    simp only [List.nil_append]
    repeat' (first | refine l_nil ?_ | ((first | refine l_n (peval_sound rfl) rfl ?_ rfl ?_ | refine l_ny rfl (peval_sound rfl) rfl ?_ rfl ?_); · (exact Ent.refl _)))
    repeat' (first | refine e_nil ?_ | ((refine e_op ?_); (refine o_n (peval_sound rfl) rfl ?_)) | refine s_seq ?_ | refine s_region ?_ | refine s_block ?_ | refine s_skip ?_ | refine s_false rfl ?_)
    refine s_loopK (ι := {t : Nat // t ≤ g.Terms.length}) [1, 3, 5, 7, 10] rfl ⟨0, by omega⟩ (fun t => [(11, .int .i64 t.1), (9, .int .i64 (decTo g s t.1 : Nat))])
      (fun t => [blk b3 36 [.slice (some ⟨bA, 0, none⟩) (lrKs g).length cA, .slice (some ⟨bH, 0, none⟩) (lrKs g).length cH, .slice AC (claA g).length cC, .int .i64 (decN g : Nat)], actS (some ⟨bA, 0, none⟩) (lrKs g).length cA acs (actA g), actB acs (actA g), gotS (some ⟨bH, 0, none⟩) (lrKs g).length cH hcs (gotA g), gotB hcs (gotA g), blk b5 41 [.slice AK (lrKs g).length cK, .slice (some ⟨bG, 0, none⟩) (lrKs g).length cG], gotS (some ⟨bG, 0, none⟩) (lrKs g).length cG bcs (lrGs g), gotB bcs (lrGs g), osl 53 1 (.slice (some ⟨bX, 0, none⟩) (lrKs g).length cX) (lrKs g).length (rowC xcs (rowVs D X)), rowO xcs D X, bun (innB D X), blk bg 27 [.slice A0 g.Terms.length c0, .slice A1 g.Levels.length c1, .slice A2 g.Pats.length c2, .slice A3 g.Nons.length c3, .slice A4 g.Prods.length c4]]) (fun t => g.Terms.length - t.1) ?_ ?_ ?_
    · repeat' (first | exact Sub.nil _ | refine Sub.cons rfl ?_)
    · repeat' (first | exact Ent.nil _ | refine Ent.tak tk ?_)
    rintro ⟨t, ht⟩
    simp only at ht ⊢
    repeat' (first | refine e_nil ?_ | ((refine e_op ?_); (first | refine o_n (peval_sound rfl) rfl ?_ | refine o_n (nl rfl rfl tc rfl) rfl ?_)) | refine s_seq ?_ | refine s_region ?_)
    by_cases htl : t < g.Terms.length
    · rw [decide_eq_true (p := (t : Int) < (g.Terms.length : Int)) (by omega)]
      have htA : t < (actA g)[s].length := by omega
      have htG : t < (lrGs g)[s].length := by omega
      have hva : ∀ z, loadL ⟨.struct [(0, 1), (1, 1)], 2, 16, z⟩ (encAs (actA g)[s]) (0 + t * 2) = some (.agg (encA (actC g s t)).toArray) := fun z => by
        rw [encAs_load htA]
        have : ∀ (R : List Acn) (h : t < R.length), R = actRow g s → R[t] = actC g s t := fun R h e => by subst e; exact actRow_get h
        rw [this _ htA (actA_get hsA)]
      have hvn : loadL ⟨.int .i64, 1, 8, [.int .i64 0]⟩ ((fun l : List Int => l.map (Value.int .i64)) (lrGs g)[s]) (0 + t * 1) = some (.int .i64 (shN g s t)) := by
        refine load_cell rfl ?_
        rw [Nat.zero_add, Nat.mul_one, List.getElem?_map, List.getElem?_eq_getElem htG, shN_at hsG htG]; rfl
      repeat' (first | ((refine e_op ?_); (first | refine o_n (peval_sound rfl) rfl ?_ | refine o_n (nl rfl rfl tc rfl) rfl ?_)) | refine s_seq ?_ | refine s_region ?_ | refine s_block ?_ | refine s_skip ?_ | refine s_true rfl ?_)
      refine e_op (o_n (n_index rfl rfl rfl rfl s rfl hlt) rfl ?_)
      refine e_op (o_n (no rfl rfl to (hlA _ _ _)) rfl ?_)
      repeat' (((refine e_op ?_); (refine o_n (peval_sound rfl) rfl ?_)))
      refine e_op (o_n (n_index rfl rfl rfl rfl t rfl htl) rfl ?_)
      refine e_op (o_n (n_load_row rfl rfl (TakA.tak (A := actB acs (actA g))) la s hsA hra (hva _)) rfl ?_)
      repeat' (first | refine e_nil ?_ | ((refine e_op ?_); (first | refine o_n (peval_sound rfl) rfl ?_ | refine o_n (nl rfl rfl tc rfl) rfl ?_ | refine o_storeC rfl rfl rfl rfl tc uc rfl rfl rfl ?_ | refine o_alloc rfl rfl (fun _ => ?_))) | refine s_seq ?_ | refine s_region ?_)
      refine e_op (o_n (n_index rfl rfl rfl rfl s rfl hsG') rfl ?_)
      refine e_op (o_n (no rfl rfl to (hlG _ _ _)) rfl ?_)
      repeat' (((refine e_op ?_); (refine o_n (peval_sound rfl) rfl ?_)))
      refine e_op (o_n (n_index rfl rfl rfl rfl t rfl htG) rfl ?_)
      refine e_op (o_n (n_load_row rfl rfl (TakA.tak (A := gotB bcs (lrGs g))) hb s hsG hrg hvn) rfl ?_)
      repeat' (first | refine e_nil ?_ | ((refine e_op ?_); (refine o_n (peval_sound rfl) rfl ?_)) | refine s_seq ?_ | refine s_region ?_ | refine s_block ?_)
      rename_i b12
      have hXlen : ∀ (k : Nat) (hk : k < X[s].length), X[s][k].length = g.Terms.length ∨ X[s][k] = [] := fun k hk => by
        rw [hXv s k hsX hk]
        exact laRow_len h0 s k
      refine s_loopK (ι := {k : Nat // k ≤ g.Prods.length}) [1, 3, 5, 7, 9, 10, 11, 12, 13] rfl ⟨0, by omega⟩ (fun k => [(17, .int .i64 k.1), (14, .int .i64 ((allN g s t k.1).r : Nat)), (15, .bool (allN g s t k.1).a), (16, .int .i64 ((allN g s t k.1).b : Nat))])
        (fun _ => [blk b12 51 (encA (actC g s t)), blk b3 36 [.slice (some ⟨bA, 0, none⟩) (lrKs g).length cA, .slice (some ⟨bH, 0, none⟩) (lrKs g).length cH, .slice AC (claA g).length cC, .int .i64 (decN g : Nat)], actS (some ⟨bA, 0, none⟩) (lrKs g).length cA acs (actA g), actB acs (actA g), gotS (some ⟨bH, 0, none⟩) (lrKs g).length cH hcs (gotA g), gotB hcs (gotA g), blk b5 41 [.slice AK (lrKs g).length cK, .slice (some ⟨bG, 0, none⟩) (lrKs g).length cG], gotS (some ⟨bG, 0, none⟩) (lrKs g).length cG bcs (lrGs g), gotB bcs (lrGs g), osl 53 1 (.slice (some ⟨bX, 0, none⟩) (lrKs g).length cX) (lrKs g).length (rowC xcs (rowVs D X)), rowO xcs D X, bun (innB D X), blk bg 27 [.slice A0 g.Terms.length c0, .slice A1 g.Levels.length c1, .slice A2 g.Pats.length c2, .slice A3 g.Nons.length c3, .slice A4 g.Prods.length c4]]) (fun k => g.Prods.length - k.1) ?_ ?_ ?_
      · repeat' (first | exact Sub.nil _ | refine Sub.cons rfl ?_)
      · repeat' (first | exact Ent.nil _ | refine Ent.tak tk ?_ | refine Ent.blkC tc rfl ?_)
      · rintro ⟨k, hk⟩
        simp only at hk ⊢
        have hrk := (allN_spec g s t k)
        obtain ⟨_, _, _, _, _, hrk, _⟩ := hrk
        have hns : allN g s t (k + 1) = if lab g s t k then (if k = 0 then ⟨true, (allN g s t k).r, (allN g s t k).b⟩ else ⟨(allN g s t k).a, (allN g s t k).r + 1, k⟩) else allN g s t k := rfl
        generalize hye : allN g s t k = y at hrk hns ⊢
        obtain ⟨ya, yr, yb⟩ := y
        simp only at hrk hns ⊢
        repeat' (first | refine e_nil ?_ | ((refine e_op ?_); (first | refine o_n (peval_sound rfl) rfl ?_ | refine o_n (nl rfl rfl tc rfl) rfl ?_)) | refine s_seq ?_ | refine s_region ?_)
        by_cases hkl : k < g.Prods.length
        · rw [decide_eq_true (p := (k : Int) < (g.Prods.length : Int)) (by omega)]
          have hkX : k < X[s].length := by omega
          have hlb : lab g s t k = X[s][k].getD t false := by unfold lab; rw [hXv s k hsX hkX]
          repeat' (first | ((refine e_op ?_); (refine o_n (peval_sound rfl) rfl ?_)) | refine s_seq ?_ | refine s_region ?_ | refine s_block ?_ | refine s_skip ?_ | refine s_true rfl ?_)
          refine e_op (o_n (n_index rfl rfl rfl rfl s rfl hlt) rfl ?_)
          refine e_op (o_n (no rfl rfl to (x_load hal hD hDr hsX hPs hrx)) rfl ?_)
          repeat' (((refine e_op ?_); (refine o_n (peval_sound rfl) rfl ?_)))
          refine e_op (o_n (n_index rfl rfl rfl rfl k rfl hkl) rfl ?_)
          refine e_op (o_n (n_xcell rfl rfl (TakA.tak (A := rowO xcs D X)) hal hD hDr hsX hrx hkX rfl rfl) rfl ?_)
          repeat' (((refine e_op ?_); (refine o_n (peval_sound rfl) rfl ?_)))
          by_cases hlX : X[s][k].length = 0
          · have hlb2 : lab g s t k = false := by rw [hlb, List.eq_nil_of_length_eq_zero hlX]; rfl
            rw [hlb2] at hns
            simp only [Bool.false_eq_true, if_false] at hns
            rw [decide_eq_false (p := (X[s][k].length : Int) > (t : Int)) (by omega)]
            repeat' (first | refine e_nil ?_ | ((refine e_op ?_); (refine o_n (peval_sound rfl) rfl ?_)) | refine e_noU rfl rfl rfl ?_ | refine s_region ?_ | refine s_end ?_ | refine s_skip ?_ | refine s_false rfl ?_)
            refine s_back ⟨⟨k + 1, by omega⟩, by simp only; omega, ?_, Ent.refl _⟩
            simp only [hns]
            repeat' (first | exact Sub.nil _ | refine Sub.cons rfl ?_ | refine Sub.consE rfl ?_ ?_)
            exact inc (i := k) (by omega)
          · have hlT : t < X[s][k].length := by rcases hXlen k hkX with h | h; omega; rw [h] at hlX; exact absurd rfl hlX
            obtain ⟨bxi, hbxi⟩ := hXI s (by omega) hsX k (by have := hDr s (by omega) hsX; omega) hkX (by omega)
            have hvx := loadB (r := X[s][k]) (j := t) (o := 0 + t * 1) hlT (by omega) (bytes := 1) (z := [.bool false])
            rw [← hlb] at hvx
            rw [decide_eq_true (p := (X[s][k].length : Int) > (t : Int)) (by omega), hbxi]
            repeat' (((refine e_yes rfl ?_); (refine o_n (peval_sound rfl) rfl ?_)))
            refine e_yes rfl (o_n (n_index rfl rfl rfl rfl s rfl hlt) rfl ?_)
            refine e_yes rfl (o_n (no rfl rfl to (x_load hal hD hDr hsX hPs hrx)) rfl ?_)
            repeat' (((refine e_yes rfl ?_); (refine o_n (peval_sound rfl) rfl ?_)))
            refine e_yes rfl (o_n (n_index rfl rfl rfl rfl k rfl hkl) rfl ?_)
            refine e_yes rfl (o_n (n_xcell rfl rfl (TakA.tak (A := rowO xcs D X)) hal hD hDr hsX hrx hkX rfl rfl) rfl ?_)
            rw [hbxi]
            repeat' (((refine e_yes rfl ?_); (refine o_n (peval_sound rfl) rfl ?_)))
            refine e_yes rfl (o_n (n_index rfl rfl rfl rfl t rfl hlT) rfl ?_)
            refine e_yes rfl (o_n (n_load_inn rfl rfl (TakA.tak (A := bun (innB D X))) hD s hsX (hDr s (by omega) hsX) k hkX hbxi hvx) rfl ?_)
            cases hlb2 : lab g s t k with
            | false =>
              rw [hlb2] at hns
              simp only [Bool.false_eq_true, if_false] at hns
              repeat' (first | refine e_nil ?_ | ((refine e_op ?_); (refine o_n (peval_sound rfl) rfl ?_)) | refine s_region ?_ | refine s_end ?_ | refine s_skip ?_ | refine s_false rfl ?_)
              refine s_back ⟨⟨k + 1, by omega⟩, by simp only; omega, ?_, Ent.refl _⟩
              simp only [hns]
              repeat' (first | exact Sub.nil _ | refine Sub.cons rfl ?_ | refine Sub.consE rfl ?_ ?_)
              exact inc (i := k) (by omega)
            | true =>
              rw [hlb2, if_pos rfl] at hns
              repeat' (first | refine e_nil ?_ | ((refine e_op ?_); (refine o_n (peval_sound rfl) rfl ?_)) | refine s_seq ?_ | refine s_region ?_ | refine s_true rfl ?_)
              by_cases hk0 : k = 0
              · rw [if_pos hk0] at hns
                rw [show ((k : Int) == 0) = true by rw [beq_iff_eq]; omega]
                repeat' (first | refine e_nil ?_ | ((refine e_op ?_); (refine o_n (peval_sound rfl) rfl ?_)) | refine s_region ?_ | refine s_end ?_ | refine s_true rfl ?_)
                refine s_back ⟨⟨k + 1, by omega⟩, by simp only; omega, ?_, Ent.refl _⟩
                simp only [hns]
                repeat' (first | exact Sub.nil _ | refine Sub.cons rfl ?_ | refine Sub.consE rfl ?_ ?_)
                exact inc (i := k) (by omega)
              · rw [if_neg hk0] at hns
                rw [show ((k : Int) == 0) = false by rw [beq_eq_false_iff_ne]; omega]
                repeat' (first | refine e_nil ?_ | ((refine e_op ?_); (refine o_n (peval_sound rfl) rfl ?_)) | refine s_seq ?_ | refine s_region ?_ | refine s_end ?_ | refine s_false rfl ?_)
                refine s_back ⟨⟨k + 1, by omega⟩, by simp only; omega, ?_, Ent.refl _⟩
                simp only [hns]
                repeat' (first | exact Sub.nil _ | refine Sub.cons rfl ?_ | refine Sub.consE rfl ?_ ?_)
                · exact inc (i := k) (by omega)
                · exact inc (i := yr) (by omega)
        rw [decide_eq_false (p := (k : Int) < (g.Prods.length : Int)) (by omega)]
        obtain rfl : k = g.Prods.length := by omega
        have hcb := cla_all hcl hlt htl
        have hall := all_cell hcb
        have hds' := decTo_succ g s t
        have hdl := decTo_le g s t
        have hbd : s * g.Terms.length + t ≤ 512 * 48 + 48 := by
          have := Nat.mul_le_mul (show s ≤ 512 by omega) hT; omega
        clear hns
        rw [hye] at hall
        simp only at hall
        repeat' (first | ((refine e_op ?_); (refine o_n (peval_sound rfl) rfl ?_)) | refine s_seq ?_ | refine s_region ?_ | refine s_exit ?_ | refine s_false rfl ?_ | refine x_hit ?_ | refine x_code ?_ | refine x_back ?_)
        by_cases hc1 : 0 ≤ shN g s t ∧ yr = 1
        · obtain ⟨hdb, hor⟩ := hall.1 hc1
          have hds2 : decTo g s (t + 1) = decTo g s t + 1 := by rw [hds', hdb]; rfl
          have hwd : IntKind.i64.wrap (((decTo g s t : Nat) : Int) + 1) = ((decTo g s t + 1 : Nat) : Int) := by rw [wrap_i64] <;> omega
          rw [show decide (shN g s t ≥ 0) = true by rw [decide_eq_true_eq]; exact hc1.1]
          repeat' (first | refine e_nil ?_ | ((first | refine e_op ?_ | refine e_yes rfl ?_); (refine o_n (peval_sound rfl) rfl ?_)))
          rw [show ((yr : Int) == 1) = true by rw [beq_iff_eq]; omega]
          repeat' (first | refine e_nil ?_ | ((refine e_op ?_); (first | refine o_n (peval_sound rfl) rfl ?_ | refine o_n (nl rfl rfl tc rfl) rfl ?_)) | refine s_seq ?_ | refine s_region ?_ | refine s_true rfl ?_)
          rw [hwd]
          skip
          refine e_op (o_n (n_neq51 (a := actC g s t) (b := ac0) rfl rfl) rfl ?_)
          by_cases h1 : actC g s t = ac0
          · rw [decide_eq_true h1]
            repeat' (first | refine e_nil ?_ | ((refine e_op ?_); (refine o_n (peval_sound rfl) rfl ?_)) | refine e_noU rfl rfl rfl ?_ | refine s_region ?_ | refine s_skip ?_ | refine s_exit ?_ | refine s_false rfl ?_ | refine x_hit ?_ | refine x_code ?_)
            refine s_back ⟨⟨t + 1, by omega⟩, by simp only; omega, ?_, ?_⟩
            · simp only [hds2]
              repeat' (first | exact Sub.nil _ | refine Sub.cons rfl ?_ | refine Sub.consE rfl ?_ ?_)
              exact inc (i := t) (by omega)
            · repeat' (first | exact Ent.nil _ | refine Ent.tak tk ?_)
          · rw [decide_eq_false h1]
            repeat' (((first | refine e_op ?_ | refine e_yes rfl ?_); (first | refine o_n (peval_sound rfl) rfl ?_ | refine o_n (nl rfl rfl tc rfl) rfl ?_)))
            refine e_yes rfl (o_n (n_neq51 (a := actC g s t) (b := ⟨1, shN g s t⟩) rfl rfl) rfl ?_)
            by_cases h2 : actC g s t = ⟨1, shN g s t⟩
            · rw [decide_eq_true h2]
              repeat' (first | refine e_nil ?_ | ((refine e_op ?_); (refine o_n (peval_sound rfl) rfl ?_)) | refine e_noU rfl rfl rfl ?_ | refine s_region ?_ | refine s_skip ?_ | refine s_exit ?_ | refine s_false rfl ?_ | refine x_hit ?_ | refine x_code ?_)
              refine s_back ⟨⟨t + 1, by omega⟩, by simp only; omega, ?_, ?_⟩
              · simp only [hds2]
                repeat' (first | exact Sub.nil _ | refine Sub.cons rfl ?_ | refine Sub.consE rfl ?_ ?_)
                exact inc (i := t) (by omega)
              · repeat' (first | exact Ent.nil _ | refine Ent.tak tk ?_)
            · rw [decide_eq_false h2]
              repeat' (((first | refine e_op ?_ | refine e_yes rfl ?_); (first | refine o_n (peval_sound rfl) rfl ?_ | refine o_n (nl rfl rfl tc rfl) rfl ?_)))
              refine e_yes rfl (o_n (n_neq51 (a := actC g s t) (b := ⟨2, yb⟩) rfl rfl) rfl ?_)
              rw [decide_eq_true (hor.elim (fun h => absurd h h1) (fun h => h.elim (fun h => absurd h h2) id))]
              repeat' (first | refine e_nil ?_ | ((refine e_op ?_); (refine o_n (peval_sound rfl) rfl ?_)) | refine s_region ?_ | refine s_skip ?_ | refine s_exit ?_ | refine s_false rfl ?_ | refine x_hit ?_ | refine x_code ?_)
              refine s_back ⟨⟨t + 1, by omega⟩, by simp only; omega, ?_, ?_⟩
              · simp only [hds2]
                repeat' (first | exact Sub.nil _ | refine Sub.cons rfl ?_ | refine Sub.consE rfl ?_ ?_)
                exact inc (i := t) (by omega)
              · repeat' (first | exact Ent.nil _ | refine Ent.tak tk ?_)
        · obtain ⟨hdb, hr1, hya, hac⟩ := hall.2 hc1
          have hds2 : decTo g s (t + 1) = decTo g s t := by rw [hds', hdb]; rfl
          unfold wantA at hac
          simp only at hac
          by_cases hs0 : 0 ≤ shN g s t
          · have hyr : yr = 0 := by
              by_cases h : yr = 1
              · exact absurd ⟨hs0, h⟩ hc1
              · omega
            subst hyr
            have hya2 : ya = false := by
              cases ya with
              | false => rfl
              | true => exact absurd hs0 (hya rfl).2
            subst hya2
            simp only [Bool.false_eq_true, if_false, if_pos hs0, Nat.zero_ne_one] at hac
            rw [show decide (shN g s t ≥ 0) = true by rw [decide_eq_true_eq]; exact hs0]
            repeat' (first | refine e_nil ?_ | ((first | refine e_op ?_ | refine e_yes rfl ?_); (first | refine o_n (peval_sound rfl) rfl ?_ | refine o_storeC rfl rfl rfl rfl tc uc rfl rfl rfl ?_ | refine o_alloc rfl rfl (fun _ => ?_))) | refine s_seq ?_ | refine s_region ?_ | refine s_skip ?_ | refine s_false rfl ?_)
            rw [show (((0 : Nat) : Int) == 1) = false from rfl]
            skip
            rw [show decide (shN g s t ≥ 0) = true by rw [decide_eq_true_eq]; exact hs0]
            repeat' (first | refine e_nil ?_ | ((refine e_op ?_); (first | refine o_n (peval_sound rfl) rfl ?_ | refine o_n (nl rfl rfl tc rfl) rfl ?_ | refine o_storeC rfl rfl rfl rfl tc uc rfl rfl rfl ?_)) | refine s_seq ?_ | refine s_region ?_ | refine s_skip ?_ | refine s_true rfl ?_ | refine s_false rfl ?_)
            refine e_op (o_n (n_neq51 (a := actC g s t) (b := ⟨1, shN g s t⟩) rfl rfl) rfl ?_)
            rw [decide_eq_true hac]
            repeat' (first | refine e_nil ?_ | ((first | refine e_op ?_ | refine e_yes rfl ?_); (refine o_n (peval_sound rfl) rfl ?_)) | refine e_noU rfl rfl rfl ?_ | refine e_noN rfl rfl ?_ | refine s_region ?_ | refine s_end ?_ | refine s_skip ?_ | refine s_false rfl ?_)
            refine s_back ⟨⟨t + 1, by omega⟩, by simp only; omega, ?_, ?_⟩
            · simp only [hds2]
              repeat' (first | exact Sub.nil _ | refine Sub.cons rfl ?_ | refine Sub.consE rfl ?_ ?_)
              exact inc (i := t) (by omega)
            · repeat' (first | exact Ent.nil _ | refine Ent.tak tk ?_)
          · by_cases hyr : yr = 1
            · subst hyr
              have hya2 : ya = false := by
                cases ya with
                | false => rfl
                | true => exact absurd (hya rfl).1 (by decide)
              subst hya2
              simp only [Bool.false_eq_true, if_false, if_true] at hac
              rw [show decide (shN g s t ≥ 0) = false by rw [decide_eq_false_iff_not]; omega]
              repeat' (first | refine e_nil ?_ | ((refine e_op ?_); (first | refine o_n (peval_sound rfl) rfl ?_ | refine o_storeC rfl rfl rfl rfl tc uc rfl rfl rfl ?_ | refine o_alloc rfl rfl (fun _ => ?_))) | refine e_noU rfl rfl rfl ?_ | refine s_seq ?_ | refine s_region ?_ | refine s_skip ?_ | refine s_false rfl ?_)
              rw [show decide (shN g s t ≥ 0) = false by rw [decide_eq_false_iff_not]; omega]
              repeat' (first | refine e_nil ?_ | ((refine e_op ?_); (first | refine o_n (peval_sound rfl) rfl ?_ | refine o_n (nl rfl rfl tc rfl) rfl ?_ | refine o_storeC rfl rfl rfl rfl tc uc rfl rfl rfl ?_)) | refine s_seq ?_ | refine s_region ?_ | refine s_skip ?_ | refine s_true rfl ?_ | refine s_false rfl ?_)
              refine e_op (o_n (n_neq51 (a := actC g s t) (b := ⟨2, yb⟩) rfl rfl) rfl ?_)
              rw [decide_eq_true hac]
              repeat' (first | refine e_nil ?_ | ((first | refine e_op ?_ | refine e_yes rfl ?_); (refine o_n (peval_sound rfl) rfl ?_)) | refine e_noU rfl rfl rfl ?_ | refine e_noN rfl rfl ?_ | refine s_region ?_ | refine s_end ?_ | refine s_skip ?_ | refine s_false rfl ?_)
              refine s_back ⟨⟨t + 1, by omega⟩, by simp only; omega, ?_, ?_⟩
              · simp only [hds2]
                repeat' (first | exact Sub.nil _ | refine Sub.cons rfl ?_ | refine Sub.consE rfl ?_ ?_)
                exact inc (i := t) (by omega)
              · repeat' (first | exact Ent.nil _ | refine Ent.tak tk ?_)
            · have hyr0 : yr = 0 := by omega
              subst hyr0
              cases ya with
              | false =>
                simp only [Bool.false_eq_true, if_false, Nat.zero_ne_one, if_neg hs0] at hac
                rw [show decide (shN g s t ≥ 0) = false by rw [decide_eq_false_iff_not]; omega]
                repeat' (first | refine e_nil ?_ | ((refine e_op ?_); (first | refine o_n (peval_sound rfl) rfl ?_ | refine o_storeC rfl rfl rfl rfl tc uc rfl rfl rfl ?_ | refine o_alloc rfl rfl (fun _ => ?_))) | refine e_noU rfl rfl rfl ?_ | refine s_seq ?_ | refine s_region ?_ | refine s_skip ?_ | refine s_false rfl ?_)
                rw [show decide (shN g s t ≥ 0) = false by rw [decide_eq_false_iff_not]; omega]
                repeat' (first | refine e_nil ?_ | ((refine e_op ?_); (first | refine o_n (peval_sound rfl) rfl ?_ | refine o_n (nl rfl rfl tc rfl) rfl ?_)) | refine s_seq ?_ | refine s_region ?_ | refine s_skip ?_ | refine s_false rfl ?_)
                refine e_op (o_n (n_neq51 (a := actC g s t) (b := ac0) rfl rfl) rfl ?_)
                rw [decide_eq_true hac]
                repeat' (first | refine e_nil ?_ | ((first | refine e_op ?_ | refine e_yes rfl ?_); (refine o_n (peval_sound rfl) rfl ?_)) | refine e_noU rfl rfl rfl ?_ | refine e_noN rfl rfl ?_ | refine s_region ?_ | refine s_end ?_ | refine s_skip ?_ | refine s_false rfl ?_)
                refine s_back ⟨⟨t + 1, by omega⟩, by simp only; omega, ?_, ?_⟩
                · simp only [hds2]
                  repeat' (first | exact Sub.nil _ | refine Sub.cons rfl ?_ | refine Sub.consE rfl ?_ ?_)
                  exact inc (i := t) (by omega)
                · repeat' (first | exact Ent.nil _ | refine Ent.tak tk ?_)
              | true =>
                simp only [if_true] at hac
                rw [show decide (shN g s t ≥ 0) = false by rw [decide_eq_false_iff_not]; omega]
                repeat' (first | refine e_nil ?_ | ((refine e_op ?_); (first | refine o_n (peval_sound rfl) rfl ?_ | refine o_storeC rfl rfl rfl rfl tc uc rfl rfl rfl ?_ | refine o_alloc rfl rfl (fun _ => ?_))) | refine e_noU rfl rfl rfl ?_ | refine s_seq ?_ | refine s_region ?_ | refine s_skip ?_ | refine s_false rfl ?_)
                rw [show decide (shN g s t ≥ 0) = false by rw [decide_eq_false_iff_not]; omega]
                repeat' (first | refine e_nil ?_ | ((refine e_op ?_); (first | refine o_n (peval_sound rfl) rfl ?_ | refine o_n (nl rfl rfl tc rfl) rfl ?_ | refine o_storeC rfl rfl rfl rfl tc uc rfl rfl rfl ?_)) | refine s_seq ?_ | refine s_region ?_ | refine s_skip ?_ | refine s_true rfl ?_ | refine s_false rfl ?_)
                refine e_op (o_n (n_neq51 (a := actC g s t) (b := ⟨3, 0⟩) rfl rfl) rfl ?_)
                rw [decide_eq_true hac]
                repeat' (first | refine e_nil ?_ | ((first | refine e_op ?_ | refine e_yes rfl ?_); (refine o_n (peval_sound rfl) rfl ?_)))
                rw [show decide (shN g s t ≥ 0) = false by rw [decide_eq_false_iff_not]; omega]
                repeat' (first | refine e_nil ?_ | ((refine e_op ?_); (refine o_n (peval_sound rfl) rfl ?_)) | refine s_region ?_ | refine s_end ?_ | refine s_skip ?_ | refine s_false rfl ?_)
                refine s_back ⟨⟨t + 1, by omega⟩, by simp only; omega, ?_, ?_⟩
                · simp only [hds2]
                  repeat' (first | exact Sub.nil _ | refine Sub.cons rfl ?_ | refine Sub.consE rfl ?_ ?_)
                  exact inc (i := t) (by omega)
                · repeat' (first | exact Ent.nil _ | refine Ent.tak tk ?_)
    rw [decide_eq_false (p := (t : Int) < (g.Terms.length : Int)) (by omega)]
    obtain rfl : t = g.Terms.length := by omega
    repeat' (first | refine e_nil ?_ | ((refine e_op ?_); (refine o_n (peval_sound rfl) rfl ?_)) | refine s_region ?_ | refine s_end ?_ | refine s_exit ?_ | refine s_false rfl ?_ | refine x_hit ?_ | refine x_code ?_ | refine x_back ?_)
    refine s_back ⟨⟨s + 1, by omega⟩, by simp only; omega, ?_, Ent.refl _⟩
    simp only [decTo_next]
    repeat' (first | exact Sub.nil _ | refine Sub.cons rfl ?_ | refine Sub.consE rfl ?_ ?_)
    exact inc (i := s) (by omega)
  rw [decide_eq_false (p := (s : Int) < ((lrKs g).length : Int)) (by omega)]
  obtain rfl : s = (lrKs g).length := by omega
  repeat' (first | refine e_nil ?_ | ((refine e_op ?_); (first | refine o_n (peval_sound rfl) rfl ?_ | refine o_n (nl rfl rfl tc rfl) rfl ?_)) | refine s_seq ?_ | refine s_region ?_ | refine s_exit ?_ | refine s_false rfl ?_ | refine x_hit ?_ | refine x_code ?_ | refine x_back ?_)
  rw [show decTo g (lrKs g).length 0 = decN g from rfl]
  skip
  simp only [beq_self_eq_true]
  refine s_ret ⟨_, _, res1 rfl rfl, ⟨rfl, rfl⟩, Ent.nil _⟩

end Go.Proofs.YtcnpjhaedjncdaaDoor
