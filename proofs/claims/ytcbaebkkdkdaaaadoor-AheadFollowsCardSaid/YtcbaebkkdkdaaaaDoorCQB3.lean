/-
  The statement AheadFollows, walked.
-/
import Derived.Test.YtcbaebkkdkdaaaaDoorCQB1
import Derived.Test.YtcbaebkkdkdaaaaDoorCQB4
import Derived.Test.YtcbaebkkdkdaaaaDoorCQB2
import Derived.Test.YtcbaebkkdkdaaaaDoorAhBase5

namespace Go.Proofs.YtcbaebkkdkdaaaaDoor
set_option linter.all false
open Go.Proofs.YtcbaebkkdkdaaaaDoor.E

abbrev fz (g : Gram) : List Bool := List.replicate g.Terms.length false

attribute [local irreducible] EVX EVO EVL EV1 NEV
attribute [local irreducible] own osl exA rdA rdL
attribute [local irreducible] bldA mapA bun mapS
set_option maxRecDepth 10000
set_option maxHeartbeats 4000000

theorem aheadFollows_w (cs : List Value) (g : Gram) : Trip Tryd.prog 11 [.agg cs.toArray] (kGram.rd cs g) [] (fun v V => v = .bool true ∧ V = []) := by
  refine trip Tryd.tabOk Tryd.func11 rfl rfl rfl rfl ?_
  rintro w SM hG0
  obtain ⟨A0, A1, A2, A3, A4, c0, c1, c2, c3, c4, rfl, hG⟩ := kGram_open hG0
  repeat' (first | refine e_nil ?_ | ((first | refine e_op ?_ | refine e_yes rfl ?_); (first | refine o_n (peval_sound rfl) rfl ?_ | refine o_n (nl rfl rfl tc rfl) rfl ?_ | refine o_storeC rfl rfl rfl rfl tc uc rfl rfl rfl ?_ | refine o_box rfl rfl (fun _ => ?_) | refine o_box1 rfl rfl rfl (fun _ => ?_) | refine o_alloc rfl rfl (fun _ => ?_))) | refine e_noU rfl rfl rfl ?_ | refine e_noN rfl rfl ?_ | refine s_seq ?_ | refine s_region ?_ | refine s_end ?_ | refine s_skip ?_ | refine s_exit ?_ | refine s_true rfl ?_ | refine s_false rfl ?_ | refine x_hit ?_ | refine x_code ?_ | refine x_back ?_ | refine x_miss rfl ?_)
  rename_i bg
  refine e_op (o_call works20_w rfl .nil Can.tt rfl ?_)
  rintro v V ⟨rfl, rfl⟩
  simp only [List.nil_append]
  repeat' (first | refine e_nil ?_ | ((first | refine e_op ?_ | refine e_yes rfl ?_); (first | refine o_n (peval_sound rfl) rfl ?_ | refine o_n (nl rfl rfl tc rfl) rfl ?_ | refine o_storeC rfl rfl rfl rfl tc uc rfl rfl rfl ?_ | refine o_box rfl rfl (fun _ => ?_) | refine o_box1 rfl rfl rfl (fun _ => ?_) | refine o_alloc rfl rfl (fun _ => ?_))) | refine e_noU rfl rfl rfl ?_ | refine e_noN rfl rfl ?_ | refine s_seq ?_ | refine s_region ?_ | refine s_block ?_ | refine s_end ?_ | refine s_skip ?_ | refine s_exit ?_ | refine s_true rfl ?_ | refine s_false rfl ?_ | refine x_hit ?_ | refine x_code ?_ | refine x_back ?_ | refine x_miss rfl ?_)
  refine e_op (o_call (check_w _ g) rfl .nil (Can.ro hG0) rfl ?_)
  rintro v V ⟨rfl, rfl⟩
  simp only [List.nil_append]
  repeat' (first | refine e_nil ?_ | ((first | refine e_op ?_ | refine e_yes rfl ?_); (first | refine o_n (peval_sound rfl) rfl ?_ | refine o_n (nl rfl rfl tc rfl) rfl ?_ | refine o_storeC rfl rfl rfl rfl tc uc rfl rfl rfl ?_ | refine o_box rfl rfl (fun _ => ?_) | refine o_box1 rfl rfl rfl (fun _ => ?_) | refine o_alloc rfl rfl (fun _ => ?_))) | refine e_noU rfl rfl rfl ?_ | refine e_noN rfl rfl ?_ | refine s_seq ?_ | refine s_region ?_ | refine s_block ?_ | refine s_end ?_ | refine s_skip ?_ | refine s_exit ?_ | refine s_true rfl ?_ | refine s_false rfl ?_ | refine x_hit ?_ | refine x_code ?_ | refine x_back ?_ | refine x_miss rfl ?_)
  by_cases he : checkE g ≠ 0
  · rw [show (checkE g != 0) = true by simpa using he]
    repeat' (first | refine e_nil ?_ | ((first | refine e_op ?_ | refine e_yes rfl ?_); (first | refine o_n (peval_sound rfl) rfl ?_ | refine o_n (nl rfl rfl tc rfl) rfl ?_ | refine o_storeC rfl rfl rfl rfl tc uc rfl rfl rfl ?_ | refine o_box rfl rfl (fun _ => ?_) | refine o_box1 rfl rfl rfl (fun _ => ?_) | refine o_alloc rfl rfl (fun _ => ?_))) | refine e_noU rfl rfl rfl ?_ | refine e_noN rfl rfl ?_ | refine s_seq ?_ | refine s_region ?_ | refine s_block ?_ | refine s_end ?_ | refine s_skip ?_ | refine s_exit ?_ | refine s_true rfl ?_ | refine s_false rfl ?_ | refine x_hit ?_ | refine x_code ?_ | refine x_back ?_ | refine x_miss rfl ?_)
    refine s_ret ⟨_, _, res1 rfl rfl, ⟨rfl, rfl⟩, Ent.nil _⟩
  replace he : checkE g = 0 := Classical.not_not.1 he
  rw [show (checkE g != 0) = false by simpa using he]
  repeat' (first | refine e_nil ?_ | ((first | refine e_op ?_ | refine e_yes rfl ?_); (first | refine o_n (peval_sound rfl) rfl ?_ | refine o_n (nl rfl rfl tc rfl) rfl ?_ | refine o_storeC rfl rfl rfl rfl tc uc rfl rfl rfl ?_ | refine o_box rfl rfl (fun _ => ?_) | refine o_box1 rfl rfl rfl (fun _ => ?_) | refine o_alloc rfl rfl (fun _ => ?_))) | refine e_noU rfl rfl rfl ?_ | refine e_noN rfl rfl ?_ | refine s_seq ?_ | refine s_region ?_ | refine s_block ?_ | refine s_end ?_ | refine s_skip ?_ | refine s_exit ?_ | refine s_true rfl ?_ | refine s_false rfl ?_ | refine x_hit ?_ | refine x_code ?_ | refine x_back ?_ | refine x_miss rfl ?_)
  refine e_yes rfl (o_call (few20_w _ g) rfl .nil (Can.ro hG0) rfl ?_)
  rintro v V ⟨rfl, rfl⟩
  simp only [List.nil_append]
  repeat' (first | refine e_nil ?_ | ((first | refine e_op ?_ | refine e_yes rfl ?_); (first | refine o_n (peval_sound rfl) rfl ?_ | refine o_n (nl rfl rfl tc rfl) rfl ?_ | refine o_storeC rfl rfl rfl rfl tc uc rfl rfl rfl ?_ | refine o_box rfl rfl (fun _ => ?_) | refine o_box1 rfl rfl rfl (fun _ => ?_) | refine o_alloc rfl rfl (fun _ => ?_))) | refine e_noU rfl rfl rfl ?_ | refine e_noN rfl rfl ?_ | refine s_seq ?_ | refine s_region ?_ | refine s_block ?_ | refine s_end ?_ | refine s_skip ?_ | refine s_exit ?_ | refine s_true rfl ?_ | refine s_false rfl ?_ | refine x_hit ?_ | refine x_code ?_ | refine x_back ?_ | refine x_miss rfl ?_)
  by_cases hfew : ¬ (g.Prods.length : Int) ≤ 30
  · rw [decide_eq_false hfew]
    repeat' (first | refine e_nil ?_ | ((first | refine e_op ?_ | refine e_yes rfl ?_); (first | refine o_n (peval_sound rfl) rfl ?_ | refine o_n (nl rfl rfl tc rfl) rfl ?_ | refine o_storeC rfl rfl rfl rfl tc uc rfl rfl rfl ?_ | refine o_box rfl rfl (fun _ => ?_) | refine o_box1 rfl rfl rfl (fun _ => ?_) | refine o_alloc rfl rfl (fun _ => ?_))) | refine e_noU rfl rfl rfl ?_ | refine e_noN rfl rfl ?_ | refine s_seq ?_ | refine s_region ?_ | refine s_block ?_ | refine s_end ?_ | refine s_skip ?_ | refine s_exit ?_ | refine s_true rfl ?_ | refine s_false rfl ?_ | refine x_hit ?_ | refine x_code ?_ | refine x_back ?_ | refine x_miss rfl ?_)
    refine s_ret ⟨_, _, res1 rfl rfl, ⟨rfl, rfl⟩, Ent.nil _⟩
  replace hfew := Classical.not_not.1 hfew
  rw [decide_eq_true hfew]
  repeat' (first | refine e_nil ?_ | ((first | refine e_op ?_ | refine e_yes rfl ?_); (first | refine o_n (peval_sound rfl) rfl ?_ | refine o_n (nl rfl rfl tc rfl) rfl ?_ | refine o_storeC rfl rfl rfl rfl tc uc rfl rfl rfl ?_ | refine o_box rfl rfl (fun _ => ?_) | refine o_box1 rfl rfl rfl (fun _ => ?_) | refine o_alloc rfl rfl (fun _ => ?_))) | refine e_noU rfl rfl rfl ?_ | refine e_noN rfl rfl ?_ | refine s_seq ?_ | refine s_region ?_ | refine s_block ?_ | refine s_end ?_ | refine s_skip ?_ | refine s_exit ?_ | refine s_true rfl ?_ | refine s_false rfl ?_ | refine x_hit ?_ | refine x_code ?_ | refine x_back ?_ | refine x_miss rfl ?_)
  refine e_op (o_call (aheadOf_w _ g (fun _ => by omega)) rfl .nil (Can.ro hG0) rfl ?_)
  rintro v V ⟨AX, n, cX, acs, D, rfl, hn, hal, hD, hDr, rfl⟩
  simp only [List.cons_append, List.nil_append]
  repeat' (first | refine e_nil ?_ | ((first | refine e_op ?_ | refine e_yes rfl ?_); (first | refine o_n (peval_sound rfl) rfl ?_ | refine o_n (nl rfl rfl tc rfl) rfl ?_ | refine o_storeC rfl rfl rfl rfl tc uc rfl rfl rfl ?_ | refine o_box rfl rfl (fun _ => ?_) | refine o_box1 rfl rfl rfl (fun _ => ?_) | refine o_alloc rfl rfl (fun _ => ?_))) | refine e_noU rfl rfl rfl ?_ | refine e_noN rfl rfl ?_ | refine s_seq ?_ | refine s_region ?_ | refine s_block ?_ | refine s_end ?_ | refine s_skip ?_ | refine s_exit ?_ | refine s_true rfl ?_ | refine s_false rfl ?_ | refine x_hit ?_ | refine x_code ?_ | refine x_back ?_ | refine x_miss rfl ?_)
  rcases (lrE_vals he).symm with h5 | h0
  · rw [h5]
    repeat' (first | refine e_nil ?_ | ((first | refine e_op ?_ | refine e_yes rfl ?_); (first | refine o_n (peval_sound rfl) rfl ?_ | refine o_n (nl rfl rfl tc rfl) rfl ?_ | refine o_storeC rfl rfl rfl rfl tc uc rfl rfl rfl ?_ | refine o_box rfl rfl (fun _ => ?_) | refine o_box1 rfl rfl rfl (fun _ => ?_) | refine o_alloc rfl rfl (fun _ => ?_))) | refine e_noU rfl rfl rfl ?_ | refine e_noN rfl rfl ?_ | refine s_seq ?_ | refine s_region ?_ | refine s_block ?_ | refine s_end ?_ | refine s_skip ?_ | refine s_exit ?_ | refine s_true rfl ?_ | refine s_false rfl ?_ | refine x_hit ?_ | refine x_code ?_ | refine x_back ?_ | refine x_miss rfl ?_)
    refine s_ret ⟨_, _, res1 rfl rfl, ⟨rfl, rfl⟩, Ent.nil _⟩
  rw [h0]
  have hF := goF h0
  have hXP : ∀ (i : Nat) (hi : i < (laX g).length), (laX g)[i].length = g.Prods.length := fun i hi => by rw [laX_row h0 hi, YR_len]
  have hXP : ∀ (i : Nat) (hi : i < (laX g).length), (laX g)[i].length = g.Prods.length := fun i hi => by rw [laX_row h0 hi, YR_len]
  have hXv : ∀ (i k : Nat) (hi : i < (laX g).length) (hk : k < (laX g)[i].length), (laX g)[i][k] = laRow g i k := fun i k hi hk => laX_at h0 hi hk
  have hXn : (laX g).length = (lrKs g).length := laX_len h0
  generalize hXe : laX g = X at hXn hn hal hD hDr hXP hXv ⊢
  clear hXe
  subst hn
  have hL := hF.lim
  have hwf := hF.wf
  have hT := hL.t
  have hNo := hL.n
  have hPr := hL.p
  have hT1 := hwf.t
  have hN2 := hwf.n
  have hl0 := left0 hwf
  repeat' (first | refine e_nil ?_ | ((first | refine e_op ?_ | refine e_yes rfl ?_); (first | refine o_n (peval_sound rfl) rfl ?_ | refine o_n (nl rfl rfl tc rfl) rfl ?_ | refine o_storeC rfl rfl rfl rfl tc uc rfl rfl rfl ?_ | refine o_box rfl rfl (fun _ => ?_) | refine o_box1 rfl rfl rfl (fun _ => ?_) | refine o_alloc rfl rfl (fun _ => ?_))) | refine e_noU rfl rfl rfl ?_ | refine e_noN rfl rfl ?_ | refine s_seq ?_ | refine s_region ?_ | refine s_block ?_ | refine s_end ?_ | refine s_skip ?_ | refine s_exit ?_ | refine s_true rfl ?_ | refine s_false rfl ?_ | refine x_hit ?_ | refine x_code ?_ | refine x_back ?_ | refine x_miss rfl ?_)
  refine e_op (o_make rfl rfl rfl rfl g.Nons.length rfl rfl (by omega) (by omega) rfl (fun bF => ?_))
  repeat' (first | refine e_nil ?_ | ((first | refine e_op ?_ | refine e_yes rfl ?_); (first | refine o_n (peval_sound rfl) rfl ?_ | refine o_n (nl rfl rfl tc rfl) rfl ?_ | refine o_storeC rfl rfl rfl rfl tc uc rfl rfl rfl ?_ | refine o_box rfl rfl (fun _ => ?_) | refine o_box1 rfl rfl rfl (fun _ => ?_) | refine o_alloc rfl rfl (fun _ => ?_))) | refine e_noU rfl rfl rfl ?_ | refine e_noN rfl rfl ?_ | refine s_seq ?_ | refine s_region ?_ | refine s_block ?_ | refine s_end ?_ | refine s_skip ?_ | refine s_exit ?_ | refine s_true rfl ?_ | refine s_false rfl ?_ | refine x_hit ?_ | refine x_code ?_ | refine x_back ?_ | refine x_miss rfl ?_)
  refine s_loopK (ι := {x : Nat × AcL // x.1 ≤ g.Nons.length ∧ x.2.length = x.1}) [1, 3, 5, 6] rfl ⟨(0, []), by simp⟩ (fun x => [(7, .int .i64 x.1.1)])
    (fun x => [osl 70 1 (.slice (some ⟨bF, 0, none⟩) g.Nons.length g.Nons.length) g.Nons.length (rowC x.1.2 (List.replicate x.1.1 (fz g)) ++ List.replicate (g.Nons.length - x.1.1) nilV), bun (rowX cB 1 4 x.1.2 (List.replicate x.1.1 (fz g))), osl 69 1 (.slice AX X.length cX) X.length (rowC acs (rowVs D X)), rowO acs D X, bun (innB D X), blk bg 27 [.slice A0 g.Terms.length c0, .slice A1 g.Levels.length c1, .slice A2 g.Pats.length c2, .slice A3 g.Nons.length c3, .slice A4 g.Prods.length c4]]) (fun x => g.Nons.length - x.1.1) ?_ ?_ ?_
  · repeat' (first | exact Sub.nil _ | refine Sub.cons rfl ?_ | refine Sub.consE rfl ?_ ?_)
  · exact Ent.cons ent_bnil0
  rintro ⟨⟨k, acf⟩, hk, haf⟩
  simp only at hk haf ⊢
  have hafl : acf.length = (List.replicate k (fz g)).length := by rw [List.length_replicate]; exact haf
  have hfc : (rowC acf (List.replicate k (fz g))).length = k := by rw [rowC_len0 hafl, List.length_replicate]
  repeat' (first | refine e_nil ?_ | ((first | refine e_op ?_ | refine e_yes rfl ?_); (first | refine o_n (peval_sound rfl) rfl ?_ | refine o_n (nl rfl rfl tc rfl) rfl ?_ | refine o_storeC rfl rfl rfl rfl tc uc rfl rfl rfl ?_ | refine o_box rfl rfl (fun _ => ?_) | refine o_box1 rfl rfl rfl (fun _ => ?_) | refine o_alloc rfl rfl (fun _ => ?_))) | refine e_noU rfl rfl rfl ?_ | refine e_noN rfl rfl ?_ | refine s_seq ?_ | refine s_region ?_ | refine s_block ?_ | refine s_end ?_ | refine s_skip ?_ | refine s_exit ?_ | refine s_true rfl ?_ | refine s_false rfl ?_ | refine x_hit ?_ | refine x_code ?_ | refine x_back ?_ | refine x_miss rfl ?_)
  by_cases hlt : k < g.Nons.length
  · rw [decide_eq_true (p := (k : Int) < (g.Nons.length : Int)) (by omega)]
    repeat' (first | refine e_nil ?_ | ((first | refine e_op ?_ | refine e_yes rfl ?_); (first | refine o_n (peval_sound rfl) rfl ?_ | refine o_n (nl rfl rfl tc rfl) rfl ?_ | refine o_storeC rfl rfl rfl rfl tc uc rfl rfl rfl ?_ | refine o_box rfl rfl (fun _ => ?_) | refine o_box1 rfl rfl rfl (fun _ => ?_) | refine o_alloc rfl rfl (fun _ => ?_))) | refine e_noU rfl rfl rfl ?_ | refine e_noN rfl rfl ?_ | refine s_seq ?_ | refine s_region ?_ | refine s_block ?_ | refine s_end ?_ | refine s_skip ?_ | refine s_exit ?_ | refine s_true rfl ?_ | refine s_false rfl ?_ | refine x_hit ?_ | refine x_code ?_ | refine x_back ?_ | refine x_miss rfl ?_)
    refine e_op (o_make rfl rfl rfl rfl g.Terms.length rfl rfl (by omega) (by omega) rfl (fun bR => ?_))
    refine e_op (o_n (n_index rfl rfl rfl rfl k rfl hlt) rfl ?_)
    refine e_op (o_store_osl (vs := [.slice (some ⟨bR, 0, none⟩) g.Terms.length g.Terms.length]) rfl rfl rfl rfl rfl rfl (by rw [pad_len hfc hk]; simp only; omega) (.s .z) ?_)
    rw [pad_set1 hfc hlt]
    repeat' (first | refine e_nil ?_ | ((first | refine e_op ?_ | refine e_yes rfl ?_); (first | refine o_n (peval_sound rfl) rfl ?_ | refine o_n (nl rfl rfl tc rfl) rfl ?_ | refine o_storeC rfl rfl rfl rfl tc uc rfl rfl rfl ?_ | refine o_box rfl rfl (fun _ => ?_) | refine o_box1 rfl rfl rfl (fun _ => ?_) | refine o_alloc rfl rfl (fun _ => ?_))) | refine e_noU rfl rfl rfl ?_ | refine e_noN rfl rfl ?_ | refine s_seq ?_ | refine s_region ?_ | refine s_block ?_ | refine s_end ?_ | refine s_skip ?_ | refine s_exit ?_ | refine s_true rfl ?_ | refine s_false rfl ?_ | refine x_hit ?_ | refine x_code ?_ | refine x_back ?_ | refine x_miss rfl ?_)
    have e4 : osl 4 1 (.slice (some ⟨bR, 0, none⟩) g.Terms.length g.Terms.length) g.Terms.length (List.replicate g.Terms.length (Value.bool false)) = rowA cB 1 4 (some ⟨bR, 0, none⟩, g.Terms.length) (fz g) := by
      show _ = osl 4 1 (.slice (some ⟨bR, 0, none⟩) (fz g).length g.Terms.length) (fz g).length (cB (fz g))
      rw [List.length_replicate]; unfold cB fz; rw [List.map_replicate]
    have hrs : rowC (acf ++ [(some ⟨bR, 0, none⟩, g.Terms.length)]) (List.replicate k (fz g) ++ [fz g]) = rowC acf (List.replicate k (fz g)) ++ [.slice (some ⟨bR, 0, none⟩) g.Terms.length g.Terms.length] := by
      rw [Go.Proofs.YtcbaebkkdkdaaaaDoor.E.rowC_snoc hafl, List.length_replicate]
    refine s_back ⟨⟨(k + 1, acf ++ [(some ⟨bR, 0, none⟩, g.Terms.length)]), by simp only; omega, by simp [haf]⟩, by simp only; omega, ?_, ?_⟩
    · repeat' (first | exact Sub.nil _ | refine Sub.cons rfl ?_ | refine Sub.consE rfl ?_ ?_)
      exact inc (i := k) (by omega)
    · simp only
      rw [List.replicate_succ' (n := k), hrs, e4]
      refine Ent.tak (.s .z) ?_
      exact Ent.trans (ent_bsnoc hafl) (Ent.refl _)
  rw [decide_eq_false (p := (k : Int) < (g.Nons.length : Int)) (by omega)]
  obtain rfl : k = g.Nons.length := by omega
  repeat' (first | refine e_nil ?_ | ((first | refine e_op ?_ | refine e_yes rfl ?_); (first | refine o_n (peval_sound rfl) rfl ?_ | refine o_n (nl rfl rfl tc rfl) rfl ?_ | refine o_storeC rfl rfl rfl rfl tc uc rfl rfl rfl ?_ | refine o_box rfl rfl (fun _ => ?_) | refine o_box1 rfl rfl rfl (fun _ => ?_) | refine o_alloc rfl rfl (fun _ => ?_))) | refine e_noU rfl rfl rfl ?_ | refine e_noN rfl rfl ?_ | refine s_seq ?_ | refine s_region ?_ | refine s_block ?_ | refine s_end ?_ | refine s_skip ?_ | refine s_exit ?_ | refine s_true rfl ?_ | refine s_false rfl ?_ | refine x_hit ?_ | refine x_code ?_ | refine x_back ?_ | refine x_miss rfl ?_)
  refine e_addrs (.s .z) hafl (fun hAd => ?_)
  have haf2 := haf
  have hAd2 : ∀ (i : Nat) (hi : i < acf.length), ∃ b, acf[i].1 = some ⟨b, 0, none⟩ := fun i hi => hAd i hi (by rw [List.length_replicate]; omega) (by rw [List.getElem_replicate, List.length_replicate]; omega)
  clear hAd
  rw [Nat.sub_self, List.replicate_zero, List.append_nil]
  have hRC : ∀ F : List (List Bool), FInv g F → acf.length = F.length ∧ ∀ (i : Nat) (hi : i < acf.length) (h2 : i < F.length) {e : TypeId} {by_ : Nat} {z : List Value}, loadL ⟨.slice e, 1, by_, z⟩ (rowC acf (List.replicate g.Nons.length (fz g))) (0 + i * 1) = some (.slice acf[i].1 g.Terms.length acf[i].2) := fun F hFI => by
    refine ⟨by rw [haf, hFI.n], fun i hi h2 e by_ z => ?_⟩
    have := rowC_load (acs := acf) (rows := List.replicate g.Nons.length (fz g)) hafl (i := i) (by rw [List.length_replicate]; omega) (e := e) (bytes := by_) (z := z)
    rw [List.getElem_replicate, show (fz g).length = g.Terms.length from List.length_replicate] at this
    exact this
  obtain ⟨b00, hb00⟩ := hAd2 0 (by omega)
  have hld0 := (hRC (List.replicate g.Nons.length (fz g)) ⟨List.length_replicate, fun r hr => by rw [List.eq_of_mem_replicate hr]; exact List.length_replicate⟩).2 0 (by omega) (by rw [List.length_replicate]; omega) (e := 4) (by_ := 24) (z := [.slice none 0 0])
  rw [hb00] at hld0
  refine e_op (o_n (n_index rfl rfl rfl rfl 0 rfl (by omega)) rfl ?_)
  refine e_op (o_n (n_load_osl rfl rfl .z hld0) rfl ?_)
  refine e_op (o_n (n_index rfl rfl rfl rfl 0 rfl (by omega)) rfl ?_)
  have hr0 : (List.replicate g.Nons.length (fz g))[0]'(by rw [List.length_replicate]; omega) = fz g := List.getElem_replicate ..
  refine e_op (o_store_row (f := cB) (vs := [.bool true]) rfl rfl rfl rfl rfl rfl hafl 0 (by rw [List.length_replicate]; omega) hb00 (by rw [hr0, cB_len, List.length_replicate]; simp only; omega) (.s .z) ((fz g).set 0 true) (by rw [hr0, List.length_set]) (by rw [hr0]; simp only [setMany]; unfold cB; rw [List.map_set]) ?_)
  rw [show (List.replicate g.Nons.length (fz g)).set 0 ((fz g).set 0 true) = fol0 g from rfl]
  repeat' (first | refine e_nil ?_ | ((first | refine e_op ?_ | refine e_yes rfl ?_); (first | refine o_n (peval_sound rfl) rfl ?_ | refine o_n (nl rfl rfl tc rfl) rfl ?_ | refine o_storeC rfl rfl rfl rfl tc uc rfl rfl rfl ?_ | refine o_box rfl rfl (fun _ => ?_) | refine o_box1 rfl rfl rfl (fun _ => ?_) | refine o_alloc rfl rfl (fun _ => ?_))) | refine e_noU rfl rfl rfl ?_ | refine e_noN rfl rfl ?_ | refine s_seq ?_ | refine s_region ?_ | refine s_block ?_ | refine s_end ?_ | refine s_skip ?_ | refine s_exit ?_ | refine s_true rfl ?_ | refine s_false rfl ?_ | refine x_hit ?_ | refine x_code ?_ | refine x_back ?_ | refine x_miss rfl ?_)
  refine s_loopK (ι := {r : Nat // r ≤ g.Nons.length + 1}) [1, 3, 5, 6] rfl ⟨0, by omega⟩ (fun r => [(8, .int .i64 r.1)]) (fun r => [bun (rowX cB 1 4 acf (it (folRound g) r.1 (fol0 g))), osl 70 1 (.slice (some ⟨bF, 0, none⟩) g.Nons.length g.Nons.length) g.Nons.length (rowC acf (List.replicate g.Nons.length (fz g))), osl 69 1 (.slice AX X.length cX) X.length (rowC acs (rowVs D X)), rowO acs D X, bun (innB D X), blk bg 27 [.slice A0 g.Terms.length c0, .slice A1 g.Levels.length c1, .slice A2 g.Pats.length c2, .slice A3 g.Nons.length c3, .slice A4 g.Prods.length c4]]) (fun r => g.Nons.length + 1 - r.1) ?_ (Ent.refl _) ?_
  · repeat' (first | exact Sub.nil _ | refine Sub.cons rfl ?_ | refine Sub.consE rfl ?_ ?_)
  rintro ⟨r, hr⟩
  simp only at hr ⊢
  have hFI0 : FInv g (it (folRound g) r (fol0 g)) := FInv.it r
  have hround : it (folRound g) (r + 1) (fol0 g) = folRound g (it (folRound g) r (fol0 g)) := it_succ _ _ _
  generalize hF0 : it (folRound g) r (fol0 g) = F0 at hFI0 hround ⊢
  repeat' (first | refine e_nil ?_ | ((first | refine e_op ?_ | refine e_yes rfl ?_); (first | refine o_n (peval_sound rfl) rfl ?_ | refine o_n (nl rfl rfl tc rfl) rfl ?_ | refine o_storeC rfl rfl rfl rfl tc uc rfl rfl rfl ?_ | refine o_box rfl rfl (fun _ => ?_) | refine o_box1 rfl rfl rfl (fun _ => ?_) | refine o_alloc rfl rfl (fun _ => ?_))) | refine e_noU rfl rfl rfl ?_ | refine e_noN rfl rfl ?_ | refine s_seq ?_ | refine s_region ?_ | refine s_block ?_ | refine s_end ?_ | refine s_skip ?_ | refine s_exit ?_ | refine s_true rfl ?_ | refine s_false rfl ?_ | refine x_hit ?_ | refine x_code ?_ | refine x_back ?_ | refine x_miss rfl ?_)
  by_cases hrl : r ≤ g.Nons.length
  · rw [decide_eq_true (p := (r : Int) ≤ (g.Nons.length : Int)) (by omega)]
    repeat' (first | refine e_nil ?_ | ((first | refine e_op ?_ | refine e_yes rfl ?_); (first | refine o_n (peval_sound rfl) rfl ?_ | refine o_n (nl rfl rfl tc rfl) rfl ?_ | refine o_storeC rfl rfl rfl rfl tc uc rfl rfl rfl ?_ | refine o_box rfl rfl (fun _ => ?_) | refine o_box1 rfl rfl rfl (fun _ => ?_) | refine o_alloc rfl rfl (fun _ => ?_))) | refine e_noU rfl rfl rfl ?_ | refine e_noN rfl rfl ?_ | refine s_seq ?_ | refine s_region ?_ | refine s_block ?_ | refine s_end ?_ | refine s_skip ?_ | refine s_exit ?_ | refine s_true rfl ?_ | refine s_false rfl ?_ | refine x_hit ?_ | refine x_code ?_ | refine x_back ?_ | refine x_miss rfl ?_)
    refine s_loopK (ι := {i : Nat // i ≤ g.Prods.length}) [1, 3, 5, 6, 8] rfl ⟨0, by omega⟩ (fun i => [(9, .int .i64 i.1)]) (fun i => [bun (rowX cB 1 4 acf (folP g F0 i.1)), osl 70 1 (.slice (some ⟨bF, 0, none⟩) g.Nons.length g.Nons.length) g.Nons.length (rowC acf (List.replicate g.Nons.length (fz g))), osl 69 1 (.slice AX X.length cX) X.length (rowC acs (rowVs D X)), rowO acs D X, bun (innB D X), blk bg 27 [.slice A0 g.Terms.length c0, .slice A1 g.Levels.length c1, .slice A2 g.Pats.length c2, .slice A3 g.Nons.length c3, .slice A4 g.Prods.length c4]]) (fun i => g.Prods.length - i.1) ?_ (Ent.refl _) ?_
    · repeat' (first | exact Sub.nil _ | refine Sub.cons rfl ?_ | refine Sub.consE rfl ?_ ?_)
    rintro ⟨i, hi⟩
    simp only at hi ⊢
    have hFI1 : FInv g (folP g F0 i) := hFI0.p i
    have hPs := folP_succ g F0 i
    generalize hF1 : folP g F0 i = F1 at hFI1 hPs ⊢
    repeat' (first | refine e_nil ?_ | ((first | refine e_op ?_ | refine e_yes rfl ?_); (first | refine o_n (peval_sound rfl) rfl ?_ | refine o_n (nl rfl rfl tc rfl) rfl ?_ | refine o_storeC rfl rfl rfl rfl tc uc rfl rfl rfl ?_ | refine o_box rfl rfl (fun _ => ?_) | refine o_box1 rfl rfl rfl (fun _ => ?_) | refine o_alloc rfl rfl (fun _ => ?_))) | refine e_noU rfl rfl rfl ?_ | refine e_noN rfl rfl ?_ | refine s_seq ?_ | refine s_region ?_ | refine s_block ?_ | refine s_end ?_ | refine s_skip ?_ | refine s_exit ?_ | refine s_true rfl ?_ | refine s_false rfl ?_ | refine x_hit ?_ | refine x_code ?_ | refine x_back ?_ | refine x_miss rfl ?_)
    by_cases hil : i < g.Prods.length
    · rw [decide_eq_true (p := (i : Int) < (g.Prods.length : Int)) (by omega)]
      obtain ⟨b9, o9, es9, rfl, hb9, he9, hc9⟩ := hG.prods.2.2 i hil
      obtain ⟨Ar, cr, rfl, hl9, hlN, hlK, hri⟩ := kPrd_open he9
      have hpi : prd g (i : Int) = g.Prods[i] := prd_at hil
      have hr12 := hL.r _ (List.getElem_mem hil)
      have hpo := prod_ok hwf hil
      rw [hpi] at hPs
      repeat' (first | refine e_nil ?_ | ((first | refine e_op ?_ | refine e_yes rfl ?_); (first | refine o_n (peval_sound rfl) rfl ?_ | refine o_n (nl rfl rfl tc rfl) rfl ?_ | refine o_storeC rfl rfl rfl rfl tc uc rfl rfl rfl ?_ | refine o_box rfl rfl (fun _ => ?_) | refine o_box1 rfl rfl rfl (fun _ => ?_) | refine o_alloc rfl rfl (fun _ => ?_))) | refine e_noU rfl rfl rfl ?_ | refine e_noN rfl rfl ?_ | refine s_seq ?_ | refine s_region ?_ | refine s_block ?_ | refine s_end ?_ | refine s_skip ?_ | refine s_exit ?_ | refine s_true rfl ?_ | refine s_false rfl ?_ | refine x_hit ?_ | refine x_code ?_ | refine x_back ?_ | refine x_miss rfl ?_)
      refine e_op (o_n (n_index rfl rfl rfl rfl i rfl hil) rfl ?_)
      repeat' (first | refine e_nil ?_ | ((first | refine e_op ?_ | refine e_yes rfl ?_); (first | refine o_n (peval_sound rfl) rfl ?_ | refine o_n (nl rfl rfl tc rfl) rfl ?_ | refine o_storeC rfl rfl rfl rfl tc uc rfl rfl rfl ?_ | refine o_box rfl rfl (fun _ => ?_) | refine o_box1 rfl rfl rfl (fun _ => ?_) | refine o_alloc rfl rfl (fun _ => ?_))) | refine e_noU rfl rfl rfl ?_ | refine e_noN rfl rfl ?_ | refine s_seq ?_ | refine s_region ?_ | refine s_block ?_ | refine s_end ?_ | refine s_skip ?_ | refine s_exit ?_ | refine s_true rfl ?_ | refine s_false rfl ?_ | refine x_hit ?_ | refine x_code ?_ | refine x_back ?_ | refine x_miss rfl ?_)
      refine e_op (o_n (n_load_ro rfl rfl hb9 (loads_one rfl (hc9 1 _ rfl))) rfl ?_)
      repeat' (first | refine e_nil ?_ | ((first | refine e_op ?_ | refine e_yes rfl ?_); (first | refine o_n (peval_sound rfl) rfl ?_ | refine o_n (nl rfl rfl tc rfl) rfl ?_ | refine o_storeC rfl rfl rfl rfl tc uc rfl rfl rfl ?_ | refine o_box rfl rfl (fun _ => ?_) | refine o_box1 rfl rfl rfl (fun _ => ?_) | refine o_alloc rfl rfl (fun _ => ?_))) | refine e_noU rfl rfl rfl ?_ | refine e_noN rfl rfl ?_ | refine s_seq ?_ | refine s_region ?_ | refine s_block ?_ | refine s_end ?_ | refine s_skip ?_ | refine s_exit ?_ | refine s_true rfl ?_ | refine s_false rfl ?_ | refine x_hit ?_ | refine x_code ?_ | refine x_back ?_ | refine x_miss rfl ?_)
      refine s_loopK (ι := {k : Nat // k ≤ g.Prods[i].Right.length}) [1, 3, 5, 6, 8, 9, 10] rfl ⟨0, by omega⟩ (fun k => [(11, .int .i64 k.1)]) (fun k => [bun (rowX cB 1 4 acf (folI g F1 i k.1)), osl 70 1 (.slice (some ⟨bF, 0, none⟩) g.Nons.length g.Nons.length) g.Nons.length (rowC acf (List.replicate g.Nons.length (fz g))), osl 69 1 (.slice AX X.length cX) X.length (rowC acs (rowVs D X)), rowO acs D X, bun (innB D X), blk bg 27 [.slice A0 g.Terms.length c0, .slice A1 g.Levels.length c1, .slice A2 g.Pats.length c2, .slice A3 g.Nons.length c3, .slice (some ⟨b9, o9, none⟩) g.Prods.length c4]]) (fun k => g.Prods[i].Right.length - k.1) ?_ (Ent.refl _) ?_
      · repeat' (first | exact Sub.nil _ | refine Sub.cons rfl ?_ | refine Sub.consE rfl ?_ ?_)
      rintro ⟨k, hk2⟩
      simp only at hk2 ⊢
      have hFI2 : FInv g (folI g F1 i k) := hFI1.i i k
      have hIs := folI_succ g F1 i k
      generalize hF2 : folI g F1 i k = F2 at hFI2 hIs ⊢
      repeat' (first | refine e_nil ?_ | ((first | refine e_op ?_ | refine e_yes rfl ?_); (first | refine o_n (peval_sound rfl) rfl ?_ | refine o_n (nl rfl rfl tc rfl) rfl ?_ | refine o_storeC rfl rfl rfl rfl tc uc rfl rfl rfl ?_ | refine o_box rfl rfl (fun _ => ?_) | refine o_box1 rfl rfl rfl (fun _ => ?_) | refine o_alloc rfl rfl (fun _ => ?_))) | refine e_noU rfl rfl rfl ?_ | refine e_noN rfl rfl ?_ | refine s_seq ?_ | refine s_region ?_ | refine s_block ?_ | refine s_end ?_ | refine s_skip ?_ | refine s_exit ?_ | refine s_true rfl ?_ | refine s_false rfl ?_ | refine x_hit ?_ | refine x_code ?_ | refine x_back ?_ | refine x_miss rfl ?_)
      by_cases hkl : k < g.Prods[i].Right.length
      · rw [decide_eq_true (p := (k : Int) < (g.Prods[i].Right.length : Int)) (by omega)]
        obtain ⟨bk, ok, ek, rfl, hbk, ⟨rfl, hIk⟩, hck⟩ := hri.2.2 k hkl
        have hsy := hpo.2.2 _ (List.getElem_mem hkl)
        have hsR : symR g i k = g.Prods[i].Right[k] := by unfold symR; rw [hpi, List.getD_eq_getElem?_getD, List.getElem?_eq_getElem hkl]; rfl
        generalize hsv : g.Prods[i].Right[k] = sv at *
        repeat' (first | refine e_nil ?_ | ((first | refine e_op ?_ | refine e_yes rfl ?_); (first | refine o_n (peval_sound rfl) rfl ?_ | refine o_n (nl rfl rfl tc rfl) rfl ?_ | refine o_storeC rfl rfl rfl rfl tc uc rfl rfl rfl ?_ | refine o_box rfl rfl (fun _ => ?_) | refine o_box1 rfl rfl rfl (fun _ => ?_) | refine o_alloc rfl rfl (fun _ => ?_))) | refine e_noU rfl rfl rfl ?_ | refine e_noN rfl rfl ?_ | refine s_seq ?_ | refine s_region ?_ | refine s_block ?_ | refine s_end ?_ | refine s_skip ?_ | refine s_exit ?_ | refine s_true rfl ?_ | refine s_false rfl ?_ | refine x_hit ?_ | refine x_code ?_ | refine x_back ?_ | refine x_miss rfl ?_)
        refine e_op (o_n (n_index rfl rfl rfl rfl k rfl hkl) rfl ?_)
        refine e_op (o_n (n_load_ro rfl rfl hbk (loads_one rfl (hck 0 _ rfl))) rfl ?_)
        repeat' (first | refine e_nil ?_ | ((first | refine e_op ?_ | refine e_yes rfl ?_); (first | refine o_n (peval_sound rfl) rfl ?_ | refine o_n (nl rfl rfl tc rfl) rfl ?_ | refine o_storeC rfl rfl rfl rfl tc uc rfl rfl rfl ?_ | refine o_box rfl rfl (fun _ => ?_) | refine o_box1 rfl rfl rfl (fun _ => ?_) | refine o_alloc rfl rfl (fun _ => ?_))) | refine e_noU rfl rfl rfl ?_ | refine e_noN rfl rfl ?_ | refine s_seq ?_ | refine s_region ?_ | refine s_block ?_ | refine s_end ?_ | refine s_skip ?_ | refine s_exit ?_ | refine s_true rfl ?_ | refine s_false rfl ?_ | refine x_hit ?_ | refine x_code ?_ | refine x_back ?_ | refine x_miss rfl ?_)
        by_cases hst : sv < g.Terms.length
        · rw [decide_eq_true hst]
          repeat' (first | refine e_nil ?_ | ((first | refine e_op ?_ | refine e_yes rfl ?_); (first | refine o_n (peval_sound rfl) rfl ?_ | refine o_n (nl rfl rfl tc rfl) rfl ?_ | refine o_storeC rfl rfl rfl rfl tc uc rfl rfl rfl ?_ | refine o_box rfl rfl (fun _ => ?_) | refine o_box1 rfl rfl rfl (fun _ => ?_) | refine o_alloc rfl rfl (fun _ => ?_))) | refine e_noU rfl rfl rfl ?_ | refine e_noN rfl rfl ?_ | refine s_seq ?_ | refine s_region ?_ | refine s_block ?_ | refine s_end ?_ | refine s_skip ?_ | refine s_exit ?_ | refine s_true rfl ?_ | refine s_false rfl ?_ | refine x_hit ?_ | refine x_code ?_ | refine x_back ?_ | refine x_miss rfl ?_)
          refine s_back ⟨⟨k + 1, by omega⟩, by simp only; omega, ?_, ?_⟩
          · repeat' (first | exact Sub.nil _ | refine Sub.cons rfl ?_ | refine Sub.consE rfl ?_ ?_)
            exact inc (i := k) (by omega)
          · simp only
            have : folI g F1 i (k + 1) = F2 := by rw [hIs]; unfold folStep; rw [if_pos (by simp only [hsR]; exact hst)]
            rw [this]
            exact Ent.refl _
        rw [decide_eq_false hst]
        repeat' (first | refine e_nil ?_ | ((first | refine e_op ?_ | refine e_yes rfl ?_); (first | refine o_n (peval_sound rfl) rfl ?_ | refine o_n (nl rfl rfl tc rfl) rfl ?_ | refine o_storeC rfl rfl rfl rfl tc uc rfl rfl rfl ?_ | refine o_box rfl rfl (fun _ => ?_) | refine o_box1 rfl rfl rfl (fun _ => ?_) | refine o_alloc rfl rfl (fun _ => ?_))) | refine e_noU rfl rfl rfl ?_ | refine e_noN rfl rfl ?_ | refine s_seq ?_ | refine s_region ?_ | refine s_block ?_ | refine s_end ?_ | refine s_skip ?_ | refine s_exit ?_ | refine s_true rfl ?_ | refine s_false rfl ?_ | refine x_hit ?_ | refine x_code ?_ | refine x_back ?_ | refine x_miss rfl ?_)
        have hwk : IntKind.i64.wrap ((k : Int) + 1) = ((k + 1 : Nat) : Int) := by rw [wrap_i64] <;> omega
        have hdr := els_drop (q := k + 1) hri.2.2 hri.1
        have hin : inG g ⟨(i : Int), (k : Int)⟩ = true := by
          unfold inG
          simp only [Bool.and_eq_true, decide_eq_true_eq, hpi]
          omega
        have hof := ofE_rest he hin
        have hrl2 : restL g ⟨(i : Int), (k : Int)⟩ = g.Prods[i].Right.drop (k + 1) := by unfold restL; simp only [hpi, Int.toNat_natCast]
        have hsf : sufT g i k = rowT g.Terms.length (bFix g) (g.Prods[i].Right.drop (k + 1)) := by unfold sufT sufR; rw [hpi]
        rw [hrl2] at hof
        refine s_drawU [5] Tryd.mixed (by decide +kernel) ?_
        repeat' (first | refine l_nil ?_ | ((first | refine l_no rfl rfl rfl ?_ rfl ?_ | refine l_noN rfl rfl ?_ rfl ?_ | refine l_n (peval_sound rfl) rfl ?_ rfl ?_ | refine l_n (nl rfl rfl tc rfl) rfl ?_ rfl ?_ | refine l_ny rfl (peval_sound rfl) rfl ?_ rfl ?_ | refine l_ny rfl (nl rfl rfl tc rfl) rfl ?_ rfl ?_); · (first | exact Ent.refl _ | assumption | repeat' (first | exact Ent.refl _ | exact Ent.nil _ | refine Ent.tak .z ?_ | refine Ent.wk ?_))))
        rw [hwk]
        refine l_n (n_fromV (k + 1) rfl rfl rfl rfl rfl (by omega)) rfl (Ent.refl _) rfl ?_
        repeat' (first | refine l_nil ?_ | ((first | refine l_no rfl rfl rfl ?_ rfl ?_ | refine l_noN rfl rfl ?_ rfl ?_ | refine l_n (peval_sound rfl) rfl ?_ rfl ?_ | refine l_n (nl rfl rfl tc rfl) rfl ?_ rfl ?_ | refine l_ny rfl (peval_sound rfl) rfl ?_ rfl ?_ | refine l_ny rfl (nl rfl rfl tc rfl) rfl ?_ rfl ?_); · (first | exact Ent.refl _ | assumption | repeat' (first | exact Ent.refl _ | exact Ent.nil _ | refine Ent.tak .z ?_ | refine Ent.wk ?_))))
        refine l_e rfl (o_call (of_w _ g _ (g.Prods[i].Right.length - (k + 1)) (cr - (k + 1)) (g.Prods[i].Right.drop (k + 1)) (by rw [List.length_drop])) rfl .nil (Can.and (Can.ro hG0) (Can.ro ⟨_, _, by rw [List.length_drop]; rfl, by rw [List.length_drop]; have := hri.1; omega, by rw [List.length_drop]; have := hri.2.1; omega, hdr⟩)) rfl ?_)
        rintro v V (⟨hne, _⟩ | ⟨_, bu, rfl, rfl⟩)
        · exact absurd hof hne
        rw [← hsf]
        have hbl : (sufT g i k).1.length = g.Terms.length := by unfold sufT; rw [rowT_len]
        obtain ⟨x, hx⟩ : ∃ x : Nat, sv - g.Terms.length = (x : Int) := ⟨(sv - g.Terms.length).toNat, by omega⟩
        obtain ⟨l, hlx⟩ : ∃ l : Nat, g.Prods[i].Left = (l : Int) := ⟨g.Prods[i].Left.toNat, by omega⟩
        have hxN : x < g.Nons.length := by omega
        have hlN2 : l < g.Nons.length := by omega
        have hstep : folStep g F2 (i, k) = F2.set x (folRow (F2.getD x []) (F2.getD l []) (sufT g i k).1 (sufT g i k).2 g.Terms.length) := by
          have e1 : ((i, k) : Nat × Nat).1 = i := rfl
          have e2 : ((i, k) : Nat × Nat).2 = k := rfl
          have e3 : lefN g i = l := by unfold lefN; rw [hpi, hlx]; rfl
          unfold folStep
          rw [e1, e2, hsR, if_neg hst, hx, Int.toNat_natCast, e3]
        rw [hstep] at hIs
        generalize sufT g i k = bn at hbl hIs ⊢
        obtain ⟨bb, nz⟩ := bn
        simp only at hbl hIs ⊢
        refine ⟨Ent.wk (Ent.refl _), ?_⟩
        simp only [List.cons_append, List.nil_append]
        repeat' (first | refine l_nil ?_ | ((first | refine l_no rfl rfl rfl ?_ rfl ?_ | refine l_noN rfl rfl ?_ rfl ?_ | refine l_n (peval_sound rfl) rfl ?_ rfl ?_ | refine l_n (nl rfl rfl tc rfl) rfl ?_ rfl ?_ | refine l_ny rfl (peval_sound rfl) rfl ?_ rfl ?_ | refine l_ny rfl (nl rfl rfl tc rfl) rfl ?_ rfl ?_); · (first | exact Ent.refl _ | assumption | repeat' (first | exact Ent.refl _ | exact Ent.nil _ | refine Ent.tak .z ?_ | refine Ent.wk ?_))))
        repeat' (first | refine e_nil ?_ | ((first | refine e_op ?_ | refine e_yes rfl ?_); (first | refine o_n (peval_sound rfl) rfl ?_ | refine o_n (nl rfl rfl tc rfl) rfl ?_ | refine o_storeC rfl rfl rfl rfl tc uc rfl rfl rfl ?_ | refine o_box rfl rfl (fun _ => ?_) | refine o_box1 rfl rfl rfl (fun _ => ?_) | refine o_alloc rfl rfl (fun _ => ?_))) | refine e_noU rfl rfl rfl ?_ | refine e_noN rfl rfl ?_ | refine s_seq ?_ | refine s_region ?_ | refine s_block ?_ | refine s_end ?_ | refine s_skip ?_ | refine s_exit ?_ | refine s_true rfl ?_ | refine s_false rfl ?_ | refine x_hit ?_ | refine x_code ?_ | refine x_back ?_ | refine x_miss rfl ?_)
        rw [show ((g.Terms.length : Int) != (g.Terms.length : Int)) = false by simp]
        repeat' (first | refine e_nil ?_ | ((first | refine e_op ?_ | refine e_yes rfl ?_); (first | refine o_n (peval_sound rfl) rfl ?_ | refine o_n (nl rfl rfl tc rfl) rfl ?_ | refine o_storeC rfl rfl rfl rfl tc uc rfl rfl rfl ?_ | refine o_box rfl rfl (fun _ => ?_) | refine o_box1 rfl rfl rfl (fun _ => ?_) | refine o_alloc rfl rfl (fun _ => ?_))) | refine e_noU rfl rfl rfl ?_ | refine e_noN rfl rfl ?_ | refine s_seq ?_ | refine s_region ?_ | refine s_block ?_ | refine s_end ?_ | refine s_skip ?_ | refine s_exit ?_ | refine s_true rfl ?_ | refine s_false rfl ?_ | refine x_hit ?_ | refine x_code ?_ | refine x_back ?_ | refine x_miss rfl ?_)
        have hset0 : F2.set x (F2.getD x []) = F2 := by
          have hxl : x < F2.length := by rw [hFI2.n]; exact hxN
          rw [List.getD_eq_getElem?_getD, List.getElem?_eq_getElem hxl]; exact List.set_getElem_self hxl
        refine s_loopK (ι := {a : Nat // a ≤ g.Terms.length}) [1, 3, 5, 6, 8, 9, 10, 11, 12, 13] rfl ⟨0, by omega⟩ (fun a => [(15, .int .i64 a.1)]) (fun a => [bun (rowX cB 1 4 acf (F2.set x (folRow (F2.getD x []) (F2.getD l []) bb nz a.1))), osl 4 1 (.slice (some ⟨bu, 0, none⟩) g.Terms.length g.Terms.length) g.Terms.length (bb.map Value.bool), osl 70 1 (.slice (some ⟨bF, 0, none⟩) g.Nons.length g.Nons.length) g.Nons.length (rowC acf (List.replicate g.Nons.length (fz g))), osl 69 1 (.slice AX X.length cX) X.length (rowC acs (rowVs D X)), rowO acs D X, bun (innB D X), blk bg 27 [.slice A0 g.Terms.length c0, .slice A1 g.Levels.length c1, .slice A2 g.Pats.length c2, .slice A3 g.Nons.length c3, .slice (some ⟨b9, o9, none⟩) g.Prods.length c4]]) (fun a => g.Terms.length - a.1) ?_ ?_ ?_
        · repeat' (first | exact Sub.nil _ | refine Sub.cons rfl ?_ | refine Sub.consE rfl ?_ ?_)
        · simp only [folRow_zero, hset0]
          exact Ent.tak (.s .z) (Ent.refl _)
        rintro ⟨a, ha⟩
        simp only at ha ⊢
        repeat' (first | refine e_nil ?_ | ((first | refine e_op ?_ | refine e_yes rfl ?_); (first | refine o_n (peval_sound rfl) rfl ?_ | refine o_n (nl rfl rfl tc rfl) rfl ?_ | refine o_storeC rfl rfl rfl rfl tc uc rfl rfl rfl ?_ | refine o_box rfl rfl (fun _ => ?_) | refine o_box1 rfl rfl rfl (fun _ => ?_) | refine o_alloc rfl rfl (fun _ => ?_))) | refine e_noU rfl rfl rfl ?_ | refine e_noN rfl rfl ?_ | refine s_seq ?_ | refine s_region ?_ | refine s_block ?_ | refine s_end ?_ | refine s_skip ?_ | refine s_exit ?_ | refine s_true rfl ?_ | refine s_false rfl ?_ | refine x_hit ?_ | refine x_code ?_ | refine x_back ?_ | refine x_miss rfl ?_)
        by_cases haT : a < g.Terms.length
        · rw [decide_eq_true (p := (a : Int) < (g.Terms.length : Int)) (by omega)]
          have hFx : (F2.getD x []).length = g.Terms.length := hFI2.row hxN
          have hFl : (F2.getD l []).length = g.Terms.length := hFI2.row hlN2
          have hsu := folRow_succ (Fn := F2.getD x []) (Fl := F2.getD l []) (b := bb) (nz := nz) (m := a) (by rw [hFx]; exact haT)
          have hat := folRow_at (Fn := F2.getD x []) (Fl := F2.getD l []) (b := bb) (nz := nz) (m := a) (by rw [hFx]; exact haT)
          have hRl : (folRow (F2.getD x []) (F2.getD l []) bb nz a).length = g.Terms.length := by rw [folRow_len, hFx]
          generalize hRa : folRow (F2.getD x []) (F2.getD l []) bb nz a = Ra at hsu hat hRl ⊢
          have hF2l := hFI2.n
          have hFI3 : FInv g (F2.set x Ra) := ⟨by rw [List.length_set]; exact hF2l, fun r hr => by
            rcases List.mem_or_eq_of_mem_set hr with hr | rfl
            · exact hFI2.t r hr
            · exact hRl⟩
          have hF3a : acf.length = (F2.set x Ra).length := by rw [hFI3.n]; exact haf
          have hx3 : x < (F2.set x Ra).length := by rw [hFI3.n]; exact hxN
          have hl3 : l < (F2.set x Ra).length := by rw [hFI3.n]; exact hlN2
          have h3x : (F2.set x Ra)[x] = Ra := List.getElem_set_self ..
          have h3l : (F2.set x Ra)[l].length = g.Terms.length ∧ (F2.set x Ra)[l].getD a false = (F2.getD l []).getD a false := by
            refine ⟨hFI3.t _ (List.getElem_mem _), ?_⟩
            rw [List.getElem_set]
            split
            · rename_i e; subst e; exact hat
            · rw [List.getD_eq_getElem?_getD (l := F2), List.getElem?_eq_getElem (by rw [hF2l]; exact hlN2)]; rfl
          obtain ⟨bx, hbx⟩ := hAd2 x (by omega)
          obtain ⟨blx, hblx⟩ := hAd2 l (by omega)
          have hldx := (hRC _ hFI3).2 x (by omega) hx3 (e := 4) (by_ := 24) (z := [.slice none 0 0])
          have hldl := (hRC _ hFI3).2 l (by omega) hl3 (e := 4) (by_ := 24) (z := [.slice none 0 0])
          rw [hbx] at hldx
          rw [hblx] at hldl
          have hv1 := loadB (r := (F2.set x Ra)[x]) (j := a) (o := 0 + a * 1) (by rw [h3x, hRl]; exact haT) (by omega) (bytes := 1) (z := [.bool false])
          have hv2 := loadB (r := bb) (j := a) (o := 0 + a * 1) (by rw [hbl]; exact haT) (by omega) (bytes := 1) (z := [.bool false])
          have hv3 := loadB (r := (F2.set x Ra)[l]) (j := a) (o := 0 + a * 1) (by rw [h3l.1]; exact haT) (by omega) (bytes := 1) (z := [.bool false])
          have e1x : (F2.set x Ra)[x].getD a false = (F2.getD x []).getD a false := by rw [h3x]; exact hat
          rw [e1x] at hv1
          rw [h3l.2] at hv3
          generalize (F2.getD x []).getD a false = fv at hsu hv1
          generalize (F2.getD l []).getD a false = lv at hsu hv3
          generalize bb.getD a false = bv at hsu hv2
          have hwx : IntKind.i64.wrap (sv - (g.Terms.length : Int)) = (x : Int) := by rw [hx, wrap_i64] <;> omega
          repeat' (first | refine e_nil ?_ | ((first | refine e_op ?_ | refine e_yes rfl ?_); (first | refine o_n (peval_sound rfl) rfl ?_ | refine o_n (nl rfl rfl tc rfl) rfl ?_ | refine o_storeC rfl rfl rfl rfl tc uc rfl rfl rfl ?_ | refine o_box rfl rfl (fun _ => ?_) | refine o_box1 rfl rfl rfl (fun _ => ?_) | refine o_alloc rfl rfl (fun _ => ?_))) | refine e_noU rfl rfl rfl ?_ | refine e_noN rfl rfl ?_ | refine s_seq ?_ | refine s_region ?_ | refine s_block ?_ | refine s_end ?_ | refine s_skip ?_ | refine s_exit ?_ | refine s_true rfl ?_ | refine s_false rfl ?_ | refine x_hit ?_ | refine x_code ?_ | refine x_back ?_ | refine x_miss rfl ?_)
          refine s_drawZ [46] Tryd.mixed (by decide +kernel) ?_
          repeat' (first | refine z_nil ?_ | refine z_no rfl rfl rfl rfl ?_ | refine z_noN rfl rfl rfl ?_ | refine z_n (peval_sound rfl) rfl rfl ?_ | refine z_n (nl rfl rfl tc rfl) rfl rfl ?_ | refine z_ny rfl (peval_sound rfl) rfl rfl ?_ | refine z_ny rfl (nl rfl rfl tc rfl) rfl rfl ?_)
          refine z_n (n_index rfl rfl rfl rfl k rfl hkl) rfl rfl ?_
          refine z_n (n_load_ro rfl rfl hbk (loads_one rfl (hck 0 _ rfl))) rfl rfl ?_
          repeat' (first | refine z_nil ?_ | refine z_no rfl rfl rfl rfl ?_ | refine z_noN rfl rfl rfl ?_ | refine z_n (peval_sound rfl) rfl rfl ?_ | refine z_n (nl rfl rfl tc rfl) rfl rfl ?_ | refine z_ny rfl (peval_sound rfl) rfl rfl ?_ | refine z_ny rfl (nl rfl rfl tc rfl) rfl rfl ?_)
          rw [hwx]
          refine z_n (n_index rfl rfl rfl rfl x rfl hxN) rfl rfl ?_
          refine z_n (n_load_osl rfl rfl (.s (.s .z)) hldx) rfl rfl ?_
          repeat' (first | refine z_nil ?_ | refine z_no rfl rfl rfl rfl ?_ | refine z_noN rfl rfl rfl ?_ | refine z_n (peval_sound rfl) rfl rfl ?_ | refine z_n (nl rfl rfl tc rfl) rfl rfl ?_ | refine z_ny rfl (peval_sound rfl) rfl rfl ?_ | refine z_ny rfl (nl rfl rfl tc rfl) rfl rfl ?_)
          refine z_n (n_index rfl rfl rfl rfl k rfl hkl) rfl rfl ?_
          refine z_n (n_load_ro rfl rfl hbk (loads_one rfl (hck 0 _ rfl))) rfl rfl ?_
          repeat' (first | refine z_nil ?_ | refine z_no rfl rfl rfl rfl ?_ | refine z_noN rfl rfl rfl ?_ | refine z_n (peval_sound rfl) rfl rfl ?_ | refine z_n (nl rfl rfl tc rfl) rfl rfl ?_ | refine z_ny rfl (peval_sound rfl) rfl rfl ?_ | refine z_ny rfl (nl rfl rfl tc rfl) rfl rfl ?_)
          rw [hwx]
          refine z_n (n_index rfl rfl rfl rfl x rfl hxN) rfl rfl ?_
          refine z_n (n_load_osl rfl rfl (.s (.s .z)) hldx) rfl rfl ?_
          repeat' (first | refine z_nil ?_ | refine z_no rfl rfl rfl rfl ?_ | refine z_noN rfl rfl rfl ?_ | refine z_n (peval_sound rfl) rfl rfl ?_ | refine z_n (nl rfl rfl tc rfl) rfl rfl ?_ | refine z_ny rfl (peval_sound rfl) rfl rfl ?_ | refine z_ny rfl (nl rfl rfl tc rfl) rfl rfl ?_)
          refine z_n (n_index rfl rfl rfl rfl a rfl haT) rfl rfl ?_
          refine z_n (n_load_row rfl rfl .z hF3a x hx3 hbx hv1) rfl rfl ?_
          repeat' (first | refine z_nil ?_ | refine z_no rfl rfl rfl rfl ?_ | refine z_noN rfl rfl rfl ?_ | refine z_n (peval_sound rfl) rfl rfl ?_ | refine z_n (nl rfl rfl tc rfl) rfl rfl ?_ | refine z_ny rfl (peval_sound rfl) rfl rfl ?_ | refine z_ny rfl (nl rfl rfl tc rfl) rfl rfl ?_)
          cases fv with
          | true =>
            simp only [Bool.true_or] at hsu
            repeat' (first | refine z_nil ?_ | refine z_no rfl rfl rfl rfl ?_ | refine z_noN rfl rfl rfl ?_ | refine z_n (peval_sound rfl) rfl rfl ?_ | refine z_n (nl rfl rfl tc rfl) rfl rfl ?_ | refine z_ny rfl (peval_sound rfl) rfl rfl ?_ | refine z_ny rfl (nl rfl rfl tc rfl) rfl rfl ?_)
            refine z_n (n_index rfl rfl rfl rfl a rfl haT) rfl rfl ?_
            refine z_e rfl (o_store_row (f := cB) (vs := [.bool true]) rfl rfl rfl rfl rfl rfl hF3a x hx3 hbx (by rw [h3x, cB_len, hRl]; simp only; omega) .z (Ra.set a true) (by rw [h3x, List.length_set]) (by rw [h3x]; simp only [setMany]; unfold cB; rw [List.map_set, Nat.zero_add, Nat.mul_one]) ?_)
            repeat' (first | refine z_nil ?_ | refine z_no rfl rfl rfl rfl ?_ | refine z_noN rfl rfl rfl ?_ | refine z_n (peval_sound rfl) rfl rfl ?_ | refine z_n (nl rfl rfl tc rfl) rfl rfl ?_ | refine z_ny rfl (peval_sound rfl) rfl rfl ?_ | refine z_ny rfl (nl rfl rfl tc rfl) rfl rfl ?_)
            repeat' (first | refine e_nil ?_ | ((first | refine e_op ?_ | refine e_yes rfl ?_); (first | refine o_n (peval_sound rfl) rfl ?_ | refine o_n (nl rfl rfl tc rfl) rfl ?_ | refine o_storeC rfl rfl rfl rfl tc uc rfl rfl rfl ?_ | refine o_box rfl rfl (fun _ => ?_) | refine o_box1 rfl rfl rfl (fun _ => ?_) | refine o_alloc rfl rfl (fun _ => ?_))) | refine e_noU rfl rfl rfl ?_ | refine e_noN rfl rfl ?_ | refine s_seq ?_ | refine s_region ?_ | refine s_block ?_ | refine s_end ?_ | refine s_skip ?_ | refine s_exit ?_ | refine s_true rfl ?_ | refine s_false rfl ?_ | refine x_hit ?_ | refine x_code ?_ | refine x_back ?_ | refine x_miss rfl ?_)
            refine s_back ⟨⟨a + 1, by omega⟩, by simp only; omega, ?_, ?_⟩
            · repeat' (first | exact Sub.nil _ | refine Sub.cons rfl ?_ | refine Sub.consE rfl ?_ ?_)
              exact inc (i := a) (by omega)
            · simp only
              rw [List.set_set, hsu]
              exact Ent.refl _
          | false =>
            simp only [Bool.false_or] at hsu
            repeat' (first | refine z_nil ?_ | refine z_no rfl rfl rfl rfl ?_ | refine z_noN rfl rfl rfl ?_ | refine z_n (peval_sound rfl) rfl rfl ?_ | refine z_n (nl rfl rfl tc rfl) rfl rfl ?_ | refine z_ny rfl (peval_sound rfl) rfl rfl ?_ | refine z_ny rfl (nl rfl rfl tc rfl) rfl rfl ?_)
            refine z_ny rfl (n_index rfl rfl rfl rfl a rfl haT) rfl rfl ?_
            refine z_ny rfl (n_load_osl rfl rfl (.s .z) hv2) rfl rfl ?_
            repeat' (first | refine z_nil ?_ | refine z_no rfl rfl rfl rfl ?_ | refine z_noN rfl rfl rfl ?_ | refine z_n (peval_sound rfl) rfl rfl ?_ | refine z_n (nl rfl rfl tc rfl) rfl rfl ?_ | refine z_ny rfl (peval_sound rfl) rfl rfl ?_ | refine z_ny rfl (nl rfl rfl tc rfl) rfl rfl ?_)
            cases bv with
            | true =>
              simp only [Bool.true_or] at hsu
              repeat' (first | refine z_nil ?_ | refine z_no rfl rfl rfl rfl ?_ | refine z_noN rfl rfl rfl ?_ | refine z_n (peval_sound rfl) rfl rfl ?_ | refine z_n (nl rfl rfl tc rfl) rfl rfl ?_ | refine z_ny rfl (peval_sound rfl) rfl rfl ?_ | refine z_ny rfl (nl rfl rfl tc rfl) rfl rfl ?_)
              refine z_n (n_index rfl rfl rfl rfl a rfl haT) rfl rfl ?_
              refine z_e rfl (o_store_row (f := cB) (vs := [.bool true]) rfl rfl rfl rfl rfl rfl hF3a x hx3 hbx (by rw [h3x, cB_len, hRl]; simp only; omega) .z (Ra.set a true) (by rw [h3x, List.length_set]) (by rw [h3x]; simp only [setMany]; unfold cB; rw [List.map_set, Nat.zero_add, Nat.mul_one]) ?_)
              repeat' (first | refine z_nil ?_ | refine z_no rfl rfl rfl rfl ?_ | refine z_noN rfl rfl rfl ?_ | refine z_n (peval_sound rfl) rfl rfl ?_ | refine z_n (nl rfl rfl tc rfl) rfl rfl ?_ | refine z_ny rfl (peval_sound rfl) rfl rfl ?_ | refine z_ny rfl (nl rfl rfl tc rfl) rfl rfl ?_)
              repeat' (first | refine e_nil ?_ | ((first | refine e_op ?_ | refine e_yes rfl ?_); (first | refine o_n (peval_sound rfl) rfl ?_ | refine o_n (nl rfl rfl tc rfl) rfl ?_ | refine o_storeC rfl rfl rfl rfl tc uc rfl rfl rfl ?_ | refine o_box rfl rfl (fun _ => ?_) | refine o_box1 rfl rfl rfl (fun _ => ?_) | refine o_alloc rfl rfl (fun _ => ?_))) | refine e_noU rfl rfl rfl ?_ | refine e_noN rfl rfl ?_ | refine s_seq ?_ | refine s_region ?_ | refine s_block ?_ | refine s_end ?_ | refine s_skip ?_ | refine s_exit ?_ | refine s_true rfl ?_ | refine s_false rfl ?_ | refine x_hit ?_ | refine x_code ?_ | refine x_back ?_ | refine x_miss rfl ?_)
              refine s_back ⟨⟨a + 1, by omega⟩, by simp only; omega, ?_, ?_⟩
              · repeat' (first | exact Sub.nil _ | refine Sub.cons rfl ?_ | refine Sub.consE rfl ?_ ?_)
                exact inc (i := a) (by omega)
              · simp only
                rw [List.set_set, hsu]
                exact Ent.refl _
            | false =>
              simp only [Bool.false_or] at hsu
              repeat' (first | refine z_nil ?_ | refine z_no rfl rfl rfl rfl ?_ | refine z_noN rfl rfl rfl ?_ | refine z_n (peval_sound rfl) rfl rfl ?_ | refine z_n (nl rfl rfl tc rfl) rfl rfl ?_ | refine z_ny rfl (peval_sound rfl) rfl rfl ?_ | refine z_ny rfl (nl rfl rfl tc rfl) rfl rfl ?_)
              cases nz with
              | false =>
                simp only [Bool.false_and] at hsu
                repeat' (first | refine z_nil ?_ | refine z_no rfl rfl rfl rfl ?_ | refine z_noN rfl rfl rfl ?_ | refine z_n (peval_sound rfl) rfl rfl ?_ | refine z_n (nl rfl rfl tc rfl) rfl rfl ?_ | refine z_ny rfl (peval_sound rfl) rfl rfl ?_ | refine z_ny rfl (nl rfl rfl tc rfl) rfl rfl ?_)
                refine z_n (n_index rfl rfl rfl rfl a rfl haT) rfl rfl ?_
                refine z_e rfl (o_store_row (f := cB) (vs := [.bool false]) rfl rfl rfl rfl rfl rfl hF3a x hx3 hbx (by rw [h3x, cB_len, hRl]; simp only; omega) .z (Ra.set a false) (by rw [h3x, List.length_set]) (by rw [h3x]; simp only [setMany]; unfold cB; rw [List.map_set, Nat.zero_add, Nat.mul_one]) ?_)
                repeat' (first | refine z_nil ?_ | refine z_no rfl rfl rfl rfl ?_ | refine z_noN rfl rfl rfl ?_ | refine z_n (peval_sound rfl) rfl rfl ?_ | refine z_n (nl rfl rfl tc rfl) rfl rfl ?_ | refine z_ny rfl (peval_sound rfl) rfl rfl ?_ | refine z_ny rfl (nl rfl rfl tc rfl) rfl rfl ?_)
                repeat' (first | refine e_nil ?_ | ((first | refine e_op ?_ | refine e_yes rfl ?_); (first | refine o_n (peval_sound rfl) rfl ?_ | refine o_n (nl rfl rfl tc rfl) rfl ?_ | refine o_storeC rfl rfl rfl rfl tc uc rfl rfl rfl ?_ | refine o_box rfl rfl (fun _ => ?_) | refine o_box1 rfl rfl rfl (fun _ => ?_) | refine o_alloc rfl rfl (fun _ => ?_))) | refine e_noU rfl rfl rfl ?_ | refine e_noN rfl rfl ?_ | refine s_seq ?_ | refine s_region ?_ | refine s_block ?_ | refine s_end ?_ | refine s_skip ?_ | refine s_exit ?_ | refine s_true rfl ?_ | refine s_false rfl ?_ | refine x_hit ?_ | refine x_code ?_ | refine x_back ?_ | refine x_miss rfl ?_)
                refine s_back ⟨⟨a + 1, by omega⟩, by simp only; omega, ?_, ?_⟩
                · repeat' (first | exact Sub.nil _ | refine Sub.cons rfl ?_ | refine Sub.consE rfl ?_ ?_)
                  exact inc (i := a) (by omega)
                · simp only
                  rw [List.set_set, hsu]
                  exact Ent.refl _
              | true =>
                simp only [Bool.true_and] at hsu
                repeat' (first | refine z_nil ?_ | refine z_no rfl rfl rfl rfl ?_ | refine z_noN rfl rfl rfl ?_ | refine z_n (peval_sound rfl) rfl rfl ?_ | refine z_n (nl rfl rfl tc rfl) rfl rfl ?_ | refine z_ny rfl (peval_sound rfl) rfl rfl ?_ | refine z_ny rfl (nl rfl rfl tc rfl) rfl rfl ?_)
                refine z_ny rfl (n_index rfl rfl rfl rfl i rfl hil) rfl rfl ?_
                repeat' (first | refine z_nil ?_ | refine z_no rfl rfl rfl rfl ?_ | refine z_noN rfl rfl rfl ?_ | refine z_n (peval_sound rfl) rfl rfl ?_ | refine z_n (nl rfl rfl tc rfl) rfl rfl ?_ | refine z_ny rfl (peval_sound rfl) rfl rfl ?_ | refine z_ny rfl (nl rfl rfl tc rfl) rfl rfl ?_)
                refine z_ny rfl (n_load_ro rfl rfl hb9 (loads_one rfl (hc9 0 _ rfl))) rfl rfl ?_
                rw [hlx]
                refine z_ny rfl (n_index rfl rfl rfl rfl l rfl hlN2) rfl rfl ?_
                refine z_ny rfl (n_load_osl rfl rfl (.s (.s .z)) hldl) rfl rfl ?_
                repeat' (first | refine z_nil ?_ | refine z_no rfl rfl rfl rfl ?_ | refine z_noN rfl rfl rfl ?_ | refine z_n (peval_sound rfl) rfl rfl ?_ | refine z_n (nl rfl rfl tc rfl) rfl rfl ?_ | refine z_ny rfl (peval_sound rfl) rfl rfl ?_ | refine z_ny rfl (nl rfl rfl tc rfl) rfl rfl ?_)
                refine z_ny rfl (n_index rfl rfl rfl rfl a rfl haT) rfl rfl ?_
                refine z_ny rfl (n_load_row rfl rfl .z hF3a l hl3 hblx hv3) rfl rfl ?_
                repeat' (first | refine z_nil ?_ | refine z_no rfl rfl rfl rfl ?_ | refine z_noN rfl rfl rfl ?_ | refine z_n (peval_sound rfl) rfl rfl ?_ | refine z_n (nl rfl rfl tc rfl) rfl rfl ?_ | refine z_ny rfl (peval_sound rfl) rfl rfl ?_ | refine z_ny rfl (nl rfl rfl tc rfl) rfl rfl ?_)
                refine z_n (n_index rfl rfl rfl rfl a rfl haT) rfl rfl ?_
                refine z_e rfl (o_store_row (f := cB) (vs := [.bool lv]) rfl rfl rfl rfl rfl rfl hF3a x hx3 hbx (by rw [h3x, cB_len, hRl]; simp only; omega) .z (Ra.set a lv) (by rw [h3x, List.length_set]) (by rw [h3x]; simp only [setMany]; unfold cB; rw [List.map_set, Nat.zero_add, Nat.mul_one]) ?_)
                repeat' (first | refine z_nil ?_ | refine z_no rfl rfl rfl rfl ?_ | refine z_noN rfl rfl rfl ?_ | refine z_n (peval_sound rfl) rfl rfl ?_ | refine z_n (nl rfl rfl tc rfl) rfl rfl ?_ | refine z_ny rfl (peval_sound rfl) rfl rfl ?_ | refine z_ny rfl (nl rfl rfl tc rfl) rfl rfl ?_)
                repeat' (first | refine e_nil ?_ | ((first | refine e_op ?_ | refine e_yes rfl ?_); (first | refine o_n (peval_sound rfl) rfl ?_ | refine o_n (nl rfl rfl tc rfl) rfl ?_ | refine o_storeC rfl rfl rfl rfl tc uc rfl rfl rfl ?_ | refine o_box rfl rfl (fun _ => ?_) | refine o_box1 rfl rfl rfl (fun _ => ?_) | refine o_alloc rfl rfl (fun _ => ?_))) | refine e_noU rfl rfl rfl ?_ | refine e_noN rfl rfl ?_ | refine s_seq ?_ | refine s_region ?_ | refine s_block ?_ | refine s_end ?_ | refine s_skip ?_ | refine s_exit ?_ | refine s_true rfl ?_ | refine s_false rfl ?_ | refine x_hit ?_ | refine x_code ?_ | refine x_back ?_ | refine x_miss rfl ?_)
                refine s_back ⟨⟨a + 1, by omega⟩, by simp only; omega, ?_, ?_⟩
                · repeat' (first | exact Sub.nil _ | refine Sub.cons rfl ?_ | refine Sub.consE rfl ?_ ?_)
                  exact inc (i := a) (by omega)
                · simp only
                  rw [List.set_set, hsu]
                  exact Ent.refl _
        · rw [decide_eq_false (p := (a : Int) < (g.Terms.length : Int)) (by omega)]
          obtain rfl : a = g.Terms.length := by omega
          repeat' (first | refine e_nil ?_ | ((first | refine e_op ?_ | refine e_yes rfl ?_); (first | refine o_n (peval_sound rfl) rfl ?_ | refine o_n (nl rfl rfl tc rfl) rfl ?_ | refine o_storeC rfl rfl rfl rfl tc uc rfl rfl rfl ?_ | refine o_box rfl rfl (fun _ => ?_) | refine o_box1 rfl rfl rfl (fun _ => ?_) | refine o_alloc rfl rfl (fun _ => ?_))) | refine e_noU rfl rfl rfl ?_ | refine e_noN rfl rfl ?_ | refine s_seq ?_ | refine s_region ?_ | refine s_block ?_ | refine s_end ?_ | refine s_skip ?_ | refine s_exit ?_ | refine s_true rfl ?_ | refine s_false rfl ?_ | refine x_hit ?_ | refine x_code ?_ | refine x_back ?_ | refine x_miss rfl ?_)
          refine s_back ⟨⟨k + 1, by omega⟩, by simp only; omega, ?_, ?_⟩
          · repeat' (first | exact Sub.nil _ | refine Sub.cons rfl ?_ | refine Sub.consE rfl ?_ ?_)
            exact inc (i := k) (by omega)
          · simp only
            rw [hIs]
            exact Ent.cons (Ent.wk (Ent.refl _))
      · rw [decide_eq_false (p := (k : Int) < (g.Prods[i].Right.length : Int)) (by omega)]
        obtain rfl : k = g.Prods[i].Right.length := by omega
        repeat' (first | refine e_nil ?_ | ((first | refine e_op ?_ | refine e_yes rfl ?_); (first | refine o_n (peval_sound rfl) rfl ?_ | refine o_n (nl rfl rfl tc rfl) rfl ?_ | refine o_storeC rfl rfl rfl rfl tc uc rfl rfl rfl ?_ | refine o_box rfl rfl (fun _ => ?_) | refine o_box1 rfl rfl rfl (fun _ => ?_) | refine o_alloc rfl rfl (fun _ => ?_))) | refine e_noU rfl rfl rfl ?_ | refine e_noN rfl rfl ?_ | refine s_seq ?_ | refine s_region ?_ | refine s_block ?_ | refine s_end ?_ | refine s_skip ?_ | refine s_exit ?_ | refine s_true rfl ?_ | refine s_false rfl ?_ | refine x_hit ?_ | refine x_code ?_ | refine x_back ?_ | refine x_miss rfl ?_)
        refine s_back ⟨⟨i + 1, by omega⟩, by simp only; omega, ?_, ?_⟩
        · repeat' (first | exact Sub.nil _ | refine Sub.cons rfl ?_ | refine Sub.consE rfl ?_ ?_)
          exact inc (i := i) (by omega)
        · simp only
          rw [hPs, hF2]
          exact Ent.refl _
    · rw [decide_eq_false (p := (i : Int) < (g.Prods.length : Int)) (by omega)]
      obtain rfl : i = g.Prods.length := by omega
      repeat' (first | refine e_nil ?_ | ((first | refine e_op ?_ | refine e_yes rfl ?_); (first | refine o_n (peval_sound rfl) rfl ?_ | refine o_n (nl rfl rfl tc rfl) rfl ?_ | refine o_storeC rfl rfl rfl rfl tc uc rfl rfl rfl ?_ | refine o_box rfl rfl (fun _ => ?_) | refine o_box1 rfl rfl rfl (fun _ => ?_) | refine o_alloc rfl rfl (fun _ => ?_))) | refine e_noU rfl rfl rfl ?_ | refine e_noN rfl rfl ?_ | refine s_seq ?_ | refine s_region ?_ | refine s_block ?_ | refine s_end ?_ | refine s_skip ?_ | refine s_exit ?_ | refine s_true rfl ?_ | refine s_false rfl ?_ | refine x_hit ?_ | refine x_code ?_ | refine x_back ?_ | refine x_miss rfl ?_)
      refine s_back ⟨⟨r + 1, by omega⟩, by simp only; omega, ?_, ?_⟩
      · repeat' (first | exact Sub.nil _ | refine Sub.cons rfl ?_ | refine Sub.consE rfl ?_ ?_)
        exact inc (i := r) (by omega)
      · simp only
        rw [hround]
        unfold folRound
        rw [hF1]
        exact Ent.refl _
  rw [decide_eq_false (p := (r : Int) ≤ (g.Nons.length : Int)) (by omega)]
  obtain rfl : r = g.Nons.length + 1 := by omega
  have hXl : 0 < X.length := by rw [hXn]; exact hF.p0
  have hX512 : X.length ≤ 512 := by rw [hXn]; exact hF.n
  have hP0 := hwf.prods
  have hchk : ∀ (i k a : Nat) (hi : i < X.length) (hk : k < X[i].length), X[i][k].getD a false = true → (F0.getD (lefN g k) []).getD a false = true := fun i k a hi hk hv => by
    rw [hXv i k hi hk] at hv
    obtain ⟨haT, hla⟩ := (laRow_bit h0).1 hv
    have := la_fol hF hl0 (by omega) (by omega) hla haT
    unfold folB folFin at this
    rw [hF0] at this
    simpa using this
  have hXlen : ∀ (i k : Nat) (hi : i < X.length) (hk : k < X[i].length), X[i][k].length ≤ g.Terms.length := fun i k hi hk => by
    rw [hXv i k hi hk]
    rcases laRow_len h0 i k with h | h <;> rw [h]
    · exact Nat.le_refl _
    · exact Nat.zero_le _
  refine s_open (.s (.s .z)) hXl ?_
  rintro bX rfl
  refine s_addrs (.s (.s (.s .z))) (by rw [rowVs_len hD]; exact hal) (fun hXA => ?_)
  refine s_innA (.s (.s (.s (.s .z)))) hD hDr (fun hIA => ?_)
  repeat' (first | refine e_nil ?_ | ((first | refine e_op ?_ | refine e_yes rfl ?_); (first | refine o_n (peval_sound rfl) rfl ?_ | refine o_n (nl rfl rfl tc rfl) rfl ?_ | refine o_storeC rfl rfl rfl rfl tc uc rfl rfl rfl ?_ | refine o_box rfl rfl (fun _ => ?_) | refine o_box1 rfl rfl rfl (fun _ => ?_) | refine o_alloc rfl rfl (fun _ => ?_))) | refine e_noU rfl rfl rfl ?_ | refine e_noN rfl rfl ?_ | refine s_seq ?_ | refine s_region ?_ | refine s_block ?_ | refine s_end ?_ | refine s_skip ?_ | refine s_exit ?_ | refine s_true rfl ?_ | refine s_false rfl ?_ | refine x_hit ?_ | refine x_code ?_ | refine x_back ?_ | refine x_miss rfl ?_)
  refine s_loopK (ι := {i : Nat // i ≤ X.length}) [1, 3, 5, 6] rfl ⟨0, by omega⟩ (fun i => [(16, .int .i64 i.1)]) (fun _ => [bun (rowX cB 1 4 acf F0), osl 70 1 (.slice (some ⟨bF, 0, none⟩) g.Nons.length g.Nons.length) g.Nons.length (rowC acf (List.replicate g.Nons.length (fz g))), osl 69 1 (.slice (some ⟨bX, 0, none⟩) X.length cX) X.length (rowC acs (rowVs D X)), rowO acs D X, bun (innB D X), blk bg 27 [.slice A0 g.Terms.length c0, .slice A1 g.Levels.length c1, .slice A2 g.Pats.length c2, .slice A3 g.Nons.length c3, .slice A4 g.Prods.length c4]]) (fun i => X.length - i.1) ?_ (Ent.refl _) ?_
  · repeat' (first | exact Sub.nil _ | refine Sub.cons rfl ?_ | refine Sub.consE rfl ?_ ?_)
  rintro ⟨i, hi⟩
  simp only at hi ⊢
  repeat' (first | refine e_nil ?_ | ((first | refine e_op ?_ | refine e_yes rfl ?_); (first | refine o_n (peval_sound rfl) rfl ?_ | refine o_n (nl rfl rfl tc rfl) rfl ?_ | refine o_storeC rfl rfl rfl rfl tc uc rfl rfl rfl ?_ | refine o_box rfl rfl (fun _ => ?_) | refine o_box1 rfl rfl rfl (fun _ => ?_) | refine o_alloc rfl rfl (fun _ => ?_))) | refine e_noU rfl rfl rfl ?_ | refine e_noN rfl rfl ?_ | refine s_seq ?_ | refine s_region ?_ | refine s_block ?_ | refine s_end ?_ | refine s_skip ?_ | refine s_exit ?_ | refine s_true rfl ?_ | refine s_false rfl ?_ | refine x_hit ?_ | refine x_code ?_ | refine x_back ?_ | refine x_miss rfl ?_)
  by_cases hil : i < X.length
  · rw [decide_eq_true (p := (i : Int) < (X.length : Int)) (by omega)]
    have hPi := hXP i hil
    obtain ⟨ri, hri⟩ := x_addr hal hD hDr hXA hil (by rw [hPi]; exact hP0)
    have hDi : i < D.length := by omega
    have hDl := hDr i hDi hil
    repeat' (first | refine e_nil ?_ | ((first | refine e_op ?_ | refine e_yes rfl ?_); (first | refine o_n (peval_sound rfl) rfl ?_ | refine o_n (nl rfl rfl tc rfl) rfl ?_ | refine o_storeC rfl rfl rfl rfl tc uc rfl rfl rfl ?_ | refine o_box rfl rfl (fun _ => ?_) | refine o_box1 rfl rfl rfl (fun _ => ?_) | refine o_alloc rfl rfl (fun _ => ?_))) | refine e_noU rfl rfl rfl ?_ | refine e_noN rfl rfl ?_ | refine s_seq ?_ | refine s_region ?_ | refine s_block ?_ | refine s_end ?_ | refine s_skip ?_ | refine s_exit ?_ | refine s_true rfl ?_ | refine s_false rfl ?_ | refine x_hit ?_ | refine x_code ?_ | refine x_back ?_ | refine x_miss rfl ?_)
    refine s_loopK (ι := {k : Nat // k ≤ g.Prods.length}) [1, 3, 5, 6, 16] rfl ⟨0, by omega⟩ (fun k => [(17, .int .i64 k.1)]) (fun _ => [bun (rowX cB 1 4 acf F0), osl 70 1 (.slice (some ⟨bF, 0, none⟩) g.Nons.length g.Nons.length) g.Nons.length (rowC acf (List.replicate g.Nons.length (fz g))), osl 69 1 (.slice (some ⟨bX, 0, none⟩) X.length cX) X.length (rowC acs (rowVs D X)), rowO acs D X, bun (innB D X), blk bg 27 [.slice A0 g.Terms.length c0, .slice A1 g.Levels.length c1, .slice A2 g.Pats.length c2, .slice A3 g.Nons.length c3, .slice A4 g.Prods.length c4]]) (fun k => g.Prods.length - k.1) ?_ (Ent.refl _) ?_
    · repeat' (first | exact Sub.nil _ | refine Sub.cons rfl ?_ | refine Sub.consE rfl ?_ ?_)
    rintro ⟨k, hk2⟩
    simp only at hk2 ⊢
    repeat' (first | refine e_nil ?_ | ((first | refine e_op ?_ | refine e_yes rfl ?_); (first | refine o_n (peval_sound rfl) rfl ?_ | refine o_n (nl rfl rfl tc rfl) rfl ?_ | refine o_storeC rfl rfl rfl rfl tc uc rfl rfl rfl ?_ | refine o_box rfl rfl (fun _ => ?_) | refine o_box1 rfl rfl rfl (fun _ => ?_) | refine o_alloc rfl rfl (fun _ => ?_))) | refine e_noU rfl rfl rfl ?_ | refine e_noN rfl rfl ?_ | refine s_seq ?_ | refine s_region ?_ | refine s_block ?_ | refine s_end ?_ | refine s_skip ?_ | refine s_exit ?_ | refine s_true rfl ?_ | refine s_false rfl ?_ | refine x_hit ?_ | refine x_code ?_ | refine x_back ?_ | refine x_miss rfl ?_)
    refine e_op (o_n (n_index rfl rfl rfl rfl i rfl hil) rfl ?_)
    refine e_op (o_n (n_load_osl rfl rfl (.s (.s .z)) (x_load hal hD hDr hil hPi hri)) rfl ?_)
    repeat' (first | refine e_nil ?_ | ((first | refine e_op ?_ | refine e_yes rfl ?_); (first | refine o_n (peval_sound rfl) rfl ?_ | refine o_n (nl rfl rfl tc rfl) rfl ?_ | refine o_storeC rfl rfl rfl rfl tc uc rfl rfl rfl ?_ | refine o_box rfl rfl (fun _ => ?_) | refine o_box1 rfl rfl rfl (fun _ => ?_) | refine o_alloc rfl rfl (fun _ => ?_))) | refine e_noU rfl rfl rfl ?_ | refine e_noN rfl rfl ?_ | refine s_seq ?_ | refine s_region ?_ | refine s_block ?_ | refine s_end ?_ | refine s_skip ?_ | refine s_exit ?_ | refine s_true rfl ?_ | refine s_false rfl ?_ | refine x_hit ?_ | refine x_code ?_ | refine x_back ?_ | refine x_miss rfl ?_)
    by_cases hkl : k < g.Prods.length
    · rw [decide_eq_true (p := (k : Int) < (g.Prods.length : Int)) (by omega)]
      have hkX : k < X[i].length := by omega
      have hlenX := hXlen i k hil hkX
      repeat' (first | refine e_nil ?_ | ((first | refine e_op ?_ | refine e_yes rfl ?_); (first | refine o_n (peval_sound rfl) rfl ?_ | refine o_n (nl rfl rfl tc rfl) rfl ?_ | refine o_storeC rfl rfl rfl rfl tc uc rfl rfl rfl ?_ | refine o_box rfl rfl (fun _ => ?_) | refine o_box1 rfl rfl rfl (fun _ => ?_) | refine o_alloc rfl rfl (fun _ => ?_))) | refine e_noU rfl rfl rfl ?_ | refine e_noN rfl rfl ?_ | refine s_seq ?_ | refine s_region ?_ | refine s_block ?_ | refine s_end ?_ | refine s_skip ?_ | refine s_exit ?_ | refine s_true rfl ?_ | refine s_false rfl ?_ | refine x_hit ?_ | refine x_code ?_ | refine x_back ?_ | refine x_miss rfl ?_)
      rw [decide_eq_true (p := (k : Int) < (g.Prods.length : Int)) (by omega)]
      repeat' (first | refine e_nil ?_ | ((first | refine e_op ?_ | refine e_yes rfl ?_); (first | refine o_n (peval_sound rfl) rfl ?_ | refine o_n (nl rfl rfl tc rfl) rfl ?_ | refine o_storeC rfl rfl rfl rfl tc uc rfl rfl rfl ?_ | refine o_box rfl rfl (fun _ => ?_) | refine o_box1 rfl rfl rfl (fun _ => ?_) | refine o_alloc rfl rfl (fun _ => ?_))) | refine e_noU rfl rfl rfl ?_ | refine e_noN rfl rfl ?_ | refine s_seq ?_ | refine s_region ?_ | refine s_block ?_ | refine s_end ?_ | refine s_skip ?_ | refine s_exit ?_ | refine s_true rfl ?_ | refine s_false rfl ?_ | refine x_hit ?_ | refine x_code ?_ | refine x_back ?_ | refine x_miss rfl ?_)
      refine s_loopK (ι := {a : Nat // a ≤ X[i][k].length}) [1, 3, 5, 6, 16, 17] rfl ⟨0, by omega⟩ (fun a => [(18, .int .i64 a.1)]) (fun _ => [bun (rowX cB 1 4 acf F0), osl 70 1 (.slice (some ⟨bF, 0, none⟩) g.Nons.length g.Nons.length) g.Nons.length (rowC acf (List.replicate g.Nons.length (fz g))), osl 69 1 (.slice (some ⟨bX, 0, none⟩) X.length cX) X.length (rowC acs (rowVs D X)), rowO acs D X, bun (innB D X), blk bg 27 [.slice A0 g.Terms.length c0, .slice A1 g.Levels.length c1, .slice A2 g.Pats.length c2, .slice A3 g.Nons.length c3, .slice A4 g.Prods.length c4]]) (fun a => X[i][k].length - a.1) ?_ (Ent.refl _) ?_
      · repeat' (first | exact Sub.nil _ | refine Sub.cons rfl ?_ | refine Sub.consE rfl ?_ ?_)
      rintro ⟨a, ha⟩
      simp only at ha ⊢
      repeat' (first | refine e_nil ?_ | ((first | refine e_op ?_ | refine e_yes rfl ?_); (first | refine o_n (peval_sound rfl) rfl ?_ | refine o_n (nl rfl rfl tc rfl) rfl ?_ | refine o_storeC rfl rfl rfl rfl tc uc rfl rfl rfl ?_ | refine o_box rfl rfl (fun _ => ?_) | refine o_box1 rfl rfl rfl (fun _ => ?_) | refine o_alloc rfl rfl (fun _ => ?_))) | refine e_noU rfl rfl rfl ?_ | refine e_noN rfl rfl ?_ | refine s_seq ?_ | refine s_region ?_ | refine s_block ?_ | refine s_end ?_ | refine s_skip ?_ | refine s_exit ?_ | refine s_true rfl ?_ | refine s_false rfl ?_ | refine x_hit ?_ | refine x_code ?_ | refine x_back ?_ | refine x_miss rfl ?_)
      refine e_op (o_n (n_index rfl rfl rfl rfl i rfl hil) rfl ?_)
      refine e_op (o_n (n_load_osl rfl rfl (.s (.s .z)) (x_load hal hD hDr hil hPi hri)) rfl ?_)
      repeat' (first | refine e_nil ?_ | ((first | refine e_op ?_ | refine e_yes rfl ?_); (first | refine o_n (peval_sound rfl) rfl ?_ | refine o_n (nl rfl rfl tc rfl) rfl ?_ | refine o_storeC rfl rfl rfl rfl tc uc rfl rfl rfl ?_ | refine o_box rfl rfl (fun _ => ?_) | refine o_box1 rfl rfl rfl (fun _ => ?_) | refine o_alloc rfl rfl (fun _ => ?_))) | refine e_noU rfl rfl rfl ?_ | refine e_noN rfl rfl ?_ | refine s_seq ?_ | refine s_region ?_ | refine s_block ?_ | refine s_end ?_ | refine s_skip ?_ | refine s_exit ?_ | refine s_true rfl ?_ | refine s_false rfl ?_ | refine x_hit ?_ | refine x_code ?_ | refine x_back ?_ | refine x_miss rfl ?_)
      refine e_op (o_n (n_index rfl rfl rfl rfl k rfl hkl) rfl ?_)
      refine e_op (o_n (n_xcell rfl rfl (.s (.s (.s .z))) hal hD hDr hil hri hkX rfl rfl) rfl ?_)
      repeat' (first | refine e_nil ?_ | ((first | refine e_op ?_ | refine e_yes rfl ?_); (first | refine o_n (peval_sound rfl) rfl ?_ | refine o_n (nl rfl rfl tc rfl) rfl ?_ | refine o_storeC rfl rfl rfl rfl tc uc rfl rfl rfl ?_ | refine o_box rfl rfl (fun _ => ?_) | refine o_box1 rfl rfl rfl (fun _ => ?_) | refine o_alloc rfl rfl (fun _ => ?_))) | refine e_noU rfl rfl rfl ?_ | refine e_noN rfl rfl ?_ | refine s_seq ?_ | refine s_region ?_ | refine s_block ?_ | refine s_end ?_ | refine s_skip ?_ | refine s_exit ?_ | refine s_true rfl ?_ | refine s_false rfl ?_ | refine x_hit ?_ | refine x_code ?_ | refine x_back ?_ | refine x_miss rfl ?_)
      by_cases hal2 : a < X[i][k].length
      · rw [decide_eq_true (p := (a : Int) < (X[i][k].length : Int)) (by omega)]
        obtain ⟨bi, hbi⟩ := hIA i hDi hil k (by omega) hkX (by omega)
        have hvi := loadB (r := X[i][k]) (j := a) (o := 0 + a * 1) hal2 (by omega) (bytes := 1) (z := [.bool false])
        have hc := hchk i k a hil hkX
        repeat' (first | refine e_nil ?_ | ((first | refine e_op ?_ | refine e_yes rfl ?_); (first | refine o_n (peval_sound rfl) rfl ?_ | refine o_n (nl rfl rfl tc rfl) rfl ?_ | refine o_storeC rfl rfl rfl rfl tc uc rfl rfl rfl ?_ | refine o_box rfl rfl (fun _ => ?_) | refine o_box1 rfl rfl rfl (fun _ => ?_) | refine o_alloc rfl rfl (fun _ => ?_))) | refine e_noU rfl rfl rfl ?_ | refine e_noN rfl rfl ?_ | refine s_seq ?_ | refine s_region ?_ | refine s_block ?_ | refine s_end ?_ | refine s_skip ?_ | refine s_exit ?_ | refine s_true rfl ?_ | refine s_false rfl ?_ | refine x_hit ?_ | refine x_code ?_ | refine x_back ?_ | refine x_miss rfl ?_)
        rw [decide_eq_false (p := (a : Int) ≥ (g.Terms.length : Int)) (by omega)]
        repeat' (first | refine e_nil ?_ | ((first | refine e_op ?_ | refine e_yes rfl ?_); (first | refine o_n (peval_sound rfl) rfl ?_ | refine o_n (nl rfl rfl tc rfl) rfl ?_ | refine o_storeC rfl rfl rfl rfl tc uc rfl rfl rfl ?_ | refine o_box rfl rfl (fun _ => ?_) | refine o_box1 rfl rfl rfl (fun _ => ?_) | refine o_alloc rfl rfl (fun _ => ?_))) | refine e_noU rfl rfl rfl ?_ | refine e_noN rfl rfl ?_ | refine s_seq ?_ | refine s_region ?_ | refine s_block ?_ | refine s_end ?_ | refine s_skip ?_ | refine s_exit ?_ | refine s_true rfl ?_ | refine s_false rfl ?_ | refine x_hit ?_ | refine x_code ?_ | refine x_back ?_ | refine x_miss rfl ?_)
        refine e_yes rfl (o_n (n_index rfl rfl rfl rfl i rfl hil) rfl ?_)
        refine e_yes rfl (o_n (n_load_osl rfl rfl (.s (.s .z)) (x_load hal hD hDr hil hPi hri)) rfl ?_)
        repeat' (first | refine e_nil ?_ | ((first | refine e_op ?_ | refine e_yes rfl ?_); (first | refine o_n (peval_sound rfl) rfl ?_ | refine o_n (nl rfl rfl tc rfl) rfl ?_ | refine o_storeC rfl rfl rfl rfl tc uc rfl rfl rfl ?_ | refine o_box rfl rfl (fun _ => ?_) | refine o_box1 rfl rfl rfl (fun _ => ?_) | refine o_alloc rfl rfl (fun _ => ?_))) | refine e_noU rfl rfl rfl ?_ | refine e_noN rfl rfl ?_ | refine s_seq ?_ | refine s_region ?_ | refine s_block ?_ | refine s_end ?_ | refine s_skip ?_ | refine s_exit ?_ | refine s_true rfl ?_ | refine s_false rfl ?_ | refine x_hit ?_ | refine x_code ?_ | refine x_back ?_ | refine x_miss rfl ?_)
        refine e_yes rfl (o_n (n_index rfl rfl rfl rfl k rfl hkl) rfl ?_)
        refine e_yes rfl (o_n (n_xcell rfl rfl (.s (.s (.s .z))) hal hD hDr hil hri hkX rfl rfl) rfl ?_)
        rw [hbi]
        repeat' (first | refine e_nil ?_ | ((first | refine e_op ?_ | refine e_yes rfl ?_); (first | refine o_n (peval_sound rfl) rfl ?_ | refine o_n (nl rfl rfl tc rfl) rfl ?_ | refine o_storeC rfl rfl rfl rfl tc uc rfl rfl rfl ?_ | refine o_box rfl rfl (fun _ => ?_) | refine o_box1 rfl rfl rfl (fun _ => ?_) | refine o_alloc rfl rfl (fun _ => ?_))) | refine e_noU rfl rfl rfl ?_ | refine e_noN rfl rfl ?_ | refine s_seq ?_ | refine s_region ?_ | refine s_block ?_ | refine s_end ?_ | refine s_skip ?_ | refine s_exit ?_ | refine s_true rfl ?_ | refine s_false rfl ?_ | refine x_hit ?_ | refine x_code ?_ | refine x_back ?_ | refine x_miss rfl ?_)
        refine e_yes rfl (o_n (n_index rfl rfl rfl rfl a rfl hal2) rfl ?_)
        refine e_yes rfl (o_n (n_load_inn rfl rfl (.s (.s (.s (.s .z)))) hD i hil hDl k hkX hbi hvi) rfl ?_)
        cases hv : X[i][k].getD a false with
        | false =>
          repeat' (first | refine e_nil ?_ | ((first | refine e_op ?_ | refine e_yes rfl ?_); (first | refine o_n (peval_sound rfl) rfl ?_ | refine o_n (nl rfl rfl tc rfl) rfl ?_ | refine o_storeC rfl rfl rfl rfl tc uc rfl rfl rfl ?_ | refine o_box rfl rfl (fun _ => ?_) | refine o_box1 rfl rfl rfl (fun _ => ?_) | refine o_alloc rfl rfl (fun _ => ?_))) | refine e_noU rfl rfl rfl ?_ | refine e_noN rfl rfl ?_ | refine s_seq ?_ | refine s_region ?_ | refine s_block ?_ | refine s_end ?_ | refine s_skip ?_ | refine s_exit ?_ | refine s_true rfl ?_ | refine s_false rfl ?_ | refine x_hit ?_ | refine x_code ?_ | refine x_back ?_ | refine x_miss rfl ?_)
          refine s_back ⟨⟨a + 1, by omega⟩, by simp only; omega, ?_, Ent.refl _⟩
          repeat' (first | exact Sub.nil _ | refine Sub.cons rfl ?_ | refine Sub.consE rfl ?_ ?_)
          exact inc (i := a) (by omega)
        | true =>
          have hc2 := hc hv
          obtain ⟨b9, o9, es9, rfl, hb9, he9, hc9⟩ := hG.prods.2.2 k hkl
          obtain ⟨Ar, cr, rfl, hl9, hlN, hlK, _⟩ := kPrd_open he9
          have hpo := prod_ok hwf hkl
          obtain ⟨l, hlx⟩ : ∃ l : Nat, g.Prods[k].Left = (l : Int) := ⟨g.Prods[k].Left.toNat, by omega⟩
          have hlef : lefN g k = l := by unfold lefN; rw [prd_at hkl, hlx]; rfl
          rw [hlef] at hc2
          have hlN3 : l < g.Nons.length := by omega
          obtain ⟨hfa, hld⟩ := hRC F0 hFI0
          have hl3 : l < F0.length := by rw [hFI0.n]; exact hlN3
          obtain ⟨blx, hblx⟩ := hAd2 l (by omega)
          have hldl := hld l (by omega) hl3 (e := 4) (by_ := 24) (z := [.slice none 0 0])
          rw [hblx] at hldl
          have hF0l : F0.getD l [] = F0[l] := by rw [List.getD_eq_getElem?_getD, List.getElem?_eq_getElem hl3]; rfl
          have hrl4 : F0[l].length = g.Terms.length := hFI0.t _ (List.getElem_mem _)
          rw [hF0l] at hc2
          have hv3 := loadB (r := F0[l]) (j := a) (o := 0 + a * 1) (by omega) (by omega) (bytes := 1) (z := [.bool false])
          rw [hc2] at hv3
          repeat' (first | refine e_nil ?_ | ((first | refine e_op ?_ | refine e_yes rfl ?_); (first | refine o_n (peval_sound rfl) rfl ?_ | refine o_n (nl rfl rfl tc rfl) rfl ?_ | refine o_storeC rfl rfl rfl rfl tc uc rfl rfl rfl ?_ | refine o_box rfl rfl (fun _ => ?_) | refine o_box1 rfl rfl rfl (fun _ => ?_) | refine o_alloc rfl rfl (fun _ => ?_))) | refine e_noU rfl rfl rfl ?_ | refine e_noN rfl rfl ?_ | refine s_seq ?_ | refine s_region ?_ | refine s_block ?_ | refine s_end ?_ | refine s_skip ?_ | refine s_exit ?_ | refine s_true rfl ?_ | refine s_false rfl ?_ | refine x_hit ?_ | refine x_code ?_ | refine x_back ?_ | refine x_miss rfl ?_)
          refine e_yes rfl (o_n (n_index rfl rfl rfl rfl k rfl hkl) rfl ?_)
          repeat' (first | refine e_nil ?_ | ((first | refine e_op ?_ | refine e_yes rfl ?_); (first | refine o_n (peval_sound rfl) rfl ?_ | refine o_n (nl rfl rfl tc rfl) rfl ?_ | refine o_storeC rfl rfl rfl rfl tc uc rfl rfl rfl ?_ | refine o_box rfl rfl (fun _ => ?_) | refine o_box1 rfl rfl rfl (fun _ => ?_) | refine o_alloc rfl rfl (fun _ => ?_))) | refine e_noU rfl rfl rfl ?_ | refine e_noN rfl rfl ?_ | refine s_seq ?_ | refine s_region ?_ | refine s_block ?_ | refine s_end ?_ | refine s_skip ?_ | refine s_exit ?_ | refine s_true rfl ?_ | refine s_false rfl ?_ | refine x_hit ?_ | refine x_code ?_ | refine x_back ?_ | refine x_miss rfl ?_)
          refine e_yes rfl (o_n (n_load_ro rfl rfl hb9 (loads_one rfl (hc9 0 _ rfl))) rfl ?_)
          rw [hlx]
          refine e_yes rfl (o_n (n_index rfl rfl rfl rfl l rfl hlN3) rfl ?_)
          refine e_yes rfl (o_n (n_load_osl rfl rfl (.s .z) hldl) rfl ?_)
          repeat' (first | refine e_nil ?_ | ((first | refine e_op ?_ | refine e_yes rfl ?_); (first | refine o_n (peval_sound rfl) rfl ?_ | refine o_n (nl rfl rfl tc rfl) rfl ?_ | refine o_storeC rfl rfl rfl rfl tc uc rfl rfl rfl ?_ | refine o_box rfl rfl (fun _ => ?_) | refine o_box1 rfl rfl rfl (fun _ => ?_) | refine o_alloc rfl rfl (fun _ => ?_))) | refine e_noU rfl rfl rfl ?_ | refine e_noN rfl rfl ?_ | refine s_seq ?_ | refine s_region ?_ | refine s_block ?_ | refine s_end ?_ | refine s_skip ?_ | refine s_exit ?_ | refine s_true rfl ?_ | refine s_false rfl ?_ | refine x_hit ?_ | refine x_code ?_ | refine x_back ?_ | refine x_miss rfl ?_)
          refine e_yes rfl (o_n (n_index rfl rfl rfl rfl a rfl (show a < g.Terms.length by omega)) rfl ?_)
          refine e_yes rfl (o_n (n_load_row rfl rfl .z hfa l hl3 hblx hv3) rfl ?_)
          repeat' (first | refine e_nil ?_ | ((first | refine e_op ?_ | refine e_yes rfl ?_); (first | refine o_n (peval_sound rfl) rfl ?_ | refine o_n (nl rfl rfl tc rfl) rfl ?_ | refine o_storeC rfl rfl rfl rfl tc uc rfl rfl rfl ?_ | refine o_box rfl rfl (fun _ => ?_) | refine o_box1 rfl rfl rfl (fun _ => ?_) | refine o_alloc rfl rfl (fun _ => ?_))) | refine e_noU rfl rfl rfl ?_ | refine e_noN rfl rfl ?_ | refine s_seq ?_ | refine s_region ?_ | refine s_block ?_ | refine s_end ?_ | refine s_skip ?_ | refine s_exit ?_ | refine s_true rfl ?_ | refine s_false rfl ?_ | refine x_hit ?_ | refine x_code ?_ | refine x_back ?_ | refine x_miss rfl ?_)
          refine s_back ⟨⟨a + 1, by omega⟩, by simp only; omega, ?_, Ent.refl _⟩
          repeat' (first | exact Sub.nil _ | refine Sub.cons rfl ?_ | refine Sub.consE rfl ?_ ?_)
          exact inc (i := a) (by omega)
      · rw [decide_eq_false (p := (a : Int) < (X[i][k].length : Int)) (by omega)]
        repeat' (first | refine e_nil ?_ | ((first | refine e_op ?_ | refine e_yes rfl ?_); (first | refine o_n (peval_sound rfl) rfl ?_ | refine o_n (nl rfl rfl tc rfl) rfl ?_ | refine o_storeC rfl rfl rfl rfl tc uc rfl rfl rfl ?_ | refine o_box rfl rfl (fun _ => ?_) | refine o_box1 rfl rfl rfl (fun _ => ?_) | refine o_alloc rfl rfl (fun _ => ?_))) | refine e_noU rfl rfl rfl ?_ | refine e_noN rfl rfl ?_ | refine s_seq ?_ | refine s_region ?_ | refine s_block ?_ | refine s_end ?_ | refine s_skip ?_ | refine s_exit ?_ | refine s_true rfl ?_ | refine s_false rfl ?_ | refine x_hit ?_ | refine x_code ?_ | refine x_back ?_ | refine x_miss rfl ?_)
        refine s_back ⟨⟨k + 1, by omega⟩, by simp only; omega, ?_, Ent.refl _⟩
        repeat' (first | exact Sub.nil _ | refine Sub.cons rfl ?_ | refine Sub.consE rfl ?_ ?_)
        exact inc (i := k) (by omega)
    · rw [decide_eq_false (p := (k : Int) < (g.Prods.length : Int)) (by omega)]
      repeat' (first | refine e_nil ?_ | ((first | refine e_op ?_ | refine e_yes rfl ?_); (first | refine o_n (peval_sound rfl) rfl ?_ | refine o_n (nl rfl rfl tc rfl) rfl ?_ | refine o_storeC rfl rfl rfl rfl tc uc rfl rfl rfl ?_ | refine o_box rfl rfl (fun _ => ?_) | refine o_box1 rfl rfl rfl (fun _ => ?_) | refine o_alloc rfl rfl (fun _ => ?_))) | refine e_noU rfl rfl rfl ?_ | refine e_noN rfl rfl ?_ | refine s_seq ?_ | refine s_region ?_ | refine s_block ?_ | refine s_end ?_ | refine s_skip ?_ | refine s_exit ?_ | refine s_true rfl ?_ | refine s_false rfl ?_ | refine x_hit ?_ | refine x_code ?_ | refine x_back ?_ | refine x_miss rfl ?_)
      refine s_back ⟨⟨i + 1, by omega⟩, by simp only; omega, ?_, Ent.refl _⟩
      repeat' (first | exact Sub.nil _ | refine Sub.cons rfl ?_ | refine Sub.consE rfl ?_ ?_)
      exact inc (i := i) (by omega)
  · rw [decide_eq_false (p := (i : Int) < (X.length : Int)) (by omega)]
    repeat' (first | refine e_nil ?_ | ((first | refine e_op ?_ | refine e_yes rfl ?_); (first | refine o_n (peval_sound rfl) rfl ?_ | refine o_n (nl rfl rfl tc rfl) rfl ?_ | refine o_storeC rfl rfl rfl rfl tc uc rfl rfl rfl ?_ | refine o_box rfl rfl (fun _ => ?_) | refine o_box1 rfl rfl rfl (fun _ => ?_) | refine o_alloc rfl rfl (fun _ => ?_))) | refine e_noU rfl rfl rfl ?_ | refine e_noN rfl rfl ?_ | refine s_seq ?_ | refine s_region ?_ | refine s_block ?_ | refine s_end ?_ | refine s_skip ?_ | refine s_exit ?_ | refine s_true rfl ?_ | refine s_false rfl ?_ | refine x_hit ?_ | refine x_code ?_ | refine x_back ?_ | refine x_miss rfl ?_)
    refine s_ret ⟨_, _, res1 rfl rfl, ⟨rfl, rfl⟩, Ent.nil _⟩

end Go.Proofs.YtcbaebkkdkdaaaaDoor
