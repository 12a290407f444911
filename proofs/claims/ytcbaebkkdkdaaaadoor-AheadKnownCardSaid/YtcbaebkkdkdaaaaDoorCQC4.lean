/-
  The statement AheadKnown, walked.
-/
import Derived.Test.YtcbaebkkdkdaaaaDoorAhBase5

namespace Go.Proofs.YtcbaebkkdkdaaaaDoor
set_option linter.all false
open Go.Proofs.YtcbaebkkdkdaaaaDoor.E

def gkA (b3 b5 b7 b9 b11 b13 : Nat) : List (Option Addr × Nat) := [(some ⟨b3, 0, none⟩, 1), (some ⟨b5, 0, none⟩, 3), (some ⟨b7, 0, none⟩, 1), (some ⟨b9, 0, none⟩, 2), (some ⟨b11, 0, none⟩, 1), (some ⟨b13, 0, none⟩, 1)]
def gkM : List Mk := [
  ⟨13, [0], fun l => sl (l.getD 0 0) 4, fun l => [strs (l.getD 0 0) gK.Terms]⟩,
  ⟨14, [1], fun l => sl (l.getD 0 0) 4, fun l => [levZ (l.getD 0 0) gK.Levels]⟩,
  ⟨15, [2], fun l => sl (l.getD 0 0) 4, fun l => [strs (l.getD 0 0) gK.Nons]⟩,
  ⟨16, [3], fun l => sl (l.getD 0 0) 1, fun l => [ints (l.getD 0 0) [5]]⟩,
  ⟨17, [3], fun l => pv 0 (sl (l.getD 0 0) 1), fun _ => []⟩,
  ⟨18, [5], fun l => sl (l.getD 0 0) 3, fun l => [ints (l.getD 0 0) [6, 1, 7]]⟩,
  ⟨19, [5], fun l => pv 1 (sl (l.getD 0 0) 3), fun _ => []⟩,
  ⟨20, [7], fun l => sl (l.getD 0 0) 1, fun l => [ints (l.getD 0 0) [7]]⟩,
  ⟨21, [7], fun l => pv 1 (sl (l.getD 0 0) 1), fun _ => []⟩,
  ⟨22, [9], fun l => sl (l.getD 0 0) 2, fun l => [ints (l.getD 0 0) [2, 7]]⟩,
  ⟨23, [9], fun l => pv 2 (sl (l.getD 0 0) 2), fun _ => []⟩,
  ⟨24, [11], fun l => sl (l.getD 0 0) 1, fun l => [ints (l.getD 0 0) [3]]⟩,
  ⟨25, [11], fun l => pv 2 (sl (l.getD 0 0) 1), fun _ => []⟩,
  ⟨26, [13], fun l => sl (l.getD 0 0) 1, fun l => [ints (l.getD 0 0) [6]]⟩,
  ⟨27, [13], fun l => pv 3 (sl (l.getD 0 0) 1), fun _ => []⟩,
  ⟨28, [15, 3, 5, 7, 9, 11, 13], fun l => sl (l.getD 0 0) 6, fun l => [prS (some ⟨l.getD 0 0, 0, none⟩) 6 (gkA (l.getD 1 0) (l.getD 2 0) (l.getD 3 0) (l.getD 4 0) (l.getD 5 0) (l.getD 6 0)) gK.Prods]⟩,
  ⟨29, [0, 1, 2, 15], fun l => .agg #[sl (l.getD 0 0) 4, sl (l.getD 1 0) 4, .slice none 0 0, sl (l.getD 2 0) 4, sl (l.getD 3 0) 6], fun _ => []⟩,
  ⟨1, [17], fun l => .pointer (some ⟨l.getD 0 0, 0, none⟩), fun l => [blk (l.getD 0 0) 27 [.slice none 0 0, .slice none 0 0, .slice none 0 0, .slice none 0 0, .slice none 0 0]]⟩]
def gnA (b3 b5 b7 b10 : Nat) : List (Option Addr × Nat) := [(some ⟨b3, 0, none⟩, 1), (some ⟨b5, 0, none⟩, 2), (some ⟨b7, 0, none⟩, 1), (none, 0), (some ⟨b10, 0, none⟩, 1), (none, 0)]
def gnM : List Mk := [
  ⟨119, [0], fun l => sl (l.getD 0 0) 3, fun l => [strs (l.getD 0 0) gN.Terms]⟩,
  ⟨120, [1], fun l => sl (l.getD 0 0) 3, fun l => [levZ (l.getD 0 0) gN.Levels]⟩,
  ⟨121, [2], fun l => sl (l.getD 0 0) 4, fun l => [strs (l.getD 0 0) gN.Nons]⟩,
  ⟨122, [3], fun l => sl (l.getD 0 0) 1, fun l => [ints (l.getD 0 0) [4]]⟩,
  ⟨123, [3], fun l => pv 0 (sl (l.getD 0 0) 1), fun _ => []⟩,
  ⟨124, [5], fun l => sl (l.getD 0 0) 2, fun l => [ints (l.getD 0 0) [5, 6]]⟩,
  ⟨125, [5], fun l => pv 1 (sl (l.getD 0 0) 2), fun _ => []⟩,
  ⟨126, [7], fun l => sl (l.getD 0 0) 1, fun l => [ints (l.getD 0 0) [1]]⟩,
  ⟨127, [7], fun l => pv 2 (sl (l.getD 0 0) 1), fun _ => []⟩,
  ⟨128, [], fun l => pv 2 (.slice none 0 0), fun _ => []⟩,
  ⟨129, [10], fun l => sl (l.getD 0 0) 1, fun l => [ints (l.getD 0 0) [2]]⟩,
  ⟨130, [10], fun l => pv 3 (sl (l.getD 0 0) 1), fun _ => []⟩,
  ⟨131, [], fun l => pv 3 (.slice none 0 0), fun _ => []⟩,
  ⟨132, [13, 3, 5, 7, 10], fun l => sl (l.getD 0 0) 6, fun l => [prS (some ⟨l.getD 0 0, 0, none⟩) 6 (gnA (l.getD 1 0) (l.getD 2 0) (l.getD 3 0) (l.getD 4 0)) gN.Prods]⟩,
  ⟨133, [0, 1, 2, 13], fun l => .agg #[sl (l.getD 0 0) 3, sl (l.getD 1 0) 3, .slice none 0 0, sl (l.getD 2 0) 4, sl (l.getD 3 0) 6], fun _ => []⟩,
  ⟨10, [15], fun l => .pointer (some ⟨l.getD 0 0, 0, none⟩), fun l => [blk (l.getD 0 0) 27 [.slice none 0 0, .slice none 0 0, .slice none 0 0, .slice none 0 0, .slice none 0 0]]⟩]

theorem can_noneG {E0 : Go.Proofs.YtcbaebkkdkdaaaaDoor.E.Env} {U : List Asn} : Go.Proofs.YtcbaebkkdkdaaaaDoor.E.Can E0 U (kGram.rd [.slice none 0 0, .slice none 0 0, .slice none 0 0, .slice none 0 0, .slice none 0 0] noneG) :=
  Can.of fun w S hs => kGram_mk (g := noneG) (A0 := none) (A1 := none) (A2 := none) (A3 := none) (A4 := none) (c0 := 0) (c1 := 0) (c2 := 0) (c3 := 0) (c4 := 0) ⟨els_nil, els_nil, els_nil, els_nil, els_nil⟩
theorem gk_ok : PrOk gK.Prods := prOk_of (by decide) (by decide +kernel)
theorem gn_ok : PrOk gN.Prods := prOk_of (by decide) (by decide +kernel)

attribute [local irreducible] EVX EVO EVL EV1 NEV
attribute [local irreducible] own osl exA rdA rdL
attribute [local irreducible] bldA mapA bun mapS
set_option maxRecDepth 10000
set_option maxHeartbeats 4000000

theorem aheadKnown_w : Trip Tryd.prog 12 [] Rd.tt [] (fun v V => v = .bool true ∧ V = []) := by
  refine trip Tryd.tabOk Tryd.func12 rfl rfl rfl rfl ?_
  rintro w SM hW
  clear hW
  repeat' (first | refine e_nil ?_ | ((first | refine e_op ?_ | refine e_yes rfl ?_); (first | refine o_n (peval_sound rfl) rfl ?_ | refine o_n (nl rfl rfl tc rfl) rfl ?_ | refine o_storeC rfl rfl rfl rfl tc uc rfl rfl rfl ?_ | refine o_box rfl rfl (fun _ => ?_) | refine o_box1 rfl rfl rfl (fun _ => ?_) | refine o_alloc rfl rfl (fun _ => ?_))) | refine e_noU rfl rfl rfl ?_ | refine e_noN rfl rfl ?_ | refine s_seq ?_ | refine s_region ?_ | refine s_block ?_ | refine s_end ?_ | refine s_skip ?_ | refine s_exit ?_ | refine s_true rfl ?_ | refine s_false rfl ?_ | refine x_hit ?_ | refine x_code ?_ | refine x_back ?_ | refine x_miss rfl ?_)
  refine s_mk gkM Tryd.mixed (by kernel_rfl) ?_ rfl ?_
  · intro i hi
    match i, hi with
    | 0, _ => exact mk_step [] rfl rfl rfl (by decide +kernel) (fun B U => o_makeS rfl rfl rfl rfl 4 rfl rfl (by decide) (by decide) rfl rfl (fun b => ⟨b, rfl, Ent.refl _⟩))
    | 1, _ => exact mk_step [] rfl rfl rfl (by decide +kernel) (fun B U => o_makeS rfl rfl rfl rfl 4 rfl rfl (by decide) (by decide) rfl rfl (fun b => ⟨b, rfl, Ent.refl _⟩))
    | 2, _ => exact mk_step [] rfl rfl rfl (by decide +kernel) (fun B U => o_makeS rfl rfl rfl rfl 4 rfl rfl (by decide) (by decide) rfl rfl (fun b => ⟨b, rfl, Ent.refl _⟩))
    | 3, _ => exact mk_step [] rfl rfl rfl (by decide +kernel) (fun B U => o_lit rfl rfl rfl rfl rfl rfl rfl (fun b => ⟨b, rfl, Ent.refl _⟩))
    | 4, _ => exact mk_step [3] rfl rfl rfl (by decide +kernel) (fun B U => o_call (p20_w _ _ _ _) rfl .nil Can.tt rfl (by rintro v V ⟨rfl, rfl⟩; exact ⟨0, rfl, Ent.refl _⟩))
    | 5, _ => exact mk_step [] rfl rfl rfl (by decide +kernel) (fun B U => o_lit rfl rfl rfl rfl rfl rfl rfl (fun b => ⟨b, rfl, Ent.refl _⟩))
    | 6, _ => exact mk_step [5] rfl rfl rfl (by decide +kernel) (fun B U => o_call (p20_w _ _ _ _) rfl .nil Can.tt rfl (by rintro v V ⟨rfl, rfl⟩; exact ⟨0, rfl, Ent.refl _⟩))
    | 7, _ => exact mk_step [] rfl rfl rfl (by decide +kernel) (fun B U => o_lit rfl rfl rfl rfl rfl rfl rfl (fun b => ⟨b, rfl, Ent.refl _⟩))
    | 8, _ => exact mk_step [7] rfl rfl rfl (by decide +kernel) (fun B U => o_call (p20_w _ _ _ _) rfl .nil Can.tt rfl (by rintro v V ⟨rfl, rfl⟩; exact ⟨0, rfl, Ent.refl _⟩))
    | 9, _ => exact mk_step [] rfl rfl rfl (by decide +kernel) (fun B U => o_lit rfl rfl rfl rfl rfl rfl rfl (fun b => ⟨b, rfl, Ent.refl _⟩))
    | 10, _ => exact mk_step [9] rfl rfl rfl (by decide +kernel) (fun B U => o_call (p20_w _ _ _ _) rfl .nil Can.tt rfl (by rintro v V ⟨rfl, rfl⟩; exact ⟨0, rfl, Ent.refl _⟩))
    | 11, _ => exact mk_step [] rfl rfl rfl (by decide +kernel) (fun B U => o_lit rfl rfl rfl rfl rfl rfl rfl (fun b => ⟨b, rfl, Ent.refl _⟩))
    | 12, _ => exact mk_step [11] rfl rfl rfl (by decide +kernel) (fun B U => o_call (p20_w _ _ _ _) rfl .nil Can.tt rfl (by rintro v V ⟨rfl, rfl⟩; exact ⟨0, rfl, Ent.refl _⟩))
    | 13, _ => exact mk_step [] rfl rfl rfl (by decide +kernel) (fun B U => o_lit rfl rfl rfl rfl rfl rfl rfl (fun b => ⟨b, rfl, Ent.refl _⟩))
    | 14, _ => exact mk_step [13] rfl rfl rfl (by decide +kernel) (fun B U => o_call (p20_w _ _ _ _) rfl .nil Can.tt rfl (by rintro v V ⟨rfl, rfl⟩; exact ⟨0, rfl, Ent.refl _⟩))
    | 15, _ => exact mk_step [4, 6, 8, 10, 12, 14] rfl rfl rfl (by decide +kernel) (fun B U => o_lit (ps := [(0, pv 0 (sl (B 3) 1)), (1, pv 1 (sl (B 5) 3)), (2, pv 1 (sl (B 7) 1)), (3, pv 2 (sl (B 9) 2)), (4, pv 2 (sl (B 11) 1)), (5, pv 3 (sl (B 13) 1))]) (cs := prC (gkA (B 3) (B 5) (B 7) (B 9) (B 11) (B 13)) gK.Prods) rfl rfl (by kernel_rfl) rfl rfl (by kernel_rfl) rfl (fun b => ⟨b, rfl, Ent.refl _⟩))
    | 16, _ => exact mk_step [0, 1, 2, 15] rfl rfl rfl (by decide +kernel) (fun B U => o_n (peval_sound rfl) rfl ⟨0, rfl, Ent.refl _⟩)
    | 17, _ => exact mk_step [] rfl rfl rfl (by decide +kernel) (fun B U => o_alloc rfl rfl (fun b => ⟨b, rfl, Ent.refl _⟩))
    | n + 18, h => exact absurd h (by simp [gkM])
  · intro B
    refine o_store (b := B 17) (o := 0) (vs := [sl (B 0) 4, sl (B 1) 4, .slice none 0 0, sl (B 2) 4, sl (B 15) 6]) rfl rfl rfl rfl rfl rfl rfl (.s (.s (.s (.s (.s (.s (.s (.s (.s (.s (.z))))))))))) ?_
    refine s_weak (fr' := [(1, .pointer (some ⟨B 17, 0, none⟩))]) (V := [blk (B 17) 27 [sl (B 0) 4, sl (B 1) 4, .slice none 0 0, sl (B 2) 4, sl (B 15) 6], strs (B 0) gK.Terms, levZ (B 1) gK.Levels, strs (B 2) gK.Nons, prS (some ⟨B 15, 0, none⟩) 6 (gkA (B 3) (B 5) (B 7) (B 9) (B 11) (B 13)) gK.Prods, prB (gkA (B 3) (B 5) (B 7) (B 9) (B 11) (B 13)) gK.Prods]) ?_ ?_ ?_
    · repeat' (first | exact Sub.nil _ | refine Sub.cons rfl ?_ | refine Sub.consE rfl ?_ ?_)
    · refine Ent.tak (.s (.s (.s (.s (.s (.s (.s (.s (.s (.s (.z))))))))))) (Ent.cons (Ent.cons (Ent.cons ?_)))
      refine Ent.tak (.s (.s (.s (.s (.s (.s (.z))))))) ?_
      exact Ent.trans (Ent.cons (Ent.cons (Ent.cons (Ent.cons (Ent.cons (Ent.cons (Ent.refl _))))))) (ent_bun (L := [_, _, _, _, _, _]))
    generalize B 0 = b0, B 1 = b1, B 2 = b2, B 15 = bp, B 17 = bg
    obtain ⟨pacs, hpacs⟩ : ∃ a, a = (gkA (B 3) (B 5) (B 7) (B 9) (B 11) (B 13)) := ⟨_, rfl⟩
    have hlpacs : pacs.length = gK.Prods.length := by rw [hpacs]; rfl
    rw [← hpacs]
    clear hpacs B
    have hcan : ∀ {E0 : Go.Proofs.YtcbaebkkdkdaaaaDoor.E.Env} {U : List Asn}, Go.Proofs.YtcbaebkkdkdaaaaDoor.E.Can E0 ([blk (bg) 27 [sl (b0) 4, sl (b1) 4, .slice none 0 0, sl (b2) 4, sl (bp) 6], strs (b0) gK.Terms, levZ (b1) gK.Levels, strs (b2) gK.Nons, prS (some ⟨bp, 0, none⟩) 6 pacs gK.Prods, prB pacs gK.Prods] ++ U) (kGram.rd [sl b0 4, sl b1 4, .slice none 0 0, sl b2 4, sl bp 6] gK) :=
      can_gramP hlpacs 6 (by decide) rfl rfl (by decide) (by decide) (by decide) gk_ok (fun x hx => List.eq_of_mem_replicate hx) (Ent.wk (Ent.refl _))
    repeat' (first | refine e_nil ?_ | ((first | refine e_op ?_ | refine e_yes rfl ?_); (first | refine o_n (peval_sound rfl) rfl ?_ | refine o_n (nl rfl rfl tc rfl) rfl ?_ | refine o_storeC rfl rfl rfl rfl tc uc rfl rfl rfl ?_ | refine o_box rfl rfl (fun _ => ?_) | refine o_box1 rfl rfl rfl (fun _ => ?_) | refine o_alloc rfl rfl (fun _ => ?_))) | refine e_noU rfl rfl rfl ?_ | refine e_noN rfl rfl ?_ | refine s_seq ?_ | refine s_region ?_ | refine s_block ?_ | refine s_end ?_ | refine s_skip ?_ | refine s_exit ?_ | refine s_true rfl ?_ | refine s_false rfl ?_ | refine x_hit ?_ | refine x_code ?_ | refine x_back ?_ | refine x_miss rfl ?_)
    refine e_op (o_call (aheadOf_w [sl b0 4, sl b1 4, .slice none 0 0, sl b2 4, sl bp 6] gK (fun _ => by decide)) rfl .nil (hcan (U := [])) rfl ?_)
    rintro v V ⟨AX, n, cX, acs, D, rfl, hn, hal, hD, hDr, rfl⟩
    have hXn : (laX gK).length = 10 := by rw [laX_len k_lrE, k_len]
    have hPn : ∀ (i : Nat) (hi : i < (laX gK).length), (laX gK)[i].length = 6 := fun i hi => by rw [laX_row k_lrE hi, YR_len]; rfl
    rw [hXn] at hn
    subst hn
    rw [k_lrE]
    simp only [List.cons_append, List.nil_append]
    repeat' (first | refine e_nil ?_ | ((first | refine e_op ?_ | refine e_yes rfl ?_); (first | refine o_n (peval_sound rfl) rfl ?_ | refine o_n (nl rfl rfl tc rfl) rfl ?_ | refine o_storeC rfl rfl rfl rfl tc uc rfl rfl rfl ?_ | refine o_box rfl rfl (fun _ => ?_) | refine o_box1 rfl rfl rfl (fun _ => ?_) | refine o_alloc rfl rfl (fun _ => ?_))) | refine e_noU rfl rfl rfl ?_ | refine e_noN rfl rfl ?_ | refine s_seq ?_ | refine s_region ?_ | refine s_block ?_ | refine s_end ?_ | refine s_skip ?_ | refine s_exit ?_ | refine s_true rfl ?_ | refine s_false rfl ?_ | refine x_hit ?_ | refine x_code ?_ | refine x_back ?_ | refine x_miss rfl ?_)
    refine e_op (o_call (ofP_w [sl b0 4, sl b1 4, .slice none 0 0, sl b2 4, sl bp 6] gK (fun _ => by decide)) rfl .nil (Can.byEnt (hcan (U := [])) (Ent.wk (Ent.wk (Ent.wk (Ent.refl _))))) rfl ?_)
    rintro v V ⟨x, rfl, AK, cK, kcs, AG, cG, bcs, hl, hb, rfl, rfl⟩
    rw [k_lrE, k_len]
    have hgl : (lrGs gK).length = 10 := by rw [k_gs]; rfl
    rw [hgl]
    simp only [List.cons_append, List.nil_append]
    repeat' (first | refine e_nil ?_ | ((first | refine e_op ?_ | refine e_yes rfl ?_); (first | refine o_n (peval_sound rfl) rfl ?_ | refine o_n (nl rfl rfl tc rfl) rfl ?_ | refine o_storeC rfl rfl rfl rfl tc uc rfl rfl rfl ?_ | refine o_box rfl rfl (fun _ => ?_) | refine o_box1 rfl rfl rfl (fun _ => ?_) | refine o_alloc rfl rfl (fun _ => ?_))) | refine e_noU rfl rfl rfl ?_ | refine e_noN rfl rfl ?_ | refine s_seq ?_ | refine s_region ?_ | refine s_block ?_ | refine s_end ?_ | refine s_skip ?_ | refine s_exit ?_ | refine s_true rfl ?_ | refine s_false rfl ?_ | refine x_hit ?_ | refine x_code ?_ | refine x_back ?_ | refine x_miss rfl ?_)
    rename_i bl
    refine e_open (.s (.s (.s .z))) (by decide) ?_
    rintro bG rfl
    refine e_addrs (.s (.s (.s (.s .z)))) hb (fun hGA => ?_)
    have hg0 : 0 < (lrGs gK).length := by rw [hgl]; decide
    have hgr : (lrGs gK)[0] = [-1, -1, 1, 2, -1, 3, 4, 5] := by simp only [k_gs]; rfl
    obtain ⟨bg0, hbg0⟩ := hGA 0 (by rw [hb]; exact hg0) hg0 (by rw [hgr]; decide)
    have hld := rowC_load hb hg0 (e := 3) (bytes := 24) (z := [.slice none 0 0])
    rw [hbg0, hgr] at hld
    refine e_yes rfl (o_n (n_index rfl rfl rfl rfl 0 rfl (show 0 < 10 by decide)) rfl ?_)
    refine e_yes rfl (o_n (n_load_osl rfl rfl (.s (.s (.s .z))) hld) rfl ?_)
    repeat' (first | refine e_nil ?_ | ((first | refine e_op ?_ | refine e_yes rfl ?_); (first | refine o_n (peval_sound rfl) rfl ?_ | refine o_n (nl rfl rfl tc rfl) rfl ?_ | refine o_storeC rfl rfl rfl rfl tc uc rfl rfl rfl ?_ | refine o_box rfl rfl (fun _ => ?_) | refine o_box1 rfl rfl rfl (fun _ => ?_) | refine o_alloc rfl rfl (fun _ => ?_))) | refine e_noU rfl rfl rfl ?_ | refine e_noN rfl rfl ?_ | refine s_seq ?_ | refine s_region ?_ | refine s_block ?_ | refine s_end ?_ | refine s_skip ?_ | refine s_exit ?_ | refine s_true rfl ?_ | refine s_false rfl ?_ | refine x_hit ?_ | refine x_code ?_ | refine x_back ?_ | refine x_miss rfl ?_)
    refine e_op (o_n (n_index rfl rfl rfl rfl 0 rfl (show 0 < 10 by decide)) rfl ?_)
    refine e_op (o_n (n_load_osl rfl rfl (.s (.s (.s .z))) hld) rfl ?_)
    refine e_op (o_n (n_index rfl rfl rfl rfl 6 rfl (show 6 < 8 by decide)) rfl ?_)
    refine e_op (o_n (n_load_row (v := .int .i64 4) rfl rfl (.s (.s (.s (.s .z)))) hb 0 hg0 hbg0 (by rw [hgr]; rfl)) rfl ?_)
    repeat' (first | refine e_nil ?_ | ((first | refine e_op ?_ | refine e_yes rfl ?_); (first | refine o_n (peval_sound rfl) rfl ?_ | refine o_n (nl rfl rfl tc rfl) rfl ?_ | refine o_storeC rfl rfl rfl rfl tc uc rfl rfl rfl ?_ | refine o_box rfl rfl (fun _ => ?_) | refine o_box1 rfl rfl rfl (fun _ => ?_) | refine o_alloc rfl rfl (fun _ => ?_))) | refine e_noU rfl rfl rfl ?_ | refine e_noN rfl rfl ?_ | refine s_seq ?_ | refine s_region ?_ | refine s_block ?_ | refine s_end ?_ | refine s_skip ?_ | refine s_exit ?_ | refine s_true rfl ?_ | refine s_false rfl ?_ | refine x_hit ?_ | refine x_code ?_ | refine x_back ?_ | refine x_miss rfl ?_)
    refine e_op (o_n (n_index rfl rfl rfl rfl 0 rfl (show 0 < 10 by decide)) rfl ?_)
    refine e_op (o_n (n_load_osl rfl rfl (.s (.s (.s .z))) hld) rfl ?_)
    refine e_op (o_n (n_index rfl rfl rfl rfl 3 rfl (show 3 < 8 by decide)) rfl ?_)
    refine e_op (o_n (n_load_row (v := .int .i64 2) rfl rfl (.s (.s (.s (.s .z)))) hb 0 hg0 hbg0 (by rw [hgr]; rfl)) rfl ?_)
    repeat' (first | ((first | refine e_op ?_ | refine e_yes rfl ?_); (first | refine o_n (peval_sound rfl) rfl ?_ | refine o_n (nl rfl rfl tc rfl) rfl ?_ | refine o_storeC rfl rfl rfl rfl tc uc rfl rfl rfl ?_ | refine o_box rfl rfl (fun _ => ?_) | refine o_box1 rfl rfl rfl (fun _ => ?_) | refine o_alloc rfl rfl (fun _ => ?_))) | refine e_noU rfl rfl rfl ?_ | refine e_noN rfl rfl ?_)
    refine e_nil ?_
    refine s_weak (fr' := [(7, .int .i64 2), (6, .int .i64 4), (2, .slice AX 10 cX)]) (V := [osl 69 1 (.slice AX 10 cX) 10 (rowC acs (rowVs D (laX gK))), rowO acs D (laX gK), bun (innB D (laX gK))]) ?_ (Ent.wk (Ent.wk (Ent.wk (Ent.wk (Ent.wk (Ent.cons (Ent.cons (Ent.cons (Ent.nil _))))))))) ?_
    · repeat' (first | exact Sub.nil _ | refine Sub.cons rfl ?_ | refine Sub.consE rfl ?_ ?_)
    clear hcan hlpacs hgl hg0 hgr hld hbg0 hGA hl hb
    clear pacs bg b0 b1 b2 bp
    refine s_open .z (by decide) ?_
    rintro bX rfl
    refine s_addrs (.s .z) (by rw [rowVs_len hD]; exact hal) (fun hXA => ?_)
    have hx2 : 2 < (laX gK).length := by rw [hXn]; decide
    have hx4 : 4 < (laX gK).length := by rw [hXn]; decide
    obtain ⟨r2, hr2⟩ := x_addr hal hD hDr hXA hx2 (by rw [hPn]; decide)
    obtain ⟨r4, hr4⟩ := x_addr hal hD hDr hXA hx4 (by rw [hPn]; decide)
    repeat' (first | refine e_nil ?_ | ((first | refine e_op ?_ | refine e_yes rfl ?_); (first | refine o_n (peval_sound rfl) rfl ?_ | refine o_n (nl rfl rfl tc rfl) rfl ?_ | refine o_storeC rfl rfl rfl rfl tc uc rfl rfl rfl ?_ | refine o_box rfl rfl (fun _ => ?_) | refine o_box1 rfl rfl rfl (fun _ => ?_) | refine o_alloc rfl rfl (fun _ => ?_))) | refine e_noU rfl rfl rfl ?_ | refine e_noN rfl rfl ?_ | refine s_seq ?_ | refine s_region ?_ | refine s_block ?_ | refine s_end ?_ | refine s_skip ?_ | refine s_exit ?_ | refine s_true rfl ?_ | refine s_false rfl ?_ | refine x_hit ?_ | refine x_code ?_ | refine x_back ?_ | refine x_miss rfl ?_)
    refine e_yes rfl (o_n (n_index rfl rfl rfl rfl 4 rfl (show 4 < 10 by decide)) rfl ?_)
    refine e_yes rfl (o_n (n_load_osl rfl rfl .z (x_load hal hD hDr hx4 (hPn 4 hx4) hr4)) rfl ?_)
    repeat' (first | refine e_nil ?_ | ((first | refine e_op ?_ | refine e_yes rfl ?_); (first | refine o_n (peval_sound rfl) rfl ?_ | refine o_n (nl rfl rfl tc rfl) rfl ?_ | refine o_storeC rfl rfl rfl rfl tc uc rfl rfl rfl ?_ | refine o_box rfl rfl (fun _ => ?_) | refine o_box1 rfl rfl rfl (fun _ => ?_) | refine o_alloc rfl rfl (fun _ => ?_))) | refine e_noU rfl rfl rfl ?_ | refine e_noN rfl rfl ?_ | refine s_seq ?_ | refine s_region ?_ | refine s_block ?_ | refine s_end ?_ | refine s_skip ?_ | refine s_exit ?_ | refine s_true rfl ?_ | refine s_false rfl ?_ | refine x_hit ?_ | refine x_code ?_ | refine x_back ?_ | refine x_miss rfl ?_)
    refine e_yes rfl (o_n (n_index rfl rfl rfl rfl 2 rfl (show 2 < 10 by decide)) rfl ?_)
    refine e_yes rfl (o_n (n_load_osl rfl rfl .z (x_load hal hD hDr hx2 (hPn 2 hx2) hr2)) rfl ?_)
    repeat' (first | refine e_nil ?_ | ((first | refine e_op ?_ | refine e_yes rfl ?_); (first | refine o_n (peval_sound rfl) rfl ?_ | refine o_n (nl rfl rfl tc rfl) rfl ?_ | refine o_storeC rfl rfl rfl rfl tc uc rfl rfl rfl ?_ | refine o_box rfl rfl (fun _ => ?_) | refine o_box1 rfl rfl rfl (fun _ => ?_) | refine o_alloc rfl rfl (fun _ => ?_))) | refine e_noU rfl rfl rfl ?_ | refine e_noN rfl rfl ?_ | refine s_seq ?_ | refine s_region ?_ | refine s_block ?_ | refine s_end ?_ | refine s_skip ?_ | refine s_exit ?_ | refine s_true rfl ?_ | refine s_false rfl ?_ | refine x_hit ?_ | refine x_code ?_ | refine x_back ?_ | refine x_miss rfl ?_)
    refine e_op (o_call (aheadOf_w [.slice none 0 0, .slice none 0 0, .slice none 0 0, .slice none 0 0, .slice none 0 0] noneG (fun _ => by decide)) rfl .nil can_noneG rfl ?_)
    rintro v V ⟨AX2, n2, cX2, acs2, D2, rfl, _, _, _, _, rfl⟩
    rw [none_lrE]
    simp only [List.cons_append, List.nil_append]
    repeat' (first | ((first | refine e_op ?_ | refine e_yes rfl ?_); (first | refine o_n (peval_sound rfl) rfl ?_ | refine o_n (nl rfl rfl tc rfl) rfl ?_ | refine o_storeC rfl rfl rfl rfl tc uc rfl rfl rfl ?_ | refine o_box rfl rfl (fun _ => ?_) | refine o_box1 rfl rfl rfl (fun _ => ?_) | refine o_alloc rfl rfl (fun _ => ?_))) | refine e_noU rfl rfl rfl ?_ | refine e_noN rfl rfl ?_)
    refine e_nil ?_
    refine s_weak (fr' := [(9, .int .i64 2), (7, .int .i64 2), (6, .int .i64 4), (2, .slice (some ⟨bX, 0, none⟩) 10 cX)]) (V := [osl 69 1 (.slice (some ⟨bX, 0, none⟩) 10 cX) 10 (rowC acs (rowVs D (laX gK))), rowO acs D (laX gK), bun (innB D (laX gK))]) ?_ (Ent.wk (Ent.wk (Ent.wk (Ent.refl _)))) ?_
    · repeat' (first | exact Sub.nil _ | refine Sub.cons rfl ?_ | refine Sub.consE rfl ?_ ?_)
    repeat' (first | refine e_nil ?_ | ((first | refine e_op ?_ | refine e_yes rfl ?_); (first | refine o_n (peval_sound rfl) rfl ?_ | refine o_n (nl rfl rfl tc rfl) rfl ?_ | refine o_storeC rfl rfl rfl rfl tc uc rfl rfl rfl ?_ | refine o_box rfl rfl (fun _ => ?_) | refine o_box1 rfl rfl rfl (fun _ => ?_) | refine o_alloc rfl rfl (fun _ => ?_))) | refine e_noU rfl rfl rfl ?_ | refine e_noN rfl rfl ?_ | refine s_seq ?_ | refine s_region ?_ | refine s_block ?_ | refine s_end ?_ | refine s_skip ?_ | refine s_exit ?_ | refine s_true rfl ?_ | refine s_false rfl ?_ | refine x_hit ?_ | refine x_code ?_ | refine x_back ?_ | refine x_miss rfl ?_)
    refine s_mk gnM Tryd.mixed (by kernel_rfl) ?_ rfl ?_
    · intro i hi
      match i, hi with
      | 0, _ => exact mk_step [] rfl rfl rfl (by decide +kernel) (fun B U => o_makeS rfl rfl rfl rfl 3 rfl rfl (by decide) (by decide) rfl rfl (fun b => ⟨b, rfl, Ent.refl _⟩))
      | 1, _ => exact mk_step [] rfl rfl rfl (by decide +kernel) (fun B U => o_makeS rfl rfl rfl rfl 3 rfl rfl (by decide) (by decide) rfl rfl (fun b => ⟨b, rfl, Ent.refl _⟩))
      | 2, _ => exact mk_step [] rfl rfl rfl (by decide +kernel) (fun B U => o_makeS rfl rfl rfl rfl 4 rfl rfl (by decide) (by decide) rfl rfl (fun b => ⟨b, rfl, Ent.refl _⟩))
      | 3, _ => exact mk_step [] rfl rfl rfl (by decide +kernel) (fun B U => o_lit rfl rfl rfl rfl rfl rfl rfl (fun b => ⟨b, rfl, Ent.refl _⟩))
      | 4, _ => exact mk_step [3] rfl rfl rfl (by decide +kernel) (fun B U => o_call (p20_w _ _ _ _) rfl .nil Can.tt rfl (by rintro v V ⟨rfl, rfl⟩; exact ⟨0, rfl, Ent.refl _⟩))
      | 5, _ => exact mk_step [] rfl rfl rfl (by decide +kernel) (fun B U => o_lit rfl rfl rfl rfl rfl rfl rfl (fun b => ⟨b, rfl, Ent.refl _⟩))
      | 6, _ => exact mk_step [5] rfl rfl rfl (by decide +kernel) (fun B U => o_call (p20_w _ _ _ _) rfl .nil Can.tt rfl (by rintro v V ⟨rfl, rfl⟩; exact ⟨0, rfl, Ent.refl _⟩))
      | 7, _ => exact mk_step [] rfl rfl rfl (by decide +kernel) (fun B U => o_lit rfl rfl rfl rfl rfl rfl rfl (fun b => ⟨b, rfl, Ent.refl _⟩))
      | 8, _ => exact mk_step [7] rfl rfl rfl (by decide +kernel) (fun B U => o_call (p20_w _ _ _ _) rfl .nil Can.tt rfl (by rintro v V ⟨rfl, rfl⟩; exact ⟨0, rfl, Ent.refl _⟩))
      | 9, _ => exact mk_step [] rfl rfl rfl (by decide +kernel) (fun B U => o_call (p20_w _ _ _ _) rfl .nil Can.tt rfl (by rintro v V ⟨rfl, rfl⟩; exact ⟨0, rfl, Ent.refl _⟩))
      | 10, _ => exact mk_step [] rfl rfl rfl (by decide +kernel) (fun B U => o_lit rfl rfl rfl rfl rfl rfl rfl (fun b => ⟨b, rfl, Ent.refl _⟩))
      | 11, _ => exact mk_step [10] rfl rfl rfl (by decide +kernel) (fun B U => o_call (p20_w _ _ _ _) rfl .nil Can.tt rfl (by rintro v V ⟨rfl, rfl⟩; exact ⟨0, rfl, Ent.refl _⟩))
      | 12, _ => exact mk_step [] rfl rfl rfl (by decide +kernel) (fun B U => o_call (p20_w _ _ _ _) rfl .nil Can.tt rfl (by rintro v V ⟨rfl, rfl⟩; exact ⟨0, rfl, Ent.refl _⟩))
      | 13, _ => exact mk_step [4, 6, 8, 9, 11, 12] rfl rfl rfl (by decide +kernel) (fun B U => o_lit (ps := [(0, pv 0 (sl (B 3) 1)), (1, pv 1 (sl (B 5) 2)), (2, pv 2 (sl (B 7) 1)), (3, pv 2 (.slice none 0 0)), (4, pv 3 (sl (B 10) 1)), (5, pv 3 (.slice none 0 0))]) (cs := prC (gnA (B 3) (B 5) (B 7) (B 10)) gN.Prods) rfl rfl (by kernel_rfl) rfl rfl (by kernel_rfl) rfl (fun b => ⟨b, rfl, Ent.refl _⟩))
      | 14, _ => exact mk_step [0, 1, 2, 13] rfl rfl rfl (by decide +kernel) (fun B U => o_n (peval_sound rfl) rfl ⟨0, rfl, Ent.refl _⟩)
      | 15, _ => exact mk_step [] rfl rfl rfl (by decide +kernel) (fun B U => o_alloc rfl rfl (fun b => ⟨b, rfl, Ent.refl _⟩))
      | n + 16, h => exact absurd h (by simp [gnM])
    · intro B
      refine o_store (b := B 15) (o := 0) (vs := [sl (B 0) 3, sl (B 1) 3, .slice none 0 0, sl (B 2) 4, sl (B 13) 6]) rfl rfl rfl rfl rfl rfl rfl (.s (.s (.s (.s (.s (.s (.s (.s (.z))))))))) ?_
      refine s_weak (fr' := [(10, .pointer (some ⟨B 15, 0, none⟩)), (9, .int .i64 2), (7, .int .i64 2), (6, .int .i64 4), (2, .slice (some ⟨bX, 0, none⟩) 10 cX)]) (V := [blk (B 15) 27 [sl (B 0) 3, sl (B 1) 3, .slice none 0 0, sl (B 2) 4, sl (B 13) 6], strs (B 0) gN.Terms, levZ (B 1) gN.Levels, strs (B 2) gN.Nons, prS (some ⟨B 13, 0, none⟩) 6 (gnA (B 3) (B 5) (B 7) (B 10)) gN.Prods, prB (gnA (B 3) (B 5) (B 7) (B 10)) gN.Prods] ++ [osl 69 1 (.slice (some ⟨bX, 0, none⟩) 10 cX) 10 (rowC acs (rowVs D (laX gK))), rowO acs D (laX gK), bun (innB D (laX gK))]) ?_ ?_ ?_
      · repeat' (first | exact Sub.nil _ | refine Sub.cons rfl ?_ | refine Sub.consE rfl ?_ ?_)
      · refine Ent.tak (.s (.s (.s (.s (.s (.s (.s (.s (.z))))))))) (Ent.cons (Ent.cons (Ent.cons ?_)))
        refine Ent.tak (.s (.s (.s (.s (.z))))) ?_
        exact Ent.trans (Ent.cons (Ent.cons (Ent.cons (Ent.osl0 (Ent.cons (Ent.osl0 (Ent.refl _))))))) (ent_bun (L := [_, _, _, _, _, _]))
      generalize B 0 = b0, B 1 = b1, B 2 = b2, B 13 = bp, B 15 = bg
      obtain ⟨pacs, hpacs⟩ : ∃ a, a = (gnA (B 3) (B 5) (B 7) (B 10)) := ⟨_, rfl⟩
      have hlpacs : pacs.length = gN.Prods.length := by rw [hpacs]; rfl
      rw [← hpacs]
      clear hpacs B
      have hcan : ∀ {E0 : Go.Proofs.YtcbaebkkdkdaaaaDoor.E.Env} {U : List Asn}, Go.Proofs.YtcbaebkkdkdaaaaDoor.E.Can E0 ([blk (bg) 27 [sl (b0) 3, sl (b1) 3, .slice none 0 0, sl (b2) 4, sl (bp) 6], strs (b0) gN.Terms, levZ (b1) gN.Levels, strs (b2) gN.Nons, prS (some ⟨bp, 0, none⟩) 6 pacs gN.Prods, prB pacs gN.Prods] ++ U) (kGram.rd [sl b0 3, sl b1 3, .slice none 0 0, sl b2 4, sl bp 6] gN) :=
        can_gramP hlpacs 6 (by decide) rfl rfl (by decide) (by decide) (by decide) gn_ok (fun x hx => List.eq_of_mem_replicate hx) (Ent.wk (Ent.refl _))
      simp only [List.cons_append, List.nil_append]
      repeat' (first | refine e_nil ?_ | ((first | refine e_op ?_ | refine e_yes rfl ?_); (first | refine o_n (peval_sound rfl) rfl ?_ | refine o_n (nl rfl rfl tc rfl) rfl ?_ | refine o_storeC rfl rfl rfl rfl tc uc rfl rfl rfl ?_ | refine o_box rfl rfl (fun _ => ?_) | refine o_box1 rfl rfl rfl (fun _ => ?_) | refine o_alloc rfl rfl (fun _ => ?_))) | refine e_noU rfl rfl rfl ?_ | refine e_noN rfl rfl ?_ | refine s_seq ?_ | refine s_region ?_ | refine s_block ?_ | refine s_end ?_ | refine s_skip ?_ | refine s_exit ?_ | refine s_true rfl ?_ | refine s_false rfl ?_ | refine x_hit ?_ | refine x_code ?_ | refine x_back ?_ | refine x_miss rfl ?_)
      refine e_op (o_call (aheadOf_w [sl b0 3, sl b1 3, .slice none 0 0, sl b2 4, sl bp 6] gN (fun _ => by decide)) rfl .nil (hcan (U := [osl 69 1 (.slice (some ⟨bX, 0, none⟩) 10 cX) 10 (rowC acs (rowVs D (laX gK))), rowO acs D (laX gK), bun (innB D (laX gK))])) rfl ?_)
      rintro v V ⟨AY, m, cY, ycs, DY, rfl, hm, hal2, hD2, hDr2, rfl⟩
      have hYn : (laX gN).length = 6 := by rw [laX_len n_lrE, n_len]
      have hPm : ∀ (i : Nat) (hi : i < (laX gN).length), (laX gN)[i].length = 6 := fun i hi => by rw [laX_row n_lrE hi, YR_len]; rfl
      rw [hYn] at hm
      subst hm
      rw [n_lrE]
      simp only [List.cons_append, List.nil_append]
      repeat' (first | ((first | refine e_op ?_ | refine e_yes rfl ?_); (first | refine o_n (peval_sound rfl) rfl ?_ | refine o_n (nl rfl rfl tc rfl) rfl ?_ | refine o_storeC rfl rfl rfl rfl tc uc rfl rfl rfl ?_ | refine o_box rfl rfl (fun _ => ?_) | refine o_box1 rfl rfl rfl (fun _ => ?_) | refine o_alloc rfl rfl (fun _ => ?_))) | refine e_noU rfl rfl rfl ?_ | refine e_noN rfl rfl ?_)
      refine e_nil ?_
      refine s_weak (fr' := [(12, .int .i64 0), (11, .slice AY 6 cY), (9, .int .i64 2), (7, .int .i64 2), (6, .int .i64 4), (2, .slice (some ⟨bX, 0, none⟩) 10 cX)]) (V := [osl 69 1 (.slice AY 6 cY) 6 (rowC ycs (rowVs DY (laX gN))), rowO ycs DY (laX gN), bun (innB DY (laX gN)), osl 69 1 (.slice (some ⟨bX, 0, none⟩) 10 cX) 10 (rowC acs (rowVs D (laX gK))), rowO acs D (laX gK), bun (innB D (laX gK))]) ?_ (Ent.cons (Ent.cons (Ent.cons (Ent.wk (Ent.wk (Ent.wk (Ent.wk (Ent.wk (Ent.wk (Ent.refl _)))))))))) ?_
      · repeat' (first | exact Sub.nil _ | refine Sub.cons rfl ?_ | refine Sub.consE rfl ?_ ?_)
      clear hcan hlpacs
      refine s_open .z (by decide) ?_
      rintro bY rfl
      refine s_addrs (.s .z) (by rw [rowVs_len hD2]; exact hal2) (fun hYA => ?_)
      have hy0 : 0 < (laX gN).length := by rw [hYn]; decide
      obtain ⟨q0, hq0⟩ := x_addr hal2 hD2 hDr2 hYA hy0 (by rw [hPm]; decide)
      repeat' (first | refine e_nil ?_ | ((first | refine e_op ?_ | refine e_yes rfl ?_); (first | refine o_n (peval_sound rfl) rfl ?_ | refine o_n (nl rfl rfl tc rfl) rfl ?_ | refine o_storeC rfl rfl rfl rfl tc uc rfl rfl rfl ?_ | refine o_box rfl rfl (fun _ => ?_) | refine o_box1 rfl rfl rfl (fun _ => ?_) | refine o_alloc rfl rfl (fun _ => ?_))) | refine e_noU rfl rfl rfl ?_ | refine e_noN rfl rfl ?_ | refine s_seq ?_ | refine s_region ?_ | refine s_block ?_ | refine s_end ?_ | refine s_skip ?_ | refine s_exit ?_ | refine s_true rfl ?_ | refine s_false rfl ?_ | refine x_hit ?_ | refine x_code ?_ | refine x_back ?_ | refine x_miss rfl ?_)
      refine e_yes rfl (o_n (n_index rfl rfl rfl rfl 0 rfl (show 0 < 6 by decide)) rfl ?_)
      refine e_yes rfl (o_n (n_load_osl rfl rfl .z (x_load hal2 hD2 hDr2 hy0 (hPm 0 hy0) hq0)) rfl ?_)
      repeat' (first | refine e_nil ?_ | ((first | refine e_op ?_ | refine e_yes rfl ?_); (first | refine o_n (peval_sound rfl) rfl ?_ | refine o_n (nl rfl rfl tc rfl) rfl ?_ | refine o_storeC rfl rfl rfl rfl tc uc rfl rfl rfl ?_ | refine o_box rfl rfl (fun _ => ?_) | refine o_box1 rfl rfl rfl (fun _ => ?_) | refine o_alloc rfl rfl (fun _ => ?_))) | refine e_noU rfl rfl rfl ?_ | refine e_noN rfl rfl ?_ | refine s_seq ?_ | refine s_region ?_ | refine s_block ?_ | refine s_end ?_ | refine s_skip ?_ | refine s_exit ?_ | refine s_true rfl ?_ | refine s_false rfl ?_ | refine x_hit ?_ | refine x_code ?_ | refine x_back ?_ | refine x_miss rfl ?_)
      refine e_op (o_call works20_w rfl .nil Can.tt rfl ?_)
      rintro v V ⟨rfl, rfl⟩
      simp only [List.nil_append]
      repeat' (first | refine e_nil ?_ | ((first | refine e_op ?_ | refine e_yes rfl ?_); (first | refine o_n (peval_sound rfl) rfl ?_ | refine o_n (nl rfl rfl tc rfl) rfl ?_ | refine o_storeC rfl rfl rfl rfl tc uc rfl rfl rfl ?_ | refine o_box rfl rfl (fun _ => ?_) | refine o_box1 rfl rfl rfl (fun _ => ?_) | refine o_alloc rfl rfl (fun _ => ?_))) | refine e_noU rfl rfl rfl ?_ | refine e_noN rfl rfl ?_ | refine s_seq ?_ | refine s_region ?_ | refine s_block ?_ | refine s_end ?_ | refine s_skip ?_ | refine s_exit ?_ | refine s_true rfl ?_ | refine s_false rfl ?_ | refine x_hit ?_ | refine x_code ?_ | refine x_back ?_ | refine x_miss rfl ?_)
      refine e_yes rfl (o_n (n_index rfl rfl rfl rfl 4 rfl (show 4 < 10 by decide)) rfl ?_)
      refine e_yes rfl (o_n (n_load_osl rfl rfl (.s (.s (.s (.z)))) (x_load hal hD hDr hx4 (hPn 4 hx4) hr4)) rfl ?_)
      refine e_yes rfl (o_n (n_index rfl rfl rfl rfl 5 rfl (show 5 < 6 by decide)) rfl ?_)
      have hjx45 : 5 < (laX gK)[4].length := by rw [hPn]; decide
      have hvx45 := laX_at k_lrE hx4 hjx45
      rw [k_45] at hvx45
      refine e_yes rfl (o_n (n_xcell rfl rfl (.s (.s (.s (.s (.z))))) hal hD hDr hx4 hr4 hjx45 rfl (n := 4) (by rw [hvx45]; rfl)) rfl ?_)
      refine e_yes rfl (o_call (letters_w _ _ _ (laX gK)[4][5] (by rw [hvx45]; rfl) (by rw [hvx45]; decide)) rfl .nil (can_inn (.s (.s (.s (.s (.s (.z)))))) hD 4 hx4 (hDr _ _ _) 5 hjx45 (by rw [hvx45]; decide) (by rw [hvx45]; rfl)) rfl ?_)
      rintro v V ⟨rfl, rfl⟩
      rw [hvx45, show letS [true, false, false, false] [true, false, false, false].length = ⟨#[95]⟩ from by decide +kernel]
      simp only [List.nil_append]
      repeat' (first | refine e_nil ?_ | ((first | refine e_op ?_ | refine e_yes rfl ?_); (first | refine o_n (peval_sound rfl) rfl ?_ | refine o_n (nl rfl rfl tc rfl) rfl ?_ | refine o_storeC rfl rfl rfl rfl tc uc rfl rfl rfl ?_ | refine o_box rfl rfl (fun _ => ?_) | refine o_box1 rfl rfl rfl (fun _ => ?_) | refine o_alloc rfl rfl (fun _ => ?_))) | refine e_noU rfl rfl rfl ?_ | refine e_noN rfl rfl ?_ | refine s_seq ?_ | refine s_region ?_ | refine s_block ?_ | refine s_end ?_ | refine s_skip ?_ | refine s_exit ?_ | refine s_true rfl ?_ | refine s_false rfl ?_ | refine x_hit ?_ | refine x_code ?_ | refine x_back ?_ | refine x_miss rfl ?_)
      simp only [beq_self_eq_true]
      repeat' (first | refine e_nil ?_ | ((first | refine e_op ?_ | refine e_yes rfl ?_); (first | refine o_n (peval_sound rfl) rfl ?_ | refine o_n (nl rfl rfl tc rfl) rfl ?_ | refine o_storeC rfl rfl rfl rfl tc uc rfl rfl rfl ?_ | refine o_box rfl rfl (fun _ => ?_) | refine o_box1 rfl rfl rfl (fun _ => ?_) | refine o_alloc rfl rfl (fun _ => ?_))) | refine e_noU rfl rfl rfl ?_ | refine e_noN rfl rfl ?_ | refine s_seq ?_ | refine s_region ?_ | refine s_block ?_ | refine s_end ?_ | refine s_skip ?_ | refine s_exit ?_ | refine s_true rfl ?_ | refine s_false rfl ?_ | refine x_hit ?_ | refine x_code ?_ | refine x_back ?_ | refine x_miss rfl ?_)
      refine e_yes rfl (o_n (n_index rfl rfl rfl rfl 2 rfl (show 2 < 10 by decide)) rfl ?_)
      refine e_yes rfl (o_n (n_load_osl rfl rfl (.s (.s (.s (.z)))) (x_load hal hD hDr hx2 (hPn 2 hx2) hr2)) rfl ?_)
      refine e_yes rfl (o_n (n_index rfl rfl rfl rfl 4 rfl (show 4 < 6 by decide)) rfl ?_)
      have hjx24 : 4 < (laX gK)[2].length := by rw [hPn]; decide
      have hvx24 := laX_at k_lrE hx2 hjx24
      rw [k_24] at hvx24
      refine e_yes rfl (o_n (n_xcell rfl rfl (.s (.s (.s (.s (.z))))) hal hD hDr hx2 hr2 hjx24 rfl (n := 4) (by rw [hvx24]; rfl)) rfl ?_)
      refine e_yes rfl (o_call (letters_w _ _ _ (laX gK)[2][4] (by rw [hvx24]; rfl) (by rw [hvx24]; decide)) rfl .nil (can_inn (.s (.s (.s (.s (.s (.z)))))) hD 2 hx2 (hDr _ _ _) 4 hjx24 (by rw [hvx24]; decide) (by rw [hvx24]; rfl)) rfl ?_)
      rintro v V ⟨rfl, rfl⟩
      rw [hvx24, show letS [true, true, false, false] [true, true, false, false].length = ⟨#[95, 97]⟩ from by decide +kernel]
      simp only [List.nil_append]
      repeat' (first | refine e_nil ?_ | ((first | refine e_op ?_ | refine e_yes rfl ?_); (first | refine o_n (peval_sound rfl) rfl ?_ | refine o_n (nl rfl rfl tc rfl) rfl ?_ | refine o_storeC rfl rfl rfl rfl tc uc rfl rfl rfl ?_ | refine o_box rfl rfl (fun _ => ?_) | refine o_box1 rfl rfl rfl (fun _ => ?_) | refine o_alloc rfl rfl (fun _ => ?_))) | refine e_noU rfl rfl rfl ?_ | refine e_noN rfl rfl ?_ | refine s_seq ?_ | refine s_region ?_ | refine s_block ?_ | refine s_end ?_ | refine s_skip ?_ | refine s_exit ?_ | refine s_true rfl ?_ | refine s_false rfl ?_ | refine x_hit ?_ | refine x_code ?_ | refine x_back ?_ | refine x_miss rfl ?_)
      simp only [beq_self_eq_true]
      repeat' (first | refine e_nil ?_ | ((first | refine e_op ?_ | refine e_yes rfl ?_); (first | refine o_n (peval_sound rfl) rfl ?_ | refine o_n (nl rfl rfl tc rfl) rfl ?_ | refine o_storeC rfl rfl rfl rfl tc uc rfl rfl rfl ?_ | refine o_box rfl rfl (fun _ => ?_) | refine o_box1 rfl rfl rfl (fun _ => ?_) | refine o_alloc rfl rfl (fun _ => ?_))) | refine e_noU rfl rfl rfl ?_ | refine e_noN rfl rfl ?_ | refine s_seq ?_ | refine s_region ?_ | refine s_block ?_ | refine s_end ?_ | refine s_skip ?_ | refine s_exit ?_ | refine s_true rfl ?_ | refine s_false rfl ?_ | refine x_hit ?_ | refine x_code ?_ | refine x_back ?_ | refine x_miss rfl ?_)
      refine e_yes rfl (o_n (n_index rfl rfl rfl rfl 0 rfl (show 0 < 6 by decide)) rfl ?_)
      refine e_yes rfl (o_n (n_load_osl rfl rfl .z (x_load hal2 hD2 hDr2 hy0 (hPm 0 hy0) hq0)) rfl ?_)
      refine e_yes rfl (o_n (n_index rfl rfl rfl rfl 3 rfl (show 3 < 6 by decide)) rfl ?_)
      have hjy03 : 3 < (laX gN)[0].length := by rw [hPm]; decide
      have hvy03 := laX_at n_lrE hy0 hjy03
      rw [n_03] at hvy03
      refine e_yes rfl (o_n (n_xcell rfl rfl (.s (.z)) hal2 hD2 hDr2 hy0 hq0 hjy03 rfl (n := 3) (by rw [hvy03]; rfl)) rfl ?_)
      refine e_yes rfl (o_call (letters_w _ _ _ (laX gN)[0][3] (by rw [hvy03]; rfl) (by rw [hvy03]; decide)) rfl .nil (can_inn (.s (.s (.z))) hD2 0 hy0 (hDr2 _ _ _) 3 hjy03 (by rw [hvy03]; decide) (by rw [hvy03]; rfl)) rfl ?_)
      rintro v V ⟨rfl, rfl⟩
      rw [hvy03, show letS [true, false, true] [true, false, true].length = ⟨#[95, 98]⟩ from by decide +kernel]
      simp only [List.nil_append]
      repeat' (first | refine e_nil ?_ | ((first | refine e_op ?_ | refine e_yes rfl ?_); (first | refine o_n (peval_sound rfl) rfl ?_ | refine o_n (nl rfl rfl tc rfl) rfl ?_ | refine o_storeC rfl rfl rfl rfl tc uc rfl rfl rfl ?_ | refine o_box rfl rfl (fun _ => ?_) | refine o_box1 rfl rfl rfl (fun _ => ?_) | refine o_alloc rfl rfl (fun _ => ?_))) | refine e_noU rfl rfl rfl ?_ | refine e_noN rfl rfl ?_ | refine s_seq ?_ | refine s_region ?_ | refine s_block ?_ | refine s_end ?_ | refine s_skip ?_ | refine s_exit ?_ | refine s_true rfl ?_ | refine s_false rfl ?_ | refine x_hit ?_ | refine x_code ?_ | refine x_back ?_ | refine x_miss rfl ?_)
      simp only [beq_self_eq_true]
      repeat' (first | refine e_nil ?_ | ((first | refine e_op ?_ | refine e_yes rfl ?_); (first | refine o_n (peval_sound rfl) rfl ?_ | refine o_n (nl rfl rfl tc rfl) rfl ?_ | refine o_storeC rfl rfl rfl rfl tc uc rfl rfl rfl ?_ | refine o_box rfl rfl (fun _ => ?_) | refine o_box1 rfl rfl rfl (fun _ => ?_) | refine o_alloc rfl rfl (fun _ => ?_))) | refine e_noU rfl rfl rfl ?_ | refine e_noN rfl rfl ?_ | refine s_seq ?_ | refine s_region ?_ | refine s_block ?_ | refine s_end ?_ | refine s_skip ?_ | refine s_exit ?_ | refine s_true rfl ?_ | refine s_false rfl ?_ | refine x_hit ?_ | refine x_code ?_ | refine x_back ?_ | refine x_miss rfl ?_)
      refine e_yes rfl (o_n (n_index rfl rfl rfl rfl 0 rfl (show 0 < 6 by decide)) rfl ?_)
      refine e_yes rfl (o_n (n_load_osl rfl rfl .z (x_load hal2 hD2 hDr2 hy0 (hPm 0 hy0) hq0)) rfl ?_)
      refine e_yes rfl (o_n (n_index rfl rfl rfl rfl 5 rfl (show 5 < 6 by decide)) rfl ?_)
      have hjy05 : 5 < (laX gN)[0].length := by rw [hPm]; decide
      have hvy05 := laX_at n_lrE hy0 hjy05
      rw [n_05] at hvy05
      refine e_yes rfl (o_n (n_xcell rfl rfl (.s (.z)) hal2 hD2 hDr2 hy0 hq0 hjy05 rfl (n := 0) (by rw [hvy05]; rfl)) rfl ?_)
      repeat' (first | refine e_nil ?_ | ((first | refine e_op ?_ | refine e_yes rfl ?_); (first | refine o_n (peval_sound rfl) rfl ?_ | refine o_n (nl rfl rfl tc rfl) rfl ?_ | refine o_storeC rfl rfl rfl rfl tc uc rfl rfl rfl ?_ | refine o_box rfl rfl (fun _ => ?_) | refine o_box1 rfl rfl rfl (fun _ => ?_) | refine o_alloc rfl rfl (fun _ => ?_))) | refine e_noU rfl rfl rfl ?_ | refine e_noN rfl rfl ?_ | refine s_seq ?_ | refine s_region ?_ | refine s_block ?_ | refine s_end ?_ | refine s_skip ?_ | refine s_exit ?_ | refine s_true rfl ?_ | refine s_false rfl ?_ | refine x_hit ?_ | refine x_code ?_ | refine x_back ?_ | refine x_miss rfl ?_)
      refine s_ret ⟨_, _, res1 rfl rfl, ⟨rfl, rfl⟩, Ent.nil _⟩

end Go.Proofs.YtcbaebkkdkdaaaaDoor
