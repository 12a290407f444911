/-
  The statements LrStates and LrCloses, walked.
-/
import Derived.Test.YtcbaebkkdkdaaaaDoorLrBase5

namespace Go.Proofs.YtcbaebkkdkdaaaaDoor
set_option linter.all false
open Go.Proofs.YtcbaebkkdkdaaaaDoor.E

theorem flat_itm : Flat kItm := flat_iso (flat_pair flat_int flat_int)
theorem one_itm : OneC kItm := onec_iso (onec_pair onec_int onec_int)

theorem closeL_len (g : Gram) (l : List Itm) : (closeL g l).length ≤ 100000 ∧ ∀ x ∈ closeL g l, I64 x.Prod ∧ I64 x.Dot := by
  unfold closeL
  by_cases h : closeE g l = 0
  · rw [if_pos h]
    unfold closeE at h
    by_cases hc : checkE g = 0
    · obtain ⟨hlm, hwf⟩ := checkE_ok hc
      have hL := lims hlm
      have o := GOk.of hwf
      rw [if_neg (fun hn => hn hc)] at h
      split at h
      · cases h
      · split at h
        · rename_i h2 h3
          have hin : ∀ x ∈ l, inG g x = true := by unfold allIn at h3; rwa [List.all_eq_true] at h3
          obtain ⟨hs, hm⟩ := closedP_spec o.beh o.left hin
          have hci : ∀ x ∈ closedP g l, inG g x = true := fun x hx => ((hm x).1 hx).inG hin
          have := sort_len hL hs hci
          exact ⟨by omega, fun x hx => by have := inG_dot hL (hci x hx); exact ⟨⟨by omega, by omega⟩, ⟨by omega, by omega⟩⟩⟩
        · cases h
    · rw [if_pos hc] at h; exact absurd h hc
  · rw [if_neg h]; exact ⟨by simp, fun x hx => (by cases hx)⟩

theorem can_close {E0 : Go.Proofs.YtcbaebkkdkdaaaaDoor.E.Env} {U U' : List Asn} {g : Gram} {l : List Itm} {A : Option Addr} {c : Nat} (ht : Tak (pX A (closeL g l).length c (closeL g l)) U U') : Go.Proofs.YtcbaebkkdkdaaaaDoor.E.Can E0 U ((kslice 16 kItm).rd [.slice A (closeL g l).length c] (closeL g l)) :=
  can_items ht (closeL_len g l).2 (closeL_len g l).1

theorem map_len_set {α : Type} {l : List (List α)} {i : Nat} {r : List α} (h : i < l.length) (hr : r.length = l[i].length) : (l.set i r).map List.length = l.map List.length := by
  rw [List.map_set, hr]
  apply List.ext_getElem
  · simp
  · intro j h1 h2
    rw [List.getElem_set]
    split
    · rename_i e; subst e; simp
    · simp

/-- The first item's dot set. -/
def upd1 : List Itm → List Itm
  | [] => []
  | x :: r => ⟨x.Prod, 77⟩ :: r
theorem upd1_len (r : List Itm) : (upd1 r).length = r.length := by cases r <;> rfl
theorem upd1_cells {r : List Itm} (h : 0 < r.length) : setMany (r.flatMap encX) (0 + 0 * 2 + 1) [.int .i64 77] = (upd1 r).flatMap encX := by
  cases r with
  | nil => cases h
  | cons x r => simp [setMany, encX, upd1]

theorem lr_pos {g : Gram} {KS : List (List Itm)} {GS : List (List Int)} {i : Nat} (hk : lrKs g = KS) (hg : lrGs g = GS) (hi : i < KS.length) (hj : i < GS.length) : 0 < KS[i].length ∧ 0 < GS[i].length := by
  subst hk; subst hg
  by_cases h : lrE g = 0
  · obtain ⟨hc, hk, hK, hn⟩ := lr_fin h
    obtain ⟨hlm, hwf⟩ := checkE_ok hc
    refine ⟨?_, ?_⟩
    · rcases Nat.eq_zero_or_pos (lrKs g)[i].length with h0 | h0
      · exact absurd (List.eq_nil_of_length_eq_zero h0) (hK.ok _ (List.getElem_mem hi)).ne
      · exact h0
    · have h1 : (lrGs g)[i] ∈ lrGs g := List.getElem_mem hj
      generalize (lrGs g)[i] = r at h1 ⊢
      unfold lrGs at h1
      obtain ⟨k, _, rfl⟩ := List.mem_map.1 h1
      unfold gotoR
      have := hwf.t
      rw [List.length_map, List.length_range]; omega
  · obtain ⟨h1, h2⟩ := lr_bad h
    have hi := hi
    rw [h1] at hi
    cases hi

attribute [local irreducible] EVX EVO EVL EV1 NEV
attribute [local irreducible] own osl exA rdA rdL
attribute [local irreducible] bldA mapA bun
set_option maxRecDepth 10000
set_option maxHeartbeats 4000000

theorem few_w (cs : List Value) (g : Gram) : Trip Tryd.prog 13 [.agg cs.toArray] (kGram.rd cs g) [] (fun v V => v = .bool (decide ((g.Prods.length : Int) ≤ 40)) ∧ V = []) := by
  refine trip Tryd.tabOk Tryd.func13 rfl rfl rfl rfl ?_
  rintro w SM hG0
  obtain ⟨A0, A1, A2, A3, A4, c0, c1, c2, c3, c4, rfl, hG⟩ := kGram_open hG0
  repeat' (first | refine e_nil ?_ | ((first | refine e_op ?_ | refine e_yes rfl ?_); (first | refine o_n (peval_sound rfl) rfl ?_ | refine o_n (nl rfl rfl tc rfl) rfl ?_ | refine o_storeC rfl rfl rfl rfl tc uc rfl rfl rfl ?_ | refine o_box rfl rfl (fun _ => ?_) | refine o_box1 rfl rfl rfl (fun _ => ?_) | refine o_alloc rfl rfl (fun _ => ?_))) | refine e_noU rfl rfl rfl ?_ | refine e_noN rfl rfl ?_ | refine s_seq ?_ | refine s_region ?_ | refine s_block ?_ | refine s_end ?_ | refine s_skip ?_ | refine s_exit ?_ | refine s_true rfl ?_ | refine s_false rfl ?_ | refine x_hit ?_ | refine x_code ?_ | refine x_back ?_ | refine x_miss rfl ?_)
  refine s_ret ⟨_, _, res1 rfl rfl, ⟨rfl, rfl⟩, Ent.nil _⟩

theorem lrCloses_w (cs : List Value) (g : Gram) (A : Option Addr) (c : Nat) (l : List Itm) :
    Trip Tryd.prog 4 [.agg cs.toArray, .slice A l.length c] ((kGram.rd cs g).and ((kslice 16 kItm).rd [.slice A l.length c] l)) [] (fun v V => v = .bool true ∧ V = []) := by
  refine trip Tryd.tabOk Tryd.func4 rfl rfl rfl rfl ?_
  rintro w SM ⟨hG0, h1⟩
  have hl : l.length * 16 ≤ 140737488355328 := by obtain ⟨A', c', _, _, h, _⟩ := h1; exact h
  obtain ⟨A0, A1, A2, A3, A4, c0, c1, c2, c3, c4, rfl, hG⟩ := kGram_open hG0
  repeat' (first | refine e_nil ?_ | ((first | refine e_op ?_ | refine e_yes rfl ?_); (first | refine o_n (peval_sound rfl) rfl ?_ | refine o_n (nl rfl rfl tc rfl) rfl ?_ | refine o_storeC rfl rfl rfl rfl tc uc rfl rfl rfl ?_ | refine o_box rfl rfl (fun _ => ?_) | refine o_box1 rfl rfl rfl (fun _ => ?_) | refine o_alloc rfl rfl (fun _ => ?_))) | refine e_noU rfl rfl rfl ?_ | refine e_noN rfl rfl ?_ | refine s_seq ?_ | refine s_region ?_ | refine s_block ?_ | refine s_end ?_ | refine s_skip ?_ | refine s_exit ?_ | refine s_true rfl ?_ | refine s_false rfl ?_ | refine x_hit ?_ | refine x_code ?_ | refine x_back ?_ | refine x_miss rfl ?_)
  refine e_op (o_copy (k := kItm) (bytes := 16) flat_itm one_itm rfl rfl rfl rfl rfl (Can.ro h1) rfl rfl hl rfl rfl rfl (fun Ai ci => ?_))
  repeat' (first | refine e_nil ?_ | ((first | refine e_op ?_ | refine e_yes rfl ?_); (first | refine o_n (peval_sound rfl) rfl ?_ | refine o_n (nl rfl rfl tc rfl) rfl ?_ | refine o_storeC rfl rfl rfl rfl tc uc rfl rfl rfl ?_ | refine o_box rfl rfl (fun _ => ?_) | refine o_box1 rfl rfl rfl (fun _ => ?_) | refine o_alloc rfl rfl (fun _ => ?_))) | refine e_noU rfl rfl rfl ?_ | refine e_noN rfl rfl ?_ | refine s_seq ?_ | refine s_region ?_ | refine s_block ?_ | refine s_end ?_ | refine s_skip ?_ | refine s_exit ?_ | refine s_true rfl ?_ | refine s_false rfl ?_ | refine x_hit ?_ | refine x_code ?_ | refine x_back ?_ | refine x_miss rfl ?_)
  refine e_op (o_call (closeP_w _ g Ai ci l) rfl .nil (Can.and (Can.ro hG0) (Can.rdA .z)) rfl ?_)
  rintro v V ⟨Ax, cx, rfl, rfl⟩
  simp only [List.cons_append, List.nil_append]
  repeat' (first | refine e_nil ?_ | ((first | refine e_op ?_ | refine e_yes rfl ?_); (first | refine o_n (peval_sound rfl) rfl ?_ | refine o_n (nl rfl rfl tc rfl) rfl ?_ | refine o_storeC rfl rfl rfl rfl tc uc rfl rfl rfl ?_ | refine o_box rfl rfl (fun _ => ?_) | refine o_box1 rfl rfl rfl (fun _ => ?_) | refine o_alloc rfl rfl (fun _ => ?_))) | refine e_noU rfl rfl rfl ?_ | refine e_noN rfl rfl ?_ | refine s_seq ?_ | refine s_region ?_ | refine s_block ?_ | refine s_end ?_ | refine s_skip ?_ | refine s_exit ?_ | refine s_true rfl ?_ | refine s_false rfl ?_ | refine x_hit ?_ | refine x_code ?_ | refine x_back ?_ | refine x_miss rfl ?_)
  refine e_op (o_call (close_w _ g A c l) rfl .nil (Can.and (Can.ro hG0) (Can.ro h1)) rfl ?_)
  rintro v V ⟨Ay, cy, rfl, rfl⟩
  simp only [List.cons_append, List.nil_append]
  repeat' (first | refine e_nil ?_ | ((first | refine e_op ?_ | refine e_yes rfl ?_); (first | refine o_n (peval_sound rfl) rfl ?_ | refine o_n (nl rfl rfl tc rfl) rfl ?_ | refine o_storeC rfl rfl rfl rfl tc uc rfl rfl rfl ?_ | refine o_box rfl rfl (fun _ => ?_) | refine o_box1 rfl rfl rfl (fun _ => ?_) | refine o_alloc rfl rfl (fun _ => ?_))) | refine e_noU rfl rfl rfl ?_ | refine e_noN rfl rfl ?_ | refine s_seq ?_ | refine s_region ?_ | refine s_block ?_ | refine s_end ?_ | refine s_skip ?_ | refine s_exit ?_ | refine s_true rfl ?_ | refine s_false rfl ?_ | refine x_hit ?_ | refine x_code ?_ | refine x_back ?_ | refine x_miss rfl ?_)
  refine e_op (o_call (sameItems_w Ax Ay cx cy (closeL g l) (closeL g l)) rfl .nil (Can.and (can_close (.s .z)) (can_close .z)) rfl ?_)
  rintro v V ⟨rfl, rfl⟩
  rw [decide_eq_true rfl]
  simp only [List.nil_append]
  repeat' (first | refine e_nil ?_ | ((first | refine e_op ?_ | refine e_yes rfl ?_); (first | refine o_n (peval_sound rfl) rfl ?_ | refine o_n (nl rfl rfl tc rfl) rfl ?_ | refine o_storeC rfl rfl rfl rfl tc uc rfl rfl rfl ?_ | refine o_box rfl rfl (fun _ => ?_) | refine o_box1 rfl rfl rfl (fun _ => ?_) | refine o_alloc rfl rfl (fun _ => ?_))) | refine e_noU rfl rfl rfl ?_ | refine e_noN rfl rfl ?_ | refine s_seq ?_ | refine s_region ?_ | refine s_block ?_ | refine s_end ?_ | refine s_skip ?_ | refine s_exit ?_ | refine s_true rfl ?_ | refine s_false rfl ?_ | refine x_hit ?_ | refine x_code ?_ | refine x_back ?_ | refine x_miss rfl ?_)
  rw [show (closeE g l == closeE g l) = true by simp]
  repeat' (first | refine e_nil ?_ | ((first | refine e_op ?_ | refine e_yes rfl ?_); (first | refine o_n (peval_sound rfl) rfl ?_ | refine o_n (nl rfl rfl tc rfl) rfl ?_ | refine o_storeC rfl rfl rfl rfl tc uc rfl rfl rfl ?_ | refine o_box rfl rfl (fun _ => ?_) | refine o_box1 rfl rfl rfl (fun _ => ?_) | refine o_alloc rfl rfl (fun _ => ?_))) | refine e_noU rfl rfl rfl ?_ | refine e_noN rfl rfl ?_ | refine s_seq ?_ | refine s_region ?_ | refine s_block ?_ | refine s_end ?_ | refine s_skip ?_ | refine s_exit ?_ | refine s_true rfl ?_ | refine s_false rfl ?_ | refine x_hit ?_ | refine x_code ?_ | refine x_back ?_ | refine x_miss rfl ?_)
  refine e_yes rfl (o_call (sameItems_w Ai A ci c l l) rfl .nil (Can.and (Can.rdA (.s (.s .z))) (Can.ro h1)) rfl ?_)
  rintro v V ⟨rfl, rfl⟩
  rw [decide_eq_true rfl]
  simp only [List.nil_append]
  repeat' (first | refine e_nil ?_ | ((first | refine e_op ?_ | refine e_yes rfl ?_); (first | refine o_n (peval_sound rfl) rfl ?_ | refine o_n (nl rfl rfl tc rfl) rfl ?_ | refine o_storeC rfl rfl rfl rfl tc uc rfl rfl rfl ?_ | refine o_box rfl rfl (fun _ => ?_) | refine o_box1 rfl rfl rfl (fun _ => ?_) | refine o_alloc rfl rfl (fun _ => ?_))) | refine e_noU rfl rfl rfl ?_ | refine e_noN rfl rfl ?_ | refine s_seq ?_ | refine s_region ?_ | refine s_block ?_ | refine s_end ?_ | refine s_skip ?_ | refine s_exit ?_ | refine s_true rfl ?_ | refine s_false rfl ?_ | refine x_hit ?_ | refine x_code ?_ | refine x_back ?_ | refine x_miss rfl ?_)
  refine e_yes rfl (o_call works19_w rfl .nil Can.tt rfl ?_)
  rintro v V ⟨rfl, rfl⟩
  repeat' (first | refine e_nil ?_ | ((first | refine e_op ?_ | refine e_yes rfl ?_); (first | refine o_n (peval_sound rfl) rfl ?_ | refine o_n (nl rfl rfl tc rfl) rfl ?_ | refine o_storeC rfl rfl rfl rfl tc uc rfl rfl rfl ?_ | refine o_box rfl rfl (fun _ => ?_) | refine o_box1 rfl rfl rfl (fun _ => ?_) | refine o_alloc rfl rfl (fun _ => ?_))) | refine e_noU rfl rfl rfl ?_ | refine e_noN rfl rfl ?_ | refine s_seq ?_ | refine s_region ?_ | refine s_block ?_ | refine s_end ?_ | refine s_skip ?_ | refine s_exit ?_ | refine s_true rfl ?_ | refine s_false rfl ?_ | refine x_hit ?_ | refine x_code ?_ | refine x_back ?_ | refine x_miss rfl ?_)
  refine s_ret ⟨_, _, res1 rfl rfl, ⟨rfl, rfl⟩, Ent.nil _⟩

theorem lrStates_w (cs : List Value) (g : Gram) : Trip Tryd.prog 3 [.agg cs.toArray] (kGram.rd cs g) [] (fun v V => v = .bool true ∧ V = []) := by
  refine trip Tryd.tabOk Tryd.func3 rfl rfl rfl rfl ?_
  rintro w SM hG0
  obtain ⟨A0, A1, A2, A3, A4, c0, c1, c2, c3, c4, rfl, hG⟩ := kGram_open hG0
  repeat' (first | refine e_nil ?_ | ((first | refine e_op ?_ | refine e_yes rfl ?_); (first | refine o_n (peval_sound rfl) rfl ?_ | refine o_n (nl rfl rfl tc rfl) rfl ?_ | refine o_storeC rfl rfl rfl rfl tc uc rfl rfl rfl ?_ | refine o_box rfl rfl (fun _ => ?_) | refine o_box1 rfl rfl rfl (fun _ => ?_) | refine o_alloc rfl rfl (fun _ => ?_))) | refine e_noU rfl rfl rfl ?_ | refine e_noN rfl rfl ?_ | refine s_seq ?_ | refine s_region ?_ | refine s_block ?_ | refine s_end ?_ | refine s_skip ?_ | refine s_exit ?_ | refine s_true rfl ?_ | refine s_false rfl ?_ | refine x_hit ?_ | refine x_code ?_ | refine x_back ?_ | refine x_miss rfl ?_)
  refine e_op (o_call (few_w _ g) rfl .nil (Can.ro hG0) rfl ?_)
  rintro v V ⟨rfl, rfl⟩
  simp only [List.nil_append]
  repeat' (first | refine e_nil ?_ | ((first | refine e_op ?_ | refine e_yes rfl ?_); (first | refine o_n (peval_sound rfl) rfl ?_ | refine o_n (nl rfl rfl tc rfl) rfl ?_ | refine o_storeC rfl rfl rfl rfl tc uc rfl rfl rfl ?_ | refine o_box rfl rfl (fun _ => ?_) | refine o_box1 rfl rfl rfl (fun _ => ?_) | refine o_alloc rfl rfl (fun _ => ?_))) | refine e_noU rfl rfl rfl ?_ | refine e_noN rfl rfl ?_ | refine s_seq ?_ | refine s_region ?_ | refine s_block ?_ | refine s_end ?_ | refine s_skip ?_ | refine s_exit ?_ | refine s_true rfl ?_ | refine s_false rfl ?_ | refine x_hit ?_ | refine x_code ?_ | refine x_back ?_ | refine x_miss rfl ?_)
  by_cases hfew : (g.Prods.length : Int) ≤ 40
  · rw [decide_eq_true hfew]
    repeat' (first | refine e_nil ?_ | ((first | refine e_op ?_ | refine e_yes rfl ?_); (first | refine o_n (peval_sound rfl) rfl ?_ | refine o_n (nl rfl rfl tc rfl) rfl ?_ | refine o_storeC rfl rfl rfl rfl tc uc rfl rfl rfl ?_ | refine o_box rfl rfl (fun _ => ?_) | refine o_box1 rfl rfl rfl (fun _ => ?_) | refine o_alloc rfl rfl (fun _ => ?_))) | refine e_noU rfl rfl rfl ?_ | refine e_noN rfl rfl ?_ | refine s_seq ?_ | refine s_region ?_ | refine s_block ?_ | refine s_end ?_ | refine s_skip ?_ | refine s_exit ?_ | refine s_true rfl ?_ | refine s_false rfl ?_ | refine x_hit ?_ | refine x_code ?_ | refine x_back ?_ | refine x_miss rfl ?_)
    rename_i bg
    refine e_op (o_call (copy_w _ g) rfl .nil (Can.ro hG0) rfl ?_)
    rintro v V ⟨a0, a1, a2, a3, a4, d0, d1, d2, d3, d4, rfl, rfl⟩
    simp only [List.cons_append, List.nil_append]
    repeat' (first | refine e_nil ?_ | ((first | refine e_op ?_ | refine e_yes rfl ?_); (first | refine o_n (peval_sound rfl) rfl ?_ | refine o_n (nl rfl rfl tc rfl) rfl ?_ | refine o_storeC rfl rfl rfl rfl tc uc rfl rfl rfl ?_ | refine o_box rfl rfl (fun _ => ?_) | refine o_box1 rfl rfl rfl (fun _ => ?_) | refine o_alloc rfl rfl (fun _ => ?_))) | refine e_noU rfl rfl rfl ?_ | refine e_noN rfl rfl ?_ | refine s_seq ?_ | refine s_region ?_ | refine s_block ?_ | refine s_end ?_ | refine s_skip ?_ | refine s_exit ?_ | refine s_true rfl ?_ | refine s_false rfl ?_ | refine x_hit ?_ | refine x_code ?_ | refine x_back ?_ | refine x_miss rfl ?_)
    rename_i b6
    refine e_op (o_call (ofP_w [.slice a0 g.Terms.length d0, .slice a1 g.Levels.length d1, .slice a2 g.Pats.length d2, .slice a3 g.Nons.length d3, .slice a4 g.Prods.length d4] g (fun _ => by omega)) rfl .nil (Can.rdA (.s .z)) rfl ?_)
    rintro v V ⟨x, rfl, AK, cK, acs, AG, cG, bcs, hl, hb, rfl, rfl⟩
    simp only [List.cons_append, List.nil_append]
    have hN := lr_num g
    have hgk : (lrGs g).length = (lrKs g).length := by unfold lrGs; rw [List.length_map]
    generalize hKS : lrKs g = KS at hl hN hgk ⊢
    generalize hGS : lrGs g = GS at hb hN hgk ⊢
    repeat' (first | refine e_nil ?_ | ((first | refine e_op ?_ | refine e_yes rfl ?_); (first | refine o_n (peval_sound rfl) rfl ?_ | refine o_n (nl rfl rfl tc rfl) rfl ?_ | refine o_storeC rfl rfl rfl rfl tc uc rfl rfl rfl ?_ | refine o_box rfl rfl (fun _ => ?_) | refine o_box1 rfl rfl rfl (fun _ => ?_) | refine o_alloc rfl rfl (fun _ => ?_))) | refine e_noU rfl rfl rfl ?_ | refine e_noN rfl rfl ?_ | refine s_seq ?_ | refine s_region ?_ | refine s_block ?_ | refine s_end ?_ | refine s_skip ?_ | refine s_exit ?_ | refine s_true rfl ?_ | refine s_false rfl ?_ | refine x_hit ?_ | refine x_code ?_ | refine x_back ?_ | refine x_miss rfl ?_)
    rename_i b7
    refine e_op (o_call (ofR19_w _ g) rfl .nil (Can.ro hG0) rfl ?_)
    rintro v V ⟨y, rfl, AY, cY, acy, AH, cH, bcy, hly, hby, rfl, rfl⟩
    simp only [List.cons_append, List.nil_append]
    rw [hKS] at hly ⊢
    rw [hGS] at hby ⊢
    repeat' (first | refine e_nil ?_ | ((first | refine e_op ?_ | refine e_yes rfl ?_); (first | refine o_n (peval_sound rfl) rfl ?_ | refine o_n (nl rfl rfl tc rfl) rfl ?_ | refine o_storeC rfl rfl rfl rfl tc uc rfl rfl rfl ?_ | refine o_box rfl rfl (fun _ => ?_) | refine o_box1 rfl rfl rfl (fun _ => ?_) | refine o_alloc rfl rfl (fun _ => ?_))) | refine e_noU rfl rfl rfl ?_ | refine e_noN rfl rfl ?_ | refine s_seq ?_ | refine s_region ?_ | refine s_block ?_ | refine s_end ?_ | refine s_skip ?_ | refine s_exit ?_ | refine s_true rfl ?_ | refine s_false rfl ?_ | refine x_hit ?_ | refine x_code ?_ | refine x_back ?_ | refine x_miss rfl ?_)
    rename_i b9
    refine e_op (o_call (same19_w [.slice AK KS.length cK, .slice AG GS.length cG] [.slice AY KS.length cY, .slice AH GS.length cH] (KS, GS) (KS, GS) hgk) rfl .nil (Can.and (can_lr hl hb hN (Ent.tak (.s (.s (.s (.s (.s (.s .z)))))) (Ent.tak (.s (.s (.s (.s (.s (.s .z)))))) (Ent.tak (.s (.s (.s (.s (.s (.s .z)))))) (Ent.tak (.s (.s (.s (.s (.s (.s .z)))))) (Ent.refl _)))))) (can_lr hly hby hN (Ent.tak (.s .z) (Ent.tak (.s .z) (Ent.tak (.s .z) (Ent.tak (.s .z) (Ent.refl _))))))) rfl ?_)
    rintro v V ⟨rfl, rfl⟩
    rw [decide_eq_true rfl]
    simp only [List.nil_append]
    repeat' (first | refine e_nil ?_ | ((first | refine e_op ?_ | refine e_yes rfl ?_); (first | refine o_n (peval_sound rfl) rfl ?_ | refine o_n (nl rfl rfl tc rfl) rfl ?_ | refine o_storeC rfl rfl rfl rfl tc uc rfl rfl rfl ?_ | refine o_box rfl rfl (fun _ => ?_) | refine o_box1 rfl rfl rfl (fun _ => ?_) | refine o_alloc rfl rfl (fun _ => ?_))) | refine e_noU rfl rfl rfl ?_ | refine e_noN rfl rfl ?_ | refine s_seq ?_ | refine s_region ?_ | refine s_block ?_ | refine s_end ?_ | refine s_skip ?_ | refine s_exit ?_ | refine s_true rfl ?_ | refine s_false rfl ?_ | refine x_hit ?_ | refine x_code ?_ | refine x_back ?_ | refine x_miss rfl ?_)
    rw [show (lrE g != lrE g) = false by simp]
    repeat' (first | refine e_nil ?_ | ((first | refine e_op ?_ | refine e_yes rfl ?_); (first | refine o_n (peval_sound rfl) rfl ?_ | refine o_n (nl rfl rfl tc rfl) rfl ?_ | refine o_storeC rfl rfl rfl rfl tc uc rfl rfl rfl ?_ | refine o_box rfl rfl (fun _ => ?_) | refine o_box1 rfl rfl rfl (fun _ => ?_) | refine o_alloc rfl rfl (fun _ => ?_))) | refine e_noU rfl rfl rfl ?_ | refine e_noN rfl rfl ?_ | refine s_seq ?_ | refine s_region ?_ | refine s_block ?_ | refine s_end ?_ | refine s_skip ?_ | refine s_exit ?_ | refine s_true rfl ?_ | refine s_false rfl ?_ | refine x_hit ?_ | refine x_code ?_ | refine x_back ?_ | refine x_miss rfl ?_)
    refine e_yes rfl (o_call (same_w [.slice a0 g.Terms.length d0, .slice a1 g.Levels.length d1, .slice a2 g.Pats.length d2, .slice a3 g.Nons.length d3, .slice a4 g.Prods.length d4] _ g) rfl .nil (Can.and (Can.rdA (.s (.s (.s (.s (.s (.s (.s (.s (.s (.s (.s .z)))))))))))) (Can.ro hG0)) rfl ?_)
    rintro v V ⟨rfl, rfl⟩
    simp only [List.nil_append]
    repeat' (first | refine e_nil ?_ | ((first | refine e_op ?_ | refine e_yes rfl ?_); (first | refine o_n (peval_sound rfl) rfl ?_ | refine o_n (nl rfl rfl tc rfl) rfl ?_ | refine o_storeC rfl rfl rfl rfl tc uc rfl rfl rfl ?_ | refine o_box rfl rfl (fun _ => ?_) | refine o_box1 rfl rfl rfl (fun _ => ?_) | refine o_alloc rfl rfl (fun _ => ?_))) | refine e_noU rfl rfl rfl ?_ | refine e_noN rfl rfl ?_ | refine s_seq ?_ | refine s_region ?_ | refine s_block ?_ | refine s_end ?_ | refine s_skip ?_ | refine s_exit ?_ | refine s_true rfl ?_ | refine s_false rfl ?_ | refine x_hit ?_ | refine x_code ?_ | refine x_back ?_ | refine x_miss rfl ?_)
    refine s_loopK (ι := {z : Nat × List (List Itm) × List (List Int) // z.1 ≤ KS.length ∧ z.2.1.map List.length = KS.map List.length ∧ z.2.2.map List.length = GS.map List.length}) [1, 7, 9] rfl ⟨(0, KS, GS), by omega, rfl, rfl⟩ (fun z => [(11, .int .i64 z.1.1)])
      (fun z => [kerS AK KS.length cK acs KS, kerB acs z.1.2.1, gotS AG GS.length cG bcs GS, gotB bcs z.1.2.2, blk b7 35 [.slice AK KS.length cK, .slice AG GS.length cG], kerS AY KS.length cY acy KS, kerB acy KS, gotS AH GS.length cH bcy GS, gotB bcy GS, blk b9 35 [.slice AY KS.length cY, .slice AH GS.length cH], blk bg 27 [.slice A0 g.Terms.length c0, .slice A1 g.Levels.length c1, .slice A2 g.Pats.length c2, .slice A3 g.Nons.length c3, .slice A4 g.Prods.length c4]])
      (fun z => KS.length - z.1.1) ?_ ?_ ?_
    · repeat' (first | exact Sub.nil _ | refine Sub.cons rfl ?_ | refine Sub.consE rfl ?_ ?_)
    · exact Ent.tak (.s (.s (.s (.s (.s (.s .z)))))) (Ent.tak (.s (.s (.s (.s (.s (.s .z)))))) (Ent.tak (.s (.s (.s (.s (.s (.s .z)))))) (Ent.tak (.s (.s (.s (.s (.s (.s .z)))))) (Ent.tak (.s (.s (.s (.s (.s .z))))) (Ent.tak (.s .z) (Ent.tak (.s .z) (Ent.tak (.s .z) (Ent.tak (.s .z) (Ent.tak .z (Ent.wk (Ent.wk (Ent.refl _))))))))))))
    rintro ⟨⟨i, K2, G2⟩, hi, hK2, hG2⟩
    simp only at hi hK2 hG2 ⊢
    repeat' (first | refine e_nil ?_ | ((first | refine e_op ?_ | refine e_yes rfl ?_); (first | refine o_n (peval_sound rfl) rfl ?_ | refine o_n (nl rfl rfl tc rfl) rfl ?_ | refine o_storeC rfl rfl rfl rfl tc uc rfl rfl rfl ?_ | refine o_box rfl rfl (fun _ => ?_) | refine o_box1 rfl rfl rfl (fun _ => ?_) | refine o_alloc rfl rfl (fun _ => ?_))) | refine e_noU rfl rfl rfl ?_ | refine e_noN rfl rfl ?_ | refine s_seq ?_ | refine s_region ?_ | refine s_block ?_ | refine s_end ?_ | refine s_skip ?_ | refine s_exit ?_ | refine s_true rfl ?_ | refine s_false rfl ?_ | refine x_hit ?_ | refine x_code ?_ | refine x_back ?_ | refine x_miss rfl ?_)
    refine s_cond rfl (fun h => ?_) (fun h => ?_)
    · have hlt : i < KS.length := by simpa using h
      have hl2 : acs.length = K2.length := by have := congrArg List.length hK2; simp at this; omega
      have hb2 : bcs.length = G2.length := by have := congrArg List.length hG2; simp at this; omega
      have hiK : i < K2.length := by omega
      have hiG : i < G2.length := by omega
      have hk2 : K2[i].length = KS[i].length := by have := congrArg (fun l => l[i]?) hK2; simpa [hiK, hlt] using this
      have hg2 : G2[i].length = GS[i].length := by have := congrArg (fun l => l[i]?) hG2; simpa [hiG, show i < GS.length by omega] using this
      obtain ⟨hkp, hgp⟩ := lr_pos (g := g) (i := i) hKS hGS hlt (by omega)
      refine s_weak (Sub.refl _) (Ent.trans (Ent.tak (.s .z) (Ent.refl _)) (ent_btake (f := fun l : List Itm => l.flatMap encX) hl2 hiK)) ?_
      refine s_weak (Sub.refl _) (Ent.trans (Ent.tak (.s (.s (.s (.s .z)))) (Ent.refl _)) (ent_btake (f := fun l : List Int => l.map (Value.int .i64)) hb2 hiG)) ?_
      unfold rowA
      dsimp only
      refine s_open (.s (.s (.s (.s .z)))) (by omega) ?_
      rintro bk rfl
      refine s_open (.s (.s (.s (.s (.s .z))))) (by omega) ?_
      rintro bq rfl
      refine s_open (.s (.s .z)) (by omega) ?_
      intro br hbr
      refine s_open .z (by omega) ?_
      intro bs hbs
      rw [hbr, hbs]
      repeat' (first | refine e_nil ?_ | ((first | refine e_op ?_ | refine e_yes rfl ?_); (first | refine o_n (peval_sound rfl) rfl ?_ | refine o_n (nl rfl rfl tc rfl) rfl ?_ | refine o_storeC rfl rfl rfl rfl tc uc rfl rfl rfl ?_ | refine o_box rfl rfl (fun _ => ?_) | refine o_box1 rfl rfl rfl (fun _ => ?_) | refine o_alloc rfl rfl (fun _ => ?_))) | refine e_noU rfl rfl rfl ?_ | refine e_noN rfl rfl ?_ | refine s_seq ?_ | refine s_region ?_ | refine s_block ?_ | refine s_end ?_ | refine s_skip ?_ | refine s_exit ?_ | refine s_true rfl ?_ | refine s_false rfl ?_ | refine x_hit ?_ | refine x_code ?_ | refine x_back ?_ | refine x_miss rfl ?_)
      refine e_op (o_n (n_index rfl rfl rfl rfl i rfl hlt) rfl ?_)
      refine e_op (o_n (n_load_osl rfl rfl (.s (.s (.s (.s .z)))) (rowC_load hl hlt)) rfl ?_)
      rw [hbr]
      refine e_op (o_n (n_index rfl rfl rfl rfl 0 rfl hkp) rfl ?_)
      repeat' (first | refine e_nil ?_ | ((first | refine e_op ?_ | refine e_yes rfl ?_); (first | refine o_n (peval_sound rfl) rfl ?_ | refine o_n (nl rfl rfl tc rfl) rfl ?_ | refine o_storeC rfl rfl rfl rfl tc uc rfl rfl rfl ?_ | refine o_box rfl rfl (fun _ => ?_) | refine o_box1 rfl rfl rfl (fun _ => ?_) | refine o_alloc rfl rfl (fun _ => ?_))) | refine e_noU rfl rfl rfl ?_ | refine e_noN rfl rfl ?_ | refine s_seq ?_ | refine s_region ?_ | refine s_block ?_ | refine s_end ?_ | refine s_skip ?_ | refine s_exit ?_ | refine s_true rfl ?_ | refine s_false rfl ?_ | refine x_hit ?_ | refine x_code ?_ | refine x_back ?_ | refine x_miss rfl ?_)
      refine e_op (o_store_osl (vs := [.int .i64 77]) rfl rfl rfl rfl rfl rfl (by rw [encX_len]; simp only; omega) (.s (.s .z)) ?_)
      have hs1 : ∀ o, o = 0 + 0 * 2 + 1 → setMany (K2[i].flatMap encX) o [.int .i64 77] = (upd1 K2[i]).flatMap encX := fun o ho => by rw [ho]; exact upd1_cells (by omega)
      rw [hs1 _ (by rfl)]
      repeat' (first | refine e_nil ?_ | ((first | refine e_op ?_ | refine e_yes rfl ?_); (first | refine o_n (peval_sound rfl) rfl ?_ | refine o_n (nl rfl rfl tc rfl) rfl ?_ | refine o_storeC rfl rfl rfl rfl tc uc rfl rfl rfl ?_ | refine o_box rfl rfl (fun _ => ?_) | refine o_box1 rfl rfl rfl (fun _ => ?_) | refine o_alloc rfl rfl (fun _ => ?_))) | refine e_noU rfl rfl rfl ?_ | refine e_noN rfl rfl ?_ | refine s_seq ?_ | refine s_region ?_ | refine s_block ?_ | refine s_end ?_ | refine s_skip ?_ | refine s_exit ?_ | refine s_true rfl ?_ | refine s_false rfl ?_ | refine x_hit ?_ | refine x_code ?_ | refine x_back ?_ | refine x_miss rfl ?_)
      refine e_op (o_n (n_index rfl rfl rfl rfl i rfl (by omega)) rfl ?_)
      refine e_op (o_n (n_load_osl rfl rfl (.s (.s (.s (.s (.s .z))))) (rowC_load hb (show i < GS.length by omega))) rfl ?_)
      rw [hbs]
      refine e_op (o_n (n_index rfl rfl rfl rfl 0 rfl hgp) rfl ?_)
      refine e_op (o_store_osl (vs := [.int .i64 77]) rfl rfl rfl rfl rfl rfl (by rw [List.length_map]; simp only; omega) .z ?_)
      have hs2 : ∀ o, o = 0 → setMany (G2[i].map (Value.int .i64)) o [.int .i64 77] = (G2[i].set 0 77).map (Value.int .i64) := fun o ho => by subst ho; show (G2[i].map (Value.int .i64)).set 0 _ = _; rw [List.map_set]
      rw [hs2 _ (by rfl)]
      repeat' (first | refine e_nil ?_ | ((first | refine e_op ?_ | refine e_yes rfl ?_); (first | refine o_n (peval_sound rfl) rfl ?_ | refine o_n (nl rfl rfl tc rfl) rfl ?_ | refine o_storeC rfl rfl rfl rfl tc uc rfl rfl rfl ?_ | refine o_box rfl rfl (fun _ => ?_) | refine o_box1 rfl rfl rfl (fun _ => ?_) | refine o_alloc rfl rfl (fun _ => ?_))) | refine e_noU rfl rfl rfl ?_ | refine e_noN rfl rfl ?_ | refine s_seq ?_ | refine s_region ?_ | refine s_block ?_ | refine s_end ?_ | refine s_skip ?_ | refine s_exit ?_ | refine s_true rfl ?_ | refine s_false rfl ?_ | refine x_hit ?_ | refine x_code ?_ | refine x_back ?_ | refine x_miss rfl ?_)
      refine s_back ⟨⟨(i + 1, K2.set i (upd1 K2[i]), G2.set i (G2[i].set 0 77)), by simp only; omega, ?_, ?_⟩, by simp only; omega, ?_, ?_⟩
      · exact (map_len_set hiK (upd1_len _)).trans hK2
      · exact (map_len_set hiG (List.length_set)).trans hG2
      · repeat' (first | exact Sub.nil _ | refine Sub.cons rfl ?_ | refine Sub.consE rfl ?_ ?_)
        exact inc (i := i) (by have := hN.n; omega)
      · simp only
        have hrg : osl 3 1 (.slice (some ⟨bs, 0, none⟩) G2[i].length (bcs[i]'(hb2 ▸ hiG)).2) G2[i].length ((G2[i].set 0 77).map (Value.int .i64)) = rowA (fun l : List Int => l.map (Value.int .i64)) 1 3 (bcs[i]'(hb2 ▸ hiG)) (G2[i].set 0 77) := by unfold rowA; simp only [List.length_set, hbs]
        have hrk : osl 42 2 (.slice (some ⟨br, 0, none⟩) K2[i].length (acs[i]'(hl2 ▸ hiK)).2) K2[i].length ((upd1 K2[i]).flatMap encX) = rowA (fun l : List Itm => l.flatMap encX) 2 42 (acs[i]'(hl2 ▸ hiK)) (upd1 K2[i]) := by unfold rowA; simp only [upd1_len, hbr]
        rw [hrg, hrk]
        refine Ent.trans (ent_bput hb2 hiG) (Ent.trans (Ent.cons (ent_bput hl2 hiK)) ?_)
        rw [List.set_getElem_self, List.set_getElem_self]
        exact Ent.tak (.s (.s .z)) (Ent.tak (.s .z) (Ent.tak (.s .z) (Ent.tak .z (Ent.refl _))))
    · have hil : i = KS.length := by simp at h; omega
      repeat' (first | refine e_nil ?_ | ((first | refine e_op ?_ | refine e_yes rfl ?_); (first | refine o_n (peval_sound rfl) rfl ?_ | refine o_n (nl rfl rfl tc rfl) rfl ?_ | refine o_storeC rfl rfl rfl rfl tc uc rfl rfl rfl ?_ | refine o_box rfl rfl (fun _ => ?_) | refine o_box1 rfl rfl rfl (fun _ => ?_) | refine o_alloc rfl rfl (fun _ => ?_))) | refine e_noU rfl rfl rfl ?_ | refine e_noN rfl rfl ?_ | refine s_seq ?_ | refine s_region ?_ | refine s_block ?_ | refine s_end ?_ | refine s_skip ?_ | refine s_exit ?_ | refine s_true rfl ?_ | refine s_false rfl ?_ | refine x_hit ?_ | refine x_code ?_ | refine x_back ?_ | refine x_miss rfl ?_)
      refine e_op (o_call (ofP_w _ g (fun _ => by omega)) rfl .nil (Can.ro hG0) rfl ?_)
      rintro v V ⟨z, rfl, AZ, cZ, acz, AW, cW, bcz, hlz, hbz, rfl, rfl⟩
      rw [hKS] at hlz ⊢
      rw [hGS] at hbz ⊢
      simp only [List.cons_append, List.nil_append]
      repeat' (first | refine e_nil ?_ | ((first | refine e_op ?_ | refine e_yes rfl ?_); (first | refine o_n (peval_sound rfl) rfl ?_ | refine o_n (nl rfl rfl tc rfl) rfl ?_ | refine o_storeC rfl rfl rfl rfl tc uc rfl rfl rfl ?_ | refine o_box rfl rfl (fun _ => ?_) | refine o_box1 rfl rfl rfl (fun _ => ?_) | refine o_alloc rfl rfl (fun _ => ?_))) | refine e_noU rfl rfl rfl ?_ | refine e_noN rfl rfl ?_ | refine s_seq ?_ | refine s_region ?_ | refine s_block ?_ | refine s_end ?_ | refine s_skip ?_ | refine s_exit ?_ | refine s_true rfl ?_ | refine s_false rfl ?_ | refine x_hit ?_ | refine x_code ?_ | refine x_back ?_ | refine x_miss rfl ?_)
      refine e_op (o_call (same19_w [.slice AZ KS.length cZ, .slice AW GS.length cW] [.slice AY KS.length cY, .slice AH GS.length cH] (KS, GS) (KS, GS) hgk) rfl .nil (Can.and (can_lr hlz hbz hN (Ent.tak (.s .z) (Ent.tak (.s .z) (Ent.tak (.s .z) (Ent.tak (.s .z) (Ent.refl _)))))) (can_lr hly hby hN (Ent.tak (.s (.s (.s (.s (.s (.s (.s (.s (.s (.s .z)))))))))) (Ent.tak (.s (.s (.s (.s (.s (.s (.s (.s (.s (.s .z)))))))))) (Ent.tak (.s (.s (.s (.s (.s (.s (.s (.s (.s (.s .z)))))))))) (Ent.tak (.s (.s (.s (.s (.s (.s (.s (.s (.s (.s .z)))))))))) (Ent.refl _))))))) rfl ?_)
      rintro v V ⟨rfl, rfl⟩
      rw [decide_eq_true rfl]
      simp only [List.nil_append]
      repeat' (first | refine e_nil ?_ | ((first | refine e_op ?_ | refine e_yes rfl ?_); (first | refine o_n (peval_sound rfl) rfl ?_ | refine o_n (nl rfl rfl tc rfl) rfl ?_ | refine o_storeC rfl rfl rfl rfl tc uc rfl rfl rfl ?_ | refine o_box rfl rfl (fun _ => ?_) | refine o_box1 rfl rfl rfl (fun _ => ?_) | refine o_alloc rfl rfl (fun _ => ?_))) | refine e_noU rfl rfl rfl ?_ | refine e_noN rfl rfl ?_ | refine s_seq ?_ | refine s_region ?_ | refine s_block ?_ | refine s_end ?_ | refine s_skip ?_ | refine s_exit ?_ | refine s_true rfl ?_ | refine s_false rfl ?_ | refine x_hit ?_ | refine x_code ?_ | refine x_back ?_ | refine x_miss rfl ?_)
      refine e_yes rfl (o_call works19_w rfl .nil Can.tt rfl ?_)
      rintro v V ⟨rfl, rfl⟩
      repeat' (first | refine e_nil ?_ | ((first | refine e_op ?_ | refine e_yes rfl ?_); (first | refine o_n (peval_sound rfl) rfl ?_ | refine o_n (nl rfl rfl tc rfl) rfl ?_ | refine o_storeC rfl rfl rfl rfl tc uc rfl rfl rfl ?_ | refine o_box rfl rfl (fun _ => ?_) | refine o_box1 rfl rfl rfl (fun _ => ?_) | refine o_alloc rfl rfl (fun _ => ?_))) | refine e_noU rfl rfl rfl ?_ | refine e_noN rfl rfl ?_ | refine s_seq ?_ | refine s_region ?_ | refine s_block ?_ | refine s_end ?_ | refine s_skip ?_ | refine s_exit ?_ | refine s_true rfl ?_ | refine s_false rfl ?_ | refine x_hit ?_ | refine x_code ?_ | refine x_back ?_ | refine x_miss rfl ?_)
      refine s_ret ⟨_, _, res1 rfl rfl, ⟨rfl, rfl⟩, Ent.nil _⟩
  · rw [decide_eq_false hfew]
    repeat' (first | refine e_nil ?_ | ((first | refine e_op ?_ | refine e_yes rfl ?_); (first | refine o_n (peval_sound rfl) rfl ?_ | refine o_n (nl rfl rfl tc rfl) rfl ?_ | refine o_storeC rfl rfl rfl rfl tc uc rfl rfl rfl ?_ | refine o_box rfl rfl (fun _ => ?_) | refine o_box1 rfl rfl rfl (fun _ => ?_) | refine o_alloc rfl rfl (fun _ => ?_))) | refine e_noU rfl rfl rfl ?_ | refine e_noN rfl rfl ?_ | refine s_seq ?_ | refine s_region ?_ | refine s_block ?_ | refine s_end ?_ | refine s_skip ?_ | refine s_exit ?_ | refine s_true rfl ?_ | refine s_false rfl ?_ | refine x_hit ?_ | refine x_code ?_ | refine x_back ?_ | refine x_miss rfl ?_)
    refine e_op (o_call (checkR_w _ g) rfl .nil (Can.ro hG0) rfl ?_)
    rintro v V ⟨rfl, rfl⟩
    simp only [List.nil_append]
    repeat' (first | refine e_nil ?_ | ((first | refine e_op ?_ | refine e_yes rfl ?_); (first | refine o_n (peval_sound rfl) rfl ?_ | refine o_n (nl rfl rfl tc rfl) rfl ?_ | refine o_storeC rfl rfl rfl rfl tc uc rfl rfl rfl ?_ | refine o_box rfl rfl (fun _ => ?_) | refine o_box1 rfl rfl rfl (fun _ => ?_) | refine o_alloc rfl rfl (fun _ => ?_))) | refine e_noU rfl rfl rfl ?_ | refine e_noN rfl rfl ?_ | refine s_seq ?_ | refine s_region ?_ | refine s_block ?_ | refine s_end ?_ | refine s_skip ?_ | refine s_exit ?_ | refine s_true rfl ?_ | refine s_false rfl ?_ | refine x_hit ?_ | refine x_code ?_ | refine x_back ?_ | refine x_miss rfl ?_)
    refine s_cond rfl (fun h => ?_) (fun h => ?_)
    · repeat' (first | refine e_nil ?_ | ((first | refine e_op ?_ | refine e_yes rfl ?_); (first | refine o_n (peval_sound rfl) rfl ?_ | refine o_n (nl rfl rfl tc rfl) rfl ?_ | refine o_storeC rfl rfl rfl rfl tc uc rfl rfl rfl ?_ | refine o_box rfl rfl (fun _ => ?_) | refine o_box1 rfl rfl rfl (fun _ => ?_) | refine o_alloc rfl rfl (fun _ => ?_))) | refine e_noU rfl rfl rfl ?_ | refine e_noN rfl rfl ?_ | refine s_seq ?_ | refine s_region ?_ | refine s_block ?_ | refine s_end ?_ | refine s_skip ?_ | refine s_exit ?_ | refine s_true rfl ?_ | refine s_false rfl ?_ | refine x_hit ?_ | refine x_code ?_ | refine x_back ?_ | refine x_miss rfl ?_)
      refine e_op (o_call works19_w rfl .nil Can.tt rfl ?_)
      rintro v V ⟨rfl, rfl⟩
      repeat' (first | refine e_nil ?_ | ((first | refine e_op ?_ | refine e_yes rfl ?_); (first | refine o_n (peval_sound rfl) rfl ?_ | refine o_n (nl rfl rfl tc rfl) rfl ?_ | refine o_storeC rfl rfl rfl rfl tc uc rfl rfl rfl ?_ | refine o_box rfl rfl (fun _ => ?_) | refine o_box1 rfl rfl rfl (fun _ => ?_) | refine o_alloc rfl rfl (fun _ => ?_))) | refine e_noU rfl rfl rfl ?_ | refine e_noN rfl rfl ?_ | refine s_seq ?_ | refine s_region ?_ | refine s_block ?_ | refine s_end ?_ | refine s_skip ?_ | refine s_exit ?_ | refine s_true rfl ?_ | refine s_false rfl ?_ | refine x_hit ?_ | refine x_code ?_ | refine x_back ?_ | refine x_miss rfl ?_)
      refine s_ret ⟨_, _, res1 rfl rfl, ⟨rfl, rfl⟩, Ent.nil _⟩
    · have he : checkE g ≠ 0 := by simpa using h
      have hce : lrE g = checkE g := by unfold lrE; rw [if_pos he]
      repeat' (first | refine e_nil ?_ | ((first | refine e_op ?_ | refine e_yes rfl ?_); (first | refine o_n (peval_sound rfl) rfl ?_ | refine o_n (nl rfl rfl tc rfl) rfl ?_ | refine o_storeC rfl rfl rfl rfl tc uc rfl rfl rfl ?_ | refine o_box rfl rfl (fun _ => ?_) | refine o_box1 rfl rfl rfl (fun _ => ?_) | refine o_alloc rfl rfl (fun _ => ?_))) | refine e_noU rfl rfl rfl ?_ | refine e_noN rfl rfl ?_ | refine s_seq ?_ | refine s_region ?_ | refine s_block ?_ | refine s_end ?_ | refine s_skip ?_ | refine s_exit ?_ | refine s_true rfl ?_ | refine s_false rfl ?_ | refine x_hit ?_ | refine x_code ?_ | refine x_back ?_ | refine x_miss rfl ?_)
      refine e_op (o_call (ofP_w _ g (fun h => absurd h he)) rfl .nil (Can.ro hG0) rfl ?_)
      rintro v V ⟨x, rfl, hV⟩
      obtain ⟨AK, cK, acs, AG, cG, bcs, hl, hb, rfl, rfl⟩ := hV
      rw [hce]
      repeat' (first | refine e_nil ?_ | ((first | refine e_op ?_ | refine e_yes rfl ?_); (first | refine o_n (peval_sound rfl) rfl ?_ | refine o_n (nl rfl rfl tc rfl) rfl ?_ | refine o_storeC rfl rfl rfl rfl tc uc rfl rfl rfl ?_ | refine o_box rfl rfl (fun _ => ?_) | refine o_box1 rfl rfl rfl (fun _ => ?_) | refine o_alloc rfl rfl (fun _ => ?_))) | refine e_noU rfl rfl rfl ?_ | refine e_noN rfl rfl ?_ | refine s_seq ?_ | refine s_region ?_ | refine s_block ?_ | refine s_end ?_ | refine s_skip ?_ | refine s_exit ?_ | refine s_true rfl ?_ | refine s_false rfl ?_ | refine x_hit ?_ | refine x_code ?_ | refine x_back ?_ | refine x_miss rfl ?_)
      rw [show (checkE g == checkE g) = true by simp]
      repeat' (first | refine e_nil ?_ | ((first | refine e_op ?_ | refine e_yes rfl ?_); (first | refine o_n (peval_sound rfl) rfl ?_ | refine o_n (nl rfl rfl tc rfl) rfl ?_ | refine o_storeC rfl rfl rfl rfl tc uc rfl rfl rfl ?_ | refine o_box rfl rfl (fun _ => ?_) | refine o_box1 rfl rfl rfl (fun _ => ?_) | refine o_alloc rfl rfl (fun _ => ?_))) | refine e_noU rfl rfl rfl ?_ | refine e_noN rfl rfl ?_ | refine s_seq ?_ | refine s_region ?_ | refine s_block ?_ | refine s_end ?_ | refine s_skip ?_ | refine s_exit ?_ | refine s_true rfl ?_ | refine s_false rfl ?_ | refine x_hit ?_ | refine x_code ?_ | refine x_back ?_ | refine x_miss rfl ?_)
      refine e_yes rfl (o_call works19_w rfl .nil Can.tt rfl ?_)
      rintro v V ⟨rfl, rfl⟩
      repeat' (first | refine e_nil ?_ | ((first | refine e_op ?_ | refine e_yes rfl ?_); (first | refine o_n (peval_sound rfl) rfl ?_ | refine o_n (nl rfl rfl tc rfl) rfl ?_ | refine o_storeC rfl rfl rfl rfl tc uc rfl rfl rfl ?_ | refine o_box rfl rfl (fun _ => ?_) | refine o_box1 rfl rfl rfl (fun _ => ?_) | refine o_alloc rfl rfl (fun _ => ?_))) | refine e_noU rfl rfl rfl ?_ | refine e_noN rfl rfl ?_ | refine s_seq ?_ | refine s_region ?_ | refine s_block ?_ | refine s_end ?_ | refine s_skip ?_ | refine s_exit ?_ | refine s_true rfl ?_ | refine s_false rfl ?_ | refine x_hit ?_ | refine x_code ?_ | refine x_back ?_ | refine x_miss rfl ?_)
      refine s_ret ⟨_, _, res1 rfl rfl, ⟨rfl, rfl⟩, Ent.nil _⟩

end Go.Proofs.YtcbaebkkdkdaaaaDoor
