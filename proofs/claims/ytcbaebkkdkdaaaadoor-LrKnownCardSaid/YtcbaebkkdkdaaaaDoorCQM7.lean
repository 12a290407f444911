/-
  The statement LrKnown, walked.
-/
import Derived.Test.YtcbaebkkdkdaaaaDoorCQM6
import Derived.Test.YtcbaebkkdkdaaaaDoorCQM4

namespace Go.Proofs.YtcbaebkkdkdaaaaDoor
set_option linter.all false
open Go.Proofs.YtcbaebkkdkdaaaaDoor.E

def sumP (b3 b5 b7 b9 b11 b13 b15 : Nat) : List Value := [pv 0 (sl b3 1), pv 1 (sl b5 3), pv 1 (sl b7 1), pv 2 (sl b9 3), pv 2 (sl b11 1), pv 3 (sl b13 3), pv 3 (sl b15 1)]
def sumA (b3 b5 b7 b9 b11 b13 b15 : Nat) : List (Option Addr × Nat) := [(some ⟨b3, 0, none⟩, 1), (some ⟨b5, 0, none⟩, 3), (some ⟨b7, 0, none⟩, 1), (some ⟨b9, 0, none⟩, 3), (some ⟨b11, 0, none⟩, 1), (some ⟨b13, 0, none⟩, 3), (some ⟨b15, 0, none⟩, 1)]
def sumM : List Mk := [
  ⟨28, [0], fun l => sl (l.getD 0 0) 6, fun l => [strs (l.getD 0 0) sumsG.Terms]⟩,
  ⟨29, [1], fun l => sl (l.getD 0 0) 6, fun l => [levZ (l.getD 0 0) sumsG.Levels]⟩,
  ⟨30, [2], fun l => sl (l.getD 0 0) 4, fun l => [strs (l.getD 0 0) sumsG.Nons]⟩,
  ⟨31, [3], fun l => sl (l.getD 0 0) 1, fun l => [ints (l.getD 0 0) [7]]⟩,
  ⟨32, [3], fun l => pv 0 (sl (l.getD 0 0) 1), fun _ => []⟩,
  ⟨33, [5], fun l => sl (l.getD 0 0) 3, fun l => [ints (l.getD 0 0) [7, 2, 8]]⟩,
  ⟨34, [5], fun l => pv 1 (sl (l.getD 0 0) 3), fun _ => []⟩,
  ⟨35, [7], fun l => sl (l.getD 0 0) 1, fun l => [ints (l.getD 0 0) [8]]⟩,
  ⟨36, [7], fun l => pv 1 (sl (l.getD 0 0) 1), fun _ => []⟩,
  ⟨37, [9], fun l => sl (l.getD 0 0) 3, fun l => [ints (l.getD 0 0) [8, 3, 9]]⟩,
  ⟨38, [9], fun l => pv 2 (sl (l.getD 0 0) 3), fun _ => []⟩,
  ⟨39, [11], fun l => sl (l.getD 0 0) 1, fun l => [ints (l.getD 0 0) [9]]⟩,
  ⟨40, [11], fun l => pv 2 (sl (l.getD 0 0) 1), fun _ => []⟩,
  ⟨41, [13], fun l => sl (l.getD 0 0) 3, fun l => [ints (l.getD 0 0) [4, 7, 5]]⟩,
  ⟨42, [13], fun l => pv 3 (sl (l.getD 0 0) 3), fun _ => []⟩,
  ⟨43, [15], fun l => sl (l.getD 0 0) 1, fun l => [ints (l.getD 0 0) [1]]⟩,
  ⟨44, [15], fun l => pv 3 (sl (l.getD 0 0) 1), fun _ => []⟩,
  ⟨45, [17, 3, 5, 7, 9, 11, 13, 15], fun l => sl (l.getD 0 0) 7, fun l => [prS (some ⟨l.getD 0 0, 0, none⟩) 7 (sumA (l.getD 1 0) (l.getD 2 0) (l.getD 3 0) (l.getD 4 0) (l.getD 5 0) (l.getD 6 0) (l.getD 7 0)) sumsG.Prods]⟩,
  ⟨46, [0, 1, 2, 17], fun l => .agg #[sl (l.getD 0 0) 6, sl (l.getD 1 0) 6, .slice none 0 0, sl (l.getD 2 0) 4, sl (l.getD 3 0) 7], fun _ => []⟩,
  ⟨1, [19], fun l => .pointer (some ⟨l.getD 0 0, 0, none⟩), fun l => [blk (l.getD 0 0) 27 [.slice none 0 0, .slice none 0 0, .slice none 0 0, .slice none 0 0, .slice none 0 0]]⟩]

theorem can_none {E0 : Go.Proofs.YtcbaebkkdkdaaaaDoor.E.Env} {U : List Asn} : Go.Proofs.YtcbaebkkdkdaaaaDoor.E.Can E0 U (kGram.rd [.slice none 0 0, .slice none 0 0, .slice none 0 0, .slice none 0 0, .slice none 0 0] noneG) :=
  Can.of fun w S hs => kGram_mk (g := noneG) (A0 := none) (A1 := none) (A2 := none) (A3 := none) (A4 := none) (c0 := 0) (c1 := 0) (c2 := 0) (c3 := 0) (c4 := 0) ⟨els_nil, els_nil, els_nil, els_nil, els_nil⟩
theorem can_noItm {E0 : Go.Proofs.YtcbaebkkdkdaaaaDoor.E.Env} {U : List Asn} : Go.Proofs.YtcbaebkkdkdaaaaDoor.E.Can E0 U ((kslice 16 kItm).rd [.slice none ([] : List Itm).length 0] []) :=
  Can.of fun w S hs => ⟨none, 0, rfl, by simp, by simp, fun i hi => by simp at hi⟩
theorem zeros_itm (n : Nat) : (List.replicate n (⟨0, 0⟩ : Itm)).flatMap encX = (List.range (n * 2)).map fun j => ([Value.int .i64 0, .int .i64 0] : List Value)[j % ([Value.int .i64 0, .int .i64 0] : List Value).length]! := by
  induction n with
  | zero => rfl
  | succ n ih =>
    rw [List.replicate_succ', List.flatMap_append, ih, show (n + 1) * 2 = n * 2 + 1 + 1 by omega, List.range_succ, List.range_succ, List.map_append, List.map_append]
    have e1 : (n * 2) % 2 = 0 := by omega
    have e2 : (n * 2 + 1) % 2 = 1 := by omega
    simp [e1, e2, encX]

theorem can_itemsN {E0 : Go.Proofs.YtcbaebkkdkdaaaaDoor.E.Env} {U U' : List Asn} {A : Option Addr} {c n : Nat} {l : List Itm} (hn : l.length = n) (ht : Tak (osl 42 2 (.slice A n c) n (l.flatMap encX)) U U') (hI : ∀ x ∈ l, I64 x.Prod ∧ I64 x.Dot) (hb : n ≤ 100000) : Go.Proofs.YtcbaebkkdkdaaaaDoor.E.Can E0 U ((kslice 16 kItm).rd [.slice A n c] l) := by
  subst hn; exact can_items ht hI hb
theorem closeP_n (cs : List Value) (g : Gram) (A : Option Addr) (c n : Nat) (l : List Itm) (hn : l.length = n) :
    Trip Tryd.prog 21 [.agg cs.toArray, .slice A n c] ((kGram.rd cs g).and ((kslice 16 kItm).rd [.slice A n c] l)) []
      (fun v V => ∃ (A' : Option Addr) (c' : Nat), v = .tuple #[.slice A' (closeL g l).length c', .int .i64 (closeE g l)] ∧ V = [pX A' (closeL g l).length c' (closeL g l)]) := by
  subst hn; exact closeP_w cs g A c l
theorem zerosL (n : Nat) : ∃ l : List Itm, l = List.replicate n ⟨0, 0⟩ ∧ l.length = n ∧ ((List.range (n * 2)).map fun j => ([Value.int .i64 0, .int .i64 0] : List Value)[j % ([Value.int .i64 0, .int .i64 0] : List Value).length]!) = l.flatMap encX ∧ ∀ x ∈ l, I64 x.Prod ∧ I64 x.Dot :=
  ⟨_, rfl, List.length_replicate, (zeros_itm n).symm, fun x hx => by rw [List.eq_of_mem_replicate hx]; exact ⟨⟨by decide, by decide⟩, ⟨by decide, by decide⟩⟩⟩
theorem can_oneItm {E0 : Go.Proofs.YtcbaebkkdkdaaaaDoor.E.Env} {U U' : List Asn} {x : Itm} {b : Nat} (h1 : I64 x.Prod) (h2 : I64 x.Dot) (ht : Tak (osl 42 2 (.slice (some ⟨b, 0, none⟩) 1 1) 1 (encX x)) U U') : Go.Proofs.YtcbaebkkdkdaaaaDoor.E.Can E0 U ((kslice 16 kItm).rd [.slice (some ⟨b, 0, none⟩) [x].length 1] [x]) :=
  can_items (l := [x]) (c := 1) ht (fun y hy => by rw [List.mem_singleton] at hy; subst hy; exact ⟨h1, h2⟩) (by simp)
def longM : List Mk := [
  ⟨102, [0], fun l => sl (l.getD 0 0) 48, fun l => [strs (l.getD 0 0) (longG 47).Terms]⟩,
  ⟨103, [1], fun l => sl (l.getD 0 0) 48, fun l => [levZ (l.getD 0 0) (longG 47).Levels]⟩,
  ⟨104, [2], fun l => sl (l.getD 0 0) 2, fun l => [strs (l.getD 0 0) (longG 47).Nons]⟩,
  ⟨105, [3], fun l => sl (l.getD 0 0) 1, fun l => [ints (l.getD 0 0) [49]]⟩,
  ⟨106, [3], fun l => pv 0 (sl (l.getD 0 0) 1), fun _ => []⟩,
  ⟨107, [5, 3], fun l => sl (l.getD 0 0) 1, fun l => [prS (some ⟨l.getD 0 0, 0, none⟩) 1 [(some ⟨l.getD 1 0, 0, none⟩, 1)] (longPs 0)]⟩,
  ⟨108, [0, 1, 2, 5], fun l => .agg #[sl (l.getD 0 0) 48, sl (l.getD 1 0) 48, .slice none 0 0, sl (l.getD 2 0) 2, sl (l.getD 3 0) 1], fun _ => []⟩,
  ⟨20, [7], fun l => .pointer (some ⟨l.getD 0 0, 0, none⟩), fun l => [blk (l.getD 0 0) 27 [.slice none 0 0, .slice none 0 0, .slice none 0 0, .slice none 0 0, .slice none 0 0]]⟩]

attribute [local irreducible] EVX EVO EVL EV1 NEV
attribute [local irreducible] own osl exA rdA rdL
attribute [local irreducible] bldA mapA bun
set_option maxRecDepth 10000
set_option maxHeartbeats 4000000

theorem lrKnown_w : Trip Tryd.prog 8 [] Rd.tt [] (fun v V => v = .bool true ∧ V = []) := by
  refine trip Tryd.tabOk Tryd.func8 rfl rfl rfl rfl ?_
  rintro w SM hW
  clear hW
  repeat' (first | refine e_nil ?_ | ((first | refine e_op ?_ | refine e_yes rfl ?_); (first | refine o_n (peval_sound rfl) rfl ?_ | refine o_n (nl rfl rfl tc rfl) rfl ?_ | refine o_storeC rfl rfl rfl rfl tc uc rfl rfl rfl ?_ | refine o_box rfl rfl (fun _ => ?_) | refine o_box1 rfl rfl rfl (fun _ => ?_) | refine o_alloc rfl rfl (fun _ => ?_))) | refine e_noU rfl rfl rfl ?_ | refine e_noN rfl rfl ?_ | refine s_seq ?_ | refine s_region ?_ | refine s_block ?_ | refine s_end ?_ | refine s_skip ?_ | refine s_exit ?_ | refine s_true rfl ?_ | refine s_false rfl ?_ | refine x_hit ?_ | refine x_code ?_ | refine x_back ?_ | refine x_miss rfl ?_)
  refine s_mk sumM Tryd.mixed (by kernel_rfl) ?_ rfl ?_
  · intro i hi
    match i, hi with
    | 0, _ => exact mk_step [] rfl rfl rfl (by decide +kernel) (fun B U => o_makeS rfl rfl rfl rfl 6 rfl rfl (by decide) (by decide) rfl rfl (fun b => ⟨b, rfl, Ent.refl _⟩))
    | 1, _ => exact mk_step [] rfl rfl rfl (by decide +kernel) (fun B U => o_makeS rfl rfl rfl rfl 6 rfl rfl (by decide) (by decide) rfl rfl (fun b => ⟨b, rfl, Ent.refl _⟩))
    | 2, _ => exact mk_step [] rfl rfl rfl (by decide +kernel) (fun B U => o_makeS rfl rfl rfl rfl 4 rfl rfl (by decide) (by decide) rfl rfl (fun b => ⟨b, rfl, Ent.refl _⟩))
    | 3, _ => exact mk_step [] rfl rfl rfl (by decide +kernel) (fun B U => o_lit rfl rfl rfl rfl rfl rfl rfl (fun b => ⟨b, rfl, Ent.refl _⟩))
    | 4, _ => exact mk_step [3] rfl rfl rfl (by decide +kernel) (fun B U => o_call (p19_w _ _ _ _) rfl .nil Can.tt rfl (by rintro v V ⟨rfl, rfl⟩; exact ⟨0, rfl, Ent.refl _⟩))
    | 5, _ => exact mk_step [] rfl rfl rfl (by decide +kernel) (fun B U => o_lit rfl rfl rfl rfl rfl rfl rfl (fun b => ⟨b, rfl, Ent.refl _⟩))
    | 6, _ => exact mk_step [5] rfl rfl rfl (by decide +kernel) (fun B U => o_call (p19_w _ _ _ _) rfl .nil Can.tt rfl (by rintro v V ⟨rfl, rfl⟩; exact ⟨0, rfl, Ent.refl _⟩))
    | 7, _ => exact mk_step [] rfl rfl rfl (by decide +kernel) (fun B U => o_lit rfl rfl rfl rfl rfl rfl rfl (fun b => ⟨b, rfl, Ent.refl _⟩))
    | 8, _ => exact mk_step [7] rfl rfl rfl (by decide +kernel) (fun B U => o_call (p19_w _ _ _ _) rfl .nil Can.tt rfl (by rintro v V ⟨rfl, rfl⟩; exact ⟨0, rfl, Ent.refl _⟩))
    | 9, _ => exact mk_step [] rfl rfl rfl (by decide +kernel) (fun B U => o_lit rfl rfl rfl rfl rfl rfl rfl (fun b => ⟨b, rfl, Ent.refl _⟩))
    | 10, _ => exact mk_step [9] rfl rfl rfl (by decide +kernel) (fun B U => o_call (p19_w _ _ _ _) rfl .nil Can.tt rfl (by rintro v V ⟨rfl, rfl⟩; exact ⟨0, rfl, Ent.refl _⟩))
    | 11, _ => exact mk_step [] rfl rfl rfl (by decide +kernel) (fun B U => o_lit rfl rfl rfl rfl rfl rfl rfl (fun b => ⟨b, rfl, Ent.refl _⟩))
    | 12, _ => exact mk_step [11] rfl rfl rfl (by decide +kernel) (fun B U => o_call (p19_w _ _ _ _) rfl .nil Can.tt rfl (by rintro v V ⟨rfl, rfl⟩; exact ⟨0, rfl, Ent.refl _⟩))
    | 13, _ => exact mk_step [] rfl rfl rfl (by decide +kernel) (fun B U => o_lit rfl rfl rfl rfl rfl rfl rfl (fun b => ⟨b, rfl, Ent.refl _⟩))
    | 14, _ => exact mk_step [13] rfl rfl rfl (by decide +kernel) (fun B U => o_call (p19_w _ _ _ _) rfl .nil Can.tt rfl (by rintro v V ⟨rfl, rfl⟩; exact ⟨0, rfl, Ent.refl _⟩))
    | 15, _ => exact mk_step [] rfl rfl rfl (by decide +kernel) (fun B U => o_lit rfl rfl rfl rfl rfl rfl rfl (fun b => ⟨b, rfl, Ent.refl _⟩))
    | 16, _ => exact mk_step [15] rfl rfl rfl (by decide +kernel) (fun B U => o_call (p19_w _ _ _ _) rfl .nil Can.tt rfl (by rintro v V ⟨rfl, rfl⟩; exact ⟨0, rfl, Ent.refl _⟩))
    | 17, _ => exact mk_step [4, 6, 8, 10, 12, 14, 16] rfl rfl rfl (by decide +kernel) (fun B U => o_lit (ps := [(0, pv 0 (sl (B 3) 1)), (1, pv 1 (sl (B 5) 3)), (2, pv 1 (sl (B 7) 1)), (3, pv 2 (sl (B 9) 3)), (4, pv 2 (sl (B 11) 1)), (5, pv 3 (sl (B 13) 3)), (6, pv 3 (sl (B 15) 1))]) (cs := prC (sumA (B 3) (B 5) (B 7) (B 9) (B 11) (B 13) (B 15)) sumsG.Prods) rfl rfl (by kernel_rfl) rfl rfl (by kernel_rfl) rfl (fun b => ⟨b, rfl, Ent.refl _⟩))
    | 18, _ => exact mk_step [0, 1, 2, 17] rfl rfl rfl (by decide +kernel) (fun B U => o_n (peval_sound rfl) rfl ⟨0, rfl, Ent.refl _⟩)
    | 19, _ => exact mk_step [] rfl rfl rfl (by decide +kernel) (fun B U => o_alloc rfl rfl (fun b => ⟨b, rfl, Ent.refl _⟩))
    | n + 20, h => exact absurd h (by simp [sumM])
  · intro B
    refine o_store (b := B 19) (o := 0) (vs := [sl (B 0) 6, sl (B 1) 6, .slice none 0 0, sl (B 2) 4, sl (B 17) 7]) rfl rfl rfl rfl rfl rfl rfl (.s (.s (.s (.s (.s (.s (.s (.s (.s (.s (.s .z))))))))))) ?_
    refine s_weak (fr' := [(1, .pointer (some ⟨B 19, 0, none⟩))]) (V := [blk (B 19) 27 [sl (B 0) 6, sl (B 1) 6, .slice none 0 0, sl (B 2) 4, sl (B 17) 7], strs (B 0) sumsG.Terms, levZ (B 1) sumsG.Levels, strs (B 2) sumsG.Nons, prS (some ⟨B 17, 0, none⟩) 7 (sumA (B 3) (B 5) (B 7) (B 9) (B 11) (B 13) (B 15)) sumsG.Prods, prB (sumA (B 3) (B 5) (B 7) (B 9) (B 11) (B 13) (B 15)) sumsG.Prods]) ?_ ?_ ?_
    · repeat' (first | exact Sub.nil _ | refine Sub.cons rfl ?_ | refine Sub.consE rfl ?_ ?_)
    · refine Ent.tak (.s (.s (.s (.s (.s (.s (.s (.s (.s (.s (.s .z))))))))))) ?_
      refine Ent.cons (Ent.cons (Ent.cons ?_))
      refine Ent.tak (.s (.s (.s (.s (.s (.s (.s .z))))))) ?_
      exact ent_bun (L := [_, _, _, _, _, _, _])
    generalize B 0 = b0, B 1 = b1, B 2 = b2, B 17 = b17, B 19 = bg
    generalize hacs : sumA (B 3) (B 5) (B 7) (B 9) (B 11) (B 13) (B 15) = sacs
    have hsa : sacs.length = sumsG.Prods.length := by subst hacs; rfl
    clear hacs B
    have hlz : ∀ x ∈ sumsG.Levels, x = ⟨0, 0⟩ := fun x hx => List.eq_of_mem_replicate hx
    have hcan : ∀ {E0 : Go.Proofs.YtcbaebkkdkdaaaaDoor.E.Env} {U : List Asn}, Go.Proofs.YtcbaebkkdkdaaaaDoor.E.Can E0 ([blk bg 27 [sl b0 6, sl b1 6, .slice none 0 0, sl b2 4, sl b17 7], strs b0 sumsG.Terms, levZ b1 sumsG.Levels, strs b2 sumsG.Nons, prS (some ⟨b17, 0, none⟩) 7 sacs sumsG.Prods, prB sacs sumsG.Prods] ++ U) (kGram.rd [sl b0 6, sl b1 6, .slice none 0 0, sl b2 4, sl b17 7] sumsG) :=
      can_gramP hsa 7 (by decide) rfl rfl (by decide) (by decide) (by decide) sums_ok hlz (Ent.wk (Ent.refl _))
    repeat' (first | refine e_nil ?_ | ((first | refine e_op ?_ | refine e_yes rfl ?_); (first | refine o_n (peval_sound rfl) rfl ?_ | refine o_n (nl rfl rfl tc rfl) rfl ?_ | refine o_storeC rfl rfl rfl rfl tc uc rfl rfl rfl ?_ | refine o_box rfl rfl (fun _ => ?_) | refine o_box1 rfl rfl rfl (fun _ => ?_) | refine o_alloc rfl rfl (fun _ => ?_))) | refine e_noU rfl rfl rfl ?_ | refine e_noN rfl rfl ?_ | refine s_seq ?_ | refine s_region ?_ | refine s_block ?_ | refine s_end ?_ | refine s_skip ?_ | refine s_exit ?_ | refine s_true rfl ?_ | refine s_false rfl ?_ | refine x_hit ?_ | refine x_code ?_ | refine x_back ?_ | refine x_miss rfl ?_)
    refine e_op (o_call (ofP_w [sl b0 6, sl b1 6, .slice none 0 0, sl b2 4, sl b17 7] sumsG (fun _ => by decide)) rfl .nil (hcan (U := [])) rfl ?_)
    rintro v V ⟨x, rfl, AK, cK, acs, AG, cG, bcs, hl, hb, rfl, rfl⟩
    rw [sums_lrE, sums_len]
    simp only [List.cons_append, List.nil_append]
    repeat' (first | refine e_nil ?_ | ((first | refine e_op ?_ | refine e_yes rfl ?_); (first | refine o_n (peval_sound rfl) rfl ?_ | refine o_n (nl rfl rfl tc rfl) rfl ?_ | refine o_storeC rfl rfl rfl rfl tc uc rfl rfl rfl ?_ | refine o_box rfl rfl (fun _ => ?_) | refine o_box1 rfl rfl rfl (fun _ => ?_) | refine o_alloc rfl rfl (fun _ => ?_))) | refine e_noU rfl rfl rfl ?_ | refine e_noN rfl rfl ?_ | refine s_seq ?_ | refine s_region ?_ | refine s_block ?_ | refine s_end ?_ | refine s_skip ?_ | refine s_exit ?_ | refine s_true rfl ?_ | refine s_false rfl ?_ | refine x_hit ?_ | refine x_code ?_ | refine x_back ?_ | refine x_miss rfl ?_)
    rename_i bx
    refine e_weak (fr' := [(53, .agg #[.slice none 0 0, .slice none 0 0, .slice none 0 0, .slice none 0 0, .slice none 0 0]), (3, .int .i64 0), (2, .pointer (some ⟨bx, 0, none⟩)), (1, .pointer (some ⟨bg, 0, none⟩))]) (V := [blk bx 35 [.slice AK 12 cK, .slice AG (lrGs sumsG).length cG], blk bg 27 [sl b0 6, sl b1 6, .slice none 0 0, sl b2 4, sl b17 7], strs b0 sumsG.Terms, levZ b1 sumsG.Levels, strs b2 sumsG.Nons, prS (some ⟨b17, 0, none⟩) 7 sacs sumsG.Prods, prB sacs sumsG.Prods]) ?_ (Ent.cons (Ent.wk (Ent.wk (Ent.wk (Ent.wk (Ent.refl _)))))) ?_
    · repeat' (first | exact Sub.nil _ | refine Sub.cons rfl ?_ | refine Sub.consE rfl ?_ ?_)
    refine e_op (o_call (ofP_w [.slice none 0 0, .slice none 0 0, .slice none 0 0, .slice none 0 0, .slice none 0 0] noneG (fun _ => by decide)) rfl .nil can_none rfl ?_)
    rintro v V ⟨x2, rfl, AK2, cK2, acs2, AG2, cG2, bcs2, hl2, hb2, rfl, rfl⟩
    rw [none_lrE]
    simp only [List.cons_append, List.nil_append]
    repeat' (first | refine e_nil ?_ | ((first | refine e_op ?_ | refine e_yes rfl ?_); (first | refine o_n (peval_sound rfl) rfl ?_ | refine o_n (nl rfl rfl tc rfl) rfl ?_ | refine o_storeC rfl rfl rfl rfl tc uc rfl rfl rfl ?_ | refine o_box rfl rfl (fun _ => ?_) | refine o_box1 rfl rfl rfl (fun _ => ?_) | refine o_alloc rfl rfl (fun _ => ?_))) | refine e_noU rfl rfl rfl ?_ | refine e_noN rfl rfl ?_ | refine s_seq ?_ | refine s_region ?_ | refine s_block ?_ | refine s_end ?_ | refine s_skip ?_ | refine s_exit ?_ | refine s_true rfl ?_ | refine s_false rfl ?_ | refine x_hit ?_ | refine x_code ?_ | refine x_back ?_ | refine x_miss rfl ?_)
    refine e_weak (fr' := [(59, .agg (encX ⟨7, 0⟩).toArray), (58, .agg ([sl b0 6, sl b1 6, .slice none 0 0, sl b2 4, sl b17 7] : List Value).toArray), (5, .int .i64 2), (3, .int .i64 0), (2, .pointer (some ⟨bx, 0, none⟩)), (1, .pointer (some ⟨bg, 0, none⟩))]) (V := [blk bx 35 [.slice AK 12 cK, .slice AG (lrGs sumsG).length cG], blk bg 27 [sl b0 6, sl b1 6, .slice none 0 0, sl b2 4, sl b17 7], strs b0 sumsG.Terms, levZ b1 sumsG.Levels, strs b2 sumsG.Nons, prS (some ⟨b17, 0, none⟩) 7 sacs sumsG.Prods, prB sacs sumsG.Prods]) ?_ (Ent.wk (Ent.wk (Ent.wk (Ent.wk (Ent.wk (Ent.refl _)))))) ?_
    · repeat' (first | exact Sub.nil _ | refine Sub.cons rfl ?_ | refine Sub.consE rfl ?_ ?_)
    refine e_op (o_lit (cs := encX ⟨7, 0⟩) rfl rfl rfl rfl rfl rfl rfl (fun bl => ?_))
    repeat' (first | refine e_nil ?_ | ((first | refine e_op ?_ | refine e_yes rfl ?_); (first | refine o_n (peval_sound rfl) rfl ?_ | refine o_n (nl rfl rfl tc rfl) rfl ?_ | refine o_storeC rfl rfl rfl rfl tc uc rfl rfl rfl ?_ | refine o_box rfl rfl (fun _ => ?_) | refine o_box1 rfl rfl rfl (fun _ => ?_) | refine o_alloc rfl rfl (fun _ => ?_))) | refine e_noU rfl rfl rfl ?_ | refine e_noN rfl rfl ?_ | refine s_seq ?_ | refine s_region ?_ | refine s_block ?_ | refine s_end ?_ | refine s_skip ?_ | refine s_exit ?_ | refine s_true rfl ?_ | refine s_false rfl ?_ | refine x_hit ?_ | refine x_code ?_ | refine x_back ?_ | refine x_miss rfl ?_)
    refine e_op (o_call (closeP_w [sl b0 6, sl b1 6, .slice none 0 0, sl b2 4, sl b17 7] sumsG (some ⟨bl, 0, none⟩) 1 [⟨7, 0⟩]) rfl .nil (Can.and (Can.byEnt (hcan (U := [])) (Ent.wk (Ent.wk (Ent.refl _)))) (can_oneItm ⟨by decide, by decide⟩ ⟨by decide, by decide⟩ .z)) rfl ?_)
    rintro v V ⟨AC, cC, rfl, rfl⟩
    rw [sums_c1]
    simp only [List.cons_append, List.nil_append]
    repeat' (first | refine e_nil ?_ | ((first | refine e_op ?_ | refine e_yes rfl ?_); (first | refine o_n (peval_sound rfl) rfl ?_ | refine o_n (nl rfl rfl tc rfl) rfl ?_ | refine o_storeC rfl rfl rfl rfl tc uc rfl rfl rfl ?_ | refine o_box rfl rfl (fun _ => ?_) | refine o_box1 rfl rfl rfl (fun _ => ?_) | refine o_alloc rfl rfl (fun _ => ?_))) | refine e_noU rfl rfl rfl ?_ | refine e_noN rfl rfl ?_ | refine s_seq ?_ | refine s_region ?_ | refine s_block ?_ | refine s_end ?_ | refine s_skip ?_ | refine s_exit ?_ | refine s_true rfl ?_ | refine s_false rfl ?_ | refine x_hit ?_ | refine x_code ?_ | refine x_back ?_ | refine x_miss rfl ?_)
    refine e_weak (fr' := [(66, .agg (encX ⟨-1, 0⟩).toArray), (65, .agg ([sl b0 6, sl b1 6, .slice none 0 0, sl b2 4, sl b17 7] : List Value).toArray), (7, .int .i64 9), (5, .int .i64 2), (3, .int .i64 0), (2, .pointer (some ⟨bx, 0, none⟩)), (1, .pointer (some ⟨bg, 0, none⟩))]) (V := [blk bx 35 [.slice AK 12 cK, .slice AG (lrGs sumsG).length cG], blk bg 27 [sl b0 6, sl b1 6, .slice none 0 0, sl b2 4, sl b17 7], strs b0 sumsG.Terms, levZ b1 sumsG.Levels, strs b2 sumsG.Nons, prS (some ⟨b17, 0, none⟩) 7 sacs sumsG.Prods, prB sacs sumsG.Prods]) ?_ (Ent.wk (Ent.wk (Ent.refl _))) ?_
    · repeat' (first | exact Sub.nil _ | refine Sub.cons rfl ?_ | refine Sub.consE rfl ?_ ?_)
    refine e_op (o_lit (cs := encX ⟨-1, 0⟩) rfl rfl rfl rfl rfl rfl rfl (fun bl => ?_))
    repeat' (first | refine e_nil ?_ | ((first | refine e_op ?_ | refine e_yes rfl ?_); (first | refine o_n (peval_sound rfl) rfl ?_ | refine o_n (nl rfl rfl tc rfl) rfl ?_ | refine o_storeC rfl rfl rfl rfl tc uc rfl rfl rfl ?_ | refine o_box rfl rfl (fun _ => ?_) | refine o_box1 rfl rfl rfl (fun _ => ?_) | refine o_alloc rfl rfl (fun _ => ?_))) | refine e_noU rfl rfl rfl ?_ | refine e_noN rfl rfl ?_ | refine s_seq ?_ | refine s_region ?_ | refine s_block ?_ | refine s_end ?_ | refine s_skip ?_ | refine s_exit ?_ | refine s_true rfl ?_ | refine s_false rfl ?_ | refine x_hit ?_ | refine x_code ?_ | refine x_back ?_ | refine x_miss rfl ?_)
    refine e_op (o_call (closeP_w [sl b0 6, sl b1 6, .slice none 0 0, sl b2 4, sl b17 7] sumsG (some ⟨bl, 0, none⟩) 1 [⟨-1, 0⟩]) rfl .nil (Can.and (Can.byEnt (hcan (U := [])) (Ent.wk (Ent.wk (Ent.refl _)))) (can_oneItm ⟨by decide, by decide⟩ ⟨by decide, by decide⟩ .z)) rfl ?_)
    rintro v V ⟨AC, cC, rfl, rfl⟩
    rw [sums_c2]
    simp only [List.cons_append, List.nil_append]
    repeat' (first | refine e_nil ?_ | ((first | refine e_op ?_ | refine e_yes rfl ?_); (first | refine o_n (peval_sound rfl) rfl ?_ | refine o_n (nl rfl rfl tc rfl) rfl ?_ | refine o_storeC rfl rfl rfl rfl tc uc rfl rfl rfl ?_ | refine o_box rfl rfl (fun _ => ?_) | refine o_box1 rfl rfl rfl (fun _ => ?_) | refine o_alloc rfl rfl (fun _ => ?_))) | refine e_noU rfl rfl rfl ?_ | refine e_noN rfl rfl ?_ | refine s_seq ?_ | refine s_region ?_ | refine s_block ?_ | refine s_end ?_ | refine s_skip ?_ | refine s_exit ?_ | refine s_true rfl ?_ | refine s_false rfl ?_ | refine x_hit ?_ | refine x_code ?_ | refine x_back ?_ | refine x_miss rfl ?_)
    refine e_weak (fr' := [(73, .agg (encX ⟨1, 4⟩).toArray), (72, .agg ([sl b0 6, sl b1 6, .slice none 0 0, sl b2 4, sl b17 7] : List Value).toArray), (9, .int .i64 9), (7, .int .i64 9), (5, .int .i64 2), (3, .int .i64 0), (2, .pointer (some ⟨bx, 0, none⟩)), (1, .pointer (some ⟨bg, 0, none⟩))]) (V := [blk bx 35 [.slice AK 12 cK, .slice AG (lrGs sumsG).length cG], blk bg 27 [sl b0 6, sl b1 6, .slice none 0 0, sl b2 4, sl b17 7], strs b0 sumsG.Terms, levZ b1 sumsG.Levels, strs b2 sumsG.Nons, prS (some ⟨b17, 0, none⟩) 7 sacs sumsG.Prods, prB sacs sumsG.Prods]) ?_ (Ent.wk (Ent.wk (Ent.refl _))) ?_
    · repeat' (first | exact Sub.nil _ | refine Sub.cons rfl ?_ | refine Sub.consE rfl ?_ ?_)
    refine e_op (o_lit (cs := encX ⟨1, 4⟩) rfl rfl rfl rfl rfl rfl rfl (fun bl => ?_))
    repeat' (first | refine e_nil ?_ | ((first | refine e_op ?_ | refine e_yes rfl ?_); (first | refine o_n (peval_sound rfl) rfl ?_ | refine o_n (nl rfl rfl tc rfl) rfl ?_ | refine o_storeC rfl rfl rfl rfl tc uc rfl rfl rfl ?_ | refine o_box rfl rfl (fun _ => ?_) | refine o_box1 rfl rfl rfl (fun _ => ?_) | refine o_alloc rfl rfl (fun _ => ?_))) | refine e_noU rfl rfl rfl ?_ | refine e_noN rfl rfl ?_ | refine s_seq ?_ | refine s_region ?_ | refine s_block ?_ | refine s_end ?_ | refine s_skip ?_ | refine s_exit ?_ | refine s_true rfl ?_ | refine s_false rfl ?_ | refine x_hit ?_ | refine x_code ?_ | refine x_back ?_ | refine x_miss rfl ?_)
    refine e_op (o_call (closeP_w [sl b0 6, sl b1 6, .slice none 0 0, sl b2 4, sl b17 7] sumsG (some ⟨bl, 0, none⟩) 1 [⟨1, 4⟩]) rfl .nil (Can.and (Can.byEnt (hcan (U := [])) (Ent.wk (Ent.wk (Ent.refl _)))) (can_oneItm ⟨by decide, by decide⟩ ⟨by decide, by decide⟩ .z)) rfl ?_)
    rintro v V ⟨AC, cC, rfl, rfl⟩
    rw [sums_c3]
    simp only [List.cons_append, List.nil_append]
    repeat' (first | refine e_nil ?_ | ((first | refine e_op ?_ | refine e_yes rfl ?_); (first | refine o_n (peval_sound rfl) rfl ?_ | refine o_n (nl rfl rfl tc rfl) rfl ?_ | refine o_storeC rfl rfl rfl rfl tc uc rfl rfl rfl ?_ | refine o_box rfl rfl (fun _ => ?_) | refine o_box1 rfl rfl rfl (fun _ => ?_) | refine o_alloc rfl rfl (fun _ => ?_))) | refine e_noU rfl rfl rfl ?_ | refine e_noN rfl rfl ?_ | refine s_seq ?_ | refine s_region ?_ | refine s_block ?_ | refine s_end ?_ | refine s_skip ?_ | refine s_exit ?_ | refine s_true rfl ?_ | refine s_false rfl ?_ | refine x_hit ?_ | refine x_code ?_ | refine x_back ?_ | refine x_miss rfl ?_)
    refine e_weak (fr' := [(80, .agg (encX ⟨1, -1⟩).toArray), (79, .agg ([sl b0 6, sl b1 6, .slice none 0 0, sl b2 4, sl b17 7] : List Value).toArray), (11, .int .i64 9), (9, .int .i64 9), (7, .int .i64 9), (5, .int .i64 2), (3, .int .i64 0), (2, .pointer (some ⟨bx, 0, none⟩)), (1, .pointer (some ⟨bg, 0, none⟩))]) (V := [blk bx 35 [.slice AK 12 cK, .slice AG (lrGs sumsG).length cG], blk bg 27 [sl b0 6, sl b1 6, .slice none 0 0, sl b2 4, sl b17 7], strs b0 sumsG.Terms, levZ b1 sumsG.Levels, strs b2 sumsG.Nons, prS (some ⟨b17, 0, none⟩) 7 sacs sumsG.Prods, prB sacs sumsG.Prods]) ?_ (Ent.wk (Ent.wk (Ent.refl _))) ?_
    · repeat' (first | exact Sub.nil _ | refine Sub.cons rfl ?_ | refine Sub.consE rfl ?_ ?_)
    refine e_op (o_lit (cs := encX ⟨1, -1⟩) rfl rfl rfl rfl rfl rfl rfl (fun bl => ?_))
    repeat' (first | refine e_nil ?_ | ((first | refine e_op ?_ | refine e_yes rfl ?_); (first | refine o_n (peval_sound rfl) rfl ?_ | refine o_n (nl rfl rfl tc rfl) rfl ?_ | refine o_storeC rfl rfl rfl rfl tc uc rfl rfl rfl ?_ | refine o_box rfl rfl (fun _ => ?_) | refine o_box1 rfl rfl rfl (fun _ => ?_) | refine o_alloc rfl rfl (fun _ => ?_))) | refine e_noU rfl rfl rfl ?_ | refine e_noN rfl rfl ?_ | refine s_seq ?_ | refine s_region ?_ | refine s_block ?_ | refine s_end ?_ | refine s_skip ?_ | refine s_exit ?_ | refine s_true rfl ?_ | refine s_false rfl ?_ | refine x_hit ?_ | refine x_code ?_ | refine x_back ?_ | refine x_miss rfl ?_)
    refine e_op (o_call (closeP_w [sl b0 6, sl b1 6, .slice none 0 0, sl b2 4, sl b17 7] sumsG (some ⟨bl, 0, none⟩) 1 [⟨1, -1⟩]) rfl .nil (Can.and (Can.byEnt (hcan (U := [])) (Ent.wk (Ent.wk (Ent.refl _)))) (can_oneItm ⟨by decide, by decide⟩ ⟨by decide, by decide⟩ .z)) rfl ?_)
    rintro v V ⟨AC, cC, rfl, rfl⟩
    rw [sums_c4]
    simp only [List.cons_append, List.nil_append]
    repeat' (first | refine e_nil ?_ | ((first | refine e_op ?_ | refine e_yes rfl ?_); (first | refine o_n (peval_sound rfl) rfl ?_ | refine o_n (nl rfl rfl tc rfl) rfl ?_ | refine o_storeC rfl rfl rfl rfl tc uc rfl rfl rfl ?_ | refine o_box rfl rfl (fun _ => ?_) | refine o_box1 rfl rfl rfl (fun _ => ?_) | refine o_alloc rfl rfl (fun _ => ?_))) | refine e_noU rfl rfl rfl ?_ | refine e_noN rfl rfl ?_ | refine s_seq ?_ | refine s_region ?_ | refine s_block ?_ | refine s_end ?_ | refine s_skip ?_ | refine s_exit ?_ | refine s_true rfl ?_ | refine s_false rfl ?_ | refine x_hit ?_ | refine x_code ?_ | refine x_back ?_ | refine x_miss rfl ?_)
    refine s_weak (fr' := [(13, .int .i64 9), (11, .int .i64 9), (9, .int .i64 9), (7, .int .i64 9), (5, .int .i64 2), (3, .int .i64 0), (2, .pointer (some ⟨bx, 0, none⟩)), (1, .pointer (some ⟨bg, 0, none⟩))]) (V := [blk bx 35 [.slice AK 12 cK, .slice AG (lrGs sumsG).length cG], blk bg 27 [sl b0 6, sl b1 6, .slice none 0 0, sl b2 4, sl b17 7], strs b0 sumsG.Terms, levZ b1 sumsG.Levels, strs b2 sumsG.Nons, prS (some ⟨b17, 0, none⟩) 7 sacs sumsG.Prods, prB sacs sumsG.Prods]) ?_ (Ent.wk (Ent.wk (Ent.refl _))) ?_
    · repeat' (first | exact Sub.nil _ | refine Sub.cons rfl ?_ | refine Sub.consE rfl ?_ ?_)
    obtain ⟨l2001, hle, hln, hlc, hli⟩ := zerosL 2001
    have hce : closeE sumsG l2001 = 5 := by rw [hle]; exact sums_c5
    repeat' (first | refine e_nil ?_ | ((first | refine e_op ?_ | refine e_yes rfl ?_); (first | refine o_n (peval_sound rfl) rfl ?_ | refine o_n (nl rfl rfl tc rfl) rfl ?_ | refine o_storeC rfl rfl rfl rfl tc uc rfl rfl rfl ?_ | refine o_box rfl rfl (fun _ => ?_) | refine o_box1 rfl rfl rfl (fun _ => ?_) | refine o_alloc rfl rfl (fun _ => ?_))) | refine e_noU rfl rfl rfl ?_ | refine e_noN rfl rfl ?_ | refine s_seq ?_ | refine s_region ?_ | refine s_block ?_ | refine s_end ?_ | refine s_skip ?_ | refine s_exit ?_ | refine s_true rfl ?_ | refine s_false rfl ?_ | refine x_hit ?_ | refine x_code ?_ | refine x_back ?_ | refine x_miss rfl ?_)
    refine s_drawU [1, 2] Tryd.mixed (by decide +kernel) ?_
    repeat' (first | refine l_nil ?_ | ((first | refine l_no rfl rfl rfl ?_ rfl ?_ | refine l_noN rfl rfl ?_ rfl ?_ | refine l_n (peval_sound rfl) rfl ?_ rfl ?_ | refine l_n (nl rfl rfl tc rfl) rfl ?_ rfl ?_ | refine l_ny rfl (peval_sound rfl) rfl ?_ rfl ?_ | refine l_ny rfl (nl rfl rfl tc rfl) rfl ?_ rfl ?_); · (first | exact Ent.refl _ | assumption | repeat' (first | exact Ent.refl _ | exact Ent.nil _ | refine Ent.tak .z ?_ | refine Ent.wk ?_))))
    refine l_e rfl (o_makeS (cs := l2001.flatMap encX) rfl rfl rfl rfl 2001 rfl rfl (by decide) (by decide) rfl hlc (fun b => ⟨Ent.wk (Ent.refl _), ?_⟩))
    refine l_e rfl (o_call (closeP_n [sl b0 6, sl b1 6, .slice none 0 0, sl b2 4, sl b17 7] sumsG (some ⟨b, 0, none⟩) 2001 2001 l2001 hln) rfl .nil (Can.and (Can.byEnt (hcan (U := [])) (Ent.wk (Ent.wk (Ent.refl _)))) (can_itemsN hln .z hli (by decide))) rfl ?_)
    rintro v V ⟨AC, cC, rfl, rfl⟩
    rw [hce]
    simp only [List.cons_append, List.nil_append]
    refine ⟨Ent.wk (Ent.wk (Ent.refl _)), ?_⟩
    repeat' (first | refine l_nil ?_ | ((first | refine l_no rfl rfl rfl ?_ rfl ?_ | refine l_noN rfl rfl ?_ rfl ?_ | refine l_n (peval_sound rfl) rfl ?_ rfl ?_ | refine l_n (nl rfl rfl tc rfl) rfl ?_ rfl ?_ | refine l_ny rfl (peval_sound rfl) rfl ?_ rfl ?_ | refine l_ny rfl (nl rfl rfl tc rfl) rfl ?_ rfl ?_); · (first | exact Ent.refl _ | assumption | repeat' (first | exact Ent.refl _ | exact Ent.nil _ | refine Ent.tak .z ?_ | refine Ent.wk ?_))))
    refine s_weak (fr' := [(15, .int .i64 5), (13, .int .i64 9), (11, .int .i64 9), (9, .int .i64 9), (7, .int .i64 9), (5, .int .i64 2), (3, .int .i64 0), (2, .pointer (some ⟨bx, 0, none⟩)), (1, .pointer (some ⟨bg, 0, none⟩))]) (V := [blk bx 35 [.slice AK 12 cK, .slice AG (lrGs sumsG).length cG], blk bg 27 [sl b0 6, sl b1 6, .slice none 0 0, sl b2 4, sl b17 7], strs b0 sumsG.Terms, levZ b1 sumsG.Levels, strs b2 sumsG.Nons, prS (some ⟨b17, 0, none⟩) 7 sacs sumsG.Prods, prB sacs sumsG.Prods]) ?_ (Ent.wk (Ent.wk (Ent.refl _))) ?_
    · repeat' (first | exact Sub.nil _ | refine Sub.cons rfl ?_ | refine Sub.consE rfl ?_ ?_)
    clear hle hln hlc hli hce
    clear l2001
    refine s_weak (fr' := [(15, .int .i64 5), (13, .int .i64 9), (11, .int .i64 9), (9, .int .i64 9), (7, .int .i64 9), (5, .int .i64 2), (3, .int .i64 0), (2, .pointer (some ⟨bx, 0, none⟩)), (1, .pointer (some ⟨bg, 0, none⟩))]) (V := [blk bx 35 [.slice AK 12 cK, .slice AG (lrGs sumsG).length cG], blk bg 27 [sl b0 6, sl b1 6, .slice none 0 0, sl b2 4, sl b17 7], strs b0 sumsG.Terms, levZ b1 sumsG.Levels, strs b2 sumsG.Nons, prS (some ⟨b17, 0, none⟩) 7 sacs sumsG.Prods, prB sacs sumsG.Prods]) ?_ (Ent.refl _) ?_
    · repeat' (first | exact Sub.nil _ | refine Sub.cons rfl ?_ | refine Sub.consE rfl ?_ ?_)
    obtain ⟨l2000, hle, hln, hlc, hli⟩ := zerosL 2000
    have hce : closeE sumsG l2000 = 0 := by rw [hle]; exact sums_c6
    have hcl : (closeL sumsG l2000).length = 7 := by rw [hle]; exact sums_l6
    repeat' (first | refine e_nil ?_ | ((first | refine e_op ?_ | refine e_yes rfl ?_); (first | refine o_n (peval_sound rfl) rfl ?_ | refine o_n (nl rfl rfl tc rfl) rfl ?_ | refine o_storeC rfl rfl rfl rfl tc uc rfl rfl rfl ?_ | refine o_box rfl rfl (fun _ => ?_) | refine o_box1 rfl rfl rfl (fun _ => ?_) | refine o_alloc rfl rfl (fun _ => ?_))) | refine e_noU rfl rfl rfl ?_ | refine e_noN rfl rfl ?_ | refine s_seq ?_ | refine s_region ?_ | refine s_block ?_ | refine s_end ?_ | refine s_skip ?_ | refine s_exit ?_ | refine s_true rfl ?_ | refine s_false rfl ?_ | refine x_hit ?_ | refine x_code ?_ | refine x_back ?_ | refine x_miss rfl ?_)
    refine s_drawU [1, 2] Tryd.mixed (by decide +kernel) ?_
    repeat' (first | refine l_nil ?_ | ((first | refine l_no rfl rfl rfl ?_ rfl ?_ | refine l_noN rfl rfl ?_ rfl ?_ | refine l_n (peval_sound rfl) rfl ?_ rfl ?_ | refine l_n (nl rfl rfl tc rfl) rfl ?_ rfl ?_ | refine l_ny rfl (peval_sound rfl) rfl ?_ rfl ?_ | refine l_ny rfl (nl rfl rfl tc rfl) rfl ?_ rfl ?_); · (first | exact Ent.refl _ | assumption | repeat' (first | exact Ent.refl _ | exact Ent.nil _ | refine Ent.tak .z ?_ | refine Ent.wk ?_))))
    refine l_e rfl (o_makeS (cs := l2000.flatMap encX) rfl rfl rfl rfl 2000 rfl rfl (by decide) (by decide) rfl hlc (fun b => ⟨Ent.wk (Ent.refl _), ?_⟩))
    refine l_e rfl (o_call (closeP_n [sl b0 6, sl b1 6, .slice none 0 0, sl b2 4, sl b17 7] sumsG (some ⟨b, 0, none⟩) 2000 2000 l2000 hln) rfl .nil (Can.and (Can.byEnt (hcan (U := [])) (Ent.wk (Ent.wk (Ent.refl _)))) (can_itemsN hln .z hli (by decide))) rfl ?_)
    rintro v V ⟨AC, cC, rfl, rfl⟩
    rw [hce, hcl]
    simp only [List.cons_append, List.nil_append]
    refine ⟨Ent.wk (Ent.wk (Ent.refl _)), ?_⟩
    repeat' (first | refine l_nil ?_ | ((first | refine l_no rfl rfl rfl ?_ rfl ?_ | refine l_noN rfl rfl ?_ rfl ?_ | refine l_n (peval_sound rfl) rfl ?_ rfl ?_ | refine l_n (nl rfl rfl tc rfl) rfl ?_ rfl ?_ | refine l_ny rfl (peval_sound rfl) rfl ?_ rfl ?_ | refine l_ny rfl (nl rfl rfl tc rfl) rfl ?_ rfl ?_); · (first | exact Ent.refl _ | assumption | repeat' (first | exact Ent.refl _ | exact Ent.nil _ | refine Ent.tak .z ?_ | refine Ent.wk ?_))))
    refine s_weak (fr' := [(17, .int .i64 0), (16, .slice AC 7 cC), (15, .int .i64 5), (13, .int .i64 9), (11, .int .i64 9), (9, .int .i64 9), (7, .int .i64 9), (5, .int .i64 2), (3, .int .i64 0), (2, .pointer (some ⟨bx, 0, none⟩)), (1, .pointer (some ⟨bg, 0, none⟩))]) (V := [blk bx 35 [.slice AK 12 cK, .slice AG (lrGs sumsG).length cG], blk bg 27 [sl b0 6, sl b1 6, .slice none 0 0, sl b2 4, sl b17 7], strs b0 sumsG.Terms, levZ b1 sumsG.Levels, strs b2 sumsG.Nons, prS (some ⟨b17, 0, none⟩) 7 sacs sumsG.Prods, prB sacs sumsG.Prods]) ?_ (Ent.wk (Ent.wk (Ent.refl _))) ?_
    · repeat' (first | exact Sub.nil _ | refine Sub.cons rfl ?_ | refine Sub.consE rfl ?_ ?_)
    clear hle hln hlc hli hce hcl
    clear l2000
    repeat' (first | refine e_nil ?_ | ((first | refine e_op ?_ | refine e_yes rfl ?_); (first | refine o_n (peval_sound rfl) rfl ?_ | refine o_n (nl rfl rfl tc rfl) rfl ?_ | refine o_storeC rfl rfl rfl rfl tc uc rfl rfl rfl ?_ | refine o_box rfl rfl (fun _ => ?_) | refine o_box1 rfl rfl rfl (fun _ => ?_) | refine o_alloc rfl rfl (fun _ => ?_))) | refine e_noU rfl rfl rfl ?_ | refine e_noN rfl rfl ?_ | refine s_seq ?_ | refine s_region ?_ | refine s_block ?_ | refine s_end ?_ | refine s_skip ?_ | refine s_exit ?_ | refine s_true rfl ?_ | refine s_false rfl ?_ | refine x_hit ?_ | refine x_code ?_ | refine x_back ?_ | refine x_miss rfl ?_)
    refine e_op (o_call (closeP_w [sl b0 6, sl b1 6, .slice none 0 0, sl b2 4, sl b17 7] sumsG none 0 []) rfl .nil (Can.and (Can.byEnt (hcan (U := [])) (Ent.wk (Ent.refl _))) can_noItm) rfl ?_)
    rintro v V ⟨AE, cE, rfl, rfl⟩
    rw [sums_c7, sums_l7]
    simp only [List.cons_append, List.nil_append]
    repeat' (first | refine e_nil ?_ | ((first | refine e_op ?_ | refine e_yes rfl ?_); (first | refine o_n (peval_sound rfl) rfl ?_ | refine o_n (nl rfl rfl tc rfl) rfl ?_ | refine o_storeC rfl rfl rfl rfl tc uc rfl rfl rfl ?_ | refine o_box rfl rfl (fun _ => ?_) | refine o_box1 rfl rfl rfl (fun _ => ?_) | refine o_alloc rfl rfl (fun _ => ?_))) | refine e_noU rfl rfl rfl ?_ | refine e_noN rfl rfl ?_ | refine s_seq ?_ | refine s_region ?_ | refine s_block ?_ | refine s_end ?_ | refine s_skip ?_ | refine s_exit ?_ | refine s_true rfl ?_ | refine s_false rfl ?_ | refine x_hit ?_ | refine x_code ?_ | refine x_back ?_ | refine x_miss rfl ?_)
    refine s_weak (fr' := [(19, .int .i64 0), (18, .slice AE 0 cE), (17, .int .i64 0), (16, .slice AC 7 cC), (15, .int .i64 5), (13, .int .i64 9), (11, .int .i64 9), (9, .int .i64 9), (7, .int .i64 9), (5, .int .i64 2), (3, .int .i64 0), (2, .pointer (some ⟨bx, 0, none⟩))]) (V := [blk bx 35 [.slice AK 12 cK, .slice AG (lrGs sumsG).length cG]]) ?_ (Ent.wk (Ent.tak .z (Ent.nil _))) ?_
    · repeat' (first | exact Sub.nil _ | refine Sub.cons rfl ?_ | refine Sub.consE rfl ?_ ?_)
    refine s_mk longM Tryd.mixed (by kernel_rfl) ?_ rfl ?_
    · intro i hi
      match i, hi with
      | 0, _ => exact mk_step [] rfl rfl rfl (by decide +kernel) (fun B U => o_makeS rfl rfl rfl rfl 48 rfl rfl (by decide) (by decide) rfl rfl (fun b => ⟨b, rfl, Ent.refl _⟩))
      | 1, _ => exact mk_step [] rfl rfl rfl (by decide +kernel) (fun B U => o_makeS rfl rfl rfl rfl 48 rfl rfl (by decide) (by decide) rfl rfl (fun b => ⟨b, rfl, Ent.refl _⟩))
      | 2, _ => exact mk_step [] rfl rfl rfl (by decide +kernel) (fun B U => o_makeS rfl rfl rfl rfl 2 rfl rfl (by decide) (by decide) rfl rfl (fun b => ⟨b, rfl, Ent.refl _⟩))
      | 3, _ => exact mk_step [] rfl rfl rfl (by decide +kernel) (fun B U => o_lit rfl rfl rfl rfl rfl rfl rfl (fun b => ⟨b, rfl, Ent.refl _⟩))
      | 4, _ => exact mk_step [3] rfl rfl rfl (by decide +kernel) (fun B U => o_call (p19_w _ _ _ _) rfl .nil Can.tt rfl (by rintro v V ⟨rfl, rfl⟩; exact ⟨0, rfl, Ent.refl _⟩))
      | 5, _ => exact mk_step [4] rfl rfl rfl (by decide +kernel) (fun B U => o_lit (ps := [(0, pv 0 (sl (B 3) 1))]) (cs := prC [(some ⟨B 3, 0, none⟩, 1)] (longPs 0)) rfl rfl (by kernel_rfl) rfl rfl (by kernel_rfl) rfl (fun b => ⟨b, rfl, Ent.refl _⟩))
      | 6, _ => exact mk_step [0, 1, 2, 5] rfl rfl rfl (by decide +kernel) (fun B U => o_n (peval_sound rfl) rfl ⟨0, rfl, Ent.refl _⟩)
      | 7, _ => exact mk_step [] rfl rfl rfl (by decide +kernel) (fun B U => o_alloc rfl rfl (fun b => ⟨b, rfl, Ent.refl _⟩))
      | n + 8, h => exact absurd h (by simp [longM])
    intro B
    refine o_store (b := B 7) (o := 0) (vs := [sl (B 0) 48, sl (B 1) 48, .slice none 0 0, sl (B 2) 2, sl (B 5) 1]) rfl rfl rfl rfl rfl rfl rfl (.s (.s (.s (.s (.s .z))))) ?_
    refine s_weak (fr' := [(20, .pointer (some ⟨B 7, 0, none⟩)), (19, .int .i64 0), (18, .slice AE 0 cE), (17, .int .i64 0), (16, .slice AC 7 cC), (15, .int .i64 5), (13, .int .i64 9), (11, .int .i64 9), (9, .int .i64 9), (7, .int .i64 9), (5, .int .i64 2), (3, .int .i64 0), (2, .pointer (some ⟨bx, 0, none⟩))]) (V := [blk (B 7) 27 [sl (B 0) 48, sl (B 1) 48, .slice none 0 0, sl (B 2) 2, .slice (some ⟨B 5, 0, none⟩) 1 1], prS (some ⟨B 5, 0, none⟩) 1 [(some ⟨B 3, 0, none⟩, 1)] (longPs 0), prB [(some ⟨B 3, 0, none⟩, 1)] (longPs 0), strs (B 0) (longG 47).Terms, levZ (B 1) (longG 47).Levels, strs (B 2) (longG 47).Nons, blk bx 35 [.slice AK 12 cK, .slice AG (lrGs sumsG).length cG]]) ?_ ?_ ?_
    · repeat' (first | exact Sub.nil _ | refine Sub.cons rfl ?_ | refine Sub.consE rfl ?_ ?_)
    · refine Ent.tak (.s (.s (.s (.s (.s .z))))) (Ent.tak (.s (.s (.s (.s .z)))) ?_)
      refine Ent.trans (Ent.tak (.s (.s (.s .z))) (Ent.refl _)) ?_
      exact ent_bun (L := [_])
    generalize B 0 = c0, B 1 = c1, B 2 = c2, B 7 = bn
    generalize hA5 : (some ⟨B 5, 0, none⟩ : Option Addr) = A5
    generalize hA3 : [((some ⟨B 3, 0, none⟩ : Option Addr), 1)] = acs5
    have ha5 : acs5.length = 0 + 1 := by subst hA3; rfl
    clear hA5 hA3 B
    repeat' (first | refine e_nil ?_ | ((first | refine e_op ?_ | refine e_yes rfl ?_); (first | refine o_n (peval_sound rfl) rfl ?_ | refine o_n (nl rfl rfl tc rfl) rfl ?_ | refine o_storeC rfl rfl rfl rfl tc uc rfl rfl rfl ?_ | refine o_box rfl rfl (fun _ => ?_) | refine o_box1 rfl rfl rfl (fun _ => ?_) | refine o_alloc rfl rfl (fun _ => ?_))) | refine e_noU rfl rfl rfl ?_ | refine e_noN rfl rfl ?_ | refine s_seq ?_ | refine s_region ?_ | refine s_block ?_ | refine s_end ?_ | refine s_skip ?_ | refine s_exit ?_ | refine s_true rfl ?_ | refine s_false rfl ?_ | refine x_hit ?_ | refine x_code ?_ | refine x_back ?_ | refine x_miss rfl ?_)
    refine s_loopK (ι := {x : Nat × Option Addr × Nat × List (Option Addr × Nat) // x.1 ≤ 47 ∧ x.2.2.2.length = x.1 + 1}) [2, 3, 5, 7, 9, 11, 13, 15, 16, 17, 18, 19, 20] rfl ⟨(0, A5, 1, acs5), by omega, ha5⟩ (fun x => [(21, .int .i64 x.1.1)])
      (fun x => [blk bn 27 [sl c0 48, sl c1 48, .slice none 0 0, sl c2 2, .slice x.1.2.1 (x.1.1 + 1) x.1.2.2.1], prS x.1.2.1 x.1.2.2.1 x.1.2.2.2 (longPs x.1.1), prB x.1.2.2.2 (longPs x.1.1), strs c0 (longG 47).Terms, levZ c1 (longG 47).Levels, strs c2 (longG 47).Nons, blk bx 35 [.slice AK 12 cK, .slice AG (lrGs sumsG).length cG]]) (fun x => 47 - x.1.1) ?_ (Ent.refl _) ?_
    · repeat' (first | exact Sub.nil _ | refine Sub.cons rfl ?_ | refine Sub.consE rfl ?_ ?_)
    rintro ⟨⟨k, Ap, cp, acp⟩, hk, hac⟩
    simp only at hk hac ⊢
    have hpl : acp.length = (longPs k).length := by rw [longPs_len]; exact hac
    refine s_cap (.s .z) (fun hcap => ?_)
    rw [longPs_len] at hcap
    repeat' (first | refine e_nil ?_ | ((first | refine e_op ?_ | refine e_yes rfl ?_); (first | refine o_n (peval_sound rfl) rfl ?_ | refine o_n (nl rfl rfl tc rfl) rfl ?_ | refine o_storeC rfl rfl rfl rfl tc uc rfl rfl rfl ?_ | refine o_box rfl rfl (fun _ => ?_) | refine o_box1 rfl rfl rfl (fun _ => ?_) | refine o_alloc rfl rfl (fun _ => ?_))) | refine e_noU rfl rfl rfl ?_ | refine e_noN rfl rfl ?_ | refine s_seq ?_ | refine s_region ?_ | refine s_block ?_ | refine s_end ?_ | refine s_skip ?_ | refine s_exit ?_ | refine s_true rfl ?_ | refine s_false rfl ?_ | refine x_hit ?_ | refine x_code ?_ | refine x_back ?_ | refine x_miss rfl ?_)
    by_cases hk47 : k < 47
    · rw [decide_eq_true (p := (k : Int) < 47) (by omega)]
      repeat' (first | refine e_nil ?_ | ((first | refine e_op ?_ | refine e_yes rfl ?_); (first | refine o_n (peval_sound rfl) rfl ?_ | refine o_n (nl rfl rfl tc rfl) rfl ?_ | refine o_storeC rfl rfl rfl rfl tc uc rfl rfl rfl ?_ | refine o_box rfl rfl (fun _ => ?_) | refine o_box1 rfl rfl rfl (fun _ => ?_) | refine o_alloc rfl rfl (fun _ => ?_))) | refine e_noU rfl rfl rfl ?_ | refine e_noN rfl rfl ?_ | refine s_seq ?_ | refine s_region ?_ | refine s_block ?_ | refine s_end ?_ | refine s_skip ?_ | refine s_exit ?_ | refine s_true rfl ?_ | refine s_false rfl ?_ | refine x_hit ?_ | refine x_code ?_ | refine x_back ?_ | refine x_miss rfl ?_)
      rename_i bq
      refine s_ent (Ent.osl0 (e := 3) (sz := 1) (Ent.refl _)) ?_
      refine s_loopK (ι := {y : Nat × Option Addr × Nat // y.1 ≤ 12}) [2, 3, 5, 7, 9, 11, 13, 15, 16, 17, 18, 19, 20, 21, 22] rfl ⟨(0, none, 0), by omega⟩ (fun y => [(23, .int .i64 y.1.1)])
        (fun y => [osl 3 1 (.slice y.1.2.1 y.1.1 y.1.2.2) y.1.1 ((longR k y.1.1).map (Value.int .i64)), blk bq 53 [.int .i64 1, .slice y.1.2.1 y.1.1 y.1.2.2, .int .i64 0, .int .i64 0], blk bn 27 [sl c0 48, sl c1 48, .slice none 0 0, sl c2 2, .slice Ap (k + 1) cp], prS Ap cp acp (longPs k), prB acp (longPs k), strs c0 (longG 47).Terms, levZ c1 (longG 47).Levels, strs c2 (longG 47).Nons, blk bx 35 [.slice AK 12 cK, .slice AG (lrGs sumsG).length cG]]) (fun y => 12 - y.1.1) ?_ (Ent.refl _) ?_
      · repeat' (first | exact Sub.nil _ | refine Sub.cons rfl ?_ | refine Sub.consE rfl ?_ ?_)
      rintro ⟨⟨m, Ar, cr⟩, hm⟩
      simp only at hm ⊢
      repeat' (first | refine e_nil ?_ | ((first | refine e_op ?_ | refine e_yes rfl ?_); (first | refine o_n (peval_sound rfl) rfl ?_ | refine o_n (nl rfl rfl tc rfl) rfl ?_ | refine o_storeC rfl rfl rfl rfl tc uc rfl rfl rfl ?_ | refine o_box rfl rfl (fun _ => ?_) | refine o_box1 rfl rfl rfl (fun _ => ?_) | refine o_alloc rfl rfl (fun _ => ?_))) | refine e_noU rfl rfl rfl ?_ | refine e_noN rfl rfl ?_ | refine s_seq ?_ | refine s_region ?_ | refine s_block ?_ | refine s_end ?_ | refine s_skip ?_ | refine s_exit ?_ | refine s_true rfl ?_ | refine s_false rfl ?_ | refine x_hit ?_ | refine x_code ?_ | refine x_back ?_ | refine x_miss rfl ?_)
      by_cases hm12 : m < 12
      · rw [decide_eq_true (p := (m : Int) < 12) (by omega)]
        repeat' (first | refine e_nil ?_ | ((first | refine e_op ?_ | refine e_yes rfl ?_); (first | refine o_n (peval_sound rfl) rfl ?_ | refine o_n (nl rfl rfl tc rfl) rfl ?_ | refine o_storeC rfl rfl rfl rfl tc uc rfl rfl rfl ?_ | refine o_box rfl rfl (fun _ => ?_) | refine o_box1 rfl rfl rfl (fun _ => ?_) | refine o_alloc rfl rfl (fun _ => ?_))) | refine e_noU rfl rfl rfl ?_ | refine e_noN rfl rfl ?_ | refine s_seq ?_ | refine s_region ?_ | refine s_block ?_ | refine s_end ?_ | refine s_skip ?_ | refine s_exit ?_ | refine s_true rfl ?_ | refine s_false rfl ?_ | refine x_hit ?_ | refine x_code ?_ | refine x_back ?_ | refine x_miss rfl ?_)
        have hmod := Nat.mod_lt (k + m) (show 0 < 47 by decide)
        rw [show IntKind.i64.wrap ((k : Int) + (m : Int)) = ((k + m : Nat) : Int) by rw [wrap_i64] <;> omega]
        refine e_op (o_n (n_rem rfl rfl (by omega)) rfl ?_)
        rw [show ((k + m : Nat) : Int).tmod 47 = (((k + m) % 47 : Nat) : Int) from rfl]
        repeat' (first | refine e_nil ?_ | ((first | refine e_op ?_ | refine e_yes rfl ?_); (first | refine o_n (peval_sound rfl) rfl ?_ | refine o_n (nl rfl rfl tc rfl) rfl ?_ | refine o_storeC rfl rfl rfl rfl tc uc rfl rfl rfl ?_ | refine o_box rfl rfl (fun _ => ?_) | refine o_box1 rfl rfl rfl (fun _ => ?_) | refine o_alloc rfl rfl (fun _ => ?_))) | refine e_noU rfl rfl rfl ?_ | refine e_noN rfl rfl ?_ | refine s_seq ?_ | refine s_region ?_ | refine s_block ?_ | refine s_end ?_ | refine s_skip ?_ | refine s_exit ?_ | refine s_true rfl ?_ | refine s_false rfl ?_ | refine x_hit ?_ | refine x_code ?_ | refine x_back ?_ | refine x_miss rfl ?_)
        rw [show IntKind.i64.wrap (1 + (((k + m) % 47 : Nat) : Int)) = ((1 + (k + m) % 47 : Nat) : Int) by rw [wrap_i64] <;> omega]
        refine e_op (o_lit (ps := [(0, .int .i64 ((1 + (k + m) % 47 : Nat) : Int))]) (cs := [.int .i64 ((1 + (k + m) % 47 : Nat) : Int)]) rfl rfl rfl rfl rfl rfl rfl (fun bl => ?_))
        repeat' (first | refine e_nil ?_ | ((first | refine e_op ?_ | refine e_yes rfl ?_); (first | refine o_n (peval_sound rfl) rfl ?_ | refine o_n (nl rfl rfl tc rfl) rfl ?_ | refine o_storeC rfl rfl rfl rfl tc uc rfl rfl rfl ?_ | refine o_box rfl rfl (fun _ => ?_) | refine o_box1 rfl rfl rfl (fun _ => ?_) | refine o_alloc rfl rfl (fun _ => ?_))) | refine e_noU rfl rfl rfl ?_ | refine e_noN rfl rfl ?_ | refine s_seq ?_ | refine s_region ?_ | refine s_block ?_ | refine s_end ?_ | refine s_skip ?_ | refine s_exit ?_ | refine s_true rfl ?_ | refine s_false rfl ?_ | refine x_hit ?_ | refine x_code ?_ | refine x_back ?_ | refine x_miss rfl ?_)
        refine e_op (o_append (v := .slice Ar m cr) (n := m) (m := 1) (xs := (longR k m).map (Value.int .i64)) (news := [.int .i64 ((1 + (k + m) % 47 : Nat) : Int)]) _ rfl rfl rfl rfl (fun w hm q u hu => ?_) rfl ?_ rfl (by omega) (by simp only; omega) (by omega) rfl (fun b c => .s .z) (fun ba ca => ?_))
        · obtain ⟨S1, hP, _⟩ := hm.tak .z
          rw [Nat.zero_add]
          exact osl_cells hP q u hu
        · simp [oneB]
        repeat' (first | refine e_nil ?_ | ((first | refine e_op ?_ | refine e_yes rfl ?_); (first | refine o_n (peval_sound rfl) rfl ?_ | refine o_n (nl rfl rfl tc rfl) rfl ?_ | refine o_storeC rfl rfl rfl rfl tc uc rfl rfl rfl ?_ | refine o_box rfl rfl (fun _ => ?_) | refine o_box1 rfl rfl rfl (fun _ => ?_) | refine o_alloc rfl rfl (fun _ => ?_))) | refine e_noU rfl rfl rfl ?_ | refine e_noN rfl rfl ?_ | refine s_seq ?_ | refine s_region ?_ | refine s_block ?_ | refine s_end ?_ | refine s_skip ?_ | refine s_exit ?_ | refine s_true rfl ?_ | refine s_false rfl ?_ | refine x_hit ?_ | refine x_code ?_ | refine x_back ?_ | refine x_miss rfl ?_)
        have hfl : (longR k m).map (Value.int .i64) ++ [.int .i64 ((1 + (k + m) % 47 : Nat) : Int)] = (longR k (m + 1)).map (Value.int .i64) := by rw [longR_succ, List.map_append]; rfl
        rw [hfl]
        refine s_back ⟨⟨(m + 1, some ⟨ba, 0, none⟩, ca), by simp only; omega⟩, by simp only; omega, ?_, ?_⟩
        · repeat' (first | exact Sub.nil _ | refine Sub.cons rfl ?_ | refine Sub.consE rfl ?_ ?_)
          exact inc (i := m) (by omega)
        · simp only
          exact Ent.wk (Ent.refl _)
      · rw [decide_eq_false (p := (m : Int) < 12) (by omega)]
        obtain rfl : m = 12 := by omega
        repeat' (first | refine e_nil ?_ | ((first | refine e_op ?_ | refine e_yes rfl ?_); (first | refine o_n (peval_sound rfl) rfl ?_ | refine o_n (nl rfl rfl tc rfl) rfl ?_ | refine o_storeC rfl rfl rfl rfl tc uc rfl rfl rfl ?_ | refine o_box rfl rfl (fun _ => ?_) | refine o_box1 rfl rfl rfl (fun _ => ?_) | refine o_alloc rfl rfl (fun _ => ?_))) | refine e_noU rfl rfl rfl ?_ | refine e_noN rfl rfl ?_ | refine s_seq ?_ | refine s_region ?_ | refine s_block ?_ | refine s_end ?_ | refine s_skip ?_ | refine s_exit ?_ | refine s_true rfl ?_ | refine s_false rfl ?_ | refine x_hit ?_ | refine x_code ?_ | refine x_back ?_ | refine x_miss rfl ?_)
        unfold prS
        rw [longPs_len]
        refine e_op (o_lit (ps := [(0, .agg (prRow (Ar, cr) (longP k)).toArray)]) (cs := prRow (Ar, cr) (longP k)) rfl rfl rfl rfl rfl rfl rfl (fun bl => ?_))
        repeat' (first | refine e_nil ?_ | ((first | refine e_op ?_ | refine e_yes rfl ?_); (first | refine o_n (peval_sound rfl) rfl ?_ | refine o_n (nl rfl rfl tc rfl) rfl ?_ | refine o_storeC rfl rfl rfl rfl tc uc rfl rfl rfl ?_ | refine o_box rfl rfl (fun _ => ?_) | refine o_box1 rfl rfl rfl (fun _ => ?_) | refine o_alloc rfl rfl (fun _ => ?_))) | refine e_noU rfl rfl rfl ?_ | refine e_noN rfl rfl ?_ | refine s_seq ?_ | refine s_region ?_ | refine s_block ?_ | refine s_end ?_ | refine s_skip ?_ | refine s_exit ?_ | refine s_true rfl ?_ | refine s_false rfl ?_ | refine x_hit ?_ | refine x_code ?_ | refine x_back ?_ | refine x_miss rfl ?_)
        refine e_op (o_append (v := .slice Ap (k + 1) cp) (n := k + 1) (m := 1) (xs := prC acp (longPs k)) (news := prRow (Ar, cr) (longP k)) _ rfl rfl rfl rfl (fun w hm q u hu => ?_) rfl ?_ rfl (by omega) (by simp only; omega) (by omega) rfl (fun b c => .s (.s (.s (.s .z)))) (fun ba ca => ?_))
        · obtain ⟨S1, hP, _⟩ := hm.tak .z
          rw [Nat.zero_add]
          exact osl_cells hP q u hu
        · simp [oneB, prRow]
        repeat' (first | refine e_nil ?_ | ((first | refine e_op ?_ | refine e_yes rfl ?_); (first | refine o_n (peval_sound rfl) rfl ?_ | refine o_n (nl rfl rfl tc rfl) rfl ?_ | refine o_storeC rfl rfl rfl rfl tc uc rfl rfl rfl ?_ | refine o_box rfl rfl (fun _ => ?_) | refine o_box1 rfl rfl rfl (fun _ => ?_) | refine o_alloc rfl rfl (fun _ => ?_))) | refine e_noU rfl rfl rfl ?_ | refine e_noN rfl rfl ?_ | refine s_seq ?_ | refine s_region ?_ | refine s_block ?_ | refine s_end ?_ | refine s_skip ?_ | refine s_exit ?_ | refine s_true rfl ?_ | refine s_false rfl ?_ | refine x_hit ?_ | refine x_code ?_ | refine x_back ?_ | refine x_miss rfl ?_)
        rw [prC_snoc hpl, ← longPs_succ]
        refine s_back ⟨⟨(k + 1, some ⟨ba, 0, none⟩, ca, acp ++ [(Ar, cr)]), by simp only; omega, by simp [hac]⟩, by simp only; omega, ?_, ?_⟩
        · repeat' (first | exact Sub.nil _ | refine Sub.cons rfl ?_ | refine Sub.consE rfl ?_ ?_)
          exact inc (i := k) (by omega)
        · simp only
          rw [longPs_len]
          have hl2 : acp.length = ((longPs k).map (·.Right)).length := by rw [List.length_map]; exact hpl
          have hrow : osl 3 1 (.slice Ar 12 cr) 12 ((longR k 12).map (Value.int .i64)) = rowA (fun l : List Int => l.map (Value.int .i64)) 1 3 (Ar, cr) (longP k).Right := rfl
          have hr : (longPs (k + 1)).map (·.Right) = (longPs k).map (·.Right) ++ [(longP k).Right] := by rw [longPs_succ, List.map_append]; rfl
          refine Ent.wk (Ent.tak (.s (.s .z)) (Ent.tak (.s (.s .z)) ?_))
          rw [hrow]
          refine Ent.trans (Ent.tak .z (Ent.wk (Ent.refl _))) (Ent.trans (ent_bsnoc hl2) ?_)
          unfold prB
          rw [hr]
          exact Ent.refl _
    · rw [decide_eq_false (p := (k : Int) < 47) (by omega)]
      obtain rfl : k = 47 := by omega
      have hlz1 : ∀ x ∈ (longG 47).Levels, x = ⟨0, 0⟩ := fun x hx => List.eq_of_mem_replicate hx
      have hlz2 : ∀ x ∈ (longG 39).Levels, x = ⟨0, 0⟩ := fun x hx => List.eq_of_mem_replicate hx
      repeat' (first | refine e_nil ?_ | ((first | refine e_op ?_ | refine e_yes rfl ?_); (first | refine o_n (peval_sound rfl) rfl ?_ | refine o_n (nl rfl rfl tc rfl) rfl ?_ | refine o_storeC rfl rfl rfl rfl tc uc rfl rfl rfl ?_ | refine o_box rfl rfl (fun _ => ?_) | refine o_box1 rfl rfl rfl (fun _ => ?_) | refine o_alloc rfl rfl (fun _ => ?_))) | refine e_noU rfl rfl rfl ?_ | refine e_noN rfl rfl ?_ | refine s_seq ?_ | refine s_region ?_ | refine s_block ?_ | refine s_end ?_ | refine s_skip ?_ | refine s_exit ?_ | refine s_true rfl ?_ | refine s_false rfl ?_ | refine x_hit ?_ | refine x_code ?_ | refine x_back ?_ | refine x_miss rfl ?_)
      refine e_op (o_call (ofP_w [sl c0 48, sl c1 48, .slice none 0 0, sl c2 2, .slice Ap 48 cp] (longG 47) (fun _ => by show (longPs 47).length ≤ 100; rw [longPs_len]; omega)) rfl .nil
        (can_gramP (g := longG 47) hpl 48 (by rw [longPs_len]; omega) (List.take_of_length_le (by show (longPs 47).length ≤ 48; rw [longPs_len]; omega)).symm rfl (by decide) (by decide) (by decide) (long_ok (by decide)) hlz1 (Ent.tak (.s (.s (.s .z))) (Ent.tak (.s (.s (.s .z))) (Ent.tak (.s (.s (.s .z))) (Ent.tak (.s .z) (Ent.tak (.s .z) (Ent.refl _))))))) rfl ?_)
      rintro v V ⟨x3, rfl, AK3, cK3, acs3, AG3, cG3, bcs3, hl3, hb3, rfl, rfl⟩
      rw [long_lrE]
      simp only [List.cons_append, List.nil_append]
      repeat' (first | refine e_nil ?_ | ((first | refine e_op ?_ | refine e_yes rfl ?_); (first | refine o_n (peval_sound rfl) rfl ?_ | refine o_n (nl rfl rfl tc rfl) rfl ?_ | refine o_storeC rfl rfl rfl rfl tc uc rfl rfl rfl ?_ | refine o_box rfl rfl (fun _ => ?_) | refine o_box1 rfl rfl rfl (fun _ => ?_) | refine o_alloc rfl rfl (fun _ => ?_))) | refine e_noU rfl rfl rfl ?_ | refine e_noN rfl rfl ?_ | refine s_seq ?_ | refine s_region ?_ | refine s_block ?_ | refine s_end ?_ | refine s_skip ?_ | refine s_exit ?_ | refine s_true rfl ?_ | refine s_false rfl ?_ | refine x_hit ?_ | refine x_code ?_ | refine x_back ?_ | refine x_miss rfl ?_)
      refine e_op (o_n (n_head 40 rfl rfl rfl rfl (by omega)) rfl ?_)
      repeat' (first | refine e_nil ?_ | ((first | refine e_op ?_ | refine e_yes rfl ?_); (first | refine o_n (peval_sound rfl) rfl ?_ | refine o_n (nl rfl rfl tc rfl) rfl ?_ | refine o_storeC rfl rfl rfl rfl tc uc rfl rfl rfl ?_ | refine o_box rfl rfl (fun _ => ?_) | refine o_box1 rfl rfl rfl (fun _ => ?_) | refine o_alloc rfl rfl (fun _ => ?_))) | refine e_noU rfl rfl rfl ?_ | refine e_noN rfl rfl ?_ | refine s_seq ?_ | refine s_region ?_ | refine s_block ?_ | refine s_end ?_ | refine s_skip ?_ | refine s_exit ?_ | refine s_true rfl ?_ | refine s_false rfl ?_ | refine x_hit ?_ | refine x_code ?_ | refine x_back ?_ | refine x_miss rfl ?_)
      refine e_op (o_call (ofP_w [sl c0 48, sl c1 48, .slice none 0 0, sl c2 2, .slice Ap 40 cp] (longG 39) (fun _ => by show (longPs 39).length ≤ 100; rw [longPs_len]; omega)) rfl .nil
        (can_gramP (g := longG 39) hpl 40 (by rw [longPs_len]; omega) longPs_take rfl (by decide) (by decide) (by decide) (long_ok (by decide)) hlz2 (Ent.wk (Ent.wk (Ent.wk (Ent.wk (Ent.wk (Ent.tak (.s (.s (.s .z))) (Ent.tak (.s (.s (.s .z))) (Ent.tak (.s (.s (.s .z))) (Ent.tak (.s .z) (Ent.tak (.s .z) (Ent.refl _)))))))))))) rfl ?_)
      rintro v V ⟨x4, rfl, AK4, cK4, acs4, AG4, cG4, bcs4, hl4, hb4, rfl, rfl⟩
      rw [long_lrE2, long_len2]
      simp only [List.cons_append, List.nil_append]
      repeat' (first | refine e_nil ?_ | ((first | refine e_op ?_ | refine e_yes rfl ?_); (first | refine o_n (peval_sound rfl) rfl ?_ | refine o_n (nl rfl rfl tc rfl) rfl ?_ | refine o_storeC rfl rfl rfl rfl tc uc rfl rfl rfl ?_ | refine o_box rfl rfl (fun _ => ?_) | refine o_box1 rfl rfl rfl (fun _ => ?_) | refine o_alloc rfl rfl (fun _ => ?_))) | refine e_noU rfl rfl rfl ?_ | refine e_noN rfl rfl ?_ | refine s_seq ?_ | refine s_region ?_ | refine s_block ?_ | refine s_end ?_ | refine s_skip ?_ | refine s_exit ?_ | refine s_true rfl ?_ | refine s_false rfl ?_ | refine x_hit ?_ | refine x_code ?_ | refine x_back ?_ | refine x_miss rfl ?_)
      refine e_yes rfl (o_call works19_w rfl .nil Can.tt rfl ?_)
      rintro v V ⟨rfl, rfl⟩
      simp only [List.nil_append]
      repeat' (first | refine e_nil ?_ | ((first | refine e_op ?_ | refine e_yes rfl ?_); (first | refine o_n (peval_sound rfl) rfl ?_ | refine o_n (nl rfl rfl tc rfl) rfl ?_ | refine o_storeC rfl rfl rfl rfl tc uc rfl rfl rfl ?_ | refine o_box rfl rfl (fun _ => ?_) | refine o_box1 rfl rfl rfl (fun _ => ?_) | refine o_alloc rfl rfl (fun _ => ?_))) | refine e_noU rfl rfl rfl ?_ | refine e_noN rfl rfl ?_ | refine s_seq ?_ | refine s_region ?_ | refine s_block ?_ | refine s_end ?_ | refine s_skip ?_ | refine s_exit ?_ | refine s_true rfl ?_ | refine s_false rfl ?_ | refine x_hit ?_ | refine x_code ?_ | refine x_back ?_ | refine x_miss rfl ?_)
      exact s_ret ⟨_, _, res1 rfl rfl, ⟨rfl, rfl⟩, Ent.nil _⟩

end Go.Proofs.YtcbaebkkdkdaaaaDoor
