/-
  The statement EarleyKnown, walked.
-/
import Derived.Test.YtjeimmekhfhepaaErBase3

namespace Go.Proofs.Ytjeimmekhfhepaa
set_option linter.all false
open Go.Proofs.Ytjeimmekhfhepaa.E

theorem gLo_ok : PrOk gLo.Prods := prOk_of (by decide) (by decide +kernel)
theorem gTw_ok : PrOk gTw.Prods := prOk_of (by decide) (by decide +kernel)
theorem gNe_ok : PrOk gNe.Prods := prOk_of (by decide) (by decide +kernel)
def loA (b3 b5 b7 : Nat) : List (Option Addr × Nat) := [(some ⟨b3, 0, none⟩, 1), (some ⟨b5, 0, none⟩, 1), (some ⟨b7, 0, none⟩, 1)]
def loM : List Mk := [
  ⟨19, [0], fun l => sl (l.getD 0 0) 2, fun l => [strs (l.getD 0 0) gLo.Terms]⟩,
  ⟨20, [1], fun l => sl (l.getD 0 0) 2, fun l => [levZ (l.getD 0 0) gLo.Levels]⟩,
  ⟨21, [2], fun l => sl (l.getD 0 0) 2, fun l => [strs (l.getD 0 0) gLo.Nons]⟩,
  ⟨22, [3], fun l => sl (l.getD 0 0) 1, fun l => [ints (l.getD 0 0) [3]]⟩,
  ⟨23, [3], fun l => pv 0 (sl (l.getD 0 0) 1), fun _ => []⟩,
  ⟨24, [5], fun l => sl (l.getD 0 0) 1, fun l => [ints (l.getD 0 0) [3]]⟩,
  ⟨25, [5], fun l => pv 1 (sl (l.getD 0 0) 1), fun _ => []⟩,
  ⟨26, [7], fun l => sl (l.getD 0 0) 1, fun l => [ints (l.getD 0 0) [1]]⟩,
  ⟨27, [7], fun l => pv 1 (sl (l.getD 0 0) 1), fun _ => []⟩,
  ⟨28, [9, 3, 5, 7], fun l => sl (l.getD 0 0) 3, fun l => [prS (some ⟨l.getD 0 0, 0, none⟩) 3 (loA (l.getD 1 0) (l.getD 2 0) (l.getD 3 0)) gLo.Prods]⟩,
  ⟨29, [0, 1, 2, 9], fun l => .agg #[sl (l.getD 0 0) 2, sl (l.getD 1 0) 2, .slice none 0 0, sl (l.getD 2 0) 2, sl (l.getD 3 0) 3], fun _ => []⟩,
  ⟨1, [11], fun l => .pointer (some ⟨l.getD 0 0, 0, none⟩), fun l => [blk (l.getD 0 0) 27 [.slice none 0 0, .slice none 0 0, .slice none 0 0, .slice none 0 0, .slice none 0 0]]⟩]
def twA (b3 b5 b7 : Nat) : List (Option Addr × Nat) := [(some ⟨b3, 0, none⟩, 1), (some ⟨b5, 0, none⟩, 2), (some ⟨b7, 0, none⟩, 1), (none, 0)]
def twM : List Mk := [
  ⟨30, [0], fun l => sl (l.getD 0 0) 2, fun l => [strs (l.getD 0 0) gTw.Terms]⟩,
  ⟨31, [1], fun l => sl (l.getD 0 0) 2, fun l => [levZ (l.getD 0 0) gTw.Levels]⟩,
  ⟨32, [2], fun l => sl (l.getD 0 0) 3, fun l => [strs (l.getD 0 0) gTw.Nons]⟩,
  ⟨33, [3], fun l => sl (l.getD 0 0) 1, fun l => [ints (l.getD 0 0) [3]]⟩,
  ⟨34, [3], fun l => pv 0 (sl (l.getD 0 0) 1), fun _ => []⟩,
  ⟨35, [5], fun l => sl (l.getD 0 0) 2, fun l => [ints (l.getD 0 0) [4, 4]]⟩,
  ⟨36, [5], fun l => pv 1 (sl (l.getD 0 0) 2), fun _ => []⟩,
  ⟨37, [7], fun l => sl (l.getD 0 0) 1, fun l => [ints (l.getD 0 0) [1]]⟩,
  ⟨38, [7], fun l => pv 2 (sl (l.getD 0 0) 1), fun _ => []⟩,
  ⟨39, [], fun l => pv 2 (.slice none 0 0), fun _ => []⟩,
  ⟨40, [10, 3, 5, 7], fun l => sl (l.getD 0 0) 4, fun l => [prS (some ⟨l.getD 0 0, 0, none⟩) 4 (twA (l.getD 1 0) (l.getD 2 0) (l.getD 3 0)) gTw.Prods]⟩,
  ⟨41, [0, 1, 2, 10], fun l => .agg #[sl (l.getD 0 0) 2, sl (l.getD 1 0) 2, .slice none 0 0, sl (l.getD 2 0) 3, sl (l.getD 3 0) 4], fun _ => []⟩,
  ⟨2, [12], fun l => .pointer (some ⟨l.getD 0 0, 0, none⟩), fun l => [blk (l.getD 0 0) 27 [.slice none 0 0, .slice none 0 0, .slice none 0 0, .slice none 0 0, .slice none 0 0]]⟩]
def neA (b3 b5 : Nat) : List (Option Addr × Nat) := [(some ⟨b3, 0, none⟩, 1), (some ⟨b5, 0, none⟩, 3), (none, 0)]
def neM : List Mk := [
  ⟨42, [0], fun l => sl (l.getD 0 0) 3, fun l => [strs (l.getD 0 0) gNe.Terms]⟩,
  ⟨43, [1], fun l => sl (l.getD 0 0) 3, fun l => [levZ (l.getD 0 0) gNe.Levels]⟩,
  ⟨44, [2], fun l => sl (l.getD 0 0) 2, fun l => [strs (l.getD 0 0) gNe.Nons]⟩,
  ⟨45, [3], fun l => sl (l.getD 0 0) 1, fun l => [ints (l.getD 0 0) [4]]⟩,
  ⟨46, [3], fun l => pv 0 (sl (l.getD 0 0) 1), fun _ => []⟩,
  ⟨47, [5], fun l => sl (l.getD 0 0) 3, fun l => [ints (l.getD 0 0) [1, 4, 2]]⟩,
  ⟨48, [5], fun l => pv 1 (sl (l.getD 0 0) 3), fun _ => []⟩,
  ⟨49, [], fun l => pv 1 (.slice none 0 0), fun _ => []⟩,
  ⟨50, [8, 3, 5], fun l => sl (l.getD 0 0) 3, fun l => [prS (some ⟨l.getD 0 0, 0, none⟩) 3 (neA (l.getD 1 0) (l.getD 2 0)) gNe.Prods]⟩,
  ⟨51, [0, 1, 2, 8], fun l => .agg #[sl (l.getD 0 0) 3, sl (l.getD 1 0) 3, .slice none 0 0, sl (l.getD 2 0) 2, sl (l.getD 3 0) 3], fun _ => []⟩,
  ⟨3, [10], fun l => .pointer (some ⟨l.getD 0 0, 0, none⟩), fun l => [blk (l.getD 0 0) 27 [.slice none 0 0, .slice none 0 0, .slice none 0 0, .slice none 0 0, .slice none 0 0]]⟩]

theorem ne_v112 : ∃ x, Ein gNe [1, 1, 2] 3 x := by
  have h1 : Ein gNe [1, 1, 2] 0 ⟨1, 0, 0⟩ := .pred (s := 4) .start (by decide) (by decide) (by decide) (by decide)
  have h2 : Ein gNe [1, 1, 2] 1 ⟨1, 1, 0⟩ := .scan (s := 1) h1 (by decide) (by decide) (by decide)
  have h3 : Ein gNe [1, 1, 2] 1 ⟨1, 0, 1⟩ := .pred (s := 4) h2 (by decide) (by decide) (by decide) (by decide)
  have h4 : Ein gNe [1, 1, 2] 2 ⟨1, 1, 1⟩ := .scan (s := 1) h3 (by decide) (by decide) (by decide)
  have h5 : Ein gNe [1, 1, 2] 2 ⟨2, 0, 2⟩ := .pred (s := 4) h4 (by decide) (by decide) (by decide) (by decide)
  have h6 : Ein gNe [1, 1, 2] 2 ⟨1, 2, 1⟩ := .comp (s := 4) h5 (by decide) h4 (by decide) (by decide) (by decide)
  exact ⟨_, .scan (s := 2) h6 (by decide) (by decide) (by decide)⟩
def lonN (n : Nat) : List Int := (List.range n).map fun i => 1 + ((i / 30 : Nat) : Int)
theorem lon_at {n i : Nat} (h : i < n) : (lonN n)[i]? = some (1 + ((i / 30 : Nat) : Int)) := by
  unfold lonN; rw [List.getElem?_map, List.getElem?_range h]; rfl
theorem lon_len (n : Nat) : (lonN n).length = n := by unfold lonN; simp
theorem nest_dr : ∀ m, m ≤ 30 → Dr gNe (lonN 60) [4] (30 - m) (30 + m)
  | 0, _ => .non (q := 2) (by decide) (by decide) (by decide) .nil .nil
  | m + 1, hm => by
    have ih := nest_dr m (by omega)
    refine .non (q := 1) (m := 30 + (m + 1)) (by decide) (by decide) (by decide) ?_ .nil
    show Dr gNe (lonN 60) [1, 4, 2] _ _
    refine .term (by decide) (by rw [lon_at (by omega)]; have : (30 - (m + 1)) / 30 = 0 := by omega
                                 rw [this]; rfl) ?_
    rw [show 30 - (m + 1) + 1 = 30 - m by omega]
    refine Dr.app (l1 := [4]) (l2 := [2]) ih ?_
    rw [show 30 + (m + 1) = (30 + m) + 1 by omega]
    exact .term (by decide) (by rw [lon_at (by omega)]; have : (30 + m) / 30 = 1 := by omega
                                rw [this]; rfl) .nil
theorem nest_ein : Ein gNe (lonN 60) (lonN 60).length ⟨0, 1, 0⟩ := by
  rw [lon_len, derives_iff (gSm gNe_chk).n0 (by decide)]
  exact nest_dr 30 (Nat.le_refl _)
theorem lon_chk60 : chkE gNe (lonN 60) = 0 := by decide +kernel
theorem lon_chk61 : chkE gNe (lonN 61) = 5 := by decide +kernel
def gNil : Gram := ⟨[], [], [], [], []⟩
theorem nil_chk (w : List Int) : chkE gNil w = 2 := by
  have h : checkE gNil = 2 := by decide +kernel
  unfold chkE; rw [if_pos (by rw [h]; decide), h]
theorem can_nilG {E0 : Go.Proofs.Ytjeimmekhfhepaa.E.Env} {U : List Asn} : Go.Proofs.Ytjeimmekhfhepaa.E.Can E0 U (kGram.rd [.slice none 0 0, .slice none 0 0, .slice none 0 0, .slice none 0 0, .slice none 0 0] gNil) :=
  Can.of fun w S hs => kGram_mk (g := gNil) (A0 := none) (A1 := none) (A2 := none) (A3 := none) (A4 := none) (c0 := 0) (c1 := 0) (c2 := 0) (c3 := 0) (c4 := 0) ⟨els_nil, els_nil, els_nil, els_nil, els_nil⟩

attribute [local irreducible] EVX EVO EVL EV1 NEV
attribute [local irreducible] own osl exA rdA rdL
attribute [local irreducible] bldA mapA bun mapS nums iterA mapV
set_option maxRecDepth 10000
set_option maxHeartbeats 4000000

theorem known24_w : Trip Try.prog 5 [] Rd.tt [] (fun v V => v = .bool true ∧ V = []) := by
  refine trip Try.tabOk Try.func5 rfl rfl rfl rfl ?_
  rintro w SM hW
  clear hW
  repeat' (first | refine e_nil ?_ | ((refine e_op ?_); (refine o_n (peval_sound rfl) rfl ?_)) | refine s_seq ?_ | refine s_region ?_)
  refine s_mk loM Try.mixed (by kernel_rfl) ?_ rfl ?_
  · intro i hi
    match i, hi with
    | 0, _ => exact mk_step [] rfl rfl rfl (by decide +kernel) (fun B U => o_makeS rfl rfl rfl rfl 2 rfl rfl (by decide) (by decide) rfl rfl (fun b => ⟨b, rfl, Ent.refl _⟩))
    | 1, _ => exact mk_step [] rfl rfl rfl (by decide +kernel) (fun B U => o_makeS rfl rfl rfl rfl 2 rfl rfl (by decide) (by decide) rfl rfl (fun b => ⟨b, rfl, Ent.refl _⟩))
    | 2, _ => exact mk_step [] rfl rfl rfl (by decide +kernel) (fun B U => o_makeS rfl rfl rfl rfl 2 rfl rfl (by decide) (by decide) rfl rfl (fun b => ⟨b, rfl, Ent.refl _⟩))
    | 3, _ => exact mk_step [] rfl rfl rfl (by decide +kernel) (fun B U => o_lit rfl rfl rfl rfl rfl rfl rfl (fun b => ⟨b, rfl, Ent.refl _⟩))
    | 4, _ => exact mk_step [3] rfl rfl rfl (by decide +kernel) (fun B U => o_call (p_w _ _ _ _) rfl .nil Can.tt rfl (by rintro v V ⟨rfl, rfl⟩; exact ⟨0, rfl, Ent.refl _⟩))
    | 5, _ => exact mk_step [] rfl rfl rfl (by decide +kernel) (fun B U => o_lit rfl rfl rfl rfl rfl rfl rfl (fun b => ⟨b, rfl, Ent.refl _⟩))
    | 6, _ => exact mk_step [5] rfl rfl rfl (by decide +kernel) (fun B U => o_call (p_w _ _ _ _) rfl .nil Can.tt rfl (by rintro v V ⟨rfl, rfl⟩; exact ⟨0, rfl, Ent.refl _⟩))
    | 7, _ => exact mk_step [] rfl rfl rfl (by decide +kernel) (fun B U => o_lit rfl rfl rfl rfl rfl rfl rfl (fun b => ⟨b, rfl, Ent.refl _⟩))
    | 8, _ => exact mk_step [7] rfl rfl rfl (by decide +kernel) (fun B U => o_call (p_w _ _ _ _) rfl .nil Can.tt rfl (by rintro v V ⟨rfl, rfl⟩; exact ⟨0, rfl, Ent.refl _⟩))
    | 9, _ => exact mk_step [4, 6, 8] rfl rfl rfl (by decide +kernel) (fun B U => o_lit (ps := [(0, pv 0 (sl (B 3) 1)), (1, pv 1 (sl (B 5) 1)), (2, pv 1 (sl (B 7) 1))]) (cs := prC (loA (B 3) (B 5) (B 7)) gLo.Prods) rfl rfl (by kernel_rfl) rfl rfl (by kernel_rfl) rfl (fun b => ⟨b, rfl, Ent.refl _⟩))
    | 10, _ => exact mk_step [0, 1, 2, 9] rfl rfl rfl (by decide +kernel) (fun B U => o_n (peval_sound rfl) rfl ⟨0, rfl, Ent.refl _⟩)
    | 11, _ => exact mk_step [] rfl rfl rfl (by decide +kernel) (fun B U => o_alloc rfl rfl (fun b => ⟨b, rfl, Ent.refl _⟩))
    | n + 12, h => exact absurd h (by simp [loM])
  · intro B
    refine o_store (b := B 11) (o := 0) (vs := [sl (B 0) 2, sl (B 1) 2, .slice none 0 0, sl (B 2) 2, sl (B 9) 3]) rfl rfl rfl rfl rfl rfl rfl (.s (.s (.s (.s (.s (.s (.s (.z)))))))) ?_
    refine s_weak (fr' := [(1, .pointer (some ⟨B 11, 0, none⟩))]) (V := [blk (B 11) 27 [sl (B 0) 2, sl (B 1) 2, .slice none 0 0, sl (B 2) 2, sl (B 9) 3], strs (B 0) gLo.Terms, levZ (B 1) gLo.Levels, strs (B 2) gLo.Nons, prS (some ⟨B 9, 0, none⟩) 3 (loA (B 3) (B 5) (B 7)) gLo.Prods, prB (loA (B 3) (B 5) (B 7)) gLo.Prods]) ?_ ?_ ?_
    · repeat' (first | exact Sub.nil _ | refine Sub.cons rfl ?_)
    · refine Ent.tak (.s (.s (.s (.s (.s (.s (.s (.z)))))))) (Ent.cons (Ent.cons (Ent.cons ?_)))
      refine Ent.tak (.s (.s (.s (.z)))) ?_
      exact Ent.trans (Ent.cons (Ent.cons (Ent.cons (Ent.refl _)))) (ent_bun (L := [_, _, _]))
    generalize B 0 = b0l, B 1 = b1l, B 2 = b2l, B 9 = bpl, B 11 = bgl
    obtain ⟨pacl, hpacl⟩ : ∃ a, a = (loA (B 3) (B 5) (B 7)) := ⟨_, rfl⟩
    have hlpacl : pacl.length = gLo.Prods.length := by rw [hpacl]; rfl
    rw [← hpacl]
    clear hpacl B
    have hcl : ∀ {E0 : Go.Proofs.Ytjeimmekhfhepaa.E.Env} {U : List Asn}, Go.Proofs.Ytjeimmekhfhepaa.E.Can E0 ([blk (bgl) 27 [sl (b0l) 2, sl (b1l) 2, .slice none 0 0, sl (b2l) 2, sl (bpl) 3], strs (b0l) gLo.Terms, levZ (b1l) gLo.Levels, strs (b2l) gLo.Nons, prS (some ⟨bpl, 0, none⟩) 3 pacl gLo.Prods, prB pacl gLo.Prods] ++ U) (kGram.rd [sl b0l 2, sl b1l 2, .slice none 0 0, sl b2l 2, sl bpl 3] gLo) :=
      can_gramP hlpacl 3 (by decide) rfl rfl (by decide) (by decide) (by decide) gLo_ok (fun x hx => List.eq_of_mem_replicate hx) (Ent.wk (Ent.refl _))
    repeat' (refine s_seq ?_)
    refine s_mk twM Try.mixed (by kernel_rfl) ?_ rfl ?_
    · intro i hi
      match i, hi with
      | 0, _ => exact mk_step [] rfl rfl rfl (by decide +kernel) (fun B U => o_makeS rfl rfl rfl rfl 2 rfl rfl (by decide) (by decide) rfl rfl (fun b => ⟨b, rfl, Ent.refl _⟩))
      | 1, _ => exact mk_step [] rfl rfl rfl (by decide +kernel) (fun B U => o_makeS rfl rfl rfl rfl 2 rfl rfl (by decide) (by decide) rfl rfl (fun b => ⟨b, rfl, Ent.refl _⟩))
      | 2, _ => exact mk_step [] rfl rfl rfl (by decide +kernel) (fun B U => o_makeS rfl rfl rfl rfl 3 rfl rfl (by decide) (by decide) rfl rfl (fun b => ⟨b, rfl, Ent.refl _⟩))
      | 3, _ => exact mk_step [] rfl rfl rfl (by decide +kernel) (fun B U => o_lit rfl rfl rfl rfl rfl rfl rfl (fun b => ⟨b, rfl, Ent.refl _⟩))
      | 4, _ => exact mk_step [3] rfl rfl rfl (by decide +kernel) (fun B U => o_call (p_w _ _ _ _) rfl .nil Can.tt rfl (by rintro v V ⟨rfl, rfl⟩; exact ⟨0, rfl, Ent.refl _⟩))
      | 5, _ => exact mk_step [] rfl rfl rfl (by decide +kernel) (fun B U => o_lit rfl rfl rfl rfl rfl rfl rfl (fun b => ⟨b, rfl, Ent.refl _⟩))
      | 6, _ => exact mk_step [5] rfl rfl rfl (by decide +kernel) (fun B U => o_call (p_w _ _ _ _) rfl .nil Can.tt rfl (by rintro v V ⟨rfl, rfl⟩; exact ⟨0, rfl, Ent.refl _⟩))
      | 7, _ => exact mk_step [] rfl rfl rfl (by decide +kernel) (fun B U => o_lit rfl rfl rfl rfl rfl rfl rfl (fun b => ⟨b, rfl, Ent.refl _⟩))
      | 8, _ => exact mk_step [7] rfl rfl rfl (by decide +kernel) (fun B U => o_call (p_w _ _ _ _) rfl .nil Can.tt rfl (by rintro v V ⟨rfl, rfl⟩; exact ⟨0, rfl, Ent.refl _⟩))
      | 9, _ => exact mk_step [] rfl rfl rfl (by decide +kernel) (fun B U => o_call (p_w _ _ _ _) rfl .nil Can.tt rfl (by rintro v V ⟨rfl, rfl⟩; exact ⟨0, rfl, Ent.refl _⟩))
      | 10, _ => exact mk_step [4, 6, 8, 9] rfl rfl rfl (by decide +kernel) (fun B U => o_lit (ps := [(0, pv 0 (sl (B 3) 1)), (1, pv 1 (sl (B 5) 2)), (2, pv 2 (sl (B 7) 1)), (3, pv 2 (.slice none 0 0))]) (cs := prC (twA (B 3) (B 5) (B 7)) gTw.Prods) rfl rfl (by kernel_rfl) rfl rfl (by kernel_rfl) rfl (fun b => ⟨b, rfl, Ent.refl _⟩))
      | 11, _ => exact mk_step [0, 1, 2, 10] rfl rfl rfl (by decide +kernel) (fun B U => o_n (peval_sound rfl) rfl ⟨0, rfl, Ent.refl _⟩)
      | 12, _ => exact mk_step [] rfl rfl rfl (by decide +kernel) (fun B U => o_alloc rfl rfl (fun b => ⟨b, rfl, Ent.refl _⟩))
      | n + 13, h => exact absurd h (by simp [twM])
    · intro B
      refine o_store (b := B 12) (o := 0) (vs := [sl (B 0) 2, sl (B 1) 2, .slice none 0 0, sl (B 2) 3, sl (B 10) 4]) rfl rfl rfl rfl rfl rfl rfl (.s (.s (.s (.s (.s (.s (.s (.z)))))))) ?_
      refine s_weak (fr' := [(2, .pointer (some ⟨B 12, 0, none⟩)), (1, .pointer (some ⟨bgl, 0, none⟩))]) (V := [blk (B 12) 27 [sl (B 0) 2, sl (B 1) 2, .slice none 0 0, sl (B 2) 3, sl (B 10) 4], strs (B 0) gTw.Terms, levZ (B 1) gTw.Levels, strs (B 2) gTw.Nons, prS (some ⟨B 10, 0, none⟩) 4 (twA (B 3) (B 5) (B 7)) gTw.Prods, prB (twA (B 3) (B 5) (B 7)) gTw.Prods] ++ [blk (bgl) 27 [sl (b0l) 2, sl (b1l) 2, .slice none 0 0, sl (b2l) 2, sl (bpl) 3], strs (b0l) gLo.Terms, levZ (b1l) gLo.Levels, strs (b2l) gLo.Nons, prS (some ⟨bpl, 0, none⟩) 3 pacl gLo.Prods, prB pacl gLo.Prods]) ?_ ?_ ?_
      · repeat' (first | exact Sub.nil _ | refine Sub.cons rfl ?_)
      · refine Ent.tak (.s (.s (.s (.s (.s (.s (.s (.z)))))))) (Ent.cons (Ent.cons (Ent.cons ?_)))
        refine Ent.tak (.s (.s (.s (.z)))) ?_
        exact Ent.trans (Ent.cons (Ent.cons (Ent.cons (Ent.osl0 (Ent.refl _))))) (ent_bun (L := [_, _, _, _]))
      generalize B 0 = b0t, B 1 = b1t, B 2 = b2t, B 10 = bpt, B 12 = bgt
      obtain ⟨pact, hpact⟩ : ∃ a, a = (twA (B 3) (B 5) (B 7)) := ⟨_, rfl⟩
      have hlpact : pact.length = gTw.Prods.length := by rw [hpact]; rfl
      rw [← hpact]
      clear hpact B
      have hct : ∀ {E0 : Go.Proofs.Ytjeimmekhfhepaa.E.Env} {U : List Asn}, Go.Proofs.Ytjeimmekhfhepaa.E.Can E0 ([blk (bgt) 27 [sl (b0t) 2, sl (b1t) 2, .slice none 0 0, sl (b2t) 3, sl (bpt) 4], strs (b0t) gTw.Terms, levZ (b1t) gTw.Levels, strs (b2t) gTw.Nons, prS (some ⟨bpt, 0, none⟩) 4 pact gTw.Prods, prB pact gTw.Prods] ++ U) (kGram.rd [sl b0t 2, sl b1t 2, .slice none 0 0, sl b2t 3, sl bpt 4] gTw) :=
        can_gramP hlpact 4 (by decide) rfl rfl (by decide) (by decide) (by decide) gTw_ok (fun x hx => List.eq_of_mem_replicate hx) (Ent.wk (Ent.refl _))
      repeat' (refine s_seq ?_)
      refine s_mk neM Try.mixed (by kernel_rfl) ?_ rfl ?_
      · intro i hi
        match i, hi with
        | 0, _ => exact mk_step [] rfl rfl rfl (by decide +kernel) (fun B U => o_makeS rfl rfl rfl rfl 3 rfl rfl (by decide) (by decide) rfl rfl (fun b => ⟨b, rfl, Ent.refl _⟩))
        | 1, _ => exact mk_step [] rfl rfl rfl (by decide +kernel) (fun B U => o_makeS rfl rfl rfl rfl 3 rfl rfl (by decide) (by decide) rfl rfl (fun b => ⟨b, rfl, Ent.refl _⟩))
        | 2, _ => exact mk_step [] rfl rfl rfl (by decide +kernel) (fun B U => o_makeS rfl rfl rfl rfl 2 rfl rfl (by decide) (by decide) rfl rfl (fun b => ⟨b, rfl, Ent.refl _⟩))
        | 3, _ => exact mk_step [] rfl rfl rfl (by decide +kernel) (fun B U => o_lit rfl rfl rfl rfl rfl rfl rfl (fun b => ⟨b, rfl, Ent.refl _⟩))
        | 4, _ => exact mk_step [3] rfl rfl rfl (by decide +kernel) (fun B U => o_call (p_w _ _ _ _) rfl .nil Can.tt rfl (by rintro v V ⟨rfl, rfl⟩; exact ⟨0, rfl, Ent.refl _⟩))
        | 5, _ => exact mk_step [] rfl rfl rfl (by decide +kernel) (fun B U => o_lit rfl rfl rfl rfl rfl rfl rfl (fun b => ⟨b, rfl, Ent.refl _⟩))
        | 6, _ => exact mk_step [5] rfl rfl rfl (by decide +kernel) (fun B U => o_call (p_w _ _ _ _) rfl .nil Can.tt rfl (by rintro v V ⟨rfl, rfl⟩; exact ⟨0, rfl, Ent.refl _⟩))
        | 7, _ => exact mk_step [] rfl rfl rfl (by decide +kernel) (fun B U => o_call (p_w _ _ _ _) rfl .nil Can.tt rfl (by rintro v V ⟨rfl, rfl⟩; exact ⟨0, rfl, Ent.refl _⟩))
        | 8, _ => exact mk_step [4, 6, 7] rfl rfl rfl (by decide +kernel) (fun B U => o_lit (ps := [(0, pv 0 (sl (B 3) 1)), (1, pv 1 (sl (B 5) 3)), (2, pv 1 (.slice none 0 0))]) (cs := prC (neA (B 3) (B 5)) gNe.Prods) rfl rfl (by kernel_rfl) rfl rfl (by kernel_rfl) rfl (fun b => ⟨b, rfl, Ent.refl _⟩))
        | 9, _ => exact mk_step [0, 1, 2, 8] rfl rfl rfl (by decide +kernel) (fun B U => o_n (peval_sound rfl) rfl ⟨0, rfl, Ent.refl _⟩)
        | 10, _ => exact mk_step [] rfl rfl rfl (by decide +kernel) (fun B U => o_alloc rfl rfl (fun b => ⟨b, rfl, Ent.refl _⟩))
        | n + 11, h => exact absurd h (by simp [neM])
      · intro B
        refine o_store (b := B 10) (o := 0) (vs := [sl (B 0) 3, sl (B 1) 3, .slice none 0 0, sl (B 2) 2, sl (B 8) 3]) rfl rfl rfl rfl rfl rfl rfl (.s (.s (.s (.s (.s (.s (.z))))))) ?_
        refine s_weak (fr' := [(3, .pointer (some ⟨B 10, 0, none⟩)), (2, .pointer (some ⟨bgt, 0, none⟩)), (1, .pointer (some ⟨bgl, 0, none⟩))]) (V := [blk (B 10) 27 [sl (B 0) 3, sl (B 1) 3, .slice none 0 0, sl (B 2) 2, sl (B 8) 3], strs (B 0) gNe.Terms, levZ (B 1) gNe.Levels, strs (B 2) gNe.Nons, prS (some ⟨B 8, 0, none⟩) 3 (neA (B 3) (B 5)) gNe.Prods, prB (neA (B 3) (B 5)) gNe.Prods] ++ ([blk (bgt) 27 [sl (b0t) 2, sl (b1t) 2, .slice none 0 0, sl (b2t) 3, sl (bpt) 4], strs (b0t) gTw.Terms, levZ (b1t) gTw.Levels, strs (b2t) gTw.Nons, prS (some ⟨bpt, 0, none⟩) 4 pact gTw.Prods, prB pact gTw.Prods] ++ [blk (bgl) 27 [sl (b0l) 2, sl (b1l) 2, .slice none 0 0, sl (b2l) 2, sl (bpl) 3], strs (b0l) gLo.Terms, levZ (b1l) gLo.Levels, strs (b2l) gLo.Nons, prS (some ⟨bpl, 0, none⟩) 3 pacl gLo.Prods, prB pacl gLo.Prods])) ?_ ?_ ?_
        · repeat' (first | exact Sub.nil _ | refine Sub.cons rfl ?_)
        · refine Ent.tak (.s (.s (.s (.s (.s (.s (.z))))))) (Ent.cons (Ent.cons (Ent.cons ?_)))
          refine Ent.tak (.s (.s (.z))) ?_
          exact Ent.trans (Ent.cons (Ent.cons (Ent.osl0 (Ent.refl _)))) (ent_bun (L := [_, _, _]))
        generalize B 0 = b0n, B 1 = b1n, B 2 = b2n, B 8 = bpn, B 10 = bgn
        obtain ⟨pacn, hpacn⟩ : ∃ a, a = (neA (B 3) (B 5)) := ⟨_, rfl⟩
        have hlpacn : pacn.length = gNe.Prods.length := by rw [hpacn]; rfl
        rw [← hpacn]
        clear hpacn B
        have hcn : ∀ {E0 : Go.Proofs.Ytjeimmekhfhepaa.E.Env} {U : List Asn}, Go.Proofs.Ytjeimmekhfhepaa.E.Can E0 ([blk (bgn) 27 [sl (b0n) 3, sl (b1n) 3, .slice none 0 0, sl (b2n) 2, sl (bpn) 3], strs (b0n) gNe.Terms, levZ (b1n) gNe.Levels, strs (b2n) gNe.Nons, prS (some ⟨bpn, 0, none⟩) 3 pacn gNe.Prods, prB pacn gNe.Prods] ++ U) (kGram.rd [sl b0n 3, sl b1n 3, .slice none 0 0, sl b2n 2, sl bpn 3] gNe) :=
          can_gramP hlpacn 3 (by decide) rfl rfl (by decide) (by decide) (by decide) gNe_ok (fun x hx => List.eq_of_mem_replicate hx) (Ent.wk (Ent.refl _))
        simp only [List.cons_append, List.nil_append]
        unfold sl
        repeat' (first | ((refine e_op ?_); (refine o_n (nl rfl rfl tc rfl) rfl ?_)) | refine s_seq ?_ | refine s_region ?_)
        refine e_op (o_lit (ps := [(0, .int .i64 1)]) (cs := ([1] : List Int).map (Value.int .i64)) rfl rfl rfl rfl rfl rfl rfl (fun bl => ?_))
        refine e_op (o_call (tells_w _ gLo (some ⟨bl, 0, none⟩) 1 [1] _ _ 2 (by decide +kernel) (fun W hW => gLo_w1 hW) (by decide) (hv_yes (by decide))) rfl .nil (Can.and (Can.byEnt hcl (Ent.wk (Ent.wk (Ent.wk (Ent.wk (Ent.wk (Ent.wk (Ent.wk (Ent.wk (Ent.wk (Ent.wk (Ent.wk (Ent.wk (Ent.wk (Ent.refl _))))))))))))))) (can_ilit [1] (by decide) (by decide))) rfl ?_)
        rintro v V ⟨rfl, rfl⟩
        simp only [List.nil_append]
        repeat' (((first | refine e_op ?_ | refine e_yes rfl ?_); (first | refine o_n (peval_sound rfl) rfl ?_ | refine o_n (nl rfl rfl tc rfl) rfl ?_)))
        refine e_ent (Ent.wk (Ent.refl _)) ?_
        refine e_yes rfl (o_call (tells_w _ gLo none 0 [] _ _ 0 (by decide +kernel) (fun W hW => gLo_we hW) (by decide) (hv_via ⟨_, .start⟩)) rfl .nil (Can.and (Can.byEnt hcl (Ent.wk (Ent.wk (Ent.wk (Ent.wk (Ent.wk (Ent.wk (Ent.wk (Ent.wk (Ent.wk (Ent.wk (Ent.wk (Ent.wk (Ent.refl _)))))))))))))) can_inil) rfl ?_)
        rintro v V ⟨rfl, rfl⟩
        simp only [List.nil_append]
        repeat' (((first | refine e_op ?_ | refine e_yes rfl ?_); (first | refine o_n (peval_sound rfl) rfl ?_ | refine o_n (nl rfl rfl tc rfl) rfl ?_)))
        refine e_yes rfl (o_call (tells_w _ gTw none 0 [] _ _ 1 (by decide +kernel) (fun W hW => gTw_we hW) (by decide) (hv_yes (by decide))) rfl .nil (Can.and (Can.byEnt hct (Ent.wk (Ent.wk (Ent.wk (Ent.wk (Ent.wk (Ent.wk (Ent.refl _)))))))) can_inil) rfl ?_)
        rintro v V ⟨rfl, rfl⟩
        simp only [List.nil_append]
        repeat' (((first | refine e_op ?_ | refine e_yes rfl ?_); (first | refine o_n (peval_sound rfl) rfl ?_ | refine o_n (nl rfl rfl tc rfl) rfl ?_)))
        refine e_yes rfl (o_lit (ps := [(0, .int .i64 1)]) (cs := ([1] : List Int).map (Value.int .i64)) rfl rfl rfl rfl rfl rfl rfl (fun bl => ?_))
        refine e_yes rfl (o_call (tells_w _ gTw (some ⟨bl, 0, none⟩) 1 [1] _ _ 2 (by decide +kernel) (fun W hW => gTw_w1 hW) (by decide) (hv_yes (by decide))) rfl .nil (Can.and (Can.byEnt hct (Ent.wk (Ent.wk (Ent.wk (Ent.wk (Ent.wk (Ent.wk (Ent.wk (Ent.refl _))))))))) (can_ilit [1] (by decide) (by decide))) rfl ?_)
        rintro v V ⟨rfl, rfl⟩
        simp only [List.nil_append]
        repeat' (((first | refine e_op ?_ | refine e_yes rfl ?_); (first | refine o_n (peval_sound rfl) rfl ?_ | refine o_n (nl rfl rfl tc rfl) rfl ?_)))
        refine e_ent (Ent.wk (Ent.refl _)) ?_
        refine e_yes rfl (o_lit (ps := [(0, .int .i64 1), (1, .int .i64 1)]) (cs := ([1, 1] : List Int).map (Value.int .i64)) rfl rfl rfl rfl rfl rfl rfl (fun bl => ?_))
        refine e_yes rfl (o_call (tells_w _ gTw (some ⟨bl, 0, none⟩) 2 [1, 1] _ _ 1 (by decide +kernel) (fun W hW => gTw_w11 hW) (by decide) (hv_yes (by decide))) rfl .nil (Can.and (Can.byEnt hct (Ent.wk (Ent.wk (Ent.wk (Ent.wk (Ent.wk (Ent.wk (Ent.wk (Ent.refl _))))))))) (can_ilit [1, 1] (by decide) (by decide))) rfl ?_)
        rintro v V ⟨rfl, rfl⟩
        simp only [List.nil_append]
        repeat' (((first | refine e_op ?_ | refine e_yes rfl ?_); (first | refine o_n (peval_sound rfl) rfl ?_ | refine o_n (nl rfl rfl tc rfl) rfl ?_)))
        refine e_ent (Ent.wk (Ent.refl _)) ?_
        refine e_yes rfl (o_lit (ps := [(0, .int .i64 1), (1, .int .i64 1), (2, .int .i64 1)]) (cs := ([1, 1, 1] : List Int).map (Value.int .i64)) rfl rfl rfl rfl rfl rfl rfl (fun bl => ?_))
        refine e_yes rfl (o_call (tells_w _ gTw (some ⟨bl, 0, none⟩) 3 [1, 1, 1] _ _ 0 (by decide +kernel) (fun W hW => gTw_w111 hW) (by decide) (hv_no gTw_n111)) rfl .nil (Can.and (Can.byEnt hct (Ent.wk (Ent.wk (Ent.wk (Ent.wk (Ent.wk (Ent.wk (Ent.wk (Ent.refl _))))))))) (can_ilit [1, 1, 1] (by decide) (by decide))) rfl ?_)
        rintro v V ⟨rfl, rfl⟩
        simp only [List.nil_append]
        repeat' (((first | refine e_op ?_ | refine e_yes rfl ?_); (first | refine o_n (peval_sound rfl) rfl ?_ | refine o_n (nl rfl rfl tc rfl) rfl ?_)))
        refine e_ent (Ent.wk (Ent.refl _)) ?_
        refine e_yes rfl (o_lit (ps := [(0, .int .i64 1), (1, .int .i64 1), (2, .int .i64 2), (3, .int .i64 2)]) (cs := ([1, 1, 2, 2] : List Int).map (Value.int .i64)) rfl rfl rfl rfl rfl rfl rfl (fun bl => ?_))
        refine e_yes rfl (o_call (tells_w _ gNe (some ⟨bl, 0, none⟩) 4 [1, 1, 2, 2] _ _ 1 (by decide +kernel) (fun W hW => gNe_w1122 hW) (by decide) (hv_yes (by decide))) rfl .nil (Can.and (Can.byEnt hcn (Ent.wk (Ent.refl _))) (can_ilit [1, 1, 2, 2] (by decide) (by decide))) rfl ?_)
        rintro v V ⟨rfl, rfl⟩
        simp only [List.nil_append]
        repeat' (((first | refine e_op ?_ | refine e_yes rfl ?_); (first | refine o_n (peval_sound rfl) rfl ?_ | refine o_n (nl rfl rfl tc rfl) rfl ?_)))
        refine e_ent (Ent.wk (Ent.refl _)) ?_
        refine e_yes rfl (o_lit (ps := [(0, .int .i64 1), (1, .int .i64 1), (2, .int .i64 2)]) (cs := ([1, 1, 2] : List Int).map (Value.int .i64)) rfl rfl rfl rfl rfl rfl rfl (fun bl => ?_))
        refine e_yes rfl (o_call (tells_w _ gNe (some ⟨bl, 0, none⟩) 3 [1, 1, 2] _ _ 0 (by decide +kernel) (fun W hW => gNe_w112 hW) (by decide) (hv_via ne_v112)) rfl .nil (Can.and (Can.byEnt hcn (Ent.wk (Ent.refl _))) (can_ilit [1, 1, 2] (by decide) (by decide))) rfl ?_)
        rintro v V ⟨rfl, rfl⟩
        simp only [List.nil_append]
        repeat' (((first | refine e_op ?_ | refine e_yes rfl ?_); (first | refine o_n (peval_sound rfl) rfl ?_ | refine o_n (nl rfl rfl tc rfl) rfl ?_)))
        refine e_ent (Ent.wk (Ent.refl _)) ?_
        refine e_yes rfl (o_lit (ps := [(0, .int .i64 1), (1, .int .i64 2), (2, .int .i64 2)]) (cs := ([1, 2, 2] : List Int).map (Value.int .i64)) rfl rfl rfl rfl rfl rfl rfl (fun bl => ?_))
        refine e_yes rfl (o_call (tells_w _ gNe (some ⟨bl, 0, none⟩) 3 [1, 2, 2] _ _ 0 (by decide +kernel) (fun W hW => gNe_w122 hW) (by decide) (hv_no gNe_n122)) rfl .nil (Can.and (Can.byEnt hcn (Ent.wk (Ent.refl _))) (can_ilit [1, 2, 2] (by decide) (by decide))) rfl ?_)
        rintro v V ⟨rfl, rfl⟩
        simp only [List.nil_append]
        repeat' (((first | refine e_op ?_ | refine e_yes rfl ?_); (first | refine o_n (peval_sound rfl) rfl ?_ | refine o_n (nl rfl rfl tc rfl) rfl ?_)))
        refine e_ent (Ent.wk (Ent.refl _)) ?_
        refine e_yes rfl (o_lit (ps := [(0, .int .i64 2)]) (cs := ([2] : List Int).map (Value.int .i64)) rfl rfl rfl rfl rfl rfl rfl (fun bl => ?_))
        refine e_yes rfl (o_call (tells_w _ gNe (some ⟨bl, 0, none⟩) 1 [2] _ _ 0 (by decide +kernel) (fun W hW => gNe_w2 hW) (by decide) (hv_no gNe_n2)) rfl .nil (Can.and (Can.byEnt hcn (Ent.wk (Ent.refl _))) (can_ilit [2] (by decide) (by decide))) rfl ?_)
        rintro v V ⟨rfl, rfl⟩
        simp only [List.nil_append]
        repeat' (first | refine e_nil ?_ | ((refine e_op ?_); (refine o_n (peval_sound rfl) rfl ?_)) | refine s_seq ?_ | refine s_region ?_)
        skip
        refine e_op (o_make rfl rfl rfl rfl 61 rfl rfl (by omega) (by omega) rfl (fun bl => ?_))
        rw [show (List.replicate 61 (Value.int .i64 0)) = nums 60 (fun j => if j < 0 then 1 + j / 30 else 0) from nums_zero 60]
        repeat' (first | refine e_nil ?_ | ((refine e_op ?_); (refine o_n (peval_sound rfl) rfl ?_)) | refine s_seq ?_ | refine s_region ?_ | refine s_block ?_)
        refine s_weak (fr' := [(6, .int .i64 0), (5, .slice (some ⟨bl, 0, none⟩) 61 61), (4, .bool true), (3, .pointer (some ⟨bgn, 0, none⟩))]) (V := osl 3 1 (.slice (some ⟨bl, 0, none⟩) 61 61) 61 (nums 60 (fun j => if j < 0 then 1 + j / 30 else 0)) :: [blk (bgn) 27 [sl (b0n) 3, sl (b1n) 3, .slice none 0 0, sl (b2n) 2, sl (bpn) 3], strs (b0n) gNe.Terms, levZ (b1n) gNe.Levels, strs (b2n) gNe.Nons, prS (some ⟨bpn, 0, none⟩) 3 pacn gNe.Prods, prB pacn gNe.Prods]) ?_ ?_ ?_
        · repeat' (first | exact Sub.nil _ | refine Sub.cons rfl ?_)
        · exact Ent.cons (Ent.wk (Ent.cons (Ent.cons (Ent.cons (Ent.cons (Ent.cons (Ent.cons (Ent.nil _))))))))
        refine s_loopK (ι := {i : Nat // i ≤ 61}) [5, 4, 3] rfl ⟨0, by decide⟩ (fun i => [(6, .int .i64 i.1)]) (fun i => osl 3 1 (.slice (some ⟨bl, 0, none⟩) 61 61) 61 (nums 60 (fun j => if j < i.1 then 1 + j / 30 else 0)) :: [blk (bgn) 27 [sl (b0n) 3, sl (b1n) 3, .slice none 0 0, sl (b2n) 2, sl (bpn) 3], strs (b0n) gNe.Terms, levZ (b1n) gNe.Levels, strs (b2n) gNe.Nons, prS (some ⟨bpn, 0, none⟩) 3 pacn gNe.Prods, prB pacn gNe.Prods]) (fun i => 61 - i.1) ?_ (Ent.refl _) ?_
        · repeat' (first | exact Sub.nil _ | refine Sub.cons rfl ?_)
        rintro ⟨i, hi⟩
        simp only at hi ⊢
        unfold sl
        repeat' (first | refine e_nil ?_ | ((refine e_op ?_); (refine o_n (peval_sound rfl) rfl ?_)) | refine s_seq ?_ | refine s_region ?_)
        by_cases hil : i < 61
        · rw [decide_eq_true (by omega : (i : Int) < ((61 : Nat) : Int))]
          have hq : IntKind.i64.wrap ((i : Int).tdiv 30) = ((i / 30 : Nat) : Int) := by
            have : (i : Int).tdiv 30 = ((i / 30 : Nat) : Int) := rfl
            rw [this, wrap_i64] <;> omega
          have hq2 : IntKind.i64.wrap (1 + ((i / 30 : Nat) : Int)) = ((1 + i / 30 : Nat) : Int) := by rw [wrap_i64] <;> omega
          have hw1 : IntKind.i64.wrap ((i : Int) + 1) = ((i + 1 : Nat) : Int) := by rw [wrap_i64] <;> omega
          repeat' (first | ((refine e_op ?_); (refine o_n (peval_sound rfl) rfl ?_)) | refine s_seq ?_ | refine s_region ?_ | refine s_block ?_ | refine s_skip ?_ | refine s_true rfl ?_)
          refine e_op (o_n (n_quo rfl rfl (by decide)) rfl ?_)
          rw [hq]
          repeat' (((refine e_op ?_); (refine o_n (peval_sound rfl) rfl ?_)))
          rw [hq2]
          refine e_op (o_n (n_index rfl rfl rfl rfl i rfl hil) rfl ?_)
          refine e_op (o_storeO (vs := [.int .i64 (1 + i / 30 : Nat)]) rfl rfl rfl rfl to uc rfl rfl (by rw [nums_len]; show 0 + i * 1 + 1 ≤ _; omega) ?_)
          have hset : setMany (nums 60 fun j => if j < i then 1 + j / 30 else 0) (0 + i * 1) [.int .i64 (1 + i / 30 : Nat)] = nums 60 fun j => if j < i + 1 then 1 + j / 30 else 0 := by
            rw [show 0 + i * 1 = i by omega]
            show List.set _ i _ = _
            rw [nums_set (by omega)]
            refine nums_ext fun j _ => ?_
            by_cases e : j = i
            · subst e; rw [if_pos rfl, if_pos (by omega)]
            · rw [if_neg e]; split <;> split <;> omega
          repeat' (first | refine e_nil ?_ | ((refine e_op ?_); (refine o_n (peval_sound rfl) rfl ?_)) | refine s_region ?_ | refine s_end ?_)
          rw [hw1]
          refine s_back ⟨⟨i + 1, by omega⟩, by simp only; omega, ?_, ?_⟩
          · repeat' (first | exact Sub.nil _ | refine Sub.cons rfl ?_)
          · rw [← hset]; exact Ent.refl _
        · rw [decide_eq_false (by omega : ¬ (i : Int) < ((61 : Nat) : Int))]
          obtain rfl : i = 61 := by omega
          repeat' (first | ((refine e_op ?_); (first | refine o_n (peval_sound rfl) rfl ?_ | refine o_n (nl rfl rfl tc rfl) rfl ?_)) | refine s_seq ?_ | refine s_region ?_ | refine s_exit ?_ | refine s_false rfl ?_ | refine x_hit ?_ | refine x_code ?_ | refine x_back ?_)
          have hlon : nums 60 (fun j => if j < 61 then 1 + j / 30 else 0) = (lonN 61).map (Value.int .i64) := by
            unfold nums lonN
            rw [List.map_map]
            refine List.map_congr_left fun j hj => ?_
            have := List.mem_range.1 hj
            show Value.int .i64 ((if j < 61 then 1 + j / 30 else 0 : Nat) : Int) = Value.int .i64 (1 + ((j / 30 : Nat) : Int))
            rw [if_pos (by omega), Int.natCast_add]; rfl
          have hI : ∀ x ∈ lonN 61, I64 x := fun x hx => by
            unfold lonN at hx
            obtain ⟨j, hj, rfl⟩ := List.mem_map.1 hx
            have := List.mem_range.1 hj
            unfold I64; omega
          rw [hlon]
          refine e_ent (ent_can Try.prog fun E0 => can_ints .z hI (by omega)) ?_
          have htake : (lonN 61).take 60 = lonN 60 := by decide +kernel
          have c1 := derives_w [.slice (some ⟨b0n, 0, none⟩) 3 3, .slice (some ⟨b1n, 0, none⟩) 3 3, .slice none 0 0, .slice (some ⟨b2n, 0, none⟩) 2 2, .slice (some ⟨bpn, 0, none⟩) 3 3] gNe (some ⟨bl, 0, none⟩) 61 (lonN 61)
          have c2 := derives_w [.slice (some ⟨b0n, 0, none⟩) 3 3, .slice (some ⟨b1n, 0, none⟩) 3 3, .slice none 0 0, .slice (some ⟨b2n, 0, none⟩) 2 2, .slice (some ⟨bpn, 0, none⟩) 3 3] gNe (some ⟨bl, 0, none⟩) 61 (lonN 60)
          have c3 := derives_w [.slice none 0 0, .slice none 0 0, .slice none 0 0, .slice none 0 0, .slice none 0 0] gNil (some ⟨bl, 0, none⟩) 61 (lonN 61)
          rw [lon_len] at c1 c2 c3
          have hK : ∀ {E0 : Go.Proofs.Ytjeimmekhfhepaa.E.Env} {U : List Asn}, Go.Proofs.Ytjeimmekhfhepaa.E.Can E0 (rdA (kslice 8 kint) [.slice (some ⟨bl, 0, none⟩) 61 61] (lonN 61) :: U) ((kslice 8 kint).rd [.slice (some ⟨bl, 0, none⟩) 61 61] (lonN 61)) := Can.rdA .z
          have hK60 : ∀ {E0 : Go.Proofs.Ytjeimmekhfhepaa.E.Env} {U : List Asn}, Go.Proofs.Ytjeimmekhfhepaa.E.Can E0 (rdA (kslice 8 kint) [.slice (some ⟨bl, 0, none⟩) 61 61] (lonN 61) :: U) ((kslice 8 kint).rd [.slice (some ⟨bl, 0, none⟩) 60 61] (lonN 60)) := by
            intro E0 U
            rw [← htake]
            exact Can.byEnt (Can.rdA .z) (ent_take (by decide))
          refine e_op (o_call c1 rfl .nil (Can.and (Can.byEnt hcn (Ent.wk (Ent.refl _))) hK) rfl ?_)
          rintro v V ⟨d1, rfl, -, rfl⟩
          simp only [List.nil_append]
          rw [lon_chk61]
          repeat' (first | refine e_nil ?_ | ((refine e_op ?_); (refine o_n (peval_sound rfl) rfl ?_)) | refine s_seq ?_)
          refine s_drawU [3] Try.mixed (by decide +kernel) ?_
          repeat' (((first | refine l_n (peval_sound rfl) rfl ?_ rfl ?_ | refine l_n (nl rfl rfl tc rfl) rfl ?_ rfl ?_); · (exact Ent.refl _)))
          refine l_n (n_head 60 rfl rfl rfl rfl (by decide)) rfl (Ent.refl _) rfl ?_
          refine l_e rfl (o_call c2 rfl .nil (Can.and (Can.byEnt hcn (Ent.wk (Ent.refl _))) hK60) rfl ?_)
          rintro v V ⟨d2, rfl, h2, rfl⟩
          simp only [List.nil_append]
          rw [lon_chk60] at h2 ⊢
          have e2 : d2 = true := h2.2 ⟨rfl, nest_ein⟩
          subst e2
          refine ⟨Ent.refl _, ?_⟩
          repeat' (first | refine l_nil ?_ | ((refine l_n (peval_sound rfl) rfl ?_ rfl ?_); · (exact Ent.refl _)))
          repeat' (first | ((refine e_op ?_); (refine o_n (nl rfl rfl tc rfl) rfl ?_)) | refine s_seq ?_ | refine s_region ?_)
          refine e_op (o_lit (ps := [(0, .int .i64 (0))]) (cs := ([0] : List Int).map (Value.int .i64)) rfl rfl rfl rfl rfl rfl rfl (fun bq => ?_))
          refine e_op (o_call (viable_w [.slice (some ⟨b0n, 0, none⟩) 3 3, .slice (some ⟨b1n, 0, none⟩) 3 3, .slice none 0 0, .slice (some ⟨b2n, 0, none⟩) 2 2, .slice (some ⟨bpn, 0, none⟩) 3 3] gNe (some ⟨bq, 0, none⟩) 1 [0]) rfl .nil (Can.and (Can.byEnt hcn (Ent.wk (Ent.wk (Ent.refl _)))) (can_ilit [0] (by decide) (by decide))) rfl ?_)
          rintro v V ⟨d3, rfl, -, rfl⟩
          simp only [List.nil_append]
          rw [show chkE gNe [0] = 2 by decide +kernel]
          refine e_ent (Ent.wk (Ent.refl _)) ?_
          repeat' (first | refine e_nil ?_ | ((refine e_op ?_); (first | refine o_n (peval_sound rfl) rfl ?_ | refine o_n (nl rfl rfl tc rfl) rfl ?_)) | refine s_seq ?_ | refine s_region ?_)
          refine e_op (o_lit (ps := [(0, .int .i64 (3))]) (cs := ([3] : List Int).map (Value.int .i64)) rfl rfl rfl rfl rfl rfl rfl (fun bq => ?_))
          refine e_op (o_call (counts_w [.slice (some ⟨b0n, 0, none⟩) 3 3, .slice (some ⟨b1n, 0, none⟩) 3 3, .slice none 0 0, .slice (some ⟨b2n, 0, none⟩) 2 2, .slice (some ⟨bpn, 0, none⟩) 3 3] gNe (some ⟨bq, 0, none⟩) 1 [3]) rfl .nil (Can.and (Can.byEnt hcn (Ent.wk (Ent.wk (Ent.refl _)))) (can_ilit [3] (by decide) (by decide))) rfl ?_)
          rintro v V ⟨d4, rfl, -, rfl⟩
          simp only [List.nil_append]
          rw [show chkE gNe [3] = 2 by decide +kernel]
          refine e_ent (Ent.wk (Ent.refl _)) ?_
          repeat' (first | refine e_nil ?_ | ((refine e_op ?_); (first | refine o_n (peval_sound rfl) rfl ?_ | refine o_n (nl rfl rfl tc rfl) rfl ?_)) | refine s_seq ?_ | refine s_region ?_)
          refine e_op (o_lit (ps := [(0, .int .i64 (-1))]) (cs := ([-1] : List Int).map (Value.int .i64)) rfl rfl rfl rfl rfl rfl rfl (fun bq => ?_))
          refine e_op (o_call (derives_w [.slice (some ⟨b0n, 0, none⟩) 3 3, .slice (some ⟨b1n, 0, none⟩) 3 3, .slice none 0 0, .slice (some ⟨b2n, 0, none⟩) 2 2, .slice (some ⟨bpn, 0, none⟩) 3 3] gNe (some ⟨bq, 0, none⟩) 1 [-1]) rfl .nil (Can.and (Can.byEnt hcn (Ent.wk (Ent.wk (Ent.refl _)))) (can_ilit [-1] (by decide) (by decide))) rfl ?_)
          rintro v V ⟨d5, rfl, -, rfl⟩
          simp only [List.nil_append]
          rw [show chkE gNe [-1] = 2 by decide +kernel]
          refine e_ent (Ent.wk (Ent.refl _)) ?_
          repeat' (first | refine e_nil ?_ | ((refine e_op ?_); (refine o_n (peval_sound rfl) rfl ?_)) | refine s_seq ?_ | refine s_region ?_)
          refine e_op (o_call c3 rfl .nil (Can.and can_nilG hK) rfl ?_)
          rintro v V ⟨d6, rfl, -, rfl⟩
          simp only [List.nil_append]
          rw [nil_chk]
          repeat' (first | refine e_nil ?_ | ((first | refine e_op ?_ | refine e_yes rfl ?_); (refine o_n (peval_sound rfl) rfl ?_)) | refine s_seq ?_ | refine s_region ?_)
          refine e_yes rfl (o_call works_w rfl .nil Can.tt rfl ?_)
          rintro v V ⟨rfl, rfl⟩
          simp only [List.nil_append]
          repeat' (first | refine e_nil ?_ | ((first | refine e_op ?_ | refine e_yes rfl ?_); (refine o_n (peval_sound rfl) rfl ?_)))
          exact s_ret ⟨_, _, res1 rfl rfl, ⟨rfl, rfl⟩, Ent.nil _⟩

end Go.Proofs.Ytjeimmekhfhepaa
