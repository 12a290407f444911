/-
  The statement ActionKnown, walked.
-/
import Derived.Test.YtcnpjhaedjncdaaDoorCQT1
import Derived.Test.YtcnpjhaedjncdaaDoorAcBase5

namespace Go.Proofs.YtcnpjhaedjncdaaDoor
set_option linter.all false
open Go.Proofs.YtcnpjhaedjncdaaDoor.E

def i64B (x : Int) : Bool := decide (-9223372036854775808 ≤ x) && decide (x ≤ 9223372036854775807)
def grB (g : Gram) : Bool := (g.Prods.all fun p => i64B p.Left && (i64B p.L.N && (i64B p.L.Kind && ((p.Right.all i64B) && decide (p.Right.length ≤ 100000))))) && ((g.Levels.all fun l => i64B l.N && i64B l.Kind) && (g.Pats.isEmpty &&
  (decide (g.Terms.length ≤ 1000000) && (decide (g.Levels.length ≤ 1000000) && (decide (g.Nons.length ≤ 1000000) && decide (g.Prods.length ≤ 1000000))))))
theorem i64_of {x : Int} (h : i64B x = true) : I64 x := by
  unfold i64B at h
  simp only [Bool.and_eq_true, decide_eq_true_eq] at h
  exact h
theorem grN_of {g : Gram} (h : grB g = true) : GrN g := by
  unfold grB at h
  simp only [Bool.and_eq_true, decide_eq_true_eq, List.all_eq_true, List.isEmpty_iff] at h
  obtain ⟨h1, h2, h3, h4, h5, h6, h7⟩ := h
  refine ⟨fun p hp => ?_, fun l hl => ⟨i64_of (h2 l hl).1, i64_of (h2 l hl).2⟩, fun t ht => (by rw [h3] at ht; cases ht), h4, h5, (by rw [h3]; simp), h6, h7⟩
  obtain ⟨a, b, c, d, e⟩ := h1 p hp
  exact ⟨i64_of a, i64_of b, i64_of c, fun s hs => i64_of (d s hs), e⟩
theorem p_bad {g : Gram} {cl : List (Nat × Nat)} (h : lrE g = 0) (hE : actE g = 210) (hc : claA g = cl) : pAct g = [] ∧ pGot g = [] ∧ pCla g = cl ∧ pDec g = 0 := by
  unfold pAct pGot pCla pDec
  rw [hE, if_neg (by decide), if_neg (by decide), if_pos h, if_neg (by decide)]
  exact ⟨rfl, rfl, hc, rfl⟩
theorem p_ok {g : Gram} {d : Nat} (h : lrE g = 0) (hE : actE g = 0) (hc : claA g = []) (hd : decN g = d) : pCla g = [] ∧ pDec g = d := by
  unfold pCla pDec
  rw [hE, if_pos h, if_pos rfl]
  exact ⟨hc, hd⟩
def gTwo0 : Gram := ⟨List.replicate 2 emS, List.replicate 2 zL, [], List.replicate 4 emS, [emP 0 [3], emP 1 [4], emP 1 [5], emP 2 [1], emP 3 [1]]⟩
def gBot0 : Gram := ⟨List.replicate 4 emS, [zL, zL, ⟨1, 1⟩, ⟨2, 2⟩], [], List.replicate 2 emS, [emP 0 [5], emP 1 [5, 2, 5], emP 1 [5, 3, 5], emP 1 [1]]⟩
def gNil : Gram := ⟨[], [], [], [], []⟩
theorem nil_e : actE gNil = 2 := by
  have h : lrE gNil = 2 := by decide +kernel
  unfold actE; rw [if_pos (by rw [h]; decide), h]
theorem can_nilG {E0 : Go.Proofs.YtcnpjhaedjncdaaDoor.E.Env} {U : List Asn} : Go.Proofs.YtcnpjhaedjncdaaDoor.E.Can E0 U (kGram.rd [.slice none 0 0, .slice none 0 0, .slice none 0 0, .slice none 0 0, .slice none 0 0] gNil) :=
  Can.of fun w S hs => kGram_mk (g := gNil) (A0 := none) (A1 := none) (A2 := none) (A3 := none) (A4 := none) (c0 := 0) (c1 := 0) (c2 := 0) (c3 := 0) (c4 := 0) ⟨els_nil, els_nil, els_nil, els_nil, els_nil⟩
def twA (b3 b5 b7 b9 b11 : Nat) : List (Option Addr × Nat) := [(some ⟨b3, 0, none⟩, 1), (some ⟨b5, 0, none⟩, 1), (some ⟨b7, 0, none⟩, 1), (some ⟨b9, 0, none⟩, 1), (some ⟨b11, 0, none⟩, 1)]
def twM : List Mk := [
  ⟨20, [0], fun l => sl (l.getD 0 0) 2, fun l => [strs (l.getD 0 0) gTwo0.Terms]⟩,
  ⟨21, [1], fun l => sl (l.getD 0 0) 2, fun l => [levZ (l.getD 0 0) gTwo0.Levels]⟩,
  ⟨22, [2], fun l => sl (l.getD 0 0) 4, fun l => [strs (l.getD 0 0) gTwo0.Nons]⟩,
  ⟨23, [3], fun l => sl (l.getD 0 0) 1, fun l => [ints (l.getD 0 0) [3]]⟩,
  ⟨24, [3], fun l => pv 0 (sl (l.getD 0 0) 1), fun _ => []⟩,
  ⟨25, [5], fun l => sl (l.getD 0 0) 1, fun l => [ints (l.getD 0 0) [4]]⟩,
  ⟨26, [5], fun l => pv 1 (sl (l.getD 0 0) 1), fun _ => []⟩,
  ⟨27, [7], fun l => sl (l.getD 0 0) 1, fun l => [ints (l.getD 0 0) [5]]⟩,
  ⟨28, [7], fun l => pv 1 (sl (l.getD 0 0) 1), fun _ => []⟩,
  ⟨29, [9], fun l => sl (l.getD 0 0) 1, fun l => [ints (l.getD 0 0) [1]]⟩,
  ⟨30, [9], fun l => pv 2 (sl (l.getD 0 0) 1), fun _ => []⟩,
  ⟨31, [11], fun l => sl (l.getD 0 0) 1, fun l => [ints (l.getD 0 0) [1]]⟩,
  ⟨32, [11], fun l => pv 3 (sl (l.getD 0 0) 1), fun _ => []⟩,
  ⟨33, [13, 3, 5, 7, 9, 11], fun l => sl (l.getD 0 0) 5, fun l => [prS (some ⟨l.getD 0 0, 0, none⟩) 5 (twA (l.getD 1 0) (l.getD 2 0) (l.getD 3 0) (l.getD 4 0) (l.getD 5 0)) gTwo0.Prods]⟩,
  ⟨34, [0, 1, 2, 13], fun l => .agg #[sl (l.getD 0 0) 2, sl (l.getD 1 0) 2, .slice none 0 0, sl (l.getD 2 0) 4, sl (l.getD 3 0) 5], fun _ => []⟩,
  ⟨1, [15], fun l => .pointer (some ⟨l.getD 0 0, 0, none⟩), fun l => [blk (l.getD 0 0) 27 [.slice none 0 0, .slice none 0 0, .slice none 0 0, .slice none 0 0, .slice none 0 0]]⟩]
def smA (b3 b5 b7 : Nat) : List (Option Addr × Nat) := [(some ⟨b3, 0, none⟩, 1), (some ⟨b5, 0, none⟩, 1), (some ⟨b7, 0, none⟩, 1)]
def smM : List Mk := [
  ⟨54, [0], fun l => sl (l.getD 0 0) 2, fun l => [strs (l.getD 0 0) gSam.Terms]⟩,
  ⟨55, [1], fun l => sl (l.getD 0 0) 2, fun l => [levZ (l.getD 0 0) gSam.Levels]⟩,
  ⟨56, [2], fun l => sl (l.getD 0 0) 2, fun l => [strs (l.getD 0 0) gSam.Nons]⟩,
  ⟨57, [3], fun l => sl (l.getD 0 0) 1, fun l => [ints (l.getD 0 0) [3]]⟩,
  ⟨58, [3], fun l => pv 0 (sl (l.getD 0 0) 1), fun _ => []⟩,
  ⟨59, [5], fun l => sl (l.getD 0 0) 1, fun l => [ints (l.getD 0 0) [3]]⟩,
  ⟨60, [5], fun l => pv 1 (sl (l.getD 0 0) 1), fun _ => []⟩,
  ⟨61, [7], fun l => sl (l.getD 0 0) 1, fun l => [ints (l.getD 0 0) [1]]⟩,
  ⟨62, [7], fun l => pv 1 (sl (l.getD 0 0) 1), fun _ => []⟩,
  ⟨63, [9, 3, 5, 7], fun l => sl (l.getD 0 0) 3, fun l => [prS (some ⟨l.getD 0 0, 0, none⟩) 3 (smA (l.getD 1 0) (l.getD 2 0) (l.getD 3 0)) gSam.Prods]⟩,
  ⟨64, [0, 1, 2, 9], fun l => .agg #[sl (l.getD 0 0) 2, sl (l.getD 1 0) 2, .slice none 0 0, sl (l.getD 2 0) 2, sl (l.getD 3 0) 3], fun _ => []⟩,
  ⟨4, [11], fun l => .pointer (some ⟨l.getD 0 0, 0, none⟩), fun l => [blk (l.getD 0 0) 27 [.slice none 0 0, .slice none 0 0, .slice none 0 0, .slice none 0 0, .slice none 0 0]]⟩]
def boA (b7 b9 b11 b13 : Nat) : List (Option Addr × Nat) := [(some ⟨b7, 0, none⟩, 1), (some ⟨b9, 0, none⟩, 3), (some ⟨b11, 0, none⟩, 3), (some ⟨b13, 0, none⟩, 1)]
def boM : List Mk := [
  ⟨70, [0], fun l => sl (l.getD 0 0) 4, fun l => [strs (l.getD 0 0) gBot0.Terms]⟩,
  ⟨71, [], fun _ => .agg #[.int .i64 0, .int .i64 0], fun _ => []⟩,
  ⟨72, [], fun _ => .agg #[.int .i64 0, .int .i64 0], fun _ => []⟩,
  ⟨73, [], fun _ => .agg #[.int .i64 1, .int .i64 1], fun _ => []⟩,
  ⟨74, [], fun _ => .agg #[.int .i64 2, .int .i64 2], fun _ => []⟩,
  ⟨75, [5], fun l => sl (l.getD 0 0) 4, fun l => [levZ (l.getD 0 0) gBot0.Levels]⟩,
  ⟨76, [6], fun l => sl (l.getD 0 0) 2, fun l => [strs (l.getD 0 0) gBot0.Nons]⟩,
  ⟨77, [7], fun l => sl (l.getD 0 0) 1, fun l => [ints (l.getD 0 0) [5]]⟩,
  ⟨78, [7], fun l => pv 0 (sl (l.getD 0 0) 1), fun _ => []⟩,
  ⟨79, [9], fun l => sl (l.getD 0 0) 3, fun l => [ints (l.getD 0 0) [5, 2, 5]]⟩,
  ⟨80, [9], fun l => pv 1 (sl (l.getD 0 0) 3), fun _ => []⟩,
  ⟨81, [11], fun l => sl (l.getD 0 0) 3, fun l => [ints (l.getD 0 0) [5, 3, 5]]⟩,
  ⟨82, [11], fun l => pv 1 (sl (l.getD 0 0) 3), fun _ => []⟩,
  ⟨83, [13], fun l => sl (l.getD 0 0) 1, fun l => [ints (l.getD 0 0) [1]]⟩,
  ⟨84, [13], fun l => pv 1 (sl (l.getD 0 0) 1), fun _ => []⟩,
  ⟨85, [15, 7, 9, 11, 13], fun l => sl (l.getD 0 0) 4, fun l => [prS (some ⟨l.getD 0 0, 0, none⟩) 4 (boA (l.getD 1 0) (l.getD 2 0) (l.getD 3 0) (l.getD 4 0)) gBot0.Prods]⟩,
  ⟨86, [0, 5, 6, 15], fun l => .agg #[sl (l.getD 0 0) 4, sl (l.getD 1 0) 4, .slice none 0 0, sl (l.getD 2 0) 2, sl (l.getD 3 0) 4], fun _ => []⟩,
  ⟨7, [17], fun l => .pointer (some ⟨l.getD 0 0, 0, none⟩), fun l => [blk (l.getD 0 0) 27 [.slice none 0 0, .slice none 0 0, .slice none 0 0, .slice none 0 0, .slice none 0 0]]⟩]
def hgA (b3 b5 b7 b9 : Nat) : List (Option Addr × Nat) := [(some ⟨b3, 0, none⟩, 1), (some ⟨b5, 0, none⟩, 2), (some ⟨b7, 0, none⟩, 4), (some ⟨b9, 0, none⟩, 1)]
def hgM : List Mk := [
  ⟨120, [0], fun l => sl (l.getD 0 0) 4, fun l => [strs (l.getD 0 0) gHang.Terms]⟩,
  ⟨121, [1], fun l => sl (l.getD 0 0) 4, fun l => [levZ (l.getD 0 0) gHang.Levels]⟩,
  ⟨122, [2], fun l => sl (l.getD 0 0) 2, fun l => [strs (l.getD 0 0) gHang.Nons]⟩,
  ⟨123, [3], fun l => sl (l.getD 0 0) 1, fun l => [ints (l.getD 0 0) [5]]⟩,
  ⟨124, [3], fun l => pv 0 (sl (l.getD 0 0) 1), fun _ => []⟩,
  ⟨125, [5], fun l => sl (l.getD 0 0) 2, fun l => [ints (l.getD 0 0) [1, 5]]⟩,
  ⟨126, [5], fun l => pv 1 (sl (l.getD 0 0) 2), fun _ => []⟩,
  ⟨127, [7], fun l => sl (l.getD 0 0) 4, fun l => [ints (l.getD 0 0) [1, 5, 2, 5]]⟩,
  ⟨128, [7], fun l => pv 1 (sl (l.getD 0 0) 4), fun _ => []⟩,
  ⟨129, [9], fun l => sl (l.getD 0 0) 1, fun l => [ints (l.getD 0 0) [3]]⟩,
  ⟨130, [9], fun l => pv 1 (sl (l.getD 0 0) 1), fun _ => []⟩,
  ⟨131, [11, 3, 5, 7, 9], fun l => sl (l.getD 0 0) 4, fun l => [prS (some ⟨l.getD 0 0, 0, none⟩) 4 (hgA (l.getD 1 0) (l.getD 2 0) (l.getD 3 0) (l.getD 4 0)) gHang.Prods]⟩,
  ⟨132, [0, 1, 2, 11], fun l => .agg #[sl (l.getD 0 0) 4, sl (l.getD 1 0) 4, .slice none 0 0, sl (l.getD 2 0) 2, sl (l.getD 3 0) 4], fun _ => []⟩,
  ⟨13, [13], fun l => .pointer (some ⟨l.getD 0 0, 0, none⟩), fun l => [blk (l.getD 0 0) 27 [.slice none 0 0, .slice none 0 0, .slice none 0 0, .slice none 0 0, .slice none 0 0]]⟩]

attribute [local irreducible] EVX EVO EVL EV1 NEV
attribute [local irreducible] own osl exA rdA rdL
attribute [local irreducible] bldA mapA bun mapS
set_option maxRecDepth 10000
set_option maxHeartbeats 4000000

theorem actionKnown_w : Trip Tryd.prog 6 [] Rd.tt [] (fun v V => v = .bool true ∧ V = []) := by
  refine trip Tryd.tabOk Tryd.func6 rfl rfl rfl rfl ?_
  rintro w SM hW
  clear hW
  repeat' (first | refine e_nil ?_ | ((refine e_op ?_); (refine o_n (peval_sound rfl) rfl ?_)) | refine s_seq ?_ | refine s_region ?_)
  refine s_mk twM Tryd.mixed (by kernel_rfl) ?_ rfl ?_
  · intro i hi
    match i, hi with
    | 0, _ => exact mk_step [] rfl rfl rfl (by decide +kernel) (fun B U => o_makeS rfl rfl rfl rfl 2 rfl rfl (by decide) (by decide) rfl rfl (fun b => ⟨b, rfl, Ent.refl _⟩))
    | 1, _ => exact mk_step [] rfl rfl rfl (by decide +kernel) (fun B U => o_makeS rfl rfl rfl rfl 2 rfl rfl (by decide) (by decide) rfl rfl (fun b => ⟨b, rfl, Ent.refl _⟩))
    | 2, _ => exact mk_step [] rfl rfl rfl (by decide +kernel) (fun B U => o_makeS rfl rfl rfl rfl 4 rfl rfl (by decide) (by decide) rfl rfl (fun b => ⟨b, rfl, Ent.refl _⟩))
    | 3, _ => exact mk_step [] rfl rfl rfl (by decide +kernel) (fun B U => o_lit rfl rfl rfl rfl rfl rfl rfl (fun b => ⟨b, rfl, Ent.refl _⟩))
    | 4, _ => exact mk_step [3] rfl rfl rfl (by decide +kernel) (fun B U => o_call (p21_w _ _ _ _) rfl .nil Can.tt rfl (by rintro v V ⟨rfl, rfl⟩; exact ⟨0, rfl, Ent.refl _⟩))
    | 5, _ => exact mk_step [] rfl rfl rfl (by decide +kernel) (fun B U => o_lit rfl rfl rfl rfl rfl rfl rfl (fun b => ⟨b, rfl, Ent.refl _⟩))
    | 6, _ => exact mk_step [5] rfl rfl rfl (by decide +kernel) (fun B U => o_call (p21_w _ _ _ _) rfl .nil Can.tt rfl (by rintro v V ⟨rfl, rfl⟩; exact ⟨0, rfl, Ent.refl _⟩))
    | 7, _ => exact mk_step [] rfl rfl rfl (by decide +kernel) (fun B U => o_lit rfl rfl rfl rfl rfl rfl rfl (fun b => ⟨b, rfl, Ent.refl _⟩))
    | 8, _ => exact mk_step [7] rfl rfl rfl (by decide +kernel) (fun B U => o_call (p21_w _ _ _ _) rfl .nil Can.tt rfl (by rintro v V ⟨rfl, rfl⟩; exact ⟨0, rfl, Ent.refl _⟩))
    | 9, _ => exact mk_step [] rfl rfl rfl (by decide +kernel) (fun B U => o_lit rfl rfl rfl rfl rfl rfl rfl (fun b => ⟨b, rfl, Ent.refl _⟩))
    | 10, _ => exact mk_step [9] rfl rfl rfl (by decide +kernel) (fun B U => o_call (p21_w _ _ _ _) rfl .nil Can.tt rfl (by rintro v V ⟨rfl, rfl⟩; exact ⟨0, rfl, Ent.refl _⟩))
    | 11, _ => exact mk_step [] rfl rfl rfl (by decide +kernel) (fun B U => o_lit rfl rfl rfl rfl rfl rfl rfl (fun b => ⟨b, rfl, Ent.refl _⟩))
    | 12, _ => exact mk_step [11] rfl rfl rfl (by decide +kernel) (fun B U => o_call (p21_w _ _ _ _) rfl .nil Can.tt rfl (by rintro v V ⟨rfl, rfl⟩; exact ⟨0, rfl, Ent.refl _⟩))
    | 13, _ => exact mk_step [4, 6, 8, 10, 12] rfl rfl rfl (by decide +kernel) (fun B U => o_lit (ps := [(0, pv 0 (sl (B 3) 1)), (1, pv 1 (sl (B 5) 1)), (2, pv 1 (sl (B 7) 1)), (3, pv 2 (sl (B 9) 1)), (4, pv 3 (sl (B 11) 1))]) (cs := prC (twA (B 3) (B 5) (B 7) (B 9) (B 11)) gTwo0.Prods) rfl rfl (by kernel_rfl) rfl rfl (by kernel_rfl) rfl (fun b => ⟨b, rfl, Ent.refl _⟩))
    | 14, _ => exact mk_step [0, 1, 2, 13] rfl rfl rfl (by decide +kernel) (fun B U => o_n (peval_sound rfl) rfl ⟨0, rfl, Ent.refl _⟩)
    | 15, _ => exact mk_step [] rfl rfl rfl (by decide +kernel) (fun B U => o_alloc rfl rfl (fun b => ⟨b, rfl, Ent.refl _⟩))
    | n + 16, h => exact absurd h (by simp [twM])
  · intro B
    refine o_store (b := B 15) (o := 0) (vs := [sl (B 0) 2, sl (B 1) 2, .slice none 0 0, sl (B 2) 4, sl (B 13) 5]) rfl rfl rfl rfl rfl rfl rfl (.s (.s (.s (.s (.s (.s (.s (.s (.s (.z)))))))))) ?_
    refine s_weak (fr' := [(1, .pointer (some ⟨B 15, 0, none⟩))]) (V := [blk (B 15) 27 [sl (B 0) 2, sl (B 1) 2, .slice none 0 0, sl (B 2) 4, sl (B 13) 5], strs (B 0) gTwo0.Terms, levZ (B 1) gTwo0.Levels, strs (B 2) gTwo0.Nons, prS (some ⟨B 13, 0, none⟩) 5 (twA (B 3) (B 5) (B 7) (B 9) (B 11)) gTwo0.Prods, prB (twA (B 3) (B 5) (B 7) (B 9) (B 11)) gTwo0.Prods]) ?_ ?_ ?_
    · repeat' (first | exact Sub.nil _ | refine Sub.cons rfl ?_)
    · refine Ent.tak (.s (.s (.s (.s (.s (.s (.s (.s (.s (.z)))))))))) (Ent.cons (Ent.cons (Ent.cons ?_)))
      refine Ent.tak (.s (.s (.s (.s (.s (.z)))))) ?_
      exact Ent.trans (Ent.cons (Ent.cons (Ent.cons (Ent.cons (Ent.cons (Ent.refl _)))))) (ent_bun (L := [_, _, _, _, _]))
    generalize B 0 = b0, B 1 = b1, B 2 = b2, B 13 = bp, B 15 = bg
    obtain ⟨pacs, hpacs⟩ : ∃ a, a = (twA (B 3) (B 5) (B 7) (B 9) (B 11)) := ⟨_, rfl⟩
    have hlpacs : pacs.length = gTwo0.Prods.length := by rw [hpacs]; rfl
    rw [← hpacs]
    clear hpacs B
    obtain ⟨xa0, xa1, xa2, xa3, xa4, rfl⟩ : ∃ xa0 xa1 xa2 xa3 xa4, pacs = [xa0, xa1, xa2, xa3, xa4] := by
      match pacs, hlpacs with
      | [xa0, xa1, xa2, xa3, xa4], _ => exact ⟨xa0, xa1, xa2, xa3, xa4, rfl⟩
    unfold levZ strs sl
    repeat' (first | ((refine e_op ?_); (first | refine o_n (peval_sound rfl) rfl ?_ | refine o_n (nl rfl rfl tc rfl) rfl ?_)) | refine s_seq ?_ | refine s_region ?_)
    refine e_op (o_n (n_index rfl rfl rfl rfl 3 rfl (by decide)) rfl ?_)
    repeat' (((refine e_op ?_); (refine o_n (peval_sound rfl) rfl ?_)))
    refine e_op (o_storeO (vs := [.int .i64 1, .int .i64 1]) rfl rfl rfl rfl to uc rfl rfl (by show _ ≤ 20; decide) ?_)
    repeat' (first | refine e_nil ?_ | ((refine e_op ?_); (first | refine o_n (peval_sound rfl) rfl ?_ | refine o_n (nl rfl rfl tc rfl) rfl ?_)) | refine s_seq ?_ | refine s_region ?_)
    refine e_op (o_n (n_index rfl rfl rfl rfl 4 rfl (by decide)) rfl ?_)
    repeat' (((refine e_op ?_); (refine o_n (peval_sound rfl) rfl ?_)))
    refine e_op (o_storeO (vs := [.int .i64 2, .int .i64 1]) rfl rfl rfl rfl to uc rfl rfl (by show _ ≤ 20; decide) ?_)
    repeat' (first | refine e_nil ?_ | ((refine e_op ?_); (first | refine o_n (peval_sound rfl) rfl ?_ | refine o_n (nl rfl rfl tc rfl) rfl ?_)) | refine s_seq ?_ | refine s_region ?_)
    refine e_op (o_n (n_index rfl rfl rfl rfl 0 rfl (by decide)) rfl ?_)
    refine e_op (o_storeO (vs := [.int .i64 1, .int .i64 1]) rfl rfl rfl rfl to uc rfl rfl (by decide) ?_)
    repeat' (first | refine e_nil ?_ | ((refine e_op ?_); (refine o_n (nl rfl rfl tc rfl) rfl ?_)) | refine s_seq ?_ | refine s_region ?_)
    refine e_op (o_call (actOf_w (gSl gTwo (some ⟨b0, 0, none⟩) (some ⟨b1, 0, none⟩) none (some ⟨b2, 0, none⟩) (some ⟨bp, 0, none⟩) 2 2 0 4 5) gTwo (fun _ => by decide)) rfl .nil ?_ rfl ?_)
    · refine can_ownG (W := []) (acs := [xa0, xa1, xa2, xa3, xa4]) rfl (grN_of (by decide +kernel)) ?_
      rw [List.append_nil]
      unfold ownG
      refine Ent.oslC to rfl rfl rfl rfl rfl rfl (Ent.oslC to rfl rfl rfl rfl rfl rfl (Ent.oslC to rfl rfl rfl rfl rfl rfl (Ent.osl0 (Ent.oslC to rfl rfl rfl rfl rfl rfl ?_))))
      exact Ent.trans (Ent.tak (A := prB [xa0, xa1, xa2, xa3, xa4] gTwo0.Prods) tk (Ent.nil _)) (Ent.refl _)
    rintro v V ⟨x, AAx, cAx, acsx, AGx, cGx, bcsx, ACx, cCx, rfl, ⟨lax, lgx, rfl, rfl⟩⟩
    obtain ⟨e1, e2, e3, e4⟩ := p_bad two_lrE two_e two_cla
    rw [e1, e2, e3, e4, two_e]
    clear e1 e2 e3 e4 lax lgx
    simp only [List.cons_append, List.nil_append]
    repeat' (first | refine e_nil ?_ | ((refine e_op ?_); (first | refine o_n (peval_sound rfl) rfl ?_ | refine o_storeC rfl rfl rfl rfl tc uc rfl rfl rfl ?_ | refine o_alloc rfl rfl (fun _ => ?_))) | refine s_seq ?_)
    rename_i b2x
    refine s_weak (fr' := [(2, ptrN b2x), (3, .int .i64 210)]) (V := [blk b2x 36 [.slice AAx ([] : List (List Acn)).length cAx, .slice AGx ([] : List (List Int)).length cGx, .slice ACx 1 cCx, .int .i64 (0 : Nat)], claS ACx 1 cCx [(1, 0)]]) ?_ ?_ ?_
    · repeat' (first | exact Sub.nil _ | refine Sub.cons rfl ?_)
    · unfold claS encCs
      repeat' (first | exact Ent.nil _ | refine Ent.tak tk ?_ | refine Ent.blkC tc rfl ?_)
    refine s_mk smM Tryd.mixed (by kernel_rfl) ?_ rfl ?_
    · intro i hi
      match i, hi with
      | 0, _ => exact mk_step [] rfl rfl rfl (by decide +kernel) (fun B U => o_makeS rfl rfl rfl rfl 2 rfl rfl (by decide) (by decide) rfl rfl (fun b => ⟨b, rfl, Ent.refl _⟩))
      | 1, _ => exact mk_step [] rfl rfl rfl (by decide +kernel) (fun B U => o_makeS rfl rfl rfl rfl 2 rfl rfl (by decide) (by decide) rfl rfl (fun b => ⟨b, rfl, Ent.refl _⟩))
      | 2, _ => exact mk_step [] rfl rfl rfl (by decide +kernel) (fun B U => o_makeS rfl rfl rfl rfl 2 rfl rfl (by decide) (by decide) rfl rfl (fun b => ⟨b, rfl, Ent.refl _⟩))
      | 3, _ => exact mk_step [] rfl rfl rfl (by decide +kernel) (fun B U => o_lit rfl rfl rfl rfl rfl rfl rfl (fun b => ⟨b, rfl, Ent.refl _⟩))
      | 4, _ => exact mk_step [3] rfl rfl rfl (by decide +kernel) (fun B U => o_call (p21_w _ _ _ _) rfl .nil Can.tt rfl (by rintro v V ⟨rfl, rfl⟩; exact ⟨0, rfl, Ent.refl _⟩))
      | 5, _ => exact mk_step [] rfl rfl rfl (by decide +kernel) (fun B U => o_lit rfl rfl rfl rfl rfl rfl rfl (fun b => ⟨b, rfl, Ent.refl _⟩))
      | 6, _ => exact mk_step [5] rfl rfl rfl (by decide +kernel) (fun B U => o_call (p21_w _ _ _ _) rfl .nil Can.tt rfl (by rintro v V ⟨rfl, rfl⟩; exact ⟨0, rfl, Ent.refl _⟩))
      | 7, _ => exact mk_step [] rfl rfl rfl (by decide +kernel) (fun B U => o_lit rfl rfl rfl rfl rfl rfl rfl (fun b => ⟨b, rfl, Ent.refl _⟩))
      | 8, _ => exact mk_step [7] rfl rfl rfl (by decide +kernel) (fun B U => o_call (p21_w _ _ _ _) rfl .nil Can.tt rfl (by rintro v V ⟨rfl, rfl⟩; exact ⟨0, rfl, Ent.refl _⟩))
      | 9, _ => exact mk_step [4, 6, 8] rfl rfl rfl (by decide +kernel) (fun B U => o_lit (ps := [(0, pv 0 (sl (B 3) 1)), (1, pv 1 (sl (B 5) 1)), (2, pv 1 (sl (B 7) 1))]) (cs := prC (smA (B 3) (B 5) (B 7)) gSam.Prods) rfl rfl (by kernel_rfl) rfl rfl (by kernel_rfl) rfl (fun b => ⟨b, rfl, Ent.refl _⟩))
      | 10, _ => exact mk_step [0, 1, 2, 9] rfl rfl rfl (by decide +kernel) (fun B U => o_n (peval_sound rfl) rfl ⟨0, rfl, Ent.refl _⟩)
      | 11, _ => exact mk_step [] rfl rfl rfl (by decide +kernel) (fun B U => o_alloc rfl rfl (fun b => ⟨b, rfl, Ent.refl _⟩))
      | n + 12, h => exact absurd h (by simp [smM])
    · intro B
      refine o_store (b := B 11) (o := 0) (vs := [sl (B 0) 2, sl (B 1) 2, .slice none 0 0, sl (B 2) 2, sl (B 9) 3]) rfl rfl rfl rfl rfl rfl rfl (.s (.s (.s (.s (.s (.s (.s (.z)))))))) ?_
      refine s_weak (fr' := [(4, .pointer (some ⟨B 11, 0, none⟩)), (2, ptrN b2x), (3, .int .i64 210)]) (V := [blk (B 11) 27 [sl (B 0) 2, sl (B 1) 2, .slice none 0 0, sl (B 2) 2, sl (B 9) 3], strs (B 0) gSam.Terms, levZ (B 1) gSam.Levels, strs (B 2) gSam.Nons, prS (some ⟨B 9, 0, none⟩) 3 (smA (B 3) (B 5) (B 7)) gSam.Prods, prB (smA (B 3) (B 5) (B 7)) gSam.Prods] ++ [blk b2x 36 [.slice AAx ([] : List (List Acn)).length cAx, .slice AGx ([] : List (List Int)).length cGx, .slice ACx 1 cCx, .int .i64 (0 : Nat)], claS ACx 1 cCx [(1, 0)]]) ?_ ?_ ?_
      · repeat' (first | exact Sub.nil _ | refine Sub.cons rfl ?_)
      · refine Ent.tak (.s (.s (.s (.s (.s (.s (.s (.z)))))))) (Ent.cons (Ent.cons (Ent.cons ?_)))
        refine Ent.tak (.s (.s (.s (.z)))) ?_
        exact Ent.trans (Ent.cons (Ent.cons (Ent.cons (Ent.refl _)))) (ent_bun (L := [_, _, _]))
      generalize B 0 = b0y, B 1 = b1y, B 2 = b2y, B 9 = bpy, B 11 = bgy
      obtain ⟨pacy, hpacy⟩ : ∃ a, a = (smA (B 3) (B 5) (B 7)) := ⟨_, rfl⟩
      have hlpacy : pacy.length = gSam.Prods.length := by rw [hpacy]; rfl
      rw [← hpacy]
      clear hpacy B
      simp only [List.cons_append, List.nil_append]
      obtain ⟨ya0, ya1, ya2, rfl⟩ : ∃ ya0 ya1 ya2, pacy = [ya0, ya1, ya2] := by
        match pacy, hlpacy with
        | [ya0, ya1, ya2], _ => exact ⟨ya0, ya1, ya2, rfl⟩
      unfold levZ strs sl
      repeat' (first | ((refine e_op ?_); (refine o_n (nl rfl rfl tc rfl) rfl ?_)) | refine s_seq ?_ | refine s_region ?_)
      refine e_op (o_call (actOf_w (gSl gSam (some ⟨b0y, 0, none⟩) (some ⟨b1y, 0, none⟩) none (some ⟨b2y, 0, none⟩) (some ⟨bpy, 0, none⟩) 2 2 0 2 3) gSam (fun _ => by decide)) rfl .nil ?_ rfl ?_)
      · refine can_ownG (W := []) (acs := [ya0, ya1, ya2]) rfl (grN_of (by decide +kernel)) ?_
        rw [List.append_nil]
        unfold ownG
        refine Ent.oslC to rfl rfl rfl rfl rfl rfl (Ent.oslC to rfl rfl rfl rfl rfl rfl (Ent.oslC to rfl rfl rfl rfl rfl rfl (Ent.osl0 (Ent.oslC to rfl rfl rfl rfl rfl rfl ?_))))
        exact Ent.trans (Ent.tak (A := prB [ya0, ya1, ya2] gSam.Prods) tk (Ent.nil _)) (Ent.refl _)
      rintro v V ⟨x, AAy, cAy, acsy, AGy, cGy, bcsy, ACy, cCy, rfl, ⟨lay, lgy, rfl, rfl⟩⟩
      obtain ⟨e1, e2, e3, e4⟩ := p_bad sam_lrE sam_e sam_cla
      rw [e1, e2, e3, e4, sam_e]
      clear e1 e2 e3 e4 lay lgy
      simp only [List.cons_append, List.nil_append]
      repeat' (first | refine e_nil ?_ | ((refine e_op ?_); (first | refine o_n (peval_sound rfl) rfl ?_ | refine o_storeC rfl rfl rfl rfl tc uc rfl rfl rfl ?_ | refine o_alloc rfl rfl (fun _ => ?_))) | refine s_seq ?_)
      rename_i b5x
      refine s_weak (fr' := [(5, ptrN b5x), (6, .int .i64 210), (2, ptrN b2x), (3, .int .i64 210)]) (V := [blk b5x 36 [.slice AAy ([] : List (List Acn)).length cAy, .slice AGy ([] : List (List Int)).length cGy, .slice ACy 1 cCy, .int .i64 (0 : Nat)], blk b2x 36 [.slice AAx ([] : List (List Acn)).length cAx, .slice AGx ([] : List (List Int)).length cGx, .slice ACx 1 cCx, .int .i64 (0 : Nat)], claS ACx 1 cCx [(1, 0)]]) ?_ ?_ ?_
      · repeat' (first | exact Sub.nil _ | refine Sub.cons rfl ?_)
      · unfold claS encCs
        repeat' (first | exact Ent.nil _ | refine Ent.tak tk ?_ | refine Ent.blkC tc rfl ?_)
      refine s_mk boM Tryd.mixed (by kernel_rfl) ?_ rfl ?_
      · intro i hi
        match i, hi with
        | 0, _ => exact mk_step [] rfl rfl rfl (by decide +kernel) (fun B U => o_makeS rfl rfl rfl rfl 4 rfl rfl (by decide) (by decide) rfl rfl (fun b => ⟨b, rfl, Ent.refl _⟩))
        | 1, _ => exact mk_step [] rfl rfl rfl (by decide +kernel) (fun B U => o_n (peval_sound rfl) rfl ⟨0, rfl, Ent.refl _⟩)
        | 2, _ => exact mk_step [] rfl rfl rfl (by decide +kernel) (fun B U => o_n (peval_sound rfl) rfl ⟨0, rfl, Ent.refl _⟩)
        | 3, _ => exact mk_step [] rfl rfl rfl (by decide +kernel) (fun B U => o_n (peval_sound rfl) rfl ⟨0, rfl, Ent.refl _⟩)
        | 4, _ => exact mk_step [] rfl rfl rfl (by decide +kernel) (fun B U => o_n (peval_sound rfl) rfl ⟨0, rfl, Ent.refl _⟩)
        | 5, _ => exact mk_step [1, 2, 3, 4] rfl rfl rfl (by decide +kernel) (fun B U => o_lit rfl rfl rfl rfl rfl rfl rfl (fun b => ⟨b, rfl, Ent.refl _⟩))
        | 6, _ => exact mk_step [] rfl rfl rfl (by decide +kernel) (fun B U => o_makeS rfl rfl rfl rfl 2 rfl rfl (by decide) (by decide) rfl rfl (fun b => ⟨b, rfl, Ent.refl _⟩))
        | 7, _ => exact mk_step [] rfl rfl rfl (by decide +kernel) (fun B U => o_lit rfl rfl rfl rfl rfl rfl rfl (fun b => ⟨b, rfl, Ent.refl _⟩))
        | 8, _ => exact mk_step [7] rfl rfl rfl (by decide +kernel) (fun B U => o_call (p21_w _ _ _ _) rfl .nil Can.tt rfl (by rintro v V ⟨rfl, rfl⟩; exact ⟨0, rfl, Ent.refl _⟩))
        | 9, _ => exact mk_step [] rfl rfl rfl (by decide +kernel) (fun B U => o_lit rfl rfl rfl rfl rfl rfl rfl (fun b => ⟨b, rfl, Ent.refl _⟩))
        | 10, _ => exact mk_step [9] rfl rfl rfl (by decide +kernel) (fun B U => o_call (p21_w _ _ _ _) rfl .nil Can.tt rfl (by rintro v V ⟨rfl, rfl⟩; exact ⟨0, rfl, Ent.refl _⟩))
        | 11, _ => exact mk_step [] rfl rfl rfl (by decide +kernel) (fun B U => o_lit rfl rfl rfl rfl rfl rfl rfl (fun b => ⟨b, rfl, Ent.refl _⟩))
        | 12, _ => exact mk_step [11] rfl rfl rfl (by decide +kernel) (fun B U => o_call (p21_w _ _ _ _) rfl .nil Can.tt rfl (by rintro v V ⟨rfl, rfl⟩; exact ⟨0, rfl, Ent.refl _⟩))
        | 13, _ => exact mk_step [] rfl rfl rfl (by decide +kernel) (fun B U => o_lit rfl rfl rfl rfl rfl rfl rfl (fun b => ⟨b, rfl, Ent.refl _⟩))
        | 14, _ => exact mk_step [13] rfl rfl rfl (by decide +kernel) (fun B U => o_call (p21_w _ _ _ _) rfl .nil Can.tt rfl (by rintro v V ⟨rfl, rfl⟩; exact ⟨0, rfl, Ent.refl _⟩))
        | 15, _ => exact mk_step [8, 10, 12, 14] rfl rfl rfl (by decide +kernel) (fun B U => o_lit (ps := [(0, pv 0 (sl (B 7) 1)), (1, pv 1 (sl (B 9) 3)), (2, pv 1 (sl (B 11) 3)), (3, pv 1 (sl (B 13) 1))]) (cs := prC (boA (B 7) (B 9) (B 11) (B 13)) gBot0.Prods) rfl rfl (by kernel_rfl) rfl rfl (by kernel_rfl) rfl (fun b => ⟨b, rfl, Ent.refl _⟩))
        | 16, _ => exact mk_step [0, 5, 6, 15] rfl rfl rfl (by decide +kernel) (fun B U => o_n (peval_sound rfl) rfl ⟨0, rfl, Ent.refl _⟩)
        | 17, _ => exact mk_step [] rfl rfl rfl (by decide +kernel) (fun B U => o_alloc rfl rfl (fun b => ⟨b, rfl, Ent.refl _⟩))
        | n + 18, h => exact absurd h (by simp [boM])
      · intro B
        refine o_store (b := B 17) (o := 0) (vs := [sl (B 0) 4, sl (B 5) 4, .slice none 0 0, sl (B 6) 2, sl (B 15) 4]) rfl rfl rfl rfl rfl rfl rfl (.s (.s (.s (.s (.s (.s (.s (.s (.z))))))))) ?_
        refine s_weak (fr' := [(7, .pointer (some ⟨B 17, 0, none⟩)), (5, ptrN b5x), (6, .int .i64 210), (2, ptrN b2x), (3, .int .i64 210)]) (V := [blk (B 17) 27 [sl (B 0) 4, sl (B 5) 4, .slice none 0 0, sl (B 6) 2, sl (B 15) 4], strs (B 0) gBot0.Terms, levZ (B 5) gBot0.Levels, strs (B 6) gBot0.Nons, prS (some ⟨B 15, 0, none⟩) 4 (boA (B 7) (B 9) (B 11) (B 13)) gBot0.Prods, prB (boA (B 7) (B 9) (B 11) (B 13)) gBot0.Prods] ++ [blk b5x 36 [.slice AAy ([] : List (List Acn)).length cAy, .slice AGy ([] : List (List Int)).length cGy, .slice ACy 1 cCy, .int .i64 (0 : Nat)], blk b2x 36 [.slice AAx ([] : List (List Acn)).length cAx, .slice AGx ([] : List (List Int)).length cGx, .slice ACx 1 cCx, .int .i64 (0 : Nat)], claS ACx 1 cCx [(1, 0)]]) ?_ ?_ ?_
        · repeat' (first | exact Sub.nil _ | refine Sub.cons rfl ?_)
        · refine Ent.tak (.s (.s (.s (.s (.s (.s (.s (.s (.z))))))))) (Ent.cons (Ent.cons (Ent.cons ?_)))
          refine Ent.tak (.s (.s (.s (.s (.z))))) ?_
          exact Ent.trans (Ent.cons (Ent.cons (Ent.cons (Ent.cons (Ent.refl _))))) (ent_bun (L := [_, _, _, _]))
        generalize B 0 = b0z, B 5 = b1z, B 6 = b2z, B 15 = bpz, B 17 = bgz
        obtain ⟨pacz, hpacz⟩ : ∃ a, a = (boA (B 7) (B 9) (B 11) (B 13)) := ⟨_, rfl⟩
        have hlpacz : pacz.length = gBot0.Prods.length := by rw [hpacz]; rfl
        rw [← hpacz]
        clear hpacz B
        simp only [List.cons_append, List.nil_append]
        obtain ⟨za0, za1, za2, za3, rfl⟩ : ∃ za0 za1 za2 za3, pacz = [za0, za1, za2, za3] := by
          match pacz, hlpacz with
          | [za0, za1, za2, za3], _ => exact ⟨za0, za1, za2, za3, rfl⟩
        unfold levZ strs sl
        repeat' (refine s_seq ?_)
        refine s_P Tryd.mixed (by decide +kernel) ?_
        refine p_barU 8 ?_
        refine q_n 0 rfl (peval_sound rfl) (by decide +kernel) (by decide +kernel) (Ent.refl _) rfl ?_
        refine q_n 1 rfl (nl rfl rfl tc rfl) (by decide +kernel) (by decide +kernel) (Ent.refl _) rfl ?_
        refine q_n 2 rfl (peval_sound rfl) (by decide +kernel) (by decide +kernel) (Ent.refl _) rfl ?_
        refine q_n 3 rfl (nl rfl rfl tc rfl) (by decide +kernel) (by decide +kernel) (Ent.refl _) rfl ?_
        refine q_n 4 rfl (n_index rfl rfl rfl rfl 2 rfl (by decide)) (by decide +kernel) (by decide +kernel) (Ent.refl _) rfl ?_
        refine q_n 5 rfl (no rfl rfl to rfl) (by decide +kernel) (by decide +kernel) (Ent.refl _) rfl ?_
        refine q_n 6 rfl (n_index rfl rfl rfl rfl 1 rfl (by decide)) (by decide +kernel) (by decide +kernel) (Ent.refl _) rfl ?_
        refine q_n 7 rfl (peval_sound rfl) (by decide +kernel) (by decide +kernel) (Ent.refl _) rfl ?_
        refine q_z 8 (by decide +kernel) rfl rfl (o_storeO (vs := encZ ⟨1, 1⟩) rfl rfl rfl rfl to uc rfl rfl (by show _ ≤ 16; decide) ?_)
        refine p_done (by decide +kernel) ?_
        repeat' (refine s_seq ?_)
        refine s_P Tryd.mixed (by decide +kernel) ?_
        refine p_barU 8 ?_
        refine q_n 0 rfl (peval_sound rfl) (by decide +kernel) (by decide +kernel) (Ent.refl _) rfl ?_
        refine q_n 1 rfl (nl rfl rfl tc rfl) (by decide +kernel) (by decide +kernel) (Ent.refl _) rfl ?_
        refine q_n 2 rfl (peval_sound rfl) (by decide +kernel) (by decide +kernel) (Ent.refl _) rfl ?_
        refine q_n 3 rfl (nl rfl rfl tc rfl) (by decide +kernel) (by decide +kernel) (Ent.refl _) rfl ?_
        refine q_n 4 rfl (n_index rfl rfl rfl rfl 3 rfl (by decide)) (by decide +kernel) (by decide +kernel) (Ent.refl _) rfl ?_
        refine q_n 5 rfl (no rfl rfl to rfl) (by decide +kernel) (by decide +kernel) (Ent.refl _) rfl ?_
        refine q_n 6 rfl (n_index rfl rfl rfl rfl 2 rfl (by decide)) (by decide +kernel) (by decide +kernel) (Ent.refl _) rfl ?_
        refine q_n 7 rfl (peval_sound rfl) (by decide +kernel) (by decide +kernel) (Ent.refl _) rfl ?_
        refine q_z 8 (by decide +kernel) rfl rfl (o_storeO (vs := encZ ⟨2, 2⟩) rfl rfl rfl rfl to uc rfl rfl (by show _ ≤ 16; decide) ?_)
        refine p_done (by decide +kernel) ?_
        repeat' (first | ((refine e_op ?_); (refine o_n (nl rfl rfl tc rfl) rfl ?_)) | refine s_seq ?_ | refine s_region ?_)
        refine e_op (o_call (actOf_w (gSl gBoth (some ⟨b0z, 0, none⟩) (some ⟨b1z, 0, none⟩) none (some ⟨b2z, 0, none⟩) (some ⟨bpz, 0, none⟩) 4 4 0 2 4) gBoth (fun _ => by decide)) rfl .nil ?_ rfl ?_)
        · refine can_ownG (W := []) (acs := [za0, za1, za2, za3]) rfl (grN_of (by decide +kernel)) ?_
          rw [List.append_nil]
          unfold ownG
          refine Ent.oslC to rfl rfl rfl rfl rfl rfl (Ent.oslC to rfl rfl rfl rfl rfl rfl (Ent.oslC to rfl rfl rfl rfl rfl rfl (Ent.osl0 (Ent.oslC to rfl rfl rfl rfl rfl rfl ?_))))
          exact Ent.trans (Ent.tak (A := prB [za0, za1, za2, za3] gBot0.Prods) tk (Ent.nil _)) (Ent.refl _)
        rintro v V ⟨x, AAz, cAz, acsz, AGz, cGz, bcsz, ACz, cCz, rfl, ⟨laz, lgz, rfl, rfl⟩⟩
        obtain ⟨e3, e4⟩ := p_ok bo_lrE bo_e bo_cla bo_dec
        rw [e3, e4, bo_e]
        clear e3 e4 laz lgz
        simp only [List.cons_append, List.nil_append]
        repeat' (((refine e_op ?_); (first | refine o_n (peval_sound rfl) rfl ?_ | refine o_storeC rfl rfl rfl rfl tc uc rfl rfl rfl ?_ | refine o_alloc rfl rfl (fun _ => ?_))))
        rename_i b8x
        refine e_nil ?_
        refine s_weak (fr' := [(7, ptrN bgz), (8, ptrN b8x), (9, .int .i64 0), (5, ptrN b5x), (6, .int .i64 210), (2, ptrN b2x), (3, .int .i64 210)]) (V := [blk b8x 36 [.slice AAz (pAct gBoth).length cAz, .slice AGz (pGot gBoth).length cGz, .slice ACz 0 cCz, .int .i64 (4 : Nat)], blk b5x 36 [.slice AAy ([] : List (List Acn)).length cAy, .slice AGy ([] : List (List Int)).length cGy, .slice ACy 1 cCy, .int .i64 (0 : Nat)], blk b2x 36 [.slice AAx ([] : List (List Acn)).length cAx, .slice AGx ([] : List (List Int)).length cGx, .slice ACx 1 cCx, .int .i64 (0 : Nat)], claS ACx 1 cCx [(1, 0)], blk bgz 27 [.slice (some ⟨b0z, 0, none⟩) 4 4, .slice (some ⟨b1z, 0, none⟩) 4 4, .slice none 0 0, .slice (some ⟨b2z, 0, none⟩) 2 2, .slice (some ⟨bpz, 0, none⟩) 4 4], prS (some ⟨bpz, 0, none⟩) 4 [za0, za1, za2, za3] gBoth.Prods, ogT (some ⟨b0z, 0, none⟩) 4 gBoth.Terms, ogL (some ⟨b1z, 0, none⟩) 4 gBoth.Levels, ogP none 0 [], ogT (some ⟨b2z, 0, none⟩) 2 gBoth.Nons, prB [za0, za1, za2, za3] gBoth.Prods]) ?_ ?_ ?_
        · repeat' (first | exact Sub.nil _ | refine Sub.cons rfl ?_)
        · refine Ent.blkC tc rfl (Ent.blkC tc rfl (Ent.blkC tc rfl (Ent.tak tk (Ent.blkC tc rfl ?_))))
          refine Ent.oslC to rfl rfl rfl rfl rfl rfl (Ent.oslC to rfl rfl rfl rfl rfl rfl (Ent.oslC to rfl rfl rfl rfl rfl rfl (Ent.osl0 (Ent.oslC to rfl rfl rfl rfl rfl rfl ?_))))
          exact Ent.trans (Ent.tak (A := prB [za0, za1, za2, za3] gBot0.Prods) tk (Ent.nil _)) (Ent.refl _)
        repeat' (first | ((refine e_op ?_); (refine o_n (nl rfl rfl tc rfl) rfl ?_)) | refine s_seq ?_ | refine s_region ?_)
        refine e_op (o_call (copyG2_w (gSl gBoth (some ⟨b0z, 0, none⟩) (some ⟨b1z, 0, none⟩) none (some ⟨b2z, 0, none⟩) (some ⟨bpz, 0, none⟩) 4 4 0 2 4) gBoth (by decide)) rfl .nil ?_ rfl ?_)
        · refine can_ownG (W := []) (acs := [za0, za1, za2, za3]) rfl (grN_of (by decide +kernel)) ?_
          rw [List.append_nil]
          unfold ownG
          repeat' (first | exact Ent.nil _ | refine Ent.tak tk ?_ | refine Ent.tak (.s (.s (.s (.s (.s .z))))) ?_)
        rintro v V ⟨w0, w1, w2, w3, bpw, f0, f1, f2, f3, f4, pacw, hlpacw, rfl, rfl⟩
        unfold ownG
        simp only [List.cons_append, List.nil_append]
        obtain ⟨wa0, wa1, wa2, wa3, rfl⟩ : ∃ wa0 wa1 wa2 wa3, pacw = [wa0, wa1, wa2, wa3] := by
          match pacw, hlpacw with
          | [wa0, wa1, wa2, wa3], _ => exact ⟨wa0, wa1, wa2, wa3, rfl⟩
        repeat' (first | refine e_nil ?_ | ((refine e_op ?_); (first | refine o_n (peval_sound rfl) rfl ?_ | refine o_n (nl rfl rfl tc rfl) rfl ?_ | refine o_storeC rfl rfl rfl rfl tc uc rfl rfl rfl ?_ | refine o_alloc rfl rfl (fun _ => ?_))) | refine s_seq ?_ | refine s_region ?_)
        rename_i b10
        refine e_op (o_n (n_index rfl rfl rfl rfl 1 rfl (by decide)) rfl ?_)
        repeat' (((refine e_op ?_); (refine o_n (peval_sound rfl) rfl ?_)))
        refine e_op (o_storeO (vs := encZ ⟨0, 0⟩) rfl rfl rfl rfl to uc rfl rfl (by show _ ≤ 16; decide) ?_)
        repeat' (first | refine e_nil ?_ | ((refine e_op ?_); (refine o_n (nl rfl rfl tc rfl) rfl ?_)) | refine s_seq ?_ | refine s_region ?_)
        refine e_op (o_call (actOf_w (gSl gHalf w0 w1 w2 w3 (some ⟨bpw, 0, none⟩) f0 f1 f2 f3 f4) gHalf (fun _ => by decide)) rfl .nil ?_ rfl ?_)
        · refine can_ownG (W := []) (acs := [wa0, wa1, wa2, wa3]) rfl (grN_of (by decide +kernel)) ?_
          rw [List.append_nil]
          unfold ownG
          refine Ent.trans (V := [prS (some ⟨bpw, 0, none⟩) f4 [wa0, wa1, wa2, wa3] gHalf.Prods, ogT w0 f0 gBoth.Terms, ogL w1 f1 gBoth.Levels, ogP w2 f2 gBoth.Pats, ogT w3 f3 gBoth.Nons, prB [wa0, wa1, wa2, wa3] gBoth.Prods]) ?_ (Ent.refl _)
          refine Ent.oslC to rfl rfl rfl rfl rfl rfl ?_
          repeat' (first | exact Ent.nil _ | refine Ent.tak tk ?_)
        rintro v V ⟨x, AAw, cAw, acsw, AGw, cGw, bcsw, ACw, cCw, rfl, ⟨law, lgw, rfl, rfl⟩⟩
        obtain ⟨e1, e2, e3, e4⟩ := p_bad ha_lrE ha_e ha_cla
        rw [e1, e2, e3, e4, ha_e]
        clear e1 e2 e3 e4 law lgw
        simp only [List.cons_append, List.nil_append]
        repeat' (((refine e_op ?_); (first | refine o_n (peval_sound rfl) rfl ?_ | refine o_storeC rfl rfl rfl rfl tc uc rfl rfl rfl ?_ | refine o_alloc rfl rfl (fun _ => ?_))))
        rename_i b11x
        refine e_nil ?_
        refine s_weak (fr' := [(11, ptrN b11x), (12, .int .i64 210), (8, ptrN b8x), (9, .int .i64 0), (5, ptrN b5x), (6, .int .i64 210), (2, ptrN b2x), (3, .int .i64 210)]) (V := [blk b11x 36 [.slice AAw ([] : List (List Acn)).length cAw, .slice AGw ([] : List (List Int)).length cGw, .slice ACw 2 cCw, .int .i64 (0 : Nat)], blk b8x 36 [.slice AAz (pAct gBoth).length cAz, .slice AGz (pGot gBoth).length cGz, .slice ACz 0 cCz, .int .i64 (4 : Nat)], blk b5x 36 [.slice AAy ([] : List (List Acn)).length cAy, .slice AGy ([] : List (List Int)).length cGy, .slice ACy 1 cCy, .int .i64 (0 : Nat)], blk b2x 36 [.slice AAx ([] : List (List Acn)).length cAx, .slice AGx ([] : List (List Int)).length cGx, .slice ACx 1 cCx, .int .i64 (0 : Nat)], claS ACx 1 cCx [(1, 0)]]) ?_ ?_ ?_
        · repeat' (first | exact Sub.nil _ | refine Sub.cons rfl ?_)
        · unfold claS encCs
          repeat' (first | exact Ent.nil _ | refine Ent.tak tk ?_ | refine Ent.blkC tc rfl ?_)
        repeat' (refine s_seq ?_)
        refine s_mk hgM Tryd.mixed (by kernel_rfl) ?_ rfl ?_
        · intro i hi
          match i, hi with
          | 0, _ => exact mk_step [] rfl rfl rfl (by decide +kernel) (fun B U => o_makeS rfl rfl rfl rfl 4 rfl rfl (by decide) (by decide) rfl rfl (fun b => ⟨b, rfl, Ent.refl _⟩))
          | 1, _ => exact mk_step [] rfl rfl rfl (by decide +kernel) (fun B U => o_makeS rfl rfl rfl rfl 4 rfl rfl (by decide) (by decide) rfl rfl (fun b => ⟨b, rfl, Ent.refl _⟩))
          | 2, _ => exact mk_step [] rfl rfl rfl (by decide +kernel) (fun B U => o_makeS rfl rfl rfl rfl 2 rfl rfl (by decide) (by decide) rfl rfl (fun b => ⟨b, rfl, Ent.refl _⟩))
          | 3, _ => exact mk_step [] rfl rfl rfl (by decide +kernel) (fun B U => o_lit rfl rfl rfl rfl rfl rfl rfl (fun b => ⟨b, rfl, Ent.refl _⟩))
          | 4, _ => exact mk_step [3] rfl rfl rfl (by decide +kernel) (fun B U => o_call (p21_w _ _ _ _) rfl .nil Can.tt rfl (by rintro v V ⟨rfl, rfl⟩; exact ⟨0, rfl, Ent.refl _⟩))
          | 5, _ => exact mk_step [] rfl rfl rfl (by decide +kernel) (fun B U => o_lit rfl rfl rfl rfl rfl rfl rfl (fun b => ⟨b, rfl, Ent.refl _⟩))
          | 6, _ => exact mk_step [5] rfl rfl rfl (by decide +kernel) (fun B U => o_call (p21_w _ _ _ _) rfl .nil Can.tt rfl (by rintro v V ⟨rfl, rfl⟩; exact ⟨0, rfl, Ent.refl _⟩))
          | 7, _ => exact mk_step [] rfl rfl rfl (by decide +kernel) (fun B U => o_lit rfl rfl rfl rfl rfl rfl rfl (fun b => ⟨b, rfl, Ent.refl _⟩))
          | 8, _ => exact mk_step [7] rfl rfl rfl (by decide +kernel) (fun B U => o_call (p21_w _ _ _ _) rfl .nil Can.tt rfl (by rintro v V ⟨rfl, rfl⟩; exact ⟨0, rfl, Ent.refl _⟩))
          | 9, _ => exact mk_step [] rfl rfl rfl (by decide +kernel) (fun B U => o_lit rfl rfl rfl rfl rfl rfl rfl (fun b => ⟨b, rfl, Ent.refl _⟩))
          | 10, _ => exact mk_step [9] rfl rfl rfl (by decide +kernel) (fun B U => o_call (p21_w _ _ _ _) rfl .nil Can.tt rfl (by rintro v V ⟨rfl, rfl⟩; exact ⟨0, rfl, Ent.refl _⟩))
          | 11, _ => exact mk_step [4, 6, 8, 10] rfl rfl rfl (by decide +kernel) (fun B U => o_lit (ps := [(0, pv 0 (sl (B 3) 1)), (1, pv 1 (sl (B 5) 2)), (2, pv 1 (sl (B 7) 4)), (3, pv 1 (sl (B 9) 1))]) (cs := prC (hgA (B 3) (B 5) (B 7) (B 9)) gHang.Prods) rfl rfl (by kernel_rfl) rfl rfl (by kernel_rfl) rfl (fun b => ⟨b, rfl, Ent.refl _⟩))
          | 12, _ => exact mk_step [0, 1, 2, 11] rfl rfl rfl (by decide +kernel) (fun B U => o_n (peval_sound rfl) rfl ⟨0, rfl, Ent.refl _⟩)
          | 13, _ => exact mk_step [] rfl rfl rfl (by decide +kernel) (fun B U => o_alloc rfl rfl (fun b => ⟨b, rfl, Ent.refl _⟩))
          | n + 14, h => exact absurd h (by simp [hgM])
        · intro B
          refine o_store (b := B 13) (o := 0) (vs := [sl (B 0) 4, sl (B 1) 4, .slice none 0 0, sl (B 2) 2, sl (B 11) 4]) rfl rfl rfl rfl rfl rfl rfl (.s (.s (.s (.s (.s (.s (.s (.s (.z))))))))) ?_
          refine s_weak (fr' := [(13, .pointer (some ⟨B 13, 0, none⟩)), (11, ptrN b11x), (12, .int .i64 210), (8, ptrN b8x), (9, .int .i64 0), (5, ptrN b5x), (6, .int .i64 210), (2, ptrN b2x), (3, .int .i64 210)]) (V := [blk (B 13) 27 [sl (B 0) 4, sl (B 1) 4, .slice none 0 0, sl (B 2) 2, sl (B 11) 4], strs (B 0) gHang.Terms, levZ (B 1) gHang.Levels, strs (B 2) gHang.Nons, prS (some ⟨B 11, 0, none⟩) 4 (hgA (B 3) (B 5) (B 7) (B 9)) gHang.Prods, prB (hgA (B 3) (B 5) (B 7) (B 9)) gHang.Prods] ++ [blk b11x 36 [.slice AAw ([] : List (List Acn)).length cAw, .slice AGw ([] : List (List Int)).length cGw, .slice ACw 2 cCw, .int .i64 (0 : Nat)], blk b8x 36 [.slice AAz (pAct gBoth).length cAz, .slice AGz (pGot gBoth).length cGz, .slice ACz 0 cCz, .int .i64 (4 : Nat)], blk b5x 36 [.slice AAy ([] : List (List Acn)).length cAy, .slice AGy ([] : List (List Int)).length cGy, .slice ACy 1 cCy, .int .i64 (0 : Nat)], blk b2x 36 [.slice AAx ([] : List (List Acn)).length cAx, .slice AGx ([] : List (List Int)).length cGx, .slice ACx 1 cCx, .int .i64 (0 : Nat)], claS ACx 1 cCx [(1, 0)]]) ?_ ?_ ?_
          · repeat' (first | exact Sub.nil _ | refine Sub.cons rfl ?_)
          · refine Ent.tak (.s (.s (.s (.s (.s (.s (.s (.s (.z))))))))) (Ent.cons (Ent.cons (Ent.cons ?_)))
            refine Ent.tak (.s (.s (.s (.s (.z))))) ?_
            exact Ent.trans (Ent.cons (Ent.cons (Ent.cons (Ent.cons (Ent.refl _))))) (ent_bun (L := [_, _, _, _]))
          generalize B 0 = b0h, B 1 = b1h, B 2 = b2h, B 11 = bph, B 13 = bgh
          obtain ⟨pach, hpach⟩ : ∃ a, a = (hgA (B 3) (B 5) (B 7) (B 9)) := ⟨_, rfl⟩
          have hlpach : pach.length = gHang.Prods.length := by rw [hpach]; rfl
          rw [← hpach]
          clear hpach B
          simp only [List.cons_append, List.nil_append]
          obtain ⟨ha0, ha1, ha2, ha3, rfl⟩ : ∃ ha0 ha1 ha2 ha3, pach = [ha0, ha1, ha2, ha3] := by
            match pach, hlpach with
            | [ha0, ha1, ha2, ha3], _ => exact ⟨ha0, ha1, ha2, ha3, rfl⟩
          unfold levZ strs sl
          repeat' (first | ((refine e_op ?_); (refine o_n (nl rfl rfl tc rfl) rfl ?_)) | refine s_seq ?_ | refine s_region ?_)
          refine e_op (o_call (actOf_w (gSl gHang (some ⟨b0h, 0, none⟩) (some ⟨b1h, 0, none⟩) none (some ⟨b2h, 0, none⟩) (some ⟨bph, 0, none⟩) 4 4 0 2 4) gHang (fun _ => by decide)) rfl .nil ?_ rfl ?_)
          · refine can_ownG (W := []) (acs := [ha0, ha1, ha2, ha3]) rfl (grN_of (by decide +kernel)) ?_
            rw [List.append_nil]
            unfold ownG
            refine Ent.oslC to rfl rfl rfl rfl rfl rfl (Ent.oslC to rfl rfl rfl rfl rfl rfl (Ent.oslC to rfl rfl rfl rfl rfl rfl (Ent.osl0 (Ent.oslC to rfl rfl rfl rfl rfl rfl ?_))))
            exact Ent.trans (Ent.tak (A := prB [ha0, ha1, ha2, ha3] gHang.Prods) tk (Ent.nil _)) (Ent.refl _)
          rintro v V ⟨x, AAv, cAv, acsv, AGv, cGv, bcsv, ACv, cCv, rfl, ⟨lav, lgv, rfl, rfl⟩⟩
          obtain ⟨e1, e2, e3, e4⟩ := p_bad hn_lrE hn_e hn_cla
          rw [e1, e2, e3, e4, hn_e]
          clear e1 e2 e3 e4 lav lgv
          simp only [List.cons_append, List.nil_append]
          repeat' (((refine e_op ?_); (first | refine o_n (peval_sound rfl) rfl ?_ | refine o_storeC rfl rfl rfl rfl tc uc rfl rfl rfl ?_ | refine o_alloc rfl rfl (fun _ => ?_))))
          rename_i b14x
          refine e_nil ?_
          refine s_weak (fr' := [(13, ptrN bgh), (14, ptrN b14x), (15, .int .i64 210), (11, ptrN b11x), (12, .int .i64 210), (8, ptrN b8x), (9, .int .i64 0), (5, ptrN b5x), (6, .int .i64 210), (2, ptrN b2x), (3, .int .i64 210)]) (V := [blk b14x 36 [.slice AAv ([] : List (List Acn)).length cAv, .slice AGv ([] : List (List Int)).length cGv, .slice ACv 1 cCv, .int .i64 (0 : Nat)], claS ACv 1 cCv [(4, 2)], blk b11x 36 [.slice AAw ([] : List (List Acn)).length cAw, .slice AGw ([] : List (List Int)).length cGw, .slice ACw 2 cCw, .int .i64 (0 : Nat)], blk b8x 36 [.slice AAz (pAct gBoth).length cAz, .slice AGz (pGot gBoth).length cGz, .slice ACz 0 cCz, .int .i64 (4 : Nat)], blk b5x 36 [.slice AAy ([] : List (List Acn)).length cAy, .slice AGy ([] : List (List Int)).length cGy, .slice ACy 1 cCy, .int .i64 (0 : Nat)], blk b2x 36 [.slice AAx ([] : List (List Acn)).length cAx, .slice AGx ([] : List (List Int)).length cGx, .slice ACx 1 cCx, .int .i64 (0 : Nat)], claS ACx 1 cCx [(1, 0)], blk bgh 27 [.slice (some ⟨b0h, 0, none⟩) 4 4, .slice (some ⟨b1h, 0, none⟩) 4 4, .slice none 0 0, .slice (some ⟨b2h, 0, none⟩) 2 2, .slice (some ⟨bph, 0, none⟩) 4 4], prS (some ⟨bph, 0, none⟩) 4 [ha0, ha1, ha2, ha3] gHang.Prods, ogT (some ⟨b0h, 0, none⟩) 4 gHang.Terms, ogL (some ⟨b1h, 0, none⟩) 4 gHang.Levels, ogT (some ⟨b2h, 0, none⟩) 2 gHang.Nons, prB [ha0, ha1, ha2, ha3] gHang.Prods]) ?_ ?_ ?_
          · repeat' (first | exact Sub.nil _ | refine Sub.cons rfl ?_)
          · refine Ent.blkC tc rfl (Ent.tak tk ?_)
            refine Ent.blkC tc rfl (Ent.blkC tc rfl (Ent.blkC tc rfl (Ent.blkC tc rfl (Ent.tak tk (Ent.blkC tc rfl ?_)))))
            refine Ent.oslC to rfl rfl rfl rfl rfl rfl (Ent.oslC to rfl rfl rfl rfl rfl rfl (Ent.oslC to rfl rfl rfl rfl rfl rfl (Ent.oslC to rfl rfl rfl rfl rfl rfl ?_)))
            exact Ent.tak tk (Ent.nil _)
          repeat' (first | ((refine e_op ?_); (first | refine o_n (peval_sound rfl) rfl ?_ | refine o_n (nl rfl rfl tc rfl) rfl ?_)) | refine s_seq ?_ | refine s_region ?_)
          refine e_op (o_n (n_index rfl rfl rfl rfl 2 rfl (by decide)) rfl ?_)
          refine e_op (o_storeO (vs := encZ ⟨2, 3⟩) rfl rfl rfl rfl to uc rfl rfl (by decide) ?_)
          repeat' (first | refine e_nil ?_ | ((refine e_op ?_); (first | refine o_n (peval_sound rfl) rfl ?_ | refine o_n (nl rfl rfl tc rfl) rfl ?_)) | refine s_seq ?_ | refine s_region ?_)
          refine e_op (o_n (n_index rfl rfl rfl rfl 1 rfl (by decide)) rfl ?_)
          repeat' (((refine e_op ?_); (refine o_n (peval_sound rfl) rfl ?_)))
          refine e_op (o_storeO (vs := encZ ⟨1, 3⟩) rfl rfl rfl rfl to uc rfl rfl (by show _ ≤ 16; decide) ?_)
          repeat' (first | refine e_nil ?_ | ((refine e_op ?_); (refine o_n (nl rfl rfl tc rfl) rfl ?_)) | refine s_seq ?_ | refine s_region ?_)
          refine e_op (o_call (actOf_w (gSl gHan2 (some ⟨b0h, 0, none⟩) (some ⟨b1h, 0, none⟩) none (some ⟨b2h, 0, none⟩) (some ⟨bph, 0, none⟩) 4 4 0 2 4) gHan2 (fun _ => by decide)) rfl .nil ?_ rfl ?_)
          · refine can_ownG (W := []) (acs := [ha0, ha1, ha2, ha3]) rfl (grN_of (by decide +kernel)) ?_
            rw [List.append_nil]
            unfold ownG
            refine Ent.oslC to rfl rfl rfl rfl rfl rfl (Ent.oslC to rfl rfl rfl rfl rfl rfl (Ent.oslC to rfl rfl rfl rfl rfl rfl (Ent.osl0 (Ent.oslC to rfl rfl rfl rfl rfl rfl ?_))))
            exact Ent.trans (Ent.tak (A := prB [ha0, ha1, ha2, ha3] gHang.Prods) tk (Ent.nil _)) (Ent.refl _)
          rintro v V ⟨x, AAu, cAu, acsu, AGu, cGu, bcsu, ACu, cCu, rfl, ⟨lau, lgu, rfl, rfl⟩⟩
          obtain ⟨e3, e4⟩ := p_ok h2_lrE h2_e h2_cla h2_dec
          rw [e3, e4, h2_e]
          clear e3 e4 lau lgu
          simp only [List.cons_append, List.nil_append]
          repeat' (((refine e_op ?_); (first | refine o_n (peval_sound rfl) rfl ?_ | refine o_storeC rfl rfl rfl rfl tc uc rfl rfl rfl ?_ | refine o_alloc rfl rfl (fun _ => ?_))))
          rename_i b16x
          refine e_nil ?_
          refine s_weak (fr' := [(16, ptrN b16x), (17, .int .i64 0), (14, ptrN b14x), (15, .int .i64 210), (11, ptrN b11x), (12, .int .i64 210), (8, ptrN b8x), (9, .int .i64 0), (5, ptrN b5x), (6, .int .i64 210), (2, ptrN b2x), (3, .int .i64 210)]) (V := [blk b16x 36 [.slice AAu (pAct gHan2).length cAu, .slice AGu (pGot gHan2).length cGu, .slice ACu 0 cCu, .int .i64 (1 : Nat)], blk b14x 36 [.slice AAv ([] : List (List Acn)).length cAv, .slice AGv ([] : List (List Int)).length cGv, .slice ACv 1 cCv, .int .i64 (0 : Nat)], claS ACv 1 cCv [(4, 2)], blk b11x 36 [.slice AAw ([] : List (List Acn)).length cAw, .slice AGw ([] : List (List Int)).length cGw, .slice ACw 2 cCw, .int .i64 (0 : Nat)], blk b8x 36 [.slice AAz (pAct gBoth).length cAz, .slice AGz (pGot gBoth).length cGz, .slice ACz 0 cCz, .int .i64 (4 : Nat)], blk b5x 36 [.slice AAy ([] : List (List Acn)).length cAy, .slice AGy ([] : List (List Int)).length cGy, .slice ACy 1 cCy, .int .i64 (0 : Nat)], blk b2x 36 [.slice AAx ([] : List (List Acn)).length cAx, .slice AGx ([] : List (List Int)).length cGx, .slice ACx 1 cCx, .int .i64 (0 : Nat)], claS ACx 1 cCx [(1, 0)]]) ?_ ?_ ?_
          · repeat' (first | exact Sub.nil _ | refine Sub.cons rfl ?_)
          · unfold claS encCs
            repeat' (first | exact Ent.nil _ | refine Ent.tak tk ?_ | refine Ent.blkC tc rfl ?_)
          repeat' (first | ((refine e_op ?_); (refine o_n (peval_sound rfl) rfl ?_)) | refine s_seq ?_ | refine s_region ?_)
          refine e_op (o_call (actOf_w [.slice none 0 0, .slice none 0 0, .slice none 0 0, .slice none 0 0, .slice none 0 0] gNil (fun _ => by decide)) rfl .nil can_nilG rfl ?_)
          rintro v V ⟨x, AA, cA, acs, AG, cG, bcs, AC, cC, rfl, ⟨la, lg, rfl, rfl⟩⟩
          rw [nil_e]
          simp only [List.cons_append, List.nil_append]
          repeat' (first | refine e_nil ?_ | ((first | refine e_op ?_ | refine e_yes rfl ?_); (first | refine o_n (peval_sound rfl) rfl ?_ | refine o_storeC rfl rfl rfl rfl tc uc rfl rfl rfl ?_ | refine o_alloc rfl rfl (fun _ => ?_))) | refine s_seq ?_ | refine s_region ?_)
          refine e_yes rfl (o_call works21_w rfl .nil Can.tt rfl ?_)
          rintro v V ⟨rfl, rfl⟩
          simp only [List.nil_append]
          repeat' (((first | refine e_op ?_ | refine e_yes rfl ?_); (first | refine o_n (peval_sound rfl) rfl ?_ | refine o_n (nl rfl rfl tc rfl) rfl ?_)))
          refine e_open (TakA.tak (A := claS ACx 1 cCx [(1, 0)])) (by decide) ?_
          rintro bCx rfl
          refine e_open (TakA.tak (A := claS ACv 1 cCv [(4, 2)])) (by decide) ?_
          rintro bCv rfl
          refine e_yes rfl (o_n (n_index rfl rfl rfl rfl 0 rfl (by decide)) rfl ?_)
          repeat' (((refine e_yes rfl ?_); (refine o_n (peval_sound rfl) rfl ?_)))
          refine e_yes rfl (o_n (no rfl rfl to rfl) rfl ?_)
          repeat' (((first | refine e_op ?_ | refine e_yes rfl ?_); (first | refine o_n (peval_sound rfl) rfl ?_ | refine o_n (nl rfl rfl tc rfl) rfl ?_)))
          refine e_yes rfl (o_n (n_index rfl rfl rfl rfl 0 rfl (by decide)) rfl ?_)
          repeat' (((refine e_yes rfl ?_); (refine o_n (peval_sound rfl) rfl ?_)))
          refine e_yes rfl (o_n (no rfl rfl to rfl) rfl ?_)
          repeat' (first | refine e_nil ?_ | ((first | refine e_op ?_ | refine e_yes rfl ?_); (first | refine o_n (peval_sound rfl) rfl ?_ | refine o_n (nl rfl rfl tc rfl) rfl ?_)))
          refine s_ret ⟨_, _, res1 rfl rfl, ⟨rfl, rfl⟩, Ent.nil _⟩

end Go.Proofs.YtcnpjhaedjncdaaDoor
