/-
  The statement AheadReasons, walked.
-/
import Derived.Test.YtcbaebkkdkdaaaaDoorCQD6
import Derived.Test.YtcbaebkkdkdaaaaDoorCQD7
import Derived.Test.YtcbaebkkdkdaaaaDoorCQD9

namespace Go.Proofs.YtcbaebkkdkdaaaaDoor
set_option linter.all false
open Go.Proofs.YtcbaebkkdkdaaaaDoor.E

theorem on_i64 {g : Gram} (hL : Lims g) {o : On} (h : OnOk g o) : I64 o.x.Prod ∧ I64 o.x.Dot ∧ I64 o.t := by
  have h1 := inG_dot hL h.x
  have := h.t0; have := h.t; have := hL.t
  unfold I64; omega

attribute [local irreducible] EVX EVO EVL EV1 NEV
attribute [local irreducible] own osl exA rdA rdL
attribute [local irreducible] bldA mapA bun mapS
set_option maxRecDepth 10000
set_option maxHeartbeats 4000000

structure RSt where
  L : List (List On)
  M : List Nat
  S : List (List Bits)
  kcs : AcL
  AL : Option Addr
  cL : Nat
  AM : Option Addr
  cM : Nat
/-- Before the state i is looked at. -/
structure RInv (g : Gram) (n i : Nat) (x : RSt) : Prop where
  c : Cans g x.L x.M
  hl : x.kcs.length = x.L.length
  il : i ≤ x.L.length
  len : x.L.length ≤ 200
  d : ∀ j, j < i → DoneS g x.L x.M j (g.Terms.length + g.Nons.length)
  s : SeenT g x.S n (seenL x.L x.M i 0)
/-- While the state i goes on, by the symbols before s. -/
structure RIs (g : Gram) (n i s : Nat) (x : RSt) : Prop where
  c : Cans g x.L x.M
  hl : x.kcs.length = x.L.length
  il : i < x.L.length
  len : x.L.length ≤ 80 + s
  d : ∀ j, j < i → DoneS g x.L x.M j (g.Terms.length + g.Nons.length)
  di : DoneS g x.L x.M i s
  s : SeenT g x.S n (seenL x.L x.M i (x.L.getD i []).length)
abbrev encM (M : List Nat) : List Value := M.map fun (m : Nat) => Value.int .i64 m
theorem loadM {M : List Nat} {i o : Nat} (h : i < M.length) (ho : o = i) {s b : Nat} {z : List Value} : loadL ⟨.int .i64, s, b, z⟩ (encM M) o = some (.int .i64 M[i]) := by
  subst ho; exact load_cell rfl (by rw [List.getElem?_map, List.getElem?_eq_getElem h]; rfl)
theorem loadOs {l : List On} {k o : Nat} (h : k < l.length) (ho : o = 0 + k * 3) {z : List Value} : loadL ⟨.struct [(0, 2), (2, 1)], 3, 24, z⟩ (encOs l) o = some (.agg (encO l[k]).toArray) := by subst ho; exact encO_load h

theorem SeenT.hit {g : Gram} {S : List (List Bits)} {n : Nat} {l : List (Nat × On)} {m q d u : Nat} (h : SeenT g S n l) (hm : m < n) (hq : q < g.Prods.length) (hu : u < g.Terms.length) (hd : d = (prd g q).Right.length) : SeenT g (set3 S m q u) n (l ++ [(m, ⟨⟨q, d⟩, u⟩)]) := by
  refine ⟨h.shp.set3 hm hq, fun a b c ha hb hc => ?_⟩
  rw [bit3_set h.shp hm hq hu, Bool.or_eq_true, h.bits a b c ha hb hc, decide_eq_true_eq]
  constructor
  · rintro (⟨o, ho, h1, h2⟩ | ⟨rfl, rfl, rfl⟩)
    · exact ⟨o, List.mem_append_left _ ho, h1, h2⟩
    · exact ⟨_, List.mem_append_right _ (List.mem_singleton.2 rfl), by simp only; rw [hd], rfl⟩
  · rintro ⟨o, ho, h1, h2⟩
    rcases List.mem_append.1 ho with ho | ho
    · exact .inl ⟨o, ho, h1, h2⟩
    · rw [List.mem_singleton, Prod.mk.injEq] at ho
      obtain ⟨rfl, rfl⟩ := ho
      simp only [Itm.mk.injEq] at h1 h2
      exact .inr ⟨rfl, by omega, by omega⟩
theorem SeenT.miss {g : Gram} {S : List (List Bits)} {n : Nat} {l : List (Nat × On)} {m q d u : Nat} (h : SeenT g S n l) (hd : d ≠ (prd g q).Right.length) : SeenT g S n (l ++ [(m, ⟨⟨q, d⟩, u⟩)]) := by
  refine ⟨h.shp, fun a b c ha hb hc => ?_⟩
  rw [h.bits a b c ha hb hc]
  constructor
  · rintro ⟨o, ho, h1, h2⟩
    exact ⟨o, List.mem_append_left _ ho, h1, h2⟩
  · rintro ⟨o, ho, h1, h2⟩
    rcases List.mem_append.1 ho with ho | ho
    · exact ⟨o, ho, h1, h2⟩
    · rw [List.mem_singleton, Prod.mk.injEq] at ho
      obtain ⟨rfl, rfl⟩ := ho
      simp only [Itm.mk.injEq] at h1
      obtain ⟨e1, e2⟩ := h1
      have : q = b := by omega
      subst this
      exact absurd (by omega) hd

abbrev zzR (g : Gram) : List Bits := List.replicate g.Prods.length (List.replicate g.Terms.length false)
theorem zz_shp (g : Gram) (n : Nat) : Shp (List.replicate n (zzR g)) n g.Prods.length g.Terms.length := by
  refine ⟨List.length_replicate, fun i h => ?_, fun i h k h2 => ?_⟩
  · rw [List.getElem_replicate, List.length_replicate]
  · have e : (List.replicate n (zzR g))[i] = zzR g := List.getElem_replicate ..
    have : ∀ (r : List Bits) (hk : k < r.length), r = zzR g → r[k].length = g.Terms.length := fun r hk e => by subst e; rw [List.getElem_replicate, List.length_replicate]
    exact this _ h2 e

theorem aheadReasons_w (cs : List Value) (g : Gram) : Trip Tryd.prog 10 [.agg cs.toArray] (kGram.rd cs g) [] (fun v V => v = .bool true ∧ V = []) := by
  refine trip Tryd.tabOk Tryd.func10 rfl rfl rfl rfl ?_
  rintro w SM hG0
  obtain ⟨A0, A1, A2, A3, A4, c0, c1, c2, c3, c4, rfl, hG⟩ := kGram_open hG0
  repeat' (first | refine e_nil ?_ | ((refine e_op ?_); (first | refine o_n (peval_sound rfl) rfl ?_ | refine o_box rfl rfl (fun _ => ?_))) | refine s_seq ?_ | refine s_region ?_)
  rename_i bg
  refine e_op (o_call works20_w rfl .nil Can.tt rfl ?_)
  rintro v V ⟨rfl, rfl⟩
  simp only [List.nil_append]
  repeat' (first | refine e_nil ?_ | ((refine e_op ?_); (first | refine o_n (peval_sound rfl) rfl ?_ | refine o_n (nl rfl rfl tc rfl) rfl ?_)) | refine s_seq ?_ | refine s_region ?_ | refine s_skip ?_ | refine s_false rfl ?_)
  refine e_op (o_call (check_w _ g) rfl .nil (Can.ro hG0) rfl ?_)
  rintro v V ⟨rfl, rfl⟩
  simp only [List.nil_append]
  repeat' (((refine e_op ?_); (refine o_n (peval_sound rfl) rfl ?_)))
  by_cases he : checkE g ≠ 0
  · rw [show (checkE g != 0) = true by simpa using he]
    repeat' (first | refine e_nil ?_ | ((refine e_op ?_); (refine o_n (peval_sound rfl) rfl ?_)) | refine e_noU rfl rfl rfl ?_ | refine s_seq ?_ | refine s_region ?_ | refine s_true rfl ?_)
    refine s_ret ⟨_, _, res1 rfl rfl, ⟨rfl, rfl⟩, Ent.nil _⟩
  replace he : checkE g = 0 := Classical.not_not.1 he
  rw [show (checkE g != 0) = false by simpa using he]
  repeat' (((first | refine e_op ?_ | refine e_yes rfl ?_); (first | refine o_n (peval_sound rfl) rfl ?_ | refine o_n (nl rfl rfl tc rfl) rfl ?_)))
  by_cases hP12 : ¬ (g.Prods.length : Int) ≤ 12
  · rw [decide_eq_true (p := (g.Prods.length : Int) > 12) (by omega)]
    repeat' (first | refine e_nil ?_ | ((refine e_op ?_); (refine o_n (peval_sound rfl) rfl ?_)) | refine e_noU rfl rfl rfl ?_ | refine s_seq ?_ | refine s_region ?_ | refine s_true rfl ?_)
    refine s_ret ⟨_, _, res1 rfl rfl, ⟨rfl, rfl⟩, Ent.nil _⟩
  replace hP12 := Classical.not_not.1 hP12
  rw [decide_eq_false (p := (g.Prods.length : Int) > 12) (by omega)]
  repeat' (((first | refine e_op ?_ | refine e_yes rfl ?_); (first | refine o_n (peval_sound rfl) rfl ?_ | refine o_n (nl rfl rfl tc rfl) rfl ?_)))
  by_cases hT8 : ¬ (g.Terms.length : Int) ≤ 8
  · rw [decide_eq_true (p := (g.Terms.length : Int) > 8) (by omega)]
    repeat' (first | refine e_nil ?_ | ((refine e_op ?_); (refine o_n (peval_sound rfl) rfl ?_)) | refine e_noU rfl rfl rfl ?_ | refine s_seq ?_ | refine s_region ?_ | refine s_true rfl ?_)
    refine s_ret ⟨_, _, res1 rfl rfl, ⟨rfl, rfl⟩, Ent.nil _⟩
  replace hT8 := Classical.not_not.1 hT8
  rw [decide_eq_false (p := (g.Terms.length : Int) > 8) (by omega)]
  repeat' (((refine e_yes rfl ?_); (refine o_n (nl rfl rfl tc rfl) rfl ?_)))
  refine e_yes rfl (o_call (wide20_w _ g) rfl .nil (Can.ro hG0) rfl ?_)
  rintro v V ⟨⟨b, rfl, hw5⟩, rfl⟩
  simp only [List.nil_append]
  repeat' (first | refine e_nil ?_ | ((refine e_op ?_); (refine o_n (peval_sound rfl) rfl ?_)))
  cases b with
  | true =>
    repeat' (first | refine e_nil ?_ | ((refine e_op ?_); (refine o_n (peval_sound rfl) rfl ?_)) | refine s_seq ?_ | refine s_region ?_ | refine s_true rfl ?_)
    refine s_ret ⟨_, _, res1 rfl rfl, ⟨rfl, rfl⟩, Ent.nil _⟩
  | false =>
  repeat' (first | ((refine e_op ?_); (refine o_n (nl rfl rfl tc rfl) rfl ?_)) | refine s_seq ?_ | refine s_region ?_ | refine s_skip ?_ | refine s_false rfl ?_)
  refine e_op (o_call (ofP_w _ g (fun _ => by omega)) rfl .nil (Can.ro hG0) rfl ?_)
  rintro v V ⟨x, rfl, AK, cK, kerc, AG, cG, bcs, hkl, hb, rfl, rfl⟩
  simp only [List.cons_append, List.nil_append]
  repeat' (first | refine e_nil ?_ | ((refine e_op ?_); (first | refine o_n (peval_sound rfl) rfl ?_ | refine o_n (nl rfl rfl tc rfl) rfl ?_ | refine o_storeC rfl rfl rfl rfl tc uc rfl rfl rfl ?_ | refine o_alloc rfl rfl (fun _ => ?_))) | refine s_seq ?_ | refine s_region ?_)
  refine e_op (o_call (aheadOf_w _ g (fun _ => by omega)) rfl .nil (Can.ro hG0) rfl ?_)
  rintro v V ⟨AX, n, cX, acs, D, rfl, hn, hal, hD, hDr, rfl⟩
  simp only [List.cons_append, List.nil_append]
  repeat' (first | refine e_nil ?_ | ((refine e_op ?_); (refine o_n (peval_sound rfl) rfl ?_)) | refine s_seq ?_ | refine s_region ?_)
  rcases (lrE_vals he).symm with h5 | h0
  · rw [h5]
    repeat' (first | refine e_nil ?_ | ((refine e_op ?_); (refine o_n (peval_sound rfl) rfl ?_)) | refine e_noU rfl rfl rfl ?_ | refine s_seq ?_ | refine s_region ?_ | refine s_true rfl ?_)
    refine s_ret ⟨_, _, res1 rfl rfl, ⟨rfl, rfl⟩, Ent.nil _⟩
  rw [h0]
  have hF := goF h0
  have hXP : ∀ (i : Nat) (hi : i < (laX g).length), (laX g)[i].length = g.Prods.length := fun i hi => by rw [laX_row h0 hi, YR_len]
  have hXv : ∀ (i k : Nat) (hi : i < (laX g).length) (hk : k < (laX g)[i].length), (laX g)[i][k] = laRow g i k := fun i k hi hk => laX_at h0 hi hk
  have hXn : (laX g).length = (lrKs g).length := laX_len h0
  generalize hXe : laX g = X at hXn hn hal hD hDr hXP hXv ⊢
  clear hXe
  subst hn
  have hL := hF.lim
  have hwf := hF.wf
  have hT1 := hwf.t
  have hN2 := hwf.n
  have hNo := hL.n
  have hP0 := hwf.prods
  have hX512 : X.length ≤ 512 := by rw [hXn]; exact hF.n
  have hXl : 0 < X.length := by rw [hXn]; exact hF.p0
  have hok00 : ∀ o ∈ [(⟨⟨0, 0⟩, 0⟩ : On)], OnOk g o := fun o ho => by
    rw [List.mem_singleton] at ho
    subst ho
    refine ⟨?_, by simp, by simp only; omega⟩
    unfold inG
    simp only [Bool.and_eq_true, decide_eq_true_eq]
    omega
  repeat' (first | refine e_nil ?_ | ((first | refine e_op ?_ | refine e_yes rfl ?_); (first | refine o_n (peval_sound rfl) rfl ?_ | refine o_n (nl rfl rfl tc rfl) rfl ?_)) | refine s_seq ?_ | refine s_region ?_ | refine s_skip ?_ | refine s_false rfl ?_)
  refine e_op (o_lit (ps := [(0, .agg (encO ⟨⟨0, 0⟩, 0⟩).toArray)]) (cs := encO ⟨⟨0, 0⟩, 0⟩) rfl rfl rfl rfl rfl rfl rfl (fun bz => ?_))
  refine e_op (o_call (closedO_w _ g he (some ⟨bz, 0, none⟩) 1 [⟨⟨0, 0⟩, 0⟩] (by simp) hok00) rfl .nil (Can.and (Can.ro hG0) (can_ons rfl .z (fun o ho => on_i64 hL (hok00 o ho)) (by simp))) rfl ?_)
  rintro v V ⟨R0, AR, cR, rfl, rfl, hs0, hk0, hR0⟩
  have hO0 := over0 h0 hs0 hk0 hR0
  simp only [List.cons_append, List.nil_append]
  refine e_op (o_lit (ps := [(0, .slice AR R0.length cR)]) (cs := [.slice AR R0.length cR]) rfl rfl rfl rfl rfl rfl rfl (fun bL => ?_))
  repeat' (first | refine e_nil ?_ | ((refine e_op ?_); (refine o_n (peval_sound rfl) rfl ?_)) | refine s_seq ?_ | refine s_region ?_)
  refine e_op (o_lit (ps := [(0, .int .i64 0)]) (cs := [.int .i64 0]) rfl rfl rfl rfl rfl rfl rfl (fun bM => ?_))
  repeat' (first | refine e_nil ?_ | ((refine e_op ?_); (refine o_n (peval_sound rfl) rfl ?_)) | refine s_seq ?_ | refine s_region ?_)
  refine e_op (o_make rfl rfl rfl rfl X.length rfl rfl (by omega) (by omega) rfl (fun bS => ?_))
  repeat' (first | refine e_nil ?_ | ((refine e_op ?_); (refine o_n (peval_sound rfl) rfl ?_)) | refine s_seq ?_ | refine s_region ?_ | refine s_block ?_)
  rename_i bl
  have e69 : ∀ i, (rowVs (List.replicate i ([] : AcL)) (List.replicate i ([] : List Bits))).length = i := fun i => by rw [rowVs_len (by simp)]; simp
  refine s_loopK (ι := {x : Nat × AcL × List AcL // x.1 ≤ X.length ∧ x.2.1.length = x.1 ∧ x.2.2.length = x.1 ∧ ∀ d ∈ x.2.2, d.length = g.Prods.length}) [1, 3, 5, 7, 8, 9] rfl ⟨(0, [], []), by simp⟩ (fun x => [(10, .int .i64 x.1.1)])
    (fun x => [osl 69 1 (.slice (some ⟨bS, 0, none⟩) X.length X.length) X.length (rowC x.1.2.1 (rowVs x.1.2.2 (List.replicate x.1.1 (zzR g))) ++ List.replicate (X.length - x.1.1) nilV), rowO x.1.2.1 x.1.2.2 (List.replicate x.1.1 (zzR g)), bun (innB x.1.2.2 (List.replicate x.1.1 (zzR g))), osl 72 1 (.slice (some ⟨bL, 0, none⟩) 1 1) 1 (rowC [(AR, cR)] [R0]), bun (rowX encOs 3 75 [(AR, cR)] [R0]), osl 3 1 (.slice (some ⟨bM, 0, none⟩) 1 1) 1 [.int .i64 0], osl 69 1 (.slice AX X.length cX) X.length (rowC acs (rowVs D X)), rowO acs D X, bun (innB D X), blk bl 35 [.slice AK (lrKs g).length cK, .slice AG (lrGs g).length cG], gotS AG (lrGs g).length cG bcs (lrGs g), gotB bcs (lrGs g), blk bg 27 [.slice A0 g.Terms.length c0, .slice A1 g.Levels.length c1, .slice A2 g.Pats.length c2, .slice A3 g.Nons.length c3, .slice A4 g.Prods.length c4]]) (fun x => X.length - x.1.1) ?_ ?_ ?_
  · repeat' (first | exact Sub.nil _ | refine Sub.cons rfl ?_)
  · refine Ent.cons ?_
    refine Ent.trans ?_ (ent_bnil0.trans (Ent.cons (ent_bun (L := []))))
    refine Ent.tak (.s .z) ?_
    refine Ent.trans (Ent.tak (.s .z) (Ent.refl _)) ?_
    exact Ent.trans (ent_bun (L := [_])) (Ent.cons (Ent.cons (Ent.wk (Ent.cons (Ent.cons (Ent.cons (Ent.cons (Ent.wk (Ent.wk (Ent.refl _))))))))))
  clear e69
  rintro ⟨⟨i, sacs, sD⟩, hi, hsa, hsD, hsl⟩
  simp only at hi hsa hsD hsl ⊢
  have hrl : (List.replicate i (zzR g)).length = i := List.length_replicate
  have hvl : (rowVs sD (List.replicate i (zzR g))).length = i := by rw [rowVs_len (by rw [hrl]; exact hsD), hrl]
  have hrc : (rowC sacs (rowVs sD (List.replicate i (zzR g)))).length = i := by rw [rowC_len0 (by rw [hvl]; exact hsa), hvl]
  repeat' (first | refine e_nil ?_ | ((refine e_op ?_); (refine o_n (peval_sound rfl) rfl ?_)) | refine s_seq ?_ | refine s_region ?_)
  by_cases hil : i < X.length
  · rw [decide_eq_true (p := (i : Int) < (X.length : Int)) (by omega)]
    repeat' (first | ((refine e_op ?_); (first | refine o_n (peval_sound rfl) rfl ?_ | refine o_n (nl rfl rfl tc rfl) rfl ?_)) | refine s_seq ?_ | refine s_region ?_ | refine s_block ?_ | refine s_skip ?_ | refine s_true rfl ?_)
    refine e_op (o_make rfl rfl rfl rfl g.Prods.length rfl rfl (by omega) (by omega) rfl (fun bR => ?_))
    refine e_op (o_n (n_index rfl rfl rfl rfl i rfl hil) rfl ?_)
    refine e_op (o_store_osl (vs := [.slice (some ⟨bR, 0, none⟩) g.Prods.length g.Prods.length]) rfl rfl rfl rfl rfl rfl (by rw [pad_len hrc hi]; simp only; omega) (.s .z) ?_)
    rw [pad_set1 hrc hil]
    repeat' (first | refine e_nil ?_ | ((refine e_op ?_); (refine o_n (peval_sound rfl) rfl ?_)) | refine s_seq ?_ | refine s_region ?_ | refine s_block ?_)
    obtain ⟨OC, hOC⟩ : ∃ OC, OC = rowC sacs (rowVs sD (List.replicate i (zzR g))) ++ [Value.slice (some ⟨bR, 0, none⟩) g.Prods.length g.Prods.length] ++ List.replicate (X.length - (i + 1)) nilV := ⟨_, rfl⟩
    have hOCs : OC[i]? = some (Value.slice (some ⟨bR, 0, none⟩) g.Prods.length g.Prods.length) := by
      rw [hOC, List.append_assoc, List.getElem?_append_right (by omega), hrc, Nat.sub_self]; rfl
    rw [← hOC]
    refine s_loopK (ι := {y : Nat × AcL // y.1 ≤ g.Prods.length ∧ y.2.length = y.1}) [1, 3, 5, 7, 8, 9, 10] rfl ⟨(0, []), by simp⟩ (fun y => [(11, .int .i64 y.1.1)])
      (fun y => [osl 70 1 (.slice (some ⟨bR, 0, none⟩) g.Prods.length g.Prods.length) g.Prods.length (rowC y.1.2 (List.replicate y.1.1 (List.replicate g.Terms.length false)) ++ List.replicate (g.Prods.length - y.1.1) nilV), bun (rowX cB 1 4 y.1.2 (List.replicate y.1.1 (List.replicate g.Terms.length false))), osl 69 1 (.slice (some ⟨bS, 0, none⟩) X.length X.length) X.length OC, rowO sacs sD (List.replicate i (zzR g)), bun (innB sD (List.replicate i (zzR g))), osl 72 1 (.slice (some ⟨bL, 0, none⟩) 1 1) 1 (rowC [(AR, cR)] [R0]), bun (rowX encOs 3 75 [(AR, cR)] [R0]), osl 3 1 (.slice (some ⟨bM, 0, none⟩) 1 1) 1 [.int .i64 0], osl 69 1 (.slice AX X.length cX) X.length (rowC acs (rowVs D X)), rowO acs D X, bun (innB D X), blk bl 35 [.slice AK (lrKs g).length cK, .slice AG (lrGs g).length cG], gotS AG (lrGs g).length cG bcs (lrGs g), gotB bcs (lrGs g), blk bg 27 [.slice A0 g.Terms.length c0, .slice A1 g.Levels.length c1, .slice A2 g.Pats.length c2, .slice A3 g.Nons.length c3, .slice A4 g.Prods.length c4]])
      (fun y => g.Prods.length - y.1.1) ?_ ?_ ?_
    · repeat' (first | exact Sub.nil _ | refine Sub.cons rfl ?_)
    · exact Ent.cons ent_bnil0
    rintro ⟨⟨k, d⟩, hk, hd⟩
    simp only at hk hd ⊢
    have hdy : d.length = (List.replicate k (List.replicate g.Terms.length false)).length := by rw [List.length_replicate]; exact hd
    have hdc : (rowC d (List.replicate k (List.replicate g.Terms.length false))).length = k := by rw [rowC_len0 hdy, List.length_replicate]
    repeat' (first | refine e_nil ?_ | ((refine e_op ?_); (first | refine o_n (peval_sound rfl) rfl ?_ | refine o_n (nl rfl rfl tc rfl) rfl ?_)) | refine s_seq ?_ | refine s_region ?_)
    by_cases hkl2 : k < g.Prods.length
    · rw [decide_eq_true (p := (k : Int) < (g.Prods.length : Int)) (by omega)]
      repeat' (first | refine s_seq ?_ | refine s_block ?_ | refine s_skip ?_ | refine s_true rfl ?_)
      refine s_anyT .z Tryd.mixed ?_
      (refine a_n 0 rfl (peval_sound rfl) (by decide +kernel) (by (repeat' (first | exact Ent.refl _ | refine Ent.wk ?_))) rfl ?_); (refine a_n 1 rfl (peval_sound rfl) (by decide +kernel) (by (repeat' (first | exact Ent.refl _ | refine Ent.wk ?_))) rfl ?_)
      refine a_n 2 rfl (n_index rfl rfl rfl rfl i rfl hil) (by decide +kernel) (by (repeat' (first | exact Ent.refl _ | refine Ent.wk ?_))) rfl ?_
      refine a_n 3 rfl (n_load_osl rfl rfl (.s .z) (load_cell rfl (by simpa using hOCs))) (by decide +kernel) (by (repeat' (first | exact Ent.refl _ | refine Ent.wk ?_))) rfl ?_
      (refine a_n 4 rfl (peval_sound rfl) (by decide +kernel) (by (repeat' (first | exact Ent.refl _ | refine Ent.wk ?_))) rfl ?_); (refine a_n 5 rfl (peval_sound rfl) (by decide +kernel) (by (repeat' (first | exact Ent.refl _ | refine Ent.wk ?_))) rfl ?_); (first | refine a_n 6 rfl (peval_sound rfl) (by decide +kernel) (by (repeat' (first | exact Ent.refl _ | refine Ent.wk ?_))) rfl ?_ | refine a_n 6 rfl (nl rfl rfl tc rfl) (by decide +kernel) (by (repeat' (first | exact Ent.refl _ | refine Ent.wk ?_))) rfl ?_); (refine a_n 7 rfl (peval_sound rfl) (by decide +kernel) (by (repeat' (first | exact Ent.refl _ | refine Ent.wk ?_))) rfl ?_)
      refine a_1 8 (by decide +kernel) rfl rfl (o_make rfl rfl rfl rfl g.Terms.length rfl rfl (by omega) (by omega) rfl (fun bT => ⟨(by (repeat' (first | exact Ent.refl _ | refine Ent.wk ?_))), ?_⟩))
      refine a_n 9 rfl (n_index rfl rfl rfl rfl k rfl hkl2) (by decide +kernel) (by (repeat' (first | exact Ent.refl _ | refine Ent.wk ?_))) rfl ?_
      refine a_1 10 (by decide +kernel) rfl rfl (o_store_osl (vs := [.slice (some ⟨bT, 0, none⟩) g.Terms.length g.Terms.length]) rfl rfl rfl rfl rfl rfl (by rw [pad_len hdc hk]; simp only; omega) (.s .z) ⟨(by (repeat' (first | exact Ent.refl _ | refine Ent.wk ?_))), ?_⟩)
      rw [pad_set1 hdc hkl2]
      refine a_done (by decide +kernel) ?_
      repeat' (first | refine e_nil ?_ | ((refine e_op ?_); (refine o_n (peval_sound rfl) rfl ?_)) | refine s_region ?_ | refine s_end ?_)
      have hzl : (List.replicate g.Terms.length false).length = g.Terms.length := List.length_replicate
      have e4 : osl 4 1 (.slice (some ⟨bT, 0, none⟩) g.Terms.length g.Terms.length) g.Terms.length (List.replicate g.Terms.length (Value.bool false)) = rowA cB 1 4 (some ⟨bT, 0, none⟩, g.Terms.length) (List.replicate g.Terms.length false) := by
        show _ = osl 4 1 (.slice (some ⟨bT, 0, none⟩) (List.replicate g.Terms.length false).length g.Terms.length) (List.replicate g.Terms.length false).length (cB (List.replicate g.Terms.length false))
        rw [hzl]; unfold cB; rw [List.map_replicate]
      have hrs : rowC (d ++ [(some ⟨bT, 0, none⟩, g.Terms.length)]) (List.replicate k (List.replicate g.Terms.length false) ++ [List.replicate g.Terms.length false]) = rowC d (List.replicate k (List.replicate g.Terms.length false)) ++ [.slice (some ⟨bT, 0, none⟩) g.Terms.length g.Terms.length] := by
        rw [Go.Proofs.YtcbaebkkdkdaaaaDoor.E.rowC_snoc hdy, hzl]
      refine s_back ⟨⟨(k + 1, d ++ [(some ⟨bT, 0, none⟩, g.Terms.length)]), by simp only; omega, by simp [hd]⟩, by simp only; omega, ?_, ?_⟩
      · repeat' (first | exact Sub.nil _ | refine Sub.cons rfl ?_ | refine Sub.consE rfl ?_ ?_)
        exact inc (i := k) (by omega)
      · simp only
        rw [List.replicate_succ' (n := k), hrs, e4]
        refine Ent.tak (.s .z) ?_
        exact Ent.trans (ent_bsnoc hdy) (Ent.refl _)
    · rw [decide_eq_false (p := (k : Int) < (g.Prods.length : Int)) (by omega)]
      obtain rfl : k = g.Prods.length := by omega
      repeat' (first | refine e_nil ?_ | ((refine e_op ?_); (refine o_n (peval_sound rfl) rfl ?_)) | refine s_region ?_ | refine s_end ?_ | refine s_exit ?_ | refine s_false rfl ?_ | refine x_hit ?_ | refine x_code ?_ | refine x_back ?_)
      have e70 : osl 70 1 (.slice (some ⟨bR, 0, none⟩) g.Prods.length g.Prods.length) g.Prods.length (rowC d (zzR g)) = rowA (fun l : List Value => l) 1 70 (some ⟨bR, 0, none⟩, g.Prods.length) (rowC d (zzR g)) := by
        show _ = osl 70 1 (.slice _ (rowC d (zzR g)).length _) (rowC d (zzR g)).length _
        rw [hdc]
      have hDX : sD.length = (List.replicate i (zzR g)).length := by rw [hrl]; exact hsD
      refine s_back ⟨⟨(i + 1, sacs ++ [(some ⟨bR, 0, none⟩, g.Prods.length)], sD ++ [d]), by simp only; omega, by simp [hsa], by simp [hsD], fun x hx => ?_⟩, by simp only; omega, ?_, ?_⟩
      · rcases List.mem_append.1 hx with hx | hx
        · exact hsl x hx
        · rw [List.mem_singleton] at hx; subst hx; exact hd
      · repeat' (first | exact Sub.nil _ | refine Sub.cons rfl ?_ | refine Sub.consE rfl ?_ ?_)
        exact inc (i := i) (by omega)
      · simp only
        have hR : rowO (sacs ++ [(some ⟨bR, 0, none⟩, g.Prods.length)]) (sD ++ [d]) (List.replicate i (zzR g) ++ [zzR g]) = bun (rowX (fun l : List Value => l) 1 70 (sacs ++ [(some ⟨bR, 0, none⟩, g.Prods.length)]) (rowVs sD (List.replicate i (zzR g)) ++ [rowC d (zzR g)])) := by
          show bun (rowX _ 1 70 _ (rowVs _ _)) = _
          rw [rowVs_snoc hDX]
        rw [List.replicate_succ' (n := i), hR, rowVs_snoc hDX, innB_snoc hDX, Go.Proofs.YtcbaebkkdkdaaaaDoor.E.rowC_snoc (acs := sacs) (rows := rowVs sD (List.replicate i (zzR g))) (ac := (some ⟨bR, 0, none⟩, g.Prods.length)) (r := rowC d (zzR g)) (by rw [hvl]; exact hsa), hdc, ← hOC, Nat.sub_self, List.replicate_zero, List.append_nil, e70]
        refine Ent.tak (.s (.s .z)) ?_
        refine Ent.trans (Ent.cons (Ent.tak (.s .z) (Ent.refl _))) ?_
        refine Ent.trans (ent_bsnoc (by rw [hvl]; exact hsa)) (Ent.cons ?_)
        exact ent_bunSnoc
  rw [decide_eq_false (p := (i : Int) < (X.length : Int)) (by omega)]
  obtain rfl : i = X.length := by omega
  rw [Nat.sub_self, List.replicate_zero, List.append_nil]
  have hsD0 : sD.length = (List.replicate X.length (zzR g)).length := by rw [hrl]; exact hsD
  have hsa0 : sacs.length = (List.replicate X.length (zzR g)).length := by rw [hrl]; exact hsa
  have hZ := zz_shp g X.length
  have hDr0 : ∀ (i : Nat) (h1 : i < sD.length) (h2 : i < (List.replicate X.length (zzR g)).length), sD[i].length = (List.replicate X.length (zzR g))[i].length := fun i h1 h2 => by rw [hZ.p]; exact hsl _ (List.getElem_mem h1)
  have hbit0 : ∀ a b c, bit3 (List.replicate X.length (zzR g)) a b c = false := fun a b c => by
    unfold bit3
    cases h1 : (List.replicate X.length (zzR g))[a]? with
    | none => simp [List.getD_eq_getElem?_getD, h1]
    | some r =>
      have := List.mem_of_getElem? h1
      rw [List.mem_replicate] at this
      obtain ⟨_, rfl⟩ := this
      rw [List.getD_eq_getElem?_getD (l := List.replicate X.length (zzR g)), h1, Option.getD_some]
      cases h2 : (zzR g)[b]? with
      | none => simp [List.getD_eq_getElem?_getD, h2]
      | some r2 =>
        have := List.mem_of_getElem? h2
        rw [List.mem_replicate] at this
        obtain ⟨_, rfl⟩ := this
        rw [List.getD_eq_getElem?_getD (l := zzR g), h2, Option.getD_some, List.getD_eq_getElem?_getD]
        cases h3 : (List.replicate g.Terms.length false)[c]? with
        | none => rfl
        | some v => have := List.mem_of_getElem? h3; rw [List.mem_replicate] at this; rw [this.2]; rfl
  generalize hS0 : List.replicate X.length (zzR g) = S0 at hsD0 hsa0 hZ hDr0 hbit0 ⊢
  clear hrl hvl hrc hS0
  refine s_open (.s (.s (.s (.s (.s (.s .z)))))) hXl ?_
  rintro bX rfl
  have hG0l : 0 < (lrGs g).length := by rw [hF.gk]; exact hF.p0
  refine s_open (.s (.s (.s (.s (.s (.s (.s (.s (.s (.s (.z))))))))))) hG0l ?_
  rintro bG rfl
  refine s_addrs (.s (.s (.s (.s (.s (.s (.s (.s (.s (.s (.s (.z)))))))))))) hb (fun hGA => ?_)
  refine s_addrs (.s .z) (by rw [rowVs_len hsD0]; exact hsa0) (fun hSA => ?_)
  refine s_innA (.s (.s .z)) hsD0 hDr0 (fun hSI => ?_)
  refine s_addrs (.s (.s (.s (.s (.s (.s (.s (.z)))))))) (by rw [rowVs_len hD]; exact hal) (fun hXA => ?_)
  refine s_innA (.s (.s (.s (.s (.s (.s (.s (.s (.z))))))))) hD hDr (fun hXI => ?_)
  have hR0m : (⟨⟨0, 0⟩, 0⟩ : On) ∈ R0 := (hR0 _).2 (.base (List.mem_singleton.2 rfl))
  have hstart : RInv g X.length 0 ⟨[R0], [0], S0, [(AR, cR)], some ⟨bL, 0, none⟩, 1, some ⟨bM, 0, none⟩, 1⟩ := by
    refine ⟨⟨rfl, fun j h h2 => ?_, ⟨by simp, by simp, rfl, hR0m⟩⟩, rfl, Nat.zero_le _, by simp, fun j hj => absurd hj (Nat.not_lt_zero _), ⟨hZ, fun a b c _ _ _ => ?_⟩⟩
    · have : j = 0 := by simp at h; omega
      subst this; exact hO0
    · simp only [hbit0]
      refine ⟨(fun h => by cases h), (fun h => ?_)⟩
      obtain ⟨o, ho, _⟩ := h
      unfold seenL at ho
      simp at ho
  repeat' (first | refine e_nil ?_ | ((refine e_op ?_); (refine o_n (peval_sound rfl) rfl ?_)) | refine s_seq ?_ | refine s_region ?_ | refine s_block ?_ | refine s_exit ?_ | refine s_false rfl ?_ | refine x_hit ?_ | refine x_code ?_ | refine x_back ?_)
  refine s_loopK (ι := {x : Nat × RSt // RInv g X.length x.1 x.2}) [1, 3, 5, 9] rfl ⟨(0, _), hstart⟩ (fun x => [(12, .int .i64 x.1.1), (7, .slice x.1.2.AL x.1.2.L.length x.1.2.cL), (8, .slice x.1.2.AM x.1.2.M.length x.1.2.cM)])
    (fun x => [osl 69 1 (.slice (some ⟨bS, 0, none⟩) X.length X.length) X.length (rowC sacs (rowVs sD S0)), rowO sacs sD S0, bun (innB sD x.1.2.S), osl 72 1 (.slice x.1.2.AL x.1.2.L.length x.1.2.cL) x.1.2.L.length (rowC x.1.2.kcs x.1.2.L), bun (rowX encOs 3 75 x.1.2.kcs x.1.2.L), osl 3 1 (.slice x.1.2.AM x.1.2.M.length x.1.2.cM) x.1.2.M.length (encM x.1.2.M), osl 69 1 (.slice (some ⟨bX, 0, none⟩) X.length cX) X.length (rowC acs (rowVs D X)), rowO acs D X, bun (innB D X), blk bl 35 [.slice AK (lrKs g).length cK, .slice (some ⟨bG, 0, none⟩) (lrGs g).length cG], gotS (some ⟨bG, 0, none⟩) (lrGs g).length cG bcs (lrGs g), gotB bcs (lrGs g), blk bg 27 [.slice A0 g.Terms.length c0, .slice A1 g.Levels.length c1, .slice A2 g.Pats.length c2, .slice A3 g.Nons.length c3, .slice A4 g.Prods.length c4]]) (fun x => 81 - x.1.1) ?_ (Ent.refl _) ?_
  · repeat' (first | exact Sub.nil _ | refine Sub.cons rfl ?_)
  rintro ⟨⟨i, ⟨L, M, S, kcs, AL, cL, AM, cM⟩⟩, hI⟩
  simp only at hI ⊢
  have hLM := hI.c.len
  have hlen := hI.len
  have hkl2 := hI.hl
  obtain ⟨hL0, hM0, _, _⟩ := hI.c.first
  simp only at hLM hlen hkl2 hL0 hM0
  refine s_open (.s (.s (.s .z))) hL0 ?_
  rintro bL2 rfl
  refine s_open (.s (.s (.s (.s (.s (.z)))))) hM0 ?_
  rintro bM2 rfl
  refine s_addrs (.s (.s (.s (.s .z)))) hkl2 (fun hKA => ?_)
  repeat' (first | refine e_nil ?_ | ((refine e_op ?_); (refine o_n (peval_sound rfl) rfl ?_)) | refine s_seq ?_ | refine s_region ?_)
  by_cases hil : i < L.length
  · rw [decide_eq_true (p := (i : Int) < (L.length : Int)) (by omega)]
    repeat' (first | refine e_nil ?_ | ((refine e_op ?_); (refine o_n (peval_sound rfl) rfl ?_)) | refine s_seq ?_ | refine s_region ?_ | refine s_block ?_ | refine s_skip ?_ | refine s_true rfl ?_)
    by_cases h80 : L.length > 80
    · rw [decide_eq_true (p := (L.length : Int) > 80) (by omega)]
      repeat' (first | refine e_nil ?_ | ((refine e_op ?_); (refine o_n (peval_sound rfl) rfl ?_)) | refine s_seq ?_ | refine s_region ?_ | refine s_true rfl ?_)
      refine s_ret ⟨_, _, res1 rfl rfl, ⟨rfl, rfl⟩, Ent.nil _⟩
    rw [decide_eq_false (p := (L.length : Int) > 80) (by omega)]
    repeat' (first | refine e_nil ?_ | ((refine e_op ?_); (refine o_n (peval_sound rfl) rfl ?_)) | refine s_seq ?_ | refine s_region ?_ | refine s_block ?_ | refine s_skip ?_ | refine s_false rfl ?_)
    have hiM : i < M.length := by omega
    have hOi := hI.c.over i hil hiM
    simp only at hOi
    have hsl2 := on_len hL hOi.sort hOi.ok
    have hok2 : ∀ l ∈ L, l.length ≤ 100000 ∧ ∀ o ∈ l, I64 o.x.Prod ∧ I64 o.x.Dot ∧ I64 o.t := fun l hl => by
      obtain ⟨j, hj, rfl⟩ := List.getElem_of_mem hl
      have hO := hI.c.over j hj (by rw [hI.c.len]; exact hj)
      have := on_len hL hO.sort hO.ok
      exact ⟨by simp only at this; omega, fun o ho => on_i64 hL (hO.ok o ho)⟩
    have hMX : M[i] < X.length := by rw [hXn]; exact hOi.lt
    refine s_loopK (ι := {y : Nat × List (List Bits) // y.1 ≤ L[i].length ∧ SeenT g y.2 X.length (seenL L M i y.1)}) [1, 3, 5, 7, 8, 9, 12] rfl ⟨(0, S), Nat.zero_le _, hI.s⟩ (fun y => [(13, .int .i64 y.1.1)])
      (fun y => [osl 69 1 (.slice (some ⟨bS, 0, none⟩) X.length X.length) X.length (rowC sacs (rowVs sD S0)), rowO sacs sD S0, bun (innB sD y.1.2), osl 72 1 (.slice (some ⟨bL2, 0, none⟩) L.length cL) L.length (rowC kcs L), bun (rowX encOs 3 75 kcs L), osl 3 1 (.slice (some ⟨bM2, 0, none⟩) M.length cM) M.length (encM M), osl 69 1 (.slice (some ⟨bX, 0, none⟩) X.length cX) X.length (rowC acs (rowVs D X)), rowO acs D X, bun (innB D X), blk bl 35 [.slice AK (lrKs g).length cK, .slice (some ⟨bG, 0, none⟩) (lrGs g).length cG], gotS (some ⟨bG, 0, none⟩) (lrGs g).length cG bcs (lrGs g), gotB bcs (lrGs g), blk bg 27 [.slice A0 g.Terms.length c0, .slice A1 g.Levels.length c1, .slice A2 g.Pats.length c2, .slice A3 g.Nons.length c3, .slice A4 g.Prods.length c4]]) (fun y => L[i].length - y.1.1) ?_ (Ent.refl _) ?_
    · repeat' (first | exact Sub.nil _ | refine Sub.cons rfl ?_)
    rintro ⟨⟨k, S1⟩, hk, hSn⟩
    simp only at hk hSn ⊢
    have hldi := rowC_load hkl2 hil (e := 75) (bytes := 24) (z := [.slice none 0 0])
    repeat' (first | ((refine e_op ?_); (refine o_n (peval_sound rfl) rfl ?_)) | refine s_seq ?_ | refine s_region ?_)
    refine e_op (o_n (n_index rfl rfl rfl rfl i rfl hil) rfl ?_)
    refine e_op (o_n (n_load_osl rfl rfl (.s (.s (.s .z))) hldi) rfl ?_)
    repeat' (first | refine e_nil ?_ | ((refine e_op ?_); (refine o_n (peval_sound rfl) rfl ?_)))
    by_cases hkl3 : k < L[i].length
    · rw [decide_eq_true (p := (k : Int) < (L[i].length : Int)) (by omega)]
      obtain ⟨bk2, hbk2⟩ := hKA i (by omega) hil (by omega)
      rw [hbk2] at hldi
      have hoo := hOi.ok _ (List.getElem_mem hkl3)
      have hsn := seenL_succ hil hiM hkl3
      have hlo := loadOs hkl3 (o := 0 + k * 3) rfl (z := [.int .i64 0, .int .i64 0, .int .i64 0])
      generalize hpo : L[i][k] = p at hoo hsn hlo
      have hin := hoo.x
      unfold inG at hin
      simp only [Bool.and_eq_true, decide_eq_true_eq] at hin
      have htn0 := hoo.t0
      have htn1 := hoo.t
      obtain ⟨⟨xp, xd⟩, xt⟩ := p
      simp only at hin htn0 htn1
      obtain ⟨q, rfl⟩ : ∃ q : Nat, xp = (q : Int) := ⟨xp.toNat, by omega⟩
      obtain ⟨d, rfl⟩ : ∃ d : Nat, xd = (d : Int) := ⟨xd.toNat, by omega⟩
      obtain ⟨u, rfl⟩ : ∃ u : Nat, xt = (u : Int) := ⟨xt.toNat, by omega⟩
      have hql : q < g.Prods.length := by omega
      have hut : u < g.Terms.length := by omega
      have hpi : prd g (q : Int) = g.Prods[q] := prd_at hql
      rw [hpi] at hin
      obtain ⟨b9, o9, es9, rfl, hb9, he9, hc9⟩ := hG.prods.2.2 q hql
      obtain ⟨Ar, cr, rfl, hl9, hlN, hlK, hri⟩ := kPrd_open he9
      repeat' (first | ((refine e_op ?_); (refine o_n (peval_sound rfl) rfl ?_)) | refine s_seq ?_ | refine s_region ?_ | refine s_block ?_ | refine s_skip ?_ | refine s_true rfl ?_)
      refine e_op (o_n (n_index rfl rfl rfl rfl i rfl hil) rfl ?_)
      refine e_op (o_n (n_load_osl rfl rfl (.s (.s (.s .z))) hldi) rfl ?_)
      repeat' (((refine e_op ?_); (refine o_n (peval_sound rfl) rfl ?_)))
      refine e_op (o_n (n_index rfl rfl rfl rfl k rfl hkl3) rfl ?_)
      refine e_op (o_n (n_load_row rfl rfl (.s (.s (.s (.s .z)))) hkl2 i hil hbk2 hlo) rfl ?_)
      unfold encO
      repeat' (first | refine e_nil ?_ | ((refine e_op ?_); (first | refine o_storeC rfl rfl rfl rfl tc uc rfl rfl rfl ?_ | refine o_alloc rfl rfl (fun _ => ?_))) | refine s_seq ?_)
      rename_i b14
      refine s_drawU [] Tryd.mixed (by decide +kernel) ?_
      repeat' (((first | refine l_n (peval_sound rfl) rfl ?_ rfl ?_ | refine l_n (nl rfl rfl tc rfl) rfl ?_ rfl ?_); · (exact Ent.refl _)))
      refine l_n (n_index rfl rfl rfl rfl q rfl hql) rfl (Ent.refl _) rfl ?_
      repeat' (((refine l_n (peval_sound rfl) rfl ?_ rfl ?_); · (exact Ent.refl _)))
      refine l_n (n_load_ro rfl rfl hb9 (loads_one rfl (hc9 1 _ rfl))) rfl (Ent.refl _) rfl ?_
      repeat' (first | refine l_nil ?_ | ((refine l_n (peval_sound rfl) rfl ?_ rfl ?_); · (exact Ent.refl _)))
      by_cases hwh : d = g.Prods[q].Right.length
      · rw [show ((d : Int) == (g.Prods[q].Right.length : Int)) = true by rw [beq_iff_eq]; omega]
        have hm0 : M[i] < S0.length := by rw [hZ.n]; exact hMX
        have hSP := hZ.p M[i] hm0
        have hqS : q < S0[M[i]].length := by rw [hSP]; exact hql
        have hST := hZ.t M[i] hm0 q hqS
        obtain ⟨br, hbr⟩ := x_addr hsa0 hsD0 hDr0 hSA hm0 (by omega)
        have hmD : M[i] < sD.length := by omega
        obtain ⟨bq, hbq⟩ := hSI M[i] hmD hm0 q (by rw [hDr0 _ hmD hm0]; exact hqS) hqS (by omega)
        have hS1n := hSn.shp.n
        have hsD1 : sD.length = S1.length := by rw [hS1n, hsD0, hZ.n]
        have hDr1 : ∀ (i : Nat) (h1 : i < sD.length) (h2 : i < S1.length), sD[i].length = S1[i].length := fun i h1 h2 => by rw [hDr0 i h1 (by omega), hZ.p, hSn.shp.p]
        have hm1 : M[i] < S1.length := by omega
        have hq1 : q < S1[M[i]].length := by rw [hSn.shp.p]; exact hql
        have hu1 : u < S1[M[i]][q].length := by rw [hSn.shp.t]; exact hut
        have hnew := hSn.hit hMX hql hut (show d = (prd g q).Right.length by rw [hpi]; exact hwh)
        rw [← hsn] at hnew
        repeat' (refine s_true rfl ?_)
        refine s_drawZ [15] Tryd.mixed (by decide +kernel) ?_
        repeat' (refine z_n (peval_sound rfl) rfl rfl ?_)
        refine z_n (n_index rfl rfl rfl rfl i rfl hiM) rfl rfl ?_
        refine z_n (n_load_osl rfl rfl (.s (.s (.s (.s (.s (.s (.z))))))) (loadM hiM (o := 0 + i * 1) (by omega))) rfl rfl ?_
        refine z_n (n_index rfl rfl rfl rfl M[i] rfl hMX) rfl rfl ?_
        refine z_n (n_load_osl rfl rfl (.s .z) (x_load hsa0 hsD0 hDr0 hm0 hSP hbr)) rfl rfl ?_
        repeat' (first | refine z_n (peval_sound rfl) rfl rfl ?_ | refine z_n (nl rfl rfl tc rfl) rfl rfl ?_)
        refine z_n (n_index rfl rfl rfl rfl q rfl hql) rfl rfl ?_
        refine z_n (n_xcell rfl rfl (.s (.s .z)) hsa0 hsD0 hDr0 hm0 hbr hqS rfl hST) rfl rfl ?_
        repeat' (first | refine z_n (peval_sound rfl) rfl rfl ?_ | refine z_n (nl rfl rfl tc rfl) rfl rfl ?_)
        rw [hbq]
        refine z_n (n_index rfl rfl rfl rfl u rfl hut) rfl rfl ?_
        refine z_e rfl (o_store_inn (o := 0 + u * 1) rfl rfl rfl rfl hsD1 hDr1 M[i] q u hm1 hq1 hbq (by omega) hu1 (.s (.s (.s .z))) ?_)
        repeat' (refine z_nil ?_)
        repeat' (first | refine e_nil ?_ | ((refine e_op ?_); (refine o_n (peval_sound rfl) rfl ?_)) | refine s_region ?_ | refine s_end ?_)
        refine s_back ⟨⟨(k + 1, set3 S1 M[i] q u), by simp only; omega, hnew⟩, by simp only; omega, ?_, ?_⟩
        · repeat' (first | exact Sub.nil _ | refine Sub.cons rfl ?_ | refine Sub.consE rfl ?_ ?_)
          exact inc (i := k) (by omega)
        · simp only
          exact Ent.trans (Ent.cons (Ent.wk (Ent.refl _))) (Ent.tak (.s .z) (Ent.tak (.s .z) (Ent.refl _)))
      · rw [show ((d : Int) == (g.Prods[q].Right.length : Int)) = false by rw [beq_eq_false_iff_ne]; omega]
        have hnew := hSn.miss (m := M[i]) (q := q) (d := d) (u := u) (by rw [hpi]; exact hwh)
        rw [← hsn] at hnew
        repeat' (first | refine e_nil ?_ | ((refine e_op ?_); (refine o_n (peval_sound rfl) rfl ?_)) | refine s_region ?_ | refine s_end ?_ | refine s_skip ?_ | refine s_false rfl ?_)
        refine s_back ⟨⟨(k + 1, S1), by simp only; omega, hnew⟩, by simp only; omega, ?_, ?_⟩
        · repeat' (first | exact Sub.nil _ | refine Sub.cons rfl ?_ | refine Sub.consE rfl ?_ ?_)
          exact inc (i := k) (by omega)
        · exact Ent.wk (Ent.refl _)
    rw [decide_eq_false (p := (k : Int) < (L[i].length : Int)) (by omega)]
    obtain rfl : k = L[i].length := by omega
    have hgDi : (L.getD i []).length = L[i].length := by rw [getD_at hil]
    have hst2 : RIs g X.length i 0 ⟨L, M, S1, kcs, some ⟨bL2, 0, none⟩, cL, some ⟨bM2, 0, none⟩, cM⟩ :=
      ⟨hI.c, hkl2, hil, by simp only; omega, hI.d, fun _ _ s hs => absurd hs (Nat.not_lt_zero _), by simp only; rw [hgDi]; exact hSn⟩
    have hwTN : IntKind.i64.wrap ((g.Terms.length : Int) + (g.Nons.length : Int)) = ((g.Terms.length + g.Nons.length : Nat) : Int) := by rw [wrap_i64] <;> omega
    repeat' (first | refine e_nil ?_ | ((refine e_op ?_); (refine o_n (peval_sound rfl) rfl ?_)) | refine s_seq ?_ | refine s_region ?_ | refine s_block ?_ | refine s_exit ?_ | refine s_false rfl ?_ | refine x_hit ?_ | refine x_code ?_ | refine x_back ?_)
    refine s_loopK (ι := {y : Nat × RSt // y.1 ≤ g.Terms.length + g.Nons.length ∧ RIs g X.length i y.1 y.2}) [1, 3, 5, 9, 12] rfl ⟨(0, _), Nat.zero_le _, hst2⟩ (fun y => [(15, .int .i64 y.1.1), (7, .slice y.1.2.AL y.1.2.L.length y.1.2.cL), (8, .slice y.1.2.AM y.1.2.M.length y.1.2.cM)])
      (fun y => [osl 69 1 (.slice (some ⟨bS, 0, none⟩) X.length X.length) X.length (rowC sacs (rowVs sD S0)), rowO sacs sD S0, bun (innB sD y.1.2.S), osl 72 1 (.slice y.1.2.AL y.1.2.L.length y.1.2.cL) y.1.2.L.length (rowC y.1.2.kcs y.1.2.L), bun (rowX encOs 3 75 y.1.2.kcs y.1.2.L), osl 3 1 (.slice y.1.2.AM y.1.2.M.length y.1.2.cM) y.1.2.M.length (encM y.1.2.M), osl 69 1 (.slice (some ⟨bX, 0, none⟩) X.length cX) X.length (rowC acs (rowVs D X)), rowO acs D X, bun (innB D X), blk bl 35 [.slice AK (lrKs g).length cK, .slice (some ⟨bG, 0, none⟩) (lrGs g).length cG], gotS (some ⟨bG, 0, none⟩) (lrGs g).length cG bcs (lrGs g), gotB bcs (lrGs g), blk bg 27 [.slice A0 g.Terms.length c0, .slice A1 g.Levels.length c1, .slice A2 g.Pats.length c2, .slice A3 g.Nons.length c3, .slice A4 g.Prods.length c4]]) (fun y => g.Terms.length + g.Nons.length - y.1.1) ?_ (Ent.refl _) ?_
    · repeat' (first | exact Sub.nil _ | refine Sub.cons rfl ?_)
    clear hldi hkl3
    clear hst2 hgDi hSn hk hok2 hMX hsl2 hOi hKA
    rintro ⟨⟨s, ⟨L, M, S1, kcs, AL, cL, AM, cM⟩⟩, hsT, hI⟩
    simp only at hsT hI ⊢
    have hLM := hI.c.len
    have hlen := hI.len
    have hkl2 := hI.hl
    have hil := hI.il
    simp only at hLM hlen hkl2 hil
    have hiM : i < M.length := by omega
    have hOi := hI.c.over i hil hiM
    simp only at hOi
    have hsl2 := on_len hL hOi.sort hOi.ok
    have hok2 : ∀ l ∈ L, l.length ≤ 100000 ∧ ∀ o ∈ l, I64 o.x.Prod ∧ I64 o.x.Dot ∧ I64 o.t := fun l hl => by
      obtain ⟨j, hj, rfl⟩ := List.getElem_of_mem hl
      have hO := hI.c.over j hj (by rw [hI.c.len]; exact hj)
      have := on_len hL hO.sort hO.ok
      exact ⟨by simp only at this; omega, fun o ho => on_i64 hL (hO.ok o ho)⟩
    have hMK : M[i] < (lrKs g).length := hOi.lt
    have hMG : M[i] < (lrGs g).length := by rw [hF.gk]; exact hMK
    refine s_open (.s (.s (.s .z))) (show 0 < L.length by omega) ?_
    rintro bL2 rfl
    refine s_open (.s (.s (.s (.s (.s (.z)))))) (show 0 < M.length by omega) ?_
    rintro bM2 rfl
    refine s_cap (.s (.s (.s (.z)))) (fun hcapL => ?_)
    repeat' (first | refine e_nil ?_ | ((refine e_op ?_); (first | refine o_n (peval_sound rfl) rfl ?_ | refine o_n (nl rfl rfl tc rfl) rfl ?_)) | refine s_seq ?_ | refine s_region ?_)
    rw [hwTN]
    by_cases hsl3 : s < g.Terms.length + g.Nons.length
    · rw [decide_eq_true (p := (s : Int) < ((g.Terms.length + g.Nons.length : Nat) : Int)) (by omega)]
      repeat' (first | refine s_seq ?_ | refine s_block ?_ | refine s_skip ?_ | refine s_true rfl ?_)
      have hldi := rowC_load hkl2 hil (e := 75) (bytes := 24) (z := [.slice none 0 0])
      refine s_join (ι := {r : List On × Option Addr × Nat // SortO r.1 ∧ (∀ o ∈ r.1, OnOk g o) ∧ ∀ o, o ∈ r.1 ↔ C1 g (goesO g L[i] (s : Int)) o}) (fun r => [(16, .slice r.1.2.1 r.1.1.length r.1.2.2), (15, .int .i64 s), (7, .slice (some ⟨bL2, 0, none⟩) L.length cL), (8, .slice (some ⟨bM2, 0, none⟩) M.length cM), (1, .pointer (some ⟨bg, 0, none⟩)), (3, .pointer (some ⟨bl, 0, none⟩)), (5, .slice (some ⟨bX, 0, none⟩) X.length cX), (9, .slice (some ⟨bS, 0, none⟩) X.length X.length), (12, .int .i64 i)])
        (fun r => pO r.1.2.1 r.1.1.length r.1.2.2 r.1.1 :: [osl 69 1 (.slice (some ⟨bS, 0, none⟩) X.length X.length) X.length (rowC sacs (rowVs sD S0)), rowO sacs sD S0, bun (innB sD S1), osl 72 1 (.slice (some ⟨bL2, 0, none⟩) L.length cL) L.length (rowC kcs L), bun (rowX encOs 3 75 kcs L), osl 3 1 (.slice (some ⟨bM2, 0, none⟩) M.length cM) M.length (encM M), osl 69 1 (.slice (some ⟨bX, 0, none⟩) X.length cX) X.length (rowC acs (rowVs D X)), rowO acs D X, bun (innB D X), blk bl 35 [.slice AK (lrKs g).length cK, .slice (some ⟨bG, 0, none⟩) (lrGs g).length cG], gotS (some ⟨bG, 0, none⟩) (lrGs g).length cG bcs (lrGs g), gotB bcs (lrGs g), blk bg 27 [.slice A0 g.Terms.length c0, .slice A1 g.Levels.length c1, .slice A2 g.Pats.length c2, .slice A3 g.Nons.length c3, .slice A4 g.Prods.length c4]]) (fun hj => ?_) ?_
      · refine s_anyU Tryd.mixed ?_
        (first | refine a_n 0 rfl (peval_sound rfl) (by decide +kernel) (by (exact Ent.refl _)) rfl ?_ | refine a_n 0 rfl (nl rfl rfl tc rfl) (by decide +kernel) (by (exact Ent.refl _)) rfl ?_); (first | refine a_n 1 rfl (peval_sound rfl) (by decide +kernel) (by (exact Ent.refl _)) rfl ?_ | refine a_n 1 rfl (nl rfl rfl tc rfl) (by decide +kernel) (by (exact Ent.refl _)) rfl ?_); (refine a_n 2 rfl (peval_sound rfl) (by decide +kernel) (by (exact Ent.refl _)) rfl ?_); (refine a_n 3 rfl (peval_sound rfl) (by decide +kernel) (by (exact Ent.refl _)) rfl ?_)
        refine a_n 4 rfl (n_index rfl rfl rfl rfl i rfl hil) (by decide +kernel) (by (exact Ent.refl _)) rfl ?_
        refine a_n 5 rfl (n_load_osl rfl rfl (.s (.s (.s .z))) hldi) (by decide +kernel) (by (exact Ent.refl _)) rfl ?_
        (refine a_n 6 rfl (peval_sound rfl) (by decide +kernel) (by (exact Ent.refl _)) rfl ?_)
        refine a_1 7 (by decide +kernel) rfl rfl (o_call (goesO_w _ g he (kcs[i]'(by omega)).1 (kcs[i]'(by omega)).2 L[i] (by omega) hOi.ok (s : Int) (by omega)) rfl .nil (Can.and (Can.ro hG0) (can_brow hkl2 (.s (.s (.s (.s .z)))) hil (fun E => can_ons rfl .z (hok2 _ (List.getElem_mem hil)).2 (by omega)))) rfl ?_)
        rintro v V ⟨Ag, cg, rfl, rfl⟩
        have hgall := goesT_all (g := g) (l := L[i]) (s := (s : Int)) L[i].length (Nat.le_refl _)
        have hgok : ∀ o ∈ goesO g L[i] (s : Int), OnOk g o := fun o ho => by
          obtain ⟨p, hp, hb, rfl⟩ := (hgall.2.2 o).1 ho
          rw [List.take_length] at hp
          have h1 := hOi.ok p hp
          refine ⟨?_, h1.t0, h1.t⟩
          have h2 := h1.x
          unfold inG at h2 ⊢
          simp only [Bool.and_eq_true, decide_eq_true_eq] at h2 ⊢
          have hd : p.x.Dot < (prd g p.x.Prod).Right.length := by
            apply Classical.byContradiction
            intro hd
            unfold beh at hb
            rw [if_neg hd] at hb
            omega
          unfold advO
          simp only
          omega
        have hgl : (goesO g L[i] (s : Int)).length ≤ 90000 := by
          have := hgall.2.1
          unfold goesO
          omega
        refine ⟨(by (repeat' (first | exact Ent.refl _ | refine Ent.wk ?_))), ?_⟩
        simp only [List.cons_append, List.nil_append]
        refine a_1 8 (by decide +kernel) rfl rfl (o_call (closedO_w _ g he Ag cg (goesO g L[i] (s : Int)) hgl hgok) rfl .nil (Can.and (Can.ro hG0) (can_ons rfl .z (fun o ho => on_i64 hL (hgok o ho)) (by omega))) rfl ?_)
        rintro v V ⟨R, AR2, cR2, rfl, rfl, hr1, hr2, hr3⟩
        refine ⟨(by (repeat' (first | exact Ent.refl _ | refine Ent.wk ?_))), ?_⟩
        simp only [List.cons_append, List.nil_append]
        (refine a_n 9 rfl (peval_sound rfl) (by decide +kernel) (by (repeat' (first | exact Ent.refl _ | refine Ent.wk ?_))) rfl ?_)
        refine a_done (by decide +kernel) ?_
        refine s_weak ?_ (Ent.cons (Ent.wk (Ent.refl _))) (hj ⟨(R, AR2, cR2), hr1, hr2, hr3⟩)
        repeat' (first | exact Sub.nil _ | refine Sub.cons rfl ?_)
      rintro ⟨⟨R, AR2, cR2⟩, hr1, hr2, hr3⟩
      simp only at hr1 hr2 hr3 ⊢
      repeat' (first | refine e_nil ?_ | ((refine e_op ?_); (refine o_n (peval_sound rfl) rfl ?_)) | refine s_seq ?_ | refine s_region ?_)
      have hadv : ∀ o ∈ L[i], beh g o.x = (s : Int) → advO o ∈ R := fun o ho hb => by
        refine (hr3 _).2 (.base ?_)
        have := (goesT_all (g := g) (l := L[i]) (s := (s : Int)) L[i].length (Nat.le_refl _)).2.2 (advO o)
        rw [List.take_length] at this
        exact this.2 ⟨o, ho, hb, rfl⟩
      by_cases hR0l : R.length = 0
      · rw [show ((R.length : Int) == 0) = true by rw [beq_iff_eq]; omega]
        have hRn := List.eq_nil_of_length_eq_zero hR0l
        repeat' (first | refine e_nil ?_ | ((refine e_op ?_); (refine o_n (peval_sound rfl) rfl ?_)) | refine s_region ?_ | refine s_exit ?_ | refine s_true rfl ?_ | refine x_hit ?_ | refine x_code ?_)
        refine s_back ⟨⟨(s + 1, ⟨L, M, S1, kcs, some ⟨bL2, 0, none⟩, cL, some ⟨bM2, 0, none⟩, cM⟩), by simp only; omega, ⟨hI.c, hkl2, hil, by simp only; omega, hI.d, hI.di.succ (fun _ _ o ho hb => ?_), hI.s⟩⟩, by simp only; omega, ?_, Ent.wk (Ent.refl _)⟩
        · have := hadv o ho hb
          rw [hRn] at this; cases this
        · repeat' (first | exact Sub.nil _ | refine Sub.cons rfl ?_ | refine Sub.consE rfl ?_ ?_)
          exact inc (i := s) (by omega)
      have hne : R ≠ [] := fun e => hR0l (by rw [e]; rfl)
      obtain ⟨hm2, hs2, nn, hnn, hO⟩ := over_next h0 hOi hsl3 hr1 hr2 hr3 hne
      have hnX : nn < X.length := by rw [hXn]; exact hO.lt
      have hgd2 : ((lrGs g).getD M[i] []).getD s 0 = (nn : Int) := by rw [getD_at hm2, getD_at hs2, hnn]
      rw [show ((R.length : Int) == 0) = false by rw [beq_eq_false_iff_ne]; omega]
      obtain ⟨bgr, hbgr⟩ := hGA M[i] (by rw [hb]; exact hm2) hm2 (by omega)
      have hldg := rowC_load hb hm2 (e := 3) (bytes := 24) (z := [.slice none 0 0])
      rw [hbgr] at hldg
      have hvn : loadL ⟨.int .i64, 1, 8, [.int .i64 0]⟩ ((fun l : List Int => l.map (Value.int .i64)) (lrGs g)[M[i]]) (0 + s * 1) = some (.int .i64 nn) := by
        refine load_cell rfl ?_
        rw [Nat.zero_add, Nat.mul_one, List.getElem?_map, List.getElem?_eq_getElem hs2, hnn]; rfl
      repeat' (first | refine s_seq ?_ | refine s_skip ?_ | refine s_false rfl ?_)
      refine s_drawU [] Tryd.mixed (by decide +kernel) ?_
      repeat' (((first | refine l_n (peval_sound rfl) rfl ?_ rfl ?_ | refine l_n (nl rfl rfl tc rfl) rfl ?_ rfl ?_); · (exact Ent.refl _)))
      refine l_n (n_index rfl rfl rfl rfl i rfl hiM) rfl (Ent.refl _) rfl ?_
      refine l_n (n_load_osl rfl rfl (.s (.s (.s (.s (.s (.s (.z))))))) (loadM hiM (o := 0 + i * 1) (by omega))) rfl (Ent.refl _) rfl ?_
      refine l_n (n_index rfl rfl rfl rfl M[i] rfl hMG) rfl (Ent.refl _) rfl ?_
      refine l_n (n_load_osl rfl rfl (.s (.s (.s (.s (.s (.s (.s (.s (.s (.s (.s (.z)))))))))))) hldg) rfl (Ent.refl _) rfl ?_
      repeat' (((refine l_n (peval_sound rfl) rfl ?_ rfl ?_); · (exact Ent.refl _)))
      refine l_n (n_index rfl rfl rfl rfl s rfl hs2) rfl (Ent.refl _) rfl ?_
      refine l_n (n_load_row rfl rfl (.s (.s (.s (.s (.s (.s (.s (.s (.s (.s (.s (.s (.z))))))))))))) hb M[i] hm2 hbgr hvn) rfl (Ent.refl _) rfl ?_
      repeat' (first | refine l_nil ?_ | ((refine l_n (peval_sound rfl) rfl ?_ rfl ?_); · (exact Ent.refl _)))
      repeat' (first | refine e_nil ?_ | ((first | refine e_op ?_ | refine e_yes rfl ?_); (refine o_n (peval_sound rfl) rfl ?_)) | refine s_seq ?_ | refine s_region ?_)
      rw [decide_eq_false (p := (nn : Int) < 0) (by omega)]
      skip
      rw [decide_eq_false (p := (nn : Int) ≥ (X.length : Int)) (by omega)]
      repeat' (first | ((refine e_op ?_); (refine o_n (peval_sound rfl) rfl ?_)) | refine s_seq ?_ | refine s_region ?_ | refine s_skip ?_ | refine s_false rfl ?_)
      have hRl := on_len hL hr1 hr2
      refine e_op (o_call (knownO_w (some ⟨bL2, 0, none⟩) AR2 cL cR2 L R) rfl .nil (Can.and (can_onss rfl hkl2 (by omega) hok2 (Ent.tak (.s (.s (.s (.s (.z))))) (Ent.tak (.s (.s (.s (.s (.z))))) (Ent.refl _)))) (can_ons rfl .z (fun o ho => on_i64 hL (hr2 o ho)) (by omega))) rfl ?_)
      rintro v V ⟨rfl, rfl⟩
      simp only [List.nil_append]
      repeat' (first | refine e_nil ?_ | ((refine e_op ?_); (refine o_n (peval_sound rfl) rfl ?_)))
      by_cases hin : R ∈ L
      · rw [decide_eq_true hin]
        obtain ⟨k, hk, hke⟩ := List.getElem_of_mem hin
        have hkM : k < M.length := by omega
        have hOk := hI.c.over k hk hkM
        simp only at hOk
        rw [hke] at hOk
        have hMk : M[k] = nn := hOk.uniq h0 hO
        repeat' (first | refine e_nil ?_ | ((refine e_op ?_); (refine o_n (peval_sound rfl) rfl ?_)) | refine s_region ?_ | refine s_end ?_ | refine s_skip ?_ | refine s_false rfl ?_)
        refine s_back ⟨⟨(s + 1, ⟨L, M, S1, kcs, some ⟨bL2, 0, none⟩, cL, some ⟨bM2, 0, none⟩, cM⟩), by simp only; omega, ⟨hI.c, hkl2, hil, by simp only; omega, hI.d, hI.di.succ (fun _ _ o ho hb => ⟨k, hk, hkM, ?_, ?_⟩), hI.s⟩⟩, by simp only; omega, ?_, Ent.wk (Ent.refl _)⟩
        · show ((lrGs g).getD M[i] []).getD s 0 = (M[k] : Int)
          rw [hgd2, hMk]
        · show advO o ∈ L[k]
          rw [hke]; exact hadv o ho hb
        · repeat' (first | exact Sub.nil _ | refine Sub.cons rfl ?_ | refine Sub.consE rfl ?_ ?_)
          exact inc (i := s) (by omega)
      rw [decide_eq_false hin]
      have hrcl : (rowC kcs L).length = L.length := rowC_len0 hkl2
      repeat' (first | ((refine e_op ?_); (refine o_n (peval_sound rfl) rfl ?_)) | refine s_seq ?_ | refine s_region ?_ | refine s_true rfl ?_)
      refine e_op (o_lit (ps := [(0, .slice AR2 R.length cR2)]) (cs := [.slice AR2 R.length cR2]) rfl rfl rfl rfl rfl rfl rfl (fun b1 => ?_))
      skip
      refine e_op (o_append (v := .slice (some ⟨bL2, 0, none⟩) L.length cL) (n := L.length) (m := 1) (xs := rowC kcs L) (news := [.slice AR2 R.length cR2]) _ rfl rfl rfl rfl (fun w hm q u hu => ?_) rfl ?_ rfl (by omega) (by simp only; omega) (by omega) rfl (fun b c => (.s (.s (.s (.s (.s (.z))))))) (fun ba ca => ?_))
      · obtain ⟨S2, hP, _⟩ := hm.tak .z
        rw [Nat.zero_add]
        exact osl_cells hP q u hu
      · simp [oneB]
      repeat' (first | refine e_nil ?_ | ((refine e_op ?_); (refine o_n (peval_sound rfl) rfl ?_)) | refine s_region ?_)
      refine e_op (o_lit (ps := [(0, .int .i64 nn)]) (cs := [.int .i64 nn]) rfl rfl rfl rfl rfl rfl rfl (fun b2 => ?_))
      skip
      refine e_op (o_append (v := .slice (some ⟨bM2, 0, none⟩) M.length cM) (n := M.length) (m := 1) (xs := encM M) (news := [.int .i64 nn]) _ rfl rfl rfl rfl (fun w hm q u hu => ?_) rfl ?_ rfl (by omega) (by simp only; omega) (by omega) rfl (fun b c => (.s (.s (.s (.s (.s (.s (.s (.s (.z)))))))))) (fun bb cb => ?_))
      · obtain ⟨S2, hP, _⟩ := hm.tak .z
        rw [Nat.zero_add]
        exact osl_cells hP q u hu
      · simp [oneB]
      repeat' (first | refine e_nil ?_ | ((refine e_op ?_); (refine o_n (peval_sound rfl) rfl ?_)) | refine s_region ?_ | refine s_end ?_)
      have q1 : rowC (kcs ++ [(AR2, cR2)]) (L ++ [R]) = rowC kcs L ++ [.slice AR2 R.length cR2] := Go.Proofs.YtcbaebkkdkdaaaaDoor.E.rowC_snoc hkl2
      have q2 : encM (M ++ [nn]) = encM M ++ [.int .i64 nn] := by unfold encM; rw [List.map_append]; rfl
      have q3 : (L ++ [R]).length = L.length + 1 := by simp
      have q4 : (M ++ [nn]).length = M.length + 1 := by simp
      have q5 : i < (L ++ [R]).length := by omega
      refine s_back ⟨⟨(s + 1, ⟨L ++ [R], M ++ [nn], S1, kcs ++ [(AR2, cR2)], some ⟨ba, 0, none⟩, ca, some ⟨bb, 0, none⟩, cb⟩), by simp only; omega, ⟨hI.c.app hO, by simp [hkl2], q5, by simp only [q3]; omega, fun j hj => (hI.d j hj).app (by simp only; omega) (by simp only; omega) R nn, (hI.di.app hil hiM R nn).succ (fun _ _ o ho hb => ⟨L.length, by simp only [q3]; omega, by simp only [q4]; omega, ?_, ?_⟩), ?_⟩⟩, by simp only; omega, ?_, ?_⟩
      · show ((lrGs g).getD (M ++ [nn])[i] []).getD s 0 = ((M ++ [nn])[L.length] : Int)
        have e2 : (M ++ [nn])[L.length]'(by omega) = nn := by rw [List.getElem_append_right (by omega)]; simp [hLM]
        rw [e2, getElem_app hiM, hgd2]
      · show advO o ∈ (L ++ [R])[L.length]
        have e3 : (L ++ [R])[L.length]'(by omega) = R := by rw [List.getElem_append_right (by omega)]; simp
        rw [e3]
        have ho2 : o ∈ (L ++ [R])[i] := ho
        rw [getElem_app hil] at ho2
        exact hadv o ho2 hb
      · show SeenT g S1 X.length (seenL (L ++ [R]) (M ++ [nn]) i ((L ++ [R]).getD i []).length)
        rw [seenL_app hil hiM, getD_app hil]
        exact hI.s
      · simp only [q3, q4]
        repeat' (first | exact Sub.nil _ | refine Sub.cons rfl ?_ | refine Sub.consE rfl ?_ ?_)
        exact inc (i := s) (by omega)
      · simp only
        rw [q1, q2, q3, q4]
        refine Ent.wk (Ent.wk (Ent.tak (.s .z) (Ent.tak (.s .z) (Ent.tak (.s .z) (Ent.tak (.s .z) ?_)))))
        exact Ent.trans (ent_bsnoc (f := encOs) (sz := 3) (ei := 75) (ac := (AR2, cR2)) (r := R) hkl2) (Ent.refl _)
    rw [decide_eq_false (p := (s : Int) < ((g.Terms.length + g.Nons.length : Nat) : Int)) (by omega)]
    obtain rfl : s = g.Terms.length + g.Nons.length := by omega
    repeat' (first | refine e_nil ?_ | ((refine e_op ?_); (refine o_n (peval_sound rfl) rfl ?_)) | refine s_region ?_ | refine s_end ?_ | refine s_exit ?_ | refine s_false rfl ?_ | refine x_hit ?_ | refine x_code ?_ | refine x_back ?_)
    refine s_back ⟨⟨(i + 1, ⟨L, M, S1, kcs, some ⟨bL2, 0, none⟩, cL, some ⟨bM2, 0, none⟩, cM⟩), ⟨hI.c, hkl2, by simp only; omega, by simp only; omega, fun j hj => ?_, by simp only; rw [seenL_next]; exact hI.s⟩⟩, by simp only; omega, ?_, Ent.refl _⟩
    · by_cases e : j = i
      · subst e; exact hI.di
      · exact hI.d j (by omega)
    · repeat' (first | exact Sub.nil _ | refine Sub.cons rfl ?_ | refine Sub.consE rfl ?_ ?_)
      exact inc (i := i) (by omega)
  rw [decide_eq_false (p := (i : Int) < (L.length : Int)) (by omega)]
  have hie : i = L.length := by have := hI.il; simp only at this; omega
  subst hie
  have hSs := hI.s
  simp only at hSs
  have hCs := hI.c
  simp only at hCs
  have hDs : ∀ j, j < L.length → DoneS g L M j (g.Terms.length + g.Nons.length) := fun j hj => hI.d j hj
  have hfin : ∀ a b c : Nat, a < X.length → b < g.Prods.length → c < g.Terms.length → (bit3 S a b c = true ↔ LA g (lrGs g) ⟨a, ⟨b, (prd g b).Right.length⟩⟩ c) := fun a b c ha hb hc => by
    rw [hSs.bits a b c ha hb hc]
    constructor
    · rintro ⟨o, ho, h1, h2⟩
      obtain ⟨j, hj, hj2, rfl, ho2⟩ := (seenL_mem hLM).1 ho
      have hO := hCs.over j hj hj2
      have := hO.sound o ho2
      rw [h1, h2] at this
      simpa using this
    · intro hla
      obtain ⟨j, hj, hj2, e1, e2⟩ := reasons h0 hCs hDs hla
      exact ⟨_, (seenL_mem hLM).2 ⟨j, hj, hj2, e1, e2⟩, rfl, rfl⟩
  have hXS : ∀ (a b c : Nat) (ha : a < X.length) (hb : b < X[a].length), c < g.Terms.length → X[a][b].getD c false = bit3 S a b c := fun a b c ha hb hc => by
    have h1 := laRow_bit h0 (s := a) (k := b) (a := c)
    have h2 := hfin a b c ha (by rw [← hXP a ha]; exact hb) hc
    rw [hXv a b ha hb, Bool.eq_iff_iff, h1, h2]
    exact ⟨fun h => h.2, fun h => ⟨hc, h⟩⟩
  have hXlen : ∀ (i k : Nat) (hi : i < X.length) (hk : k < X[i].length), X[i][k].length = g.Terms.length ∨ X[i][k] = [] := fun i k hi hk => by
    rw [hXv i k hi hk]
    exact laRow_len h0 i k
  have hSn := hSs.shp.n
  have hsD1 : sD.length = S.length := by rw [hSn, hsD0, hZ.n]
  repeat' (first | refine e_nil ?_ | ((refine e_op ?_); (refine o_n (peval_sound rfl) rfl ?_)) | refine s_seq ?_ | refine s_region ?_ | refine s_block ?_ | refine s_exit ?_ | refine s_false rfl ?_ | refine x_hit ?_ | refine x_code ?_ | refine x_back ?_)
  refine s_loopK (ι := {a : Nat // a ≤ X.length}) [1, 5, 9] rfl ⟨0, by omega⟩ (fun a => [(18, .int .i64 a.1)]) (fun _ => [osl 69 1 (.slice (some ⟨bS, 0, none⟩) X.length X.length) X.length (rowC sacs (rowVs sD S0)), rowO sacs sD S0, bun (innB sD S), osl 72 1 (.slice (some ⟨bL2, 0, none⟩) L.length cL) L.length (rowC kcs L), bun (rowX encOs 3 75 kcs L), osl 3 1 (.slice (some ⟨bM2, 0, none⟩) M.length cM) M.length (encM M), osl 69 1 (.slice (some ⟨bX, 0, none⟩) X.length cX) X.length (rowC acs (rowVs D X)), rowO acs D X, bun (innB D X), blk bl 35 [.slice AK (lrKs g).length cK, .slice (some ⟨bG, 0, none⟩) (lrGs g).length cG], gotS (some ⟨bG, 0, none⟩) (lrGs g).length cG bcs (lrGs g), gotB bcs (lrGs g), blk bg 27 [.slice A0 g.Terms.length c0, .slice A1 g.Levels.length c1, .slice A2 g.Pats.length c2, .slice A3 g.Nons.length c3, .slice A4 g.Prods.length c4]]) (fun a => X.length - a.1) ?_ (Ent.refl _) ?_
  · repeat' (first | exact Sub.nil _ | refine Sub.cons rfl ?_)
  rintro ⟨a, ha⟩
  simp only at ha ⊢
  repeat' (first | refine e_nil ?_ | ((refine e_op ?_); (refine o_n (peval_sound rfl) rfl ?_)) | refine s_seq ?_ | refine s_region ?_)
  by_cases haX : a < X.length
  · rw [decide_eq_true (p := (a : Int) < (X.length : Int)) (by omega)]
    have hPa := hXP a haX
    obtain ⟨ra, hra⟩ := x_addr hal hD hDr hXA haX (by omega)
    have hDa := hDr a (by omega) haX
    have haS0 : a < S0.length := by rw [hZ.n]; exact haX
    have haS : a < S.length := by omega
    have hSP0 := hZ.p a haS0
    obtain ⟨rs, hrs⟩ := x_addr hsa0 hsD0 hDr0 hSA haS0 (by omega)
    have hasD : a < sD.length := by omega
    have hDS : sD[a].length = S[a].length := by rw [hDr0 a hasD haS0, hSP0, hSs.shp.p]
    repeat' (first | refine e_nil ?_ | ((refine e_op ?_); (refine o_n (peval_sound rfl) rfl ?_)) | refine s_seq ?_ | refine s_region ?_ | refine s_block ?_ | refine s_skip ?_ | refine s_true rfl ?_)
    refine s_loopK (ι := {b : Nat // b ≤ g.Prods.length}) [1, 5, 9, 18] rfl ⟨0, by omega⟩ (fun b => [(19, .int .i64 b.1)]) (fun _ => [osl 69 1 (.slice (some ⟨bS, 0, none⟩) X.length X.length) X.length (rowC sacs (rowVs sD S0)), rowO sacs sD S0, bun (innB sD S), osl 72 1 (.slice (some ⟨bL2, 0, none⟩) L.length cL) L.length (rowC kcs L), bun (rowX encOs 3 75 kcs L), osl 3 1 (.slice (some ⟨bM2, 0, none⟩) M.length cM) M.length (encM M), osl 69 1 (.slice (some ⟨bX, 0, none⟩) X.length cX) X.length (rowC acs (rowVs D X)), rowO acs D X, bun (innB D X), blk bl 35 [.slice AK (lrKs g).length cK, .slice (some ⟨bG, 0, none⟩) (lrGs g).length cG], gotS (some ⟨bG, 0, none⟩) (lrGs g).length cG bcs (lrGs g), gotB bcs (lrGs g), blk bg 27 [.slice A0 g.Terms.length c0, .slice A1 g.Levels.length c1, .slice A2 g.Pats.length c2, .slice A3 g.Nons.length c3, .slice A4 g.Prods.length c4]]) (fun b => g.Prods.length - b.1) ?_ (Ent.refl _) ?_
    · repeat' (first | exact Sub.nil _ | refine Sub.cons rfl ?_)
    rintro ⟨b, hb2⟩
    simp only at hb2 ⊢
    repeat' (first | refine e_nil ?_ | ((refine e_op ?_); (first | refine o_n (peval_sound rfl) rfl ?_ | refine o_n (nl rfl rfl tc rfl) rfl ?_)) | refine s_seq ?_ | refine s_region ?_)
    by_cases hbP : b < g.Prods.length
    · rw [decide_eq_true (p := (b : Int) < (g.Prods.length : Int)) (by omega)]
      have hbX : b < X[a].length := by omega
      have hbS0 : b < S0[a].length := by omega
      have hbS : b < S[a].length := by rw [hSs.shp.p]; exact hbP
      have hST0 := hZ.t a haS0 b hbS0
      have hSTb := hSs.shp.t a haS b hbS
      obtain ⟨bs, hbs⟩ := hSI a hasD haS0 b (by rw [hDr0 a hasD haS0]; exact hbS0) hbS0 (by omega)
      repeat' (first | refine e_nil ?_ | ((refine e_op ?_); (refine o_n (peval_sound rfl) rfl ?_)) | refine s_seq ?_ | refine s_region ?_ | refine s_block ?_ | refine s_skip ?_ | refine s_true rfl ?_)
      refine s_loopK (ι := {c : Nat // c ≤ g.Terms.length}) [1, 5, 9, 18, 19] rfl ⟨0, by omega⟩ (fun c => [(20, .int .i64 c.1)]) (fun _ => [osl 69 1 (.slice (some ⟨bS, 0, none⟩) X.length X.length) X.length (rowC sacs (rowVs sD S0)), rowO sacs sD S0, bun (innB sD S), osl 72 1 (.slice (some ⟨bL2, 0, none⟩) L.length cL) L.length (rowC kcs L), bun (rowX encOs 3 75 kcs L), osl 3 1 (.slice (some ⟨bM2, 0, none⟩) M.length cM) M.length (encM M), osl 69 1 (.slice (some ⟨bX, 0, none⟩) X.length cX) X.length (rowC acs (rowVs D X)), rowO acs D X, bun (innB D X), blk bl 35 [.slice AK (lrKs g).length cK, .slice (some ⟨bG, 0, none⟩) (lrGs g).length cG], gotS (some ⟨bG, 0, none⟩) (lrGs g).length cG bcs (lrGs g), gotB bcs (lrGs g), blk bg 27 [.slice A0 g.Terms.length c0, .slice A1 g.Levels.length c1, .slice A2 g.Pats.length c2, .slice A3 g.Nons.length c3, .slice A4 g.Prods.length c4]]) (fun c => g.Terms.length - c.1) ?_ (Ent.refl _) ?_
      · repeat' (first | exact Sub.nil _ | refine Sub.cons rfl ?_)
      rintro ⟨c, hc2⟩
      simp only at hc2 ⊢
      repeat' (first | refine e_nil ?_ | ((refine e_op ?_); (first | refine o_n (peval_sound rfl) rfl ?_ | refine o_n (nl rfl rfl tc rfl) rfl ?_)) | refine s_seq ?_ | refine s_region ?_)
      by_cases hcT : c < g.Terms.length
      · rw [decide_eq_true (p := (c : Int) < (g.Terms.length : Int)) (by omega)]
        have hxs := hXS a b c haX hbX hcT
        have hvs := loadB (r := S[a][b]) (j := c) (o := 0 + c * 1) (by rw [hSTb]; exact hcT) (by omega) (bytes := 1) (z := [.bool false])
        have hbb : S[a][b].getD c false = bit3 S a b c := by unfold bit3; rw [getD_at haS, getD_at hbS]
        rw [hbb, ← hxs] at hvs
        repeat' (first | ((refine e_op ?_); (refine o_n (peval_sound rfl) rfl ?_)) | refine s_seq ?_ | refine s_region ?_ | refine s_block ?_ | refine s_skip ?_ | refine s_true rfl ?_)
        refine e_op (o_n (n_index rfl rfl rfl rfl a rfl haX) rfl ?_)
        refine e_op (o_n (n_load_osl rfl rfl (.s (.s (.s (.s (.s (.s (.z))))))) (x_load hal hD hDr haX hPa hra)) rfl ?_)
        repeat' (((refine e_op ?_); (refine o_n (peval_sound rfl) rfl ?_)))
        rw [decide_eq_true (p := (b : Int) < (g.Prods.length : Int)) (by omega)]
        repeat' (((refine e_yes rfl ?_); (refine o_n (peval_sound rfl) rfl ?_)))
        refine e_yes rfl (o_n (n_index rfl rfl rfl rfl a rfl haX) rfl ?_)
        refine e_yes rfl (o_n (n_load_osl rfl rfl (.s (.s (.s (.s (.s (.s (.z))))))) (x_load hal hD hDr haX hPa hra)) rfl ?_)
        repeat' (((refine e_yes rfl ?_); (refine o_n (peval_sound rfl) rfl ?_)))
        refine e_yes rfl (o_n (n_index rfl rfl rfl rfl b rfl hbP) rfl ?_)
        refine e_yes rfl (o_n (n_xcell rfl rfl (.s (.s (.s (.s (.s (.s (.s (.z)))))))) hal hD hDr haX hra hbX rfl rfl) rfl ?_)
        repeat' (((first | refine e_op ?_ | refine e_yes rfl ?_); (refine o_n (peval_sound rfl) rfl ?_)))
        rcases hXlen a b haX hbX with hlX | hlX
        · have hcX : c < X[a][b].length := by omega
          rw [decide_eq_true (p := (c : Int) < (X[a][b].length : Int)) (by omega)]
          obtain ⟨bxi, hbxi⟩ := hXI a (by omega) haX b (by omega) hbX (by omega)
          have hvx := loadB (r := X[a][b]) (j := c) (o := 0 + c * 1) hcX (by omega) (bytes := 1) (z := [.bool false])
          repeat' (((refine e_yes rfl ?_); (refine o_n (peval_sound rfl) rfl ?_)))
          refine e_yes rfl (o_n (n_index rfl rfl rfl rfl a rfl haX) rfl ?_)
          refine e_yes rfl (o_n (n_load_osl rfl rfl (.s (.s (.s (.s (.s (.s (.z))))))) (x_load hal hD hDr haX hPa hra)) rfl ?_)
          repeat' (((refine e_yes rfl ?_); (refine o_n (peval_sound rfl) rfl ?_)))
          refine e_yes rfl (o_n (n_index rfl rfl rfl rfl b rfl hbP) rfl ?_)
          refine e_yes rfl (o_n (n_xcell rfl rfl (.s (.s (.s (.s (.s (.s (.s (.z)))))))) hal hD hDr haX hra hbX rfl rfl) rfl ?_)
          rw [hbxi]
          repeat' (((refine e_yes rfl ?_); (refine o_n (peval_sound rfl) rfl ?_)))
          refine e_yes rfl (o_n (n_index rfl rfl rfl rfl c rfl hcX) rfl ?_)
          refine e_yes rfl (o_n (n_load_inn rfl rfl (.s (.s (.s (.s (.s (.s (.s (.s (.z))))))))) hD a haX hDa b hbX hbxi hvx) rfl ?_)
          generalize X[a][b].getD c false = vv at hvs ⊢
          repeat' (first | refine e_nil ?_ | ((refine e_op ?_); (refine o_n (peval_sound rfl) rfl ?_)) | refine s_seq ?_ | refine s_region ?_)
          refine e_op (o_n (n_index rfl rfl rfl rfl a rfl haX) rfl ?_)
          refine e_op (o_n (n_load_osl rfl rfl .z (x_load hsa0 hsD0 hDr0 haS0 hSP0 hrs)) rfl ?_)
          repeat' (((refine e_op ?_); (refine o_n (peval_sound rfl) rfl ?_)))
          refine e_op (o_n (n_index rfl rfl rfl rfl b rfl hbP) rfl ?_)
          refine e_op (o_n (n_xcell rfl rfl (.s .z) hsa0 hsD0 hDr0 haS0 hrs hbS0 rfl hST0) rfl ?_)
          rw [hbs]
          repeat' (((refine e_op ?_); (refine o_n (peval_sound rfl) rfl ?_)))
          refine e_op (o_n (n_index rfl rfl rfl rfl c rfl hcT) rfl ?_)
          refine e_op (o_n (n_load_inn rfl rfl (.s (.s .z)) hsD1 a haS hDS b hbS hbs hvs) rfl ?_)
          repeat' (first | refine e_nil ?_ | ((refine e_op ?_); (refine o_n (peval_sound rfl) rfl ?_)))
          first | rw [show (vv != vv) = false by simp] | rw [show (!(vv == vv)) = false by simp] | rw [show (!decide (vv = vv)) = false by simp] | rw [show (decide (vv ≠ vv)) = false by simp]
          repeat' (first | refine e_nil ?_ | ((refine e_op ?_); (refine o_n (peval_sound rfl) rfl ?_)) | refine s_region ?_ | refine s_end ?_ | refine s_skip ?_ | refine s_false rfl ?_)
          refine s_back ⟨⟨c + 1, by omega⟩, by simp only; omega, ?_, Ent.refl _⟩
          repeat' (first | exact Sub.nil _ | refine Sub.cons rfl ?_ | refine Sub.consE rfl ?_ ?_)
          exact inc (i := c) (by omega)
        · have h0v : X[a][b].getD c false = false := by rw [hlX]; rfl
          rw [h0v] at hvs
          rw [show X[a][b].length = 0 by rw [hlX]; rfl]
          rw [decide_eq_false (p := (c : Int) < ((0 : Nat) : Int)) (by omega)]
          repeat' (first | refine e_nil ?_ | ((refine e_op ?_); (refine o_n (peval_sound rfl) rfl ?_)) | refine e_noU rfl rfl rfl ?_ | refine s_seq ?_ | refine s_region ?_)
          refine e_op (o_n (n_index rfl rfl rfl rfl a rfl haX) rfl ?_)
          refine e_op (o_n (n_load_osl rfl rfl .z (x_load hsa0 hsD0 hDr0 haS0 hSP0 hrs)) rfl ?_)
          repeat' (((refine e_op ?_); (refine o_n (peval_sound rfl) rfl ?_)))
          refine e_op (o_n (n_index rfl rfl rfl rfl b rfl hbP) rfl ?_)
          refine e_op (o_n (n_xcell rfl rfl (.s .z) hsa0 hsD0 hDr0 haS0 hrs hbS0 rfl hST0) rfl ?_)
          rw [hbs]
          repeat' (((refine e_op ?_); (refine o_n (peval_sound rfl) rfl ?_)))
          refine e_op (o_n (n_index rfl rfl rfl rfl c rfl hcT) rfl ?_)
          refine e_op (o_n (n_load_inn rfl rfl (.s (.s .z)) hsD1 a haS hDS b hbS hbs hvs) rfl ?_)
          repeat' (first | refine e_nil ?_ | ((refine e_op ?_); (refine o_n (peval_sound rfl) rfl ?_)) | refine s_region ?_ | refine s_end ?_ | refine s_skip ?_ | refine s_false rfl ?_)
          refine s_back ⟨⟨c + 1, by omega⟩, by simp only; omega, ?_, Ent.refl _⟩
          repeat' (first | exact Sub.nil _ | refine Sub.cons rfl ?_ | refine Sub.consE rfl ?_ ?_)
          exact inc (i := c) (by omega)
      · rw [decide_eq_false (p := (c : Int) < (g.Terms.length : Int)) (by omega)]
        repeat' (first | refine e_nil ?_ | ((refine e_op ?_); (refine o_n (peval_sound rfl) rfl ?_)) | refine s_region ?_ | refine s_end ?_ | refine s_exit ?_ | refine s_false rfl ?_ | refine x_hit ?_ | refine x_code ?_ | refine x_back ?_)
        refine s_back ⟨⟨b + 1, by omega⟩, by simp only; omega, ?_, Ent.refl _⟩
        repeat' (first | exact Sub.nil _ | refine Sub.cons rfl ?_ | refine Sub.consE rfl ?_ ?_)
        exact inc (i := b) (by omega)
    · rw [decide_eq_false (p := (b : Int) < (g.Prods.length : Int)) (by omega)]
      repeat' (first | refine e_nil ?_ | ((refine e_op ?_); (refine o_n (peval_sound rfl) rfl ?_)) | refine s_region ?_ | refine s_end ?_ | refine s_exit ?_ | refine s_false rfl ?_ | refine x_hit ?_ | refine x_code ?_ | refine x_back ?_)
      refine s_back ⟨⟨a + 1, by omega⟩, by simp only; omega, ?_, Ent.refl _⟩
      repeat' (first | exact Sub.nil _ | refine Sub.cons rfl ?_ | refine Sub.consE rfl ?_ ?_)
      exact inc (i := a) (by omega)
  · rw [decide_eq_false (p := (a : Int) < (X.length : Int)) (by omega)]
    repeat' (first | refine e_nil ?_ | ((refine e_op ?_); (refine o_n (peval_sound rfl) rfl ?_)) | refine s_seq ?_ | refine s_region ?_ | refine s_exit ?_ | refine s_false rfl ?_ | refine x_hit ?_ | refine x_code ?_ | refine x_back ?_)
    refine s_ret ⟨_, _, res1 rfl rfl, ⟨rfl, rfl⟩, Ent.nil _⟩

end Go.Proofs.YtcbaebkkdkdaaaaDoor
