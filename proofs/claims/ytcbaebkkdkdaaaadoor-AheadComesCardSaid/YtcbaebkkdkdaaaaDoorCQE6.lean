/-
  The statement AheadComes, walked.
-/
import Derived.Test.YtcbaebkkdkdaaaaDoorCQE5
import Derived.Test.YtcbaebkkdkdaaaaDoorCQD8

namespace Go.Proofs.YtcbaebkkdkdaaaaDoor
set_option linter.all false
open Go.Proofs.YtcbaebkkdkdaaaaDoor.E

theorem only0 {g : Gram} (hw : Wf0 g) {k : Nat} (hk : k < g.Prods.length) (hl : (prd g k).Left = 0) : k = 0 := by
  have h := hw.prod k hk
  unfold prodOk at h
  rw [prd_at hk] at hl
  simp only [Bool.and_eq_true, decide_eq_true_eq, beq_iff_eq] at h
  have := h.2.2.1
  rw [hl] at this
  simpa using this

/-- What is whole in the tree of the start has the next term behind it. -/
theorem comes {g : Gram} (h0 : lrE g = 0) {w : List Nat} {E : List Wh} (hk : KidOk g (lrGs g) 0 0 [] w E) : ∀ e ∈ E, e.s < (lrKs g).length ∧ e.p < g.Prods.length ∧ (laRow g e.s e.p).getD (nextAt w 0 e.b) false = true := fun e he => by
  have hF := goF h0
  have h1 := hk.2 0 (fun k hk hl => by
    obtain rfl := only0 hF.wf hk (by simpa using hl)
    exact LA.base) e he
  rw [List.nil_append] at h1
  have hv := la_vp hF h1
  have hin := hv.in_ hF
  unfold inG at hin
  simp only [Bool.and_eq_true, decide_eq_true_eq] at hin
  obtain ⟨hs, _⟩ := hv
  refine ⟨hs, by omega, (laRow_bit h0).2 ⟨?_, h1⟩⟩
  exact la_lt (by have := hF.wf.t; omega) h1

theorem can_gs {E0 : Go.Proofs.YtcbaebkkdkdaaaaDoor.E.Env} {U V : List Asn} {AK AG : Option Addr} {cK cG : Nat} {acs bcs : List (Option Addr × Nat)} {ks : List (List Itm)} {gs : List (List Int)} (hl : acs.length = ks.length) (hb : bcs.length = gs.length) (hN : LrNum ks gs)
    (he : Ent V ([kerS AK ks.length cK acs ks, kerB acs ks, gotS AG gs.length cG bcs gs, gotB bcs gs] ++ U)) : Go.Proofs.YtcbaebkkdkdaaaaDoor.E.Can E0 V ((kslice 24 (kslice 8 kint)).rd [.slice AG gs.length cG] gs) :=
  Can.of fun w S hs => by
    obtain ⟨c1, c2, e, ⟨_, _, rfl, _⟩, h2⟩ := lr_rd hl hb hN (he w S hs)
    simp only [List.cons_append, List.nil_append, List.cons.injEq, true_and] at e
    rw [e.2]
    exact h2

theorem encW_len (D : List Wh) : (encW D).length = D.length * 3 := by
  unfold encW; induction D with
  | nil => rfl
  | cons x D ih => rw [List.flatMap_cons, List.length_append, ih]; simp only [List.length_cons, List.length_nil]; omega
theorem encW_drop : ∀ {l : List Wh} {i : Nat} (h : i < l.length), ((encW l).drop (i * 3)).take 3 = encW1 l[i]
  | x :: l, 0, _ => by simp [encW]
  | x :: l, i + 1, h => by
    have h2 : i < l.length := by simpa using h
    rw [List.getElem_cons_succ, ← encW_drop h2, show (i + 1) * 3 = 3 + i * 3 by omega, ← List.drop_drop]
    rfl
theorem encW_load {l : List Wh} {i : Nat} (h : i < l.length) {z : List Value} : loadL ⟨.struct [(0, 1), (1, 1), (2, 1)], 3, 24, z⟩ (encW l) (0 + i * 3) = some (.agg (encW1 l[i]).toArray) := by
  unfold loadL
  simp only [aggB, cond_true]
  have : Nat.ble (0 + i * 3 + 3) (encW l).length = true := by rw [encW_len]; exact Nat.ble_eq_true_of_le (by omega)
  rw [this, cond_true, Nat.zero_add, encW_drop h]

attribute [local irreducible] EVX EVO EVL EV1 NEV
attribute [local irreducible] own osl exA rdA rdL
attribute [local irreducible] bldA mapA bun mapS
set_option maxRecDepth 10000
set_option maxHeartbeats 4000000

theorem aheadComes_w (cs : List Value) (g : Gram) (AP : Option Addr) (cP : Nat) (P : List Int) : Trip Tryd.prog 9 [.agg cs.toArray, .slice AP P.length cP] ((kGram.rd cs g).and ((kslice 8 kint).rd [.slice AP P.length cP] P)) [] (fun v V => v = .bool true ∧ V = []) := by
  refine trip Tryd.tabOk Tryd.func9 rfl rfl rfl rfl ?_
  rintro w SM ⟨hG0, hP0⟩
  obtain ⟨A0, A1, A2, A3, A4, c0, c1, c2, c3, c4, rfl, hG⟩ := kGram_open hG0
  repeat' (first | refine e_nil ?_ | ((refine e_op ?_); (first | refine o_n (peval_sound rfl) rfl ?_ | refine o_box rfl rfl (fun _ => ?_))) | refine s_seq ?_ | refine s_region ?_)
  rename_i bg
  refine e_op (o_call works20_w rfl .nil Can.tt rfl ?_)
  rintro v V ⟨rfl, rfl⟩
  simp only [List.nil_append]
  repeat' (first | refine e_nil ?_ | ((refine e_op ?_); (first | refine o_n (peval_sound rfl) rfl ?_ | refine o_n (nl rfl rfl tc rfl) rfl ?_)) | refine s_seq ?_ | refine s_region ?_ | refine s_skip ?_ | refine s_false rfl ?_)
  refine e_op (o_call (check_w _ g) rfl .nil (Can.ro hG0) rfl ?_)
  rintro v V ⟨rfl, rfl⟩
  simp only [List.nil_append]
  repeat' (((refine e_op ?_); (refine o_n (peval_sound rfl) rfl ?_)))
  by_cases he : checkE g ≠ 0
  · rw [show (checkE g != 0) = true by simpa using he]
    repeat' (first | refine e_nil ?_ | ((refine e_op ?_); (refine o_n (peval_sound rfl) rfl ?_)) | refine e_noU rfl rfl rfl ?_ | refine s_seq ?_ | refine s_region ?_ | refine s_true rfl ?_)
    refine s_ret ⟨_, _, res1 rfl rfl, ⟨rfl, rfl⟩, Ent.nil _⟩
  replace he : checkE g = 0 := Classical.not_not.1 he
  rw [show (checkE g != 0) = false by simpa using he]
  repeat' (((refine e_yes rfl ?_); (refine o_n (nl rfl rfl tc rfl) rfl ?_)))
  refine e_yes rfl (o_call (few20_w _ g) rfl .nil (Can.ro hG0) rfl ?_)
  rintro v V ⟨rfl, rfl⟩
  simp only [List.nil_append]
  repeat' (first | refine e_nil ?_ | ((first | refine e_op ?_ | refine e_yes rfl ?_); (refine o_n (peval_sound rfl) rfl ?_)))
  by_cases hfew : ¬ (g.Prods.length : Int) ≤ 30
  · rw [decide_eq_false hfew]
    repeat' (first | refine e_nil ?_ | ((refine e_op ?_); (refine o_n (peval_sound rfl) rfl ?_)) | refine s_seq ?_ | refine s_region ?_ | refine s_true rfl ?_)
    refine s_ret ⟨_, _, res1 rfl rfl, ⟨rfl, rfl⟩, Ent.nil _⟩
  replace hfew := Classical.not_not.1 hfew
  rw [decide_eq_true hfew]
  repeat' (first | ((refine e_op ?_); (refine o_n (nl rfl rfl tc rfl) rfl ?_)) | refine s_seq ?_ | refine s_region ?_ | refine s_skip ?_ | refine s_false rfl ?_)
  refine e_op (o_call (ofP_w _ g (fun _ => by omega)) rfl .nil (Can.ro hG0) rfl ?_)
  rintro v V ⟨x, rfl, AK, cK, kerc, AG, cG, bcs, hkl, hb, rfl, rfl⟩
  simp only [List.cons_append, List.nil_append]
  repeat' (first | refine e_nil ?_ | ((refine e_op ?_); (first | refine o_n (peval_sound rfl) rfl ?_ | refine o_n (nl rfl rfl tc rfl) rfl ?_ | refine o_storeC rfl rfl rfl rfl tc uc rfl rfl rfl ?_ | refine o_alloc rfl rfl (fun _ => ?_))) | refine s_seq ?_ | refine s_region ?_)
  refine e_op (o_call (aheadOf_w _ g (fun _ => by omega)) rfl .nil (Can.ro hG0) rfl ?_)
  rintro v V ⟨AX, n, cX, acs, D, rfl, hn, hal, hD, hDr, rfl⟩
  simp only [List.cons_append, List.nil_append]
  repeat' (first | refine e_nil ?_ | ((refine e_op ?_); (refine o_n (peval_sound rfl) rfl ?_)) | refine s_seq ?_ | refine s_region ?_)
  rcases (lrE_vals he).symm with h5 | h0
  · rw [h5]
    repeat' (first | refine e_nil ?_ | ((refine e_op ?_); (refine o_n (peval_sound rfl) rfl ?_)) | refine e_noU rfl rfl rfl ?_ | refine s_seq ?_ | refine s_region ?_ | refine s_true rfl ?_)
    refine s_ret ⟨_, _, res1 rfl rfl, ⟨rfl, rfl⟩, Ent.nil _⟩
  rw [h0]
  have hF := goF h0
  have hN := lr_num g
  have hco := fun w E h => comes (g := g) h0 (w := w) (E := E) h
  have hXP : ∀ (i : Nat) (hi : i < (laX g).length), (laX g)[i].length = g.Prods.length := fun i hi => by rw [laX_row h0 hi, YR_len]
  have hXv : ∀ (i k : Nat) (hi : i < (laX g).length) (hk : k < (laX g)[i].length), (laX g)[i][k] = laRow g i k := fun i k hi hk => laX_at h0 hi hk
  have hXn : (laX g).length = (lrKs g).length := laX_len h0
  generalize hXe : laX g = X at hXn hn hal hD hDr hXP hXv ⊢
  clear hXe
  subst hn
  have hL := hF.lim
  have hwf := hF.wf
  have hT1 := hwf.t
  have hN2 := hwf.n
  have hNo := hL.n
  have hPr0 := hwf.prods
  have hX512 : X.length ≤ 512 := by rw [hXn]; exact hF.n
  repeat' (first | refine e_nil ?_ | ((first | refine e_op ?_ | refine e_yes rfl ?_); (first | refine o_n (peval_sound rfl) rfl ?_ | refine o_n (nl rfl rfl tc rfl) rfl ?_)) | refine s_seq ?_ | refine s_region ?_ | refine s_skip ?_ | refine s_false rfl ?_)
  refine e_op (o_lit (ps := [(0, .int .i64 0)]) (cs := [.int .i64 0]) rfl rfl rfl rfl rfl rfl rfl (fun bz => ?_))
  repeat' (first | refine e_nil ?_ | ((refine e_op ?_); (first | refine o_n (peval_sound rfl) rfl ?_ | refine o_n (nl rfl rfl tc rfl) rfl ?_ | refine o_box rfl rfl (fun _ => ?_))) | refine s_seq ?_ | refine s_region ?_)
  refine e_op (o_call (least_w _ g he) rfl .nil (Can.ro hG0) rfl ?_)
  rintro v V ⟨bo, rfl, rfl⟩
  simp only [List.cons_append, List.nil_append]
  rename_i bl bw
  refine e_ent (Ent.osl0 (e := 3) (sz := 1) (Ent.refl _)) ?_
  refine e_ent (Ent.osl0 (e := 68) (sz := 3) (Ent.refl _)) ?_
  have hvl0 : ∀ k : Nat, k < g.Prods.length → (prd g k).Left = ((0 : Nat) : Int) → VP g (lrKs g) ⟨0, ⟨k, 0⟩⟩ := fun k hk hl => by
    obtain rfl := only0 hwf hk (by simpa using hl)
    exact vp00 hF
  have hlI : ∀ x ∈ leastL g, I64 x := fun x hx => by
    obtain ⟨m, hm, rfl⟩ := List.getElem_of_mem hx
    rcases (LInv.it hwf g.Nons.length).v m hm with e | ⟨i, hi, e, _⟩ <;> rw [show (leastL g)[m] = _ from e] <;> unfold I64 <;> omega
  refine e_op (o_call (walk_all 402 0 rfl bw A0 A1 A2 A3 A4 c0 c1 c2 c3 c4 g he (lrKs g) (lrGs g) hF AP cP P 0 (by omega) none 0 [] none 0 [] (some ⟨bz, 0, none⟩) 1 [0] AG cG 0 0 (by omega) (some ⟨bo, 0, none⟩) g.Nons.length 0 rfl hvl0 (by omega) (by omega) (by simp) (by simp) (by simp)) rfl (.cons (.s (.s (.s .z))) (.cons (.s (.s (.s .z))) (.cons (.s .z) (.cons .z .nil)))) (Can.and (Can.ro hG0) (Can.and (Can.ro hP0) (Can.and (can_ints .z hlI (by omega)) (can_gs hkl hb hN (Ent.wk (Ent.wk (Ent.wk (Ent.wk (Ent.wk (Ent.refl _)))))))))) rfl ?_)
  rintro v V ⟨tx, E, a', sp, AT, cT, AD, cD, AS, cS, rfl, ⟨ra, rs0, rs1, rs2, rw_, re, ro⟩, rfl⟩
  simp only [List.cons_append, List.nil_append]
  repeat' (first | refine e_nil ?_ | ((first | refine e_op ?_ | refine e_yes rfl ?_); (first | refine o_n (peval_sound rfl) rfl ?_ | refine o_n (nl rfl rfl tc rfl) rfl ?_)) | refine s_seq ?_ | refine s_region ?_)
  by_cases hsp : sp > 400
  · rw [decide_eq_true (p := (sp : Int) > 400) (by omega)]
    repeat' (first | refine e_nil ?_ | ((refine e_op ?_); (first | refine o_n (peval_sound rfl) rfl ?_ | refine o_n (nl rfl rfl tc rfl) rfl ?_)) | refine s_seq ?_ | refine s_region ?_ | refine s_true rfl ?_)
    refine s_ret ⟨_, _, res1 rfl rfl, ⟨rfl, rfl⟩, Ent.nil _⟩
  rw [decide_eq_false (p := (sp : Int) > 400) (by omega)]
  have hkid := (ro (by omega)).2
  have hco2 := hco tx E hkid
  clear hco ro
  have hXlen : ∀ (i k : Nat) (hi : i < X.length) (hk : k < X[i].length), X[i][k].length = g.Terms.length ∨ X[i][k] = [] := fun i k hi hk => by
    rw [hXv i k hi hk]
    exact laRow_len h0 i k
  refine s_open (.s (.s (.s (.s (.s .z))))) (by rw [hXn]; exact hF.p0) ?_
  rintro bX rfl
  refine s_addrs (.s (.s (.s (.s (.s (.s .z)))))) (by rw [rowVs_len hD]; exact hal) (fun hXA => ?_)
  refine s_innA (.s (.s (.s (.s (.s (.s (.s .z))))))) hD hDr (fun hXI => ?_)
  repeat' (first | refine e_nil ?_ | ((refine e_op ?_); (refine o_n (peval_sound rfl) rfl ?_)) | refine s_seq ?_ | refine s_region ?_ | refine s_block ?_ | refine s_skip ?_ | refine s_false rfl ?_)
  refine s_loopK (ι := {i : Nat // i ≤ E.length}) [9, 7] rfl ⟨0, by omega⟩ (fun i => [(10, .int .i64 i.1)]) (fun _ => [mkK bw (.slice A0 g.Terms.length c0) (.slice A1 g.Levels.length c1) (.slice A2 g.Pats.length c2) (.slice A3 g.Nons.length c3) (.slice A4 g.Prods.length c4) (.slice AP P.length cP) a' (.slice AT tx.length cT) (.slice AD E.length cD) (.slice AS [0].length cS) (.slice AG (lrGs g).length cG) true sp, osl 3 1 (.slice AT (tx).length cT) (tx).length (encM (tx)), osl 68 3 (.slice AD (E).length cD) (E).length (encW (E)), osl 69 1 (.slice (some ⟨bX, 0, none⟩) X.length cX) X.length (rowC acs (rowVs D X)), rowO acs D X, bun (innB D X)]) (fun i => E.length - i.1) ?_ ?_ ?_
  · repeat' (first | exact Sub.nil _ | refine Sub.cons rfl ?_)
  · exact Ent.cons (Ent.wk (Ent.cons (Ent.cons (Ent.wk (Ent.cons (Ent.cons (Ent.cons (Ent.nil _))))))))
  rintro ⟨i, hi⟩
  simp only at hi ⊢
  repeat' (first | refine e_nil ?_ | ((refine e_op ?_); (first | refine o_n (peval_sound rfl) rfl ?_ | refine o_n (nl rfl rfl tc rfl) rfl ?_)) | refine s_seq ?_ | refine s_region ?_)
  by_cases hiE : i < E.length
  · rw [decide_eq_true (p := (i : Int) < (E.length : Int)) (by omega)]
    refine s_open (.s (.s .z)) (by omega) ?_
    rintro bD rfl
    obtain ⟨hs1, hp1, hbit⟩ := hco2 E[i] (List.getElem_mem hiE)
    have hld := encW_load hiE (z := [.int .i64 0, .int .i64 0, .int .i64 0])
    generalize E[i] = ee at hs1 hp1 hbit hld
    obtain ⟨p, s, b⟩ := ee
    simp only at hs1 hp1 hbit
    have hsX : s < X.length := by rw [hXn]; exact hs1
    have hPa := hXP s hsX
    obtain ⟨ra2, hra⟩ := x_addr hal hD hDr hXA hsX (by omega)
    have hpX : p < X[s].length := by omega
    rw [← hXv s p hsX hpX] at hbit
    have hDs := hDr s (by omega) hsX
    have hnl := getD_lt hbit
    obtain ⟨bxi, hbxi⟩ := hXI s (by omega) hsX p (by omega) hpX (by omega)
    have hvx := loadB (r := X[s][p]) (j := nextAt tx 0 b) (o := 0 + nextAt tx 0 b * 1) hnl (by omega) (bytes := 1) (z := [.bool false])
    rw [hbit] at hvx
    repeat' (first | ((refine e_op ?_); (first | refine o_n (peval_sound rfl) rfl ?_ | refine o_n (nl rfl rfl tc rfl) rfl ?_)) | refine s_seq ?_ | refine s_region ?_ | refine s_block ?_ | refine s_skip ?_ | refine s_true rfl ?_)
    refine e_op (o_n (n_index rfl rfl rfl rfl i rfl hiE) rfl ?_)
    refine e_op (o_n (n_load_osl rfl rfl (.s (.s .z)) hld) rfl ?_)
    repeat' (first | refine e_nil ?_ | ((refine e_op ?_); (first | refine o_n (peval_sound rfl) rfl ?_ | refine o_storeC rfl rfl rfl rfl tc uc rfl rfl rfl ?_ | refine o_alloc rfl rfl (fun _ => ?_))) | refine s_seq ?_ | refine s_region ?_)
    rename_i bn
    refine s_weak (fr' := [(12, .int .i64 0), (11, ptrN bn), (10, .int .i64 i), (9, ptrN bw), (7, .slice (some ⟨bX, 0, none⟩) X.length cX)]) (V := [blk bn 68 [.int .i64 p, .int .i64 s, .int .i64 b], mkK bw (.slice A0 g.Terms.length c0) (.slice A1 g.Levels.length c1) (.slice A2 g.Pats.length c2) (.slice A3 g.Nons.length c3) (.slice A4 g.Prods.length c4) (.slice AP P.length cP) a' (.slice AT tx.length cT) (.slice (some ⟨bD, 0, none⟩) E.length cD) (.slice AS [0].length cS) (.slice AG (lrGs g).length cG) true sp, osl 3 1 (.slice AT (tx).length cT) (tx).length (encM (tx)), osl 68 3 (.slice (some ⟨bD, 0, none⟩) (E).length cD) (E).length (encW (E)), osl 69 1 (.slice (some ⟨bX, 0, none⟩) X.length cX) X.length (rowC acs (rowVs D X)), rowO acs D X, bun (innB D X)]) ?_ (Ent.refl _) ?_
    · repeat' (first | exact Sub.nil _ | refine Sub.cons rfl ?_)
    refine s_drawU [] Tryd.mixed (by decide +kernel) ?_
    repeat' (first | refine l_nil ?_ | ((first | refine l_n (peval_sound rfl) rfl ?_ rfl ?_ | refine l_n (nl rfl rfl tc rfl) rfl ?_ rfl ?_); · (exact Ent.refl _)))
    by_cases hbt : b < tx.length
    · rw [decide_eq_true (p := (b : Int) < (tx.length : Int)) (by omega)]
      have hnx : nextAt tx 0 b = tx[b] := by unfold nextAt; rw [List.getD_eq_getElem?_getD, List.getElem?_eq_getElem hbt]; rfl
      repeat' (refine s_true rfl ?_)
      refine s_open (.s (.s .z)) (by omega) ?_
      rintro bT rfl
      skip
      refine s_drawU [] Tryd.mixed (by decide +kernel) ?_
      repeat' (((first | refine l_n (peval_sound rfl) rfl ?_ rfl ?_ | refine l_n (nl rfl rfl tc rfl) rfl ?_ rfl ?_); · (exact Ent.refl _)))
      refine l_n (n_index rfl rfl rfl rfl b rfl hbt) rfl (Ent.refl _) rfl ?_
      refine l_n (n_load_osl rfl rfl (.s (.s .z)) (loadM (i := b) (o := 0 + b * 1) hbt (by omega))) rfl (Ent.refl _) rfl ?_
      rw [← hnx]
      repeat' (first | refine l_nil ?_ | ((refine l_n (peval_sound rfl) rfl ?_ rfl ?_); · (exact Ent.refl _)))
      refine s_weak (fr' := [(12, .int .i64 (nextAt tx 0 b : Nat)), (11, ptrN bn), (10, .int .i64 i), (9, ptrN bw), (7, .slice (some ⟨bX, 0, none⟩) X.length cX)]) (V := [blk bn 68 [.int .i64 p, .int .i64 s, .int .i64 b], mkK bw (.slice A0 g.Terms.length c0) (.slice A1 g.Levels.length c1) (.slice A2 g.Pats.length c2) (.slice A3 g.Nons.length c3) (.slice A4 g.Prods.length c4) (.slice AP P.length cP) a' (.slice (some ⟨bT, 0, none⟩) tx.length cT) (.slice (some ⟨bD, 0, none⟩) E.length cD) (.slice AS [0].length cS) (.slice AG (lrGs g).length cG) true sp, osl 3 1 (.slice (some ⟨bT, 0, none⟩) (tx).length cT) (tx).length (encM (tx)), osl 68 3 (.slice (some ⟨bD, 0, none⟩) (E).length cD) (E).length (encW (E)), osl 69 1 (.slice (some ⟨bX, 0, none⟩) X.length cX) X.length (rowC acs (rowVs D X)), rowO acs D X, bun (innB D X)]) ?_ (Ent.refl _) ?_
      · repeat' (first | exact Sub.nil _ | refine Sub.cons rfl ?_)
      repeat' (refine s_seq ?_)
      refine s_drawU [] Tryd.mixed (by decide +kernel) ?_
      repeat' (((first | refine l_n (peval_sound rfl) rfl ?_ rfl ?_ | refine l_n (nl rfl rfl tc rfl) rfl ?_ rfl ?_); · (exact Ent.refl _)))
      rw [decide_eq_false (p := (s : Int) ≥ (X.length : Int)) (by omega)]
      repeat' (((first | refine l_ny rfl (peval_sound rfl) rfl ?_ rfl ?_ | refine l_ny rfl (nl rfl rfl tc rfl) rfl ?_ rfl ?_); · (exact Ent.refl _)))
      refine l_ny rfl (n_index rfl rfl rfl rfl s rfl hsX) rfl (Ent.refl _) rfl ?_
      refine l_ny rfl (n_load_osl rfl rfl (.s (.s (.s (.s .z)))) (x_load hal hD hDr hsX hPa hra)) rfl (Ent.refl _) rfl ?_
      repeat' (((first | refine l_n (peval_sound rfl) rfl ?_ rfl ?_ | refine l_ny rfl (peval_sound rfl) rfl ?_ rfl ?_); · (exact Ent.refl _)))
      rw [decide_eq_false (p := (p : Int) ≥ (g.Prods.length : Int)) (by omega)]
      repeat' (((first | refine l_ny rfl (peval_sound rfl) rfl ?_ rfl ?_ | refine l_ny rfl (nl rfl rfl tc rfl) rfl ?_ rfl ?_); · (exact Ent.refl _)))
      refine l_ny rfl (n_index rfl rfl rfl rfl s rfl hsX) rfl (Ent.refl _) rfl ?_
      refine l_ny rfl (n_load_osl rfl rfl (.s (.s (.s (.s .z)))) (x_load hal hD hDr hsX hPa hra)) rfl (Ent.refl _) rfl ?_
      repeat' (((first | refine l_ny rfl (peval_sound rfl) rfl ?_ rfl ?_ | refine l_ny rfl (nl rfl rfl tc rfl) rfl ?_ rfl ?_); · (exact Ent.refl _)))
      refine l_ny rfl (n_index rfl rfl rfl rfl p rfl (by omega)) rfl (Ent.refl _) rfl ?_
      refine l_ny rfl (n_xcell rfl rfl (.s (.s (.s (.s (.s .z))))) hal hD hDr hsX hra hpX rfl rfl) rfl (Ent.refl _) rfl ?_
      repeat' (((first | refine l_n (peval_sound rfl) rfl ?_ rfl ?_ | refine l_ny rfl (peval_sound rfl) rfl ?_ rfl ?_); · (exact Ent.refl _)))
      rw [decide_eq_false (p := (nextAt tx 0 b : Int) ≥ (X[s][p].length : Int)) (by omega)]
      repeat' (((first | refine l_ny rfl (peval_sound rfl) rfl ?_ rfl ?_ | refine l_ny rfl (nl rfl rfl tc rfl) rfl ?_ rfl ?_); · (exact Ent.refl _)))
      refine l_ny rfl (n_index rfl rfl rfl rfl s rfl hsX) rfl (Ent.refl _) rfl ?_
      refine l_ny rfl (n_load_osl rfl rfl (.s (.s (.s (.s .z)))) (x_load hal hD hDr hsX hPa hra)) rfl (Ent.refl _) rfl ?_
      repeat' (((first | refine l_ny rfl (peval_sound rfl) rfl ?_ rfl ?_ | refine l_ny rfl (nl rfl rfl tc rfl) rfl ?_ rfl ?_); · (exact Ent.refl _)))
      refine l_ny rfl (n_index rfl rfl rfl rfl p rfl (by omega)) rfl (Ent.refl _) rfl ?_
      refine l_ny rfl (n_xcell rfl rfl (.s (.s (.s (.s (.s .z))))) hal hD hDr hsX hra hpX rfl rfl) rfl (Ent.refl _) rfl ?_
      rw [hbxi]
      repeat' (((refine l_ny rfl (peval_sound rfl) rfl ?_ rfl ?_); · (exact Ent.refl _)))
      refine l_ny rfl (n_index rfl rfl rfl rfl (nextAt tx 0 b) rfl hnl) rfl (Ent.refl _) rfl ?_
      refine l_ny rfl (n_load_inn rfl rfl (.s (.s (.s (.s (.s (.s .z)))))) hD s hsX hDs p hpX hbxi hvx) rfl (Ent.refl _) rfl ?_
      repeat' (first | refine l_nil ?_ | ((first | refine l_n (peval_sound rfl) rfl ?_ rfl ?_ | refine l_ny rfl (peval_sound rfl) rfl ?_ rfl ?_); · (exact Ent.refl _)))
      repeat' (first | refine e_nil ?_ | ((refine e_op ?_); (refine o_n (peval_sound rfl) rfl ?_)) | refine s_region ?_ | refine s_end ?_ | refine s_skip ?_ | refine s_false rfl ?_)
      refine s_back ⟨⟨i + 1, by omega⟩, by simp only; omega, ?_, Ent.wk (Ent.refl _)⟩
      repeat' (first | exact Sub.nil _ | refine Sub.cons rfl ?_ | refine Sub.consE rfl ?_ ?_)
      exact inc (i := i) (by omega)
    · rw [decide_eq_false (p := (b : Int) < (tx.length : Int)) (by omega)]
      have hnx : nextAt tx 0 b = 0 := by unfold nextAt; rw [List.getD_eq_getElem?_getD, List.getElem?_eq_none (by omega)]; rfl
      repeat' (first | refine s_seq ?_ | refine s_skip ?_ | refine s_false rfl ?_)
      refine s_weak (fr' := [(12, .int .i64 (nextAt tx 0 b : Nat)), (11, ptrN bn), (10, .int .i64 i), (9, ptrN bw), (7, .slice (some ⟨bX, 0, none⟩) X.length cX)]) (V := [blk bn 68 [.int .i64 p, .int .i64 s, .int .i64 b], mkK bw (.slice A0 g.Terms.length c0) (.slice A1 g.Levels.length c1) (.slice A2 g.Pats.length c2) (.slice A3 g.Nons.length c3) (.slice A4 g.Prods.length c4) (.slice AP P.length cP) a' (.slice AT tx.length cT) (.slice (some ⟨bD, 0, none⟩) E.length cD) (.slice AS [0].length cS) (.slice AG (lrGs g).length cG) true sp, osl 3 1 (.slice AT (tx).length cT) (tx).length (encM (tx)), osl 68 3 (.slice (some ⟨bD, 0, none⟩) (E).length cD) (E).length (encW (E)), osl 69 1 (.slice (some ⟨bX, 0, none⟩) X.length cX) X.length (rowC acs (rowVs D X)), rowO acs D X, bun (innB D X)]) ?_ (Ent.refl _) ?_
      · repeat' (first | exact Sub.nil _ | refine Sub.cons rfl ?_ | refine Sub.consE rfl ?_ ?_)
        rw [hnx]; rfl
      skip
      refine s_drawU [] Tryd.mixed (by decide +kernel) ?_
      repeat' (((first | refine l_n (peval_sound rfl) rfl ?_ rfl ?_ | refine l_n (nl rfl rfl tc rfl) rfl ?_ rfl ?_); · (exact Ent.refl _)))
      rw [decide_eq_false (p := (s : Int) ≥ (X.length : Int)) (by omega)]
      repeat' (((first | refine l_ny rfl (peval_sound rfl) rfl ?_ rfl ?_ | refine l_ny rfl (nl rfl rfl tc rfl) rfl ?_ rfl ?_); · (exact Ent.refl _)))
      refine l_ny rfl (n_index rfl rfl rfl rfl s rfl hsX) rfl (Ent.refl _) rfl ?_
      refine l_ny rfl (n_load_osl rfl rfl (.s (.s (.s (.s .z)))) (x_load hal hD hDr hsX hPa hra)) rfl (Ent.refl _) rfl ?_
      repeat' (((first | refine l_n (peval_sound rfl) rfl ?_ rfl ?_ | refine l_ny rfl (peval_sound rfl) rfl ?_ rfl ?_); · (exact Ent.refl _)))
      rw [decide_eq_false (p := (p : Int) ≥ (g.Prods.length : Int)) (by omega)]
      repeat' (((first | refine l_ny rfl (peval_sound rfl) rfl ?_ rfl ?_ | refine l_ny rfl (nl rfl rfl tc rfl) rfl ?_ rfl ?_); · (exact Ent.refl _)))
      refine l_ny rfl (n_index rfl rfl rfl rfl s rfl hsX) rfl (Ent.refl _) rfl ?_
      refine l_ny rfl (n_load_osl rfl rfl (.s (.s (.s (.s .z)))) (x_load hal hD hDr hsX hPa hra)) rfl (Ent.refl _) rfl ?_
      repeat' (((first | refine l_ny rfl (peval_sound rfl) rfl ?_ rfl ?_ | refine l_ny rfl (nl rfl rfl tc rfl) rfl ?_ rfl ?_); · (exact Ent.refl _)))
      refine l_ny rfl (n_index rfl rfl rfl rfl p rfl (by omega)) rfl (Ent.refl _) rfl ?_
      refine l_ny rfl (n_xcell rfl rfl (.s (.s (.s (.s (.s .z))))) hal hD hDr hsX hra hpX rfl rfl) rfl (Ent.refl _) rfl ?_
      repeat' (((first | refine l_n (peval_sound rfl) rfl ?_ rfl ?_ | refine l_ny rfl (peval_sound rfl) rfl ?_ rfl ?_); · (exact Ent.refl _)))
      rw [decide_eq_false (p := (nextAt tx 0 b : Int) ≥ (X[s][p].length : Int)) (by omega)]
      repeat' (((first | refine l_ny rfl (peval_sound rfl) rfl ?_ rfl ?_ | refine l_ny rfl (nl rfl rfl tc rfl) rfl ?_ rfl ?_); · (exact Ent.refl _)))
      refine l_ny rfl (n_index rfl rfl rfl rfl s rfl hsX) rfl (Ent.refl _) rfl ?_
      refine l_ny rfl (n_load_osl rfl rfl (.s (.s (.s (.s .z)))) (x_load hal hD hDr hsX hPa hra)) rfl (Ent.refl _) rfl ?_
      repeat' (((first | refine l_ny rfl (peval_sound rfl) rfl ?_ rfl ?_ | refine l_ny rfl (nl rfl rfl tc rfl) rfl ?_ rfl ?_); · (exact Ent.refl _)))
      refine l_ny rfl (n_index rfl rfl rfl rfl p rfl (by omega)) rfl (Ent.refl _) rfl ?_
      refine l_ny rfl (n_xcell rfl rfl (.s (.s (.s (.s (.s .z))))) hal hD hDr hsX hra hpX rfl rfl) rfl (Ent.refl _) rfl ?_
      rw [hbxi]
      repeat' (((refine l_ny rfl (peval_sound rfl) rfl ?_ rfl ?_); · (exact Ent.refl _)))
      refine l_ny rfl (n_index rfl rfl rfl rfl (nextAt tx 0 b) rfl hnl) rfl (Ent.refl _) rfl ?_
      refine l_ny rfl (n_load_inn rfl rfl (.s (.s (.s (.s (.s (.s .z)))))) hD s hsX hDs p hpX hbxi hvx) rfl (Ent.refl _) rfl ?_
      repeat' (first | refine l_nil ?_ | ((first | refine l_n (peval_sound rfl) rfl ?_ rfl ?_ | refine l_ny rfl (peval_sound rfl) rfl ?_ rfl ?_); · (exact Ent.refl _)))
      repeat' (first | refine e_nil ?_ | ((refine e_op ?_); (refine o_n (peval_sound rfl) rfl ?_)) | refine s_region ?_ | refine s_end ?_ | refine s_skip ?_ | refine s_false rfl ?_)
      refine s_back ⟨⟨i + 1, by omega⟩, by simp only; omega, ?_, Ent.wk (Ent.refl _)⟩
      repeat' (first | exact Sub.nil _ | refine Sub.cons rfl ?_ | refine Sub.consE rfl ?_ ?_)
      exact inc (i := i) (by omega)
  rw [decide_eq_false (p := (i : Int) < (E.length : Int)) (by omega)]
  repeat' (first | refine e_nil ?_ | ((refine e_op ?_); (refine o_n (peval_sound rfl) rfl ?_)) | refine s_seq ?_ | refine s_region ?_ | refine s_exit ?_ | refine s_false rfl ?_ | refine x_hit ?_ | refine x_code ?_ | refine x_back ?_)
  refine s_ret ⟨_, _, res1 rfl rfl, ⟨rfl, rfl⟩, Ent.nil _⟩

end Go.Proofs.YtcbaebkkdkdaaaaDoor
