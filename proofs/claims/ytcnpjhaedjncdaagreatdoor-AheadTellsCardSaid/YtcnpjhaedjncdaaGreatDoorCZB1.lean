/-
  AheadTells: walked.
-/
import Derived.Test.YtcnpjhaedjncdaaGreatDoorAtBase5

namespace Go.Proofs.YtcnpjhaedjncdaaGreatDoor
set_option linter.all false
open Go.Proofs.YtcnpjhaedjncdaaGreatDoor.E

/-! ### the program's answer, read and written -/
theorem laX_bnd {g : Gram} : (laX g).length ≤ 1000 ∧ ∀ (i : Nat) (h : i < (laX g).length), (laX g)[i].length ≤ 1000 ∧ ∀ (k : Nat) (h2 : k < (laX g)[i].length), (laX g)[i][k].length ≤ 48 := by
  by_cases he : lrE g = 0
  · have hF := goF he
    have hn := hF.n
    have hP := hF.lim.p
    have hT := hF.lim.t
    have hl : (laX g).length = (lrKs g).length := by unfold laX; rw [if_pos he]; simp
    have hrow : ∀ (i : Nat) (hi : i < (laX g).length), (laX g)[i] = (List.range g.Prods.length).map fun k => laRow g i k := fun i hi => by
      have e : (laX g)[i]? = some ((List.range g.Prods.length).map fun k => laRow g i k) := by
        unfold laX
        rw [if_pos he, List.getElem?_map, List.getElem?_range (by omega)]; rfl
      rw [List.getElem?_eq_getElem hi] at e
      exact Option.some.inj e
    refine ⟨by omega, fun i hi => ?_⟩
    refine ⟨by rw [hrow i hi]; simp; omega, fun k hk => ?_⟩
    have e : (laX g)[i][k]? = some (laRow g i k) := by
      have hk2 := hk
      rw [hrow i hi] at hk2 ⊢
      rw [List.getElem?_map, List.getElem?_range (by simpa using hk2)]; rfl
    rw [List.getElem?_eq_getElem hk] at e
    rw [Option.some.inj e]
    rcases laRow_len he i k with h | h
    · omega
    · rw [h]; simp
  · have e : laX g = [] := by unfold laX; rw [if_neg he]
    rw [e]
    exact ⟨by simp, fun i hi => absurd hi (Nat.not_lt_zero _)⟩

theorem rd_ahe {AX : Option Addr} {cX : Nat} {acs : AcL} {D : List AcL} {X : List (List Bits)} (hl : acs.length = X.length) (hD : D.length = X.length) (hDr : ∀ (i : Nat) (h1 : i < D.length) (h2 : i < X.length), D[i].length = X[i].length)
    (hb : X.length ≤ 1000 ∧ ∀ (i : Nat) (h : i < X.length), X[i].length ≤ 1000 ∧ ∀ (k : Nat) (h2 : k < X[i].length), X[i][k].length ≤ 48) {w : World} {S : BSet}
    (hw : star [osl 38 1 (.slice AX X.length cX) X.length (rowC acs (rowVs D X)), rowO acs D X, bun (innB D X)] w S) : k3.R w S [.slice AX X.length cX] X := by
  obtain ⟨S1, w1, i1⟩ := star_mem (i := 0) rfl hw
  obtain ⟨S2, w2, i2⟩ := star_mem (i := 1) rfl hw
  obtain ⟨S3, w3, i3⟩ := star_mem (i := 2) rfl hw
  have hvl := rowVs_len (R := X) hD
  rw [← rowC_flat] at w1
  have hE := osl_elsG (kd := kslice 24 (kslice 1 kbool)) (xs := X) (S := S) (ess := List.zipWith (fun (ac : Option Addr × Nat) (r : List Value) => [Value.slice ac.1 r.length ac.2]) acs (rowVs D X)) w1 i1 (by simp [hl, hvl]) rfl (fun i g1 g2 => by
    rw [List.getElem_zipWith]
    have hi : i < X.length := g2
    have hr : (rowVs D X)[i]'(by rw [hvl]; exact hi) = rowC (D[i]'(hD ▸ hi)) X[i] := rowVs_get hD (by rw [hvl]; exact hi) hi
    have hdl := hDr i (hD ▸ hi) hi
    have hrl : (rowC (D[i]'(hD ▸ hi)) X[i]).length = X[i].length := by unfold rowC; simp [hdl]
    obtain ⟨S4, w4, i4⟩ := star_mem (rowX_get (f := fun l : List Value => l) (sz := 1) (ei := 39) (by rw [hvl]; exact hl) (by rw [hvl]; exact hi)) w2
    rw [hr] at w4 ⊢
    have w5 : (osl 39 (kslice 1 kbool).sz (.slice (acs[i]'(by omega)).1 (rowC (D[i]'(hD ▸ hi)) X[i]).length (acs[i]'(by omega)).2) (rowC (D[i]'(hD ▸ hi)) X[i]).length (List.zipWith (fun (ac : Option Addr × Nat) (r : List Bool) => [Value.slice ac.1 r.length ac.2]) (D[i]'(hD ▸ hi)) X[i]).flatten).P w S4 := by
      rw [rowC_flat]; exact w4
    have hE2 := osl_elsG (kd := kslice 1 kbool) (xs := X[i]) (S := S) w5 (fun b hb => i2 b (i4 b hb)) (by simp [hdl]) hrl (fun p g3 g4 => by
      rw [List.getElem_zipWith]
      obtain ⟨S5, w6, i5⟩ := star_mem (innB_get hD hi) w3
      obtain ⟨S6, w7, i6⟩ := star_mem (rowX_get (f := cB) (sz := 1) (ei := 4) hdl g4) w6
      have w9 : (osl 4 1 (.slice ((D[i]'(hD ▸ hi))[p]'(by omega)).1 X[i][p].length ((D[i]'(hD ▸ hi))[p]'(by omega)).2) X[i][p].length (X[i][p].map Value.bool)).P w S6 := w7
      obtain ⟨q1, _, q2⟩ := osl_els (k := kbool) Value.bool rfl kbool_enc w9
      refine (kslice 1 kbool).mono (S := S6) (fun b hb => i3 b (i5 b (i6 b hb))) ⟨_, _, rfl, q2, by have := ((hb.2 i hi).2 p g4); omega, q1⟩)
    refine ⟨_, _, by rw [hrl], hE2.2, by have := (hb.2 i hi).1; omega, hE2.1⟩)
  exact ⟨_, _, rfl, hE.2, by omega, hE.1⟩
section can
variable {E0 : Go.Proofs.YtcnpjhaedjncdaaGreatDoor.E.Env} {U U' : List Asn}
theorem can_ahe {AX : Option Addr} {cX : Nat} {acs : AcL} {D : List AcL} {X : List (List Bits)} (hl : acs.length = X.length) (hD : D.length = X.length) (hDr : ∀ (i : Nat) (h1 : i < D.length) (h2 : i < X.length), D[i].length = X[i].length)
    (hb : X.length ≤ 1000 ∧ ∀ (i : Nat) (h : i < X.length), X[i].length ≤ 1000 ∧ ∀ (k : Nat) (h2 : k < X[i].length), X[i][k].length ≤ 48)
    (he : Ent U ([osl 38 1 (.slice AX X.length cX) X.length (rowC acs (rowVs D X)), rowO acs D X, bun (innB D X)] ++ U')) : Go.Proofs.YtcnpjhaedjncdaaGreatDoor.E.Can E0 U (k3.rd [.slice AX X.length cX] X) := Can.of fun w S hs => by
  obtain ⟨S1, S2, h1, _, _, i1, _⟩ := star_split (he w S hs)
  exact k3.mono i1 (rd_ahe hl hD hDr hb h1)
theorem can_W {W : Asn} {cs : List Value} {x : List (List Bits)} (ht : Tak W U U') (h : ∀ w S, W.P w S → k3.R w S cs x) : Go.Proofs.YtcnpjhaedjncdaaGreatDoor.E.Can E0 U (k3.rd cs x) := Can.of fun w S hs => by
  obtain ⟨S1, h1, i1⟩ := ht.mem hs
  exact k3.mono i1 (h _ _ h1)
end can

theorem n_xrow {E0 : Go.Proofs.YtcnpjhaedjncdaaGreatDoor.E.Env} {fr : Frm} {U W : List Asn} {acs : AcL} {D : List AcL} {X : List (List Bits)} {t e : TypeId} {x : Operand} {bytes : Nat} {z : List Value} {b o n c : Nat} (hx : val fr x = some (.pointer (some ⟨b, o, none⟩))) (ht : tl E0.T t = some ⟨.slice e, 1, bytes, z⟩)
    (hU : Tak (osl 38 1 (.slice (some ⟨b, 0, none⟩) n c) n (rowC acs (rowVs D X))) U W) (hal : acs.length = X.length) (hD : D.length = X.length) (hDr : ∀ (i : Nat) (h1 : i < D.length) (h2 : i < X.length), D[i].length = X[i].length) {i : Nat} (hi : i < X.length) (ho : o = 0 + i * 1) :
    NEV E0 (.load t x) fr U (.slice (acs[i]'(hal ▸ hi)).1 X[i].length (acs[i]'(hal ▸ hi)).2) := by
  subst ho
  have hv : (rowVs D X).length = X.length := rowVs_len hD
  have h := rowC_load (acs := acs) (rows := rowVs D X) (by rw [hv]; exact hal) (i := i) (by rw [hv]; exact hi) (e := e) (bytes := bytes) (z := z)
  rw [rowVs_get hD (by rw [hv]; exact hi) hi, rowC_len0 (hDr i (hD ▸ hi) hi)] at h
  exact n_load_osl hx ht hU h

/-- Rows that are as long. -/
structure SSh (X Y : List (List Bits)) : Prop where
  n : Y.length = X.length
  r : ∀ (i : Nat) (h : i < X.length) (h' : i < Y.length), Y[i].length = X[i].length
  t : ∀ (i : Nat) (h : i < X.length) (h' : i < Y.length) (k : Nat) (g : k < X[i].length) (g' : k < Y[i].length), Y[i][k].length = X[i][k].length
theorem SSh.refl (X : List (List Bits)) : SSh X X := ⟨rfl, fun _ _ _ => rfl, fun _ _ _ _ _ _ => rfl⟩
theorem SSh.set {X Y : List (List Bits)} (h : SSh X Y) {p q c : Nat} (hp : p < Y.length) (hq : q < Y[p].length) (v : Bool) : SSh X (Y.set p (Y[p].set q (Y[p][q].set c v))) := by
  refine ⟨by rw [List.length_set]; exact h.n, fun i h1 h2 => ?_, fun i h1 h2 k g1 g2 => ?_⟩
  · rw [List.length_set] at h2
    rw [List.getElem_set]
    split
    · rename_i e; subst e; rw [List.length_set]; exact h.r p h1 h2
    · exact h.r i h1 h2
  · have h2' := h2
    rw [List.length_set] at h2'
    by_cases e : p = i
    · subst e
      simp only [List.getElem_set_self] at g2 ⊢
      rw [List.length_set] at g2
      rw [List.getElem_set]
      split
      · rename_i e2; subst e2; rw [List.length_set]; exact h.t p h1 h2' q g1 g2
      · exact h.t p h1 h2' k g1 g2
    · simp only [List.getElem_set_ne e] at g2 ⊢
      exact h.t i h1 h2' k g1 g2
theorem innB_set2 {D : List AcL} {S : List (List Bits)} (hD : D.length = S.length) {p : Nat} (hp : p < S.length) (r : List Bits) : (innB D S).set p (bun (rowX cB 1 4 (D[p]'(hD ▸ hp)) r)) = innB D (S.set p r) := by
  unfold innB
  apply List.ext_getElem
  · simp
  · intro j h1 h2
    rw [List.getElem_zipWith, List.getElem_set, List.getElem_set]
    split
    · rename_i e; subst e; rfl
    · rw [List.getElem_zipWith]
theorem o_store_inn2 {E0 : Go.Proofs.YtcnpjhaedjncdaaGreatDoor.E.Env} {fr : Frm} {U W : List Asn} {N : Frm → List Asn → Prop} {t : TypeId} {x y : Operand} {ty : TypeId} {pos : String} {af : Array Edge} {gd : Option (Nat × Bool)} {i : TI} {b o : Nat} {D : List AcL} {S : List (List Bits)} {v : Bool}
    (hx : val fr x = some (.pointer (some ⟨b, o, none⟩))) (hy : val fr y = some (.bool v)) (ht : tl E0.T t = some i) (hs : Nat.beq i.size 1 = true) (hD : D.length = S.length) (hDr : ∀ (i : Nat) (h1 : i < D.length) (h2 : i < S.length), D[i].length = S[i].length) (p q c : Nat) (hp : p < S.length) (hq : q < S[p].length)
    (hb : ((D[p]'(hD ▸ hp))[q]'((hDr p (hD ▸ hp) hp) ▸ hq)).1 = some ⟨b, 0, none⟩) (ho : o = c) (hc : c < S[p][q].length) (hU : Tak (bun (innB D S)) U W) (h : N fr (bun (innB D (S.set p (S[p].set q (S[p][q].set c v)))) :: W)) : EV1 E0 ⟨none, .store t x y, ty, pos, af, gd⟩ fr U N := by
  subst ho
  have h1 := Nat.eq_of_beq_eq_true hs
  refine EV1_ent (Ent.trans (Ent.tak hU (Ent.refl _)) (ent_bunAt (innB_get hD hp))) ?_
  refine o_store_row (f := cB) (vs := [.bool v]) hx hy ht rfl (by rw [h1]; rfl) rfl (hDr p (hD ▸ hp) hp) q hq hb (by rw [cB_len, h1]; omega) .z (S[p][q].set o v) (by rw [List.length_set]) (by simp only [setMany]; unfold cB; rw [List.map_set]) ⟨_, ?_, h⟩
  rw [← innB_set2 hD hp]
  exact ent_bunSet (innB_get hD hp)

attribute [local irreducible] EVX EVO EVL EV1 NEV
attribute [local irreducible] own osl exA rdA rdL
attribute [local irreducible] bldA mapA bun mapS
set_option maxRecDepth 10000
set_option maxHeartbeats 4000000

theorem aheadTells_w (cs : List Value) (g : Gram) : Trip Tryz.prog 3 [.agg cs.toArray] (kGram.rd cs g) [] (fun v V => v = .bool true ∧ V = []) := by
  refine trip Tryz.tabOk Tryz.func3 rfl rfl rfl rfl ?_
  rintro w SM hG0
  obtain ⟨A0, A1, A2, A3, A4, c0, c1, c2, c3, c4, rfl, hG⟩ := kGram_open hG0
  repeat' (first | refine e_nil ?_ | ((refine e_op ?_); (first | refine o_n (peval_sound rfl) rfl ?_ | refine o_n (nl rfl rfl tc rfl) rfl ?_ | refine o_box rfl rfl (fun _ => ?_))) | refine s_seq ?_ | refine s_region ?_)
  refine e_op (o_call (few20_w _ g) rfl .nil (Can.ro hG0) rfl ?_)
  rintro v V ⟨rfl, rfl⟩
  simp only [List.nil_append]
  repeat' (first | refine e_nil ?_ | ((refine e_op ?_); (refine o_n (peval_sound rfl) rfl ?_)))
  by_cases hfew : (g.Prods.length : Int) ≤ 30
  · rw [decide_eq_true hfew]
    repeat' (first | ((refine e_op ?_); (refine o_n (nl rfl rfl tc rfl) rfl ?_)) | refine s_seq ?_ | refine s_region ?_ | refine s_skip ?_ | refine s_false rfl ?_)
    rename_i bg
    refine e_op (o_call (copy_w _ g) rfl .nil (Can.ro hG0) rfl ?_)
    rintro v V ⟨a0, a1, a2, a3, a4, d0, d1, d2, d3, d4, rfl, rfl⟩
    simp only [List.cons_append, List.nil_append]
    repeat' (first | refine e_nil ?_ | ((refine e_op ?_); (first | refine o_n (nl rfl rfl tc rfl) rfl ?_ | refine o_storeC rfl rfl rfl rfl tc uc rfl rfl rfl ?_ | refine o_alloc rfl rfl (fun _ => ?_))) | refine s_seq ?_ | refine s_region ?_)
    rename_i b6
    refine e_op (o_call (aheadOf_w [.slice a0 g.Terms.length d0, .slice a1 g.Levels.length d1, .slice a2 g.Pats.length d2, .slice a3 g.Nons.length d3, .slice a4 g.Prods.length d4] g (fun _ => by omega)) rfl .nil (Can.rdA (.s .z)) rfl ?_)
    rintro v V ⟨AX, n, cX, acs, D, rfl, ⟨hm, hal, hD, hDr, hV⟩⟩
    subst hm
    rw [hV]
    simp only [List.cons_append, List.nil_append]
    have hbd := laX_bnd (g := g)
    repeat' (first | refine e_nil ?_ | ((refine e_op ?_); (first | refine o_n (peval_sound rfl) rfl ?_ | refine o_n (nl rfl rfl tc rfl) rfl ?_)) | refine s_seq ?_ | refine s_region ?_)
    refine e_op (o_call (of20_w _ g) rfl .nil (Can.ro hG0) rfl ?_)
    rintro v V ⟨AY, cY, W, rfl, rfl, hW⟩
    simp only [List.cons_append, List.nil_append]
    repeat' (first | refine e_nil ?_ | ((refine e_op ?_); (refine o_n (peval_sound rfl) rfl ?_)) | refine s_seq ?_ | refine s_region ?_)
    refine e_op (o_call (same20_w AX AY cX cY (laX g)) rfl .nil (Can.and (can_ahe hal hD hDr hbd (Ent.wk (Ent.refl _))) (can_W .z hW)) rfl ?_)
    rintro v V ⟨rfl, rfl⟩
    simp only [List.nil_append]
    repeat' (((first | refine e_op ?_ | refine e_yes rfl ?_); (refine o_n (peval_sound rfl) rfl ?_)))
    rw [show (lrE g != lrE g) = false by simp]
    repeat' (((refine e_yes rfl ?_); (refine o_n (nl rfl rfl tc rfl) rfl ?_)))
    refine e_yes rfl (o_call (same_w [.slice a0 g.Terms.length d0, .slice a1 g.Levels.length d1, .slice a2 g.Pats.length d2, .slice a3 g.Nons.length d3, .slice a4 g.Prods.length d4] _ g) rfl .nil (Can.and (Can.rdA (TakA.tak (A := rdA kGram _ g))) (Can.ro hG0)) rfl ?_)
    rintro v V ⟨rfl, rfl⟩
    simp only [List.nil_append]
    repeat' (first | refine e_nil ?_ | ((first | refine e_op ?_ | refine e_yes rfl ?_); (refine o_n (peval_sound rfl) rfl ?_)) | refine s_seq ?_ | refine s_region ?_ | refine s_block ?_ | refine s_skip ?_ | refine s_false rfl ?_)
    obtain ⟨X, hX⟩ : ∃ X, X = laX g := ⟨_, rfl⟩
    rw [← hX] at hal hD hDr hbd hW ⊢
    refine s_weak (fr' := [(11, .int .i64 0), (9, .slice AY X.length cY), (7, .slice AX X.length cX), (1, ptrN bg)]) (V := [bun (innB D X), osl 38 1 (.slice AX X.length cX) X.length (rowC acs (rowVs D X)), rowO acs D X, W, blk bg 27 [.slice A0 g.Terms.length c0, .slice A1 g.Levels.length c1, .slice A2 g.Pats.length c2, .slice A3 g.Nons.length c3, .slice A4 g.Prods.length c4]]) ?_ ?_ ?_
    · repeat' (first | exact Sub.nil _ | refine Sub.cons rfl ?_)
    · repeat' (first | exact Ent.nil _ | refine Ent.tak tk ?_)
    have hvl := rowVs_len (R := X) hD
    refine s_openP (.s .z) (fun hAX => ?_)
    refine s_addrs (.s (.s .z)) (by rw [hvl]; exact hal) (fun hXA => ?_)
    refine s_innA .z hD hDr (fun hXI => ?_)
    skip
    refine s_loopK (ι := {z : Nat × List (List Bits) // z.1 ≤ X.length ∧ SSh X z.2}) [9, 7, 1] rfl ⟨(0, X), Nat.zero_le _, SSh.refl X⟩ (fun z => [(11, .int .i64 z.1.1)])
      (fun z => [bun (innB D z.1.2), osl 38 1 (.slice AX X.length cX) X.length (rowC acs (rowVs D X)), rowO acs D X, W, blk bg 27 [.slice A0 g.Terms.length c0, .slice A1 g.Levels.length c1, .slice A2 g.Pats.length c2, .slice A3 g.Nons.length c3, .slice A4 g.Prods.length c4]]) (fun z => X.length - z.1.1) ?_ (Ent.refl _) ?_
    · repeat' (first | exact Sub.nil _ | refine Sub.cons rfl ?_)
    rintro ⟨⟨i, Y⟩, hi, hY⟩
    simp only at hi hY ⊢
    repeat' (first | refine e_nil ?_ | ((refine e_op ?_); (refine o_n (peval_sound rfl) rfl ?_)) | refine s_seq ?_ | refine s_region ?_)
    refine s_cond rfl (fun h => ?_) (fun h => ?_)
    · have hiX : i < X.length := by simpa using h
      obtain ⟨bX, rfl⟩ := hAX (by omega)
      have hXr := (hbd.2 i hiX).1
      repeat' (first | refine e_nil ?_ | ((refine e_op ?_); (refine o_n (peval_sound rfl) rfl ?_)) | refine s_seq ?_ | refine s_region ?_ | refine s_block ?_ | refine s_skip ?_)
      refine s_loopK (ι := {z : Nat × List (List Bits) // z.1 ≤ X[i].length ∧ SSh X z.2}) [11, 9, 7, 1] rfl ⟨(0, Y), Nat.zero_le _, hY⟩ (fun z => [(12, .int .i64 z.1.1)])
        (fun z => [bun (innB D z.1.2), osl 38 1 (.slice (some ⟨bX, 0, none⟩) X.length cX) X.length (rowC acs (rowVs D X)), rowO acs D X, W, blk bg 27 [.slice A0 g.Terms.length c0, .slice A1 g.Levels.length c1, .slice A2 g.Pats.length c2, .slice A3 g.Nons.length c3, .slice A4 g.Prods.length c4]]) (fun z => X[i].length - z.1.1) ?_ (Ent.refl _) ?_
      · repeat' (first | exact Sub.nil _ | refine Sub.cons rfl ?_)
      rintro ⟨⟨k, Z⟩, hk, hZ⟩
      simp only at hk hZ ⊢
      repeat' (first | ((refine e_op ?_); (refine o_n (peval_sound rfl) rfl ?_)) | refine s_seq ?_ | refine s_region ?_)
      refine e_op (o_n (n_index rfl rfl rfl rfl i rfl hiX) rfl ?_)
      refine e_op (o_n (n_xrow rfl rfl (.s .z) hal hD hDr hiX rfl) rfl ?_)
      repeat' (first | refine e_nil ?_ | ((refine e_op ?_); (refine o_n (peval_sound rfl) rfl ?_)))
      refine s_cond rfl (fun h => ?_) (fun h => ?_)
      · have hkX : k < X[i].length := by simpa using h
        have hXt := (hbd.2 i hiX).2 k hkX
        obtain ⟨bi, hbi⟩ := x_addr hal hD hDr hXA hiX (by omega)
        repeat' (first | refine e_nil ?_ | ((refine e_op ?_); (refine o_n (peval_sound rfl) rfl ?_)) | refine s_seq ?_ | refine s_region ?_ | refine s_block ?_ | refine s_skip ?_)
        refine s_loopK (ι := {z : Nat × List (List Bits) // z.1 ≤ X[i][k].length ∧ SSh X z.2}) [12, 11, 9, 7, 1] rfl ⟨(0, Z), Nat.zero_le _, hZ⟩ (fun z => [(13, .int .i64 z.1.1)])
          (fun z => [bun (innB D z.1.2), osl 38 1 (.slice (some ⟨bX, 0, none⟩) X.length cX) X.length (rowC acs (rowVs D X)), rowO acs D X, W, blk bg 27 [.slice A0 g.Terms.length c0, .slice A1 g.Levels.length c1, .slice A2 g.Pats.length c2, .slice A3 g.Nons.length c3, .slice A4 g.Prods.length c4]]) (fun z => X[i][k].length - z.1.1) ?_ (Ent.refl _) ?_
        · repeat' (first | exact Sub.nil _ | refine Sub.cons rfl ?_)
        rintro ⟨⟨t, Q⟩, ht, hQ⟩
        simp only at ht hQ ⊢
        repeat' (first | ((refine e_op ?_); (refine o_n (peval_sound rfl) rfl ?_)) | refine s_seq ?_ | refine s_region ?_)
        refine e_op (o_n (n_index rfl rfl rfl rfl i rfl hiX) rfl ?_)
        refine e_op (o_n (n_xrow rfl rfl (.s .z) hal hD hDr hiX rfl) rfl ?_)
        rw [hbi]
        repeat' (((refine e_op ?_); (refine o_n (peval_sound rfl) rfl ?_)))
        refine e_op (o_n (n_index rfl rfl rfl rfl k rfl hkX) rfl ?_)
        refine e_op (o_n (n_xcell rfl rfl (.s (.s .z)) hal hD hDr hiX hbi hkX rfl rfl) rfl ?_)
        repeat' (first | refine e_nil ?_ | ((refine e_op ?_); (refine o_n (peval_sound rfl) rfl ?_)))
        refine s_cond rfl (fun h => ?_) (fun h => ?_)
        · have htX : t < X[i][k].length := by simpa using h
          have hiD : i < D.length := by omega
          have hkD : k < D[i].length := by rw [hDr i hiD hiX]; exact hkX
          obtain ⟨bk, hbk⟩ := hXI i hiD hiX k hkD hkX (by omega)
          have hDQ : D.length = Q.length := by rw [hQ.n]; exact hD
          have hiQ : i < Q.length := by rw [hQ.n]; exact hiX
          have hkQ : k < Q[i].length := by rw [hQ.r i hiX hiQ]; exact hkX
          have htQ : t < Q[i][k].length := by rw [hQ.t i hiX hiQ k hkX hkQ]; exact htX
          have hDQr : ∀ (i : Nat) (h1 : i < D.length) (h2 : i < Q.length), D[i].length = Q[i].length := fun i h1 h2 => by rw [hQ.r i (by omega) h2]; exact hDr i h1 (by omega)
          repeat' (first | refine s_seq ?_ | refine s_block ?_ | refine s_skip ?_)
          refine s_P Tryz.mixed (by decide +kernel) ?_
          refine p_barU 20 ?_
          refine q_n 0 rfl (peval_sound rfl) (by decide +kernel) (by decide +kernel) (Ent.refl _) rfl ?_
          refine q_n 1 rfl (peval_sound rfl) (by decide +kernel) (by decide +kernel) (Ent.refl _) rfl ?_
          refine q_n 2 rfl (n_index rfl rfl rfl rfl i rfl hiX) (by decide +kernel) (by decide +kernel) (Ent.refl _) rfl ?_
          refine q_n 3 rfl (n_xrow rfl rfl (.s .z) hal hD hDr hiX rfl) (by decide +kernel) (by decide +kernel) (Ent.refl _) rfl ?_
          rw [hbi]
          refine q_n 4 rfl (peval_sound rfl) (by decide +kernel) (by decide +kernel) (Ent.refl _) rfl ?_
          refine q_n 5 rfl (n_index rfl rfl rfl rfl k rfl hkX) (by decide +kernel) (by decide +kernel) (Ent.refl _) rfl ?_
          refine q_n 6 rfl (n_xcell rfl rfl (.s (.s .z)) hal hD hDr hiX hbi hkX rfl rfl) (by decide +kernel) (by decide +kernel) (Ent.refl _) rfl ?_
          rw [hbk]
          refine q_n 7 rfl (peval_sound rfl) (by decide +kernel) (by decide +kernel) (Ent.refl _) rfl ?_
          refine q_n 8 rfl (peval_sound rfl) (by decide +kernel) (by decide +kernel) (Ent.refl _) rfl ?_
          refine q_n 9 rfl (peval_sound rfl) (by decide +kernel) (by decide +kernel) (Ent.refl _) rfl ?_
          refine q_n 10 rfl (n_index rfl rfl rfl rfl i rfl hiX) (by decide +kernel) (by decide +kernel) (Ent.refl _) rfl ?_
          refine q_n 11 rfl (n_xrow rfl rfl (.s .z) hal hD hDr hiX rfl) (by decide +kernel) (by decide +kernel) (Ent.refl _) rfl ?_
          rw [hbi]
          refine q_n 12 rfl (peval_sound rfl) (by decide +kernel) (by decide +kernel) (Ent.refl _) rfl ?_
          refine q_n 13 rfl (n_index rfl rfl rfl rfl k rfl hkX) (by decide +kernel) (by decide +kernel) (Ent.refl _) rfl ?_
          refine q_n 14 rfl (n_xcell rfl rfl (.s (.s .z)) hal hD hDr hiX hbi hkX rfl rfl) (by decide +kernel) (by decide +kernel) (Ent.refl _) rfl ?_
          rw [hbk]
          refine q_n 15 rfl (peval_sound rfl) (by decide +kernel) (by decide +kernel) (Ent.refl _) rfl ?_
          refine q_n 16 rfl (n_index rfl rfl rfl rfl t rfl htX) (by decide +kernel) (by decide +kernel) (Ent.refl _) rfl ?_
          refine q_n 17 rfl (n_load_inn rfl rfl .z hDQ i hiQ (hDQr i hiD hiQ) k hkQ hbk (loadB htQ (by show 0 + t * 1 = t; omega))) (by decide +kernel) (by decide +kernel) (Ent.refl _) rfl ?_
          refine q_n 18 rfl (peval_sound rfl) (by decide +kernel) (by decide +kernel) (Ent.refl _) rfl ?_
          refine q_n 19 rfl (n_index rfl rfl rfl rfl t rfl htX) (by decide +kernel) (by decide +kernel) (Ent.refl _) rfl ?_
          refine q_z 20 (by decide +kernel) rfl rfl (o_store_inn2 rfl rfl rfl rfl hDQ hDQr i k t hiQ hkQ hbk (by show 0 + t * 1 = t; omega) htQ .z ?_)
          refine p_done (by decide +kernel) ?_
          repeat' (first | refine e_nil ?_ | ((refine e_op ?_); (refine o_n (peval_sound rfl) rfl ?_)) | refine s_region ?_ | refine s_end ?_)
          refine s_back ⟨⟨(t + 1, Q.set i (Q[i].set k (Q[i][k].set t (!Q[i][k].getD t false)))), by simp only; omega, hQ.set hiQ hkQ _⟩, by simp only; omega, ?_, Ent.refl _⟩
          repeat' (first | exact Sub.nil _ | refine Sub.cons rfl ?_ | refine Sub.consE rfl ?_ ?_)
          exact inc (i := t) (by omega)
        · repeat' (first | refine e_nil ?_ | ((refine e_op ?_); (refine o_n (peval_sound rfl) rfl ?_)) | refine s_region ?_ | refine s_end ?_ | refine s_exit ?_ | refine x_hit ?_ | refine x_code ?_ | refine x_back ?_)
          refine s_back ⟨⟨(k + 1, Q), by simp only; omega, hQ⟩, by simp only; omega, ?_, Ent.refl _⟩
          repeat' (first | exact Sub.nil _ | refine Sub.cons rfl ?_ | refine Sub.consE rfl ?_ ?_)
          exact inc (i := k) (by omega)
      · repeat' (first | refine e_nil ?_ | ((refine e_op ?_); (refine o_n (peval_sound rfl) rfl ?_)) | refine s_region ?_ | refine s_end ?_ | refine s_exit ?_ | refine x_hit ?_ | refine x_code ?_ | refine x_back ?_)
        refine s_back ⟨⟨(i + 1, Z), by simp only; omega, hZ⟩, by simp only; omega, ?_, Ent.refl _⟩
        repeat' (first | exact Sub.nil _ | refine Sub.cons rfl ?_ | refine Sub.consE rfl ?_ ?_)
        exact inc (i := i) (by omega)
    · repeat' (first | ((refine e_op ?_); (refine o_n (nl rfl rfl tc rfl) rfl ?_)) | refine s_seq ?_ | refine s_region ?_ | refine s_exit ?_ | refine x_hit ?_ | refine x_code ?_ | refine x_back ?_)
      refine e_op (o_call (aheadOf_w _ g (fun _ => by omega)) rfl .nil (Can.ro hG0) rfl ?_)
      rintro v V ⟨AZ, n, cZ, acz, Dz, rfl, ⟨hm, hzl, hzD, hzr, hV2⟩⟩
      subst hm
      rw [hV2]
      rw [← hX] at hzl hzD hzr ⊢
      simp only [List.cons_append, List.nil_append]
      repeat' (first | refine e_nil ?_ | ((refine e_op ?_); (refine o_n (peval_sound rfl) rfl ?_)) | refine s_seq ?_ | refine s_region ?_)
      refine e_op (o_call (same20_w AZ AY cZ cY X) rfl .nil (Can.and (can_ahe hzl hzD hzr hbd (Ent.refl _)) (can_W (TakA.tak (A := W)) hW)) rfl ?_)
      rintro v V ⟨rfl, rfl⟩
      simp only [List.nil_append]
      repeat' (((first | refine e_op ?_ | refine e_yes rfl ?_); (refine o_n (peval_sound rfl) rfl ?_)))
      refine e_yes rfl (o_call works20_w rfl .nil Can.tt rfl ?_)
      rintro v V ⟨rfl, rfl⟩
      simp only [List.nil_append]
      repeat' (first | refine e_nil ?_ | ((refine e_op ?_); (refine o_n (peval_sound rfl) rfl ?_)))
      refine s_ret ⟨_, _, res1 rfl rfl, ⟨rfl, rfl⟩, Ent.nil _⟩
  · rw [decide_eq_false hfew]
    repeat' (first | ((refine e_op ?_); (refine o_n (nl rfl rfl tc rfl) rfl ?_)) | refine s_seq ?_ | refine s_region ?_ | refine s_true rfl ?_)
    refine e_op (o_call (checkR_w _ g) rfl .nil (Can.ro hG0) rfl ?_)
    rintro v V ⟨rfl, rfl⟩
    simp only [List.nil_append]
    repeat' (first | refine e_nil ?_ | ((refine e_op ?_); (refine o_n (peval_sound rfl) rfl ?_)) | refine s_seq ?_ | refine s_region ?_)
    by_cases hce : checkE g = 0
    · rw [show (checkE g == 0) = true by simp [hce]]
      repeat' (first | refine s_seq ?_ | refine s_region ?_ | refine s_true rfl ?_)
      refine e_op (o_call works20_w rfl .nil Can.tt rfl ?_)
      rintro v V ⟨rfl, rfl⟩
      simp only [List.nil_append]
      repeat' (first | refine e_nil ?_ | ((refine e_op ?_); (refine o_n (peval_sound rfl) rfl ?_)))
      refine s_ret ⟨_, _, res1 rfl rfl, ⟨rfl, rfl⟩, Ent.nil _⟩
    · rw [show (checkE g == 0) = false by simp [hce]]
      have hle : lrE g = checkE g := by unfold lrE; rw [if_pos hce]
      repeat' (first | ((refine e_op ?_); (refine o_n (nl rfl rfl tc rfl) rfl ?_)) | refine s_seq ?_ | refine s_region ?_ | refine s_skip ?_ | refine s_false rfl ?_)
      refine e_op (o_call (aheadOf_w _ g (fun h => absurd h hce)) rfl .nil (Can.ro hG0) rfl ?_)
      rintro v V ⟨AX, n, cX, acs, D, rfl, ⟨hm, hal, hD, hDr, hV⟩⟩
      rw [hV]
      simp only [List.cons_append, List.nil_append]
      repeat' (first | refine e_nil ?_ | ((refine e_op ?_); (refine o_n (peval_sound rfl) rfl ?_)) | refine s_seq ?_ | refine s_region ?_)
      rw [show (lrE g == checkE g) = true by simp [hle]]
      skip
      refine e_yes rfl (o_call works20_w rfl .nil Can.tt rfl ?_)
      rintro v V ⟨rfl, rfl⟩
      simp only [List.nil_append]
      repeat' (first | refine e_nil ?_ | ((refine e_op ?_); (refine o_n (peval_sound rfl) rfl ?_)))
      refine s_ret ⟨_, _, res1 rfl rfl, ⟨rfl, rfl⟩, Ent.nil _⟩

end Go.Proofs.YtcnpjhaedjncdaaGreatDoor
