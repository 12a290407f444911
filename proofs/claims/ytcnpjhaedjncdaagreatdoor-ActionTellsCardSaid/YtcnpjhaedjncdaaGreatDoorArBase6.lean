/-
  Part 6 of what the law's walk stands on: lemmas and contracts, each proved here without a condition but those that it names.
-/
import Derived.Test.YtcnpjhaedjncdaaGreatDoorArBase5
import Derived.Laws.StructEq
import Derived.ChangeKeysEq
import Derived.Test.YtcnpjhaedjncdaaGreatDoorRows

namespace Go.Proofs.YtcnpjhaedjncdaaGreatDoor
set_option linter.all false
open Go.Proofs.YtcnpjhaedjncdaaGreatDoor.E

noncomputable def actM (g : Gram) (s : Nat) : List (List Acn) := (List.range s).map (actRow g)
def gotM (g : Gram) (s : Nat) : List (List Int) := ((lrGs g).take s).map fun r => r.drop g.Terms.length
theorem actM_len (g : Gram) (s : Nat) : (actM g s).length = s := by unfold actM; simp
theorem gotM_len {g : Gram} {s : Nat} (h : s ≤ (lrGs g).length) : (gotM g s).length = s := by unfold gotM; simp; omega
theorem actM_succ (g : Gram) (s : Nat) : actM g (s + 1) = actM g s ++ [actRow g s] := by unfold actM; rw [List.range_succ, List.map_append]; rfl
theorem gotM_succ {g : Gram} {s : Nat} (h : s < (lrGs g).length) : gotM g (s + 1) = gotM g s ++ [(lrGs g)[s].drop g.Terms.length] := by
  unfold gotM; rw [List.take_succ_eq_append_getElem h, List.map_append]; rfl
theorem gotM_all {g : Gram} {s : Nat} (h : (lrGs g).length ≤ s) : gotM g s = gotA g := by unfold gotM gotA; rw [List.take_of_length_le h]

theorem gotM_rng {g : Gram} (h0 : lrE g = 0) {s : Nat} (h : s < (lrGs g).length) : ∀ x ∈ (lrGs g)[s], I64 x := fun x hx => (lr_num g).z _ (List.getElem_mem h) x hx
/-- The end of a row of one's own, read. -/
theorem can_drop {E0 : Go.Proofs.YtcnpjhaedjncdaaGreatDoor.E.Env} {U U' : List Asn} {acs : AcL} {rows : List (List Int)} (ht : Tak (gotB acs rows) U U') (hl : acs.length = rows.length) {i : Nat} (hi : i < rows.length) (hI : ∀ x ∈ rows[i], I64 x) (hn : rows[i].length ≤ 100000) (q : Nat) :
    Go.Proofs.YtcnpjhaedjncdaaGreatDoor.E.Can E0 U ((kslice 8 kint).rd [.slice (if (acs[i]'(hl ▸ hi)).2 = q then (acs[i]'(hl ▸ hi)).1 else (acs[i]'(hl ▸ hi)).1.map (·.add (q * 1))) (rows[i].length - q) ((acs[i]'(hl ▸ hi)).2 - q)] (rows[i].drop q)) := Can.of fun w S hs => by
  obtain ⟨S1, h1, i1⟩ := ht.mem hs
  obtain ⟨S2, h2, i2⟩ := star_mem (rowX_get (f := fun l : List Int => l.map (Value.int .i64)) (sz := 1) (ei := 3) hl hi) h1
  have h4 := can_to (R := (kslice 8 kint).rd [.slice (acs[i]'(hl ▸ hi)).1 rows[i].length (acs[i]'(hl ▸ hi)).2] rows[i]) Tryz.prog (fun E => can_ints .z hI (by omega)) h2
  obtain ⟨A, c, e, h5, h6, h7⟩ := h4
  simp only [List.cons.injEq, Value.slice.injEq, and_true, true_and] at e
  obtain ⟨e1, e2⟩ := e
  rw [← e1] at h7
  rw [← e2] at h5
  have h8 := els_drop (q := q) h7 h5
  exact ⟨_, (acs[i]'(hl ▸ hi)).2 - q, by rw [List.length_drop]; rfl, by rw [List.length_drop]; omega, by rw [List.length_drop]; omega, els_mono (fun b hb => i1 b (i2 b hb)) h8⟩
theorem ent_act2 {U : List Asn} : Ent U (actS none 0 0 [] [] :: actB [] [] :: gotS none 0 0 [] [] :: gotB [] [] :: U) :=
  Ent.osl0 (Ent.trans (V := gotS none 0 0 [] [] :: gotB [] [] :: U) (Ent.osl0 ent_bnil0) ent_bnil0)
theorem ent_act1 {U : List Asn} : Ent U (actS none 0 0 [] [] :: actB [] [] :: gotS none 0 0 [] [] :: gotB [] [] :: claS none 0 0 [] :: U) :=
  Ent.osl0 (Ent.trans (V := gotS none 0 0 [] [] :: gotB [] [] :: claS none 0 0 [] :: U) (Ent.osl0 (Ent.trans (V := claS none 0 0 [] :: U) (Ent.osl0 (Ent.refl _)) ent_bnil0)) ent_bnil0)
/-- Where the making of a parser stands. -/
structure AcSt where
  s : Nat
  AA : Option Addr
  cA : Nat
  acs : AcL
  AH : Option Addr
  cH : Nat
  hcs : AcL
  AC : Option Addr
  cC : Nat
structure AcTt where
  t : Nat
  AC : Option Addr
  cC : Nat

attribute [local irreducible] EVX EVO EVL EV1 NEV
attribute [local irreducible] own osl exA rdA rdL
attribute [local irreducible] bldA mapA bun mapS
set_option maxRecDepth 10000
set_option maxHeartbeats 4000000

theorem actOf_w (cs : List Value) (g : Gram) (hp : checkE g = 0 → g.Prods.length ≤ 100) : Trip Tryz.prog 15 [.agg cs.toArray] (kGram.rd cs g) []
    (fun v V => ∃ x AA cA acs AG cG bcs AC cC, v = .tuple #[x, .int .i64 (actE g)] ∧ ActV x V (pAct g) (pGot g) (pCla g) (pDec g) AA cA acs AG cG bcs AC cC) := by
  refine trip Tryz.tabOk Tryz.func15 rfl rfl rfl rfl ?_
  rintro w SM hG0
  obtain ⟨A0, A1, A2, A3, A4, c0, c1, c2, c3, c4, rfl, hG⟩ := kGram_open hG0
  repeat' (first | refine e_nil ?_ | ((refine e_op ?_); (first | refine o_n (peval_sound rfl) rfl ?_ | refine o_n (nl rfl rfl tc rfl) rfl ?_ | refine o_box rfl rfl (fun _ => ?_) | refine o_alloc rfl rfl (fun _ => ?_))) | refine s_seq ?_ | refine s_region ?_)
  rename_i bg br
  refine e_op (o_call (ofP_w _ g hp) rfl .nil (Can.ro hG0) rfl ?_)
  rintro v V ⟨x, rfl, AK, cK, kcs, AG, cG, bcs, hl, hb, rfl, rfl⟩
  simp only [List.cons_append, List.nil_append]
  repeat' (first | refine e_nil ?_ | ((refine e_op ?_); (first | refine o_n (peval_sound rfl) rfl ?_ | refine o_storeC rfl rfl rfl rfl tc uc rfl rfl rfl ?_ | refine o_alloc rfl rfl (fun _ => ?_))) | refine s_seq ?_ | refine s_region ?_)
  rename_i b4
  by_cases h0 : lrE g ≠ 0
  · rw [show (lrE g != 0) = true by simpa using h0]
    have ha : actE g = lrE g := by unfold actE; rw [if_pos h0]
    have e1 : pAct g = [] := by unfold pAct; rw [ha, if_neg h0]
    have e2 : pGot g = [] := by unfold pGot; rw [ha, if_neg h0]
    have e3 : pCla g = [] := by unfold pCla; rw [if_neg h0]
    have e4 : pDec g = 0 := by unfold pDec; rw [ha, if_neg h0]
    rw [e1, e2, e3, e4, ha]
    repeat' (first | refine e_nil ?_ | ((refine e_op ?_); (first | refine o_n (peval_sound rfl) rfl ?_ | refine o_storeC rfl rfl rfl rfl tc uc rfl rfl rfl ?_)) | refine s_seq ?_ | refine s_region ?_ | refine s_true rfl ?_)
    refine s_ret ⟨_, _, resc2 rfl rfl rfl TakC.tak (ld_all (n := 4) rfl rfl rfl rfl) rfl, ⟨_, none, 0, [], none, 0, [], none, 0, rfl, ⟨rfl, rfl, rfl, rfl⟩⟩, ent_act0⟩
  replace h0 : lrE g = 0 := Classical.not_not.1 h0
  rw [show (lrE g != 0) = false by simpa using h0]
  repeat' (first | ((refine e_op ?_); (refine o_n (nl rfl rfl tc rfl) rfl ?_)) | refine s_seq ?_ | refine s_region ?_ | refine s_skip ?_ | refine s_false rfl ?_)
  refine e_op (o_call (aheadOf_w _ g hp) rfl .nil (Can.ro hG0) rfl ?_)
  rintro v V ⟨AX, n, cX, xcs, D, rfl, hn, hal, hD, hDr, rfl⟩
  simp only [List.cons_append, List.nil_append]
  have hF := goF h0
  have hXP : ∀ (i : Nat) (hi : i < (laX g).length), (laX g)[i].length = g.Prods.length := fun i hi => by rw [laX_row h0 hi, YR_len]
  have hXv : ∀ (i k : Nat) (hi : i < (laX g).length) (hk : k < (laX g)[i].length), (laX g)[i][k] = laRow g i k := fun i k hi hk => laX_at h0 hi hk
  have hXn : (laX g).length = (lrKs g).length := laX_len h0
  generalize hXe : laX g = X at hXn hn hal hD hDr hXP hXv ⊢
  clear hXe
  subst hn
  have hL := hF.lim
  have hwf := hF.wf
  have hT := hL.t
  have hT1 := hwf.t
  have hNo := hL.n
  have hPr := hL.p
  have hK := hF.n
  have hK0 := hF.p0
  have hgk := hF.gk
  repeat' (first | refine e_nil ?_ | ((refine e_op ?_); (refine o_n (peval_sound rfl) rfl ?_)) | refine s_seq ?_ | refine s_region ?_)
  rw [h0]
  repeat' (first | refine e_nil ?_ | ((refine e_op ?_); (first | refine o_n (peval_sound rfl) rfl ?_ | refine o_n (nl rfl rfl tc rfl) rfl ?_ | refine o_box rfl rfl (fun _ => ?_) | refine o_alloc rfl rfl (fun _ => ?_))) | refine s_seq ?_ | refine s_region ?_ | refine s_block ?_ | refine s_skip ?_ | refine s_false rfl ?_)
  rename_i b7 b8
  refine s_open (TakA.tak (A := osl 38 1 (.slice AX X.length cX) X.length (rowC xcs (rowVs D X)))) (by omega) ?_
  rintro bX rfl
  refine s_open (TakA.tak (A := gotS AG (lrGs g).length cG bcs (lrGs g))) (by omega) ?_
  rintro bG rfl
  refine s_addrs (TakA.tak (A := gotB bcs (lrGs g))) hb (fun hGA => ?_)
  refine s_loopK (ι := {x : AcSt // x.s ≤ (lrKs g).length ∧ x.acs.length = x.s ∧ x.hcs.length = x.s}) [1, 2, 4, 7, 8, 40] rfl ⟨⟨0, none, 0, [], none, 0, [], none, 0⟩, by simp⟩ (fun x => [(41, .int .i64 x.1.s)])
    (fun x => [blk b8 44 [.slice x.1.AA x.1.s x.1.cA, .slice x.1.AH x.1.s x.1.cH, .slice x.1.AC (claTo g x.1.s 0).length x.1.cC, .int .i64 (decTo g x.1.s 0 : Nat)], actS x.1.AA x.1.s x.1.cA x.1.acs (actM g x.1.s), actB x.1.acs (actM g x.1.s), gotS x.1.AH x.1.s x.1.cH x.1.hcs (gotM g x.1.s), gotB x.1.hcs (gotM g x.1.s), claS x.1.AC (claTo g x.1.s 0).length x.1.cC (claTo g x.1.s 0), blk b7 98 [.slice A0 g.Terms.length c0, .slice A1 g.Levels.length c1, .slice A2 g.Pats.length c2, .slice A3 g.Nons.length c3, .slice A4 g.Prods.length c4, .slice AK (lrKs g).length cK, .slice (some ⟨bG, 0, none⟩) (lrGs g).length cG, .slice (some ⟨bX, 0, none⟩) X.length cX], gotS (some ⟨bG, 0, none⟩) (lrGs g).length cG bcs (lrGs g), gotB bcs (lrGs g), osl 38 1 (.slice (some ⟨bX, 0, none⟩) X.length cX) X.length (rowC xcs (rowVs D X)), rowO xcs D X, bun (innB D X), blk b4 66 [.slice AK (lrKs g).length cK, .slice (some ⟨bG, 0, none⟩) (lrGs g).length cG], blk br 44 [.slice none 0 0, .slice none 0 0, .slice none 0 0, .int .i64 0], blk bg 27 [.slice A0 g.Terms.length c0, .slice A1 g.Levels.length c1, .slice A2 g.Pats.length c2, .slice A3 g.Nons.length c3, .slice A4 g.Prods.length c4]]) (fun x => (lrKs g).length - x.1.s) ?_ ?_ ?_
  · repeat' (first | exact Sub.nil _ | refine Sub.cons rfl ?_)
  · have z1 : claTo g 0 0 = [] := rfl
    have z2 : decTo g 0 0 = 0 := rfl
    have z3 : actM g 0 = [] := rfl
    have z4 : gotM g 0 = [] := rfl
    simp only [z1, z2, z3, z4]
    refine Ent.cons (Ent.trans ?_ ent_act1)
    exact Ent.tak .z (Ent.tak (.s (.s (.s (.s (.s (.s .z)))))) (Ent.tak (.s (.s (.s (.s (.s (.s .z)))))) (Ent.cons (Ent.cons (Ent.cons (Ent.cons (Ent.wk (Ent.wk (Ent.refl _)))))))))
  rintro ⟨⟨s, AA, cA, acs, AH, cH, hcs, AC, cC⟩, hs, hacs, hhcs⟩
  simp only at hs hacs hhcs ⊢
  repeat' (first | refine e_nil ?_ | ((refine e_op ?_); (refine o_n (peval_sound rfl) rfl ?_)) | refine s_seq ?_ | refine s_region ?_)
  by_cases hlt : s < (lrKs g).length
  · rw [decide_eq_true (p := (s : Int) < ((lrKs g).length : Int)) (by omega)]
    repeat' (first | refine e_nil ?_ | ((refine e_op ?_); (first | refine o_n (peval_sound rfl) rfl ?_ | refine o_n (nl rfl rfl tc rfl) rfl ?_)) | refine s_seq ?_ | refine s_region ?_ | refine s_block ?_ | refine s_skip ?_ | refine s_true rfl ?_)
    refine e_op (o_makeS rfl rfl rfl rfl g.Terms.length rfl rfl (by simp only; omega) (by omega) rfl (zeros2 _) (fun bR => ?_))
    rw [← actT_zero g s]
    repeat' (first | refine e_nil ?_ | ((refine e_op ?_); (refine o_n (peval_sound rfl) rfl ?_)) | refine s_seq ?_ | refine s_region ?_ | refine s_block ?_)
    refine s_loopK (ι := {y : AcTt // y.t ≤ g.Terms.length}) [1, 2, 4, 7, 8, 9, 10, 40, 41, 49] rfl ⟨⟨0, AC, cC⟩, by simp⟩ (fun y => [(50, .int .i64 y.1.t)])
      (fun y => [osl 53 2 (.slice (some ⟨bR, 0, none⟩) g.Terms.length g.Terms.length) g.Terms.length (encAs (actT g s y.1.t)), blk b8 44 [.slice AA s cA, .slice AH s cH, .slice y.1.AC (claTo g s y.1.t).length y.1.cC, .int .i64 (decTo g s y.1.t : Nat)], actS AA s cA acs (actM g s), actB acs (actM g s), gotS AH s cH hcs (gotM g s), gotB hcs (gotM g s), claS y.1.AC (claTo g s y.1.t).length y.1.cC (claTo g s y.1.t), blk b7 98 [.slice A0 g.Terms.length c0, .slice A1 g.Levels.length c1, .slice A2 g.Pats.length c2, .slice A3 g.Nons.length c3, .slice A4 g.Prods.length c4, .slice AK (lrKs g).length cK, .slice (some ⟨bG, 0, none⟩) (lrGs g).length cG, .slice (some ⟨bX, 0, none⟩) X.length cX], gotS (some ⟨bG, 0, none⟩) (lrGs g).length cG bcs (lrGs g), gotB bcs (lrGs g), osl 38 1 (.slice (some ⟨bX, 0, none⟩) X.length cX) X.length (rowC xcs (rowVs D X)), rowO xcs D X, bun (innB D X), blk b4 66 [.slice AK (lrKs g).length cK, .slice (some ⟨bG, 0, none⟩) (lrGs g).length cG], blk br 44 [.slice none 0 0, .slice none 0 0, .slice none 0 0, .int .i64 0], blk bg 27 [.slice A0 g.Terms.length c0, .slice A1 g.Levels.length c1, .slice A2 g.Pats.length c2, .slice A3 g.Nons.length c3, .slice A4 g.Prods.length c4]]) (fun y => g.Terms.length - y.1.t) ?_ (Ent.refl _) ?_
    · repeat' (first | exact Sub.nil _ | refine Sub.cons rfl ?_)
    rintro ⟨⟨t, AC, cC⟩, ht⟩
    simp only at ht ⊢
    repeat' (first | refine e_nil ?_ | ((refine e_op ?_); (refine o_n (peval_sound rfl) rfl ?_)) | refine s_seq ?_ | refine s_region ?_)
    by_cases htl : t < g.Terms.length
    · rw [decide_eq_true (p := (t : Int) < (g.Terms.length : Int)) (by omega)]
      have hcl := claTo_le g s t
      have hdl := decTo_le g s t
      have hbd : s * g.Terms.length + t ≤ 512 * 48 + 48 := by
        have := Nat.mul_le_mul (show s ≤ 512 by omega) hT; omega
      have hat := actT_len (g := g) (s := s) (t := t) ht
      repeat' (first | refine e_nil ?_ | ((refine e_op ?_); (refine o_n (peval_sound rfl) rfl ?_)) | refine s_seq ?_ | refine s_region ?_ | refine s_block ?_ | refine s_skip ?_ | refine s_true rfl ?_)
      refine e_op (o_callC (told_w b7 (.slice A0 g.Terms.length c0) (.slice A1 g.Levels.length c1) (.slice A2 g.Pats.length c2) (.slice A3 g.Nons.length c3) (.slice A4 g.Prods.length c4) (.slice AK (lrKs g).length cK) (some ⟨bG, 0, none⟩) cG bcs bX cX xcs D g h0 hb X hXn hXP hXv hal hD hDr s t hlt htl) rfl pk Can.tt rfl ?_)
      rintro v V ⟨At, ct, rfl, rfl⟩
      simp only [List.cons_append, List.nil_append]
      have htp := told_prod g s t
      have hcs' := claTo_succ g s t
      have hds' := decTo_succ g s t
      have hac : actC g s t = actL g (told g s t) t := rfl
      have hcb : claB g s t = claL g (told g s t) t := rfl
      have hdb : decB g s t = decL g (told g s t) t := rfl
      generalize told g s t = L at htp hac hcb hdb ⊢
      repeat' (first | refine e_nil ?_ | ((refine e_op ?_); (refine o_n (peval_sound rfl) rfl ?_)) | refine s_seq ?_ | refine s_region ?_)
      by_cases h1 : L.length = 1
      · obtain ⟨a, rfl⟩ := List.length_eq_one_iff.1 h1
        have ha : actC g s t = a := by rw [hac]; rfl
        have hc0 : claB g s t = false := by rw [hcb]; rfl
        have hd0 : decB g s t = false := by rw [hdb]; rfl
        rw [hc0] at hcs'
        rw [hd0] at hds'
        simp only [Bool.false_eq_true, if_false, Nat.add_zero] at hcs' hds'
        refine s_open .z (by simp) ?_
        rintro bt rfl
        rw [show ((([a] : List Acn).length : Int) == 1) = true from rfl]
        repeat' (first | ((refine e_op ?_); (refine o_n (peval_sound rfl) rfl ?_)) | refine s_region ?_ | refine s_true rfl ?_)
        refine e_op (o_n (n_index rfl rfl rfl rfl 0 rfl (by simp)) rfl ?_)
        refine e_op (o_n (no rfl rfl to (encAs_load (l := [a]) (i := 0) (by simp))) rfl ?_)
        refine e_op (o_n (n_index rfl rfl rfl rfl t rfl htl) rfl ?_)
        refine e_op (o_storeO (vs := encA a) rfl rfl rfl rfl to uc rfl rfl (by rw [encAs_len, hat]; simp only; omega) ?_)
        rw [encAs_set (by omega), ← ha, actT_succ htl]
        repeat' (first | refine e_nil ?_ | ((refine e_op ?_); (refine o_n (peval_sound rfl) rfl ?_)) | refine s_seq ?_ | refine s_region ?_ | refine s_exit ?_ | refine s_true rfl ?_ | refine x_hit ?_ | refine x_code ?_)
        rw [show decide ((([actC g s t] : List Acn).length : Int) < 2) = true from rfl]
        skip
        refine s_back ⟨⟨⟨t + 1, AC, cC⟩, by simp only; omega⟩, by simp only; omega, ?_, ?_⟩
        · repeat' (first | exact Sub.nil _ | refine Sub.cons rfl ?_ | refine Sub.consE rfl ?_ ?_)
          exact inc (i := t) (by omega)
        · simp only
          rw [hcs', hds']
          repeat' (first | exact Ent.nil _ | refine Ent.tak tk ?_)
      rw [show ((L.length : Int) == 1) = false by rw [beq_eq_false_iff_ne]; omega]
      repeat' (first | refine e_nil ?_ | ((refine e_op ?_); (refine o_n (peval_sound rfl) rfl ?_)) | refine s_seq ?_ | refine s_region ?_ | refine s_skip ?_ | refine s_false rfl ?_)
      by_cases h2 : L.length < 2
      · have hn0 : L = [] := List.eq_nil_of_length_eq_zero (by omega)
        subst hn0
        have ha : actC g s t = ac0 := by rw [hac]; rfl
        have hc0 : claB g s t = false := by rw [hcb]; rfl
        have hd0 : decB g s t = false := by rw [hdb]; rfl
        rw [hc0] at hcs'
        rw [hd0] at hds'
        simp only [Bool.false_eq_true, if_false, Nat.add_zero] at hcs' hds'
        rw [show decide ((([] : List Acn).length : Int) < 2) = true from rfl]
        repeat' (first | refine e_nil ?_ | ((refine e_op ?_); (refine o_n (peval_sound rfl) rfl ?_)) | refine s_region ?_ | refine s_exit ?_ | refine s_true rfl ?_ | refine x_hit ?_ | refine x_code ?_)
        refine s_back ⟨⟨⟨t + 1, AC, cC⟩, by simp only; omega⟩, by simp only; omega, ?_, ?_⟩
        · repeat' (first | exact Sub.nil _ | refine Sub.cons rfl ?_ | refine Sub.consE rfl ?_ ?_)
          exact inc (i := t) (by omega)
        · simp only
          rw [hcs', hds', actT_same htl ha]
          repeat' (first | exact Ent.nil _ | refine Ent.tak tk ?_)
      rw [show decide ((L.length : Int) < 2) = false by rw [decide_eq_false_iff_not]; omega]
      repeat' (first | ((refine e_op ?_); (refine o_n (peval_sound rfl) rfl ?_)) | refine s_seq ?_ | refine s_region ?_ | refine s_skip ?_ | refine s_false rfl ?_)
      refine e_op (o_callC (decide_w b7 A0 A1 A2 A3 A4 c0 c1 c2 c3 c4 (.slice AK (lrKs g).length cK) (.slice (some ⟨bG, 0, none⟩) (lrGs g).length cG) (.slice (some ⟨bX, 0, none⟩) X.length cX) g hwf.lev At ct L htp t htl) rfl pk (Can.ro hG0) rfl ?_)
      rintro v V ⟨rfl, rfl⟩
      simp only [List.cons_append, List.nil_append]
      cases hd : (decA g L t).2 with
      | false =>
        have ha : actC g s t = ac0 := by rw [hac]; unfold actL; rw [if_neg h1, hd, if_neg (by simp)]
        have hc0 : claB g s t = true := by rw [hcb]; unfold claL; rw [hd, decide_eq_true (by omega : 2 ≤ L.length)]; rfl
        have hd0 : decB g s t = false := by rw [hdb]; unfold decL; rw [hd, Bool.and_false]
        rw [hc0] at hcs'
        rw [hd0] at hds'
        simp only [Bool.false_eq_true, if_false, if_true, Nat.add_zero] at hcs' hds'
        have hln : (claTo g s (t + 1)).length = (claTo g s t).length + 1 := by rw [hcs', List.length_append]; rfl
        have hen : encCs (claTo g s (t + 1)) = encCs (claTo g s t) ++ encCl (s, t) := by rw [hcs']; unfold encCs; rw [List.flatMap_append]; simp
        repeat' (first | refine e_nil ?_ | ((refine e_op ?_); (first | refine o_n (peval_sound rfl) rfl ?_ | refine o_n (nl rfl rfl tc rfl) rfl ?_ | refine o_storeC rfl rfl rfl rfl tc uc rfl rfl rfl ?_ | refine o_alloc rfl rfl (fun _ => ?_))) | refine s_seq ?_ | refine s_region ?_ | refine s_true rfl ?_)
        refine e_op (o_lit (ps := [(0, .agg (encCl (s, t)).toArray)]) (cs := encCl (s, t)) rfl rfl rfl rfl rfl rfl rfl (fun bl => ?_))
        refine e_op (o_app1 (m := 1) (news := encCl (s, t)) rfl rfl rfl rfl to uv rfl rfl rfl rfl (by omega) (by simp only; omega) rfl (by decide) (fun ba ca => ?_))
        repeat' (first | refine e_nil ?_ | ((refine e_op ?_); (first | refine o_n (peval_sound rfl) rfl ?_ | refine o_storeC rfl rfl rfl rfl tc uc rfl rfl rfl ?_)) | refine s_region ?_ | refine s_exit ?_ | refine x_hit ?_ | refine x_code ?_)
        refine s_back ⟨⟨⟨t + 1, some ⟨ba, 0, none⟩, ca⟩, by simp only; omega⟩, by simp only; omega, ?_, ?_⟩
        · repeat' (first | exact Sub.nil _ | refine Sub.cons rfl ?_ | refine Sub.consE rfl ?_ ?_)
          exact inc (i := t) (by omega)
        · simp only
          unfold claS
          rw [hln, hen, hds', actT_same htl ha]
          repeat' (first | exact Ent.nil _ | refine Ent.tak tk ?_ | refine Ent.blkC tc rfl ?_)
      | true =>
        have ha : actC g s t = (decA g L t).1 := by rw [hac]; unfold actL; rw [if_neg h1, if_pos ⟨by omega, hd⟩]
        have hc0 : claB g s t = false := by rw [hcb]; unfold claL; rw [hd]; simp
        have hd0 : decB g s t = true := by rw [hdb]; unfold decL; rw [hd, decide_eq_true (by omega : 2 ≤ L.length)]; rfl
        rw [hc0] at hcs'
        rw [hd0] at hds'
        simp only [Bool.false_eq_true, if_false, if_true] at hcs' hds'
        have hwd : IntKind.i64.wrap (((decTo g s t : Nat) : Int) + 1) = ((decTo g s t + 1 : Nat) : Int) := by rw [wrap_i64] <;> omega
        rw [← ha]
        repeat' (first | refine e_nil ?_ | ((refine e_op ?_); (first | refine o_n (peval_sound rfl) rfl ?_ | refine o_n (nl rfl rfl tc rfl) rfl ?_ | refine o_storeC rfl rfl rfl rfl tc uc rfl rfl rfl ?_ | refine o_alloc rfl rfl (fun _ => ?_))) | refine s_seq ?_ | refine s_region ?_ | refine s_skip ?_ | refine s_false rfl ?_)
        refine e_op (o_n (n_index rfl rfl rfl rfl t rfl htl) rfl ?_)
        refine e_op (o_storeO (vs := encA (actC g s t)) rfl rfl rfl rfl to uc rfl rfl (by rw [encAs_len, hat]; simp only; omega) ?_)
        rw [encAs_set (by omega), actT_succ htl]
        repeat' (first | refine e_nil ?_ | ((refine e_op ?_); (first | refine o_n (peval_sound rfl) rfl ?_ | refine o_n (nl rfl rfl tc rfl) rfl ?_ | refine o_storeC rfl rfl rfl rfl tc uc rfl rfl rfl ?_)) | refine s_region ?_ | refine s_end ?_)
        rw [hwd]
        skip
        refine s_back ⟨⟨⟨t + 1, AC, cC⟩, by simp only; omega⟩, by simp only; omega, ?_, ?_⟩
        · repeat' (first | exact Sub.nil _ | refine Sub.cons rfl ?_ | refine Sub.consE rfl ?_ ?_)
          exact inc (i := t) (by omega)
        · simp only
          rw [hcs', hds']
          repeat' (first | exact Ent.nil _ | refine Ent.tak tk ?_ | refine Ent.blkC tc rfl ?_)
    rw [decide_eq_false (p := (t : Int) < (g.Terms.length : Int)) (by omega)]
    obtain rfl : t = g.Terms.length := by omega
    have hsG : s < (lrGs g).length := by omega
    have hrow := hF.row s hsG
    have hrl : (actRow g s).length = g.Terms.length := by rw [← actT_full]; exact actT_len (Nat.le_refl _)
    have hgl := gotM_len (g := g) (s := s) (by omega)
    rw [actT_full]
    repeat' (first | ((refine e_op ?_); (first | refine o_n (peval_sound rfl) rfl ?_ | refine o_n (nl rfl rfl tc rfl) rfl ?_)) | refine s_seq ?_ | refine s_region ?_ | refine s_exit ?_ | refine s_false rfl ?_ | refine x_hit ?_ | refine x_code ?_ | refine x_back ?_)
    refine e_op (o_lit (ps := [(0, .slice (some ⟨bR, 0, none⟩) g.Terms.length g.Terms.length)]) (cs := [.slice (some ⟨bR, 0, none⟩) g.Terms.length g.Terms.length]) rfl rfl rfl rfl rfl rfl rfl (fun bl => ?_))
    refine e_op (o_app1 (m := 1) (news := [.slice (some ⟨bR, 0, none⟩) g.Terms.length g.Terms.length]) rfl rfl rfl rfl to uv rfl rfl rfl rfl (by omega) (by simp only; omega) rfl (by decide) (fun ba ca => ?_))
    repeat' (first | refine e_nil ?_ | ((refine e_op ?_); (first | refine o_n (peval_sound rfl) rfl ?_ | refine o_storeC rfl rfl rfl rfl tc uc rfl rfl rfl ?_)))
    refine s_P Tryz.mixed (by decide +kernel) ?_
    refine p_barU 13 ?_
    refine q_n 0 rfl (peval_sound rfl) (by decide +kernel) (by decide +kernel) (Ent.refl _) rfl ?_
    refine q_n 1 rfl (nl rfl rfl tc rfl) (by decide +kernel) (by decide +kernel) (Ent.refl _) rfl ?_
    refine q_n 2 rfl (peval_sound rfl) (by decide +kernel) (by decide +kernel) (Ent.refl _) rfl ?_
    refine q_n 3 rfl (nl rfl rfl tc rfl) (by decide +kernel) (by decide +kernel) (Ent.refl _) rfl ?_
    refine q_n 4 rfl (peval_sound rfl) (by decide +kernel) (by decide +kernel) (Ent.refl _) rfl ?_
    refine q_n 5 rfl (n_index rfl rfl rfl rfl s rfl hsG) (by decide +kernel) (by decide +kernel) (Ent.refl _) rfl ?_
    refine q_n 6 rfl (no rfl rfl to (rowC_load hb hsG)) (by decide +kernel) (by decide +kernel) (Ent.refl _) rfl ?_
    refine q_n 7 rfl (peval_sound rfl) (by decide +kernel) (by decide +kernel) (Ent.refl _) rfl ?_
    refine q_n 8 rfl (nl rfl rfl tc rfl) (by decide +kernel) (by decide +kernel) (Ent.refl _) rfl ?_
    refine q_n 9 rfl (peval_sound rfl) (by decide +kernel) (by decide +kernel) (Ent.refl _) rfl ?_
    refine q_n 10 rfl (n_fromV g.Terms.length rfl rfl rfl rfl rfl (by omega)) (by decide +kernel) (by decide +kernel) (Ent.refl _) rfl ?_
    refine q_1 11 (by decide +kernel) rfl rfl rfl (o_callC (cloneI_w _ _ _ ((lrGs g)[s].drop g.Terms.length) (by rw [List.length_drop]) (by rw [List.length_drop]; omega)) rfl pk (can_drop (TakA.tak (A := gotB bcs (lrGs g))) hb hsG (gotM_rng h0 hsG) (by omega) g.Terms.length) rfl ?_)
    rintro v V ⟨Ah, ch, rfl, rfl⟩
    refine ⟨Ent.wk (Ent.refl _), ?_⟩
    simp only [List.cons_append, List.nil_append]
    refine q_1 12 (by decide +kernel) rfl rfl rfl (o_lit (ps := [(0, .slice Ah ((lrGs g)[s].length - g.Terms.length) ch)]) (cs := [.slice Ah ((lrGs g)[s].length - g.Terms.length) ch]) rfl rfl rfl rfl rfl rfl rfl (fun bl2 => ⟨Ent.wk (Ent.wk (Ent.refl _)), ?_⟩))
    refine q_z 13 (by decide +kernel) rfl rfl (o_app1 (m := 1) (news := [.slice Ah ((lrGs g)[s].length - g.Terms.length) ch]) rfl rfl rfl rfl to uv rfl rfl rfl rfl (by omega) (by simp only; omega) rfl (by decide) (fun bh cb => ?_))
    refine p_barU 15 ?_
    refine q_n 14 rfl (peval_sound rfl) (by decide +kernel) (by decide +kernel) (Ent.refl _) rfl ?_
    refine q_z 15 (by decide +kernel) rfl rfl (o_storeC rfl rfl rfl rfl tc uc rfl rfl rfl ?_)
    refine p_done (by decide +kernel) ?_
    repeat' (first | refine e_nil ?_ | ((refine e_op ?_); (refine o_n (peval_sound rfl) rfl ?_)) | refine s_region ?_ | refine s_end ?_)
    refine s_back ⟨⟨⟨s + 1, some ⟨ba, 0, none⟩, ca, acs ++ [(some ⟨bR, 0, none⟩, g.Terms.length)], some ⟨bh, 0, none⟩, cb, hcs ++ [(Ah, ch)], AC, cC⟩, by simp only; omega, by simp [hacs], by simp [hhcs]⟩, by simp only; omega, ?_, ?_⟩
    · repeat' (first | exact Sub.nil _ | refine Sub.cons rfl ?_ | refine Sub.consE rfl ?_ ?_)
      exact inc (i := s) (by omega)
    · simp only
      have hdl : ((lrGs g)[s].drop g.Terms.length).length = (lrGs g)[s].length - g.Terms.length := List.length_drop
      have e51 : osl 53 2 (.slice (some ⟨bR, 0, none⟩) g.Terms.length g.Terms.length) g.Terms.length (encAs (actRow g s)) = rowA encAs 2 53 (some ⟨bR, 0, none⟩, g.Terms.length) (actRow g s) := by unfold rowA; simp only [hrl]
      have e3 : osl 3 1 (.slice Ah ((lrGs g)[s].length - g.Terms.length) ch) ((lrGs g)[s].length - g.Terms.length) (((lrGs g)[s].drop g.Terms.length).map (Value.int .i64)) = rowA (fun l : List Int => l.map (Value.int .i64)) 1 3 (Ah, ch) ((lrGs g)[s].drop g.Terms.length) := by unfold rowA; simp only [hdl]
      have r1 : rowC (acs ++ [(some ⟨bR, 0, none⟩, g.Terms.length)]) (actM g s ++ [actRow g s]) = rowC acs (actM g s) ++ [.slice (some ⟨bR, 0, none⟩) g.Terms.length g.Terms.length] := by rw [Go.Proofs.YtcnpjhaedjncdaaGreatDoor.E.rowC_snoc (by rw [actM_len]; exact hacs), hrl]
      have r2 : rowC (hcs ++ [(Ah, ch)]) (gotM g s ++ [(lrGs g)[s].drop g.Terms.length]) = rowC hcs (gotM g s) ++ [.slice Ah ((lrGs g)[s].length - g.Terms.length) ch] := by rw [Go.Proofs.YtcnpjhaedjncdaaGreatDoor.E.rowC_snoc (by rw [hgl]; exact hhcs), hdl]
      unfold actS gotS
      rw [actM_succ, gotM_succ hsG, r1, r2, claTo_next, decTo_next, e51, e3]
      refine Ent.blkC tc rfl (Ent.tak tk (Ent.snocB ta ta (by rw [actM_len]; exact hacs) (Ent.tak tk (Ent.snocB ta ta (by rw [hgl]; exact hhcs) ?_))))
      repeat' (first | exact Ent.nil _ | refine Ent.tak tk ?_)
  rw [decide_eq_false (p := (s : Int) < ((lrKs g).length : Int)) (by omega)]
  obtain rfl : s = (lrKs g).length := by omega
  repeat' (first | refine e_nil ?_ | ((refine e_op ?_); (first | refine o_n (peval_sound rfl) rfl ?_ | refine o_n (nl rfl rfl tc rfl) rfl ?_)) | refine s_seq ?_ | refine s_region ?_ | refine s_exit ?_ | refine s_false rfl ?_ | refine x_hit ?_ | refine x_code ?_ | refine x_back ?_)
  have hca : claTo g (lrKs g).length 0 = claA g := rfl
  have hda : decTo g (lrKs g).length 0 = decN g := rfl
  have hma : actM g (lrKs g).length = actA g := rfl
  have hga : gotM g (lrKs g).length = gotA g := gotM_all (by omega)
  rw [hca, hda, hma, hga]
  have hpc : pCla g = claA g := by unfold pCla; rw [if_pos h0]
  have hal2 : (actA g).length = (lrKs g).length := actM_len g _
  have hgl2 : (gotA g).length = (lrKs g).length := by rw [← hga]; exact gotM_len (by omega)
  by_cases hcl : claA g = []
  · have hE : actE g = 0 := by unfold actE; rw [if_neg (by rw [h0]; simp), if_neg (by rw [hcl]; simp)]
    have e1 : pAct g = actA g := by unfold pAct; rw [if_pos hE]
    have e2 : pGot g = gotA g := by unfold pGot; rw [if_pos hE]
    have e4 : pDec g = decN g := by unfold pDec; rw [if_pos hE]
    rw [e1, e2, e4, hpc, hE]
    rw [show decide (((claA g).length : Int) > 0) = false by rw [hcl]; rfl]
    repeat' (first | refine e_nil ?_ | ((refine e_op ?_); (first | refine o_n (peval_sound rfl) rfl ?_ | refine o_n (nl rfl rfl tc rfl) rfl ?_ | refine o_storeC rfl rfl rfl rfl tc uc rfl rfl rfl ?_)) | refine s_seq ?_ | refine s_region ?_ | refine s_skip ?_ | refine s_false rfl ?_)
    refine s_ret ⟨_, _, resc2 rfl rfl rfl TakC.tak (ld_all (n := 4) rfl rfl rfl rfl) rfl, ⟨_, AA, cA, acs, AH, cH, hcs, AC, cC, rfl, ⟨by rw [hal2]; exact hacs, by rw [hgl2]; exact hhcs, by rw [hal2, hgl2]; rfl, rfl⟩⟩, ?_⟩
    rw [hal2, hgl2]
    repeat' (first | exact Ent.nil _ | refine Ent.tak tk ?_)
  · have hE : actE g = 210 := by unfold actE; rw [if_neg (by rw [h0]; simp), if_pos hcl]
    have e1 : pAct g = [] := by unfold pAct; rw [hE, if_neg (by decide)]
    have e2 : pGot g = [] := by unfold pGot; rw [hE, if_neg (by decide)]
    have e4 : pDec g = 0 := by unfold pDec; rw [hE, if_neg (by decide)]
    have hlp := List.length_pos_iff.2 hcl
    rw [e1, e2, e4, hpc, hE]
    rw [show decide (((claA g).length : Int) > 0) = true by rw [decide_eq_true_eq]; omega]
    repeat' (first | refine e_nil ?_ | ((refine e_op ?_); (first | refine o_n (peval_sound rfl) rfl ?_ | refine o_n (nl rfl rfl tc rfl) rfl ?_ | refine o_storeC rfl rfl rfl rfl tc uc rfl rfl rfl ?_)) | refine s_seq ?_ | refine s_region ?_ | refine s_true rfl ?_)
    refine s_ret ⟨_, _, resc2 rfl rfl rfl TakC.tak (ld_all (n := 4) rfl rfl rfl rfl) rfl, ⟨_, none, 0, [], none, 0, [], AC, cC, rfl, ⟨rfl, rfl, rfl, rfl⟩⟩, ?_⟩
    refine Ent.trans ?_ (ent_act2 (U := [claS AC (claA g).length cC (claA g)]))
    repeat' (first | exact Ent.nil _ | refine Ent.tak tk ?_)

end Go.Proofs.YtcnpjhaedjncdaaGreatDoor

namespace Go.Proofs.YtcnpjhaedjncdaaGreatDoor
set_option linter.all false
open Go.Proofs.YtcnpjhaedjncdaaGreatDoor.E

theorem equal51 (w : World) (a b c d : Int) : (Op.equal 53 (.agg #[.int .i64 a, .int .i64 b]) (.agg #[.int .i64 c, .int .i64 d])).run Tryz.prog w = .ok (a == c && b == d) w := by
  have hf : Tryz.prog.fieldsOf 53 = #[{ name := "Kind", type := 3, offset := 0, embedded := false, tag := "", pkgPath := "", byteOffset := 0 }, { name := "N", type := 3, offset := 1, embedded := false, tag := "", pkgPath := "", byteOffset := 8 }] := by kernel_rfl
  have h3 : Tryz.prog.plainKey 3 = true := by kernel_rfl
  have p1 : ∀ u v : Int, (part 3 #[.int .i64 u, .int .i64 v] 0).run Tryz.prog w = .ok (.int .i64 u) w := fun u v => run_part_plain (P := Tryz.prog) w h3 rfl
  have p2 : ∀ u v : Int, (part 3 #[.int .i64 u, .int .i64 v] 1).run Tryz.prog w = .ok (.int .i64 v) w := fun u v => run_part_plain (P := Tryz.prog) w h3 rfl
  unfold Op.equal Op.maxDepth
  rw [run_equalIn_struct (P := Tryz.prog) w 9999 53 _ _ (by kernel_rfl) (by kernel_rfl), hf]
  have e : ∀ u v : Int, (Op.equalIn 9999 3 (.int .i64 u) (.int .i64 v)).run Tryz.prog w = .ok (u == v) w := fun u v => run_equalIn_int w 9998 3 .i64 .i64 u v Tryz.underlying3
  simp only [Op.eqFields]
  simp only [Sem.run_bind, p1, p2, e, Result.andThen_ok, Sem.run_ite, Sem.run_pure]
  cases a == c <;> cases b == d <;> simp [p1, p2, e]

theorem eq51 (x y : Acn) : (x.k == y.k && x.n == y.n) = decide (x = y) := by
  cases x; cases y
  simp only [Acn.mk.injEq, Bool.decide_and]
  rfl

theorem n_neq51 {w0 : World} {SM : BSet} {n : Nat} {fr : Frm} {U : List Asn} {x y : Operand} {a b : Acn} {t2 : TypeId} (hx : val fr x = some (.agg (encA a).toArray)) (hy : val fr y = some (.agg (encA b).toArray)) :
    NEV ⟨Tryz.prog, Tryz.tab, Tryz.tabOk, n, w0, SM⟩ (.binOp .neq 53 x y t2) fr U (.bool (!decide (a = b))) := by
  intro ac w dst ty pos af g hf _
  have hg : Tryz.prog.eqGuardType Tryz.prog.depth 53 = false := by kernel_rfl
  have he := equal51 w a.k a.n b.k b.n
  unfold execOp
  simp only [hf.eval hx, hf.eval hy, encA]
  simp [eqGuard, hg, binOp, he, eq51]

theorem n_eql51 {w0 : World} {SM : BSet} {n : Nat} {fr : Frm} {U : List Asn} {x y : Operand} {a b : Acn} {t2 : TypeId} (hx : val fr x = some (.agg (encA a).toArray)) (hy : val fr y = some (.agg (encA b).toArray)) :
    NEV ⟨Tryz.prog, Tryz.tab, Tryz.tabOk, n, w0, SM⟩ (.binOp .eql 53 x y t2) fr U (.bool (decide (a = b))) := by
  intro ac w dst ty pos af g hf _
  have hg : Tryz.prog.eqGuardType Tryz.prog.depth 53 = false := by kernel_rfl
  have he := equal51 w a.k a.n b.k b.n
  unfold execOp
  simp only [hf.eval hx, hf.eval hy, encA]
  simp [eqGuard, hg, binOp, he, eq51]

theorem equal67 (w : World) (a b c d : Int) : (Op.equal 57 (.agg #[.int .i64 a, .int .i64 b]) (.agg #[.int .i64 c, .int .i64 d])).run Tryz.prog w = .ok (a == c && b == d) w := by
  have hf : Tryz.prog.fieldsOf 57 = #[{ name := "State", type := 3, offset := 0, embedded := false, tag := "", pkgPath := "", byteOffset := 0 }, { name := "Term", type := 3, offset := 1, embedded := false, tag := "", pkgPath := "", byteOffset := 8 }] := by kernel_rfl
  have h3 : Tryz.prog.plainKey 3 = true := by kernel_rfl
  have p1 : ∀ u v : Int, (part 3 #[.int .i64 u, .int .i64 v] 0).run Tryz.prog w = .ok (.int .i64 u) w := fun u v => run_part_plain (P := Tryz.prog) w h3 rfl
  have p2 : ∀ u v : Int, (part 3 #[.int .i64 u, .int .i64 v] 1).run Tryz.prog w = .ok (.int .i64 v) w := fun u v => run_part_plain (P := Tryz.prog) w h3 rfl
  unfold Op.equal Op.maxDepth
  rw [run_equalIn_struct (P := Tryz.prog) w 9999 57 _ _ (by kernel_rfl) (by kernel_rfl), hf]
  have e : ∀ u v : Int, (Op.equalIn 9999 3 (.int .i64 u) (.int .i64 v)).run Tryz.prog w = .ok (u == v) w := fun u v => run_equalIn_int w 9998 3 .i64 .i64 u v Tryz.underlying3
  simp only [Op.eqFields]
  simp only [Sem.run_bind, p1, p2, e, Result.andThen_ok, Sem.run_ite, Sem.run_pure]
  cases a == c <;> cases b == d <;> simp [p1, p2, e]

theorem eq67 (x y : Nat × Nat) : (((x.1 : Nat) : Int) == ((y.1 : Nat) : Int) && ((x.2 : Nat) : Int) == ((y.2 : Nat) : Int)) = decide (x = y) := by
  obtain ⟨a, b⟩ := x
  obtain ⟨c, d⟩ := y
  rw [Bool.eq_iff_iff]
  simp only [Bool.and_eq_true, beq_iff_eq, decide_eq_true_eq, Prod.mk.injEq]
  omega

theorem n_neq67 {w0 : World} {SM : BSet} {n : Nat} {fr : Frm} {U : List Asn} {x y : Operand} {a b : Nat × Nat} {t2 : TypeId} (hx : val fr x = some (.agg (encCl a).toArray)) (hy : val fr y = some (.agg (encCl b).toArray)) :
    NEV ⟨Tryz.prog, Tryz.tab, Tryz.tabOk, n, w0, SM⟩ (.binOp .neq 57 x y t2) fr U (.bool (!decide (a = b))) := by
  intro ac w dst ty pos af g hf _
  have hg : Tryz.prog.eqGuardType Tryz.prog.depth 57 = false := by kernel_rfl
  have he := equal67 w (a.1 : Nat) (a.2 : Nat) (b.1 : Nat) (b.2 : Nat)
  unfold execOp
  simp only [hf.eval hx, hf.eval hy, encCl]
  simp [eqGuard, hg, binOp, he, eq67]

end Go.Proofs.YtcnpjhaedjncdaaGreatDoor

namespace Go.Proofs.YtcnpjhaedjncdaaGreatDoor
set_option linter.all false
open Go.Proofs.YtcnpjhaedjncdaaGreatDoor.E

attribute [local irreducible] EVX EVO EVL EV1 NEV
attribute [local irreducible] own osl exA rdA rdL
attribute [local irreducible] bldA mapA bun mapS
set_option maxRecDepth 10000
set_option maxHeartbeats 4000000

theorem decide21_w (cs : List Value) (g : Gram) (hl : g.Levels.length = g.Terms.length) (x y : Acn) (k : Nat) (hk : k < g.Prods.length) (hyn : y.n = (k : Int)) (t : Nat) (ht : t < g.Terms.length) :
    Trip Tryz.prog 36 [.agg cs.toArray, .agg (encA x).toArray, .agg (encA y).toArray, .int .i64 t] (kGram.rd cs g) []
      (fun v V => v = .tuple #[.agg (encA (bindB (lvl g t) (prd g y.n).L x y).1).toArray, .bool (bindB (lvl g t) (prd g y.n).L x y).2] ∧ V = []) := by
  refine trip Tryz.tabOk Tryz.func36 rfl rfl rfl rfl ?_
  rintro w SM hG0
  obtain ⟨A0, A1, A2, A3, A4, c0, c1, c2, c3, c4, rfl, hG⟩ := kGram_open hG0
  have htl : t < g.Levels.length := by omega
  have hlv : lvl g t = g.Levels[t] := by unfold lvl; rw [List.getD_eq_getElem?_getD, List.getElem?_eq_getElem htl]; rfl
  rw [hyn, hlv, prd_at hk]
  obtain ⟨bl, ol, el, rfl, hbl, hel, hcl⟩ := hG.levels.2.2 t htl
  obtain ⟨rfl, hlN, hlK⟩ := kLev_open hel
  obtain ⟨bp, op, ep, rfl, hbp, hep, hcp⟩ := hG.prods.2.2 k hk
  obtain ⟨Ar, cr, rfl, hp9, hpN, hpK, hri⟩ := kPrd_open hep
  generalize g.Levels[t] = la at *
  have hcp2 : ∀ (j : Nat) (u : Value), [Value.int .i64 g.Prods[k].L.N, .int .i64 g.Prods[k].L.Kind][j]? = some u → w.cell? ⟨bp, op + k * kPrd.sz + 2 + j, none⟩ = some u := fun j u h => by
    rw [Nat.add_assoc _ 2 j, Nat.add_comm 2 j]
    exact hcp (j + 2) u h
  generalize g.Prods[k].L = lb at *
  obtain ⟨xk, xn⟩ := x
  obtain ⟨yk, yn⟩ := y
  simp only at hyn
  subst hyn
  repeat' (first | refine e_nil ?_ | ((refine e_op ?_); (first | refine o_n (peval_sound rfl) rfl ?_ | refine o_box rfl rfl (fun _ => ?_) | refine o_alloc rfl rfl (fun _ => ?_))) | refine s_seq ?_ | refine s_region ?_)
  rename_i bg bx by_ b8
  refine s_anyU Tryz.mixed ?_
  refine a_join (ι := Nat × Nat) (fun z => [(10, ptrN z.1), (11, ptrN z.2), (9, .bool false), (8, ptrN b8), (5, ptrN bx), (6, ptrN by_)]) (fun z => [blk z.1 59 [.int .i64 la.N, .int .i64 la.Kind], blk z.2 59 [.int .i64 lb.N, .int .i64 lb.Kind], blk b8 53 [.int .i64 0, .int .i64 0], blk by_ 53 [.int .i64 yk, .int .i64 k], blk bx 53 [.int .i64 xk, .int .i64 xn]]) ?_ (fun hfin => ?_)
  · rintro ⟨b10, b11⟩
    simp only
    repeat' (first | ((refine e_op ?_); (first | refine o_n (peval_sound rfl) rfl ?_ | refine o_n (nl rfl rfl tc rfl) rfl ?_)) | refine s_seq ?_ | refine s_region ?_)
    by_cases h1 : la.N = 0
    · have hb : bindB la lb ⟨xk, xn⟩ ⟨yk, k⟩ = (ac0, false) := by unfold bindB; rw [if_pos (.inl h1)]
      rw [hb, show (la.N == 0) = true by simpa using h1]
      repeat' (first | refine e_nil ?_ | ((refine e_op ?_); (first | refine o_n (peval_sound rfl) rfl ?_ | refine o_storeC rfl rfl rfl rfl tc uc rfl rfl rfl ?_)) | refine e_noU rfl rfl rfl ?_ | refine s_seq ?_ | refine s_region ?_ | refine s_true rfl ?_)
      refine s_ret ⟨_, _, resc2 rfl rfl rfl (.s (.s .z)) (ld_all (n := 2) rfl rfl rfl rfl) rfl, ⟨rfl, rfl⟩, Ent.nil _⟩
    rw [show (la.N == 0) = false by simpa using h1]
    repeat' (first | refine e_nil ?_ | ((first | refine e_op ?_ | refine e_yes rfl ?_); (first | refine o_n (peval_sound rfl) rfl ?_ | refine o_n (nl rfl rfl tc rfl) rfl ?_)))
    by_cases h2 : lb.N = 0
    · have hb : bindB la lb ⟨xk, xn⟩ ⟨yk, k⟩ = (ac0, false) := by unfold bindB; rw [if_pos (.inr h2)]
      rw [hb, show (lb.N == 0) = true by simpa using h2]
      repeat' (first | refine e_nil ?_ | ((refine e_op ?_); (first | refine o_n (peval_sound rfl) rfl ?_ | refine o_storeC rfl rfl rfl rfl tc uc rfl rfl rfl ?_)) | refine s_seq ?_ | refine s_region ?_ | refine s_true rfl ?_)
      refine s_ret ⟨_, _, resc2 rfl rfl rfl (.s (.s .z)) (ld_all (n := 2) rfl rfl rfl rfl) rfl, ⟨rfl, rfl⟩, Ent.nil _⟩
    rw [show (lb.N == 0) = false by simpa using h2]
    repeat' (first | ((refine e_op ?_); (first | refine o_n (peval_sound rfl) rfl ?_ | refine o_n (nl rfl rfl tc rfl) rfl ?_)) | refine s_seq ?_ | refine s_region ?_ | refine s_skip ?_ | refine s_false rfl ?_)
    have h12 : ¬ (la.N = 0 ∨ lb.N = 0) := fun e => e.elim h1 h2
    by_cases h3 : la.N > lb.N
    · have hb : bindB la lb ⟨xk, xn⟩ ⟨yk, k⟩ = (⟨xk, xn⟩, true) := by unfold bindB; rw [if_neg h12, if_pos h3]
      rw [hb, decide_eq_true h3]
      repeat' (first | refine e_nil ?_ | ((refine e_op ?_); (first | refine o_n (peval_sound rfl) rfl ?_ | refine o_n (nl rfl rfl tc rfl) rfl ?_ | refine o_storeC rfl rfl rfl rfl tc uc rfl rfl rfl ?_)) | refine e_noU rfl rfl rfl ?_ | refine e_noN rfl rfl ?_ | refine s_seq ?_ | refine s_region ?_ | refine s_true rfl ?_)
      refine s_ret ⟨_, _, resc2 rfl rfl rfl (.s (.s .z)) (ld_all (n := 2) rfl rfl rfl rfl) rfl, ⟨rfl, rfl⟩, Ent.nil _⟩
    rw [decide_eq_false h3]
    repeat' (((refine e_yes rfl ?_); (first | refine o_n (peval_sound rfl) rfl ?_ | refine o_n (nl rfl rfl tc rfl) rfl ?_)))
    by_cases h4 : la.N = lb.N
    · rw [show (la.N == lb.N) = true by simpa using h4]
      have h5 : ¬ la.N < lb.N := by omega
      repeat' (first | refine e_nil ?_ | ((first | refine e_op ?_ | refine e_yes rfl ?_); (first | refine o_n (peval_sound rfl) rfl ?_ | refine o_n (nl rfl rfl tc rfl) rfl ?_)))
      by_cases h6 : la.Kind = 2
      · have hb : bindB la lb ⟨xk, xn⟩ ⟨yk, k⟩ = (⟨xk, xn⟩, true) := by unfold bindB; rw [if_neg h12, if_neg h3, if_neg h5, if_neg (by omega), if_pos h6]
        rw [hb, show (la.Kind == 2) = true by simpa using h6]
        repeat' (first | refine e_nil ?_ | ((refine e_op ?_); (first | refine o_n (peval_sound rfl) rfl ?_ | refine o_n (nl rfl rfl tc rfl) rfl ?_ | refine o_storeC rfl rfl rfl rfl tc uc rfl rfl rfl ?_)) | refine s_seq ?_ | refine s_region ?_ | refine s_true rfl ?_)
        refine s_ret ⟨_, _, resc2 rfl rfl rfl (.s (.s .z)) (ld_all (n := 2) rfl rfl rfl rfl) rfl, ⟨rfl, rfl⟩, Ent.nil _⟩
      rw [show (la.Kind == 2) = false by simpa using h6]
      repeat' (first | ((refine e_op ?_); (first | refine o_n (peval_sound rfl) rfl ?_ | refine o_n (nl rfl rfl tc rfl) rfl ?_)) | refine s_seq ?_ | refine s_region ?_ | refine s_skip ?_ | refine s_false rfl ?_)
      rw [decide_eq_false h5]
      repeat' (first | refine e_nil ?_ | ((first | refine e_op ?_ | refine e_yes rfl ?_); (first | refine o_n (peval_sound rfl) rfl ?_ | refine o_n (nl rfl rfl tc rfl) rfl ?_)))
      by_cases h7 : la.Kind = 1
      · have hb : bindB la lb ⟨xk, xn⟩ ⟨yk, k⟩ = (⟨yk, k⟩, true) := by unfold bindB; rw [if_neg h12, if_neg h3, if_neg h5, if_pos h7]
        rw [hb, show (la.Kind == 1) = true by simpa using h7]
        repeat' (first | refine e_nil ?_ | ((refine e_op ?_); (first | refine o_n (peval_sound rfl) rfl ?_ | refine o_n (nl rfl rfl tc rfl) rfl ?_ | refine o_storeC rfl rfl rfl rfl tc uc rfl rfl rfl ?_)) | refine s_seq ?_ | refine s_region ?_ | refine s_true rfl ?_)
        refine s_ret ⟨_, _, resc2 rfl rfl rfl (.s (.s .z)) (ld_all (n := 2) rfl rfl rfl rfl) rfl, ⟨rfl, rfl⟩, Ent.nil _⟩
      have hb : bindB la lb ⟨xk, xn⟩ ⟨yk, k⟩ = (ac0, true) := by unfold bindB; rw [if_neg h12, if_neg h3, if_neg h5, if_neg h7, if_neg h6]
      rw [hb, show (la.Kind == 1) = false by simpa using h7]
      repeat' (first | refine e_nil ?_ | ((refine e_op ?_); (first | refine o_n (peval_sound rfl) rfl ?_ | refine o_storeC rfl rfl rfl rfl tc uc rfl rfl rfl ?_)) | refine s_seq ?_ | refine s_region ?_ | refine s_skip ?_ | refine s_false rfl ?_)
      refine s_ret ⟨_, _, resc2 rfl rfl rfl (.s (.s .z)) (ld_all (n := 2) rfl rfl rfl rfl) rfl, ⟨rfl, rfl⟩, Ent.nil _⟩
    rw [show (la.N == lb.N) = false by simpa using h4]
    have h5 : la.N < lb.N := by omega
    repeat' (first | refine e_nil ?_ | ((first | refine e_op ?_ | refine e_yes rfl ?_); (first | refine o_n (peval_sound rfl) rfl ?_ | refine o_n (nl rfl rfl tc rfl) rfl ?_)) | refine e_noU rfl rfl rfl ?_ | refine s_seq ?_ | refine s_region ?_ | refine s_skip ?_ | refine s_false rfl ?_)
    rw [decide_eq_true h5]
    repeat' (first | refine e_nil ?_ | ((refine e_op ?_); (first | refine o_n (peval_sound rfl) rfl ?_ | refine o_n (nl rfl rfl tc rfl) rfl ?_ | refine o_storeC rfl rfl rfl rfl tc uc rfl rfl rfl ?_)) | refine e_noU rfl rfl rfl ?_ | refine s_seq ?_ | refine s_region ?_ | refine s_true rfl ?_)
    have hb : bindB la lb ⟨xk, xn⟩ ⟨yk, k⟩ = (⟨yk, k⟩, true) := by unfold bindB; rw [if_neg h12, if_neg h3, if_pos h5]
    rw [hb]
    skip
    refine s_ret ⟨_, _, resc2 rfl rfl rfl (.s (.s .z)) (ld_all (n := 2) rfl rfl rfl rfl) rfl, ⟨rfl, rfl⟩, Ent.nil _⟩
  refine a_n 0 rfl (peval_sound rfl) (by decide +kernel) (Ent.refl _) rfl ?_
  refine a_n 1 rfl (nl rfl rfl tc rfl) (by decide +kernel) (Ent.refl _) rfl ?_
  refine a_n 2 rfl (peval_sound rfl) (by decide +kernel) (Ent.refl _) rfl ?_
  refine a_n 3 rfl (n_index rfl rfl rfl rfl t rfl htl) (by decide +kernel) (Ent.refl _) rfl ?_
  refine a_n 4 rfl (n_load_ro rfl rfl hbl (loads_agg rfl rfl hcl)) (by decide +kernel) (Ent.refl _) rfl ?_
  refine a_n 5 rfl (peval_sound rfl) (by decide +kernel) (Ent.refl _) rfl ?_
  refine a_n 6 rfl (nl rfl rfl tc rfl) (by decide +kernel) (Ent.refl _) rfl ?_
  refine a_n 7 rfl (peval_sound rfl) (by decide +kernel) (Ent.refl _) rfl ?_
  refine a_n 8 rfl (nl rfl rfl tc rfl) (by decide +kernel) (Ent.refl _) rfl ?_
  refine a_n 9 rfl (n_index rfl rfl rfl rfl k rfl hk) (by decide +kernel) (Ent.refl _) rfl ?_
  refine a_n 10 rfl (peval_sound rfl) (by decide +kernel) (Ent.refl _) rfl ?_
  refine a_n 11 rfl (n_load_ro rfl rfl hbp (loads_agg (es := [.int .i64 lb.N, .int .i64 lb.Kind]) rfl rfl hcp2)) (by decide +kernel) (Ent.refl _) rfl ?_
  refine a_2 12 13 (by decide +kernel) rfl rfl rfl rfl (o_alloc rfl rfl (fun b10 => ⟨(by (repeat' (first | exact Ent.refl _ | refine Ent.wk ?_))), ?_⟩)) (o_alloc rfl rfl (fun b11 => ⟨(by (repeat' (first | exact Ent.refl _ | refine Ent.wk ?_))), ?_⟩))
  · refine a_1 13 (by decide +kernel) rfl rfl (o_alloc rfl rfl (fun b11 => ⟨(by (repeat' (first | exact Ent.refl _ | refine Ent.wk ?_))), ?_⟩))
    refine a_1 14 (by decide +kernel) rfl rfl (o_storeC rfl rfl rfl rfl tc uc rfl rfl rfl ⟨(by (repeat' (first | exact Ent.refl _ | refine Ent.wk ?_))), ?_⟩)
    refine a_1 15 (by decide +kernel) rfl rfl (o_storeC rfl rfl rfl rfl tc uc rfl rfl rfl ⟨(by (repeat' (first | exact Ent.refl _ | refine Ent.wk ?_))), ?_⟩)
    refine a_done (by decide +kernel) (s_weak ?_ ?_ (hfin (b10, b11)))
    · repeat' (first | exact Sub.nil _ | refine Sub.cons rfl ?_)
    · repeat' (first | exact Ent.nil _ | refine Ent.tak tk ?_ | refine Ent.blkC tc rfl ?_)
  · refine a_1 12 (by decide +kernel) rfl rfl (o_alloc rfl rfl (fun b10 => ⟨(by (repeat' (first | exact Ent.refl _ | refine Ent.wk ?_))), ?_⟩))
    refine a_1 14 (by decide +kernel) rfl rfl (o_storeC rfl rfl rfl rfl tc uc rfl rfl rfl ⟨(by (repeat' (first | exact Ent.refl _ | refine Ent.wk ?_))), ?_⟩)
    refine a_1 15 (by decide +kernel) rfl rfl (o_storeC rfl rfl rfl rfl tc uc rfl rfl rfl ⟨(by (repeat' (first | exact Ent.refl _ | refine Ent.wk ?_))), ?_⟩)
    refine a_done (by decide +kernel) (s_weak ?_ ?_ (hfin (b10, b11)))
    · repeat' (first | exact Sub.nil _ | refine Sub.cons rfl ?_)
    · repeat' (first | exact Ent.nil _ | refine Ent.tak tk ?_ | refine Ent.blkC tc rfl ?_)

theorem told21_w (cs cl : List Value) (AW : Option Addr) (cW : Nat) (g : Gram) (h0 : lrE g = 0) (s t : Nat) (hs : s < (lrKs g).length) (ht : t < g.Terms.length) :
    Trip Tryz.prog 35 [.agg cs.toArray, .agg cl.toArray, .slice AW (laX g).length cW, .int .i64 s, .int .i64 t] (((kGram.rd cs g).and (kLr.rd cl (lrKs g, lrGs g))).and (k3.rd [.slice AW (laX g).length cW] (laX g))) []
      (fun v V => ∃ A c, v = .slice A (told g s t).length c ∧ V = [osl 53 2 (.slice A (told g s t).length c) (told g s t).length (encAs (told g s t))]) := by
  refine trip Tryz.tabOk Tryz.func35 rfl rfl rfl rfl ?_
  rintro w SM ⟨⟨hG0, ⟨d1, d2, rfl, ⟨A1, a1, rfl, h1⟩, ⟨A2, a2, rfl, h2⟩⟩⟩, hW⟩
  simp only at h1 h2
  obtain ⟨AW', cW', eW, hw1, hw2, hw3⟩ := hW
  cases eW
  obtain ⟨A0, B1, B2, B3, A4, c0, c1, c2, c3, c4, rfl, hG⟩ := kGram_open hG0
  simp only [List.cons_append, List.nil_append]
  have hF := goF h0
  have hL := hF.lim
  have hPr := hL.p
  have hsG : s < (lrGs g).length := by rw [hF.gk]; exact hs
  have hrow := hF.row s hsG
  have htG : t < (lrGs g)[s].length := by omega
  have hXn : (laX g).length = (lrKs g).length := laX_len h0
  have hsX : s < (laX g).length := by omega
  have hXs : (laX g)[s].length = g.Prods.length := by rw [laX_row h0 hsX, YR_len]
  obtain ⟨e2, o2, es2, rfl, he2, ⟨B4, m4, rfl, hr2⟩, hc2⟩ := h2.2.2 s hsG
  obtain ⟨e3, o3, es3, rfl, he3, hr3, hc3⟩ := hr2.2.2 t htG
  obtain ⟨rfl, hj64⟩ := hr3
  rw [← shN_at hsG htG] at hc3
  obtain ⟨e4, o4, es4, rfl, he4, ⟨B5, m5, rfl, hr4⟩, hc4⟩ := hw3 s hsX
  repeat' (first | refine e_nil ?_ | ((refine e_op ?_); (first | refine o_n (peval_sound rfl) rfl ?_ | refine o_n (nl rfl rfl tc rfl) rfl ?_ | refine o_box rfl rfl (fun _ => ?_))) | refine s_seq ?_ | refine s_region ?_)
  rename_i bG bL
  refine e_op (o_n (n_index rfl rfl rfl rfl s rfl hsG) rfl ?_)
  refine e_op (o_n (n_load_ro rfl rfl he2 (loads_one rfl (hc2 0 _ rfl))) rfl ?_)
  repeat' (((refine e_op ?_); (refine o_n (peval_sound rfl) rfl ?_)))
  refine e_op (o_n (n_index rfl rfl rfl rfl t rfl htG) rfl ?_)
  refine e_op (o_n (n_load_ro rfl rfl he3 (loads_one rfl (hc3 0 _ rfl))) rfl ?_)
  repeat' (first | refine e_nil ?_ | ((refine e_op ?_); (refine o_n (peval_sound rfl) rfl ?_)))
  refine s_ent (Ent.osl0 (e := 53) (sz := 2) (Ent.refl _)) ?_
  refine s_condJ (ι := Option Addr × Nat) (fun z => [(11, .slice z.1 (toldN g s t 0).length z.2), (6, ptrN bL), (5, ptrN bG), (2, .slice (some ⟨e4, o4, none⟩) (laX g).length cW), (3, .int .i64 s), (4, .int .i64 t)]) (fun z => [osl 53 2 (.slice z.1 (toldN g s t 0).length z.2) (toldN g s t 0).length (encAs (toldN g s t 0)), blk bL 66 [.slice A1 (lrKs g).length a1, .slice (some ⟨e2, o2, none⟩) (lrGs g).length a2], blk bG 27 [.slice A0 g.Terms.length c0, .slice B1 g.Levels.length c1, .slice B2 g.Pats.length c2, .slice B3 g.Nons.length c3, .slice A4 g.Prods.length c4]]) rfl (fun h hfin => ?_) (fun h hfin => ?_) ?_
  · have hsh : 0 ≤ shN g s t := by simpa using h
    have e0 : toldN g s t 0 = [⟨1, shN g s t⟩] := by unfold toldN shL redsN; rw [if_pos hsh]; rfl
    rw [e0] at hfin
    repeat' (first | ((refine e_op ?_); (first | refine o_n (peval_sound rfl) rfl ?_ | refine o_n (nl rfl rfl tc rfl) rfl ?_)) | refine s_region ?_)
    refine e_op (o_n (n_index rfl rfl rfl rfl s rfl hsG) rfl ?_)
    refine e_op (o_n (n_load_ro rfl rfl he2 (loads_one rfl (hc2 0 _ rfl))) rfl ?_)
    repeat' (((refine e_op ?_); (refine o_n (peval_sound rfl) rfl ?_)))
    refine e_op (o_n (n_index rfl rfl rfl rfl t rfl htG) rfl ?_)
    refine e_op (o_n (n_load_ro rfl rfl he3 (loads_one rfl (hc3 0 _ rfl))) rfl ?_)
    repeat' (((refine e_op ?_); (refine o_n (peval_sound rfl) rfl ?_)))
    refine e_op (o_lit (ps := [(0, .agg (encA ⟨1, shN g s t⟩).toArray)]) (cs := encA ⟨1, shN g s t⟩) rfl rfl rfl rfl rfl rfl rfl (fun bl => ?_))
    refine e_op (o_app1 (m := 1) (news := encA ⟨1, shN g s t⟩) rfl rfl rfl rfl to uv rfl rfl rfl rfl (by omega) (by simp only; omega) rfl (by decide) (fun ba ca => ?_))
    repeat' (((refine e_op ?_); (refine o_n (peval_sound rfl) rfl ?_)))
    refine e_nil ?_
    refine s_weak ?_ ?_ (hfin (some ⟨ba, 0, none⟩, ca))
    · repeat' (first | exact Sub.nil _ | refine Sub.cons rfl ?_)
    · repeat' (first | exact Ent.nil _ | refine Ent.tak tk ?_ | refine Ent.tak (.s .z) ?_)
  · have hsh : ¬ 0 ≤ shN g s t := by simpa using h
    have e0 : toldN g s t 0 = [] := by unfold toldN shL redsN; rw [if_neg hsh]; rfl
    rw [e0] at hfin
    refine s_skip ?_
    refine s_weak ?_ (Ent.refl _) (hfin (none, 0))
    repeat' (first | exact Sub.nil _ | refine Sub.cons rfl ?_)
  rintro ⟨A, c⟩
  simp only
  repeat' (first | refine e_nil ?_ | ((refine e_op ?_); (refine o_n (peval_sound rfl) rfl ?_)) | refine s_seq ?_ | refine s_region ?_ | refine s_block ?_)
  refine s_loopK (ι := {z : Nat × Option Addr × Nat // z.1 ≤ g.Prods.length}) [6, 5, 2, 3, 4] rfl ⟨(0, A, c), by simp⟩ (fun z => [(12, .int .i64 z.1.1), (11, .slice z.1.2.1 (toldN g s t z.1.1).length z.1.2.2)])
    (fun z => [osl 53 2 (.slice z.1.2.1 (toldN g s t z.1.1).length z.1.2.2) (toldN g s t z.1.1).length (encAs (toldN g s t z.1.1)), blk bL 66 [.slice A1 (lrKs g).length a1, .slice (some ⟨e2, o2, none⟩) (lrGs g).length a2], blk bG 27 [.slice A0 g.Terms.length c0, .slice B1 g.Levels.length c1, .slice B2 g.Pats.length c2, .slice B3 g.Nons.length c3, .slice A4 g.Prods.length c4]]) (fun z => g.Prods.length - z.1.1) ?_ (Ent.refl _) ?_
  · repeat' (first | exact Sub.nil _ | refine Sub.cons rfl ?_)
  rintro ⟨⟨k, A, c⟩, hk⟩
  simp only at hk ⊢
  repeat' (first | refine e_nil ?_ | ((refine e_op ?_); (first | refine o_n (peval_sound rfl) rfl ?_ | refine o_n (nl rfl rfl tc rfl) rfl ?_)) | refine s_seq ?_ | refine s_region ?_)
  refine s_cond rfl (fun h => ?_) (fun h => ?_)
  · have hkl : k < g.Prods.length := by simpa using h
    have hkX : k < (laX g)[s].length := by omega
    have hle := toldN_len g s t k
    have hlX : (laX g)[s][k] = laRow g s k := laX_at h0 hsX hkX
    have hlb : lab g s t k = (laX g)[s][k].getD t false := by unfold lab; rw [hlX]
    have hlen : (laX g)[s][k].length = g.Terms.length ∨ (laX g)[s][k] = [] := by rw [hlX]; exact laRow_len h0 s k
    obtain ⟨b5, o5, es5, rfl, hb5, ⟨B6, m6, rfl, hr6⟩, hc5⟩ := hr4.2.2 k hkX
    repeat' (first | ((refine e_op ?_); (refine o_n (peval_sound rfl) rfl ?_)) | refine s_seq ?_ | refine s_region ?_ | refine s_block ?_ | refine s_skip ?_)
    refine e_op (o_n (n_index rfl rfl rfl rfl s rfl hsX) rfl ?_)
    refine e_op (o_n (n_load_ro rfl rfl he4 (loads_one rfl (hc4 0 _ rfl))) rfl ?_)
    repeat' (((refine e_op ?_); (refine o_n (peval_sound rfl) rfl ?_)))
    refine e_op (o_n (n_index rfl rfl rfl rfl k rfl hkX) rfl ?_)
    refine e_op (o_n (n_load_ro rfl rfl hb5 (loads_one rfl (hc5 0 _ rfl))) rfl ?_)
    repeat' (((refine e_op ?_); (refine o_n (peval_sound rfl) rfl ?_)))
    by_cases hz : (laX g)[s][k].length = 0
    · have hlb2 : lab g s t k = false := by rw [hlb, List.eq_nil_of_length_eq_zero hz]; rfl
      rw [show (((laX g)[s][k].length : Int) == 0) = true by simp [hz]]
      repeat' (first | refine e_nil ?_ | ((refine e_op ?_); (refine o_n (peval_sound rfl) rfl ?_)) | refine e_noU rfl rfl rfl ?_ | refine s_region ?_ | refine s_exit ?_ | refine s_true rfl ?_ | refine x_hit ?_ | refine x_code ?_)
      refine s_back ⟨⟨(k + 1, A, c), by simp only; omega⟩, by simp only; omega, ?_, ?_⟩
      · simp only
        rw [toldN_succ, hlb2]
        repeat' (first | exact Sub.nil _ | refine Sub.cons rfl ?_ | refine Sub.consE rfl ?_ ?_)
        exact inc (i := k) (by omega)
      · simp only
        rw [toldN_succ, hlb2]
        exact Ent.refl _
    rw [show (((laX g)[s][k].length : Int) == 0) = false by rw [beq_eq_false_iff_ne]; omega]
    have htX : t < (laX g)[s][k].length := by rcases hlen with h | h; omega; rw [h] at hz; exact absurd rfl hz
    obtain ⟨b7, o7, es7, rfl, hb7, hR7, hc7⟩ := hr6.2.2 t htX
    obtain rfl := kbool_is _ _ _ _ hR7
    have hbit : (laX g)[s][k][t] = lab g s t k := by rw [hlb, List.getD_eq_getElem?_getD, List.getElem?_eq_getElem htX]; rfl
    rw [hbit] at hc7
    repeat' (((refine e_yes rfl ?_); (refine o_n (peval_sound rfl) rfl ?_)))
    refine e_yes rfl (o_n (n_index rfl rfl rfl rfl s rfl hsX) rfl ?_)
    refine e_yes rfl (o_n (n_load_ro rfl rfl he4 (loads_one rfl (hc4 0 _ rfl))) rfl ?_)
    repeat' (((refine e_yes rfl ?_); (refine o_n (peval_sound rfl) rfl ?_)))
    refine e_yes rfl (o_n (n_index rfl rfl rfl rfl k rfl hkX) rfl ?_)
    refine e_yes rfl (o_n (n_load_ro rfl rfl hb5 (loads_one rfl (hc5 0 _ rfl))) rfl ?_)
    repeat' (((refine e_yes rfl ?_); (refine o_n (peval_sound rfl) rfl ?_)))
    refine e_yes rfl (o_n (n_index rfl rfl rfl rfl t rfl htX) rfl ?_)
    refine e_yes rfl (o_n (n_load_ro rfl rfl hb7 (loads_one rfl (hc7 0 _ rfl))) rfl ?_)
    repeat' (first | refine e_nil ?_ | ((first | refine e_op ?_ | refine e_yes rfl ?_); (refine o_n (peval_sound rfl) rfl ?_)))
    cases hlb2 : lab g s t k with
    | false =>
      repeat' (first | refine e_nil ?_ | ((refine e_op ?_); (refine o_n (peval_sound rfl) rfl ?_)) | refine s_region ?_ | refine s_exit ?_ | refine s_true rfl ?_ | refine x_hit ?_ | refine x_code ?_)
      refine s_back ⟨⟨(k + 1, A, c), by simp only; omega⟩, by simp only; omega, ?_, ?_⟩
      · simp only
        rw [toldN_succ, hlb2]
        repeat' (first | exact Sub.nil _ | refine Sub.cons rfl ?_ | refine Sub.consE rfl ?_ ?_)
        exact inc (i := k) (by omega)
      · simp only
        rw [toldN_succ, hlb2]
        exact Ent.refl _
    | true =>
      repeat' (first | refine e_nil ?_ | ((refine e_op ?_); (refine o_n (peval_sound rfl) rfl ?_)) | refine s_seq ?_ | refine s_region ?_ | refine s_skip ?_ | refine s_false rfl ?_)
      by_cases hk0 : k = 0
      · rw [show ((k : Int) == 0) = true by rw [beq_iff_eq]; omega]
        have he : toldN g s t (k + 1) = toldN g s t k ++ [⟨3, 0⟩] := by rw [toldN_succ, hlb2, if_pos rfl]; unfold redA; rw [if_pos hk0]
        have heL : (toldN g s t (k + 1)).length = (toldN g s t k).length + 1 := by rw [he, List.length_append]; rfl
        have heC : encAs (toldN g s t (k + 1)) = encAs (toldN g s t k) ++ encA ⟨3, 0⟩ := by rw [he]; unfold encAs; rw [List.flatMap_append]; simp
        repeat' (first | ((refine e_op ?_); (refine o_n (peval_sound rfl) rfl ?_)) | refine s_region ?_ | refine s_true rfl ?_)
        refine e_op (o_lit (ps := [(0, .agg (encA ⟨3, 0⟩).toArray)]) (cs := encA ⟨3, 0⟩) rfl rfl rfl rfl rfl rfl rfl (fun bl => ?_))
        refine e_op (o_app1 (m := 1) (news := encA ⟨3, 0⟩) rfl rfl rfl rfl to uv rfl rfl rfl rfl (by omega) (by simp only; omega) rfl (by decide) (fun ba ca => ?_))
        repeat' (first | refine e_nil ?_ | ((refine e_op ?_); (refine o_n (peval_sound rfl) rfl ?_)) | refine s_region ?_ | refine s_end ?_)
        refine s_back ⟨⟨(k + 1, some ⟨ba, 0, none⟩, ca), by simp only; omega⟩, by simp only; omega, ?_, ?_⟩
        · simp only
          rw [heL]
          repeat' (first | exact Sub.nil _ | refine Sub.cons rfl ?_ | refine Sub.consE rfl ?_ ?_)
          exact inc (i := k) (by omega)
        · simp only
          rw [heL, heC]
          repeat' (first | exact Ent.nil _ | refine Ent.tak tk ?_)
      · rw [show ((k : Int) == 0) = false by rw [beq_eq_false_iff_ne]; omega]
        have he : toldN g s t (k + 1) = toldN g s t k ++ [⟨2, k⟩] := by rw [toldN_succ, hlb2, if_pos rfl]; unfold redA; rw [if_neg hk0]
        have heL : (toldN g s t (k + 1)).length = (toldN g s t k).length + 1 := by rw [he, List.length_append]; rfl
        have heC : encAs (toldN g s t (k + 1)) = encAs (toldN g s t k) ++ encA ⟨2, k⟩ := by rw [he]; unfold encAs; rw [List.flatMap_append]; simp
        repeat' (first | ((refine e_op ?_); (refine o_n (peval_sound rfl) rfl ?_)) | refine s_region ?_ | refine s_false rfl ?_)
        refine e_op (o_lit (ps := [(0, .agg (encA ⟨2, k⟩).toArray)]) (cs := encA ⟨2, k⟩) rfl rfl rfl rfl rfl rfl rfl (fun bl => ?_))
        refine e_op (o_app1 (m := 1) (news := encA ⟨2, k⟩) rfl rfl rfl rfl to uv rfl rfl rfl rfl (by omega) (by simp only; omega) rfl (by decide) (fun ba ca => ?_))
        repeat' (first | refine e_nil ?_ | ((refine e_op ?_); (refine o_n (peval_sound rfl) rfl ?_)) | refine s_region ?_ | refine s_end ?_)
        refine s_back ⟨⟨(k + 1, some ⟨ba, 0, none⟩, ca), by simp only; omega⟩, by simp only; omega, ?_, ?_⟩
        · simp only
          rw [heL]
          repeat' (first | exact Sub.nil _ | refine Sub.cons rfl ?_ | refine Sub.consE rfl ?_ ?_)
          exact inc (i := k) (by omega)
        · simp only
          rw [heL, heC]
          repeat' (first | exact Ent.nil _ | refine Ent.tak tk ?_)
  · obtain rfl : k = g.Prods.length := by have h := of_decide_eq_false h; omega
    repeat' (first | refine e_nil ?_ | ((refine e_op ?_); (refine o_n (peval_sound rfl) rfl ?_)) | refine s_seq ?_ | refine s_region ?_ | refine s_exit ?_ | refine x_hit ?_ | refine x_code ?_ | refine x_back ?_)
    refine s_ret ⟨_, _, res1 rfl rfl, ⟨A, c, rfl, rfl⟩, ?_⟩
    exact Ent.cons (Ent.nil _)

end Go.Proofs.YtcnpjhaedjncdaaGreatDoor

namespace Go.Proofs.YtcnpjhaedjncdaaGreatDoor
set_option linter.all false
open Go.Proofs.YtcnpjhaedjncdaaGreatDoor.E

/-- The first so many of a row. -/
noncomputable def rT (g : Gram) (s t : Nat) : List Acn := (List.range t).map (actC g s)
theorem rT_len (g : Gram) (s t : Nat) : (rT g s t).length = t := by unfold rT; simp
theorem rT_succ (g : Gram) (s t : Nat) : encAs (rT g s (t + 1)) = encAs (rT g s t) ++ encA (actC g s t) := by
  unfold rT encAs
  rw [List.range_succ, List.map_append, List.flatMap_append]; simp
theorem rT_full (g : Gram) (s : Nat) : rT g s g.Terms.length = actRow g s := rfl
theorem flat_intZ (l : List Int) : (l.flatMap fun x => [Value.int .i64 x]) = l.map (Value.int .i64) := by induction l <;> simp_all
theorem can_W2 {E0 : Go.Proofs.YtcnpjhaedjncdaaGreatDoor.E.Env} {U U' : List Asn} {W : Asn} {cs : List Value} {x : List (List Bits)} (ht : Tak W U U') (h : ∀ w S, W.P w S → k3.R w S cs x) : Go.Proofs.YtcnpjhaedjncdaaGreatDoor.E.Can E0 U (k3.rd cs x) := Can.of fun w S hs => by
  obtain ⟨S1, h1, i1⟩ := ht.mem hs
  exact k3.mono i1 (h _ _ h1)
/-- Is a choice asked? -/
def pairB (L : List Acn) : Bool := match L with
  | [x, y] => decide (x.k = 1) && decide (y.k = 2)
  | _ => false
theorem dec_nop {g : Gram} {L : List Acn} {t : Nat} (h : pairB L = false) : decA g L t = (ac0, false) := by
  match L with
  | [] => rfl
  | [_] => rfl
  | [x, y] =>
    unfold pairB at h
    simp only [Bool.and_eq_false_iff, decide_eq_false_iff_not] at h
    show (if _ then bindB (lvl g t) (prd g y.n).L x y else _) = _
    rw [if_neg (fun e => h.elim (fun h => h e.1) (fun h => h e.2))]
  | _ :: _ :: _ :: _ => rfl
theorem dec_ac0 {g : Gram} {L : List Acn} {t : Nat} (h : (decA g L t).2 = false) : (decA g L t).1 = ac0 := by
  cases hp : pairB L with
  | false => rw [dec_nop hp]
  | true =>
    match L, hp with
    | [x, y], hp =>
      unfold pairB at hp
      simp only [Bool.and_eq_true, decide_eq_true_eq] at hp
      have e : decA g [x, y] t = bindB (lvl g t) (prd g y.n).L x y := by
        show (if _ then bindB (lvl g t) (prd g y.n).L x y else _) = _
        rw [if_pos hp]
      rw [e] at h ⊢
      unfold bindB at h ⊢
      split at h
      · rename_i h1; rw [if_pos h1]
      · split at h
        · cases h
        · split at h
          · cases h
          · split at h
            · cases h
            · split at h <;> cases h
/-- One of these alone. -/
def oneL (L : List Acn) : Acn := if L.length = 1 then L.getD 0 ac0 else ac0

attribute [local irreducible] EVX EVO EVL EV1 NEV
attribute [local irreducible] own osl exA rdA rdL
attribute [local irreducible] bldA mapA bun mapS
set_option maxRecDepth 10000
set_option maxHeartbeats 4000000

theorem of21_w (cs : List Value) (g : Gram) : Trip Tryz.prog 16 [.agg cs.toArray] (kGram.rd cs g) []
    (fun v V => ∃ x AA cA acs AG cG bcs AC cC, v = .tuple #[x, .int .i64 (actE g)] ∧ ActV x V (pAct g) (pGot g) (pCla g) (pDec g) AA cA acs AG cG bcs AC cC) := by
  refine trip Tryz.tabOk Tryz.func16 rfl rfl rfl rfl ?_
  rintro w SM hG0
  obtain ⟨A0, A1, A2, A3, A4, c0, c1, c2, c3, c4, rfl, hG⟩ := kGram_open hG0
  repeat' (first | refine e_nil ?_ | ((refine e_op ?_); (first | refine o_n (peval_sound rfl) rfl ?_ | refine o_n (nl rfl rfl tc rfl) rfl ?_ | refine o_box rfl rfl (fun _ => ?_) | refine o_alloc rfl rfl (fun _ => ?_))) | refine s_seq ?_ | refine s_region ?_)
  rename_i bg b2
  refine e_op (o_call (ofR19_w _ g) rfl .nil (Can.ro hG0) rfl ?_)
  rintro v V ⟨x, rfl, AK, cK, kcs, AG, cG, bcs, hl, hb, rfl, rfl⟩
  simp only [List.cons_append, List.nil_append]
  repeat' (first | refine e_nil ?_ | ((refine e_op ?_); (first | refine o_n (peval_sound rfl) rfl ?_ | refine o_storeC rfl rfl rfl rfl tc uc rfl rfl rfl ?_ | refine o_alloc rfl rfl (fun _ => ?_))) | refine s_seq ?_ | refine s_region ?_)
  rename_i b4
  by_cases h0 : lrE g ≠ 0
  · rw [show (lrE g != 0) = true by simpa using h0]
    have ha : actE g = lrE g := by unfold actE; rw [if_pos h0]
    have e1 : pAct g = [] := by unfold pAct; rw [ha, if_neg h0]
    have e2 : pGot g = [] := by unfold pGot; rw [ha, if_neg h0]
    have e3 : pCla g = [] := by unfold pCla; rw [if_neg h0]
    have e4 : pDec g = 0 := by unfold pDec; rw [ha, if_neg h0]
    rw [e1, e2, e3, e4, ha]
    repeat' (first | refine e_nil ?_ | ((refine e_op ?_); (first | refine o_n (peval_sound rfl) rfl ?_ | refine o_storeC rfl rfl rfl rfl tc uc rfl rfl rfl ?_)) | refine s_seq ?_ | refine s_region ?_ | refine s_true rfl ?_)
    refine s_ret ⟨_, _, resc2 rfl rfl rfl TakC.tak (ld_all (n := 4) rfl rfl rfl rfl) rfl, ⟨_, none, 0, [], none, 0, [], none, 0, rfl, ⟨rfl, rfl, rfl, rfl⟩⟩, ent_act0⟩
  replace h0 : lrE g = 0 := Classical.not_not.1 h0
  rw [show (lrE g != 0) = false by simpa using h0]
  repeat' (first | ((refine e_op ?_); (refine o_n (nl rfl rfl tc rfl) rfl ?_)) | refine s_seq ?_ | refine s_region ?_ | refine s_skip ?_ | refine s_false rfl ?_)
  refine e_op (o_call (of20_w _ g) rfl .nil (Can.ro hG0) rfl ?_)
  rintro v V ⟨AW, cW, W, rfl, rfl, hW⟩
  simp only [List.cons_append, List.nil_append]
  rw [h0]
  have hF := goF h0
  have hN := lr_num g
  have hL := hF.lim
  have hwf := hF.wf
  have hT := hL.t
  have hT1 := hwf.t
  have hNo := hL.n
  have hPr := hL.p
  have hK := hF.n
  have hK0 := hF.p0
  have hgk := hF.gk
  repeat' (first | refine e_nil ?_ | ((refine e_op ?_); (first | refine o_n (peval_sound rfl) rfl ?_ | refine o_storeC rfl rfl rfl rfl tc uc rfl rfl rfl ?_ | refine o_alloc rfl rfl (fun _ => ?_))) | refine s_seq ?_ | refine s_region ?_ | refine s_block ?_ | refine s_skip ?_ | refine s_false rfl ?_)
  rename_i b8
  refine s_open (TakA.tak (A := gotS AG (lrGs g).length cG bcs (lrGs g))) (by omega) ?_
  rintro bG rfl
  refine s_loopK (ι := {x : AcSt // x.s ≤ (lrKs g).length ∧ x.acs.length = x.s ∧ x.hcs.length = x.s}) [8, 6, 4, 2, 1] rfl ⟨⟨0, none, 0, [], none, 0, [], none, 0⟩, by simp⟩ (fun x => [(9, .int .i64 x.1.s)])
    (fun x => [blk b8 47 [.slice x.1.AA x.1.s x.1.cA, .slice x.1.AH x.1.s x.1.cH, .slice x.1.AC (claTo g x.1.s 0).length x.1.cC, .int .i64 (decTo g x.1.s 0 : Nat)], actS x.1.AA x.1.s x.1.cA x.1.acs (actM g x.1.s), actB x.1.acs (actM g x.1.s), gotS x.1.AH x.1.s x.1.cH x.1.hcs (gotM g x.1.s), gotB x.1.hcs (gotM g x.1.s), claS x.1.AC (claTo g x.1.s 0).length x.1.cC (claTo g x.1.s 0), W, kerS AK (lrKs g).length cK kcs (lrKs g), kerB kcs (lrKs g), gotS (some ⟨bG, 0, none⟩) (lrGs g).length cG bcs (lrGs g), gotB bcs (lrGs g), blk b4 66 [.slice AK (lrKs g).length cK, .slice (some ⟨bG, 0, none⟩) (lrGs g).length cG], blk b2 47 [.slice none 0 0, .slice none 0 0, .slice none 0 0, .int .i64 0], blk bg 27 [.slice A0 g.Terms.length c0, .slice A1 g.Levels.length c1, .slice A2 g.Pats.length c2, .slice A3 g.Nons.length c3, .slice A4 g.Prods.length c4]]) (fun x => (lrKs g).length - x.1.s) ?_ ?_ ?_
  · repeat' (first | exact Sub.nil _ | refine Sub.cons rfl ?_)
  · have z1 : claTo g 0 0 = [] := rfl
    have z2 : decTo g 0 0 = 0 := rfl
    have z3 : actM g 0 = [] := rfl
    have z4 : gotM g 0 = [] := rfl
    simp only [z1, z2, z3, z4]
    refine Ent.blkC tc rfl (Ent.trans ?_ ent_act1)
    repeat' (first | exact Ent.nil _ | refine Ent.tak tk ?_ | refine Ent.blkC tc rfl ?_)
  rintro ⟨⟨s, AA, cA, acs, AH, cH, hcs, AC, cC⟩, hs, hacs, hhcs⟩
  simp only at hs hacs hhcs ⊢
  repeat' (first | refine e_nil ?_ | ((refine e_op ?_); (first | refine o_n (peval_sound rfl) rfl ?_ | refine o_n (nl rfl rfl tc rfl) rfl ?_)) | refine s_seq ?_ | refine s_region ?_)
  by_cases hlt : s < (lrKs g).length
  · rw [decide_eq_true (p := (s : Int) < ((lrKs g).length : Int)) (by omega)]
    repeat' (first | refine e_nil ?_ | ((refine e_op ?_); (refine o_n (peval_sound rfl) rfl ?_)) | refine s_seq ?_ | refine s_region ?_ | refine s_block ?_ | refine s_skip ?_ | refine s_true rfl ?_)
    refine s_ent (V := osl 53 2 (.slice none 0 0) 0 (encAs (rT g s 0)) :: [blk b8 47 [.slice AA s cA, .slice AH s cH, .slice AC (claTo g s 0).length cC, .int .i64 (decTo g s 0 : Nat)], actS AA s cA acs (actM g s), actB acs (actM g s), gotS AH s cH hcs (gotM g s), gotB hcs (gotM g s), claS AC (claTo g s 0).length cC (claTo g s 0), W, kerS AK (lrKs g).length cK kcs (lrKs g), kerB kcs (lrKs g), gotS (some ⟨bG, 0, none⟩) (lrGs g).length cG bcs (lrGs g), gotB bcs (lrGs g), blk b4 66 [.slice AK (lrKs g).length cK, .slice (some ⟨bG, 0, none⟩) (lrGs g).length cG], blk b2 47 [.slice none 0 0, .slice none 0 0, .slice none 0 0, .int .i64 0], blk bg 27 [.slice A0 g.Terms.length c0, .slice A1 g.Levels.length c1, .slice A2 g.Pats.length c2, .slice A3 g.Nons.length c3, .slice A4 g.Prods.length c4]]) (Ent.osl0 (Ent.refl _)) ?_
    refine s_loopK (ι := {y : Nat × Option Addr × Nat × AcTt // y.1 ≤ g.Terms.length ∧ y.2.2.2.t = y.1}) [9, 8, 6, 4, 2, 1] rfl ⟨⟨0, none, 0, 0, AC, cC⟩, by simp⟩ (fun y => [(11, .int .i64 y.1.1), (10, .slice y.1.2.1 y.1.1 y.1.2.2.1)])
      (fun y => [osl 53 2 (.slice y.1.2.1 y.1.1 y.1.2.2.1) y.1.1 (encAs (rT g s y.1.1)), blk b8 47 [.slice AA s cA, .slice AH s cH, .slice y.1.2.2.2.AC (claTo g s y.1.1).length y.1.2.2.2.cC, .int .i64 (decTo g s y.1.1 : Nat)], actS AA s cA acs (actM g s), actB acs (actM g s), gotS AH s cH hcs (gotM g s), gotB hcs (gotM g s), claS y.1.2.2.2.AC (claTo g s y.1.1).length y.1.2.2.2.cC (claTo g s y.1.1), W, kerS AK (lrKs g).length cK kcs (lrKs g), kerB kcs (lrKs g), gotS (some ⟨bG, 0, none⟩) (lrGs g).length cG bcs (lrGs g), gotB bcs (lrGs g), blk b4 66 [.slice AK (lrKs g).length cK, .slice (some ⟨bG, 0, none⟩) (lrGs g).length cG], blk b2 47 [.slice none 0 0, .slice none 0 0, .slice none 0 0, .int .i64 0], blk bg 27 [.slice A0 g.Terms.length c0, .slice A1 g.Levels.length c1, .slice A2 g.Pats.length c2, .slice A3 g.Nons.length c3, .slice A4 g.Prods.length c4]]) (fun y => g.Terms.length - y.1.1) ?_ (Ent.refl _) ?_
    · repeat' (first | exact Sub.nil _ | refine Sub.cons rfl ?_)
    rintro ⟨⟨t, AR, cR, ⟨t2, AC, cC⟩⟩, ht, htt⟩
    simp only at ht htt ⊢
    subst htt
    repeat' (first | refine e_nil ?_ | ((refine e_op ?_); (first | refine o_n (peval_sound rfl) rfl ?_ | refine o_n (nl rfl rfl tc rfl) rfl ?_)) | refine s_seq ?_ | refine s_region ?_)
    by_cases htl : t2 < g.Terms.length
    · rw [decide_eq_true (p := (t2 : Int) < (g.Terms.length : Int)) (by omega)]
      have hcl := claTo_le g s t2
      have hdl := decTo_le g s t2
      have hbd : s * g.Terms.length + t2 ≤ 512 * 48 + 48 := by
        have := Nat.mul_le_mul (show s ≤ 512 by omega) hT; omega
      repeat' (first | ((refine e_op ?_); (first | refine o_n (peval_sound rfl) rfl ?_ | refine o_n (nl rfl rfl tc rfl) rfl ?_)) | refine s_seq ?_ | refine s_region ?_ | refine s_block ?_ | refine s_skip ?_ | refine s_true rfl ?_)
      refine e_op (o_call (told21_w _ _ AW cW g h0 s t2 hlt htl) rfl .nil (Can.and (Can.and (Can.ro hG0) (can_lr hl hb hN (Ent.tak tk (Ent.tak tk (Ent.tak tk (Ent.tak tk (Ent.refl _))))))) (can_W2 (TakA.tak (A := W)) hW)) rfl ?_)
      rintro v V ⟨At, ct, rfl, rfl⟩
      simp only [List.cons_append, List.nil_append]
      have htp := told_prod g s t2
      have hcs' := claTo_succ g s t2
      have hds' := decTo_succ g s t2
      have hac : actC g s t2 = actL g (told g s t2) t2 := rfl
      have hcb : claB g s t2 = claL g (told g s t2) t2 := rfl
      have hdb : decB g s t2 = decL g (told g s t2) t2 := rfl
      generalize told g s t2 = L at htp hac hcb hdb ⊢
      repeat' (first | refine e_nil ?_ | ((refine e_op ?_); (first | refine o_n (peval_sound rfl) rfl ?_ | refine o_storeC rfl rfl rfl rfl tc uc rfl rfl rfl ?_ | refine o_alloc rfl rfl (fun _ => ?_))) | refine s_seq ?_ | refine s_region ?_)
      rename_i b13
      refine s_condJ (ι := Unit) (fun _ => [(13, ptrN b13), (12, .slice At L.length ct), (11, .int .i64 t2), (10, .slice AR t2 cR), (9, .int .i64 s), (8, ptrN b8), (6, .slice AW (laX g).length cW), (4, ptrN b4), (2, ptrN b2), (1, ptrN bg)]) (fun _ => [blk b13 53 (encA (oneL L)), osl 53 2 (.slice At L.length ct) L.length (encAs L), osl 53 2 (.slice AR t2 cR) t2 (encAs (rT g s t2)), blk b8 47 [.slice AA s cA, .slice AH s cH, .slice AC (claTo g s t2).length cC, .int .i64 (decTo g s t2 : Nat)], actS AA s cA acs (actM g s), actB acs (actM g s), gotS AH s cH hcs (gotM g s), gotB hcs (gotM g s), claS AC (claTo g s t2).length cC (claTo g s t2), W, kerS AK (lrKs g).length cK kcs (lrKs g), kerB kcs (lrKs g), gotS (some ⟨bG, 0, none⟩) (lrGs g).length cG bcs (lrGs g), gotB bcs (lrGs g), blk b4 66 [.slice AK (lrKs g).length cK, .slice (some ⟨bG, 0, none⟩) (lrGs g).length cG], blk b2 47 [.slice none 0 0, .slice none 0 0, .slice none 0 0, .int .i64 0], blk bg 27 [.slice A0 g.Terms.length c0, .slice A1 g.Levels.length c1, .slice A2 g.Pats.length c2, .slice A3 g.Nons.length c3, .slice A4 g.Prods.length c4]]) rfl (fun h hfin => ?_) (fun h hfin => ?_) ?_
      · have h1 : L.length = 1 := by have h := eq_of_beq h; omega
        obtain ⟨a, rfl⟩ := List.length_eq_one_iff.1 h1
        refine s_open (TakA.tak (A := osl 53 2 (.slice At [a].length ct) [a].length (encAs [a]))) (by simp) ?_
        rintro bt rfl
        repeat' (first | ((refine e_op ?_); (refine o_n (peval_sound rfl) rfl ?_)) | refine s_region ?_)
        refine e_op (o_n (n_index rfl rfl rfl rfl 0 rfl (by simp)) rfl ?_)
        refine e_op (o_n (no rfl rfl to (encAs_load (l := [a]) (i := 0) (by simp))) rfl ?_)
        repeat' (((refine e_op ?_); (refine o_storeC rfl rfl rfl rfl tc uc rfl rfl rfl ?_)))
        refine e_nil ?_
        refine s_weak ?_ ?_ (hfin ())
        · repeat' (first | exact Sub.nil _ | refine Sub.cons rfl ?_)
        · have e1 : oneL [a] = a := rfl
          rw [e1]
          repeat' (first | exact Ent.nil _ | refine Ent.tak tk ?_ | refine Ent.blkC tc rfl ?_)
      · have h1 : L.length ≠ 1 := by have h := ne_of_beq_false h; omega
        have e1 : oneL L = ac0 := by unfold oneL; rw [if_neg h1]
        refine s_skip ?_
        refine s_weak ?_ ?_ (hfin ())
        · repeat' (first | exact Sub.nil _ | refine Sub.cons rfl ?_)
        · rw [e1]
          exact Ent.refl _
      rintro -
      repeat' (first | refine e_nil ?_ | ((refine e_op ?_); (refine o_n (peval_sound rfl) rfl ?_)) | refine s_seq ?_ | refine s_region ?_)
      refine s_condJ (ι := Option Addr × Nat) (fun z => [(13, ptrN b13), (12, .slice At L.length ct), (11, .int .i64 t2), (10, .slice AR t2 cR), (9, .int .i64 s), (8, ptrN b8), (6, .slice AW (laX g).length cW), (4, ptrN b4), (2, ptrN b2), (1, ptrN bg)]) (fun z => [blk b13 53 (encA (actC g s t2)), osl 53 2 (.slice AR t2 cR) t2 (encAs (rT g s t2)), blk b8 47 [.slice AA s cA, .slice AH s cH, .slice z.1 (claTo g s (t2 + 1)).length z.2, .int .i64 (decTo g s (t2 + 1) : Nat)], actS AA s cA acs (actM g s), actB acs (actM g s), gotS AH s cH hcs (gotM g s), gotB hcs (gotM g s), claS z.1 (claTo g s (t2 + 1)).length z.2 (claTo g s (t2 + 1)), W, kerS AK (lrKs g).length cK kcs (lrKs g), kerB kcs (lrKs g), gotS (some ⟨bG, 0, none⟩) (lrGs g).length cG bcs (lrGs g), gotB bcs (lrGs g), blk b4 66 [.slice AK (lrKs g).length cK, .slice (some ⟨bG, 0, none⟩) (lrGs g).length cG], blk b2 47 [.slice none 0 0, .slice none 0 0, .slice none 0 0, .int .i64 0], blk bg 27 [.slice A0 g.Terms.length c0, .slice A1 g.Levels.length c1, .slice A2 g.Pats.length c2, .slice A3 g.Nons.length c3, .slice A4 g.Prods.length c4]]) rfl (fun h hfin => ?_) (fun h hfin => ?_) ?_
      · have h2 : 2 ≤ L.length := by have h := of_decide_eq_true h; omega
        have e1 : oneL L = ac0 := by unfold oneL; rw [if_neg (by omega)]
        rw [e1]
        refine s_seq ?_
        refine s_region ?_
        repeat' (((refine e_op ?_); (refine o_n (peval_sound rfl) rfl ?_)))
        refine e_nil ?_
        refine s_seq ?_
        refine s_join (ι := Unit) (fun _ => [(14, .bool (decA g L t2).2), (13, ptrN b13), (12, .slice At L.length ct), (11, .int .i64 t2), (10, .slice AR t2 cR), (9, .int .i64 s), (8, ptrN b8), (6, .slice AW (laX g).length cW), (4, ptrN b4), (2, ptrN b2), (1, ptrN bg)]) (fun _ => [blk b13 53 (encA (decA g L t2).1), osl 53 2 (.slice At L.length ct) L.length (encAs L), osl 53 2 (.slice AR t2 cR) t2 (encAs (rT g s t2)), blk b8 47 [.slice AA s cA, .slice AH s cH, .slice AC (claTo g s t2).length cC, .int .i64 (decTo g s t2 : Nat)], actS AA s cA acs (actM g s), actB acs (actM g s), gotS AH s cH hcs (gotM g s), gotB hcs (gotM g s), claS AC (claTo g s t2).length cC (claTo g s t2), W, kerS AK (lrKs g).length cK kcs (lrKs g), kerB kcs (lrKs g), gotS (some ⟨bG, 0, none⟩) (lrGs g).length cG bcs (lrGs g), gotB bcs (lrGs g), blk b4 66 [.slice AK (lrKs g).length cK, .slice (some ⟨bG, 0, none⟩) (lrGs g).length cG], blk b2 47 [.slice none 0 0, .slice none 0 0, .slice none 0 0, .int .i64 0], blk bg 27 [.slice A0 g.Terms.length c0, .slice A1 g.Levels.length c1, .slice A2 g.Pats.length c2, .slice A3 g.Nons.length c3, .slice A4 g.Prods.length c4]]) (fun hfin => ?_) ?_
        · repeat' (first | ((refine e_op ?_); (refine o_n (peval_sound rfl) rfl ?_)) | refine s_seq ?_ | refine s_region ?_)
          by_cases hl2 : L.length = 2
          · obtain ⟨x, y, rfl⟩ : ∃ x y, L = [x, y] := by
              match L, hl2 with
              | [x, y], _ => exact ⟨x, y, rfl⟩
            refine e_open (TakA.tak (A := osl 53 2 (.slice At [x, y].length ct) [x, y].length (encAs [x, y]))) (by simp) ?_
            rintro bt rfl
            have hld0 : loadL ⟨.int .i64, 1, 8, [.int .i64 0]⟩ (encAs [x, y]) 0 = some (.int .i64 x.k) := encAs_k (l := [x, y]) (i := 0) (o := 0) (by simp) rfl (s := 1) (b := 8) (z := [.int .i64 0])
            have hld1 : loadL ⟨.int .i64, 1, 8, [.int .i64 0]⟩ (encAs [x, y]) 2 = some (.int .i64 y.k) := encAs_k (l := [x, y]) (i := 1) (o := 2) (by simp) rfl (s := 1) (b := 8) (z := [.int .i64 0])
            rw [show ((([x, y] : List Acn).length : Int) == 2) = true from rfl]
            repeat' (((refine e_yes rfl ?_); (refine o_n (peval_sound rfl) rfl ?_)))
            refine e_yes rfl (o_n (n_index rfl rfl rfl rfl 0 rfl (by simp)) rfl ?_)
            repeat' (((refine e_yes rfl ?_); (refine o_n (peval_sound rfl) rfl ?_)))
            refine e_yes rfl (o_n (no rfl rfl to hld0) rfl ?_)
            repeat' (((first | refine e_op ?_ | refine e_yes rfl ?_); (refine o_n (peval_sound rfl) rfl ?_)))
            by_cases hx : x.k = 1
            · rw [show (x.k == 1) = true by simpa using hx]
              repeat' (((refine e_yes rfl ?_); (refine o_n (peval_sound rfl) rfl ?_)))
              refine e_yes rfl (o_n (n_index rfl rfl rfl rfl 1 rfl (by simp)) rfl ?_)
              repeat' (((refine e_yes rfl ?_); (refine o_n (peval_sound rfl) rfl ?_)))
              refine e_yes rfl (o_n (no rfl rfl to hld1) rfl ?_)
              repeat' (first | refine e_nil ?_ | ((first | refine e_op ?_ | refine e_yes rfl ?_); (refine o_n (peval_sound rfl) rfl ?_)))
              by_cases hy : y.k = 2
              · rw [show (y.k == 2) = true by simpa using hy]
                obtain ⟨k, hk, hyn⟩ := htp y (by simp) hy
                have hdec : decA g [x, y] t2 = bindB (lvl g t2) (prd g y.n).L x y := by
                  show (if _ then bindB (lvl g t2) (prd g y.n).L x y else _) = _
                  rw [if_pos ⟨hx, hy⟩]
                rw [hdec] at hfin
                refine s_true rfl ?_
                skip
                refine s_drawT [8, 12] (TakA.tak (A := blk b13 53 (encA ac0))) Tryz.mixed (by decide +kernel) ?_
                repeat' (((first | refine l_n (peval_sound rfl) rfl ?_ rfl ?_ | refine l_n (nl rfl rfl tc rfl) rfl ?_ rfl ?_); · (repeat' (first | exact Ent.refl _ | refine Ent.wk ?_))))
                refine l_n (n_index rfl rfl rfl rfl 0 rfl (by simp)) rfl (by (repeat' (first | exact Ent.refl _ | refine Ent.wk ?_))) rfl ?_
                refine l_n (no rfl rfl to (encAs_load (l := [x, y]) (i := 0) (by simp))) rfl (by (repeat' (first | exact Ent.refl _ | refine Ent.wk ?_))) rfl ?_
                repeat' (((refine l_n (peval_sound rfl) rfl ?_ rfl ?_); · (repeat' (first | exact Ent.refl _ | refine Ent.wk ?_))))
                refine l_n (n_index rfl rfl rfl rfl 1 rfl (by simp)) rfl (by (repeat' (first | exact Ent.refl _ | refine Ent.wk ?_))) rfl ?_
                refine l_n (no rfl rfl to (encAs_load (l := [x, y]) (i := 1) (by simp))) rfl (by (repeat' (first | exact Ent.refl _ | refine Ent.wk ?_))) rfl ?_
                repeat' (((refine l_n (peval_sound rfl) rfl ?_ rfl ?_); · (repeat' (first | exact Ent.refl _ | refine Ent.wk ?_))))
                refine l_e rfl (o_call (decide21_w _ g hwf.lev x y k hk hyn t2 htl) rfl .nil (Can.ro hG0) rfl ?_)
                rintro v V ⟨rfl, rfl⟩
                refine ⟨(by (repeat' (first | exact Ent.refl _ | refine Ent.wk ?_))), ?_⟩
                simp only [List.nil_append]
                repeat' (((refine l_n (peval_sound rfl) rfl ?_ rfl ?_); · (repeat' (first | exact Ent.refl _ | refine Ent.wk ?_))))
                refine l_e rfl (o_storeC rfl rfl rfl rfl tc uc rfl rfl rfl ⟨(by (repeat' (first | exact Ent.refl _ | refine Ent.wk ?_))), ?_⟩)
                repeat' (first | refine l_nil ?_ | ((refine l_n (peval_sound rfl) rfl ?_ rfl ?_); · (repeat' (first | exact Ent.refl _ | refine Ent.wk ?_))))
                refine s_weak ?_ ?_ (hfin ())
                · repeat' (first | exact Sub.nil _ | refine Sub.cons rfl ?_)
                · repeat' (first | exact Ent.nil _ | refine Ent.tak tk ?_ | refine Ent.blkC tc rfl ?_)
              · rw [show (y.k == 2) = false by simpa using hy]
                have hp : pairB [x, y] = false := by
                  show (decide (x.k = 1) && decide (y.k = 2)) = false
                  rw [decide_eq_false hy, Bool.and_false]
                rw [dec_nop hp] at hfin
                refine s_false rfl ?_
                refine s_skip ?_
                refine s_weak ?_ ?_ (hfin ())
                · repeat' (first | exact Sub.nil _ | refine Sub.cons rfl ?_)
                · exact Ent.refl _
            · rw [show (x.k == 1) = false by simpa using hx]
              have hp : pairB [x, y] = false := by
                show (decide (x.k = 1) && decide (y.k = 2)) = false
                rw [decide_eq_false hx, Bool.false_and]
              rw [dec_nop hp] at hfin
              repeat' (first | ((refine e_op ?_); (refine o_n (peval_sound rfl) rfl ?_)) | refine e_noU rfl rfl rfl ?_)
              refine e_nil ?_
              refine s_false rfl ?_
              refine s_skip ?_
              refine s_weak ?_ ?_ (hfin ())
              · repeat' (first | exact Sub.nil _ | refine Sub.cons rfl ?_)
              · exact Ent.refl _
          · have hp : pairB L = false := by
              match L with
              | [] => rfl
              | [_] => rfl
              | [x, y] => exact absurd rfl hl2
              | _ :: _ :: _ :: _ => rfl
            rw [dec_nop hp] at hfin
            rw [show ((L.length : Int) == 2) = false by rw [beq_eq_false_iff_ne]; omega]
            repeat' (first | ((refine e_op ?_); (refine o_n (peval_sound rfl) rfl ?_)) | refine e_noU rfl rfl rfl ?_)
            refine e_nil ?_
            refine s_false rfl ?_
            refine s_skip ?_
            refine s_weak ?_ ?_ (hfin ())
            · repeat' (first | exact Sub.nil _ | refine Sub.cons rfl ?_)
            · exact Ent.refl _
        rintro -
        repeat' (first | refine e_nil ?_ | ((refine e_op ?_); (refine o_n (peval_sound rfl) rfl ?_)) | refine s_seq ?_ | refine s_region ?_)
        cases hd : (decA g L t2).2 with
        | false =>
          have ha : actC g s t2 = (decA g L t2).1 := by
            rw [hac]; unfold actL; rw [if_neg (by omega), hd, if_neg (by simp)]
            exact (dec_ac0 hd).symm
          have hc0 : claB g s t2 = true := by rw [hcb]; unfold claL; rw [hd, decide_eq_true (by omega : 2 ≤ L.length)]; rfl
          have hd0 : decB g s t2 = false := by rw [hdb]; unfold decL; rw [hd, Bool.and_false]
          rw [hc0] at hcs'
          rw [hd0] at hds'
          simp only [Bool.false_eq_true, if_false, if_true, Nat.add_zero] at hcs' hds'
          have hln : (claTo g s (t2 + 1)).length = (claTo g s t2).length + 1 := by rw [hcs', List.length_append]; rfl
          have hen : encCs (claTo g s (t2 + 1)) = encCs (claTo g s t2) ++ encCl (s, t2) := by rw [hcs']; unfold encCs; rw [List.flatMap_append]; simp
          repeat' (first | ((refine e_op ?_); (first | refine o_n (peval_sound rfl) rfl ?_ | refine o_n (nl rfl rfl tc rfl) rfl ?_)) | refine s_region ?_ | refine s_false rfl ?_)
          refine e_op (o_lit (ps := [(0, .agg (encCl (s, t2)).toArray)]) (cs := encCl (s, t2)) rfl rfl rfl rfl rfl rfl rfl (fun bl => ?_))
          refine e_op (o_app1 (m := 1) (news := encCl (s, t2)) rfl rfl rfl rfl to uv rfl rfl rfl rfl (by omega) (by simp only; omega) rfl (by decide) (fun ba ca => ?_))
          repeat' (((refine e_op ?_); (first | refine o_n (peval_sound rfl) rfl ?_ | refine o_storeC rfl rfl rfl rfl tc uc rfl rfl rfl ?_)))
          refine e_nil ?_
          refine s_weak ?_ ?_ (hfin (some ⟨ba, 0, none⟩, ca))
          · repeat' (first | exact Sub.nil _ | refine Sub.cons rfl ?_)
          · simp only
            unfold claS
            rw [hln, hen, hds', ha]
            repeat' (first | exact Ent.nil _ | refine Ent.tak tk ?_ | refine Ent.blkC tc rfl ?_)
        | true =>
          have ha : actC g s t2 = (decA g L t2).1 := by rw [hac]; unfold actL; rw [if_neg (by omega), if_pos ⟨by omega, hd⟩]
          have hc0 : claB g s t2 = false := by rw [hcb]; unfold claL; rw [hd]; simp
          have hd0 : decB g s t2 = true := by rw [hdb]; unfold decL; rw [hd, decide_eq_true (by omega : 2 ≤ L.length)]; rfl
          rw [hc0] at hcs'
          rw [hd0] at hds'
          simp only [Bool.false_eq_true, if_false, if_true] at hcs' hds'
          have hwd : IntKind.i64.wrap (((decTo g s t2 : Nat) : Int) + 1) = ((decTo g s t2 + 1 : Nat) : Int) := by rw [wrap_i64] <;> omega
          refine s_true rfl ?_
          refine s_region ?_
          repeat' (((refine e_op ?_); (first | refine o_n (peval_sound rfl) rfl ?_ | refine o_n (nl rfl rfl tc rfl) rfl ?_ | refine o_storeC rfl rfl rfl rfl tc uc rfl rfl rfl ?_)))
          rw [hwd]
          skip
          refine e_nil ?_
          refine s_weak ?_ ?_ (hfin (AC, cC))
          · repeat' (first | exact Sub.nil _ | refine Sub.cons rfl ?_)
          · simp only
            rw [hcs', hds', ha]
            repeat' (first | exact Ent.nil _ | refine Ent.tak tk ?_ | refine Ent.blkC tc rfl ?_)
      · have h2 : L.length ≤ 1 := by have h := of_decide_eq_false h; omega
        have ha : oneL L = actC g s t2 := by
          rw [hac]; unfold actL oneL
          split
          · rfl
          · rw [if_neg (by omega)]
        have hc0 : claB g s t2 = false := by rw [hcb]; unfold claL; rw [decide_eq_false (by omega)]; rfl
        have hd0 : decB g s t2 = false := by rw [hdb]; unfold decL; rw [decide_eq_false (by omega)]; rfl
        rw [hc0] at hcs'
        rw [hd0] at hds'
        simp only [Bool.false_eq_true, if_false, Nat.add_zero] at hcs' hds'
        rw [hcs', hds'] at hfin
        refine s_skip ?_
        refine s_weak ?_ ?_ (hfin (AC, cC))
        · repeat' (first | exact Sub.nil _ | refine Sub.cons rfl ?_)
        · rw [ha]
          repeat' (first | exact Ent.nil _ | refine Ent.tak tk ?_)
      rintro ⟨AC, cC⟩
      simp only
      repeat' (first | ((refine e_op ?_); (first | refine o_n (peval_sound rfl) rfl ?_ | refine o_n (nl rfl rfl tc rfl) rfl ?_)) | refine s_region ?_)
      refine e_op (o_lit (ps := [(0, .agg (encA (actC g s t2)).toArray)]) (cs := encA (actC g s t2)) rfl rfl rfl rfl rfl rfl rfl (fun bl => ?_))
      refine e_op (o_app1 (m := 1) (news := encA (actC g s t2)) rfl rfl rfl rfl to uv rfl rfl rfl rfl (by omega) (by simp only; omega) rfl (by decide) (fun ba ca => ?_))
      repeat' (first | refine e_nil ?_ | ((refine e_op ?_); (refine o_n (peval_sound rfl) rfl ?_)) | refine s_region ?_ | refine s_end ?_)
      refine s_back ⟨⟨(t2 + 1, some ⟨ba, 0, none⟩, ca, ⟨t2 + 1, AC, cC⟩), by simp only; omega, rfl⟩, by simp only; omega, ?_, ?_⟩
      · repeat' (first | exact Sub.nil _ | refine Sub.cons rfl ?_ | refine Sub.consE rfl ?_ ?_)
        exact inc (i := t2) (by omega)
      · simp only
        rw [rT_succ]
        repeat' (first | exact Ent.nil _ | refine Ent.tak tk ?_)
    rw [decide_eq_false (p := (t2 : Int) < (g.Terms.length : Int)) (by omega)]
    obtain rfl : t2 = g.Terms.length := by omega
    have hsG : s < (lrGs g).length := by omega
    have hrow := hF.row s hsG
    have hrl : (actRow g s).length = g.Terms.length := rT_len g s g.Terms.length
    have hgl := gotM_len (g := g) (s := s) (by omega)
    have hdl : ((lrGs g)[s].drop g.Terms.length).length = (lrGs g)[s].length - g.Terms.length := List.length_drop
    rw [rT_full]
    repeat' (first | ((refine e_op ?_); (first | refine o_n (peval_sound rfl) rfl ?_ | refine o_n (nl rfl rfl tc rfl) rfl ?_)) | refine s_seq ?_ | refine s_region ?_ | refine s_exit ?_ | refine s_false rfl ?_ | refine x_hit ?_ | refine x_code ?_ | refine x_back ?_)
    refine e_op (o_lit (ps := [(0, .slice AR g.Terms.length cR)]) (cs := [.slice AR g.Terms.length cR]) rfl rfl rfl rfl rfl rfl rfl (fun bl => ?_))
    refine e_op (o_app1 (m := 1) (news := [.slice AR g.Terms.length cR]) rfl rfl rfl rfl to uv rfl rfl rfl rfl (by omega) (by simp only; omega) rfl (by decide) (fun ba ca => ?_))
    repeat' (first | refine e_nil ?_ | ((refine e_op ?_); (first | refine o_n (peval_sound rfl) rfl ?_ | refine o_storeC rfl rfl rfl rfl tc uc rfl rfl rfl ?_)))
    refine s_P Tryz.mixed (by decide +kernel) ?_
    refine p_barU 13 ?_
    refine q_n 0 rfl (peval_sound rfl) (by decide +kernel) (by decide +kernel) (Ent.refl _) rfl ?_
    refine q_n 1 rfl (nl rfl rfl tc rfl) (by decide +kernel) (by decide +kernel) (Ent.refl _) rfl ?_
    refine q_n 2 rfl (peval_sound rfl) (by decide +kernel) (by decide +kernel) (Ent.refl _) rfl ?_
    refine q_n 3 rfl (nl rfl rfl tc rfl) (by decide +kernel) (by decide +kernel) (Ent.refl _) rfl ?_
    refine q_n 4 rfl (peval_sound rfl) (by decide +kernel) (by decide +kernel) (Ent.refl _) rfl ?_
    refine q_n 5 rfl (n_index rfl rfl rfl rfl s rfl hsG) (by decide +kernel) (by decide +kernel) (Ent.refl _) rfl ?_
    refine q_n 6 rfl (no rfl rfl to (rowC_load hb hsG)) (by decide +kernel) (by decide +kernel) (Ent.refl _) rfl ?_
    refine q_n 7 rfl (peval_sound rfl) (by decide +kernel) (by decide +kernel) (Ent.refl _) rfl ?_
    refine q_n 8 rfl (nl rfl rfl tc rfl) (by decide +kernel) (by decide +kernel) (Ent.refl _) rfl ?_
    refine q_n 9 rfl (peval_sound rfl) (by decide +kernel) (by decide +kernel) (Ent.refl _) rfl ?_
    refine q_n 10 rfl (n_fromV g.Terms.length rfl rfl rfl rfl rfl (by omega)) (by decide +kernel) (by decide +kernel) (Ent.refl _) rfl ?_
    refine q_1 11 (by decide +kernel) rfl rfl rfl (o_copyO (k := kint) (bytes := 8) (xs := (lrGs g)[s].drop g.Terms.length) (fun x => [.int .i64 x]) kint_is onec_int rfl rfl rfl rfl hdl.symm (can_drop (TakA.tak (A := gotB bcs (lrGs g))) hb hsG (gotM_rng h0 hsG) (by omega) g.Terms.length) rfl rfl (by omega) rfl rfl rfl (fun Ah ch => ⟨Ent.wk (Ent.refl _), ?_⟩))
    rw [flat_intZ]
    refine q_1 12 (by decide +kernel) rfl rfl rfl (o_lit (ps := [(0, .slice Ah ((lrGs g)[s].length - g.Terms.length) ch)]) (cs := [.slice Ah ((lrGs g)[s].length - g.Terms.length) ch]) rfl rfl rfl rfl rfl rfl rfl (fun bl2 => ⟨Ent.wk (Ent.wk (Ent.refl _)), ?_⟩))
    refine q_z 13 (by decide +kernel) rfl rfl (o_app1 (m := 1) (news := [.slice Ah ((lrGs g)[s].length - g.Terms.length) ch]) rfl rfl rfl rfl to uv rfl rfl rfl rfl (by omega) (by simp only; omega) rfl (by decide) (fun bh cb => ?_))
    refine p_barU 15 ?_
    refine q_n 14 rfl (peval_sound rfl) (by decide +kernel) (by decide +kernel) (Ent.refl _) rfl ?_
    refine q_z 15 (by decide +kernel) rfl rfl (o_storeC rfl rfl rfl rfl tc uc rfl rfl rfl ?_)
    refine p_done (by decide +kernel) ?_
    repeat' (first | refine e_nil ?_ | ((refine e_op ?_); (refine o_n (peval_sound rfl) rfl ?_)) | refine s_region ?_ | refine s_end ?_)
    refine s_back ⟨⟨⟨s + 1, some ⟨ba, 0, none⟩, ca, acs ++ [(AR, cR)], some ⟨bh, 0, none⟩, cb, hcs ++ [(Ah, ch)], AC, cC⟩, by simp only; omega, by simp [hacs], by simp [hhcs]⟩, by simp only; omega, ?_, ?_⟩
    · repeat' (first | exact Sub.nil _ | refine Sub.cons rfl ?_ | refine Sub.consE rfl ?_ ?_)
      exact inc (i := s) (by omega)
    · simp only
      have e51 : osl 53 2 (.slice AR g.Terms.length cR) g.Terms.length (encAs (actRow g s)) = rowA encAs 2 53 (AR, cR) (actRow g s) := by unfold rowA; simp only [hrl]
      have e3 : osl 3 kint.sz (.slice Ah ((lrGs g)[s].length - g.Terms.length) ch) ((lrGs g)[s].length - g.Terms.length) (((lrGs g)[s].drop g.Terms.length).map (Value.int .i64)) = rowA (fun l : List Int => l.map (Value.int .i64)) 1 3 (Ah, ch) ((lrGs g)[s].drop g.Terms.length) := by unfold rowA; simp only [hdl]; rfl
      have r1 : rowC (acs ++ [(AR, cR)]) (actM g s ++ [actRow g s]) = rowC acs (actM g s) ++ [.slice AR g.Terms.length cR] := by rw [Go.Proofs.YtcnpjhaedjncdaaGreatDoor.E.rowC_snoc (by rw [actM_len]; exact hacs), hrl]
      have r2 : rowC (hcs ++ [(Ah, ch)]) (gotM g s ++ [(lrGs g)[s].drop g.Terms.length]) = rowC hcs (gotM g s) ++ [.slice Ah ((lrGs g)[s].length - g.Terms.length) ch] := by rw [Go.Proofs.YtcnpjhaedjncdaaGreatDoor.E.rowC_snoc (by rw [hgl]; exact hhcs), hdl]
      unfold actS gotS
      rw [actM_succ, gotM_succ hsG, r1, r2, claTo_next, decTo_next, e51, e3]
      refine Ent.blkC tc rfl (Ent.tak tk (Ent.snocB ta ta (by rw [actM_len]; exact hacs) (Ent.tak tk (Ent.snocB ta ta (by rw [hgl]; exact hhcs) ?_))))
      repeat' (first | exact Ent.nil _ | refine Ent.tak tk ?_)
  rw [decide_eq_false (p := (s : Int) < ((lrKs g).length : Int)) (by omega)]
  obtain rfl : s = (lrKs g).length := by omega
  repeat' (first | refine e_nil ?_ | ((refine e_op ?_); (first | refine o_n (peval_sound rfl) rfl ?_ | refine o_n (nl rfl rfl tc rfl) rfl ?_)) | refine s_seq ?_ | refine s_region ?_ | refine s_exit ?_ | refine s_false rfl ?_ | refine x_hit ?_ | refine x_code ?_ | refine x_back ?_)
  have hca : claTo g (lrKs g).length 0 = claA g := rfl
  have hda : decTo g (lrKs g).length 0 = decN g := rfl
  have hma : actM g (lrKs g).length = actA g := rfl
  have hga : gotM g (lrKs g).length = gotA g := gotM_all (by omega)
  rw [hca, hda, hma, hga]
  have hpc : pCla g = claA g := by unfold pCla; rw [if_pos h0]
  have hal2 : (actA g).length = (lrKs g).length := actM_len g _
  have hgl2 : (gotA g).length = (lrKs g).length := by rw [← hga]; exact gotM_len (by omega)
  by_cases hcl : claA g = []
  · have hE : actE g = 0 := by unfold actE; rw [if_neg (by rw [h0]; simp), if_neg (by rw [hcl]; simp)]
    have e1 : pAct g = actA g := by unfold pAct; rw [if_pos hE]
    have e2 : pGot g = gotA g := by unfold pGot; rw [if_pos hE]
    have e4 : pDec g = decN g := by unfold pDec; rw [if_pos hE]
    rw [e1, e2, e4, hpc, hE]
    rw [show decide (((claA g).length : Int) > 0) = false by rw [hcl]; rfl]
    repeat' (first | refine e_nil ?_ | ((refine e_op ?_); (first | refine o_n (peval_sound rfl) rfl ?_ | refine o_n (nl rfl rfl tc rfl) rfl ?_ | refine o_storeC rfl rfl rfl rfl tc uc rfl rfl rfl ?_)) | refine s_seq ?_ | refine s_region ?_ | refine s_skip ?_ | refine s_false rfl ?_)
    refine s_ret ⟨_, _, resc2 rfl rfl rfl TakC.tak (ld_all (n := 4) rfl rfl rfl rfl) rfl, ⟨_, AA, cA, acs, AH, cH, hcs, AC, cC, rfl, ⟨by rw [hal2]; exact hacs, by rw [hgl2]; exact hhcs, by rw [hal2, hgl2]; rfl, rfl⟩⟩, ?_⟩
    rw [hal2, hgl2]
    repeat' (first | exact Ent.nil _ | refine Ent.tak tk ?_)
  · have hE : actE g = 210 := by unfold actE; rw [if_neg (by rw [h0]; simp), if_pos hcl]
    have e1 : pAct g = [] := by unfold pAct; rw [hE, if_neg (by decide)]
    have e2 : pGot g = [] := by unfold pGot; rw [hE, if_neg (by decide)]
    have e4 : pDec g = 0 := by unfold pDec; rw [hE, if_neg (by decide)]
    have hlp := List.length_pos_iff.2 hcl
    rw [e1, e2, e4, hpc, hE]
    rw [show decide (((claA g).length : Int) > 0) = true by rw [decide_eq_true_eq]; omega]
    repeat' (first | refine e_nil ?_ | ((refine e_op ?_); (first | refine o_n (peval_sound rfl) rfl ?_ | refine o_n (nl rfl rfl tc rfl) rfl ?_ | refine o_storeC rfl rfl rfl rfl tc uc rfl rfl rfl ?_)) | refine s_seq ?_ | refine s_region ?_ | refine s_true rfl ?_)
    refine s_ret ⟨_, _, resc2 rfl rfl rfl TakC.tak (ld_all (n := 4) rfl rfl rfl rfl) rfl, ⟨_, none, 0, [], none, 0, [], AC, cC, rfl, ⟨rfl, rfl, rfl, rfl⟩⟩, ?_⟩
    refine Ent.trans ?_ (ent_act2 (U := [claS AC (claA g).length cC (claA g)]))
    repeat' (first | exact Ent.nil _ | refine Ent.tak tk ?_)

end Go.Proofs.YtcnpjhaedjncdaaGreatDoor

namespace Go.Proofs.YtcnpjhaedjncdaaGreatDoor
set_option linter.all false
open Go.Proofs.YtcnpjhaedjncdaaGreatDoor.E

def cRow (st : Stt) (g : Gram) (s k : Nat) : Bits := if (⟨s, ⟨k, (prd g k).Right.length⟩⟩ : Plc) ∈ st.ks then (getB st.ks st.bs ⟨s, ⟨k, (prd g k).Right.length⟩⟩).take g.Terms.length else []
def cTold (st : Stt) (GS : List (List Int)) (g : Gram) (s t : Nat) : List Acn :=
  (if 0 ≤ (GS.getD s []).getD t (-1) then [⟨1, (GS.getD s []).getD t (-1)⟩] else []) ++ ((List.range g.Prods.length).filter fun k => (cRow st g s k).getD t false).map redA
def cCla (st : Stt) (GS : List (List Int)) (g : Gram) (S : Nat) : List (Nat × Nat) := (cellsTo g.Terms.length S 0).filter fun c => claL g (cTold st GS g c.1 c.2) c.2
def cDec (st : Stt) (GS : List (List Int)) (g : Gram) (S : Nat) : Nat := (cellsTo g.Terms.length S 0).countP fun c => decL g (cTold st GS g c.1 c.2) c.2
theorem told_c {g : Gram} {n : Nat} (h : laFin g = laN g n) (s t : Nat) : told g s t = cTold (laN g n) (lrGs g) g s t := by
  unfold told toldN redsN lab laRow
  rw [h]; rfl
theorem claA_c {g : Gram} {n S : Nat} (h : laFin g = laN g n) (hS : (lrKs g).length = S) : claA g = cCla (laN g n) (lrGs g) g S := by
  unfold claA claTo cCla claB
  simp only [told_c h, hS]
theorem decN_c {g : Gram} {n S : Nat} (h : laFin g = laN g n) (hS : (lrKs g).length = S) : decN g = cDec (laN g n) (lrGs g) g S := by
  unfold decN decTo cDec decB
  simp only [told_c h, hS]
theorem actC_c {g : Gram} {n : Nat} (h : laFin g = laN g n) (s t : Nat) : actC g s t = actL g (cTold (laN g n) (lrGs g) g s t) t := by
  unfold actC; rw [told_c h]

abbrev emP (l : Int) (r : List Int) : Prd := ⟨l, r, zL⟩
/-- The chapter's grammar, with a level. -/
def gS (x : Lev) : Gram := ⟨List.replicate 3 emS, [zL, zL, x], [], List.replicate 2 emS, [emP 0 [4], ⟨1, [4, 2, 4], x⟩, emP 1 [1]]⟩
end Go.Proofs.YtcnpjhaedjncdaaGreatDoor

namespace Go.Proofs.YtcnpjhaedjncdaaGreatDoor
set_option linter.all false
open Go.Proofs.YtcnpjhaedjncdaaGreatDoor.E

theorem actE_210 {g : Gram} (h : lrE g = 0) (hc : claA g ≠ []) : actE g = 210 := by unfold actE; rw [if_neg (by rw [h]; simp), if_pos hc]
theorem actE_0 {g : Gram} (h : lrE g = 0) (hc : claA g = []) : actE g = 0 := by unfold actE; rw [if_neg (by rw [h]; simp), if_neg (by rw [hc]; simp)]
theorem s0_lrE : lrE (gS zL) = 0 := by decide +kernel
theorem s0_len : (lrKs (gS zL)).length = 5 := by decide +kernel
theorem s0_gs : lrGs (gS zL) = [[-1, 1, -1, -1, 2], [-1, -1, -1, -1, -1], [-1, -1, 3, -1, -1], [-1, 1, -1, -1, 4], [-1, -1, 3, -1, -1]] := by decide +kernel
theorem s0_fin : laFin (gS zL) = laN (gS zL) 15 := laFin_eq (td_nil (by unfold laN; rw [s0_gs]; decide +kernel))
theorem s0_cla : claA (gS zL) = [(4, 2)] := by rw [claA_c s0_fin s0_len]; unfold laN; rw [s0_gs]; decide +kernel
theorem s0_e : actE (gS zL) = 210 := actE_210 s0_lrE (by rw [s0_cla]; simp)
theorem s1_lrE : lrE (gS ⟨1, 1⟩) = 0 := by decide +kernel
theorem s1_len : (lrKs (gS ⟨1, 1⟩)).length = 5 := by decide +kernel
theorem s1_gs : lrGs (gS ⟨1, 1⟩) = [[-1, 1, -1, -1, 2], [-1, -1, -1, -1, -1], [-1, -1, 3, -1, -1], [-1, 1, -1, -1, 4], [-1, -1, 3, -1, -1]] := by decide +kernel
theorem s1_fin : laFin (gS ⟨1, 1⟩) = laN (gS ⟨1, 1⟩) 15 := laFin_eq (td_nil (by unfold laN; rw [s1_gs]; decide +kernel))
theorem s1_cla : claA (gS ⟨1, 1⟩) = [] := by rw [claA_c s1_fin s1_len]; unfold laN; rw [s1_gs]; decide +kernel
theorem s1_dec : decN (gS ⟨1, 1⟩) = 1 := by rw [decN_c s1_fin s1_len]; unfold laN; rw [s1_gs]; decide +kernel
theorem s1_e : actE (gS ⟨1, 1⟩) = 0 := actE_0 s1_lrE s1_cla
theorem s2_lrE : lrE (gS ⟨1, 2⟩) = 0 := by decide +kernel
theorem s2_len : (lrKs (gS ⟨1, 2⟩)).length = 5 := by decide +kernel
theorem s2_gs : lrGs (gS ⟨1, 2⟩) = [[-1, 1, -1, -1, 2], [-1, -1, -1, -1, -1], [-1, -1, 3, -1, -1], [-1, 1, -1, -1, 4], [-1, -1, 3, -1, -1]] := by decide +kernel
theorem s2_fin : laFin (gS ⟨1, 2⟩) = laN (gS ⟨1, 2⟩) 15 := laFin_eq (td_nil (by unfold laN; rw [s2_gs]; decide +kernel))
theorem s2_cla : claA (gS ⟨1, 2⟩) = [] := by rw [claA_c s2_fin s2_len]; unfold laN; rw [s2_gs]; decide +kernel
theorem s2_dec : decN (gS ⟨1, 2⟩) = 1 := by rw [decN_c s2_fin s2_len]; unfold laN; rw [s2_gs]; decide +kernel
theorem s2_e : actE (gS ⟨1, 2⟩) = 0 := actE_0 s2_lrE s2_cla
theorem s3_lrE : lrE (gS ⟨1, 3⟩) = 0 := by decide +kernel
theorem s3_len : (lrKs (gS ⟨1, 3⟩)).length = 5 := by decide +kernel
theorem s3_gs : lrGs (gS ⟨1, 3⟩) = [[-1, 1, -1, -1, 2], [-1, -1, -1, -1, -1], [-1, -1, 3, -1, -1], [-1, 1, -1, -1, 4], [-1, -1, 3, -1, -1]] := by decide +kernel
theorem s3_fin : laFin (gS ⟨1, 3⟩) = laN (gS ⟨1, 3⟩) 15 := laFin_eq (td_nil (by unfold laN; rw [s3_gs]; decide +kernel))
theorem s3_cla : claA (gS ⟨1, 3⟩) = [] := by rw [claA_c s3_fin s3_len]; unfold laN; rw [s3_gs]; decide +kernel
theorem s3_dec : decN (gS ⟨1, 3⟩) = 1 := by rw [decN_c s3_fin s3_len]; unfold laN; rw [s3_gs]; decide +kernel
theorem s3_e : actE (gS ⟨1, 3⟩) = 0 := actE_0 s3_lrE s3_cla
theorem s1_42 : actC (gS ⟨1, 1⟩) 4 2 = ⟨2, 1⟩ := by rw [actC_c s1_fin]; unfold laN; rw [s1_gs]; decide +kernel
theorem s2_42 : actC (gS ⟨1, 2⟩) 4 2 = ⟨1, 3⟩ := by rw [actC_c s2_fin]; unfold laN; rw [s2_gs]; decide +kernel
theorem s3_42 : actC (gS ⟨1, 3⟩) 4 2 = ac0 := by rw [actC_c s3_fin]; unfold laN; rw [s3_gs]; decide +kernel

end Go.Proofs.YtcnpjhaedjncdaaGreatDoor

namespace Go.Proofs.YtcnpjhaedjncdaaGreatDoor
set_option linter.all false
open Go.Proofs.YtcnpjhaedjncdaaGreatDoor.E
attribute [local irreducible] EVX EVO EVL EV1 NEV
set_option maxRecDepth 10000
set_option maxHeartbeats 1000000

theorem flat_lev : Flat kLev := flat_iso (flat_pair flat_int flat_int)
theorem onec_lev : OneC kLev := onec_iso (onec_pair onec_int onec_int)
theorem flat_pt : Flat kPt := flat_iso (flat_pair flat_int flat_str)
theorem onec_pt : OneC kPt := onec_iso (onec_pair onec_int onec_str)

theorem copy_w (cs : List Value) (g : Gram) : Trip Tryz.prog 9 [.agg cs.toArray] (kGram.rd cs g) [] 
    (fun v V => ∃ (a0 a1 a2 a3 a4 : Option Addr) (d0 d1 d2 d3 d4 : Nat), v = .agg #[.slice a0 g.Terms.length d0, .slice a1 g.Levels.length d1, .slice a2 g.Pats.length d2, .slice a3 g.Nons.length d3, .slice a4 g.Prods.length d4] ∧
      V = [rdA kGram [.slice a0 g.Terms.length d0, .slice a1 g.Levels.length d1, .slice a2 g.Pats.length d2, .slice a3 g.Nons.length d3, .slice a4 g.Prods.length d4] g]) := by
  refine trip Tryz.tabOk Tryz.func9 rfl rfl rfl rfl ?_
  intro w SM hR
  obtain ⟨A0, A1, A2, A3, A4, c0, c1, c2, c3, c4, rfl, hG⟩ := kGram_open hR
  have hT := hG.terms.2.1
  have hL := hG.levels.2.1
  have hPt := hG.pats.2.1
  have hN := hG.nons.2.1
  have hP := hG.prods.2.1
  have hT' := sl_mk hG.terms
  have hL' := sl_mk hG.levels
  have hPt' := sl_mk hG.pats
  have hN' := sl_mk hG.nons
  repeat' (first | refine e_nil ?_ | ((refine e_op ?_); (first | refine o_box rfl rfl (fun _ => ?_) | refine o_alloc rfl rfl (fun _ => ?_))) | refine s_seq ?_ | refine s_region ?_)
  rename_i b1 b2
  refine s_anyU Tryz.mixed ?_
  refine a_join (ι := Nat × (Option Addr × Nat) × (Option Addr × Nat) × (Option Addr × Nat) × (Option Addr × Nat))
    (fun x => [(1, .pointer (some ⟨b1, 0, none⟩)), (2, .pointer (some ⟨b2, 0, none⟩)), (3, .pointer (some ⟨x.1, 0, none⟩))])
    (fun x => [blk x.1 27 [.slice x.2.1.1 g.Terms.length x.2.1.2, .slice x.2.2.1.1 g.Levels.length x.2.2.1.2, .slice x.2.2.2.1.1 g.Pats.length x.2.2.2.1.2, .slice x.2.2.2.2.1 g.Nons.length x.2.2.2.2.2, .slice none 0 0],
      blk b2 27 [.slice none 0 0, .slice none 0 0, .slice none 0 0, .slice none 0 0, .slice none 0 0],
      blk b1 27 [.slice A0 g.Terms.length c0, .slice A1 g.Levels.length c1, .slice A2 g.Pats.length c2, .slice A3 g.Nons.length c3, .slice A4 g.Prods.length c4],
      rdA (kslice 16 kstr) [.slice x.2.1.1 g.Terms.length x.2.1.2] g.Terms, rdA (kslice 16 kLev) [.slice x.2.2.1.1 g.Levels.length x.2.2.1.2] g.Levels,
      rdA (kslice 24 kPt) [.slice x.2.2.2.1.1 g.Pats.length x.2.2.2.1.2] g.Pats, rdA (kslice 16 kstr) [.slice x.2.2.2.2.1 g.Nons.length x.2.2.2.2.2] g.Nons]) ?_ (fun hfin => ?_)
  · rintro ⟨b3, ⟨a0, d0⟩, ⟨a1, d1⟩, ⟨a2, d2⟩, a3, d3⟩
    simp only
    repeat' (first | refine e_nil ?_ | ((refine e_op ?_); (refine o_n (peval_sound rfl) rfl ?_)) | refine s_seq ?_ | refine s_region ?_ | refine s_block ?_)
    have ent0 : ∀ {W : List Asn}, Ent W (rdL kPrd [] [] :: W) := ent_nilL
    refine s_loopK (ι := {x : Nat × Option Addr × Nat × List (List Value) // x.1 ≤ g.Prods.length}) [1, 2, 3] rfl ⟨(0, none, 0, []), by simp⟩ (fun x => [(4, .int .i64 x.1.1)])
      (fun x => [blk b3 27 [.slice a0 g.Terms.length d0, .slice a1 g.Levels.length d1, .slice a2 g.Pats.length d2, .slice a3 g.Nons.length d3, .slice x.1.2.1 x.1.1 x.1.2.2.1],
        blk b2 27 [.slice none 0 0, .slice none 0 0, .slice none 0 0, .slice none 0 0, .slice none 0 0],
        blk b1 27 [.slice A0 g.Terms.length c0, .slice A1 g.Levels.length c1, .slice A2 g.Pats.length c2, .slice A3 g.Nons.length c3, .slice A4 g.Prods.length c4],
        osl 61 4 (.slice x.1.2.1 x.1.1 x.1.2.2.1) x.1.1 x.1.2.2.2.flatten, rdL kPrd x.1.2.2.2 (g.Prods.take x.1.1),
        rdA (kslice 16 kstr) [.slice a0 g.Terms.length d0] g.Terms, rdA (kslice 16 kLev) [.slice a1 g.Levels.length d1] g.Levels,
        rdA (kslice 24 kPt) [.slice a2 g.Pats.length d2] g.Pats, rdA (kslice 16 kstr) [.slice a3 g.Nons.length d3] g.Nons])
      (fun x => g.Prods.length - x.1.1) ?_ ?_ ?_
    · repeat' (first | exact Sub.nil _ | refine Sub.cons rfl ?_)
    · exact Ent.tak .z (Ent.tak .z (Ent.tak .z (Ent.osl0 ent0)))
    rintro ⟨⟨i, Ap, cp, ess⟩, hi⟩
    simp only at hi ⊢
    repeat' (first | refine e_nil ?_ | ((refine e_op ?_); (first | refine o_n (peval_sound rfl) rfl ?_ | refine o_n (nl rfl rfl tc rfl) rfl ?_)) | refine s_seq ?_ | refine s_region ?_)
    refine s_cond rfl (fun h => ?_) (fun h => ?_)
    · have hlt : i < g.Prods.length := by have := of_decide_eq_true h; omega
      clear h
      obtain ⟨b, o, es, rfl, hb, he, hc⟩ := hG.prods.2.2 i hlt
      obtain ⟨Ar, cr, rfl, hl, hlN, hlK, hri⟩ := kPrd_open he
      have hrl := hri.2.1
      repeat' (first | ((refine e_op ?_); (first | refine o_n (peval_sound rfl) rfl ?_ | refine o_n (nl rfl rfl tc rfl) rfl ?_)) | refine s_seq ?_ | refine s_region ?_ | refine s_block ?_ | refine s_skip ?_)
      refine e_op (o_n (n_index rfl rfl rfl rfl i rfl hlt) rfl ?_)
      refine e_op (o_n (n_load_ro rfl rfl hb (loads_agg rfl rfl hc)) rfl ?_)
      repeat' (first | refine e_nil ?_ | ((refine e_op ?_); (first | refine o_n (peval_sound rfl) rfl ?_ | refine o_n (nl rfl rfl tc rfl) rfl ?_ | refine o_storeC rfl rfl rfl rfl tc uc rfl rfl rfl ?_ | refine o_alloc rfl rfl (fun _ => ?_))) | refine s_seq ?_ | refine s_region ?_)
      rename_i b5
      refine e_op (o_copy flat_int onec_int rfl rfl rfl rfl rfl (Can.ro (sl_mk hri)) rfl rfl hrl rfl rfl rfl (fun A' c' => ?_))
      repeat' (first | refine e_nil ?_ | ((refine e_op ?_); (first | refine o_n (peval_sound rfl) rfl ?_ | refine o_n (nl rfl rfl tc rfl) rfl ?_ | refine o_storeC rfl rfl rfl rfl tc uc rfl rfl rfl ?_)) | refine s_region ?_)
      refine e_op (o_lit (ps := [(0, .agg #[.int .i64 g.Prods[i].Left, .slice A' g.Prods[i].Right.length c', .int .i64 g.Prods[i].L.N, .int .i64 g.Prods[i].L.Kind])])
        (cs := [.int .i64 g.Prods[i].Left, .slice A' g.Prods[i].Right.length c', .int .i64 g.Prods[i].L.N, .int .i64 g.Prods[i].L.Kind]) rfl rfl rfl rfl rfl rfl rfl (fun b9 => ?_))
      refine e_op (o_append (v := .slice Ap i cp) (n := i) (m := 1) (news := [.int .i64 g.Prods[i].Left, .slice A' g.Prods[i].Right.length c', .int .i64 g.Prods[i].L.N, .int .i64 g.Prods[i].L.Kind]) _ rfl rfl rfl rfl (fun w hm j u hu => ?_) rfl ?_ rfl (by omega)
        (by simp only; omega) (by omega) rfl (fun b c => .s (.s (.s (.s (.s (.s .z)))))) (fun ba ca => ?_))
      · obtain ⟨S1, hP, _⟩ := hm.tak Tak.z
        rw [Nat.zero_add]
        exact osl_cells hP j u hu
      · intro u hu
        simp only [List.mem_cons, List.not_mem_nil, or_false] at hu
        rcases hu with rfl | rfl | rfl | rfl <;> rfl
      repeat' (first | refine e_nil ?_ | ((refine e_op ?_); (first | refine o_n (peval_sound rfl) rfl ?_ | refine o_storeC rfl rfl rfl rfl tc uc rfl rfl rfl ?_)) | refine s_region ?_ | refine s_end ?_)
      refine s_back ⟨⟨(i + 1, some ⟨ba, 0, none⟩, ca, ess ++ [[.int .i64 g.Prods[i].Left, .slice A' g.Prods[i].Right.length c', .int .i64 g.Prods[i].L.N, .int .i64 g.Prods[i].L.Kind]]), by simp only; omega⟩, by simp only; omega, ?_, ?_⟩
      · repeat' (first | exact Sub.nil _ | refine Sub.cons rfl ?_ | refine Sub.consE rfl ?_ ?_)
        exact inc (i := i) (by omega)
      · simp only [List.take_succ_eq_append_getElem hlt, List.flatten_append, List.flatten_cons, List.flatten_nil, List.append_nil]
        refine Ent.tak (.s (.s (.s .z))) (Ent.tak (.s (.s (.s .z))) (Ent.tak (.s (.s (.s .z))) (Ent.tak (.s (.s (.s .z))) (Ent.wk ?_))))
        refine Ent.trans (Ent.tak (.s (.s .z)) (Ent.refl _)) ?_
        refine Ent.trans (Ent.cons (Ent.one (C := rdA kPrd [.int .i64 g.Prods[i].Left, .slice A' g.Prods[i].Right.length c', .int .i64 g.Prods[i].L.N, .int .i64 g.Prods[i].L.Kind] g.Prods[i]) fun w S h => ?_)) (ent_snoc.trans (Ent.cons (Ent.wk (Ent.refl _))))
        obtain ⟨A2, c2, e, h2⟩ := h
        cases e
        exact kPrd_mk hl hlN hlK h2
    · have hge : i = g.Prods.length := by have := of_decide_eq_false h; omega
      subst hge
      clear h
      rw [List.take_length]
      repeat' (first | refine e_nil ?_ | ((refine e_op ?_); (first | refine o_n (nl rfl rfl tc rfl) rfl ?_ | refine o_storeC rfl rfl rfl rfl tc uc rfl rfl rfl ?_)) | refine s_seq ?_ | refine s_region ?_ | refine s_exit ?_ | refine x_hit ?_ | refine x_code ?_ | refine x_back ?_)
      refine s_ret ⟨_, _, resc rfl rfl rfl (.s .z) rfl, ⟨_, _, _, _, _, _, _, _, _, _, rfl, rfl⟩, ?_⟩
      refine Ent.wk (Ent.wk (Ent.wk ((ent_slice (bytes := 48) (k := kPrd) rfl hP).trans ?_)))
      refine Ent.trans (Ent.tak (.s (.s (.s (.s .z)))) (Ent.refl _)) (ent_pair.trans ?_)
      refine Ent.trans (Ent.tak (.s (.s (.s .z))) (Ent.refl _)) (ent_pair.trans ?_)
      refine Ent.trans (Ent.tak (.s (.s .z)) (Ent.refl _)) (ent_pair.trans ?_)
      refine Ent.trans (Ent.tak (.s .z) (Ent.refl _)) (ent_pair.trans ?_)
      exact Ent.one fun w S h => h
  · refine a_n 0 rfl (peval_sound rfl) (by decide +kernel) (Ent.refl _) rfl ?_
    refine a_n 1 rfl (n_load rfl rfl (.s .z) rfl) (by decide +kernel) (Ent.refl _) rfl ?_
    refine a_n 3 rfl (peval_sound rfl) (by decide +kernel) (Ent.refl _) rfl ?_
    refine a_n 4 rfl (n_load rfl rfl (.s .z) rfl) (by decide +kernel) (Ent.refl _) rfl ?_
    refine a_n 6 rfl (peval_sound rfl) (by decide +kernel) (Ent.refl _) rfl ?_
    refine a_n 7 rfl (n_load rfl rfl (.s .z) rfl) (by decide +kernel) (Ent.refl _) rfl ?_
    refine a_n 9 rfl (peval_sound rfl) (by decide +kernel) (Ent.refl _) rfl ?_
    refine a_n 10 rfl (n_load rfl rfl (.s .z) rfl) (by decide +kernel) (Ent.refl _) rfl ?_
    refine a_2 2 13 (by decide +kernel) rfl rfl rfl rfl (o_copy flat_str onec_str rfl rfl rfl rfl rfl (Can.ro hT') rfl rfl hT rfl rfl rfl (fun a0 d0 => ⟨(by (repeat' (first | exact Ent.refl _ | refine Ent.wk ?_))), ?_⟩)) (o_alloc rfl rfl (fun b3 => ⟨(by (repeat' (first | exact Ent.refl _ | refine Ent.wk ?_))), ?_⟩))
    · refine a_2 5 13 (by decide +kernel) rfl rfl rfl rfl (o_copy flat_lev onec_lev rfl rfl rfl rfl rfl (Can.ro hL') rfl rfl hL rfl rfl rfl (fun a1 d1 => ⟨(by (repeat' (first | exact Ent.refl _ | refine Ent.wk ?_))), ?_⟩)) (o_alloc rfl rfl (fun b3 => ⟨(by (repeat' (first | exact Ent.refl _ | refine Ent.wk ?_))), ?_⟩))
      · refine a_2 8 13 (by decide +kernel) rfl rfl rfl rfl (o_copy flat_pt onec_pt rfl rfl rfl rfl rfl (Can.ro hPt') rfl rfl hPt rfl rfl rfl (fun a2 d2 => ⟨(by (repeat' (first | exact Ent.refl _ | refine Ent.wk ?_))), ?_⟩)) (o_alloc rfl rfl (fun b3 => ⟨(by (repeat' (first | exact Ent.refl _ | refine Ent.wk ?_))), ?_⟩))
        · refine a_2 11 13 (by decide +kernel) rfl rfl rfl rfl (o_copy flat_str onec_str rfl rfl rfl rfl rfl (Can.ro hN') rfl rfl hN rfl rfl rfl (fun a3 d3 => ⟨(by (repeat' (first | exact Ent.refl _ | refine Ent.wk ?_))), ?_⟩)) (o_alloc rfl rfl (fun b3 => ⟨(by (repeat' (first | exact Ent.refl _ | refine Ent.wk ?_))), ?_⟩))
          · refine a_n 12 rfl (peval_sound rfl) (by decide +kernel) (by (repeat' (first | exact Ent.refl _ | refine Ent.wk ?_))) rfl ?_
            refine a_1 13 (by decide +kernel) rfl rfl (o_alloc rfl rfl (fun b3 => ⟨(by (repeat' (first | exact Ent.refl _ | refine Ent.wk ?_))), ?_⟩))
            refine a_1 14 (by decide +kernel) rfl rfl (o_store rfl rfl rfl rfl rfl rfl rfl .z ⟨(by (repeat' (first | exact Ent.refl _ | refine Ent.wk ?_))), ?_⟩)
            refine a_done (by decide +kernel) (s_weak ?_ ?_ (hfin (b3, (a0, d0), (a1, d1), (a2, d2), (a3, d3))))
            · repeat' (first | exact Sub.nil _ | refine Sub.cons rfl ?_)
            · repeat' (first | exact Ent.nil _ | refine Ent.tak tk ?_ | refine Ent.tak .z ?_)
          · refine a_1 11 (by decide +kernel) rfl rfl (o_copy flat_str onec_str rfl rfl rfl rfl rfl (Can.ro hN') rfl rfl hN rfl rfl rfl (fun a3 d3 => ⟨(by (repeat' (first | exact Ent.refl _ | refine Ent.wk ?_))), ?_⟩))
            refine a_n 12 rfl (peval_sound rfl) (by decide +kernel) (by (repeat' (first | exact Ent.refl _ | refine Ent.wk ?_))) rfl ?_
            refine a_1 14 (by decide +kernel) rfl rfl (o_store rfl rfl rfl rfl rfl rfl rfl (.s .z) ⟨(by (repeat' (first | exact Ent.refl _ | refine Ent.wk ?_))), ?_⟩)
            refine a_done (by decide +kernel) (s_weak ?_ ?_ (hfin (b3, (a0, d0), (a1, d1), (a2, d2), (a3, d3))))
            · repeat' (first | exact Sub.nil _ | refine Sub.cons rfl ?_)
            · repeat' (first | exact Ent.nil _ | refine Ent.tak tk ?_ | refine Ent.tak (.s .z) ?_)
        · refine a_1 8 (by decide +kernel) rfl rfl (o_copy flat_pt onec_pt rfl rfl rfl rfl rfl (Can.ro hPt') rfl rfl hPt rfl rfl rfl (fun a2 d2 => ⟨(by (repeat' (first | exact Ent.refl _ | refine Ent.wk ?_))), ?_⟩))
          refine a_1 11 (by decide +kernel) rfl rfl (o_copy flat_str onec_str rfl rfl rfl rfl rfl (Can.ro hN') rfl rfl hN rfl rfl rfl (fun a3 d3 => ⟨(by (repeat' (first | exact Ent.refl _ | refine Ent.wk ?_))), ?_⟩))
          refine a_n 12 rfl (peval_sound rfl) (by decide +kernel) (by (repeat' (first | exact Ent.refl _ | refine Ent.wk ?_))) rfl ?_
          refine a_1 14 (by decide +kernel) rfl rfl (o_store rfl rfl rfl rfl rfl rfl rfl (.s (.s .z)) ⟨(by (repeat' (first | exact Ent.refl _ | refine Ent.wk ?_))), ?_⟩)
          refine a_done (by decide +kernel) (s_weak ?_ ?_ (hfin (b3, (a0, d0), (a1, d1), (a2, d2), (a3, d3))))
          · repeat' (first | exact Sub.nil _ | refine Sub.cons rfl ?_)
          · repeat' (first | exact Ent.nil _ | refine Ent.tak tk ?_ | refine Ent.tak (.s (.s .z)) ?_)
      · refine a_1 5 (by decide +kernel) rfl rfl (o_copy flat_lev onec_lev rfl rfl rfl rfl rfl (Can.ro hL') rfl rfl hL rfl rfl rfl (fun a1 d1 => ⟨(by (repeat' (first | exact Ent.refl _ | refine Ent.wk ?_))), ?_⟩))
        refine a_1 8 (by decide +kernel) rfl rfl (o_copy flat_pt onec_pt rfl rfl rfl rfl rfl (Can.ro hPt') rfl rfl hPt rfl rfl rfl (fun a2 d2 => ⟨(by (repeat' (first | exact Ent.refl _ | refine Ent.wk ?_))), ?_⟩))
        refine a_1 11 (by decide +kernel) rfl rfl (o_copy flat_str onec_str rfl rfl rfl rfl rfl (Can.ro hN') rfl rfl hN rfl rfl rfl (fun a3 d3 => ⟨(by (repeat' (first | exact Ent.refl _ | refine Ent.wk ?_))), ?_⟩))
        refine a_n 12 rfl (peval_sound rfl) (by decide +kernel) (by (repeat' (first | exact Ent.refl _ | refine Ent.wk ?_))) rfl ?_
        refine a_1 14 (by decide +kernel) rfl rfl (o_store rfl rfl rfl rfl rfl rfl rfl (.s (.s (.s .z))) ⟨(by (repeat' (first | exact Ent.refl _ | refine Ent.wk ?_))), ?_⟩)
        refine a_done (by decide +kernel) (s_weak ?_ ?_ (hfin (b3, (a0, d0), (a1, d1), (a2, d2), (a3, d3))))
        · repeat' (first | exact Sub.nil _ | refine Sub.cons rfl ?_)
        · repeat' (first | exact Ent.nil _ | refine Ent.tak tk ?_ | refine Ent.tak (.s (.s (.s .z))) ?_)
    · refine a_1 2 (by decide +kernel) rfl rfl (o_copy flat_str onec_str rfl rfl rfl rfl rfl (Can.ro hT') rfl rfl hT rfl rfl rfl (fun a0 d0 => ⟨(by (repeat' (first | exact Ent.refl _ | refine Ent.wk ?_))), ?_⟩))
      refine a_1 5 (by decide +kernel) rfl rfl (o_copy flat_lev onec_lev rfl rfl rfl rfl rfl (Can.ro hL') rfl rfl hL rfl rfl rfl (fun a1 d1 => ⟨(by (repeat' (first | exact Ent.refl _ | refine Ent.wk ?_))), ?_⟩))
      refine a_1 8 (by decide +kernel) rfl rfl (o_copy flat_pt onec_pt rfl rfl rfl rfl rfl (Can.ro hPt') rfl rfl hPt rfl rfl rfl (fun a2 d2 => ⟨(by (repeat' (first | exact Ent.refl _ | refine Ent.wk ?_))), ?_⟩))
      refine a_1 11 (by decide +kernel) rfl rfl (o_copy flat_str onec_str rfl rfl rfl rfl rfl (Can.ro hN') rfl rfl hN rfl rfl rfl (fun a3 d3 => ⟨(by (repeat' (first | exact Ent.refl _ | refine Ent.wk ?_))), ?_⟩))
      refine a_n 12 rfl (peval_sound rfl) (by decide +kernel) (by (repeat' (first | exact Ent.refl _ | refine Ent.wk ?_))) rfl ?_
      refine a_1 14 (by decide +kernel) rfl rfl (o_store rfl rfl rfl rfl rfl rfl rfl (.s (.s (.s (.s .z)))) ⟨(by (repeat' (first | exact Ent.refl _ | refine Ent.wk ?_))), ?_⟩)
      refine a_done (by decide +kernel) (s_weak ?_ ?_ (hfin (b3, (a0, d0), (a1, d1), (a2, d2), (a3, d3))))
      · repeat' (first | exact Sub.nil _ | refine Sub.cons rfl ?_)
      · repeat' (first | exact Ent.nil _ | refine Ent.tak tk ?_ | refine Ent.tak (.s (.s (.s (.s .z)))) ?_)


end Go.Proofs.YtcnpjhaedjncdaaGreatDoor

namespace Go.Proofs.YtcnpjhaedjncdaaGreatDoor
set_option linter.all false
open Go.Proofs.YtcnpjhaedjncdaaGreatDoor.E

def encPt (x : Pt) : List Value := [.int .i64 x.Term, .string x.Pattern]
attribute [local irreducible] EVX EVO EVL EV1 NEV
attribute [local irreducible] own osl exA rdA rdL
set_option maxRecDepth 10000
set_option maxHeartbeats 1000000

theorem flat_ints : ∀ l : List Int, (l.flatMap fun x => [Value.int .i64 x]) = l.map (Value.int .i64)
  | [] => rfl
  | x :: l => by rw [List.flatMap_cons, flat_ints l]; rfl
abbrev ogT (a : Option Addr) (d : Nat) (l : List ByteArray) : Asn := osl 9 1 (.slice a l.length d) l.length (l.map Value.string)
abbrev ogL (a : Option Addr) (d : Nat) (l : List Lev) : Asn := osl 59 2 (.slice a l.length d) l.length (l.flatMap encZ)
abbrev ogP (a : Option Addr) (d : Nat) (l : List Pt) : Asn := osl 217 2 (.slice a l.length d) l.length (l.flatMap encPt)
/-- A grammar of one's own. -/
def ownG (g : Gram) (a0 a1 a2 a3 a4 : Option Addr) (d0 d1 d2 d3 d4 : Nat) (acs : List (Option Addr × Nat)) : List Asn :=
  [prS a4 d4 acs g.Prods, ogT a0 d0 g.Terms, ogL a1 d1 g.Levels, ogP a2 d2 g.Pats, ogT a3 d3 g.Nons, prB acs g.Prods]
abbrev gSl (g : Gram) (a0 a1 a2 a3 a4 : Option Addr) (d0 d1 d2 d3 d4 : Nat) : List Value := [.slice a0 g.Terms.length d0, .slice a1 g.Levels.length d1, .slice a2 g.Pats.length d2, .slice a3 g.Nons.length d3, .slice a4 g.Prods.length d4]

/-- Numbers that an int can be; lists that are not too long. -/
structure GrN (g : Gram) : Prop where
  p : ∀ p ∈ g.Prods, I64 p.Left ∧ I64 p.L.N ∧ I64 p.L.Kind ∧ (∀ s ∈ p.Right, I64 s) ∧ p.Right.length ≤ 100000
  l : ∀ l ∈ g.Levels, I64 l.N ∧ I64 l.Kind
  t : ∀ t ∈ g.Pats, I64 t.Term
  nT : g.Terms.length ≤ 1000000
  nL : g.Levels.length ≤ 1000000
  nP : g.Pats.length * 24 ≤ 140737488355328
  nN : g.Nons.length ≤ 1000000
  nR : g.Prods.length ≤ 1000000

theorem own_rd {g : Gram} {a0 a1 a2 a3 a4 : Option Addr} {d0 d1 d2 d3 d4 : Nat} {acs : List (Option Addr × Nat)} (hl : acs.length = g.Prods.length) (hg : GrN g) {w : World} {S : BSet} (h : star (ownG g a0 a1 a2 a3 a4 d0 d1 d2 d3 d4 acs) w S) :
    kGram.R w S (gSl g a0 a1 a2 a3 a4 d0 d1 d2 d3 d4) g := by
  unfold ownG at h
  obtain ⟨_, h0, i0⟩ := star_mem (i := 0) rfl h
  obtain ⟨_, h1, i1⟩ := star_mem (i := 1) rfl h
  obtain ⟨_, h2, i2⟩ := star_mem (i := 2) rfl h
  obtain ⟨_, h3, i3⟩ := star_mem (i := 3) rfl h
  obtain ⟨_, h4, i4⟩ := star_mem (i := 4) rfl h
  obtain ⟨_, h5, i5⟩ := star_mem (i := 5) rfl h
  have nT := hg.nT
  have nL := hg.nL
  have nN := hg.nN
  have nR := hg.nR
  refine kGram_mk ⟨?_, ?_, ?_, ?_, ?_⟩
  · obtain ⟨e, _, e2⟩ := osl_els (k := kstr) Value.string rfl (fun _ _ _ => rfl) h1
    exact ⟨e2, by omega, els_mono i1 e⟩
  · have h2' := h2
    unfold ogL at h2'
    rw [List.flatMap_def] at h2'
    obtain ⟨e, e2⟩ := osl_elsG (kd := kLev) (ess := g.Levels.map encZ) h2' i2 (by simp) rfl (fun i g1 g2 => by
      rw [List.getElem_map]
      have := hg.l _ (List.getElem_mem g2)
      exact ⟨[_], [_], rfl, ⟨rfl, this.1⟩, ⟨rfl, this.2⟩⟩)
    exact ⟨e2, by omega, e⟩
  · have h3' := h3
    unfold ogP at h3'
    rw [List.flatMap_def] at h3'
    obtain ⟨e, e2⟩ := osl_elsG (kd := kPt) (ess := g.Pats.map encPt) h3' i3 (by simp) rfl (fun i g1 g2 => by
      rw [List.getElem_map]
      exact ⟨[_], [_], rfl, ⟨rfl, hg.t _ (List.getElem_mem g2)⟩, rfl⟩)
    exact ⟨e2, hg.nP, e⟩
  · obtain ⟨e, _, e2⟩ := osl_els (k := kstr) Value.string rfl (fun _ _ _ => rfl) h4
    exact ⟨e2, by omega, els_mono i4 e⟩
  · obtain ⟨e, e2⟩ := osl_elsG (kd := kPrd) (ess := List.zipWith prRow acs g.Prods) h0 i0 (by simp [hl]) rfl (fun i g1 g2 => by
      rw [List.getElem_zipWith]
      have hi : i < (g.Prods.map (·.Right)).length := by rw [List.length_map]; exact g2
      have hl2 : acs.length = (g.Prods.map (·.Right)).length := by rw [List.length_map]; exact hl
      obtain ⟨S3, h6, i6⟩ := star_mem (rowX_get (f := fun l : List Int => l.map (Value.int .i64)) (sz := 1) (ei := 3) hl2 hi) h5
      obtain ⟨r3, r4, r5, r2, r1⟩ := hg.p _ (List.getElem_mem g2)
      have hri : (g.Prods.map (·.Right))[i] = g.Prods[i].Right := List.getElem_map _
      rw [hri] at h6
      obtain ⟨A', c', e, k1, k2, k3⟩ := can_to (R := (kslice 8 kint).rd _ _) Tryz.prog (fun E => can_ints .z r2 (by omega)) h6
      simp only [List.cons.injEq, Value.slice.injEq, and_true] at e
      refine kPrd_mk r3 r4 r5 ⟨?_, k2, els_mono (fun b hb => i5 b (i6 b hb)) ?_⟩
      · rw [e.2.2]; exact k1
      · rw [e.1]; exact k3)
    exact ⟨e2, by omega, e⟩
end Go.Proofs.YtcnpjhaedjncdaaGreatDoor

namespace Go.Proofs.YtcnpjhaedjncdaaGreatDoor
set_option linter.all false
open Go.Proofs.YtcnpjhaedjncdaaGreatDoor.E

theorem ent_ownG {U : List Asn} {g : Gram} {a0 a1 a2 a3 a4 : Option Addr} {d0 d1 d2 d3 d4 : Nat} {acs : List (Option Addr × Nat)} (hl : acs.length = g.Prods.length) (hg : GrN g) :
    Ent (ownG g a0 a1 a2 a3 a4 d0 d1 d2 d3 d4 acs ++ U) (rdA kGram (gSl g a0 a1 a2 a3 a4 d0 d1 d2 d3 d4) g :: U) := fun w S hs => by
  obtain ⟨S1, S2, h1, h2, hd, i1, i2⟩ := star_split hs
  exact ⟨S1, S2, own_rd hl hg h1, h2, hd, i1, i2⟩
theorem gs_n (x : Lev) (h1 : I64 x.N) (h2 : I64 x.Kind) : GrN (gS x) := by
  have z : I64 0 := by unfold I64; omega
  refine ⟨fun p hp => ?_, fun l hl => ?_, fun t ht => (nomatch ht), by simp [gS], by simp [gS], by simp [gS], by simp [gS], by simp [gS]⟩
  · simp only [gS, List.mem_cons, List.not_mem_nil, or_false] at hp
    rcases hp with rfl | rfl | rfl
    · exact ⟨by unfold I64; simp only; omega, z, z, fun s hs => by simp only [List.mem_cons, List.not_mem_nil, or_false] at hs; subst hs; unfold I64; omega, by simp⟩
    · exact ⟨by unfold I64; simp only; omega, h1, h2, fun s hs => by simp only [List.mem_cons, List.not_mem_nil, or_false] at hs; rcases hs with rfl | rfl | rfl <;> (unfold I64; omega), by simp⟩
    · exact ⟨by unfold I64; simp only; omega, z, z, fun s hs => by simp only [List.mem_cons, List.not_mem_nil, or_false] at hs; subst hs; unfold I64; omega, by simp⟩
  · simp only [gS, List.mem_cons, List.not_mem_nil, or_false] at hl
    rcases hl with rfl | rfl | rfl
    · exact ⟨z, z⟩
    · exact ⟨z, z⟩
    · exact ⟨h1, h2⟩
def gsA (b3 b5 b7 : Nat) : List (Option Addr × Nat) := [(some ⟨b3, 0, none⟩, 1), (some ⟨b5, 0, none⟩, 3), (some ⟨b7, 0, none⟩, 1)]
def gsM : List Mk := [
  ⟨4, [0], fun l => sl (l.getD 0 0) 3, fun l => [strs (l.getD 0 0) (gS zL).Terms]⟩,
  ⟨5, [1], fun l => sl (l.getD 0 0) 3, fun l => [levZ (l.getD 0 0) (gS zL).Levels]⟩,
  ⟨6, [2], fun l => sl (l.getD 0 0) 2, fun l => [strs (l.getD 0 0) (gS zL).Nons]⟩,
  ⟨7, [3], fun l => sl (l.getD 0 0) 1, fun l => [ints (l.getD 0 0) [4]]⟩,
  ⟨8, [3], fun l => pv 0 (sl (l.getD 0 0) 1), fun _ => []⟩,
  ⟨9, [5], fun l => sl (l.getD 0 0) 3, fun l => [ints (l.getD 0 0) [4, 2, 4]]⟩,
  ⟨10, [5], fun l => pv 1 (sl (l.getD 0 0) 3), fun _ => []⟩,
  ⟨11, [7], fun l => sl (l.getD 0 0) 1, fun l => [ints (l.getD 0 0) [1]]⟩,
  ⟨12, [7], fun l => pv 1 (sl (l.getD 0 0) 1), fun _ => []⟩,
  ⟨13, [9, 3, 5, 7], fun l => sl (l.getD 0 0) 3, fun l => [prS (some ⟨l.getD 0 0, 0, none⟩) 3 (gsA (l.getD 1 0) (l.getD 2 0) (l.getD 3 0)) (gS zL).Prods]⟩,
  ⟨14, [0, 1, 2, 9], fun l => .agg #[sl (l.getD 0 0) 3, sl (l.getD 1 0) 3, .slice none 0 0, sl (l.getD 2 0) 2, sl (l.getD 3 0) 3], fun _ => []⟩,
  ⟨3, [11], fun l => .pointer (some ⟨l.getD 0 0, 0, none⟩), fun l => [blk (l.getD 0 0) 27 [.slice none 0 0, .slice none 0 0, .slice none 0 0, .slice none 0 0, .slice none 0 0]]⟩]
attribute [local irreducible] EVX EVO EVL EV1 NEV
attribute [local irreducible] own osl exA rdA rdL
attribute [local irreducible] bldA mapA bun mapS
set_option maxRecDepth 10000
set_option maxHeartbeats 4000000

theorem p21_w (l : Int) (A : Option Addr) (n c : Nat) : Trip Tryz.prog 51 [.int .i64 l, .slice A n c] Rd.tt [] (fun v V => v = .agg #[.int .i64 l, .slice A n c, .int .i64 0, .int .i64 0] ∧ V = []) := by
  refine trip Tryz.tabOk Tryz.func51 rfl rfl rfl rfl ?_
  intro w SM _
  repeat' (first | refine e_nil ?_ | ((refine e_op ?_); (first | refine o_n (peval_sound rfl) rfl ?_ | refine o_storeC rfl rfl rfl rfl tc uc rfl rfl rfl ?_ | refine o_alloc rfl rfl (fun _ => ?_))) | refine s_seq ?_ | refine s_region ?_)
  exact s_ret ⟨_, _, resc rfl rfl rfl .z rfl, ⟨rfl, rfl⟩, Ent.nil _⟩

theorem few21_w (cs : List Value) (g : Gram) : Trip Tryz.prog 13 [.agg cs.toArray] (kGram.rd cs g) [] (fun v V => v = .bool (decide ((g.Prods.length : Int) ≤ 30)) ∧ V = []) := by
  refine trip Tryz.tabOk Tryz.func13 rfl rfl rfl rfl ?_
  rintro w SM hG0
  obtain ⟨A0, A1, A2, A3, A4, c0, c1, c2, c3, c4, rfl, hG⟩ := kGram_open hG0
  repeat' (first | refine e_nil ?_ | ((refine e_op ?_); (first | refine o_n (peval_sound rfl) rfl ?_ | refine o_n (nl rfl rfl tc rfl) rfl ?_ | refine o_box rfl rfl (fun _ => ?_))) | refine s_seq ?_ | refine s_region ?_)
  exact s_ret ⟨_, _, res1 rfl rfl, ⟨rfl, rfl⟩, Ent.nil _⟩

theorem sums_w (x : Lev) (h1 : I64 x.N) (h2 : I64 x.Kind) : Trip Tryz.prog 30 [.agg #[.int .i64 x.N, .int .i64 x.Kind]] Rd.tt [] (fun v V => ∃ (a0 a1 a2 a3 a4 : Option Addr) (d0 d1 d2 d3 d4 : Nat), v = .agg (gSl (gS x) a0 a1 a2 a3 a4 d0 d1 d2 d3 d4).toArray ∧ V = [rdA kGram (gSl (gS x) a0 a1 a2 a3 a4 d0 d1 d2 d3 d4) (gS x)]) := by
  refine trip Tryz.tabOk Tryz.func30 rfl rfl rfl rfl ?_
  rintro w SM hW
  clear hW
  repeat' (first | refine e_nil ?_ | ((refine e_op ?_); (first | refine o_box rfl rfl (fun _ => ?_) | refine o_alloc rfl rfl (fun _ => ?_))) | refine s_seq ?_ | refine s_region ?_)
  rename_i b1x b2x
  refine s_mk gsM Tryz.mixed (by kernel_rfl) ?_ rfl ?_
  · intro i hi
    match i, hi with
    | 0, _ => exact mk_step [] rfl rfl rfl (by decide +kernel) (fun B U => o_makeS rfl rfl rfl rfl 3 rfl rfl (by decide) (by decide) rfl rfl (fun b => ⟨b, rfl, Ent.refl _⟩))
    | 1, _ => exact mk_step [] rfl rfl rfl (by decide +kernel) (fun B U => o_makeS rfl rfl rfl rfl 3 rfl rfl (by decide) (by decide) rfl rfl (fun b => ⟨b, rfl, Ent.refl _⟩))
    | 2, _ => exact mk_step [] rfl rfl rfl (by decide +kernel) (fun B U => o_makeS rfl rfl rfl rfl 2 rfl rfl (by decide) (by decide) rfl rfl (fun b => ⟨b, rfl, Ent.refl _⟩))
    | 3, _ => exact mk_step [] rfl rfl rfl (by decide +kernel) (fun B U => o_lit rfl rfl rfl rfl rfl rfl rfl (fun b => ⟨b, rfl, Ent.refl _⟩))
    | 4, _ => exact mk_step [3] rfl rfl rfl (by decide +kernel) (fun B U => o_call (p21_w _ _ _ _) rfl .nil Can.tt rfl (by rintro v V ⟨rfl, rfl⟩; exact ⟨0, rfl, Ent.refl _⟩))
    | 5, _ => exact mk_step [] rfl rfl rfl (by decide +kernel) (fun B U => o_lit rfl rfl rfl rfl rfl rfl rfl (fun b => ⟨b, rfl, Ent.refl _⟩))
    | 6, _ => exact mk_step [5] rfl rfl rfl (by decide +kernel) (fun B U => o_call (p21_w _ _ _ _) rfl .nil Can.tt rfl (by rintro v V ⟨rfl, rfl⟩; exact ⟨0, rfl, Ent.refl _⟩))
    | 7, _ => exact mk_step [] rfl rfl rfl (by decide +kernel) (fun B U => o_lit rfl rfl rfl rfl rfl rfl rfl (fun b => ⟨b, rfl, Ent.refl _⟩))
    | 8, _ => exact mk_step [7] rfl rfl rfl (by decide +kernel) (fun B U => o_call (p21_w _ _ _ _) rfl .nil Can.tt rfl (by rintro v V ⟨rfl, rfl⟩; exact ⟨0, rfl, Ent.refl _⟩))
    | 9, _ => exact mk_step [4, 6, 8] rfl rfl rfl (by decide +kernel) (fun B U => o_lit (ps := [(0, pv 0 (sl (B 3) 1)), (1, pv 1 (sl (B 5) 3)), (2, pv 1 (sl (B 7) 1))]) (cs := prC (gsA (B 3) (B 5) (B 7)) (gS zL).Prods) rfl rfl (by kernel_rfl) rfl rfl (by kernel_rfl) rfl (fun b => ⟨b, rfl, Ent.refl _⟩))
    | 10, _ => exact mk_step [0, 1, 2, 9] rfl rfl rfl (by decide +kernel) (fun B U => o_n (peval_sound rfl) rfl ⟨0, rfl, Ent.refl _⟩)
    | 11, _ => exact mk_step [] rfl rfl rfl (by decide +kernel) (fun B U => o_alloc rfl rfl (fun b => ⟨b, rfl, Ent.refl _⟩))
    | n + 12, h => exact absurd h (by simp [gsM])
  · intro B
    refine o_store (b := B 11) (o := 0) (vs := [sl (B 0) 3, sl (B 1) 3, .slice none 0 0, sl (B 2) 2, sl (B 9) 3]) rfl rfl rfl rfl rfl rfl rfl (.s (.s (.s (.s (.s (.s (.s (.z)))))))) ?_
    refine s_weak (fr' := [(3, .pointer (some ⟨B 11, 0, none⟩)), (1, .pointer (some ⟨b1x, 0, none⟩)), (2, .pointer (some ⟨b2x, 0, none⟩))]) (V := [blk (B 11) 27 [sl (B 0) 3, sl (B 1) 3, .slice none 0 0, sl (B 2) 2, sl (B 9) 3], strs (B 0) (gS zL).Terms, levZ (B 1) (gS zL).Levels, strs (B 2) (gS zL).Nons, prS (some ⟨B 9, 0, none⟩) 3 (gsA (B 3) (B 5) (B 7)) (gS zL).Prods, prB (gsA (B 3) (B 5) (B 7)) (gS zL).Prods] ++ [blk b2x 27 [.slice none 0 0, .slice none 0 0, .slice none 0 0, .slice none 0 0, .slice none 0 0], blk b1x 59 [.int .i64 x.N, .int .i64 x.Kind]]) ?_ ?_ ?_
    · repeat' (first | exact Sub.nil _ | refine Sub.cons rfl ?_)
    · refine Ent.tak (.s (.s (.s (.s (.s (.s (.s (.z)))))))) (Ent.cons (Ent.cons (Ent.cons ?_)))
      refine Ent.tak (.s (.s (.s (.z)))) ?_
      exact Ent.trans (Ent.cons (Ent.cons (Ent.cons (Ent.refl _)))) (ent_bun (L := [_, _, _]))
    generalize B 0 = b0, B 1 = b1, B 2 = b2, B 9 = bp, B 11 = bg
    obtain ⟨pacs, hpacs⟩ : ∃ a, a = (gsA (B 3) (B 5) (B 7)) := ⟨_, rfl⟩
    have hlpacs : pacs.length = (gS zL).Prods.length := by rw [hpacs]; rfl
    rw [← hpacs]
    clear hpacs B
    obtain ⟨a, b, c, rfl⟩ : ∃ a b c, pacs = [a, b, c] := by
      match pacs, hlpacs with
      | [a, b, c], _ => exact ⟨a, b, c, rfl⟩
    unfold levZ prS sl
    repeat' (first | ((refine e_op ?_); (first | refine o_n (peval_sound rfl) rfl ?_ | refine o_n (nl rfl rfl tc rfl) rfl ?_)) | refine s_seq ?_ | refine s_region ?_)
    refine e_op (o_n (n_index rfl rfl rfl rfl 2 rfl (by decide)) rfl ?_)
    refine e_op (o_storeO (vs := [.int .i64 x.N, .int .i64 x.Kind]) rfl rfl rfl rfl to uc rfl rfl (by decide) ?_)
    repeat' (first | refine e_nil ?_ | ((refine e_op ?_); (first | refine o_n (peval_sound rfl) rfl ?_ | refine o_n (nl rfl rfl tc rfl) rfl ?_)) | refine s_seq ?_ | refine s_region ?_)
    refine e_op (o_n (n_index rfl rfl rfl rfl 1 rfl (by decide)) rfl ?_)
    repeat' (((refine e_op ?_); (refine o_n (peval_sound rfl) rfl ?_)))
    refine e_op (o_storeO (vs := [.int .i64 x.N, .int .i64 x.Kind]) rfl rfl rfl rfl to uc rfl rfl (by show _ ≤ 12; decide) ?_)
    repeat' (first | refine e_nil ?_ | ((refine e_op ?_); (first | refine o_n (nl rfl rfl tc rfl) rfl ?_ | refine o_storeC rfl rfl rfl rfl tc uc rfl rfl rfl ?_)) | refine s_seq ?_ | refine s_region ?_)
    refine s_ret ⟨_, _, resc rfl rfl rfl TakC.tak rfl, ⟨some ⟨b0, 0, none⟩, some ⟨b1, 0, none⟩, none, some ⟨b2, 0, none⟩, some ⟨bp, 0, none⟩, 3, 3, 0, 2, 3, rfl, rfl⟩, ?_⟩
    refine Ent.trans ?_ (ent_ownG (U := []) (acs := [a, b, c]) rfl (gs_n x h1 h2))
    unfold ownG
    refine Ent.tak (.s (.s (.s (.s .z)))) (Ent.tak (.s .z) (Ent.tak (.s .z) (Ent.osl0 (Ent.tak (.s .z) (Ent.tak (.s .z) (Ent.nil _))))))

/-- What is known of a grammar of sums whose levels decide. -/
structure SumF (g : Gram) : Prop where
  h0 : lrE g = 0
  hE : actE g = 0
  hD : decN g = 1
  hn : (lrKs g).length = 5
  hg : lrGs g = [[-1, 1, -1, -1, 2], [-1, -1, -1, -1, -1], [-1, -1, 3, -1, -1], [-1, 1, -1, -1, 4], [-1, -1, 3, -1, -1]]
theorem sumf1 : SumF (gS ⟨1, 1⟩) := ⟨s1_lrE, s1_e, s1_dec, s1_len, s1_gs⟩
theorem sumf2 : SumF (gS ⟨1, 2⟩) := ⟨s2_lrE, s2_e, s2_dec, s2_len, s2_gs⟩
theorem sumf3 : SumF (gS ⟨1, 3⟩) := ⟨s3_lrE, s3_e, s3_dec, s3_len, s3_gs⟩
theorem actA_get {g : Gram} {s : Nat} (h : s < (actA g).length) : (actA g)[s] = actRow g s := by
  have h2 : s < ((List.range (lrKs g).length).map (actRow g)).length := h
  show ((List.range (lrKs g).length).map (actRow g))[s] = _
  rw [List.getElem_map, List.getElem_range]
theorem actRow_len (g : Gram) (s : Nat) : (actRow g s).length = g.Terms.length := by unfold actRow; simp
theorem actRow_get {g : Gram} {s t : Nat} (h : t < (actRow g s).length) : (actRow g s)[t] = actC g s t := by
  have h2 : t < ((List.range g.Terms.length).map (actC g s)).length := h
  show ((List.range g.Terms.length).map (actC g s))[t] = _
  rw [List.getElem_map, List.getElem_range]
theorem actA_len (g : Gram) : (actA g).length = (lrKs g).length := by unfold actA; simp
def sumS (i : Nat) : Nat := [2, 3, 4].getD i 0

theorem sum_w (k : Int) (hk : I64 k) (hF : SumF (gS ⟨1, k⟩)) : Trip Tryz.prog 31 [.int .i64 k] Rd.tt [] (fun v V => v = .tuple #[.agg (encA (actC (gS ⟨1, k⟩) 4 2)).toArray, .bool true] ∧ V = []) := by
  refine trip Tryz.tabOk Tryz.func31 rfl rfl rfl rfl ?_
  rintro w SM hW
  clear hW
  repeat' (first | refine e_nil ?_ | ((refine e_op ?_); (first | refine o_n (peval_sound rfl) rfl ?_ | refine o_alloc rfl rfl (fun _ => ?_))) | refine s_seq ?_ | refine s_region ?_)
  rename_i b2
  refine e_op (o_call (sums_w ⟨1, k⟩ (by unfold I64; simp only; omega) hk) rfl .nil Can.tt rfl ?_)
  rintro v V ⟨a0, a1, a2, a3, a4, d0, d1, d2, d3, d4, rfl, rfl⟩
  simp only [List.cons_append, List.nil_append]
  generalize hgg : gS ⟨1, k⟩ = g at hF ⊢
  have hT3 : g.Terms.length = 3 := by rw [← hgg]; rfl
  have hP3 : g.Prods.length = 3 := by rw [← hgg]; rfl
  have hNo : g.Nons.length = 2 := by rw [← hgg]; rfl
  clear hgg
  repeat' (first | refine e_nil ?_ | ((refine e_op ?_); (first | refine o_n (nl rfl rfl tc rfl) rfl ?_ | refine o_storeC rfl rfl rfl rfl tc uc rfl rfl rfl ?_ | refine o_alloc rfl rfl (fun _ => ?_))) | refine s_seq ?_ | refine s_region ?_)
  refine e_op (o_callC (actOf_w (gSl g a0 a1 a2 a3 a4 d0 d1 d2 d3 d4) g (fun _ => by omega)) rfl pk (Can.rdA (TakA.tak (A := rdA kGram (gSl g a0 a1 a2 a3 a4 d0 d1 d2 d3 d4) g))) rfl ?_)
  rintro v V ⟨x, AA, cA, acs, AG, cG, bcs, AC, cC, rfl, ⟨la, lg, rfl, rfl⟩⟩
  have e1 : pAct g = actA g := by unfold pAct; rw [if_pos hF.hE]
  have e4 : pDec g = 1 := by unfold pDec; rw [if_pos hF.hE, hF.hD]
  have hAn : (actA g).length = 5 := by rw [actA_len, hF.hn]
  rw [e1] at la
  rw [e1, e4, hF.hE, hAn]
  simp only [List.cons_append, List.nil_append]
  repeat' (first | refine e_nil ?_ | ((refine e_op ?_); (first | refine o_n (peval_sound rfl) rfl ?_ | refine o_n (nl rfl rfl tc rfl) rfl ?_ | refine o_storeC rfl rfl rfl rfl tc uc rfl rfl rfl ?_ | refine o_alloc rfl rfl (fun _ => ?_))) | refine s_seq ?_ | refine s_region ?_)
  refine e_op (o_callC (ofP_w (gSl g a0 a1 a2 a3 a4 d0 d1 d2 d3 d4) g (fun _ => by omega)) rfl pk (Can.rdA (TakA.tak (A := rdA kGram (gSl g a0 a1 a2 a3 a4 d0 d1 d2 d3 d4) g))) rfl ?_)
  rintro v V ⟨x, rfl, AK, cK, kcs, AL, cL, lcs, hl, hb, rfl, rfl⟩
  have hgl : (lrGs g).length = 5 := by rw [hF.hg]; rfl
  rw [hF.h0, hF.hn, hgl]
  simp only [List.cons_append, List.nil_append]
  repeat' (first | refine e_nil ?_ | ((first | refine e_op ?_ | refine e_yes rfl ?_); (first | refine o_n (peval_sound rfl) rfl ?_ | refine o_n (nl rfl rfl tc rfl) rfl ?_ | refine o_storeC rfl rfl rfl rfl tc uc rfl rfl rfl ?_ | refine o_alloc rfl rfl (fun _ => ?_))) | refine s_seq ?_ | refine s_region ?_ | refine s_skip ?_ | refine s_false rfl ?_)
  rename_i b4 b5 b7
  have hGF := goF hF.h0
  have hN2 : ∀ (i : Nat) (h : i < 5), ((lrGs g)[i]'(by omega)).length = 5 := fun i h => by rw [hGF.row i (by omega), hT3, hNo]
  refine e_open (TakA.tak (A := gotS AL 5 cL lcs (lrGs g))) (by decide) ?_
  rintro bL rfl
  refine e_open (TakA.tak (A := actS AA 5 cA acs (actA g))) (by decide) ?_
  rintro bA rfl
  refine e_addrs (TakA.tak (A := gotB lcs (lrGs g))) hb (fun hLA => ?_)
  refine e_addrs (TakA.tak (A := actB acs (actA g))) la (fun hAA => ?_)
  have hLx : ∀ (i : Nat) (h : i < 5), ∃ b, (lcs[i]'(by omega)).1 = some ⟨b, 0, none⟩ := fun i h => hLA i (by omega) (by omega) (by rw [hN2 i h]; decide)
  have hLd : ∀ (i : Nat) (h : i < 5) (b : Nat), (lcs[i]'(by omega)).1 = some ⟨b, 0, none⟩ → ∀ e by_ z, loadL ⟨.slice e, 1, by_, z⟩ (rowC lcs (lrGs g)) (0 + i * 1) = some (.slice (some ⟨b, 0, none⟩) 5 (lcs[i]'(by omega)).2) := fun i h b hb2 e by_ z => by
    have := rowC_load hb (i := i) (by omega) (e := e) (bytes := by_) (z := z)
    rw [hb2, hN2 i h] at this; exact this
  have hv : ∀ (i j : Nat) (h : i < 5) (hj : j < 5), ((lrGs g)[i]'(by omega))[j]'(by rw [hN2 i h]; exact hj) = ((([[-1, 1, -1, -1, 2], [-1, -1, -1, -1, -1], [-1, -1, 3, -1, -1], [-1, 1, -1, -1, 4], [-1, -1, 3, -1, -1]] : List (List Int)).getD i []).getD j 0) := fun i j h hj => by
    have e := hF.hg
    have : ∀ (L : List (List Int)) (M : List (List Int)) (hi : i < L.length) (hj : j < L[i].length), L = M → L[i][j] = (M.getD i []).getD j 0 := fun L M hi hj e => by
      subst e
      rw [List.getD_eq_getElem?_getD (l := L.getD i []), List.getD_eq_getElem?_getD (l := L), List.getElem?_eq_getElem hi, Option.getD_some, List.getElem?_eq_getElem hj]; rfl
    exact this _ _ _ _ e
  have hld : ∀ (i j : Nat) (h : i < 5) (hj : j < 5) (by_ : Nat) (z : List Value), loadL ⟨.int .i64, 1, by_, z⟩ (((lrGs g)[i]'(by omega)).map (Value.int .i64)) (0 + j * 1) = some (.int .i64 ((([[-1, 1, -1, -1, 2], [-1, -1, -1, -1, -1], [-1, -1, 3, -1, -1], [-1, 1, -1, -1, 4], [-1, -1, 3, -1, -1]] : List (List Int)).getD i []).getD j 0)) := fun i j h hj by_ z => by
    refine load_cell rfl ?_
    rw [← hv i j h hj, Nat.zero_add, Nat.mul_one, List.getElem?_map, List.getElem?_eq_getElem (by rw [hN2 i h]; exact hj)]; rfl
  obtain ⟨r0, hr0⟩ := hLx 0 (by decide)
  refine e_op (o_n (n_index rfl rfl rfl rfl 0 rfl (by decide)) rfl ?_)
  refine e_op (o_n (no rfl rfl to (hLd 0 (by decide) r0 hr0 _ _ _)) rfl ?_)
  refine e_op (o_n (n_index rfl rfl rfl rfl 4 rfl (by decide)) rfl ?_)
  refine e_op (o_n (n_load_row (v := .int .i64 2) rfl rfl (TakA.tak (A := gotB lcs (lrGs g))) hb 0 (by omega) hr0 (hld 0 4 (by decide) (by decide) _ _)) rfl ?_)
  repeat' (first | refine e_nil ?_ | ((refine e_op ?_); (refine o_n (peval_sound rfl) rfl ?_)) | refine s_seq ?_ | refine s_region ?_ | refine s_block ?_)
  refine s_loopK (ι := {i : Nat // i ≤ 2}) [2, 5, 7] rfl ⟨0, by omega⟩ (fun i => [(10, .int .i64 i.1), (9, .int .i64 (sumS i.1 : Nat))])
    (fun i => [blk b7 66 [.slice AK 5 cK, .slice (some ⟨bL, 0, none⟩) 5 cL], gotS (some ⟨bL, 0, none⟩) 5 cL lcs (lrGs g), gotB lcs (lrGs g), blk b5 44 [.slice (some ⟨bA, 0, none⟩) 5 cA, .slice AG (pGot g).length cG, .slice AC (pCla g).length cC, .int .i64 (1 : Nat)],
      actS (some ⟨bA, 0, none⟩) 5 cA acs (actA g), actB acs (actA g), blk b2 53 [.int .i64 0, .int .i64 0]]) (fun i => 2 - i.1) ?_ ?_ ?_
  · repeat' (first | exact Sub.nil _ | refine Sub.cons rfl ?_)
  · repeat' (first | exact Ent.nil _ | refine Ent.tak tk ?_ | refine Ent.blkC tc rfl ?_)
  rintro ⟨i, hi⟩
  simp only at hi ⊢
  match i, hi with
  | 0, _ =>
    rw [show sumS 0 = 2 from rfl]
    obtain ⟨r2, hr2⟩ := hLx 2 (by decide)
    repeat' (first | refine e_nil ?_ | ((first | refine e_op ?_ | refine e_yes rfl ?_); (refine o_n (peval_sound rfl) rfl ?_)) | refine s_seq ?_ | refine s_region ?_ | refine s_block ?_ | refine s_skip ?_ | refine s_true rfl ?_)
    refine s_anyU Tryz.mixed ?_
    refine a_n 0 rfl (peval_sound rfl) (by decide +kernel) (by (exact Ent.refl _)) rfl ?_
    refine a_n 1 rfl (nl rfl rfl tc rfl) (by decide +kernel) (by (exact Ent.refl _)) rfl ?_
    refine a_n 2 rfl (peval_sound rfl) (by decide +kernel) (by (exact Ent.refl _)) rfl ?_
    refine a_n 3 rfl (n_index rfl rfl rfl rfl 2 rfl (by decide)) (by decide +kernel) (by (exact Ent.refl _)) rfl ?_
    refine a_n 4 rfl (no rfl rfl to (hLd 2 (by decide) r2 hr2 _ _ _)) (by decide +kernel) (by (exact Ent.refl _)) rfl ?_
    refine a_n 6 rfl (peval_sound rfl) (by decide +kernel) (by (exact Ent.refl _)) rfl ?_
    refine a_1 5 (by decide +kernel) rfl rfl (o_lit (cs := [.int .i64 2, .int .i64 4]) rfl rfl rfl rfl rfl rfl rfl (fun bl => ⟨(by (repeat' (first | exact Ent.refl _ | refine Ent.wk ?_))), ?_⟩))
    refine a_n 7 rfl (n_index rfl rfl rfl rfl 0 rfl (by decide)) (by decide +kernel) (by (repeat' (first | exact Ent.refl _ | refine Ent.wk ?_))) rfl ?_
    refine a_1 8 (by decide +kernel) rfl rfl (o_n (no rfl rfl to rfl) rfl ⟨(by (repeat' (first | exact Ent.refl _ | refine Ent.wk ?_))), ?_⟩)
    refine a_n 9 rfl (n_index rfl rfl rfl rfl 2 rfl (by decide)) (by decide +kernel) (by (repeat' (first | exact Ent.refl _ | refine Ent.wk ?_))) rfl ?_
    refine a_n 10 rfl (n_load_row (v := .int .i64 3) rfl rfl (TakA.tak (A := gotB lcs (lrGs g))) hb 2 (by omega) hr2 (hld 2 2 (by decide) (by decide) _ _)) (by decide +kernel) (by (repeat' (first | exact Ent.refl _ | refine Ent.wk ?_))) rfl ?_
    refine a_n 11 rfl (peval_sound rfl) (by decide +kernel) (by (repeat' (first | exact Ent.refl _ | refine Ent.wk ?_))) rfl ?_
    refine a_done (by decide +kernel) ?_
    repeat' (first | refine e_nil ?_ | ((refine e_op ?_); (refine o_n (peval_sound rfl) rfl ?_)) | refine s_region ?_ | refine s_end ?_)
    refine s_back ⟨⟨1, by omega⟩, by simp only; omega, ?_, ?_⟩
    · repeat' (first | exact Sub.nil _ | refine Sub.cons rfl ?_)
    · repeat' (first | exact Ent.nil _ | refine Ent.tak tk ?_)
  | 1, _ =>
    rw [show sumS 1 = 3 from rfl]
    obtain ⟨r3, hr3⟩ := hLx 3 (by decide)
    repeat' (first | refine e_nil ?_ | ((first | refine e_op ?_ | refine e_yes rfl ?_); (refine o_n (peval_sound rfl) rfl ?_)) | refine s_seq ?_ | refine s_region ?_ | refine s_block ?_ | refine s_skip ?_ | refine s_true rfl ?_)
    refine s_anyU Tryz.mixed ?_
    refine a_n 0 rfl (peval_sound rfl) (by decide +kernel) (by (exact Ent.refl _)) rfl ?_
    refine a_n 1 rfl (nl rfl rfl tc rfl) (by decide +kernel) (by (exact Ent.refl _)) rfl ?_
    refine a_n 2 rfl (peval_sound rfl) (by decide +kernel) (by (exact Ent.refl _)) rfl ?_
    refine a_n 3 rfl (n_index rfl rfl rfl rfl 3 rfl (by decide)) (by decide +kernel) (by (exact Ent.refl _)) rfl ?_
    refine a_n 4 rfl (no rfl rfl to (hLd 3 (by decide) r3 hr3 _ _ _)) (by decide +kernel) (by (exact Ent.refl _)) rfl ?_
    refine a_n 6 rfl (peval_sound rfl) (by decide +kernel) (by (exact Ent.refl _)) rfl ?_
    refine a_1 5 (by decide +kernel) rfl rfl (o_lit (cs := [.int .i64 2, .int .i64 4]) rfl rfl rfl rfl rfl rfl rfl (fun bl => ⟨(by (repeat' (first | exact Ent.refl _ | refine Ent.wk ?_))), ?_⟩))
    refine a_n 7 rfl (n_index rfl rfl rfl rfl 1 rfl (by decide)) (by decide +kernel) (by (repeat' (first | exact Ent.refl _ | refine Ent.wk ?_))) rfl ?_
    refine a_1 8 (by decide +kernel) rfl rfl (o_n (no rfl rfl to rfl) rfl ⟨(by (repeat' (first | exact Ent.refl _ | refine Ent.wk ?_))), ?_⟩)
    refine a_n 9 rfl (n_index rfl rfl rfl rfl 4 rfl (by decide)) (by decide +kernel) (by (repeat' (first | exact Ent.refl _ | refine Ent.wk ?_))) rfl ?_
    refine a_n 10 rfl (n_load_row (v := .int .i64 4) rfl rfl (TakA.tak (A := gotB lcs (lrGs g))) hb 3 (by omega) hr3 (hld 3 4 (by decide) (by decide) _ _)) (by decide +kernel) (by (repeat' (first | exact Ent.refl _ | refine Ent.wk ?_))) rfl ?_
    refine a_n 11 rfl (peval_sound rfl) (by decide +kernel) (by (repeat' (first | exact Ent.refl _ | refine Ent.wk ?_))) rfl ?_
    refine a_done (by decide +kernel) ?_
    repeat' (first | refine e_nil ?_ | ((refine e_op ?_); (refine o_n (peval_sound rfl) rfl ?_)) | refine s_region ?_ | refine s_end ?_)
    refine s_back ⟨⟨2, by omega⟩, by simp only; omega, ?_, ?_⟩
    · repeat' (first | exact Sub.nil _ | refine Sub.cons rfl ?_)
    · repeat' (first | exact Ent.nil _ | refine Ent.tak tk ?_)
  | 2, _ =>
    rw [show sumS 2 = 4 from rfl]
    have hrl : ((actA g)[4]'(by omega)).length = 3 := by rw [actA_get, actRow_len, hT3]
    obtain ⟨ra, hra⟩ := hAA 4 (by omega) (by omega) (by rw [hrl]; decide)
    have hl4 := rowC_load la (i := 4) (by omega) (e := 53) (bytes := 24) (z := [.slice none 0 0])
    rw [hrl, hra] at hl4
    have hv4 : (actA g)[4]'(by omega) = actRow g 4 := actA_get _
    have hl5 : ∀ z, loadL ⟨.struct [(0, 1), (1, 1)], 2, 16, z⟩ (encAs ((actA g)[4]'(by omega))) (0 + 2 * 2) = some (.agg (encA (actC g 4 2)).toArray) := fun z => by
      rw [hv4, encAs_load (by rw [actRow_len, hT3]; decide), actRow_get]
    repeat' (first | refine e_nil ?_ | ((first | refine e_op ?_ | refine e_yes rfl ?_); (first | refine o_n (peval_sound rfl) rfl ?_ | refine o_n (nl rfl rfl tc rfl) rfl ?_)) | refine e_noU rfl rfl rfl ?_ | refine s_seq ?_ | refine s_region ?_ | refine s_exit ?_ | refine s_false rfl ?_ | refine x_hit ?_ | refine x_code ?_ | refine x_back ?_)
    refine e_yes rfl (o_n (n_index rfl rfl rfl rfl 4 rfl (by decide)) rfl ?_)
    refine e_yes rfl (o_n (no rfl rfl to hl4) rfl ?_)
    repeat' (first | refine e_nil ?_ | ((first | refine e_op ?_ | refine e_yes rfl ?_); (first | refine o_n (peval_sound rfl) rfl ?_ | refine o_n (nl rfl rfl tc rfl) rfl ?_)) | refine s_seq ?_ | refine s_region ?_ | refine s_skip ?_ | refine s_false rfl ?_)
    refine e_op (o_n (n_index rfl rfl rfl rfl 4 rfl (by decide)) rfl ?_)
    refine e_op (o_n (no rfl rfl to hl4) rfl ?_)
    refine e_op (o_n (n_index rfl rfl rfl rfl 2 rfl (by decide)) rfl ?_)
    refine e_op (o_n (n_load_row rfl rfl (TakA.tak (A := actB acs (actA g))) la 4 (by omega) hra (hl5 _)) rfl ?_)
    repeat' (first | refine e_nil ?_ | ((refine e_op ?_); (first | refine o_n (peval_sound rfl) rfl ?_ | refine o_storeC rfl rfl rfl rfl tc uc rfl rfl rfl ?_)))
    refine s_ret ⟨_, _, resc2 rfl rfl rfl TakC.tak (ld_all (n := 2) rfl rfl rfl rfl) rfl, ⟨rfl, rfl⟩, Ent.nil _⟩

/-- The chapter's examples. -/
theorem works21_w : Trip Tryz.prog 14 [] Rd.tt [] (fun v V => v = .bool true ∧ V = []) := by
  refine trip Tryz.tabOk Tryz.func14 rfl rfl rfl rfl ?_
  rintro w SM hW
  clear hW
  have z64 : I64 0 := by unfold I64; omega
  repeat' (first | refine e_nil ?_ | ((refine e_op ?_); (refine o_n (peval_sound rfl) rfl ?_)) | refine s_seq ?_ | refine s_region ?_)
  refine e_op (o_call (sums_w zL z64 z64) rfl .nil Can.tt rfl ?_)
  rintro v V ⟨a0, a1, a2, a3, a4, d0, d1, d2, d3, d4, rfl, rfl⟩
  simp only [List.cons_append, List.nil_append]
  refine e_op (o_callC (actOf_w (gSl (gS zL) a0 a1 a2 a3 a4 d0 d1 d2 d3 d4) (gS zL) (fun _ => by decide)) rfl pk (Can.rdA (TakA.tak (A := rdA kGram (gSl (gS zL) a0 a1 a2 a3 a4 d0 d1 d2 d3 d4) (gS zL)))) rfl ?_)
  rintro v V ⟨x, AA, cA, acs, AG, cG, bcs, AC, cC, rfl, ⟨la, lg, rfl, rfl⟩⟩
  have e1 : pAct (gS zL) = [] := by unfold pAct; rw [s0_e]; rfl
  have e2 : pGot (gS zL) = [] := by unfold pGot; rw [s0_e]; rfl
  have e3 : pCla (gS zL) = [(4, 2)] := by unfold pCla; rw [s0_lrE, s0_cla]; rfl
  have e4 : pDec (gS zL) = 0 := by unfold pDec; rw [s0_e]; rfl
  rw [e1, e2, e3, e4, s0_e]
  simp only [List.cons_append, List.nil_append]
  repeat' (first | refine e_nil ?_ | ((refine e_op ?_); (first | refine o_n (peval_sound rfl) rfl ?_ | refine o_storeC rfl rfl rfl rfl tc uc rfl rfl rfl ?_ | refine o_alloc rfl rfl (fun _ => ?_))) | refine s_seq ?_ | refine s_region ?_)
  refine e_op (o_call (sum_w 1 (by unfold I64; omega) sumf1) rfl .nil Can.tt rfl ?_)
  rintro v V ⟨rfl, rfl⟩
  rw [s1_42]
  simp only [List.cons_append, List.nil_append]
  repeat' (first | refine e_nil ?_ | ((refine e_op ?_); (first | refine o_n (peval_sound rfl) rfl ?_ | refine o_storeC rfl rfl rfl rfl tc uc rfl rfl rfl ?_ | refine o_alloc rfl rfl (fun _ => ?_))) | refine s_seq ?_ | refine s_region ?_)
  refine e_op (o_call (sum_w 2 (by unfold I64; omega) sumf2) rfl .nil Can.tt rfl ?_)
  rintro v V ⟨rfl, rfl⟩
  rw [s2_42]
  simp only [List.cons_append, List.nil_append]
  repeat' (first | refine e_nil ?_ | ((refine e_op ?_); (first | refine o_n (peval_sound rfl) rfl ?_ | refine o_storeC rfl rfl rfl rfl tc uc rfl rfl rfl ?_ | refine o_alloc rfl rfl (fun _ => ?_))) | refine s_seq ?_ | refine s_region ?_)
  refine e_op (o_call (sum_w 3 (by unfold I64; omega) sumf3) rfl .nil Can.tt rfl ?_)
  rintro v V ⟨rfl, rfl⟩
  rw [s3_42]
  simp only [List.cons_append, List.nil_append]
  repeat' (first | refine e_nil ?_ | ((first | refine e_op ?_ | refine e_yes rfl ?_); (first | refine o_n (peval_sound rfl) rfl ?_ | refine o_n (nl rfl rfl tc rfl) rfl ?_ | refine o_storeC rfl rfl rfl rfl tc uc rfl rfl rfl ?_ | refine o_alloc rfl rfl (fun _ => ?_))) | refine s_seq ?_ | refine s_region ?_)
  refine e_open (TakA.tak (A := claS AC [(4, 2)].length cC [(4, 2)])) (by decide) ?_
  rintro bC rfl
  refine e_yes rfl (o_n (n_index rfl rfl rfl rfl 0 rfl (by decide)) rfl ?_)
  repeat' (((refine e_yes rfl ?_); (refine o_n (peval_sound rfl) rfl ?_)))
  refine e_yes rfl (o_n (no rfl rfl to rfl) rfl ?_)
  repeat' (((first | refine e_op ?_ | refine e_yes rfl ?_); (first | refine o_n (peval_sound rfl) rfl ?_ | refine o_n (nl rfl rfl tc rfl) rfl ?_)))
  refine e_yes rfl (o_n (n_eql51 (a := ⟨2, 1⟩) (b := ⟨2, 1⟩) rfl rfl) rfl ?_)
  repeat' (((first | refine e_op ?_ | refine e_yes rfl ?_); (first | refine o_n (peval_sound rfl) rfl ?_ | refine o_n (nl rfl rfl tc rfl) rfl ?_)))
  refine e_yes rfl (o_n (n_eql51 (a := ac0) (b := ac0) rfl rfl) rfl ?_)
  repeat' (first | refine e_nil ?_ | ((refine e_op ?_); (refine o_n (peval_sound rfl) rfl ?_)))
  refine s_ret ⟨_, _, res1 rfl rfl, ⟨rfl, rfl⟩, Ent.nil _⟩

end Go.Proofs.YtcnpjhaedjncdaaGreatDoor

namespace Go.Proofs.YtcnpjhaedjncdaaGreatDoor
set_option linter.all false
open Go.Proofs.YtcnpjhaedjncdaaGreatDoor.E

/-- A number, whatever it is. -/
def kiw : Kd Int where
  sz := 1
  R := fun _ _ cs x => cs = [.int .i64 x]
  len := by rintro w S cs x rfl; rfl
  fr := fun _ h => h
  mono := fun _ h => h
def kAct : Kd Acn := kiso (kpair kiw kiw) (fun x => (x.k, x.n))
def kCla : Kd (Nat × Nat) := kiso (kpair kiw kiw) (fun x => ((x.1 : Int), (x.2 : Int)))
abbrev Par := List (List Acn) × List (List Int) × List (Nat × Nat) × Nat
def kPar : Kd Par := kiso (kpair (kslice 24 (kslice 16 kAct)) (kpair (kslice 24 (kslice 8 kiw)) (kpair (kslice 16 kCla) kiw))) (fun x => (x.1, x.2.1, x.2.2.1, ((x.2.2.2 : Nat) : Int)))
theorem kAct_is {w : World} {S : BSet} {cs : List Value} {x : Acn} (h : kAct.R w S cs x) : cs = encA x := by
  obtain ⟨c1, c2, rfl, rfl, rfl⟩ := h; rfl
theorem kCla_is {w : World} {S : BSet} {cs : List Value} {x : Nat × Nat} (h : kCla.R w S cs x) : cs = encCl x := by
  obtain ⟨c1, c2, rfl, rfl, rfl⟩ := h; rfl
/-- Lengths that fit. -/
structure ParN (R : List (List Acn)) (G : List (List Int)) (C : List (Nat × Nat)) : Prop where
  r : R.length ≤ 1000000
  g : G.length ≤ 1000000
  c : C.length ≤ 1000000
  rr : ∀ x ∈ R, x.length ≤ 1000000
  gg : ∀ x ∈ G, x.length ≤ 1000000

theorem par_rd {AA AG AC : Option Addr} {cA cG cC : Nat} {acs bcs : AcL} {R : List (List Acn)} {G : List (List Int)} {C : List (Nat × Nat)} {d : Nat} (la : acs.length = R.length) (lg : bcs.length = G.length) (hN : ParN R G C) {w : World} {S : BSet}
    (h : star [actS AA R.length cA acs R, actB acs R, gotS AG G.length cG bcs G, gotB bcs G, claS AC C.length cC C] w S) : kPar.R w S [.slice AA R.length cA, .slice AG G.length cG, .slice AC C.length cC, .int .i64 d] (R, G, C, d) := by
  obtain ⟨_, h0, i0⟩ := star_mem (i := 0) rfl h
  obtain ⟨_, h1, i1⟩ := star_mem (i := 1) rfl h
  obtain ⟨_, h2, i2⟩ := star_mem (i := 2) rfl h
  obtain ⟨_, h3, i3⟩ := star_mem (i := 3) rfl h
  obtain ⟨_, h4, i4⟩ := star_mem (i := 4) rfl h
  have hr := hN.r
  have hg := hN.g
  have hc := hN.c
  have a1 := els_rows (β := Nat) (kd := kAct) (bi := 16) la rfl h0 i0 h1 i1 (fun i hi S3 hS => by
    have hS2 : (osl 53 kAct.sz (.slice (acs[i]'(la ▸ hi)).1 R[i].length (acs[i]'(la ▸ hi)).2) R[i].length (R[i].map encA).flatten).P w S3 := by
      rw [← List.flatMap_def]; exact hS
    obtain ⟨e, e2⟩ := osl_elsG (kd := kAct) hS2 (fun _ h => h) (by simp) rfl (fun j g1 g2 => by rw [List.getElem_map]; exact ⟨[_], [_], rfl, rfl, rfl⟩)
    exact ⟨_, _, rfl, e2, by have := hN.rr _ (List.getElem_mem hi); omega, e⟩)
  have a2 := els_rows (β := Nat) (kd := kiw) (bi := 8) lg rfl h2 i2 h3 i3 (fun i hi S3 hS => by
    obtain ⟨e, _, e2⟩ := osl_els (k := kiw) (Value.int .i64) rfl (fun _ _ _ => rfl) hS
    exact ⟨_, _, rfl, e2, by have := hN.gg _ (List.getElem_mem hi); omega, e⟩)
  have h4' := h4
  unfold claS encCs at h4'
  rw [List.flatMap_def] at h4'
  obtain ⟨e3, e4⟩ := osl_elsG (kd := kCla) h4' i4 (by simp) rfl (fun j g1 g2 => by rw [List.getElem_map]; exact ⟨[_], [_], rfl, rfl, rfl⟩)
  exact ⟨[_], [_, _, _], rfl, ⟨_, _, rfl, a1.2, by simp only; omega, a1.1⟩, [_], [_, _], rfl, ⟨_, _, rfl, a2.2, by simp only; omega, a2.1⟩, [_], [_], rfl, ⟨_, _, rfl, e4, by simp only; omega, e3⟩, rfl⟩
theorem can_par {E0 : Go.Proofs.YtcnpjhaedjncdaaGreatDoor.E.Env} {U W : List Asn} {AA AG AC : Option Addr} {cA cG cC : Nat} {acs bcs : AcL} {R : List (List Acn)} {G : List (List Int)} {C : List (Nat × Nat)} {d : Nat} (la : acs.length = R.length) (lg : bcs.length = G.length) (hN : ParN R G C)
    (he : Ent U ([actS AA R.length cA acs R, actB acs R, gotS AG G.length cG bcs G, gotB bcs G, claS AC C.length cC C] ++ W)) : Go.Proofs.YtcnpjhaedjncdaaGreatDoor.E.Can E0 U (kPar.rd [.slice AA R.length cA, .slice AG G.length cG, .slice AC C.length cC, .int .i64 d] (R, G, C, d)) := Can.of fun w S hs => by
  obtain ⟨S1, S2, h1, _, _, i1, _⟩ := star_split (he w S hs)
  exact kPar.mono i1 (par_rd la lg hN h1)
theorem kPar_open {w : World} {S : BSet} {cs : List Value} {x : Par} (h : kPar.R w S cs x) : ∃ AA AG AC cA cG cC, cs = [.slice AA x.1.length cA, .slice AG x.2.1.length cG, .slice AC x.2.2.1.length cC, .int .i64 (x.2.2.2 : Nat)] ∧
    Els (kslice 16 kAct) w S AA x.1 ∧ Els (kslice 8 kiw) w S AG x.2.1 ∧ Els kCla w S AC x.2.2.1 ∧ x.1.length * 24 ≤ 140737488355328 ∧ x.2.1.length * 24 ≤ 140737488355328 ∧ x.2.2.1.length * 16 ≤ 140737488355328 := by
  obtain ⟨c1, c2, rfl, ⟨A, c, rfl, h1, h2, h3⟩, c3, c4, rfl, ⟨A', c', rfl, h4, h5, h6⟩, c5, c6, rfl, ⟨A2, c7, rfl, h7, h8, h9⟩, rfl⟩ := h
  exact ⟨A, A', A2, c, c', c7, rfl, h3, h6, h9, h2, h5, h8⟩

theorem actA_len' (g : Gram) : (actA g).length = (lrKs g).length := by unfold actA; simp
theorem pAct_n (g : Gram) : ParN (pAct g) (pGot g) (pCla g) := by
  by_cases h0 : lrE g = 0
  · have hF := goF h0
    have hT := hF.lim.t
    have hNn := hF.lim.n
    have hn := hF.n
    have hg := hF.gk
    have h1 := actA_len' g
    have h2 : (gotA g).length = (lrGs g).length := by unfold gotA; simp
    have h3 := claTo_le g (lrKs g).length 0
    have h4 : (lrKs g).length * g.Terms.length ≤ 512 * 48 := Nat.mul_le_mul hn hT
    have h5 : (claA g).length ≤ 512 * 48 := by have : claA g = claTo g (lrKs g).length 0 := rfl; rw [this]; omega
    have h6 : ∀ x ∈ actA g, x.length ≤ 1000000 := fun x hx => by
      unfold actA at hx
      obtain ⟨s, _, rfl⟩ := List.mem_map.1 hx
      unfold actRow; simp; omega
    have h7 : ∀ x ∈ gotA g, x.length ≤ 1000000 := fun x hx => by
      unfold gotA at hx
      obtain ⟨r, hr, rfl⟩ := List.mem_map.1 hx
      obtain ⟨i, hi, rfl⟩ := List.getElem_of_mem hr
      have := hF.row i hi
      rw [List.length_drop]; omega
    refine ⟨?_, ?_, ?_, ?_, ?_⟩
    · unfold pAct; split
      · omega
      · simp
    · unfold pGot; split
      · omega
      · simp
    · unfold pCla; rw [if_pos h0]; omega
    · unfold pAct; split
      · exact h6
      · simp
    · unfold pGot; split
      · exact h7
      · simp
  · have ha : actE g ≠ 0 := by unfold actE; rw [if_pos h0]; exact h0
    unfold pAct pGot pCla
    rw [if_neg ha, if_neg ha, if_neg h0]
    exact ⟨by simp, by simp, by simp, by simp, by simp⟩

attribute [local irreducible] EVX EVO EVL EV1 NEV
attribute [local irreducible] own osl exA rdA rdL
attribute [local irreducible] bldA mapA bun mapS
set_option maxRecDepth 10000
set_option maxHeartbeats 4000000

theorem sameActs_w (A B : Option Addr) (c d : Nat) (l : List Acn) : Trip Tryz.prog 37 [.slice A l.length c, .slice B l.length d] (((kslice 16 kAct).rd [.slice A l.length c] l).and ((kslice 16 kAct).rd [.slice B l.length d] l)) [] (fun v V => v = .bool true ∧ V = []) := by
  refine trip Tryz.tabOk Tryz.func37 rfl rfl rfl rfl ?_
  rintro w SM ⟨⟨A', c', e1, h1, h2, h3⟩, B', d', e2, h4, h5, h6⟩
  cases e1; cases e2
  repeat' (first | refine e_nil ?_ | ((refine e_op ?_); (refine o_n (peval_sound rfl) rfl ?_)) | refine s_seq ?_ | refine s_region ?_)
  simp only [bne_self_eq_false]
  repeat' (first | refine e_nil ?_ | ((refine e_op ?_); (refine o_n (peval_sound rfl) rfl ?_)) | refine s_seq ?_ | refine s_region ?_ | refine s_block ?_ | refine s_skip ?_ | refine s_false rfl ?_)
  refine s_loopK (ι := {i : Nat // i ≤ l.length}) [0, 1] rfl ⟨0, by omega⟩ (fun i => [(5, .int .i64 i.1)]) (fun _ => []) (fun i => l.length - i.1) ?_ (Ent.refl _) ?_
  · repeat' (first | exact Sub.nil _ | refine Sub.cons rfl ?_)
  rintro ⟨i, hi⟩
  simp only at hi ⊢
  repeat' (first | refine e_nil ?_ | ((refine e_op ?_); (refine o_n (peval_sound rfl) rfl ?_)) | refine s_seq ?_ | refine s_region ?_)
  by_cases hlt : i < l.length
  · rw [decide_eq_true (p := (i : Int) < (l.length : Int)) (by omega)]
    obtain ⟨b1, o1, es1, rfl, hb1, hR1, hc1⟩ := h3 i hlt
    obtain ⟨b2, o2, es2, rfl, hb2, hR2, hc2⟩ := h6 i hlt
    obtain rfl := kAct_is hR1
    obtain rfl := kAct_is hR2
    repeat' (first | refine s_seq ?_ | refine s_block ?_ | refine s_skip ?_ | refine s_true rfl ?_)
    refine s_drawU [] Tryz.mixed (by decide +kernel) ?_
    repeat' (((refine l_n (peval_sound rfl) rfl ?_ rfl ?_); · (exact Ent.refl _)))
    refine l_n (n_index rfl rfl rfl rfl i rfl hlt) rfl (Ent.refl _) rfl ?_
    refine l_n (n_load_ro rfl rfl hb1 (loads_agg rfl rfl hc1)) rfl (Ent.refl _) rfl ?_
    repeat' (((refine l_n (peval_sound rfl) rfl ?_ rfl ?_); · (exact Ent.refl _)))
    refine l_n (n_index rfl rfl rfl rfl i rfl hlt) rfl (Ent.refl _) rfl ?_
    refine l_n (n_load_ro rfl rfl hb2 (loads_agg rfl rfl hc2)) rfl (Ent.refl _) rfl ?_
    refine l_n (n_neq51 (a := l[i]) (b := l[i]) rfl rfl) rfl (Ent.refl _) rfl ?_
    rw [decide_eq_true (rfl : l[i] = l[i])]
    repeat' (refine l_nil ?_)
    repeat' (first | refine e_nil ?_ | ((refine e_op ?_); (refine o_n (peval_sound rfl) rfl ?_)) | refine s_region ?_ | refine s_end ?_ | refine s_skip ?_ | refine s_false rfl ?_)
    refine s_back ⟨⟨i + 1, by omega⟩, by simp only; omega, ?_, Ent.nil _⟩
    repeat' (first | exact Sub.nil _ | refine Sub.cons rfl ?_ | refine Sub.consE rfl ?_ ?_)
    exact inc (i := i) (by omega)
  · rw [decide_eq_false (p := (i : Int) < (l.length : Int)) (by omega)]
    repeat' (first | refine e_nil ?_ | ((refine e_op ?_); (refine o_n (peval_sound rfl) rfl ?_)) | refine s_seq ?_ | refine s_region ?_ | refine s_exit ?_ | refine s_false rfl ?_ | refine x_hit ?_ | refine x_code ?_ | refine x_back ?_)
    refine s_ret ⟨_, _, res1 rfl rfl, ⟨rfl, rfl⟩, Ent.nil _⟩

theorem parser21_w (A B C : Option Addr) (n1 n2 n3 c1 c2 c3 : Nat) (d : Int) : Trip Tryz.prog 18 [.agg #[.slice A n1 c1, .slice B n2 c2, .slice C n3 c3, .int .i64 d]] Rd.tt [] (fun v V => v = .agg #[.slice A n1 c1, .slice B n2 c2, .slice C n3 c3, .int .i64 d] ∧ V = []) := by
  refine trip Tryz.tabOk Tryz.func18 rfl rfl rfl rfl ?_
  intro w SM _
  repeat' (first | refine e_nil ?_ | ((refine e_op ?_); (first | refine o_n (peval_sound rfl) rfl ?_ | refine o_n (nl rfl rfl tc rfl) rfl ?_ | refine o_storeC rfl rfl rfl rfl tc uc rfl rfl rfl ?_ | refine o_box rfl rfl (fun _ => ?_) | refine o_alloc rfl rfl (fun _ => ?_))) | refine s_seq ?_ | refine s_region ?_)
  refine s_ret ⟨_, _, resc rfl rfl rfl TakC.tak rfl, ⟨rfl, rfl⟩, Ent.nil _⟩

theorem same21_w (c1 c2 : List Value) (x : Par) : Trip Tryz.prog 17 [.agg c1.toArray, .agg c2.toArray] ((kPar.rd c1 x).and (kPar.rd c2 x)) [] (fun v V => v = .bool true ∧ V = []) := by
  refine trip Tryz.tabOk Tryz.func17 rfl rfl rfl rfl ?_
  rintro w SM ⟨hx, hy⟩
  obtain ⟨AA, AG, AC, cA, cG, cC, rfl, x1, x2, x3, nA, nG, nC⟩ := kPar_open hx
  obtain ⟨BA, BG, BC, dA, dG, dC, rfl, y1, y2, y3, _, _, _⟩ := kPar_open hy
  repeat' (first | refine e_nil ?_ | ((refine e_op ?_); (first | refine o_n (peval_sound rfl) rfl ?_ | refine o_n (nl rfl rfl tc rfl) rfl ?_ | refine o_box rfl rfl (fun _ => ?_))) | refine s_seq ?_ | refine s_region ?_)
  rename_i ba bb
  simp only [bne_self_eq_false]
  repeat' (((first | refine e_op ?_ | refine e_yes rfl ?_); (first | refine o_n (peval_sound rfl) rfl ?_ | refine o_n (nl rfl rfl tc rfl) rfl ?_)))
  simp only [bne_self_eq_false]
  repeat' (((first | refine e_op ?_ | refine e_yes rfl ?_); (first | refine o_n (peval_sound rfl) rfl ?_ | refine o_n (nl rfl rfl tc rfl) rfl ?_)))
  simp only [bne_self_eq_false]
  repeat' (first | refine e_nil ?_ | ((first | refine e_op ?_ | refine e_yes rfl ?_); (first | refine o_n (peval_sound rfl) rfl ?_ | refine o_n (nl rfl rfl tc rfl) rfl ?_)))
  simp only [bne_self_eq_false]
  repeat' (first | refine e_nil ?_ | ((refine e_op ?_); (refine o_n (peval_sound rfl) rfl ?_)) | refine s_seq ?_ | refine s_region ?_ | refine s_block ?_ | refine s_skip ?_ | refine s_false rfl ?_)
  refine s_loopK (ι := {i : Nat // i ≤ x.1.length}) [2, 3] rfl ⟨0, by omega⟩ (fun i => [(5, .int .i64 i.1)]) (fun _ => [blk bb 47 [.slice BA x.1.length dA, .slice BG x.2.1.length dG, .slice BC x.2.2.1.length dC, .int .i64 (x.2.2.2 : Nat)], blk ba 47 [.slice AA x.1.length cA, .slice AG x.2.1.length cG, .slice AC x.2.2.1.length cC, .int .i64 (x.2.2.2 : Nat)]]) (fun i => x.1.length - i.1) ?_ ?_ ?_
  · repeat' (first | exact Sub.nil _ | refine Sub.cons rfl ?_)
  · repeat' (first | exact Ent.nil _ | refine Ent.tak tk ?_)
  rintro ⟨i, hi⟩
  simp only at hi ⊢
  repeat' (first | refine e_nil ?_ | ((refine e_op ?_); (first | refine o_n (peval_sound rfl) rfl ?_ | refine o_n (nl rfl rfl tc rfl) rfl ?_)) | refine s_seq ?_ | refine s_region ?_)
  by_cases hlt : i < x.1.length
  · rw [decide_eq_true (p := (i : Int) < (x.1.length : Int)) (by omega)]
    obtain ⟨b1, o1, es1, rfl, hb1, hR1, hc1⟩ := x1 i hlt
    obtain ⟨b2, o2, es2, rfl, hb2, hR2, hc2⟩ := y1 i hlt
    have hS1 := hR1
    have hS2 := hR2
    obtain ⟨A1, e1, rfl, _⟩ := hR1
    obtain ⟨A2, e2, rfl, _⟩ := hR2
    repeat' (first | refine s_seq ?_ | refine s_block ?_ | refine s_skip ?_ | refine s_true rfl ?_)
    refine s_drawU [10] Tryz.mixed (by decide +kernel) ?_
    repeat' (((first | refine l_n (peval_sound rfl) rfl ?_ rfl ?_ | refine l_n (nl rfl rfl tc rfl) rfl ?_ rfl ?_); · (exact Ent.refl _)))
    refine l_n (n_index rfl rfl rfl rfl i rfl hlt) rfl (Ent.refl _) rfl ?_
    refine l_n (n_load_ro rfl rfl hb1 (loads_one rfl (hc1 0 _ rfl))) rfl (Ent.refl _) rfl ?_
    repeat' (((first | refine l_n (peval_sound rfl) rfl ?_ rfl ?_ | refine l_n (nl rfl rfl tc rfl) rfl ?_ rfl ?_); · (exact Ent.refl _)))
    refine l_n (n_index rfl rfl rfl rfl i rfl hlt) rfl (Ent.refl _) rfl ?_
    refine l_n (n_load_ro rfl rfl hb2 (loads_one rfl (hc2 0 _ rfl))) rfl (Ent.refl _) rfl ?_
    refine l_e rfl (o_call (sameActs_w _ _ _ _ x.1[i]) rfl .nil (Can.and (Can.ro hS1) (Can.ro hS2)) rfl ?_)
    rintro v V ⟨rfl, rfl⟩
    refine ⟨Ent.refl _, ?_⟩
    simp only [List.nil_append]
    repeat' (first | refine l_nil ?_ | ((refine l_n (peval_sound rfl) rfl ?_ rfl ?_); · (exact Ent.refl _)))
    repeat' (first | refine e_nil ?_ | ((refine e_op ?_); (refine o_n (peval_sound rfl) rfl ?_)) | refine s_region ?_ | refine s_end ?_ | refine s_skip ?_ | refine s_false rfl ?_)
    refine s_back ⟨⟨i + 1, by omega⟩, by simp only; omega, ?_, Ent.refl _⟩
    repeat' (first | exact Sub.nil _ | refine Sub.cons rfl ?_ | refine Sub.consE rfl ?_ ?_)
    exact inc (i := i) (by omega)
  rw [decide_eq_false (p := (i : Int) < (x.1.length : Int)) (by omega)]
  repeat' (first | refine e_nil ?_ | ((refine e_op ?_); (refine o_n (peval_sound rfl) rfl ?_)) | refine s_seq ?_ | refine s_region ?_ | refine s_block ?_ | refine s_exit ?_ | refine s_false rfl ?_ | refine x_hit ?_ | refine x_code ?_ | refine x_back ?_)
  refine s_loopK (ι := {i : Nat // i ≤ x.2.1.length}) [2, 3] rfl ⟨0, by omega⟩ (fun i => [(6, .int .i64 i.1)]) (fun _ => [blk bb 47 [.slice BA x.1.length dA, .slice BG x.2.1.length dG, .slice BC x.2.2.1.length dC, .int .i64 (x.2.2.2 : Nat)], blk ba 47 [.slice AA x.1.length cA, .slice AG x.2.1.length cG, .slice AC x.2.2.1.length cC, .int .i64 (x.2.2.2 : Nat)]]) (fun i => x.2.1.length - i.1) ?_ ?_ ?_
  · repeat' (first | exact Sub.nil _ | refine Sub.cons rfl ?_)
  · repeat' (first | exact Ent.nil _ | refine Ent.tak tk ?_)
  rintro ⟨i, hi⟩
  simp only at hi ⊢
  repeat' (first | refine e_nil ?_ | ((refine e_op ?_); (first | refine o_n (peval_sound rfl) rfl ?_ | refine o_n (nl rfl rfl tc rfl) rfl ?_)) | refine s_seq ?_ | refine s_region ?_)
  by_cases hlt : i < x.2.1.length
  · rw [decide_eq_true (p := (i : Int) < (x.2.1.length : Int)) (by omega)]
    obtain ⟨b1, o1, es1, rfl, hb1, hR1, hc1⟩ := x2 i hlt
    obtain ⟨b2, o2, es2, rfl, hb2, hR2, hc2⟩ := y2 i hlt
    obtain ⟨A1, e1, rfl, q1, q2, q3⟩ := hR1
    obtain ⟨A2, e2, rfl, _, _, q4⟩ := hR2
    repeat' (first | refine s_seq ?_ | refine s_block ?_ | refine s_skip ?_ | refine s_true rfl ?_)
    refine s_drawU [] Tryz.mixed (by decide +kernel) ?_
    repeat' (((first | refine l_n (peval_sound rfl) rfl ?_ rfl ?_ | refine l_n (nl rfl rfl tc rfl) rfl ?_ rfl ?_); · (exact Ent.refl _)))
    refine l_n (n_index rfl rfl rfl rfl i rfl hlt) rfl (Ent.refl _) rfl ?_
    refine l_n (n_load_ro rfl rfl hb1 (loads_one rfl (hc1 0 _ rfl))) rfl (Ent.refl _) rfl ?_
    repeat' (((first | refine l_n (peval_sound rfl) rfl ?_ rfl ?_ | refine l_n (nl rfl rfl tc rfl) rfl ?_ rfl ?_); · (exact Ent.refl _)))
    refine l_n (n_index rfl rfl rfl rfl i rfl hlt) rfl (Ent.refl _) rfl ?_
    refine l_n (n_load_ro rfl rfl hb2 (loads_one rfl (hc2 0 _ rfl))) rfl (Ent.refl _) rfl ?_
    repeat' (first | refine l_nil ?_ | ((refine l_n (peval_sound rfl) rfl ?_ rfl ?_); · (exact Ent.refl _)))
    simp only [bne_self_eq_false]
    repeat' (first | refine e_nil ?_ | ((refine e_op ?_); (refine o_n (peval_sound rfl) rfl ?_)) | refine s_seq ?_ | refine s_region ?_ | refine s_block ?_ | refine s_skip ?_ | refine s_false rfl ?_)
    refine s_loopK (ι := {k : Nat // k ≤ x.2.1[i].length}) [2, 3, 6] rfl ⟨0, by omega⟩ (fun k => [(7, .int .i64 k.1)]) (fun _ => [blk bb 47 [.slice BA x.1.length dA, .slice (some ⟨b2, o2, none⟩) x.2.1.length dG, .slice BC x.2.2.1.length dC, .int .i64 (x.2.2.2 : Nat)], blk ba 47 [.slice AA x.1.length cA, .slice (some ⟨b1, o1, none⟩) x.2.1.length cG, .slice AC x.2.2.1.length cC, .int .i64 (x.2.2.2 : Nat)]]) (fun k => x.2.1[i].length - k.1) ?_ (Ent.refl _) ?_
    · repeat' (first | exact Sub.nil _ | refine Sub.cons rfl ?_)
    rintro ⟨k, hk⟩
    simp only at hk ⊢
    repeat' (first | ((refine e_op ?_); (first | refine o_n (peval_sound rfl) rfl ?_ | refine o_n (nl rfl rfl tc rfl) rfl ?_)) | refine s_seq ?_ | refine s_region ?_)
    refine e_op (o_n (n_index rfl rfl rfl rfl i rfl hlt) rfl ?_)
    refine e_op (o_n (n_load_ro rfl rfl hb1 (loads_one rfl (hc1 0 _ rfl))) rfl ?_)
    repeat' (first | refine e_nil ?_ | ((refine e_op ?_); (refine o_n (peval_sound rfl) rfl ?_)))
    by_cases hkl : k < x.2.1[i].length
    · rw [decide_eq_true (p := (k : Int) < (x.2.1[i].length : Int)) (by omega)]
      obtain ⟨b3, o3, es3, rfl, hb3, rfl, hc3⟩ := q3 k hkl
      obtain ⟨b4, o4, es4, rfl, hb4, rfl, hc4⟩ := q4 k hkl
      repeat' (first | refine s_seq ?_ | refine s_block ?_ | refine s_skip ?_ | refine s_true rfl ?_)
      refine s_drawU [] Tryz.mixed (by decide +kernel) ?_
      repeat' (((first | refine l_n (peval_sound rfl) rfl ?_ rfl ?_ | refine l_n (nl rfl rfl tc rfl) rfl ?_ rfl ?_); · (exact Ent.refl _)))
      refine l_n (n_index rfl rfl rfl rfl i rfl hlt) rfl (Ent.refl _) rfl ?_
      refine l_n (n_load_ro rfl rfl hb1 (loads_one rfl (hc1 0 _ rfl))) rfl (Ent.refl _) rfl ?_
      repeat' (((refine l_n (peval_sound rfl) rfl ?_ rfl ?_); · (exact Ent.refl _)))
      refine l_n (n_index rfl rfl rfl rfl k rfl hkl) rfl (Ent.refl _) rfl ?_
      refine l_n (n_load_ro rfl rfl hb3 (loads_one rfl (hc3 0 _ rfl))) rfl (Ent.refl _) rfl ?_
      repeat' (((first | refine l_n (peval_sound rfl) rfl ?_ rfl ?_ | refine l_n (nl rfl rfl tc rfl) rfl ?_ rfl ?_); · (exact Ent.refl _)))
      refine l_n (n_index rfl rfl rfl rfl i rfl hlt) rfl (Ent.refl _) rfl ?_
      refine l_n (n_load_ro rfl rfl hb2 (loads_one rfl (hc2 0 _ rfl))) rfl (Ent.refl _) rfl ?_
      repeat' (((refine l_n (peval_sound rfl) rfl ?_ rfl ?_); · (exact Ent.refl _)))
      refine l_n (n_index rfl rfl rfl rfl k rfl hkl) rfl (Ent.refl _) rfl ?_
      refine l_n (n_load_ro rfl rfl hb4 (loads_one rfl (hc4 0 _ rfl))) rfl (Ent.refl _) rfl ?_
      repeat' (first | refine l_nil ?_ | ((refine l_n (peval_sound rfl) rfl ?_ rfl ?_); · (exact Ent.refl _)))
      simp only [bne_self_eq_false]
      repeat' (first | refine e_nil ?_ | ((refine e_op ?_); (refine o_n (peval_sound rfl) rfl ?_)) | refine s_region ?_ | refine s_end ?_ | refine s_skip ?_ | refine s_false rfl ?_)
      refine s_back ⟨⟨k + 1, by omega⟩, by simp only; omega, ?_, Ent.refl _⟩
      repeat' (first | exact Sub.nil _ | refine Sub.cons rfl ?_ | refine Sub.consE rfl ?_ ?_)
      exact inc (i := k) (by omega)
    · rw [decide_eq_false (p := (k : Int) < (x.2.1[i].length : Int)) (by omega)]
      repeat' (first | refine e_nil ?_ | ((refine e_op ?_); (refine o_n (peval_sound rfl) rfl ?_)) | refine s_region ?_ | refine s_end ?_ | refine s_exit ?_ | refine s_false rfl ?_ | refine x_hit ?_ | refine x_code ?_ | refine x_back ?_)
      refine s_back ⟨⟨i + 1, by omega⟩, by simp only; omega, ?_, Ent.refl _⟩
      repeat' (first | exact Sub.nil _ | refine Sub.cons rfl ?_ | refine Sub.consE rfl ?_ ?_)
      exact inc (i := i) (by omega)
  rw [decide_eq_false (p := (i : Int) < (x.2.1.length : Int)) (by omega)]
  repeat' (first | refine e_nil ?_ | ((refine e_op ?_); (refine o_n (peval_sound rfl) rfl ?_)) | refine s_seq ?_ | refine s_region ?_ | refine s_block ?_ | refine s_exit ?_ | refine s_false rfl ?_ | refine x_hit ?_ | refine x_code ?_ | refine x_back ?_)
  refine s_loopK (ι := {i : Nat // i ≤ x.2.2.1.length}) [2, 3] rfl ⟨0, by omega⟩ (fun i => [(8, .int .i64 i.1)]) (fun _ => [blk bb 47 [.slice BA x.1.length dA, .slice BG x.2.1.length dG, .slice BC x.2.2.1.length dC, .int .i64 (x.2.2.2 : Nat)], blk ba 47 [.slice AA x.1.length cA, .slice AG x.2.1.length cG, .slice AC x.2.2.1.length cC, .int .i64 (x.2.2.2 : Nat)]]) (fun i => x.2.2.1.length - i.1) ?_ (Ent.refl _) ?_
  · repeat' (first | exact Sub.nil _ | refine Sub.cons rfl ?_)
  rintro ⟨i, hi⟩
  simp only at hi ⊢
  repeat' (first | refine e_nil ?_ | ((refine e_op ?_); (first | refine o_n (peval_sound rfl) rfl ?_ | refine o_n (nl rfl rfl tc rfl) rfl ?_)) | refine s_seq ?_ | refine s_region ?_)
  by_cases hlt : i < x.2.2.1.length
  · rw [decide_eq_true (p := (i : Int) < (x.2.2.1.length : Int)) (by omega)]
    obtain ⟨b1, o1, es1, rfl, hb1, hR1, hc1⟩ := x3 i hlt
    obtain ⟨b2, o2, es2, rfl, hb2, hR2, hc2⟩ := y3 i hlt
    obtain rfl := kCla_is hR1
    obtain rfl := kCla_is hR2
    repeat' (first | refine s_seq ?_ | refine s_block ?_ | refine s_skip ?_ | refine s_true rfl ?_)
    refine s_drawU [] Tryz.mixed (by decide +kernel) ?_
    repeat' (((first | refine l_n (peval_sound rfl) rfl ?_ rfl ?_ | refine l_n (nl rfl rfl tc rfl) rfl ?_ rfl ?_); · (exact Ent.refl _)))
    refine l_n (n_index rfl rfl rfl rfl i rfl hlt) rfl (Ent.refl _) rfl ?_
    refine l_n (n_load_ro rfl rfl hb1 (loads_agg rfl rfl hc1)) rfl (Ent.refl _) rfl ?_
    repeat' (((first | refine l_n (peval_sound rfl) rfl ?_ rfl ?_ | refine l_n (nl rfl rfl tc rfl) rfl ?_ rfl ?_); · (exact Ent.refl _)))
    refine l_n (n_index rfl rfl rfl rfl i rfl hlt) rfl (Ent.refl _) rfl ?_
    refine l_n (n_load_ro rfl rfl hb2 (loads_agg rfl rfl hc2)) rfl (Ent.refl _) rfl ?_
    refine l_n (n_neq67 (a := x.2.2.1[i]) (b := x.2.2.1[i]) rfl rfl) rfl (Ent.refl _) rfl ?_
    rw [decide_eq_true (rfl : x.2.2.1[i] = x.2.2.1[i])]
    repeat' (refine l_nil ?_)
    repeat' (first | refine e_nil ?_ | ((refine e_op ?_); (refine o_n (peval_sound rfl) rfl ?_)) | refine s_region ?_ | refine s_end ?_ | refine s_skip ?_ | refine s_false rfl ?_)
    refine s_back ⟨⟨i + 1, by omega⟩, by simp only; omega, ?_, Ent.refl _⟩
    repeat' (first | exact Sub.nil _ | refine Sub.cons rfl ?_ | refine Sub.consE rfl ?_ ?_)
    exact inc (i := i) (by omega)
  · rw [decide_eq_false (p := (i : Int) < (x.2.2.1.length : Int)) (by omega)]
    repeat' (first | refine e_nil ?_ | ((refine e_op ?_); (refine o_n (peval_sound rfl) rfl ?_)) | refine s_seq ?_ | refine s_region ?_ | refine s_exit ?_ | refine s_false rfl ?_ | refine x_hit ?_ | refine x_code ?_ | refine x_back ?_)
    refine s_ret ⟨_, _, res1 rfl rfl, ⟨rfl, rfl⟩, Ent.nil _⟩

end Go.Proofs.YtcnpjhaedjncdaaGreatDoor

namespace Go.Proofs.YtcnpjhaedjncdaaGreatDoor
set_option linter.all false
open Go.Proofs.YtcnpjhaedjncdaaGreatDoor.E
attribute [local irreducible] EVX EVO EVL EV1 NEV
attribute [local irreducible] own osl exA rdA rdL
set_option maxRecDepth 10000
set_option maxHeartbeats 1000000

end Go.Proofs.YtcnpjhaedjncdaaGreatDoor

namespace Go.Proofs.YtcnpjhaedjncdaaGreatDoor
set_option linter.all false
open Go.Proofs.YtcnpjhaedjncdaaGreatDoor.E
theorem equal65 (w : World) (a b c d : Int) : (Op.equal 59 (.agg #[.int .i64 a, .int .i64 b]) (.agg #[.int .i64 c, .int .i64 d])).run Tryz.prog w = .ok (a == c && b == d) w := by
  have hf : Tryz.prog.fieldsOf 59 = #[{ name := "N", type := 3, offset := 0, embedded := false, tag := "", pkgPath := "", byteOffset := 0 }, { name := "Kind", type := 3, offset := 1, embedded := false, tag := "", pkgPath := "", byteOffset := 8 }] := by kernel_rfl
  have h3 : Tryz.prog.plainKey 3 = true := by kernel_rfl
  have p1 : ∀ u v : Int, (part 3 #[.int .i64 u, .int .i64 v] 0).run Tryz.prog w = .ok (.int .i64 u) w := fun u v => run_part_plain (P := Tryz.prog) w h3 rfl
  have p2 : ∀ u v : Int, (part 3 #[.int .i64 u, .int .i64 v] 1).run Tryz.prog w = .ok (.int .i64 v) w := fun u v => run_part_plain (P := Tryz.prog) w h3 rfl
  unfold Op.equal Op.maxDepth
  rw [run_equalIn_struct (P := Tryz.prog) w 9999 59 _ _ (by kernel_rfl) (by kernel_rfl), hf]
  have e : ∀ u v : Int, (Op.equalIn 9999 3 (.int .i64 u) (.int .i64 v)).run Tryz.prog w = .ok (u == v) w := fun u v => run_equalIn_int w 9998 3 .i64 .i64 u v Tryz.underlying3
  simp only [Op.eqFields]
  simp only [Sem.run_bind, p1, p2, e, Result.andThen_ok, Sem.run_ite, Sem.run_pure]
  cases a == c <;> cases b == d <;> simp [p1, p2, e]

theorem n_neq65 {w0 : World} {SM : BSet} {n : Nat} {fr : Frm} {U : List Asn} {x y : Operand} {a b c d : Int} {t2 : TypeId} (hx : val fr x = some (.agg #[.int .i64 a, .int .i64 b])) (hy : val fr y = some (.agg #[.int .i64 c, .int .i64 d])) :
    NEV ⟨Tryz.prog, Tryz.tab, Tryz.tabOk, n, w0, SM⟩ (.binOp .neq 59 x y t2) fr U (.bool (!(a == c && b == d))) := by
  intro ac w dst ty pos af g hf _
  have hg : Tryz.prog.eqGuardType Tryz.prog.depth 5959 = false := by kernel_rfl
  have he := equal65 w a b c d
  unfold execOp
  simp only [hf.eval hx, hf.eval hy]
  simp [eqGuard, hg, binOp, he]
attribute [local irreducible] EVX EVO EVL EV1 NEV
attribute [local irreducible] own osl exA rdA rdL
set_option maxRecDepth 10000
set_option maxHeartbeats 1000000

theorem same_w (cs ds : List Value) (g : Gram) : Trip Tryz.prog 12 [.agg cs.toArray, .agg ds.toArray] ((kGram.rd cs g).and (kGram.rd ds g)) [] (fun v V => v = .bool true ∧ V = []) := by
  refine trip Tryz.tabOk Tryz.func12 rfl rfl rfl rfl ?_
  rintro w SM ⟨hR, hR'⟩
  obtain ⟨A0, A1, A2, A3, A4, c0, c1, c2, c3, c4, rfl, hG⟩ := kGram_open hR
  obtain ⟨B0, B1, B2, B3, B4, d0, d1, d2, d3, d4, rfl, hH⟩ := kGram_open hR'
  have hP := hG.prods.2.1
  have hL := hG.levels.2.1
  repeat' (first | refine e_nil ?_ | ((refine e_op ?_); (first | refine o_n (peval_sound rfl) rfl ?_ | refine o_n (nl rfl rfl tc rfl) rfl ?_ | refine o_box rfl rfl (fun _ => ?_))) | refine s_seq ?_ | refine s_region ?_)
  rename_i b2 b3
  simp only [bne_self_eq_false]
  repeat' (((first | refine e_op ?_ | refine e_yes rfl ?_); (first | refine o_n (peval_sound rfl) rfl ?_ | refine o_n (nl rfl rfl tc rfl) rfl ?_)))
  simp only [bne_self_eq_false]
  repeat' (((first | refine e_op ?_ | refine e_yes rfl ?_); (first | refine o_n (peval_sound rfl) rfl ?_ | refine o_n (nl rfl rfl tc rfl) rfl ?_)))
  simp only [bne_self_eq_false]
  repeat' (first | refine e_nil ?_ | ((first | refine e_op ?_ | refine e_yes rfl ?_); (first | refine o_n (peval_sound rfl) rfl ?_ | refine o_n (nl rfl rfl tc rfl) rfl ?_)))
  simp only [bne_self_eq_false]
  repeat' (first | refine e_nil ?_ | ((refine e_op ?_); (refine o_n (peval_sound rfl) rfl ?_)) | refine s_seq ?_ | refine s_region ?_ | refine s_block ?_ | refine s_skip ?_ | refine s_false rfl ?_)
  refine s_loopK (ι := {i : Nat // i ≤ g.Levels.length}) [2, 3] rfl ⟨0, by omega⟩ (fun x => [(5, .int .i64 x.1)])
    (fun x => [blk b3 27 [.slice B0 g.Terms.length d0, .slice B1 g.Levels.length d1, .slice B2 g.Pats.length d2, .slice B3 g.Nons.length d3, .slice B4 g.Prods.length d4],
      blk b2 27 [.slice A0 g.Terms.length c0, .slice A1 g.Levels.length c1, .slice A2 g.Pats.length c2, .slice A3 g.Nons.length c3, .slice A4 g.Prods.length c4]]) (fun x => g.Levels.length - x.1) ?_ (by repeat' (first | exact Ent.nil _ | refine Ent.tak tk ?_)) ?_
  · repeat' (first | exact Sub.nil _ | refine Sub.cons rfl ?_)
  rintro ⟨i, hi⟩
  simp only at hi ⊢
  repeat' (first | refine e_nil ?_ | ((refine e_op ?_); (first | refine o_n (peval_sound rfl) rfl ?_ | refine o_n (nl rfl rfl tc rfl) rfl ?_)) | refine s_seq ?_ | refine s_region ?_)
  refine s_cond rfl (fun h => ?_) (fun h => ?_)
  · have hlt : i < g.Levels.length := by have := of_decide_eq_true h; omega
    clear h
    obtain ⟨b, o, es, rfl, hb, he, hc⟩ := hG.levels.2.2 i hlt
    obtain ⟨b', o', es', rfl, hb', he', hc'⟩ := hH.levels.2.2 i hlt
    obtain ⟨rfl, hI1, hI2⟩ := kLev_open he
    obtain ⟨rfl, _, _⟩ := kLev_open he'
    repeat' (first | refine s_seq ?_ | refine s_block ?_ | refine s_skip ?_)
    refine s_drawU [] Tryz.mixed (by decide +kernel) ?_
    repeat' (((first | refine l_n (peval_sound rfl) rfl ?_ rfl ?_ | refine l_n (nl rfl rfl tc rfl) rfl ?_ rfl ?_); · (exact Ent.refl _)))
    refine l_n (n_index rfl rfl rfl rfl i rfl hlt) rfl (by (exact Ent.refl _)) rfl ?_
    refine l_n (n_load_ro rfl rfl hb (loads_agg rfl rfl hc)) rfl (by (exact Ent.refl _)) rfl ?_
    repeat' (((first | refine l_n (peval_sound rfl) rfl ?_ rfl ?_ | refine l_n (nl rfl rfl tc rfl) rfl ?_ rfl ?_); · (exact Ent.refl _)))
    refine l_n (n_index rfl rfl rfl rfl i rfl hlt) rfl (by (exact Ent.refl _)) rfl ?_
    refine l_n (n_load_ro rfl rfl hb' (loads_agg rfl rfl hc')) rfl (by (exact Ent.refl _)) rfl ?_
    skip
    refine l_n (n_neq65 rfl rfl) rfl (by (exact Ent.refl _)) rfl ?_
    simp only [beq_self_eq_true, Bool.and_self, Bool.not_true]
    repeat' (refine l_nil ?_)
    repeat' (first | refine e_nil ?_ | ((refine e_op ?_); (refine o_n (peval_sound rfl) rfl ?_)) | refine s_region ?_ | refine s_end ?_ | refine s_skip ?_ | refine s_false rfl ?_)
    refine s_back ⟨⟨i + 1, by omega⟩, by simp only; omega, ?_, by repeat' (first | exact Ent.nil _ | refine Ent.tak tk ?_)⟩
    repeat' (first | exact Sub.nil _ | refine Sub.cons rfl ?_ | refine Sub.consE rfl ?_ ?_)
    exact inc (i := i) (by omega)
  clear h
  repeat' (first | refine e_nil ?_ | ((refine e_op ?_); (refine o_n (peval_sound rfl) rfl ?_)) | refine s_seq ?_ | refine s_region ?_ | refine s_block ?_ | refine s_exit ?_ | refine x_hit ?_ | refine x_code ?_ | refine x_back ?_)
  refine s_loopK (ι := {i : Nat // i ≤ g.Prods.length}) [2, 3] rfl ⟨0, by omega⟩ (fun x => [(6, .int .i64 x.1)])
    (fun x => [blk b3 27 [.slice B0 g.Terms.length d0, .slice B1 g.Levels.length d1, .slice B2 g.Pats.length d2, .slice B3 g.Nons.length d3, .slice B4 g.Prods.length d4],
      blk b2 27 [.slice A0 g.Terms.length c0, .slice A1 g.Levels.length c1, .slice A2 g.Pats.length c2, .slice A3 g.Nons.length c3, .slice A4 g.Prods.length c4]]) (fun x => g.Prods.length - x.1) ?_ (by repeat' (first | exact Ent.nil _ | refine Ent.tak tk ?_)) ?_
  · repeat' (first | exact Sub.nil _ | refine Sub.cons rfl ?_)
  rintro ⟨i, hi⟩
  simp only at hi ⊢
  repeat' (first | refine e_nil ?_ | ((refine e_op ?_); (first | refine o_n (peval_sound rfl) rfl ?_ | refine o_n (nl rfl rfl tc rfl) rfl ?_)) | refine s_seq ?_ | refine s_region ?_)
  refine s_cond rfl (fun h => ?_) (fun h => ?_)
  · have hlt : i < g.Prods.length := by have := of_decide_eq_true h; omega
    clear h
    obtain ⟨b, o, es, rfl, hb, he, hc⟩ := hG.prods.2.2 i hlt
    obtain ⟨b', o', es', rfl, hb', he', hc'⟩ := hH.prods.2.2 i hlt
    obtain ⟨Ar, cr, rfl, hl, hlN, hlK, hr⟩ := kPrd_open he
    obtain ⟨Br, dr, rfl, _, _, _, hs⟩ := kPrd_open he'
    have hrl := hr.2.1
    repeat' (first | refine s_seq ?_ | refine s_block ?_ | refine s_skip ?_)
    refine s_anyU Tryz.mixed ?_
    refine a_n 0 rfl (peval_sound rfl) (by decide +kernel) (Ent.refl _) rfl ?_
    refine a_n 1 rfl (n_load rfl rfl (.s .z) rfl) (by decide +kernel) (Ent.refl _) rfl ?_
    refine a_n 2 rfl (peval_sound rfl) (by decide +kernel) (Ent.refl _) rfl ?_
    refine a_n 3 rfl (n_index rfl rfl rfl rfl i rfl hlt) (by decide +kernel) (Ent.refl _) rfl ?_
    refine a_n 4 rfl (n_load_ro rfl rfl hb (loads_agg rfl rfl hc)) (by decide +kernel) (Ent.refl _) rfl ?_
    refine a_n 5 rfl (peval_sound rfl) (by decide +kernel) (Ent.refl _) rfl ?_
    refine a_n 6 rfl (n_load rfl rfl .z rfl) (by decide +kernel) (Ent.refl _) rfl ?_
    refine a_n 7 rfl (peval_sound rfl) (by decide +kernel) (Ent.refl _) rfl ?_
    refine a_n 8 rfl (n_index rfl rfl rfl rfl i rfl hlt) (by decide +kernel) (Ent.refl _) rfl ?_
    refine a_n 9 rfl (n_load_ro rfl rfl hb' (loads_agg rfl rfl hc')) (by decide +kernel) (Ent.refl _) rfl ?_
    refine a_join (ι := Nat × Nat) (fun x => [(2, .pointer (some ⟨b2, 0, none⟩)), (3, .pointer (some ⟨b3, 0, none⟩)), (6, .int .i64 i), (7, .pointer (some ⟨x.1, 0, none⟩)), (8, .pointer (some ⟨x.2, 0, none⟩))])
      (fun x => [blk x.1 61 [.int .i64 g.Prods[i].Left, .slice Ar g.Prods[i].Right.length cr, .int .i64 g.Prods[i].L.N, .int .i64 g.Prods[i].L.Kind], blk x.2 61 [.int .i64 g.Prods[i].Left, .slice Br g.Prods[i].Right.length dr, .int .i64 g.Prods[i].L.N, .int .i64 g.Prods[i].L.Kind],
        blk b3 27 [.slice B0 g.Terms.length d0, .slice B1 g.Levels.length d1, .slice B2 g.Pats.length d2, .slice B3 g.Nons.length d3, .slice (some ⟨b', o', none⟩) g.Prods.length d4],
        blk b2 27 [.slice A0 g.Terms.length c0, .slice A1 g.Levels.length c1, .slice A2 g.Pats.length c2, .slice A3 g.Nons.length c3, .slice (some ⟨b, o, none⟩) g.Prods.length c4]]) ?_ (fun hfin => ?_)
    · rintro ⟨b7, b8⟩
      simp only
      repeat' (first | ((refine e_op ?_); (first | refine o_n (peval_sound rfl) rfl ?_ | refine o_n (nl rfl rfl tc rfl) rfl ?_)) | refine s_seq ?_ | refine s_region ?_)
      simp only [bne_self_eq_false]
      repeat' (((refine e_yes rfl ?_); (first | refine o_n (peval_sound rfl) rfl ?_ | refine o_n (nl rfl rfl tc rfl) rfl ?_)))
      refine e_yes rfl (o_n (n_neq65 rfl rfl) rfl ?_)
      simp only [beq_self_eq_true, Bool.and_self, Bool.not_true]
      repeat' (first | refine e_nil ?_ | ((first | refine e_op ?_ | refine e_yes rfl ?_); (first | refine o_n (peval_sound rfl) rfl ?_ | refine o_n (nl rfl rfl tc rfl) rfl ?_)))
      simp only [bne_self_eq_false]
      repeat' (first | refine e_nil ?_ | ((refine e_op ?_); (refine o_n (peval_sound rfl) rfl ?_)) | refine s_seq ?_ | refine s_region ?_ | refine s_block ?_ | refine s_skip ?_ | refine s_false rfl ?_)
      refine s_loopK (ι := {k : Nat // k ≤ g.Prods[i].Right.length}) [2, 3, 6, 7, 8] rfl ⟨0, by omega⟩ (fun x => [(9, .int .i64 x.1)])
        (fun x => [blk b7 61 [.int .i64 g.Prods[i].Left, .slice Ar g.Prods[i].Right.length cr, .int .i64 g.Prods[i].L.N, .int .i64 g.Prods[i].L.Kind], blk b8 61 [.int .i64 g.Prods[i].Left, .slice Br g.Prods[i].Right.length dr, .int .i64 g.Prods[i].L.N, .int .i64 g.Prods[i].L.Kind],
          blk b3 27 [.slice B0 g.Terms.length d0, .slice B1 g.Levels.length d1, .slice B2 g.Pats.length d2, .slice B3 g.Nons.length d3, .slice (some ⟨b', o', none⟩) g.Prods.length d4],
          blk b2 27 [.slice A0 g.Terms.length c0, .slice A1 g.Levels.length c1, .slice A2 g.Pats.length c2, .slice A3 g.Nons.length c3, .slice (some ⟨b, o, none⟩) g.Prods.length c4]]) (fun x => g.Prods[i].Right.length - x.1) ?_ (by repeat' (first | exact Ent.nil _ | refine Ent.tak tk ?_)) ?_
      · repeat' (first | exact Sub.nil _ | refine Sub.cons rfl ?_)
      rintro ⟨k, hk⟩
      simp only at hk ⊢
      repeat' (first | refine e_nil ?_ | ((refine e_op ?_); (first | refine o_n (peval_sound rfl) rfl ?_ | refine o_n (nl rfl rfl tc rfl) rfl ?_)) | refine s_seq ?_ | refine s_region ?_)
      refine s_cond rfl (fun h => ?_) (fun h => ?_)
      · have hkl : k < g.Prods[i].Right.length := by have := of_decide_eq_true h; omega
        clear h
        obtain ⟨b5, o5, es5, rfl, hb5, ⟨rfl, hsI⟩, hc5⟩ := hr.2.2 k hkl
        obtain ⟨b6, o6, es6, rfl, hb6, ⟨rfl, _⟩, hc6⟩ := hs.2.2 k hkl
        repeat' (first | refine s_seq ?_ | refine s_block ?_ | refine s_skip ?_)
        refine s_drawU [] Tryz.mixed (by decide +kernel) ?_
        repeat' (((first | refine l_n (peval_sound rfl) rfl ?_ rfl ?_ | refine l_n (nl rfl rfl tc rfl) rfl ?_ rfl ?_); · (exact Ent.refl _)))
        refine l_n (n_index rfl rfl rfl rfl k rfl hkl) rfl (by (exact Ent.refl _)) rfl ?_
        refine l_n (n_load_ro rfl rfl hb5 (loads_one rfl (hc5 0 _ rfl))) rfl (by (exact Ent.refl _)) rfl ?_
        repeat' (((first | refine l_n (peval_sound rfl) rfl ?_ rfl ?_ | refine l_n (nl rfl rfl tc rfl) rfl ?_ rfl ?_); · (exact Ent.refl _)))
        refine l_n (n_index rfl rfl rfl rfl k rfl hkl) rfl (by (exact Ent.refl _)) rfl ?_
        refine l_n (n_load_ro rfl rfl hb6 (loads_one rfl (hc6 0 _ rfl))) rfl (by (exact Ent.refl _)) rfl ?_
        repeat' (first | refine l_nil ?_ | ((refine l_n (peval_sound rfl) rfl ?_ rfl ?_); · (exact Ent.refl _)))
        simp only [bne_self_eq_false]
        repeat' (first | refine e_nil ?_ | ((refine e_op ?_); (refine o_n (peval_sound rfl) rfl ?_)) | refine s_region ?_ | refine s_end ?_ | refine s_skip ?_ | refine s_false rfl ?_)
        refine s_back ⟨⟨k + 1, by omega⟩, by simp only; omega, ?_, by repeat' (first | exact Ent.nil _ | refine Ent.tak tk ?_)⟩
        repeat' (first | exact Sub.nil _ | refine Sub.cons rfl ?_ | refine Sub.consE rfl ?_ ?_)
        exact inc (i := k) (by omega)
      · clear h
        repeat' (first | refine e_nil ?_ | ((refine e_op ?_); (refine o_n (peval_sound rfl) rfl ?_)) | refine s_region ?_ | refine s_end ?_ | refine s_exit ?_ | refine x_hit ?_ | refine x_code ?_ | refine x_back ?_)
        refine s_back ⟨⟨i + 1, by omega⟩, by simp only; omega, ?_, by repeat' (first | exact Ent.nil _ | refine Ent.tak tk ?_)⟩
        repeat' (first | exact Sub.nil _ | refine Sub.cons rfl ?_ | refine Sub.consE rfl ?_ ?_)
        exact inc (i := i) (by omega)
    · refine a_2 10 11 (by decide +kernel) rfl rfl rfl rfl (o_alloc rfl rfl (fun b7 => ⟨(by (repeat' (first | exact Ent.refl _ | refine Ent.wk ?_))), ?_⟩)) (o_alloc rfl rfl (fun b8 => ⟨(by (repeat' (first | exact Ent.refl _ | refine Ent.wk ?_))), ?_⟩))
      · refine a_1 11 (by decide +kernel) rfl rfl (o_alloc rfl rfl (fun b8 => ⟨(by (repeat' (first | exact Ent.refl _ | refine Ent.wk ?_))), ?_⟩))
        refine a_1 12 (by decide +kernel) rfl rfl (o_store rfl rfl rfl rfl rfl rfl rfl (.s .z) ⟨(by (repeat' (first | exact Ent.refl _ | refine Ent.wk ?_))), ?_⟩)
        refine a_1 13 (by decide +kernel) rfl rfl (o_store rfl rfl rfl rfl rfl rfl rfl .z ⟨(by (repeat' (first | exact Ent.refl _ | refine Ent.wk ?_))), ?_⟩)
        refine a_done (by decide +kernel) (s_weak ?_ ?_ (hfin (b7, b8)))
        · repeat' (first | exact Sub.nil _ | refine Sub.cons rfl ?_)
        · repeat' (first | exact Ent.nil _ | refine Ent.tak tk ?_ | refine Ent.tak .z ?_ | refine Ent.tak (.s .z) ?_)
      · refine a_1 10 (by decide +kernel) rfl rfl (o_alloc rfl rfl (fun b7 => ⟨(by (repeat' (first | exact Ent.refl _ | refine Ent.wk ?_))), ?_⟩))
        refine a_1 12 (by decide +kernel) rfl rfl (o_store rfl rfl rfl rfl rfl rfl rfl .z ⟨(by (repeat' (first | exact Ent.refl _ | refine Ent.wk ?_))), ?_⟩)
        refine a_1 13 (by decide +kernel) rfl rfl (o_store rfl rfl rfl rfl rfl rfl rfl (.s .z) ⟨(by (repeat' (first | exact Ent.refl _ | refine Ent.wk ?_))), ?_⟩)
        refine a_done (by decide +kernel) (s_weak ?_ ?_ (hfin (b7, b8)))
        · repeat' (first | exact Sub.nil _ | refine Sub.cons rfl ?_)
        · repeat' (first | exact Ent.nil _ | refine Ent.tak tk ?_ | refine Ent.tak .z ?_)
  · clear h
    repeat' (first | refine e_nil ?_ | ((refine e_op ?_); (refine o_n (peval_sound rfl) rfl ?_)) | refine s_seq ?_ | refine s_region ?_ | refine s_exit ?_ | refine x_hit ?_ | refine x_code ?_ | refine x_back ?_)
    exact s_ret ⟨_, _, res1 rfl rfl, ⟨rfl, rfl⟩, Ent.nil _⟩

end Go.Proofs.YtcnpjhaedjncdaaGreatDoor

namespace Go.Proofs.YtcnpjhaedjncdaaGreatDoor
set_option linter.all false
open Go.Proofs.YtcnpjhaedjncdaaGreatDoor.E

theorem op3 : Opn Tryz.prog 3 kint := op_int Tryz.underlying3
theorem op9 : Opn Tryz.prog 9 kstr := op_str Tryz.underlying9
theorem op24 : Opn Tryz.prog 55 (kslice 8 kint) := op_slice Tryz.underlying55 (by kernel_rfl) (by kernel_rfl) (by decide) op3
theorem op39 : Opn Tryz.prog 22 (kslice 16 kstr) := op_slice Tryz.underlying22 (by kernel_rfl) (by kernel_rfl) (by decide) op9
theorem op65 : Opn Tryz.prog 59 kLev := op_iso (fun y => ⟨⟨y.1, y.2⟩, rfl⟩) (op_struct Tryz.underlying59 (by kernel_rfl) (ops_cons (by kernel_rfl) op3 rfl (ops_one (by kernel_rfl) op3)))
theorem op40 : Opn Tryz.prog 23 (kslice 16 kLev) := op_slice Tryz.underlying23 (by kernel_rfl) (by kernel_rfl) (by decide) op65
theorem op146 : Opn Tryz.prog 217 kPt := op_iso (fun y => ⟨⟨y.1, y.2⟩, rfl⟩) (op_struct Tryz.underlying217 (by kernel_rfl) (ops_cons (by kernel_rfl) op3 rfl (ops_one (by kernel_rfl) op9)))
theorem op41 : Opn Tryz.prog 24 (kslice 24 kPt) := op_slice Tryz.underlying24 (by kernel_rfl) (by kernel_rfl) (by decide) op146
theorem op67 : Opn Tryz.prog 61 kPrd := op_iso (fun y => ⟨⟨y.1, y.2.1, y.2.2⟩, rfl⟩) (op_struct Tryz.underlying61 (by kernel_rfl) (ops_cons (by kernel_rfl) op3 rfl (ops_cons (by kernel_rfl) op24 rfl (ops_one (by kernel_rfl) op65))))
theorem op42 : Opn Tryz.prog 25 (kslice 48 kPrd) := op_slice Tryz.underlying25 (by kernel_rfl) (by kernel_rfl) (by decide) op67
theorem op44 : Opn Tryz.prog 27 kGram := op_iso (fun y => ⟨⟨y.1, y.2.1, y.2.2.1, y.2.2.2.1, y.2.2.2.2⟩, rfl⟩) (op_struct Tryz.underlying27 (by kernel_rfl)
  (ops_cons (by kernel_rfl) op39 rfl (ops_cons (by kernel_rfl) op40 rfl (ops_cons (by kernel_rfl) op41 rfl (ops_cons (by kernel_rfl) op39 rfl (ops_one (by kernel_rfl) op42))))))

theorem Tryz.laidOut : laidOutB Tryz.prog = true := by kernel_rfl
theorem Tryz.own : ownKnob Tryz.prog.godebug = none := by kernel_rfl

end Go.Proofs.YtcnpjhaedjncdaaGreatDoor

namespace Go.Proofs.YtcnpjhaedjncdaaGreatDoor
set_option linter.all false
open Go.Proofs.YtcnpjhaedjncdaaGreatDoor.E

end Go.Proofs.YtcnpjhaedjncdaaGreatDoor
