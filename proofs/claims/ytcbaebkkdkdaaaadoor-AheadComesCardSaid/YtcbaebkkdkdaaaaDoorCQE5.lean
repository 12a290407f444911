/-
  Walking a tree.
-/
import Derived.Test.YtcbaebkkdkdaaaaDoorCQE4

namespace Go.Proofs.YtcbaebkkdkdaaaaDoor
set_option linter.all false
open Go.Proofs.YtcbaebkkdkdaaaaDoor.E

abbrev encW1 (e : Wh) : List Value := [.int .i64 e.p, .int .i64 e.s, .int .i64 e.b]
abbrev encW (D : List Wh) : List Value := D.flatMap encW1

/-- What a walk of a name leaves. -/
structure WRes (g : Gram) (GS : List (List Int)) (q n : Nat) (X : List Nat) (sp d : Nat) (w : List Nat) (E : List Wh) (a' sp' : Nat) : Prop where
  al : a' ≤ 60
  s0 : sp + 1 ≤ sp'
  s1 : 3000 ≤ sp → sp' = sp + 1
  s2 : sp < 3000 → sp' ≤ 3000 + 12 * d + 1
  wl : w.length + 12 * sp ≤ 12 * sp'
  el : E.length + sp ≤ sp'
  o : sp' ≤ 400 → PieceOk g ((g.Terms.length : Int) + n) w ∧ KidOk g GS q n X w E

/-- What the walk of a name does, so deep. -/
def WalkC (deep d : Nat) : Prop := ∀ (bw : Nat) (A0 A1 A2 A3 A4 : Option Addr) (c0 c1 c2 c3 c4 : Nat) (g : Gram) (he : checkE g = 0) (KS : List (List Itm)) (GS : List (List Int)) (hF : GoF g KS GS) (AP : Option Addr) (cP : Nat) (P : List Int) (a : Nat) (ha : a ≤ 60) (AT : Option Addr) (cT : Nat) (X : List Nat) (AD : Option Addr) (cD : Nat) (Dn : List Wh) (AK : Option Addr) (cK : Nat) (St : List Nat) (AG : Option Addr) (cG : Nat) (sp : Nat) (n : Nat) (hn : n < g.Nons.length) (AS : Option Addr) (cS : Nat) (q : Nat) (hq : St.getLast? = some q) (hv : ∀ k : Nat, k < g.Prods.length → (prd g k).Left = (n : Int) → VP g KS ⟨q, ⟨k, 0⟩⟩) (hsp : sp ≤ 20000) (hdp : deep ≤ sp) (hXl : X.length ≤ 12 * sp) (hDl : Dn.length ≤ sp) (hSl : St.length ≤ 1 + 12 * deep),
    Trip Tryd.prog 33 [ptrN bw, .int .i64 n, .slice AS g.Nons.length cS, .int .i64 deep] ((kGram.rd [.slice A0 g.Terms.length c0, .slice A1 g.Levels.length c1, .slice A2 g.Pats.length c2, .slice A3 g.Nons.length c3, .slice A4 g.Prods.length c4] g).and (((kslice 8 kint).rd [.slice AP P.length cP] P).and (((kslice 8 kint).rd [.slice AS g.Nons.length cS] (leastL g)).and ((kslice 24 (kslice 8 kint)).rd [.slice AG GS.length cG] GS))))
      [mkK bw (.slice A0 g.Terms.length c0) (.slice A1 g.Levels.length c1) (.slice A2 g.Pats.length c2) (.slice A3 g.Nons.length c3) (.slice A4 g.Prods.length c4) (.slice AP P.length cP) a (.slice AT (X).length cT) (.slice AD (Dn).length cD) (.slice AK (St).length cK) (.slice AG GS.length cG) true sp, osl 3 1 (.slice AK (St).length cK) (St).length (encM (St)), osl 3 1 (.slice AT (X).length cT) (X).length (encM (X)), osl 68 3 (.slice AD (Dn).length cD) (Dn).length (encW (Dn))]
      (fun v V => ∃ (w : List Nat) (E : List Wh) (a' sp' : Nat) (AT' : Option Addr) (cT' : Nat) (AD' : Option Addr) (cD' : Nat) (AK' : Option Addr) (cK' : Nat), v = .tuple #[] ∧ WRes g GS q n X sp d w E a' sp' ∧
        V = [mkK bw (.slice A0 g.Terms.length c0) (.slice A1 g.Levels.length c1) (.slice A2 g.Pats.length c2) (.slice A3 g.Nons.length c3) (.slice A4 g.Prods.length c4) (.slice AP P.length cP) a' (.slice AT' (X ++ w).length cT') (.slice AD' (Dn ++ E).length cD') (.slice AK' (St).length cK') (.slice AG GS.length cG) true sp', osl 3 1 (.slice AK' (St).length cK') (St).length (encM (St)), osl 3 1 (.slice AT' (X ++ w).length cT') (X ++ w).length (encM (X ++ w)), osl 68 3 (.slice AD' (Dn ++ E).length cD') (Dn ++ E).length (encW (Dn ++ E))])

structure WIt where
  k : Nat
  q : Nat
  a : Nat
  sp : Nat
  w : List Nat
  E : List Wh
  R : List Nat
  AT : Option Addr
  cT : Nat
  AD : Option Addr
  cD : Nat
  AK : Option Addr
  cK : Nat
structure WOk (g : Gram) (KS : List (List Itm)) (GS : List (List Int)) (i q : Nat) (X St : List Nat) (sp d : Nat) (x : WIt) : Prop where
  k : x.k ≤ (prd g i).Right.length
  r : x.R.length = x.k
  l : (St ++ x.R).getLast? = some x.q
  v : VP g KS ⟨x.q, ⟨i, x.k⟩⟩
  a : x.a ≤ 60
  s0 : sp + 1 ≤ x.sp
  s1 : x.sp ≤ 3000 + 12 * d + 1 + x.k
  w : x.w.length + 12 * (sp + 1) ≤ x.k + 12 * x.sp
  e : x.E.length + (sp + 1) ≤ x.sp
  o : x.sp ≤ 400 → LoopOk g GS i q X x.k x.q x.w x.E

attribute [local irreducible] EVX EVO EVL EV1 NEV
attribute [local irreducible] own osl exA rdA rdL
attribute [local irreducible] bldA mapA bun mapS
set_option maxRecDepth 10000
set_option maxHeartbeats 4000000

theorem walk_step (deep d : Nat) (hdd : deep + d = 401) (ih : WalkC (deep + 1) d) : WalkC deep (d + 1) := by
  intro bw A0 A1 A2 A3 A4 c0 c1 c2 c3 c4 g he KS GS hF AP cP P a ha AT cT X AD cD Dn AK cK St AG cG sp n hn AS cS q hq hv hsp hdp hXl hDl hSl
  refine trip Tryd.tabOk Tryd.func33 rfl rfl rfl rfl ?_
  rintro w SM ⟨hG0, hP0, hS0, hGo0⟩
  obtain ⟨_, _, _, _, _, _, _, _, _, _, ee, hG⟩ := kGram_open hG0
  cases ee
  obtain ⟨hlm, hwf⟩ := checkE_ok he
  have hL := lims hlm
  have hPr := hL.p
  have hTl := hL.t
  have hNl := hL.n
  have hwa : IntKind.i64.wrap ((sp : Int) + 1) = ((sp + 1 : Nat) : Int) := by rw [wrap_i64] <;> omega
  repeat' (first | refine e_nil ?_ | ((refine e_op ?_); (first | refine o_n (peval_sound rfl) rfl ?_ | refine o_n (nl rfl rfl tc rfl) rfl ?_ | refine o_storeC rfl rfl rfl rfl tc uc rfl rfl rfl ?_)) | refine s_seq ?_ | refine s_region ?_)
  rw [hwa]
  skip
  by_cases h1 : deep > 400
  · rw [decide_eq_true (p := (deep : Int) > 400) (by omega)]
    repeat' (first | refine e_nil ?_ | ((refine e_op ?_); (refine o_n (peval_sound rfl) rfl ?_)) | refine e_noU rfl rfl rfl ?_ | refine s_true rfl ?_)
    refine s_ret ⟨_, _, res0 rfl, ⟨[], [], a, sp + 1, AT, cT, AD, cD, AK, cK, rfl, ⟨ha, Nat.le_refl _, fun _ => rfl, fun h => by omega, by simp only [List.length_nil]; omega, by simp only [List.length_nil]; omega, fun h => by omega⟩, rfl⟩, ?_⟩
    rw [List.append_nil, List.append_nil]
    exact Ent.refl _
  rw [decide_eq_false (p := (deep : Int) > 400) (by omega)]
  repeat' (((first | refine e_op ?_ | refine e_yes rfl ?_); (first | refine o_n (peval_sound rfl) rfl ?_ | refine o_n (nl rfl rfl tc rfl) rfl ?_)))
  by_cases h2 : sp + 1 > 3000
  · rw [decide_eq_true (p := ((sp + 1 : Nat) : Int) > 3000) (by omega)]
    repeat' (first | refine e_nil ?_ | ((refine e_op ?_); (refine o_n (peval_sound rfl) rfl ?_)) | refine e_noU rfl rfl rfl ?_ | refine s_true rfl ?_)
    refine s_ret ⟨_, _, res0 rfl, ⟨[], [], a, sp + 1, AT, cT, AD, cD, AK, cK, rfl, ⟨ha, Nat.le_refl _, fun _ => rfl, fun h => by omega, by simp only [List.length_nil]; omega, by simp only [List.length_nil]; omega, fun h => by omega⟩, rfl⟩, ?_⟩
    rw [List.append_nil, List.append_nil]
    exact Ent.refl _
  rw [decide_eq_false (p := ((sp + 1 : Nat) : Int) > 3000) (by omega)]
  repeat' (first | refine e_nil ?_ | ((first | refine e_op ?_ | refine e_yes rfl ?_); (first | refine o_n (peval_sound rfl) rfl ?_ | refine o_n (nl rfl rfl tc rfl) rfl ?_)) | refine s_seq ?_ | refine s_region ?_ | refine s_skip ?_ | refine s_false rfl ?_)
  refine e_op (o_call (pick_w bw A0 A1 A2 A3 A4 c0 c1 c2 c3 c4 g he AP cP P a ha AT cT X (.slice AD Dn.length cD) (.slice AK St.length cK) (.slice AG GS.length cG) true (sp + 1) n hn AS cS) rfl (.cons .z .nil) (Can.and (Can.ro hG0) (Can.and (Can.ro hP0) (Can.ro hS0))) rfl ?_)
  rintro v V ⟨i, a', rfl, hi, hil, ha', rfl⟩
  simp only [List.cons_append, List.nil_append]
  obtain ⟨b9, o9, es9, rfl, hb9, he9, hc9⟩ := hG.prods.2.2 i hi
  obtain ⟨Ar, cr, rfl, hl9, hlN, hlK, hri⟩ := kPrd_open he9
  have hpi := prd_at hi
  have hr12 := hL.r _ (List.getElem_mem hi)
  repeat' (first | refine e_nil ?_ | ((refine e_op ?_); (first | refine o_n (peval_sound rfl) rfl ?_ | refine o_n (nl rfl rfl tc rfl) rfl ?_)) | refine s_seq ?_ | refine s_region ?_)
  refine e_op (o_n (n_index rfl rfl rfl rfl i rfl hi) rfl ?_)
  repeat' (((refine e_op ?_); (refine o_n (peval_sound rfl) rfl ?_)))
  refine e_op (o_n (n_load_ro rfl rfl hb9 (loads_one rfl (hc9 1 _ rfl))) rfl ?_)
  repeat' (first | refine e_nil ?_ | ((refine e_op ?_); (first | refine o_n (peval_sound rfl) rfl ?_ | refine o_n (nl rfl rfl tc rfl) rfl ?_)) | refine s_seq ?_ | refine s_region ?_ | refine s_block ?_)
  refine s_loopK (ι := {x : WIt // WOk g KS GS i q X St sp d x}) [0, 1, 2, 3, 8, 9, 10] rfl ⟨⟨0, q, a', sp + 1, [], [], [], AT, cT, AD, cD, AK, cK⟩, ⟨Nat.zero_le _, rfl, by rw [List.append_nil]; exact hq, by simpa using hv i hi hil, ha', Nat.le_refl _, by simp only; omega, by simp only [List.length_nil]; omega, by simp only [List.length_nil]; omega, fun _ => .nil⟩⟩ (fun x => [(11, .int .i64 x.1.k)])
    (fun x => [mkK bw (.slice A0 g.Terms.length c0) (.slice A1 g.Levels.length c1) (.slice A2 g.Pats.length c2) (.slice A3 g.Nons.length c3) (.slice (some ⟨b9, o9, none⟩) g.Prods.length c4) (.slice AP P.length cP) x.1.a (.slice x.1.AT (X ++ x.1.w).length x.1.cT) (.slice x.1.AD (Dn ++ x.1.E).length x.1.cD) (.slice x.1.AK (St ++ x.1.R).length x.1.cK) (.slice AG GS.length cG) true x.1.sp, osl 3 1 (.slice x.1.AK (St ++ x.1.R).length x.1.cK) (St ++ x.1.R).length (encM (St ++ x.1.R)), osl 3 1 (.slice x.1.AT (X ++ x.1.w).length x.1.cT) (X ++ x.1.w).length (encM (X ++ x.1.w)), osl 68 3 (.slice x.1.AD (Dn ++ x.1.E).length x.1.cD) (Dn ++ x.1.E).length (encW (Dn ++ x.1.E))]) (fun x => (prd g i).Right.length - x.1.k) ?_ ?_ ?_
  · repeat' (first | exact Sub.nil _ | refine Sub.cons rfl ?_)
  · simp only [List.append_nil]; exact Ent.refl _
  rintro ⟨⟨k, q', ak, sk, wk, Ek, Rk, AT2, cT2, AD2, cD2, AK2, cK2⟩, hx⟩
  simp only
  obtain ⟨xk, xr, xl, xv, xa, xs0, xs1, xw, xe, xo⟩ := hx
  simp only at xk xr xl xv xa xs0 xs1 xw xe xo
  have hXl2 : (X ++ wk).length = X.length + wk.length := List.length_append
  have hDl2 : (Dn ++ Ek).length = Dn.length + Ek.length := List.length_append
  have hSl2 : (St ++ Rk).length = St.length + Rk.length := List.length_append
  have hwk1 : IntKind.i64.wrap ((k : Int) + 1) = ((k + 1 : Nat) : Int) := by rw [wrap_i64] <;> (rw [hpi] at xk; omega)
  have hkl := xk
  rw [hpi] at hkl
  repeat' (first | refine e_nil ?_ | ((refine e_op ?_); (refine o_n (peval_sound rfl) rfl ?_)) | refine s_seq ?_ | refine s_region ?_)
  by_cases hk : k < g.Prods[i].Right.length
  · rw [decide_eq_true (p := (k : Int) < (g.Prods[i].Right.length : Int)) (by omega)]
    obtain ⟨s, p1, p2, j, hbe, hgv, hne, hvn⟩ := xv.next hF (by simp only; rw [hpi]; omega)
    simp only at p1 p2 hgv hbe hne
    have hkp : k < (prd g i).Right.length := by rw [hpi]; exact hk
    have hbk := beh_at (g := g) (i := i) (k := k) hkp
    rw [hbe] at hbk
    rw [hne] at hvn
    have hRk : g.Prods[i].Right[k] = (s : Int) := by rw [hpi, List.getD_eq_getElem?_getD, List.getElem?_eq_getElem hk] at hbk; exact hbk.symm
    have hjG : j < GS.length := by rw [hF.gk]; exact hvn.1
    have hrow := hF.row q' p1
    have hGn := hF.n
    have hGk := hF.gk
    obtain ⟨br, orr, er, rfl, hbr, ⟨rfl, hsI⟩, hcr⟩ := hri.2.2 k hk
    rw [hRk] at hcr
    repeat' (first | refine s_seq ?_ | refine s_block ?_ | refine s_skip ?_ | refine s_true rfl ?_)
    refine s_drawU [] Tryd.mixed (by decide +kernel) ?_
    repeat' (((refine l_n (peval_sound rfl) rfl ?_ rfl ?_); · (exact Ent.refl _)))
    refine l_n (n_index rfl rfl rfl rfl k rfl hk) rfl (Ent.refl _) rfl ?_
    refine l_n (n_load_ro rfl rfl hbr (loads_one rfl (hcr 0 _ rfl))) rfl (Ent.refl _) rfl ?_
    repeat' (first | refine l_nil ?_ | ((first | refine l_n (peval_sound rfl) rfl ?_ rfl ?_ | refine l_n (nl rfl rfl tc rfl) rfl ?_ rfl ?_); · (exact Ent.refl _)))
    by_cases hst : s < g.Terms.length
    · rw [decide_eq_true (p := (s : Int) < (g.Terms.length : Int)) (by omega)]
      repeat' (refine s_true rfl ?_)
      refine s_P Tryd.mixed (by decide +kernel) ?_
      refine p_mv 0 rfl rfl (by decide +kernel) rfl ?_
      refine p_mv 1 rfl rfl (by decide +kernel) rfl ?_
      refine p_mv 5 rfl rfl (by decide +kernel) rfl ?_
      refine p_mv 6 rfl rfl (by decide +kernel) rfl ?_
      refine p_barU 10 ?_
      refine q_n 2 rfl (peval_sound rfl) (by decide +kernel) (by decide +kernel) (Ent.refl _) rfl ?_
      refine q_n 3 rfl (peval_sound rfl) (by decide +kernel) (by decide +kernel) (Ent.refl _) rfl ?_
      refine q_n 4 rfl (nl rfl rfl tc rfl) (by decide +kernel) (by decide +kernel) (Ent.refl _) rfl ?_
      refine q_n 7 rfl (n_index rfl rfl rfl rfl k rfl hk) (by decide +kernel) (by decide +kernel) (Ent.refl _) rfl ?_
      refine q_n 8 rfl (n_load_ro rfl rfl hbr (loads_one rfl (hcr 0 _ rfl))) (by decide +kernel) (by decide +kernel) (Ent.refl _) rfl ?_
      refine q_1 9 (by decide +kernel) rfl rfl rfl (o_lit (ps := [(0, .int .i64 s)]) (cs := [.int .i64 s]) rfl rfl rfl rfl rfl rfl rfl (fun bl => ⟨Ent.wk (Ent.refl _), ?_⟩))
      refine q_z 10 (by decide +kernel) rfl rfl (o_append (v := .slice AT2 (X ++ wk).length cT2) (n := (X ++ wk).length) (m := 1) (xs := encM (X ++ wk)) (news := [.int .i64 s]) _ rfl rfl rfl rfl (fun w hm q u hu => ?_) rfl ?_ rfl (by omega) (by simp only; omega) (by omega) rfl (fun b c => .s (.s (.s .z))) (fun ba ca => ?_))
      · obtain ⟨S2, hP, _⟩ := hm.tak .z
        rw [Nat.zero_add]
        exact osl_cells hP q u hu
      · simp [oneB]
      refine p_barU 13 ?_
      refine q_n 11 rfl (peval_sound rfl) (by decide +kernel) (by decide +kernel) (Ent.refl _) rfl ?_
      refine q_n 12 rfl (peval_sound rfl) (by decide +kernel) (by decide +kernel) (Ent.refl _) rfl ?_
      refine q_z 13 (by decide +kernel) rfl rfl (o_storeC rfl rfl rfl rfl tc uc rfl rfl rfl ?_)
      refine p_done (by decide +kernel) ?_
      have q1 : (X ++ (wk ++ [s])).length = (X ++ wk).length + 1 := by simp only [List.length_append, List.length_singleton]; omega
      have q2 : encM (X ++ (wk ++ [s])) = encM (X ++ wk) ++ [.int .i64 s] := by unfold encM; rw [← List.append_assoc, List.map_append]; rfl
      refine s_weak (fr' := [(11, .int .i64 k), (0, ptrN bw), (1, .int .i64 n), (2, .slice AS g.Nons.length cS), (3, .int .i64 deep), (8, .int .i64 i), (9, .slice (some ⟨br, orr, none⟩) g.Prods[i].Right.length cr), (10, .int .i64 St.length)]) (V := [mkK bw (.slice A0 g.Terms.length c0) (.slice A1 g.Levels.length c1) (.slice A2 g.Pats.length c2) (.slice A3 g.Nons.length c3) (.slice (some ⟨b9, o9, none⟩) g.Prods.length c4) (.slice AP P.length cP) ak (.slice (some ⟨ba, 0, none⟩) (X ++ (wk ++ [s])).length ca) (.slice AD2 (Dn ++ Ek).length cD2) (.slice AK2 (St ++ Rk).length cK2) (.slice AG GS.length cG) true sk, osl 3 1 (.slice AK2 (St ++ Rk).length cK2) (St ++ Rk).length (encM (St ++ Rk)), osl 3 1 (.slice (some ⟨ba, 0, none⟩) (X ++ (wk ++ [s])).length ca) (X ++ (wk ++ [s])).length (encM (X ++ (wk ++ [s]))), osl 68 3 (.slice AD2 (Dn ++ Ek).length cD2) (Dn ++ Ek).length (encW (Dn ++ Ek))]) ?_ ?_ ?_
      · repeat' (first | exact Sub.nil _ | refine Sub.cons rfl ?_)
      · rw [q1, q2]; exact Ent.wk (Ent.refl _)
      repeat' (first | ((refine e_op ?_); (refine o_n (peval_sound rfl) rfl ?_)) | refine s_region ?_)
      refine e_op (o_n (n_index rfl rfl rfl rfl k rfl hk) rfl ?_)
      refine e_op (o_n (n_load_ro rfl rfl hbr (loads_one rfl (hcr 0 _ rfl))) rfl ?_)
      skip
      refine e_op (o_call (push_w bw _ _ _ _ _ _ ak _ _ (St ++ Rk) AK2 cK2 (by omega) GS AG cG sk s j q' xl p1 p2 hgv hjG (by omega) (by omega)) rfl (.cons .z (.cons .z .nil)) (Can.ro hGo0) rfl ?_)
      rintro v V ⟨AK5, cK5, rfl, rfl⟩
      simp only [List.cons_append, List.nil_append]
      repeat' (first | refine e_nil ?_ | ((refine e_op ?_); (refine o_n (peval_sound rfl) rfl ?_)) | refine s_region ?_ | refine s_end ?_)
      rw [List.append_assoc St Rk [j]]
      refine s_back ⟨⟨⟨k + 1, j, ak, sk, wk ++ [s], Ek, Rk ++ [j], (some ⟨ba, 0, none⟩), ca, AD2, cD2, AK5, cK5⟩, ⟨hkp, by simp only [List.length_append, List.length_singleton]; omega, by simp only; rw [← List.append_assoc, List.getLast?_concat], by push_cast; exact hvn, by simp only; omega, by simp only; omega, by simp only; omega, by simp only [List.length_append, List.length_singleton]; omega, by simp only [List.length_append]; omega, fun h => .term (xo h) hkp hbk.symm hst hne⟩⟩, by simp only; omega, ?_, Ent.refl _⟩
      repeat' (first | exact Sub.nil _ | refine Sub.cons rfl ?_ | refine Sub.consE rfl ?_ ?_)
      exact inc (i := k) (by omega)
    · rw [decide_eq_false (p := (s : Int) < (g.Terms.length : Int)) (by omega)]
      have hws : IntKind.i64.wrap ((s : Int) - (g.Terms.length : Int)) = ((s - g.Terms.length : Nat) : Int) := by rw [wrap_i64] <;> omega
      have hwd : IntKind.i64.wrap ((deep : Int) + 1) = ((deep + 1 : Nat) : Int) := by rw [wrap_i64] <;> omega
      repeat' (refine s_false rfl ?_)
      refine s_P Tryd.mixed (by decide +kernel) ?_
      refine p_mv 0 rfl rfl (by decide +kernel) rfl ?_
      refine p_mv 1 rfl rfl (by decide +kernel) rfl ?_
      refine p_mv 2 rfl rfl (by decide +kernel) rfl ?_
      refine p_mv 5 rfl rfl (by decide +kernel) rfl ?_
      refine p_mv 12 rfl rfl (by decide +kernel) rfl ?_
      refine p_mv 13 rfl rfl (by decide +kernel) rfl ?_
      refine p_barU 15 ?_
      refine q_n 3 rfl (n_index rfl rfl rfl rfl k rfl hk) (by decide +kernel) (by decide +kernel) (Ent.refl _) rfl ?_
      refine q_n 4 rfl (n_load_ro rfl rfl hbr (loads_one rfl (hcr 0 _ rfl))) (by decide +kernel) (by decide +kernel) (Ent.refl _) rfl ?_
      refine q_n 6 rfl (peval_sound rfl) (by decide +kernel) (by decide +kernel) (Ent.refl _) rfl ?_
      refine q_n 7 rfl (peval_sound rfl) (by decide +kernel) (by decide +kernel) (Ent.refl _) rfl ?_
      refine q_n 8 rfl (peval_sound rfl) (by decide +kernel) (by decide +kernel) (Ent.refl _) rfl ?_
      refine q_n 9 rfl (nl rfl rfl tc rfl) (by decide +kernel) (by decide +kernel) (Ent.refl _) rfl ?_
      refine q_n 10 rfl (peval_sound rfl) (by decide +kernel) (by decide +kernel) (Ent.refl _) rfl ?_
      refine q_n 11 rfl (peval_sound rfl) (by decide +kernel) (by decide +kernel) (Ent.refl _) rfl ?_
      refine q_n 14 rfl (peval_sound rfl) (by decide +kernel) (by decide +kernel) (Ent.refl _) rfl ?_
      rw [hws, hwd]
      refine q_z 15 (by decide +kernel) rfl rfl (o_call (ih bw A0 A1 A2 A3 (some ⟨b9, o9, none⟩) c0 c1 c2 c3 c4 g he KS GS hF AP cP P ak xa AT2 cT2 (X ++ wk) AD2 cD2 (Dn ++ Ek) AK2 cK2 (St ++ Rk) AG cG sk (s - g.Terms.length) (by omega) AS cS q' xl (fun k' hk' hl' => xv.prod hF hk' (by rw [hbe, hl']; omega)) (by omega) (by omega) (by omega) (by omega) (by omega)) rfl (.cons .z (.cons .z (.cons .z (.cons .z .nil)))) (Can.and (Can.ro hG0) (Can.and (Can.ro hP0) (Can.and (Can.ro hS0) (Can.ro hGo0)))) rfl ?_)
      rintro v V ⟨wn, En, an, sn, AT3, cT3, AD3, cD3, AK3, cK3, rfl, ⟨ra, rs0, rs1, rs2, rw_, re, ro⟩, rfl⟩
      simp only [List.cons_append, List.nil_append]
      refine p_done (by decide +kernel) ?_
      rw [List.append_assoc X wk wn, List.append_assoc Dn Ek En]
      repeat' (first | ((refine e_op ?_); (refine o_n (peval_sound rfl) rfl ?_)) | refine s_region ?_)
      refine e_op (o_n (n_index rfl rfl rfl rfl k rfl hk) rfl ?_)
      refine e_op (o_n (n_load_ro rfl rfl hbr (loads_one rfl (hcr 0 _ rfl))) rfl ?_)
      skip
      refine e_op (o_call (push_w bw _ _ _ _ _ _ an _ _ (St ++ Rk) AK3 cK3 (by omega) GS AG cG sn s j q' xl p1 p2 hgv hjG (by omega) (by omega)) rfl (.cons .z (.cons .z .nil)) (Can.ro hGo0) rfl ?_)
      rintro v V ⟨AK5, cK5, rfl, rfl⟩
      simp only [List.cons_append, List.nil_append]
      repeat' (first | refine e_nil ?_ | ((refine e_op ?_); (refine o_n (peval_sound rfl) rfl ?_)) | refine s_region ?_ | refine s_end ?_)
      rw [List.append_assoc St Rk [j]]
      refine s_back ⟨⟨⟨k + 1, j, an, sn, wk ++ wn, Ek ++ En, Rk ++ [j], AT3, cT3, AD3, cD3, AK5, cK5⟩, ⟨hkp, by simp only [List.length_append, List.length_singleton]; omega, by simp only; rw [← List.append_assoc, List.getLast?_concat], by push_cast; exact hvn, by simp only; omega, by simp only; omega, by simp only; omega, by simp only [List.length_append, List.length_singleton]; omega, by simp only [List.length_append]; omega, fun h => .name (xo (by simp only at h; omega)) hkp (by rw [← hbk]; omega) (by omega) (ro h).1 (ro h).2 hne⟩⟩, by simp only; omega, ?_, Ent.refl _⟩
      repeat' (first | exact Sub.nil _ | refine Sub.cons rfl ?_ | refine Sub.consE rfl ?_ ?_)
      exact inc (i := k) (by omega)
  rw [decide_eq_false (p := (k : Int) < (g.Prods[i].Right.length : Int)) (by omega)]
  obtain rfl : k = (prd g i).Right.length := by rw [hpi] at xk ⊢; omega
  obtain ⟨hl1, hl2⟩ := lastM xl
  have hwm : IntKind.i64.wrap (((St ++ Rk).length : Int) - 1) = (((St ++ Rk).length - 1 : Nat) : Int) := by rw [wrap_i64] <;> omega
  refine s_open (.s .z) (by omega) ?_
  rintro bK rfl
  refine s_cap (.s .z) (fun hcK => ?_)
  repeat' (first | refine s_seq ?_ | refine s_exit ?_ | refine s_false rfl ?_ | refine x_hit ?_ | refine x_code ?_ | refine x_back ?_)
  refine s_P Tryd.mixed (by decide +kernel) ?_
  refine p_mv 0 rfl rfl (by decide +kernel) rfl ?_
  refine p_mv 1 rfl rfl (by decide +kernel) rfl ?_
  refine p_mv 5 rfl rfl (by decide +kernel) rfl ?_
  refine p_mv 6 rfl rfl (by decide +kernel) rfl ?_
  refine p_mv 10 rfl rfl (by decide +kernel) rfl ?_
  refine p_mv 18 rfl rfl (by decide +kernel) rfl ?_
  refine p_barU 25 ?_
  refine q_n 2 rfl (peval_sound rfl) (by decide +kernel) (by decide +kernel) (Ent.refl _) rfl ?_
  refine q_n 3 rfl (peval_sound rfl) (by decide +kernel) (by decide +kernel) (Ent.refl _) rfl ?_
  refine q_n 4 rfl (nl rfl rfl tc rfl) (by decide +kernel) (by decide +kernel) (Ent.refl _) rfl ?_
  refine q_n 7 rfl (peval_sound rfl) (by decide +kernel) (by decide +kernel) (Ent.refl _) rfl ?_
  refine q_n 8 rfl (peval_sound rfl) (by decide +kernel) (by decide +kernel) (Ent.refl _) rfl ?_
  refine q_n 9 rfl (nl rfl rfl tc rfl) (by decide +kernel) (by decide +kernel) (Ent.refl _) rfl ?_
  refine q_n 11 rfl (peval_sound rfl) (by decide +kernel) (by decide +kernel) (Ent.refl _) rfl ?_
  refine q_n 12 rfl (peval_sound rfl) (by decide +kernel) (by decide +kernel) (Ent.refl _) rfl ?_
  refine q_n 13 rfl (nl rfl rfl tc rfl) (by decide +kernel) (by decide +kernel) (Ent.refl _) rfl ?_
  refine q_n 14 rfl (peval_sound rfl) (by decide +kernel) (by decide +kernel) (Ent.refl _) rfl ?_
  refine q_n 15 rfl (peval_sound rfl) (by decide +kernel) (by decide +kernel) (Ent.refl _) rfl ?_
  rw [hwm]
  refine q_n 16 rfl (n_index rfl rfl rfl rfl ((St ++ Rk).length - 1) rfl hl1) (by decide +kernel) (by decide +kernel) (Ent.refl _) rfl ?_
  refine q_n 17 rfl (n_load_osl rfl rfl (.s .z) (loadM (i := (St ++ Rk).length - 1) (o := 0 + ((St ++ Rk).length - 1) * 1) hl1 (by omega))) (by decide +kernel) (by decide +kernel) (Ent.refl _) rfl ?_
  rw [hl2]
  refine q_n 19 rfl (peval_sound rfl) (by decide +kernel) (by decide +kernel) (Ent.refl _) rfl ?_
  refine q_n 20 rfl (peval_sound rfl) (by decide +kernel) (by decide +kernel) (Ent.refl _) rfl ?_
  refine q_n 21 rfl (nl rfl rfl tc rfl) (by decide +kernel) (by decide +kernel) (Ent.refl _) rfl ?_
  refine q_n 22 rfl (peval_sound rfl) (by decide +kernel) (by decide +kernel) (Ent.refl _) rfl ?_
  refine q_n 23 rfl (peval_sound rfl) (by decide +kernel) (by decide +kernel) (Ent.refl _) rfl ?_
  refine q_1 24 (by decide +kernel) rfl rfl rfl (o_lit (ps := [(0, .agg #[.int .i64 i, .int .i64 q', .int .i64 (X ++ wk).length])]) (cs := [.int .i64 i, .int .i64 q', .int .i64 (X ++ wk).length]) rfl rfl rfl rfl rfl rfl rfl (fun bl => ⟨Ent.wk (Ent.refl _), ?_⟩))
  refine q_z 25 (by decide +kernel) rfl rfl (o_append (v := .slice AD2 (Dn ++ Ek).length cD2) (n := (Dn ++ Ek).length) (m := 1) (xs := encW (Dn ++ Ek)) (news := encW1 ⟨i, q', (X ++ wk).length⟩) _ rfl rfl rfl rfl (fun w hm q u hu => ?_) rfl ?_ rfl (by omega) (by simp only; omega) (by omega) rfl (fun b c => .s (.s (.s (.s .z)))) (fun ba ca => ?_))
  · obtain ⟨S2, hP, _⟩ := hm.tak .z
    rw [Nat.zero_add]
    exact osl_cells hP q u hu
  · simp [oneB]
  refine p_barU 28 ?_
  refine q_n 26 rfl (peval_sound rfl) (by decide +kernel) (by decide +kernel) (Ent.refl _) rfl ?_
  refine q_n 27 rfl (peval_sound rfl) (by decide +kernel) (by decide +kernel) (Ent.refl _) rfl ?_
  refine q_z 28 (by decide +kernel) rfl rfl (o_storeC rfl rfl rfl rfl tc uc rfl rfl rfl ?_)
  refine p_done (by decide +kernel) ?_
  repeat' (first | ((refine e_op ?_); (first | refine o_n (peval_sound rfl) rfl ?_ | refine o_n (nl rfl rfl tc rfl) rfl ?_)) | refine s_region ?_)
  refine e_op (o_n (n_headV St.length rfl rfl rfl rfl rfl (by omega)) rfl ?_)
  repeat' (first | refine e_nil ?_ | ((refine e_op ?_); (first | refine o_n (peval_sound rfl) rfl ?_ | refine o_storeC rfl rfl rfl rfl tc uc rfl rfl rfl ?_)))
  refine s_nil ?_
  have q1 : (Dn ++ (Ek ++ [(⟨i, q', (X ++ wk).length⟩ : Wh)])).length = (Dn ++ Ek).length + 1 := by simp only [List.length_append, List.length_singleton]; omega
  have q2 : encW (Dn ++ (Ek ++ [(⟨i, q', (X ++ wk).length⟩ : Wh)])) = encW (Dn ++ Ek) ++ encW1 ⟨i, q', (X ++ wk).length⟩ := by unfold encW; rw [← List.append_assoc, List.flatMap_append]; simp
  have hkd : (prd g i).Right.length = g.Prods[i].Right.length := by rw [hpi]
  refine ⟨_, _, res0 rfl, ⟨wk, Ek ++ [⟨i, q', (X ++ wk).length⟩], ak, sk, AT2, cT2, some ⟨ba, 0, none⟩, ca, some ⟨bK, 0, none⟩, cK2, rfl, ⟨xa, xs0, fun h => by omega, fun _ => by omega, by omega, by simp only [List.length_append, List.length_singleton]; omega, fun h => kid_of he hi hil (xo h)⟩, rfl⟩, ?_⟩
  rw [q1, q2]
  have hshr : ∀ V, Ent (osl 3 1 (.slice (some ⟨bK, 0, none⟩) (St ++ Rk).length cK2) (St ++ Rk).length (encM (St ++ Rk)) :: V) (osl 3 1 (.slice (some ⟨bK, 0, none⟩) St.length cK2) St.length (encM St) :: V) := fun V => by
    have h := ent_oslTake (e := 3) (sz := 1) (n := (St ++ Rk).length) (c := cK2) (m := St.length) (A := some ⟨bK, 0, none⟩) (xs := encM (St ++ Rk)) (V := V) (by omega)
    have q3 : (encM (St ++ Rk)).take (St.length * 1) = encM St := by unfold encM; rw [Nat.mul_one, ← List.map_take, List.take_left]
    rw [q3] at h
    exact h
  exact Ent.wk (Ent.cons (hshr _))

theorem walk_all : ∀ d deep : Nat, deep + d = 402 → WalkC deep d
  | 0, deep, h => by
    obtain rfl : deep = 402 := by omega
    intro bw A0 A1 A2 A3 A4 c0 c1 c2 c3 c4 g he KS GS hF AP cP P a ha AT cT X AD cD Dn AK cK St AG cG sp n hn AS cS q hq hv hsp hdp hXl hDl hSl
    refine trip Tryd.tabOk Tryd.func33 rfl rfl rfl rfl ?_
    rintro w SM -
    have hwa : IntKind.i64.wrap ((sp : Int) + 1) = ((sp + 1 : Nat) : Int) := by rw [wrap_i64] <;> omega
    repeat' (first | refine e_nil ?_ | ((refine e_op ?_); (first | refine o_n (peval_sound rfl) rfl ?_ | refine o_n (nl rfl rfl tc rfl) rfl ?_ | refine o_storeC rfl rfl rfl rfl tc uc rfl rfl rfl ?_)) | refine e_noU rfl rfl rfl ?_ | refine s_seq ?_ | refine s_region ?_ | refine s_true rfl ?_)
    rw [hwa]
    skip
    rw [decide_eq_true (p := ((402 : Nat) : Int) > 400) (by omega)]
    skip
    refine s_ret ⟨_, _, res0 rfl, ⟨[], [], a, sp + 1, AT, cT, AD, cD, AK, cK, rfl, ⟨ha, Nat.le_refl _, fun _ => rfl, fun h => by omega, by simp only [List.length_nil]; omega, by simp only [List.length_nil]; omega, fun h => by omega⟩, rfl⟩, ?_⟩
    rw [List.append_nil, List.append_nil]
    exact Ent.refl _
  | d + 1, deep, h => walk_step deep d (by omega) (walk_all d (deep + 1) (by omega))

end Go.Proofs.YtcbaebkkdkdaaaaDoor
