/-
  Of each name a production by which it comes to terms: walked.
-/
import Derived.Test.YtcbaebkkdkdaaaaDoorCQE2
import Derived.Test.YtcbaebkkdkdaaaaDoorAhBase4

namespace Go.Proofs.YtcbaebkkdkdaaaaDoor
set_option linter.all false
open Go.Proofs.YtcbaebkkdkdaaaaDoor.E

abbrev intL (l : List Int) : List Value := l.map (Value.int .i64)
theorem loadI {l : List Int} {i o : Nat} (h : i < l.length) (ho : o = i) {s b : Nat} {z : List Value} : loadL ⟨.int .i64, s, b, z⟩ (intL l) o = some (.int .i64 (l.getD i 0)) := by
  subst ho; exact load_cell rfl (by rw [List.getElem?_map, List.getElem?_eq_getElem h, List.getD_eq_getElem?_getD, List.getElem?_eq_getElem h]; rfl)
theorem flat_intL : ∀ l : List Int, l.flatMap (fun x => [Value.int .i64 x]) = intL l
  | [] => rfl
  | x :: l => by rw [List.flatMap_cons, flat_intL l]; rfl
theorem allL_succ {g : Gram} {was : List Int} {i k : Nat} (h : k < (prd g i).Right.length) : allL g was i (k + 1) = (allL g was i k && okL g was ((prd g i).Right.getD k 0)) := by
  unfold allL
  rw [List.take_succ_eq_append_getElem h, List.all_append, List.getD_eq_getElem?_getD, List.getElem?_eq_getElem h]; simp
theorem allL_end {g : Gram} {was : List Int} {i k : Nat} (h : allL g was i k = false) : allL g was i (prd g i).Right.length = false := by
  unfold allL at h ⊢
  rw [List.take_length]
  cases h2 : (prd g i).Right.all (okL g was) with
  | false => rfl
  | true =>
    rw [List.all_eq_true] at h2
    have : ((prd g i).Right.take k).all (okL g was) = true := by rw [List.all_eq_true]; exact fun x hx => h2 x (List.mem_of_mem_take hx)
    rw [this] at h; cases h

attribute [local irreducible] EVX EVO EVL EV1 NEV
attribute [local irreducible] own osl exA rdA rdL
attribute [local irreducible] bldA mapA bun mapS
set_option maxRecDepth 10000
set_option maxHeartbeats 4000000

theorem least_w (cs : List Value) (g : Gram) (he : checkE g = 0) : Trip Tryd.prog 34 [.agg cs.toArray] (kGram.rd cs g) []
    (fun v V => ∃ bo, v = .slice (some ⟨bo, 0, none⟩) g.Nons.length g.Nons.length ∧ V = [osl 3 1 (.slice (some ⟨bo, 0, none⟩) g.Nons.length g.Nons.length) g.Nons.length (intL (leastL g))]) := by
  refine trip Tryd.tabOk Tryd.func34 rfl rfl rfl rfl ?_
  rintro w SM hG0
  obtain ⟨A0, A1, A2, A3, A4, c0, c1, c2, c3, c4, rfl, hG⟩ := kGram_open hG0
  obtain ⟨hlm, hwf⟩ := checkE_ok he
  have hL := lims hlm
  have hT := hL.t
  have hNo := hL.n
  have hPr := hL.p
  have hN2 := hwf.n
  repeat' (first | refine e_nil ?_ | ((refine e_op ?_); (first | refine o_n (peval_sound rfl) rfl ?_ | refine o_n (nl rfl rfl tc rfl) rfl ?_ | refine o_box rfl rfl (fun _ => ?_))) | refine s_seq ?_ | refine s_region ?_)
  refine e_op (o_make rfl rfl rfl rfl g.Nons.length rfl rfl (by omega) (by omega) rfl (fun bo => ?_))
  repeat' (first | refine e_nil ?_ | ((refine e_op ?_); (refine o_n (peval_sound rfl) rfl ?_)) | refine s_seq ?_ | refine s_region ?_ | refine s_block ?_)
  rename_i bg
  refine s_loopK (ι := {k : Nat // k ≤ g.Nons.length}) [1, 3, 4] rfl ⟨0, by omega⟩ (fun k => [(5, .int .i64 k.1)]) (fun k => [osl 3 1 (.slice (some ⟨bo, 0, none⟩) g.Nons.length g.Nons.length) g.Nons.length (List.replicate k.1 (Value.int .i64 (-1)) ++ List.replicate (g.Nons.length - k.1) (Value.int .i64 0)), blk bg 27 [.slice A0 g.Terms.length c0, .slice A1 g.Levels.length c1, .slice A2 g.Pats.length c2, .slice A3 g.Nons.length c3, .slice A4 g.Prods.length c4]]) (fun k => g.Nons.length - k.1) ?_ (Ent.refl _) ?_
  · repeat' (first | exact Sub.nil _ | refine Sub.cons rfl ?_)
  rintro ⟨k, hk⟩
  simp only at hk ⊢
  repeat' (first | refine e_nil ?_ | ((refine e_op ?_); (refine o_n (peval_sound rfl) rfl ?_)) | refine s_seq ?_ | refine s_region ?_)
  by_cases hkn : k < g.Nons.length
  · rw [decide_eq_true (p := (k : Int) < (g.Nons.length : Int)) (by omega)]
    repeat' (first | ((refine e_op ?_); (refine o_n (peval_sound rfl) rfl ?_)) | refine s_seq ?_ | refine s_region ?_ | refine s_block ?_ | refine s_skip ?_ | refine s_true rfl ?_)
    refine e_op (o_n (n_index rfl rfl rfl rfl k rfl hkn) rfl ?_)
    refine e_op (o_store_osl (vs := [.int .i64 (-1)]) rfl rfl rfl rfl rfl rfl (by rw [List.length_append, List.length_replicate, List.length_replicate]; simp only; omega) .z ?_)
    have hp : setMany (List.replicate k (Value.int .i64 (-1)) ++ List.replicate (g.Nons.length - k) (Value.int .i64 0)) (0 + k * 1) [.int .i64 (-1)] = List.replicate (k + 1) (Value.int .i64 (-1)) ++ List.replicate (g.Nons.length - (k + 1)) (Value.int .i64 0) := by
      simp only [setMany, Nat.zero_add, Nat.mul_one]
      have := pad_set (List.replicate k (Value.int .i64 (-1))) (g.Nons.length - (k + 1)) (Value.int .i64 0) (Value.int .i64 (-1))
      rw [List.length_replicate] at this
      rw [show g.Nons.length - k = (g.Nons.length - (k + 1)) + 1 by omega, this, List.replicate_succ' (n := k)]
    rw [hp]
    repeat' (first | refine e_nil ?_ | ((refine e_op ?_); (refine o_n (peval_sound rfl) rfl ?_)) | refine s_region ?_ | refine s_end ?_)
    refine s_back ⟨⟨k + 1, by omega⟩, by simp only; omega, ?_, Ent.refl _⟩
    repeat' (first | exact Sub.nil _ | refine Sub.cons rfl ?_ | refine Sub.consE rfl ?_ ?_)
    exact inc (i := k) (by omega)
  rw [decide_eq_false (p := (k : Int) < (g.Nons.length : Int)) (by omega)]
  obtain rfl : k = g.Nons.length := by omega
  rw [Nat.sub_self, List.replicate_zero, List.append_nil]
  repeat' (first | refine e_nil ?_ | ((refine e_op ?_); (refine o_n (peval_sound rfl) rfl ?_)) | refine s_seq ?_ | refine s_region ?_ | refine s_block ?_ | refine s_exit ?_ | refine s_false rfl ?_ | refine x_hit ?_ | refine x_code ?_ | refine x_back ?_)
  refine s_loopK (ι := {r : Nat // r ≤ g.Nons.length}) [1, 3, 4] rfl ⟨0, by omega⟩ (fun r => [(6, .int .i64 r.1)]) (fun r => [osl 3 1 (.slice (some ⟨bo, 0, none⟩) g.Nons.length g.Nons.length) g.Nons.length (intL (it (fun was => roundL g was g.Prods.length) r.1 (List.replicate g.Nons.length (-1)))), blk bg 27 [.slice A0 g.Terms.length c0, .slice A1 g.Levels.length c1, .slice A2 g.Pats.length c2, .slice A3 g.Nons.length c3, .slice A4 g.Prods.length c4]]) (fun r => g.Nons.length - r.1) ?_ ?_ ?_
  · repeat' (first | exact Sub.nil _ | refine Sub.cons rfl ?_)
  · refine Ent.trans (Ent.refl _) ?_
    show Ent _ (osl 3 1 (.slice (some ⟨bo, 0, none⟩) g.Nons.length g.Nons.length) g.Nons.length (intL (List.replicate g.Nons.length (-1))) :: _)
    unfold intL
    rw [List.map_replicate]
    exact Ent.refl _
  rintro ⟨r, hr⟩
  simp only at hr ⊢
  have hI := LInv.it hwf r
  have hsu : it (fun was => roundL g was g.Prods.length) (r + 1) (List.replicate g.Nons.length (-1)) = roundL g (it (fun was => roundL g was g.Prods.length) r (List.replicate g.Nons.length (-1))) g.Prods.length := it_succ _ _ _
  generalize hwl : it (fun was => roundL g was g.Prods.length) r (List.replicate g.Nons.length (-1)) = wl at hI hsu ⊢
  have hwn := hI.n
  have hwi : ∀ x ∈ wl, I64 x := fun x hx => by
    obtain ⟨m, hm, rfl⟩ := List.getElem_of_mem hx
    rcases hI.v m hm with e | ⟨i, hi, e, _⟩ <;> rw [e] <;> unfold I64 <;> omega
  repeat' (first | refine e_nil ?_ | ((refine e_op ?_); (first | refine o_n (peval_sound rfl) rfl ?_ | refine o_n (nl rfl rfl tc rfl) rfl ?_)) | refine s_seq ?_ | refine s_region ?_)
  by_cases hrn : r < g.Nons.length
  · rw [decide_eq_true (p := (r : Int) < (g.Nons.length : Int)) (by omega)]
    repeat' (first | ((refine e_op ?_); (refine o_n (peval_sound rfl) rfl ?_)) | refine s_seq ?_ | refine s_region ?_ | refine s_block ?_ | refine s_skip ?_ | refine s_true rfl ?_)
    refine e_op (o_copyO (k := kint) (bytes := 8) (fun x => [.int .i64 x]) kint_is onec_int rfl rfl rfl rfl hwn.symm (by rw [← hwn]; exact can_ints .z hwi (by omega)) rfl rfl (by omega) rfl rfl rfl (fun Aw cw => ?_))
    rw [flat_intL]
    refine e_open .z (by omega) ?_
    rintro bw rfl
    repeat' (first | refine e_nil ?_ | ((refine e_op ?_); (refine o_n (peval_sound rfl) rfl ?_)) | refine s_seq ?_ | refine s_region ?_ | refine s_block ?_)
    refine s_loopK (ι := {i : Nat // i ≤ g.Prods.length}) [1, 3, 4, 6, 7] rfl ⟨0, by omega⟩ (fun i => [(8, .int .i64 i.1)]) (fun i => [osl 3 1 (.slice (some ⟨bw, 0, none⟩) g.Nons.length cw) g.Nons.length (intL wl), osl 3 1 (.slice (some ⟨bo, 0, none⟩) g.Nons.length g.Nons.length) g.Nons.length (intL (roundL g wl i.1)), blk bg 27 [.slice A0 g.Terms.length c0, .slice A1 g.Levels.length c1, .slice A2 g.Pats.length c2, .slice A3 g.Nons.length c3, .slice A4 g.Prods.length c4]]) (fun i => g.Prods.length - i.1) ?_ (Ent.refl _) ?_
    · repeat' (first | exact Sub.nil _ | refine Sub.cons rfl ?_)
    rintro ⟨i, hi⟩
    simp only at hi ⊢
    have hIo := hI.round hwf i hi
    have hrs := roundL_succ g wl i
    generalize hol : roundL g wl i = ol at hIo hrs ⊢
    have hon := hIo.n
    repeat' (first | refine e_nil ?_ | ((refine e_op ?_); (first | refine o_n (peval_sound rfl) rfl ?_ | refine o_n (nl rfl rfl tc rfl) rfl ?_)) | refine s_seq ?_ | refine s_region ?_)
    by_cases hil : i < g.Prods.length
    · rw [decide_eq_true (p := (i : Int) < (g.Prods.length : Int)) (by omega)]
      obtain ⟨b9, o9, es9, rfl, hb9, he9, hc9⟩ := hG.prods.2.2 i hil
      obtain ⟨Ar, cr, rfl, hl9, hlN, hlK, hri⟩ := kPrd_open he9
      have hpi : prd g (i : Int) = g.Prods[i] := prd_at hil
      have hpo := prod_ok hwf hil
      have hr12 := hL.r _ (List.getElem_mem hil)
      obtain ⟨l, hlx⟩ : ∃ l : Nat, g.Prods[i].Left = (l : Int) := ⟨g.Prods[i].Left.toNat, by omega⟩
      have hlN2 : l < g.Nons.length := by omega
      have hlef : lefN g i = l := by unfold lefN; rw [hpi, hlx]; rfl
      repeat' (first | ((refine e_op ?_); (first | refine o_n (peval_sound rfl) rfl ?_ | refine o_n (nl rfl rfl tc rfl) rfl ?_)) | refine s_seq ?_ | refine s_region ?_ | refine s_block ?_ | refine s_skip ?_ | refine s_true rfl ?_)
      refine e_op (o_n (n_index rfl rfl rfl rfl i rfl hil) rfl ?_)
      repeat' (((refine e_op ?_); (refine o_n (peval_sound rfl) rfl ?_)))
      refine e_op (o_n (n_load_ro rfl rfl hb9 (loads_one rfl (hc9 0 _ rfl))) rfl ?_)
      rw [hlx]
      refine e_op (o_n (n_index rfl rfl rfl rfl l rfl hlN2) rfl ?_)
      refine e_op (o_n (n_load_osl rfl rfl .z (loadI (i := l) (o := 0 + l * 1) (by omega) (by omega))) rfl ?_)
      repeat' (first | refine e_nil ?_ | ((refine e_op ?_); (refine o_n (peval_sound rfl) rfl ?_)) | refine s_seq ?_ | refine s_region ?_ | refine s_block ?_)
      refine s_loopK (ι := {x : Nat × Bool // x.1 ≤ g.Prods[i].Right.length ∧ x.2 = (decide (wl.getD l 0 < 0) && allL g wl i x.1)}) [1, 3, 4, 6, 7, 8] rfl ⟨(0, decide (wl.getD l 0 < 0)), by omega, by unfold allL; simp⟩ (fun x => [(10, .int .i64 x.1.1), (9, .bool x.1.2)]) (fun _ => [osl 3 1 (.slice (some ⟨bw, 0, none⟩) g.Nons.length cw) g.Nons.length (intL wl), osl 3 1 (.slice (some ⟨bo, 0, none⟩) g.Nons.length g.Nons.length) g.Nons.length (intL ol), blk bg 27 [.slice A0 g.Terms.length c0, .slice A1 g.Levels.length c1, .slice A2 g.Pats.length c2, .slice A3 g.Nons.length c3, .slice (some ⟨b9, o9, none⟩) g.Prods.length c4]]) (fun x => g.Prods[i].Right.length - x.1.1) ?_ (Ent.refl _) ?_
      · repeat' (first | exact Sub.nil _ | refine Sub.cons rfl ?_)
      rintro ⟨⟨k, is⟩, hk2, his⟩
      simp only at hk2 his ⊢
      repeat' (first | ((refine e_op ?_); (first | refine o_n (peval_sound rfl) rfl ?_ | refine o_n (nl rfl rfl tc rfl) rfl ?_)) | refine s_seq ?_ | refine s_region ?_)
      refine e_op (o_n (n_index rfl rfl rfl rfl i rfl hil) rfl ?_)
      repeat' (((refine e_op ?_); (refine o_n (peval_sound rfl) rfl ?_)))
      refine e_op (o_n (n_load_ro rfl rfl hb9 (loads_one rfl (hc9 1 _ rfl))) rfl ?_)
      repeat' (((refine e_op ?_); (refine o_n (peval_sound rfl) rfl ?_)))
      by_cases hkl : k < g.Prods[i].Right.length
      · rw [decide_eq_true (p := (k : Int) < (g.Prods[i].Right.length : Int)) (by omega)]
        cases is with
        | false =>
          have hisL : isL g wl i = false := by
            unfold isL
            rw [hlef]
            cases hd : decide (wl.getD l 0 < 0) with
            | false => rfl
            | true =>
              rw [hd] at his
              simp only [Bool.true_and] at his
              rw [allL_end his.symm]; rfl
          have hno : stepL g wl ol i = ol := by unfold stepL; rw [hisL]; rfl
          rw [hno] at hrs
          repeat' (first | refine e_nil ?_ | ((first | refine e_op ?_ | refine e_yes rfl ?_); (refine o_n (peval_sound rfl) rfl ?_)) | refine e_noU rfl rfl rfl ?_ | refine s_seq ?_ | refine s_region ?_ | refine s_end ?_ | refine s_skip ?_ | refine s_exit ?_ | refine s_false rfl ?_ | refine x_hit ?_ | refine x_code ?_ | refine x_back ?_)
          refine s_back ⟨⟨i + 1, by omega⟩, by simp only; omega, ?_, ?_⟩
          · repeat' (first | exact Sub.nil _ | refine Sub.cons rfl ?_ | refine Sub.consE rfl ?_ ?_)
            exact inc (i := i) (by omega)
          · simp only [hrs]
            exact Ent.refl _
        | true =>
          obtain ⟨bk, ok, ek, rfl, hbk, ⟨rfl, hIk⟩, hck⟩ := hri.2.2 k hkl
          have hsy := hpo.2.2 _ (List.getElem_mem hkl)
          have has := allL_succ (g := g) (was := wl) (i := i) (k := k) (by rw [hpi]; exact hkl)
          have hgd : (prd g i).Right.getD k 0 = g.Prods[i].Right[k] := by rw [hpi, List.getD_eq_getElem?_getD, List.getElem?_eq_getElem hkl]; rfl
          rw [hgd] at has
          have hnext : ∀ b, b = okL g wl g.Prods[i].Right[k] → b = (decide (wl.getD l 0 < 0) && allL g wl i (k + 1)) := fun b hb => by
            rw [has, ← Bool.and_assoc, ← his, Bool.true_and]; exact hb
          generalize hsv : g.Prods[i].Right[k] = sy at *
          repeat' (first | refine e_nil ?_ | ((first | refine e_op ?_ | refine e_yes rfl ?_); (first | refine o_n (peval_sound rfl) rfl ?_ | refine o_n (nl rfl rfl tc rfl) rfl ?_)) | refine s_seq ?_ | refine s_region ?_ | refine s_block ?_ | refine s_skip ?_ | refine s_true rfl ?_)
          refine e_op (o_n (n_index rfl rfl rfl rfl i rfl hil) rfl ?_)
          repeat' (((refine e_op ?_); (refine o_n (peval_sound rfl) rfl ?_)))
          refine e_op (o_n (n_load_ro rfl rfl hb9 (loads_one rfl (hc9 1 _ rfl))) rfl ?_)
          repeat' (((refine e_op ?_); (refine o_n (peval_sound rfl) rfl ?_)))
          refine e_op (o_n (n_index rfl rfl rfl rfl k rfl hkl) rfl ?_)
          refine e_op (o_n (n_load_ro rfl rfl hbk (loads_one rfl (hck 0 _ rfl))) rfl ?_)
          repeat' (first | refine e_nil ?_ | ((refine e_op ?_); (refine o_n (peval_sound rfl) rfl ?_)) | refine s_region ?_)
          by_cases hst : sy < g.Terms.length
          · rw [decide_eq_true hst]
            have hv := hnext true (by unfold okL; rw [decide_eq_true hst]; rfl)
            repeat' (first | refine e_nil ?_ | ((refine e_op ?_); (refine o_n (peval_sound rfl) rfl ?_)) | refine e_noU rfl rfl rfl ?_ | refine s_region ?_ | refine s_end ?_)
            refine s_back ⟨⟨(k + 1, true), by simp only; omega, hv⟩, by simp only; omega, ?_, Ent.refl _⟩
            repeat' (first | exact Sub.nil _ | refine Sub.cons rfl ?_ | refine Sub.consE rfl ?_ ?_)
            exact inc (i := k) (by omega)
          · rw [decide_eq_false hst]
            obtain ⟨m, hm⟩ : ∃ m : Nat, sy - g.Terms.length = (m : Int) := ⟨(sy - g.Terms.length).toNat, by omega⟩
            have hmN : m < g.Nons.length := by omega
            have hwm : IntKind.i64.wrap (sy - (g.Terms.length : Int)) = (m : Int) := by rw [hm, wrap_i64] <;> omega
            have hgm : wl.getD m (-1) = wl.getD m 0 := by rw [List.getD_eq_getElem?_getD, List.getD_eq_getElem?_getD, List.getElem?_eq_getElem (by omega)]; rfl
            have hv := hnext (decide (wl.getD m 0 ≥ 0)) (by unfold okL; rw [decide_eq_false hst, hm, Int.toNat_natCast, hgm]; rfl)
            repeat' (((refine e_yes rfl ?_); (refine o_n (peval_sound rfl) rfl ?_)))
            rw [hwm]
            refine e_yes rfl (o_n (n_index rfl rfl rfl rfl m rfl hmN) rfl ?_)
            refine e_yes rfl (o_n (n_load_osl rfl rfl .z (loadI (i := m) (o := 0 + m * 1) (by omega) (by omega))) rfl ?_)
            repeat' (first | refine e_nil ?_ | ((first | refine e_op ?_ | refine e_yes rfl ?_); (refine o_n (peval_sound rfl) rfl ?_)) | refine s_region ?_ | refine s_end ?_)
            refine s_back ⟨⟨(k + 1, decide (wl.getD m 0 ≥ 0)), by simp only; omega, hv⟩, by simp only; omega, ?_, Ent.refl _⟩
            repeat' (first | exact Sub.nil _ | refine Sub.cons rfl ?_ | refine Sub.consE rfl ?_ ?_)
            exact inc (i := k) (by omega)
      · rw [decide_eq_false (p := (k : Int) < (g.Prods[i].Right.length : Int)) (by omega)]
        obtain rfl : k = g.Prods[i].Right.length := by omega
        have hisL : isL g wl i = is := by unfold isL; rw [hlef, his, hpi]
        repeat' (first | refine e_nil ?_ | ((refine e_op ?_); (refine o_n (peval_sound rfl) rfl ?_)) | refine e_noU rfl rfl rfl ?_ | refine s_seq ?_ | refine s_region ?_ | refine s_exit ?_ | refine s_false rfl ?_ | refine x_hit ?_ | refine x_code ?_ | refine x_back ?_)
        cases is with
        | false =>
          have hno : stepL g wl ol i = ol := by unfold stepL; rw [hisL]; rfl
          rw [hno] at hrs
          repeat' (first | refine e_nil ?_ | ((refine e_op ?_); (refine o_n (peval_sound rfl) rfl ?_)) | refine e_noU rfl rfl rfl ?_ | refine s_region ?_ | refine s_end ?_ | refine s_skip ?_ | refine s_false rfl ?_)
          refine s_back ⟨⟨i + 1, by omega⟩, by simp only; omega, ?_, ?_⟩
          · repeat' (first | exact Sub.nil _ | refine Sub.cons rfl ?_ | refine Sub.consE rfl ?_ ?_)
            exact inc (i := i) (by omega)
          · simp only [hrs]
            exact Ent.refl _
        | true =>
          repeat' (((refine e_yes rfl ?_); (first | refine o_n (peval_sound rfl) rfl ?_ | refine o_n (nl rfl rfl tc rfl) rfl ?_)))
          refine e_yes rfl (o_n (n_index rfl rfl rfl rfl i rfl hil) rfl ?_)
          repeat' (((refine e_yes rfl ?_); (refine o_n (peval_sound rfl) rfl ?_)))
          refine e_yes rfl (o_n (n_load_ro rfl rfl hb9 (loads_one rfl (hc9 0 _ rfl))) rfl ?_)
          rw [hlx]
          refine e_yes rfl (o_n (n_index rfl rfl rfl rfl l rfl hlN2) rfl ?_)
          refine e_yes rfl (o_n (n_load_osl rfl rfl (.s .z) (loadI (i := l) (o := 0 + l * 1) (by omega) (by omega))) rfl ?_)
          repeat' (first | refine e_nil ?_ | ((first | refine e_op ?_ | refine e_yes rfl ?_); (refine o_n (peval_sound rfl) rfl ?_)))
          by_cases hneg : ol.getD l 0 < 0
          · rw [decide_eq_true hneg]
            have hyes : stepL g wl ol i = ol.set l (i : Int) := by unfold stepL; rw [hisL, hlef, decide_eq_true hneg]; rfl
            rw [hyes] at hrs
            repeat' (first | ((refine e_op ?_); (first | refine o_n (peval_sound rfl) rfl ?_ | refine o_n (nl rfl rfl tc rfl) rfl ?_)) | refine s_region ?_ | refine s_true rfl ?_)
            refine e_op (o_n (n_index rfl rfl rfl rfl i rfl hil) rfl ?_)
            repeat' (((refine e_op ?_); (refine o_n (peval_sound rfl) rfl ?_)))
            refine e_op (o_n (n_load_ro rfl rfl hb9 (loads_one rfl (hc9 0 _ rfl))) rfl ?_)
            rw [hlx]
            repeat' (((refine e_op ?_); (refine o_n (peval_sound rfl) rfl ?_)))
            refine e_op (o_n (n_index rfl rfl rfl rfl l rfl hlN2) rfl ?_)
            refine e_op (o_store_osl (vs := [.int .i64 (i : Int)]) rfl rfl rfl rfl rfl rfl (by rw [List.length_map]; simp only; omega) (.s .z) ?_)
            have hp : setMany (intL ol) (0 + l * 1) [.int .i64 (i : Int)] = intL (ol.set l (i : Int)) := by simp only [setMany, Nat.zero_add, Nat.mul_one]; unfold intL; rw [List.map_set]
            rw [hp]
            repeat' (first | refine e_nil ?_ | ((refine e_op ?_); (refine o_n (peval_sound rfl) rfl ?_)) | refine s_region ?_ | refine s_end ?_)
            refine s_back ⟨⟨i + 1, by omega⟩, by simp only; omega, ?_, ?_⟩
            · repeat' (first | exact Sub.nil _ | refine Sub.cons rfl ?_ | refine Sub.consE rfl ?_ ?_)
              exact inc (i := i) (by omega)
            · simp only [hrs]
              exact Ent.refl _
          · rw [decide_eq_false hneg]
            have hno : stepL g wl ol i = ol := by unfold stepL; rw [hlef, decide_eq_false hneg]; simp
            rw [hno] at hrs
            repeat' (first | refine e_nil ?_ | ((refine e_op ?_); (refine o_n (peval_sound rfl) rfl ?_)) | refine s_region ?_ | refine s_end ?_ | refine s_skip ?_ | refine s_false rfl ?_)
            refine s_back ⟨⟨i + 1, by omega⟩, by simp only; omega, ?_, ?_⟩
            · repeat' (first | exact Sub.nil _ | refine Sub.cons rfl ?_ | refine Sub.consE rfl ?_ ?_)
              exact inc (i := i) (by omega)
            · simp only [hrs]
              exact Ent.refl _
    · rw [decide_eq_false (p := (i : Int) < (g.Prods.length : Int)) (by omega)]
      obtain rfl : i = g.Prods.length := by omega
      repeat' (first | refine e_nil ?_ | ((refine e_op ?_); (refine o_n (peval_sound rfl) rfl ?_)) | refine s_region ?_ | refine s_end ?_ | refine s_exit ?_ | refine s_false rfl ?_ | refine x_hit ?_ | refine x_code ?_ | refine x_back ?_)
      refine s_back ⟨⟨r + 1, by omega⟩, by simp only; omega, ?_, ?_⟩
      · repeat' (first | exact Sub.nil _ | refine Sub.cons rfl ?_ | refine Sub.consE rfl ?_ ?_)
        exact inc (i := r) (by omega)
      · simp only
        rw [hsu, hol]
        exact Ent.wk (Ent.refl _)
  · rw [decide_eq_false (p := (r : Int) < (g.Nons.length : Int)) (by omega)]
    obtain rfl : r = g.Nons.length := by omega
    repeat' (first | refine e_nil ?_ | ((refine e_op ?_); (refine o_n (peval_sound rfl) rfl ?_)) | refine s_seq ?_ | refine s_region ?_ | refine s_exit ?_ | refine s_false rfl ?_ | refine x_hit ?_ | refine x_code ?_ | refine x_back ?_)
    refine s_ret ⟨_, _, res1 rfl rfl, ⟨bo, rfl, rfl⟩, ?_⟩
    unfold leastL
    rw [hwl]
    exact Ent.cons (Ent.nil _)

end Go.Proofs.YtcbaebkkdkdaaaaDoor
