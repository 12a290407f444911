/-
  Walking a tree: which production, and which state: walked.
-/
import Derived.Test.YtcbaebkkdkdaaaaDoorCQE1
import Derived.Test.YtcbaebkkdkdaaaaDoorCQE3
import Derived.Test.YtcbaebkkdkdaaaaDoorCQPA
import Derived.Test.YtcbaebkkdkdaaaaDoorCQF0
import Derived.Test.YtcbaebkkdkdaaaaDoorAhBase4

namespace Go.Proofs.YtcbaebkkdkdaaaaDoor
set_option linter.all false
open Go.Proofs.YtcbaebkkdkdaaaaDoor.E

abbrev mkK (bw : Nat) (g0 g1 g2 g3 g4 pk : Value) (at_ : Nat) (tx dn st go : Value) (fi : Bool) (sp : Nat) : Asn := blk bw 64 [g0, g1, g2, g3, g4, pk, .int .i64 at_, tx, dn, st, go, .bool fi, .int .i64 sp]
def waysL (g : Gram) (n : Nat) : Nat → List Int
  | 0 => []
  | k + 1 => if (prd g k).Left = (n : Int) then waysL g n k ++ [(k : Int)] else waysL g n k
theorem waysL_ok {g : Gram} {n : Nat} : ∀ k, (∀ x ∈ waysL g n k, ∃ i : Nat, x = (i : Int) ∧ i < k ∧ (prd g i).Left = (n : Int)) ∧ (∀ i : Nat, i < k → (prd g i).Left = (n : Int) → 0 < (waysL g n k).length) ∧ (waysL g n k).length ≤ k
  | 0 => ⟨fun x hx => (nomatch hx), fun i hi => by omega, Nat.le_refl _⟩
  | k + 1 => by
    obtain ⟨h1, h2, h3⟩ := waysL_ok (g := g) (n := n) k
    unfold waysL
    split
    · rename_i hl
      refine ⟨fun x hx => ?_, fun i hi hli => by simp, by simp; omega⟩
      rcases List.mem_append.1 hx with hx | hx
      · obtain ⟨i, e1, e2, e3⟩ := h1 x hx
        exact ⟨i, e1, by omega, e3⟩
      · rw [List.mem_singleton] at hx
        exact ⟨k, hx, by omega, hl⟩
    · rename_i hl
      refine ⟨fun x hx => ?_, fun i hi hli => ?_, by omega⟩
      · obtain ⟨i, e1, e2, e3⟩ := h1 x hx
        exact ⟨i, e1, by omega, e3⟩
      · by_cases e : i = k
        · subst e; exact absurd hli hl
        · exact h2 i (by omega) hli
theorem some_way {g : Gram} (he : checkE g = 0) {n : Nat} (hn : n < g.Nons.length) : ∃ i : Nat, i < g.Prods.length ∧ (prd g i).Left = (n : Int) := by
  have hl : (leastL g).length = g.Nons.length := (LInv.it (checkE_ok he).2 g.Nons.length).n
  obtain ⟨i, h1, _, h3⟩ := least_all he n (by rw [hl]; exact hn)
  exact ⟨i, h1, h3⟩

attribute [local irreducible] EVX EVO EVL EV1 NEV
attribute [local irreducible] own osl exA rdA rdL
attribute [local irreducible] bldA mapA bun mapS
set_option maxRecDepth 10000
set_option maxHeartbeats 4000000

theorem bring_w (x m : Int) (hx : I64 x) (hm : I64 m) (hm0 : 0 < m) : Trip Tryd.prog 58 [.int .i64 x, .int .i64 m] Rd.tt [] (fun v V => v = .int .i64 (bringN x m) ∧ V = []) := by
  refine trip Tryd.tabOk Tryd.func58 rfl rfl rfl rfl ?_
  rintro w SM hW
  clear hW
  have hb : bringN x m = if x.tmod m < 0 then x.tmod m + m else x.tmod m := by unfold bringN; rw [if_neg (by omega)]
  have h1 := Int.tmod_lt_of_pos x hm0
  have h1' := tmod_gt x hm0
  unfold I64 at hm
  repeat' (first | refine e_nil ?_ | ((refine e_op ?_); (refine o_n (peval_sound rfl) rfl ?_)) | refine s_seq ?_ | refine s_region ?_)
  rw [decide_eq_false (p := m ≤ 0) (by omega)]
  repeat' (first | ((refine e_op ?_); (refine o_n (peval_sound rfl) rfl ?_)) | refine s_seq ?_ | refine s_region ?_ | refine s_skip ?_ | refine s_false rfl ?_)
  refine e_op (o_n (n_rem rfl rfl (by omega)) rfl ?_)
  repeat' (first | refine e_nil ?_ | ((refine e_op ?_); (refine o_n (peval_sound rfl) rfl ?_)) | refine s_seq ?_ | refine s_region ?_)
  refine s_cond rfl (fun h => ?_) (fun h => ?_)
  · have h2 := of_decide_eq_true h
    have hw : IntKind.i64.wrap (x.tmod m + m) = x.tmod m + m := by rw [wrap_i64] <;> omega
    repeat' (first | refine e_nil ?_ | ((refine e_op ?_); (refine o_n (peval_sound rfl) rfl ?_)) | refine s_seq ?_ | refine s_region ?_)
    rw [hw]
    refine s_ret ⟨_, _, res1 rfl rfl, ⟨?_, rfl⟩, Ent.nil _⟩
    rw [hb, if_pos h2]
  · have h2 := of_decide_eq_false h
    repeat' (first | refine e_nil ?_ | ((refine e_op ?_); (refine o_n (peval_sound rfl) rfl ?_)) | refine s_seq ?_ | refine s_region ?_ | refine s_skip ?_)
    refine s_ret ⟨_, _, res1 rfl rfl, ⟨?_, rfl⟩, Ent.nil _⟩
    rw [hb, if_neg h2]


theorem pick_w (bw : Nat) (A0 A1 A2 A3 A4 : Option Addr) (c0 c1 c2 c3 c4 : Nat) (g : Gram) (he : checkE g = 0) (AP : Option Addr) (cP : Nat) (P : List Int) (a : Nat) (ha : a ≤ 60) (AT : Option Addr) (cT : Nat) (X : List Nat) (dn st go : Value) (fi : Bool) (sp : Nat) (n : Nat) (hn : n < g.Nons.length) (AS : Option Addr) (cS : Nat) :
    Trip Tryd.prog 61 [ptrN bw, .int .i64 n, .slice AS g.Nons.length cS] ((kGram.rd [.slice A0 g.Terms.length c0, .slice A1 g.Levels.length c1, .slice A2 g.Pats.length c2, .slice A3 g.Nons.length c3, .slice A4 g.Prods.length c4] g).and (((kslice 8 kint).rd [.slice AP P.length cP] P).and ((kslice 8 kint).rd [.slice AS g.Nons.length cS] (leastL g))))
      [mkK bw (.slice A0 g.Terms.length c0) (.slice A1 g.Levels.length c1) (.slice A2 g.Pats.length c2) (.slice A3 g.Nons.length c3) (.slice A4 g.Prods.length c4) (.slice AP P.length cP) a (.slice AT X.length cT) dn st go fi sp]
      (fun v V => ∃ i a' : Nat, v = .int .i64 i ∧ i < g.Prods.length ∧ (prd g i).Left = (n : Int) ∧ a' ≤ 60 ∧ V = [mkK bw (.slice A0 g.Terms.length c0) (.slice A1 g.Levels.length c1) (.slice A2 g.Pats.length c2) (.slice A3 g.Nons.length c3) (.slice A4 g.Prods.length c4) (.slice AP P.length cP) a' (.slice AT X.length cT) dn st go fi sp]) := by
  refine trip Tryd.tabOk Tryd.func61 rfl rfl rfl rfl ?_
  rintro w SM ⟨hG0, hP0, hS0⟩
  obtain ⟨_, _, _, _, _, _, _, _, _, _, e, hG⟩ := kGram_open hG0
  cases e
  obtain ⟨_, _, e, hP1, hP2, hP3⟩ := hP0
  simp only [List.cons.injEq, Value.slice.injEq, and_true, true_and] at e
  obtain ⟨rfl, rfl⟩ := e
  obtain ⟨_, _, e, hS1, hS2, hS3⟩ := hS0
  simp only [List.cons.injEq, Value.slice.injEq, and_true, true_and] at e
  obtain ⟨rfl, _, rfl⟩ := e
  obtain ⟨hlm, hwf⟩ := checkE_ok he
  have hL := lims hlm
  have hPr := hL.p
  repeat' (first | refine e_nil ?_ | ((refine e_op ?_); (refine o_n (peval_sound rfl) rfl ?_)) | refine s_seq ?_ | refine s_region ?_ | refine s_block ?_)
  refine s_ent (Ent.osl0 (e := 3) (sz := 1) (Ent.refl _)) ?_
  refine s_loopK (ι := {x : Nat × Option Addr × Nat // x.1 ≤ g.Prods.length}) [0, 1, 2] rfl ⟨(0, none, 0), by omega⟩ (fun x => [(8, .int .i64 x.1.1), (7, .slice x.1.2.1 (waysL g n x.1.1).length x.1.2.2)])
    (fun x => [osl 3 1 (.slice x.1.2.1 (waysL g n x.1.1).length x.1.2.2) (waysL g n x.1.1).length (intL (waysL g n x.1.1)), mkK bw (.slice A0 g.Terms.length c0) (.slice A1 g.Levels.length c1) (.slice A2 g.Pats.length c2) (.slice A3 g.Nons.length c3) (.slice A4 g.Prods.length c4) (.slice AP P.length cP) a (.slice AT X.length cT) dn st go fi sp]) (fun x => g.Prods.length - x.1.1) ?_ (Ent.refl _) ?_
  · repeat' (first | exact Sub.nil _ | refine Sub.cons rfl ?_)
  rintro ⟨⟨k, Aw, cw⟩, hk⟩
  simp only at hk ⊢
  obtain ⟨hw1, hw2, hw3⟩ := waysL_ok (g := g) (n := n) k
  have hsu : waysL g n (k + 1) = if (prd g k).Left = (n : Int) then waysL g n k ++ [(k : Int)] else waysL g n k := rfl
  repeat' (first | refine e_nil ?_ | ((refine e_op ?_); (first | refine o_n (peval_sound rfl) rfl ?_ | refine o_n (nl rfl rfl tc rfl) rfl ?_)) | refine s_seq ?_ | refine s_region ?_)
  by_cases hkl : k < g.Prods.length
  · rw [decide_eq_true (p := (k : Int) < (g.Prods.length : Int)) (by omega)]
    obtain ⟨b9, o9, es9, rfl, hb9, he9, hc9⟩ := hG.prods.2.2 k hkl
    obtain ⟨Ar, cr, rfl, hl9, hlN, hlK, hri⟩ := kPrd_open he9
    rw [prd_at hkl] at hsu
    repeat' (first | ((refine e_op ?_); (first | refine o_n (peval_sound rfl) rfl ?_ | refine o_n (nl rfl rfl tc rfl) rfl ?_)) | refine s_seq ?_ | refine s_region ?_ | refine s_block ?_ | refine s_skip ?_ | refine s_true rfl ?_)
    refine e_op (o_n (n_index rfl rfl rfl rfl k rfl hkl) rfl ?_)
    repeat' (((refine e_op ?_); (refine o_n (peval_sound rfl) rfl ?_)))
    refine e_op (o_n (n_load_ro rfl rfl hb9 (loads_one rfl (hc9 0 _ rfl))) rfl ?_)
    repeat' (first | refine e_nil ?_ | ((refine e_op ?_); (refine o_n (peval_sound rfl) rfl ?_)))
    by_cases hle : g.Prods[k].Left = (n : Int)
    · rw [show (g.Prods[k].Left == (n : Int)) = true by simpa using hle]
      rw [if_pos hle] at hsu
      repeat' (first | ((refine e_op ?_); (refine o_n (peval_sound rfl) rfl ?_)) | refine s_region ?_ | refine s_true rfl ?_)
      refine e_op (o_lit (ps := [(0, .int .i64 k)]) (cs := [.int .i64 k]) rfl rfl rfl rfl rfl rfl rfl (fun bl => ?_))
      skip
      refine e_op (o_append (v := .slice Aw (waysL g n k).length cw) (n := (waysL g n k).length) (m := 1) (xs := intL (waysL g n k)) (news := [.int .i64 k]) _ rfl rfl rfl rfl (fun w hm q u hu => ?_) rfl ?_ rfl (by omega) (by simp only; omega) (by omega) rfl (fun b c => .s .z) (fun ba ca => ?_))
      · obtain ⟨S2, hP, _⟩ := hm.tak .z
        rw [Nat.zero_add]
        exact osl_cells hP q u hu
      · simp [oneB]
      repeat' (first | refine e_nil ?_ | ((refine e_op ?_); (refine o_n (peval_sound rfl) rfl ?_)) | refine s_region ?_ | refine s_end ?_)
      have q1 : (waysL g n (k + 1)).length = (waysL g n k).length + 1 := by rw [hsu]; simp
      have q2 : intL (waysL g n (k + 1)) = intL (waysL g n k) ++ [.int .i64 k] := by rw [hsu]; unfold intL; rw [List.map_append]; rfl
      refine s_back ⟨⟨(k + 1, some ⟨ba, 0, none⟩, ca), by simp only; omega⟩, by simp only; omega, ?_, ?_⟩
      · simp only [q1]
        repeat' (first | exact Sub.nil _ | refine Sub.cons rfl ?_ | refine Sub.consE rfl ?_ ?_)
        exact inc (i := k) (by omega)
      · simp only [q1, q2]
        exact Ent.wk (Ent.refl _)
    · rw [show (g.Prods[k].Left == (n : Int)) = false by simpa using hle]
      rw [if_neg hle] at hsu
      repeat' (first | refine e_nil ?_ | ((refine e_op ?_); (refine o_n (peval_sound rfl) rfl ?_)) | refine s_region ?_ | refine s_end ?_ | refine s_skip ?_ | refine s_false rfl ?_)
      refine s_back ⟨⟨(k + 1, Aw, cw), by simp only; omega⟩, by simp only; omega, ?_, ?_⟩
      · simp only [hsu]
        repeat' (first | exact Sub.nil _ | refine Sub.cons rfl ?_ | refine Sub.consE rfl ?_ ?_)
        exact inc (i := k) (by omega)
      · simp only [hsu]
        exact Ent.refl _
  rw [decide_eq_false (p := (k : Int) < (g.Prods.length : Int)) (by omega)]
  obtain rfl : k = g.Prods.length := by omega
  clear hsu
  obtain ⟨i0, hi0, hl0⟩ := some_way he hn
  have hwp := hw2 i0 hi0 hl0
  generalize waysL g n g.Prods.length = ws at hw1 hw2 hw3 hwp ⊢
  refine s_open .z hwp ?_
  rintro bws rfl
  repeat' (first | refine s_seq ?_ | refine s_exit ?_ | refine s_false rfl ?_ | refine x_hit ?_ | refine x_code ?_ | refine x_back ?_)
  refine s_join (ι := {b : Bool // b = true → a < P.length ∧ a < 60}) (fun b => [(58, .bool b.1), (7, .slice (some ⟨bws, 0, none⟩) ws.length cw), (0, ptrN bw), (1, .int .i64 n), (2, .slice AS g.Nons.length cS)]) (fun _ => [osl 3 1 (.slice (some ⟨bws, 0, none⟩) ws.length cw) ws.length (intL ws), mkK bw (.slice A0 g.Terms.length c0) (.slice A1 g.Levels.length c1) (.slice A2 g.Pats.length c2) (.slice A3 g.Nons.length c3) (.slice A4 g.Prods.length c4) (.slice AP P.length cP) a (.slice AT X.length cT) dn st go fi sp]) (fun hj => ?_) ?_
  · refine s_drawU [] Tryd.mixed (by decide +kernel) ?_
    repeat' (((first | refine l_n (peval_sound rfl) rfl ?_ rfl ?_ | refine l_n (nl rfl rfl tc rfl) rfl ?_ rfl ?_); · (exact Ent.refl _)))
    by_cases h1 : a < P.length
    · rw [decide_eq_true (p := (a : Int) < (P.length : Int)) (by omega)]
      repeat' (((first | refine l_n (peval_sound rfl) rfl ?_ rfl ?_ | refine l_ny rfl (peval_sound rfl) rfl ?_ rfl ?_ | refine l_ny rfl (nl rfl rfl tc rfl) rfl ?_ rfl ?_); · (exact Ent.refl _)))
      by_cases h2 : a < 60
      · rw [decide_eq_true (p := (a : Int) < 60) (by omega)]
        repeat' (first | refine l_nil ?_ | ((first | refine l_n (peval_sound rfl) rfl ?_ rfl ?_ | refine l_ny rfl (peval_sound rfl) rfl ?_ rfl ?_ | refine l_ny rfl (nl rfl rfl tc rfl) rfl ?_ rfl ?_); · (exact Ent.refl _)))
        refine s_weak ?_ (Ent.refl _) (hj ⟨decide ((X.length : Int) < 100), fun _ => ⟨h1, h2⟩⟩)
        repeat' (first | exact Sub.nil _ | refine Sub.cons rfl ?_)
      · rw [decide_eq_false (p := (a : Int) < 60) (by omega)]
        repeat' (first | refine l_nil ?_ | ((first | refine l_no rfl rfl rfl ?_ rfl ?_ | refine l_n (peval_sound rfl) rfl ?_ rfl ?_); · (exact Ent.refl _)))
        refine s_weak ?_ (Ent.refl _) (hj ⟨false, fun h => by cases h⟩)
        repeat' (first | exact Sub.nil _ | refine Sub.cons rfl ?_)
    · rw [decide_eq_false (p := (a : Int) < (P.length : Int)) (by omega)]
      repeat' (first | refine l_nil ?_ | ((first | refine l_no rfl rfl rfl ?_ rfl ?_ | refine l_n (peval_sound rfl) rfl ?_ rfl ?_); · (exact Ent.refl _)))
      refine s_weak ?_ (Ent.refl _) (hj ⟨false, fun h => by cases h⟩)
      repeat' (first | exact Sub.nil _ | refine Sub.cons rfl ?_)
  rintro ⟨b, hb⟩
  simp only
  cases b with
  | false =>
    have hll : (leastL g).length = g.Nons.length := (LInv.it hwf g.Nons.length).n
    obtain ⟨i, hi, hie, hil⟩ := least_all he n (by omega)
    obtain ⟨bs, os, es, rfl, hbs, ⟨rfl, _⟩, hcs⟩ := hS3 n (by omega)
    rw [hie] at hcs
    repeat' (first | ((refine e_op ?_); (refine o_n (peval_sound rfl) rfl ?_)) | refine s_seq ?_ | refine s_region ?_ | refine s_skip ?_ | refine s_false rfl ?_)
    refine e_op (o_n (n_index rfl rfl rfl rfl n rfl hn) rfl ?_)
    refine e_op (o_n (n_load_ro rfl rfl hbs (loads_one rfl (hcs 0 _ rfl))) rfl ?_)
    repeat' (first | refine e_nil ?_ | ((refine e_op ?_); (refine o_n (peval_sound rfl) rfl ?_)))
    refine s_ret ⟨_, _, res1 rfl rfl, ⟨i, a, rfl, hi, hil, ha, rfl⟩, Ent.wk (Ent.refl _)⟩
  | true =>
    obtain ⟨h1, h2⟩ := hb rfl
    obtain ⟨bp, op, ep, rfl, hbp, ⟨rfl, hpI⟩, hcp⟩ := hP3 a h1
    generalize P[a] = pv at hpI hcp
    have hwa : IntKind.i64.wrap ((a : Int) + 1) = ((a + 1 : Nat) : Int) := by rw [wrap_i64] <;> omega
    have hwb : IntKind.i64.wrap (((a + 1 : Nat) : Int) - 1) = (a : Int) := by rw [wrap_i64] <;> omega
    have hbr := bringN_rng (x := pv) (m := (ws.length : Int)) (by omega)
    obtain ⟨j, hj⟩ : ∃ j : Nat, bringN pv (ws.length : Int) = (j : Int) := ⟨(bringN pv (ws.length : Int)).toNat, by omega⟩
    have hjl : j < ws.length := by omega
    obtain ⟨i, e1, e2, e3⟩ := hw1 _ (List.getElem_mem hjl)
    have hgj : ws.getD j 0 = (i : Int) := by rw [List.getD_eq_getElem?_getD, List.getElem?_eq_getElem hjl]; exact e1
    repeat' (first | refine e_nil ?_ | ((refine e_op ?_); (first | refine o_n (peval_sound rfl) rfl ?_ | refine o_n (nl rfl rfl tc rfl) rfl ?_ | refine o_storeC rfl rfl rfl rfl tc uc rfl rfl rfl ?_)) | refine s_seq ?_ | refine s_region ?_ | refine s_true rfl ?_)
    rw [hwa]
    skip
    refine s_weak (fr' := [(7, .slice (some ⟨bws, 0, none⟩) ws.length cw), (0, ptrN bw), (1, .int .i64 n), (2, .slice AS g.Nons.length cS)]) (V := [osl 3 1 (.slice (some ⟨bws, 0, none⟩) ws.length cw) ws.length (intL ws), mkK bw (.slice A0 g.Terms.length c0) (.slice A1 g.Levels.length c1) (.slice A2 g.Pats.length c2) (.slice A3 g.Nons.length c3) (.slice A4 g.Prods.length c4) (.slice (some ⟨bp, op, none⟩) P.length cP) (a + 1) (.slice AT X.length cT) dn st go fi sp]) ?_ (Ent.refl _) ?_
    · repeat' (first | exact Sub.nil _ | refine Sub.cons rfl ?_)
    skip
    refine s_drawU [14] Tryd.mixed (by decide +kernel) ?_
    repeat' (((first | refine l_n (peval_sound rfl) rfl ?_ rfl ?_ | refine l_n (nl rfl rfl tc rfl) rfl ?_ rfl ?_); · (exact Ent.refl _)))
    rw [hwb]
    refine l_n (n_index rfl rfl rfl rfl a rfl h1) rfl (Ent.refl _) rfl ?_
    refine l_n (n_load_ro rfl rfl hbp (loads_one rfl (hcp 0 _ rfl))) rfl (Ent.refl _) rfl ?_
    repeat' (((refine l_n (peval_sound rfl) rfl ?_ rfl ?_); · (exact Ent.refl _)))
    refine l_e rfl (o_call (bring_w pv (ws.length : Int) hpI ⟨by omega, by omega⟩ (by omega)) rfl .nil Can.tt rfl ?_)
    rintro v V ⟨rfl, rfl⟩
    refine ⟨Ent.refl _, ?_⟩
    simp only [List.nil_append]
    rw [hj]
    refine l_n (n_index rfl rfl rfl rfl j rfl hjl) rfl (Ent.refl _) rfl ?_
    refine l_n (n_load_osl rfl rfl .z (loadI (i := j) (o := 0 + j * 1) hjl (by omega))) rfl (Ent.refl _) rfl ?_
    rw [hgj]
    repeat' (first | refine l_nil ?_ | ((refine l_n (peval_sound rfl) rfl ?_ rfl ?_); · (exact Ent.refl _)))
    skip
    refine s_ret ⟨_, _, res1 rfl rfl, ⟨i, a + 1, rfl, e2, e3, by omega, rfl⟩, Ent.wk (Ent.refl _)⟩

theorem lastM {St : List Nat} {q : Nat} (hq : St.getLast? = some q) : ∃ h : St.length - 1 < St.length, St[St.length - 1]'h = q := by
  rw [List.getLast?_eq_getElem?] at hq
  obtain ⟨h, e⟩ := List.getElem?_eq_some_iff.1 hq
  exact ⟨h, e⟩
theorem push_w (bw : Nat) (g0 g1 g2 g3 g4 pk : Value) (a : Nat) (tx dn : Value) (St : List Nat) (AK : Option Addr) (cK : Nat) (hSl : St.length ≤ 100000) (GS : List (List Int)) (AG : Option Addr) (cG : Nat) (sp : Nat) (s j q : Nat) (hq : St.getLast? = some q) (hqG : q < GS.length) (hs : s < (GS[q]'hqG).length) (hv : (GS[q]'hqG)[s]'hs = (j : Int)) (hj : j < GS.length) (hGl : GS.length ≤ 100000) (hRl : (GS[q]'hqG).length ≤ 100000) :
    Trip Tryd.prog 62 [ptrN bw, .int .i64 s] ((kslice 24 (kslice 8 kint)).rd [.slice AG GS.length cG] GS)
      [mkK bw g0 g1 g2 g3 g4 pk a tx dn (.slice AK St.length cK) (.slice AG GS.length cG) true sp, osl 3 1 (.slice AK St.length cK) St.length (encM St)]
      (fun v V => ∃ AK' cK', v = .tuple #[] ∧ V = [mkK bw g0 g1 g2 g3 g4 pk a tx dn (.slice AK' (St ++ [j]).length cK') (.slice AG GS.length cG) true sp, osl 3 1 (.slice AK' (St ++ [j]).length cK') (St ++ [j]).length (encM (St ++ [j]))]) := by
  refine trip Tryd.tabOk Tryd.func62 rfl rfl rfl rfl ?_
  rintro w SM hG0
  obtain ⟨_, _, e, hG1, hG2, hG3⟩ := hG0
  simp only [List.cons.injEq, Value.slice.injEq, and_true, true_and] at e
  obtain ⟨rfl, _, rfl⟩ := e
  obtain ⟨hl1, hl2⟩ := lastM hq
  refine s_open (.s .z) (by omega) ?_
  rintro bK rfl
  have hwm : IntKind.i64.wrap ((St.length : Int) - 1) = ((St.length - 1 : Nat) : Int) := by rw [wrap_i64] <;> omega
  obtain ⟨br, orr, er, rfl, hbr, her, hcr⟩ := hG3 q hqG
  obtain ⟨Ar, cr, rfl, hr1, hr2, hr3⟩ := her
  simp only [kslice] at hcr
  repeat' (refine s_seq ?_)
  refine s_drawU [] Tryd.mixed (by decide +kernel) ?_
  repeat' (((first | refine l_n (peval_sound rfl) rfl ?_ rfl ?_ | refine l_n (nl rfl rfl tc rfl) rfl ?_ rfl ?_); · (exact Ent.refl _)))
  rw [hwm]
  refine l_n (n_index rfl rfl rfl rfl (St.length - 1) rfl hl1) rfl (Ent.refl _) rfl ?_
  refine l_n (n_load_osl rfl rfl (.s .z) (loadM (i := St.length - 1) (o := 0 + (St.length - 1) * 1) hl1 (by omega))) rfl (Ent.refl _) rfl ?_
  rw [hl2]
  repeat' (first | refine l_nil ?_ | ((refine l_n (peval_sound rfl) rfl ?_ rfl ?_); · (exact Ent.refl _)))
  repeat' (first | refine e_nil ?_ | ((refine e_op ?_); (first | refine o_n (peval_sound rfl) rfl ?_ | refine o_n (nl rfl rfl tc rfl) rfl ?_)) | refine s_seq ?_ | refine s_region ?_)
  rw [decide_eq_true (p := (q : Int) < (GS.length : Int)) (by omega)]
  repeat' (((refine e_yes rfl ?_); (first | refine o_n (peval_sound rfl) rfl ?_ | refine o_n (nl rfl rfl tc rfl) rfl ?_)))
  refine e_yes rfl (o_n (n_index rfl rfl rfl rfl q rfl hqG) rfl ?_)
  skip
  refine e_yes rfl (o_n (n_load_ro rfl rfl hbr (loads_one rfl (hcr 0 _ rfl))) rfl ?_)
  repeat' (first | refine e_nil ?_ | ((first | refine e_op ?_ | refine e_yes rfl ?_); (refine o_n (peval_sound rfl) rfl ?_)))
  obtain ⟨bs, os, es, rfl, hbs, ⟨rfl, _⟩, hcs⟩ := hr3 s hs
  rw [hv] at hcs
  rw [decide_eq_true (p := (s : Int) < ((GS[q]'hqG).length : Int)) (by omega)]
  repeat' (first | ((refine e_op ?_); (first | refine o_n (peval_sound rfl) rfl ?_ | refine o_n (nl rfl rfl tc rfl) rfl ?_)) | refine s_region ?_ | refine s_true rfl ?_)
  refine e_op (o_n (n_index rfl rfl rfl rfl q rfl hqG) rfl ?_)
  skip
  refine e_op (o_n (n_load_ro rfl rfl hbr (loads_one rfl (hcr 0 _ rfl))) rfl ?_)
  repeat' (((refine e_op ?_); (refine o_n (peval_sound rfl) rfl ?_)))
  refine e_op (o_n (n_index rfl rfl rfl rfl s rfl hs) rfl ?_)
  skip
  refine e_op (o_n (n_load_ro rfl rfl hbs (loads_one rfl (hcs 0 _ rfl))) rfl ?_)
  repeat' (first | refine e_nil ?_ | ((first | refine e_op ?_ | refine e_yes rfl ?_); (first | refine o_n (peval_sound rfl) rfl ?_ | refine o_n (nl rfl rfl tc rfl) rfl ?_)) | refine s_seq ?_ | refine s_region ?_)
  rw [decide_eq_false (p := (j : Int) < 0) (by omega)]
  skip
  rw [decide_eq_false (p := (j : Int) ≥ (GS.length : Int)) (by omega)]
  repeat' (first | ((refine e_op ?_); (first | refine o_n (peval_sound rfl) rfl ?_ | refine o_n (nl rfl rfl tc rfl) rfl ?_)) | refine s_region ?_ | refine s_skip ?_ | refine s_false rfl ?_)
  refine e_op (o_lit (ps := [(0, .int .i64 j)]) (cs := [.int .i64 j]) rfl rfl rfl rfl rfl rfl rfl (fun bl => ?_))
  skip
  refine e_op (o_append (v := .slice (some ⟨bK, 0, none⟩) St.length cK) (n := St.length) (m := 1) (xs := encM St) (news := [.int .i64 j]) _ rfl rfl rfl rfl (fun w hm q u hu => ?_) rfl ?_ rfl (by omega) (by simp only; omega) (by omega) rfl (fun b c => .s (.s .z)) (fun ba ca => ?_))
  · obtain ⟨S2, hP, _⟩ := hm.tak .z
    rw [Nat.zero_add]
    exact osl_cells hP q u hu
  · simp [oneB]
  repeat' (first | refine e_nil ?_ | ((refine e_op ?_); (first | refine o_n (peval_sound rfl) rfl ?_ | refine o_storeC rfl rfl rfl rfl tc uc rfl rfl rfl ?_)))
  have q1 : (St ++ [j]).length = St.length + 1 := by simp
  have q2 : encM (St ++ [j]) = encM St ++ [.int .i64 j] := by unfold encM; rw [List.map_append]; rfl
  refine s_nil ?_
  refine ⟨_, _, res0 rfl, ⟨some ⟨ba, 0, none⟩, ca, rfl, rfl⟩, ?_⟩
  rw [q1, q2]
  exact Ent.wk (Ent.refl _)

end Go.Proofs.YtcbaebkkdkdaaaaDoor
