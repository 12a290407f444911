/-
  The statement EarleyMore, walked.
-/
import Derived.Test.YtjeimmekhfhepaaCEN2
import Derived.Test.YtjeimmekhfhepaaErBase3

namespace Go.Proofs.Ytjeimmekhfhepaa
set_option linter.all false
open Go.Proofs.Ytjeimmekhfhepaa.E

attribute [local irreducible] EVX EVO EVL EV1 NEV
attribute [local irreducible] own osl exA rdA rdL
attribute [local irreducible] bldA mapA bun mapS nums iterA mapV
set_option maxRecDepth 10000
set_option maxHeartbeats 4000000

theorem more24_w (cs : List Value) (g : Gram) (h0 h1 : Int) (i0 : I64 h0) (i1 : I64 h1) (Al : Option Addr) (ml cl : Nat) (l : List Int) (hml : ml = l.length) :
    Trip Try.prog 4 [.agg cs.toArray, .agg #[.int .i64 h0, .int .i64 h1], .slice Al ml cl] ((kGram.rd cs g).and ((kslice 8 kint).rd [.slice Al ml cl] l)) []
      (fun v V => v = .bool true ∧ V = []) := by
  subst hml
  refine trip Try.tabOk Try.func4 rfl rfl rfl rfl ?_
  rintro wd SM ⟨hR, hRl⟩
  obtain ⟨A0, A1, A2, A3, A4, c0, c1, c2, c3, c4, rfl, hG⟩ := kGram_open hR
  repeat' (first | refine e_nil ?_ | ((refine e_op ?_); (first | refine o_n (peval_sound rfl) rfl ?_ | refine o_box rfl rfl (fun _ => ?_))) | refine s_seq ?_ | refine s_region ?_)
  rename_i b3 b4
  refine e_op (o_call works_w rfl .nil Can.tt rfl ?_)
  rintro v V ⟨rfl, rfl⟩
  simp only [List.nil_append]
  repeat' (first | refine e_nil ?_ | ((refine e_op ?_); (first | refine o_n (peval_sound rfl) rfl ?_ | refine o_n (nl rfl rfl tc rfl) rfl ?_)) | refine s_seq ?_ | refine s_region ?_ | refine s_skip ?_ | refine s_false rfl ?_)
  refine e_op (o_call (check_w _ g) rfl .nil (Can.ro hR) rfl ?_)
  rintro v V ⟨rfl, rfl⟩
  simp only [List.nil_append]
  repeat' (((refine e_op ?_); (refine o_n (peval_sound rfl) rfl ?_)))
  by_cases hce : checkE g = 0
  · rw [show (checkE g != 0) = false by simp [hce]]
    have hS := gSm hce
    have hgn := gr_num hG hce
    repeat' (first | refine e_nil ?_ | ((first | refine e_op ?_ | refine e_yes rfl ?_); (first | refine o_n (peval_sound rfl) rfl ?_ | refine o_n (nl rfl rfl tc rfl) rfl ?_)))
    by_cases h30 : g.Prods.length > 29
    · rw [decide_eq_true (by omega : (g.Prods.length : Int) > 29)]
      repeat' (first | refine e_nil ?_ | ((refine e_op ?_); (refine o_n (peval_sound rfl) rfl ?_)) | refine s_seq ?_ | refine s_region ?_ | refine s_true rfl ?_)
      exact s_ret ⟨_, _, res1 rfl rfl, ⟨rfl, rfl⟩, Ent.nil _⟩
    rw [decide_eq_false (by omega : ¬ (g.Prods.length : Int) > 29)]
    repeat' (first | ((refine e_op ?_); (refine o_n (nl rfl rfl tc rfl) rfl ?_)) | refine s_seq ?_ | refine s_region ?_ | refine s_skip ?_ | refine s_false rfl ?_)
    refine e_op (o_call (copyG_w _ g) rfl .nil (Can.ro hR) rfl ?_)
    rintro v V ⟨a0, a1, a2, a3, a4, d0, d1, d2, d3, d4, acs, hl, rfl, rfl⟩
    unfold ownG
    simp only [List.cons_append, List.nil_append]
    repeat' (first | refine e_nil ?_ | ((refine e_op ?_); (first | refine o_storeC rfl rfl rfl rfl tc uc rfl rfl rfl ?_ | refine o_alloc rfl rfl (fun _ => ?_))) | refine s_seq ?_)
    rename_i b7
    have hn2 := hS.n0
    have hnl : 2 ≤ g.Nons.length := (wf0_ofE hce).2.n
    have hbr := bringN_rng (x := h0) (m := (g.Prods.length : Int)) (by omega)
    obtain ⟨k, hk⟩ : ∃ k : Nat, bringN h0 (g.Prods.length : Int) = (k : Int) := ⟨(bringN h0 (g.Prods.length : Int)).toNat, by omega⟩
    have hkP : k < g.Prods.length := by omega
    have hka : k < acs.length := by omega
    have hbr2 := bringN_rng (x := h1) (m := (g.Nons.length : Int) - 1) (by omega)
    have hnn := hS.nn
    refine s_weak (fr' := [(7, ptrN b7), (4, ptrN b4), (3, ptrN b3), (2, .slice Al l.length cl)]) (V := [blk b7 27 (gSl g a0 a1 a2 a3 a4 d0 d1 d2 d3 d4), prS a4 d4 acs g.Prods, ogT a0 d0 g.Terms, ogL a1 d1 g.Levels, ogP a2 d2 g.Pats, ogT a3 d3 g.Nons, prB acs g.Prods, blk b4 39 [.int .i64 h0, .int .i64 h1], blk b3 27 [.slice A0 g.Terms.length c0, .slice A1 g.Levels.length c1, .slice A2 g.Pats.length c2, .slice A3 g.Nons.length c3, .slice A4 g.Prods.length c4]]) ?_ (Ent.refl _) ?_
    · repeat' (first | exact Sub.nil _ | refine Sub.cons rfl ?_)
    refine s_open (.s .z) hn2 (fun b4p hb4p => ?_)
    subst hb4p
    refine s_anyU Try.mixed ?_
    refine a_join (ι := Nat) (fun b8 => [(8, ptrN b8), (7, ptrN b7), (4, ptrN b4), (3, ptrN b3), (2, .slice Al l.length cl)])
      (fun b8 => [blk b8 44 (prRow acs[k] g.Prods[k]), blk b7 27 (gSl g a0 a1 a2 a3 (some ⟨b4p, 0, none⟩) d0 d1 d2 d3 d4), prS (some ⟨b4p, 0, none⟩) d4 acs g.Prods, ogT a0 d0 g.Terms, ogL a1 d1 g.Levels, ogP a2 d2 g.Pats, ogT a3 d3 g.Nons, prB acs g.Prods, blk b4 39 [.int .i64 h0, .int .i64 h1], blk b3 27 [.slice A0 g.Terms.length c0, .slice A1 g.Levels.length c1, .slice A2 g.Pats.length c2, .slice A3 g.Nons.length c3, .slice A4 g.Prods.length c4]]) ?_ (fun hfin => ?_)
    · intro b8
      repeat' (first | refine s_seq ?_ | refine s_region ?_)
      refine e_op (o_n (n_indexA rfl rfl rfl rfl 1 rfl (by decide)) rfl ?_)
      repeat' (((refine e_op ?_); (first | refine o_n (peval_sound rfl) rfl ?_ | refine o_n (nl rfl rfl tc rfl) rfl ?_)))
      have hw1 : IntKind.i64.wrap ((g.Nons.length : Int) - 1) = (g.Nons.length : Int) - 1 := by rw [wrap_i64] <;> omega
      rw [hw1]
      refine e_op (o_call (bring_w h1 ((g.Nons.length : Int) - 1) i1 ⟨by omega, by omega⟩ (by omega)) rfl .nil Can.tt rfl ?_)
      rintro v V ⟨rfl, rfl⟩
      simp only [List.nil_append]
      have hw2 : IntKind.i64.wrap (1 + bringN h1 ((g.Nons.length : Int) - 1)) = 1 + bringN h1 ((g.Nons.length : Int) - 1) := by rw [wrap_i64] <;> omega
      obtain ⟨a, ha⟩ : ∃ a, a = 1 + bringN h1 ((g.Nons.length : Int) - 1) := ⟨_, rfl⟩
      have ha2 : 1 ≤ a ∧ a < g.Nons.length := by omega
      repeat' (first | refine e_nil ?_ | ((refine e_op ?_); (first | refine o_n (peval_sound rfl) rfl ?_ | refine o_n (nl rfl rfl tc rfl) rfl ?_ | refine o_storeC rfl rfl rfl rfl tc uc rfl rfl rfl ?_)) | refine s_seq ?_ | refine s_region ?_)
      rw [hw2, ← ha]
      skip
      refine e_op (o_lit (ps := [(0, .agg (prRow acs[k] ⟨a, g.Prods[k].Right, g.Prods[k].L⟩).toArray)]) (cs := prRow acs[k] ⟨a, g.Prods[k].Right, g.Prods[k].L⟩) rfl rfl rfl rfl rfl rfl rfl (fun bl => ?_))
      refine e_op (o_app1 (m := 1) (news := prRow acs[k] ⟨a, g.Prods[k].Right, g.Prods[k].L⟩) rfl rfl rfl rfl to uv rfl rfl rfl rfl (by omega) (by simp only; omega) rfl (by decide) (fun ba ca => ?_))
      repeat' (first | refine e_nil ?_ | ((refine e_op ?_); (first | refine o_n (peval_sound rfl) rfl ?_ | refine o_n (nl rfl rfl tc rfl) rfl ?_ | refine o_storeC rfl rfl rfl rfl tc uc rfl rfl rfl ?_)) | refine s_seq ?_ | refine s_region ?_)
      have hsn := prC_snoc hl (ac := acs[k]) (p := (⟨a, g.Prods[k].Right, g.Prods[k].L⟩ : Prd))
      rw [hsn]
      refine e_weak (fr' := [(57, .slice Al l.length cl), (56, .agg #[.slice A0 g.Terms.length c0, .slice A1 g.Levels.length c1, .slice A2 g.Pats.length c2, .slice A3 g.Nons.length c3, .slice A4 g.Prods.length c4]), (7, ptrN b7), (3, ptrN b3), (2, .slice Al l.length cl)])
        (V := [blk b7 27 [.slice a0 g.Terms.length d0, .slice a1 g.Levels.length d1, .slice a2 g.Pats.length d2, .slice a3 g.Nons.length d3, .slice (some ⟨ba, 0, none⟩) (g.Prods.length + 1) ca], osl 44 4 (.slice (some ⟨ba, 0, none⟩) (g.Prods.length + 1) ca) (g.Prods.length + 1) (prC (acs ++ [acs[k]]) (g.Prods ++ [⟨a, g.Prods[k].Right, g.Prods[k].L⟩])), ogT a0 d0 g.Terms, ogL a1 d1 g.Levels, ogP a2 d2 g.Pats, ogT a3 d3 g.Nons, prB acs g.Prods, blk b3 27 [.slice A0 g.Terms.length c0, .slice A1 g.Levels.length c1, .slice A2 g.Pats.length c2, .slice A3 g.Nons.length c3, .slice A4 g.Prods.length c4]]) ?_ (Ent.wk (Ent.wk (Ent.cons (Ent.cons (Ent.cons (Ent.cons (Ent.cons (Ent.cons (Ent.cons (Ent.wk (Ent.refl _))))))))))) ?_
      · repeat' (first | exact Sub.nil _ | refine Sub.cons rfl ?_)
      obtain ⟨x, hx⟩ : ∃ x : Prd, x = ⟨a, g.Prods[k].Right, g.Prods[k].L⟩ := ⟨_, rfl⟩
      rw [← hx]
      have hxr : x.Right = g.Prods[k].Right := by rw [hx]
      obtain ⟨_, hx2, hx3, _, _⟩ := hgn.p _ (List.getElem_mem hkP)
      have hx1 : I64 x.Left := by rw [hx]; show I64 a; unfold I64; omega
      replace hx2 : I64 x.L.N := by rw [hx]; exact hx2
      replace hx3 : I64 x.L.Kind := by rw [hx]; exact hx3
      have hpc : checkE (plus g x) = 0 := by rw [hx]; exact plus_check hkP ha2 hce (by omega)
      have hH := plus_mre g x
      have hcanX : ∀ {E0 : Go.Proofs.Ytjeimmekhfhepaa.E.Env} {A B : Asn}, Go.Proofs.Ytjeimmekhfhepaa.E.Can E0 (A :: B :: [osl 44 4 (.slice (some ⟨ba, 0, none⟩) (g.Prods.length + 1) ca) (g.Prods.length + 1) (prC (acs ++ [acs[k]]) (g.Prods ++ [x])), ogT a0 d0 g.Terms, ogL a1 d1 g.Levels, ogP a2 d2 g.Pats, ogT a3 d3 g.Nons, prB acs g.Prods, blk b3 27 [.slice A0 g.Terms.length c0, .slice A1 g.Levels.length c1, .slice A2 g.Pats.length c2, .slice A3 g.Nons.length c3, .slice A4 g.Prods.length c4]]) (kGram.rd [.slice a0 g.Terms.length d0, .slice a1 g.Levels.length d1, .slice a2 g.Pats.length d2, .slice a3 g.Nons.length d3, .slice (some ⟨ba, 0, none⟩) (g.Prods.length + 1) ca] (plus g x)) := by
        intro E0 A B
        exact can_ownX (W := [blk b3 27 [.slice A0 g.Terms.length c0, .slice A1 g.Levels.length c1, .slice A2 g.Pats.length c2, .slice A3 g.Nons.length c3, .slice A4 g.Prods.length c4]]) hl hgn hkP hxr hx1 hx2 hx3 (by omega) (Ent.wk (Ent.wk (Ent.refl _)))
      refine e_op (o_call (terms_w _ g Al cl l 12 (by decide) hS) rfl .nil (Can.and (Can.ro hR) (Can.ro hRl)) rfl ?_)
      rintro v V ⟨X, cX, rfl, rfl⟩
      have hwl := termsN_len g l 12
      have hE := termsN_chk (l := l) (m := 12) hce (by decide)
      have hE2 : chkE (plus g x) (termsN g l 12) = 0 := chk_of hpc (by omega) fun y hy => termsN_mem hy
      have hI : ∀ x ∈ termsN g l 12, I64 x := fun x hx => by
        have := termsN_mem hx
        have := hS.tt
        unfold I64; omega
      generalize termsN g l 12 = w at *
      simp only [List.cons_append, List.nil_append]
      repeat' (first | refine e_nil ?_ | ((refine e_op ?_); (first | refine o_n (peval_sound rfl) rfl ?_ | refine o_n (nl rfl rfl tc rfl) rfl ?_)) | refine s_seq ?_ | refine s_region ?_)
      refine e_ent (ent_can Try.prog fun E0 => can_ints .z hI (by omega)) ?_
      refine e_op (o_call (counts_w _ g X cX w) rfl .nil (Can.and (Can.ro hR) (Can.rdA .z)) rfl ?_)
      rintro v V ⟨n1, rfl, h1, rfl⟩
      simp only [List.nil_append]
      obtain ⟨W1, hW1, rfl⟩ := h1.2 hE
      repeat' (first | refine e_nil ?_ | ((refine e_op ?_); (first | refine o_n (peval_sound rfl) rfl ?_ | refine o_n (nl rfl rfl tc rfl) rfl ?_)) | refine s_seq ?_ | refine s_region ?_)
      refine e_op (o_call (counts_w _ (plus g x) X cX w) rfl .nil (Can.and hcanX (Can.rdA .z)) rfl ?_)
      rintro v V ⟨n2, rfl, h2, rfl⟩
      simp only [List.nil_append]
      obtain ⟨W2, hW2, rfl⟩ := h2.2 hE2
      repeat' (first | refine e_nil ?_ | ((refine e_op ?_); (first | refine o_n (peval_sound rfl) rfl ?_ | refine o_n (nl rfl rfl tc rfl) rfl ?_)) | refine s_seq ?_ | refine s_region ?_)
      refine e_op (o_call (viable_w _ g X cX w) rfl .nil (Can.and (Can.ro hR) (Can.rdA .z)) rfl ?_)
      rintro v V ⟨e1, rfl, h3, rfl⟩
      simp only [List.nil_append]
      repeat' (first | refine e_nil ?_ | ((refine e_op ?_); (first | refine o_n (peval_sound rfl) rfl ?_ | refine o_n (nl rfl rfl tc rfl) rfl ?_)) | refine s_seq ?_ | refine s_region ?_)
      refine e_op (o_call (viable_w _ (plus g x) X cX w) rfl .nil (Can.and hcanX (Can.rdA .z)) rfl ?_)
      rintro v V ⟨e2, rfl, h4, rfl⟩
      simp only [List.nil_append]
      simp only [hE, hE2] at h3 h4 ⊢
      have hle := hW1.more hH hW2 0 0 w.length
      have h34 : e1 = true → e2 = true := fun h => by
        obtain ⟨_, y, hy⟩ := h3.1 h
        exact h4.2 ⟨trivial, y, hy.more hH hS.n0⟩
      clear h1 h2 h3 h4 hcanX
      repeat' (first | refine e_nil ?_ | ((first | refine e_op ?_ | refine e_yes rfl ?_); (refine o_n (peval_sound rfl) rfl ?_)) | refine s_seq ?_ | refine s_region ?_)
      rw [decide_eq_true (by omega : (W2 0 0 w.length : Int) ≥ (W1 0 0 w.length : Int))]
      cases e1 with
      | false =>
        repeat' (first | refine e_nil ?_ | ((first | refine e_op ?_ | refine e_yes rfl ?_); (refine o_n (peval_sound rfl) rfl ?_)) | refine e_noU rfl rfl rfl ?_)
        exact s_ret ⟨_, _, res1 rfl rfl, ⟨rfl, rfl⟩, Ent.nil _⟩
      | true =>
        have := h34 rfl
        subst this
        repeat' (first | refine e_nil ?_ | ((first | refine e_op ?_ | refine e_yes rfl ?_); (refine o_n (peval_sound rfl) rfl ?_)))
        exact s_ret ⟨_, _, res1 rfl rfl, ⟨rfl, rfl⟩, Ent.nil _⟩
    · (refine a_n 0 rfl (peval_sound rfl) (by decide +kernel) (by (exact Ent.refl _)) rfl ?_); (first | refine a_n 1 rfl (peval_sound rfl) (by decide +kernel) (by (exact Ent.refl _)) rfl ?_ | refine a_n 1 rfl (nl rfl rfl tc rfl) (by decide +kernel) (by (exact Ent.refl _)) rfl ?_)
      refine a_n 2 rfl (n_indexA rfl rfl rfl rfl 0 rfl (by decide)) (by decide +kernel) (Ent.refl _) rfl ?_
      (first | refine a_n 3 rfl (peval_sound rfl) (by decide +kernel) (by (exact Ent.refl _)) rfl ?_ | refine a_n 3 rfl (nl rfl rfl tc rfl) (by decide +kernel) (by (exact Ent.refl _)) rfl ?_); (refine a_n 4 rfl (peval_sound rfl) (by decide +kernel) (by (exact Ent.refl _)) rfl ?_); (first | refine a_n 5 rfl (peval_sound rfl) (by decide +kernel) (by (exact Ent.refl _)) rfl ?_ | refine a_n 5 rfl (nl rfl rfl tc rfl) (by decide +kernel) (by (exact Ent.refl _)) rfl ?_); (refine a_n 6 rfl (peval_sound rfl) (by decide +kernel) (by (exact Ent.refl _)) rfl ?_)
      refine a_2 7 10 (by decide +kernel) rfl rfl rfl rfl ?_ ?_
      · refine o_call (bring_w h0 (g.Prods.length : Int) i0 ⟨by omega, by omega⟩ (by omega)) rfl .nil Can.tt rfl ?_
        rintro v V ⟨rfl, rfl⟩
        simp only [List.nil_append]
        rw [hk]
        refine ⟨Ent.refl _, ?_⟩
        refine a_n 8 rfl (n_index rfl rfl rfl rfl k rfl hkP) (by decide +kernel) (Ent.refl _) rfl ?_
        refine a_n 9 rfl (no rfl rfl to (prC_load hl hkP)) (by decide +kernel) (Ent.refl _) rfl ?_
        refine a_1 10 (by decide +kernel) rfl rfl (o_alloc rfl rfl (fun b8 => ⟨Ent.wk (Ent.refl _), ?_⟩))
        refine a_1 11 (by decide +kernel) rfl rfl (o_storeC rfl rfl rfl rfl tc uc rfl rfl rfl ⟨Ent.wk (Ent.refl _), ?_⟩)
        refine a_done (by decide +kernel) (s_weak ?_ ?_ (hfin b8))
        · repeat' (first | exact Sub.nil _ | refine Sub.cons rfl ?_)
        · exact Ent.refl _
      · refine o_alloc rfl rfl (fun b8 => ⟨Ent.wk (Ent.refl _), ?_⟩)
        refine a_1 7 (by decide +kernel) rfl rfl (o_call (bring_w h0 (g.Prods.length : Int) i0 ⟨by omega, by omega⟩ (by omega)) rfl .nil Can.tt rfl ?_)
        rintro v V ⟨rfl, rfl⟩
        simp only [List.nil_append]
        rw [hk]
        refine ⟨Ent.wk (Ent.refl _), ?_⟩
        refine a_n 8 rfl (n_index rfl rfl rfl rfl k rfl hkP) (by decide +kernel) (Ent.wk (Ent.refl _)) rfl ?_
        refine a_n 9 rfl (no rfl rfl to (prC_load hl hkP)) (by decide +kernel) (Ent.wk (Ent.refl _)) rfl ?_
        refine a_1 11 (by decide +kernel) rfl rfl (o_storeC rfl rfl rfl rfl tc uc rfl rfl rfl ⟨Ent.wk (Ent.refl _), ?_⟩)
        refine a_done (by decide +kernel) (s_weak ?_ ?_ (hfin b8))
        · repeat' (first | exact Sub.nil _ | refine Sub.cons rfl ?_)
        · exact Ent.refl _
  · rw [show (checkE g != 0) = true by simp [hce]]
    repeat' (first | refine e_nil ?_ | ((refine e_op ?_); (refine o_n (peval_sound rfl) rfl ?_)) | refine e_noU rfl rfl rfl ?_ | refine s_seq ?_ | refine s_region ?_ | refine s_true rfl ?_)
    exact s_ret ⟨_, _, res1 rfl rfl, ⟨rfl, rfl⟩, Ent.nil _⟩

end Go.Proofs.Ytjeimmekhfhepaa
