/-
  Part 3 of what the law's walk stands on: lemmas and contracts, each proved here without a condition but those that it names.
-/
import Derived.Test.YtcbaebkkdkdaaaaDoorAhBase2
import Derived.Laws.StructEq
import Derived.ChangeKeysEq
import Derived.Laws.Cover3

namespace Go.Proofs.YtcbaebkkdkdaaaaDoor
set_option linter.all false
open Go.Proofs.YtcbaebkkdkdaaaaDoor.E
attribute [local irreducible] EVX EVO EVL EV1 NEV
set_option maxRecDepth 10000

theorem lim5 {g : Gram} (h : g.Terms.length > 48 ∨ g.Nons.length > 48 ∨ g.Prods.length > 128 ∨ ∃ p ∈ g.Prods, p.Right.length > 12) : Value.int .i64 5 = Value.int .i64 (checkE g) := by
  rw [checkE_5]
  unfold limitsB
  simp only [Bool.or_eq_true, decide_eq_true_eq, List.any_eq_true]
  exact h

theorem lim_f {g : Gram} (h1 : ¬ g.Terms.length > 48) (h2 : ¬ g.Nons.length > 48) (h3 : ¬ g.Prods.length > 128) (h4 : ∀ i (h : i < g.Prods.length), ¬ g.Prods[i].Right.length > 12) : limitsB g = false := by
  unfold limitsB
  simp only [Bool.or_eq_false_iff, decide_eq_false_iff_not, List.any_eq_false, decide_eq_true_eq]
  refine ⟨h1, h2, h3, fun p hp => ?_⟩
  obtain ⟨i, hi, rfl⟩ := List.getElem_of_mem hp
  exact h4 i hi

theorem checkR_w (cs : List Value) (g : Gram) : Trip Tryd.prog 14 [.agg cs.toArray] (kGram.rd cs g) [] (fun v V => v = .int .i64 (checkE g) ∧ V = []) := by
  refine trip Tryd.tabOk Tryd.func14 rfl rfl rfl rfl ?_
  intro w SM hR
  obtain ⟨A0, A1, A2, A3, A4, c0, c1, c2, c3, c4, rfl, hG⟩ := kGram_open hR
  have hT := hG.terms.2.1
  have hN := hG.nons.2.1
  have hP := hG.prods.2.1
  repeat' (first | refine e_nil ?_ | ((first | refine e_op ?_ | refine e_yes rfl ?_); (first | refine o_n (peval_sound rfl) rfl ?_ | refine o_n (nl rfl rfl tc rfl) rfl ?_ | refine o_storeC rfl rfl rfl rfl tc uc rfl rfl rfl ?_ | refine o_box rfl rfl (fun _ => ?_) | refine o_box1 rfl rfl rfl (fun _ => ?_) | refine o_alloc rfl rfl (fun _ => ?_))) | refine e_noU rfl rfl rfl ?_ | refine e_noN rfl rfl ?_ | refine s_seq ?_ | refine s_region ?_ | refine s_block ?_ | refine s_end ?_ | refine s_skip ?_ | refine s_exit ?_ | refine s_true rfl ?_ | refine s_false rfl ?_ | refine x_hit ?_ | refine x_code ?_ | refine x_back ?_ | refine x_miss rfl ?_)
  rename_i b1
  refine s_drawU [] Tryd.mixed (by decide +kernel) ?_
  repeat' (first | refine l_nil ?_ | ((first | refine l_no rfl rfl rfl ?_ rfl ?_ | refine l_noN rfl rfl ?_ rfl ?_ | refine l_n (peval_sound rfl) rfl ?_ rfl ?_ | refine l_n (nl rfl rfl tc rfl) rfl ?_ rfl ?_ | refine l_ny rfl (peval_sound rfl) rfl ?_ rfl ?_ | refine l_ny rfl (nl rfl rfl tc rfl) rfl ?_ rfl ?_); · (first | exact Ent.refl _ | assumption | repeat' (first | exact Ent.refl _ | exact Ent.nil _ | refine Ent.tak .z ?_ | refine Ent.wk ?_))))
  repeat' (first | refine e_nil ?_ | ((first | refine e_op ?_ | refine e_yes rfl ?_); (first | refine o_n (peval_sound rfl) rfl ?_ | refine o_n (nl rfl rfl tc rfl) rfl ?_ | refine o_storeC rfl rfl rfl rfl tc uc rfl rfl rfl ?_ | refine o_box rfl rfl (fun _ => ?_) | refine o_box1 rfl rfl rfl (fun _ => ?_) | refine o_alloc rfl rfl (fun _ => ?_))) | refine e_noU rfl rfl rfl ?_ | refine e_noN rfl rfl ?_ | refine s_seq ?_ | refine s_region ?_ | refine s_block ?_ | refine s_end ?_ | refine s_skip ?_ | refine s_exit ?_ | refine s_true rfl ?_ | refine s_false rfl ?_ | refine x_hit ?_ | refine x_code ?_ | refine x_back ?_ | refine x_miss rfl ?_ | ((fail_if_success (refine e_dec true (by exact rfl) ?_)); (fail_if_success (refine e_dec false (by exact rfl) ?_)); refine e_part rfl rfl (fun h => ?_) (fun h => ?_)) | refine s_cond rfl (fun h => ?_) (fun h => ?_))
  all_goals try
    refine s_ret ⟨_, _, res1 rfl rfl, ⟨?_, rfl⟩, Ent.nil _⟩
    refine lim5 ?_
    have h9 := of_decide_eq_true h
    omega
  rename_i k1 k2
  have k3 := h
  clear h
  replace k1 := of_decide_eq_false k1
  replace k2 := of_decide_eq_false k2
  replace k3 := of_decide_eq_false k3
  refine s_loopK (ι := {i : Nat // i ≤ g.Prods.length ∧ ∀ j (hj : j < g.Prods.length), j < i → ¬ g.Prods[j].Right.length > 12}) [1, 3, 4] rfl ⟨0, by omega, fun j _ h => by omega⟩
    (fun x => [(5, .int .i64 x.1)]) (fun x => [blk b1 27 [.slice A0 g.Terms.length c0, .slice A1 g.Levels.length c1, .slice A2 g.Pats.length c2, .slice A3 g.Nons.length c3, .slice A4 g.Prods.length c4]]) (fun x => g.Prods.length - x.1) ?_ (by repeat' (first | exact Ent.nil _ | refine Ent.tak tk ?_ | refine Ent.tak .z ?_ | refine Ent.tak (.s .z) ?_ | refine Ent.tak (.s (.s .z)) ?_ | refine Ent.tak (.s (.s (.s .z))) ?_ | refine Ent.tak (.s (.s (.s (.s .z)))) ?_ | refine Ent.tak (.s (.s (.s (.s (.s .z))))) ?_)) ?_
  · repeat' (first | exact Sub.nil _ | refine Sub.cons rfl ?_ | refine Sub.consE rfl ?_ ?_)
  rintro ⟨i, hi, hok⟩
  simp only at hi hok ⊢
  repeat' (first | refine e_nil ?_ | ((first | refine e_op ?_ | refine e_yes rfl ?_); (first | refine o_n (peval_sound rfl) rfl ?_ | refine o_n (nl rfl rfl tc rfl) rfl ?_ | refine o_storeC rfl rfl rfl rfl tc uc rfl rfl rfl ?_ | refine o_box rfl rfl (fun _ => ?_) | refine o_box1 rfl rfl rfl (fun _ => ?_) | refine o_alloc rfl rfl (fun _ => ?_))) | refine e_noU rfl rfl rfl ?_ | refine e_noN rfl rfl ?_ | refine s_seq ?_ | refine s_region ?_ | refine s_block ?_ | refine s_end ?_ | refine s_skip ?_ | refine s_exit ?_ | refine s_true rfl ?_ | refine s_false rfl ?_ | refine x_hit ?_ | refine x_code ?_ | refine x_back ?_ | refine x_miss rfl ?_)
  refine s_cond rfl (fun h => ?_) (fun h => ?_)
  · have hlt : i < g.Prods.length := by have := of_decide_eq_true h; omega
    clear h
    obtain ⟨b, o, es, e0, hb, he, hc⟩ := hG.prods.2.2 i hlt
    cases e0
    obtain ⟨Ar, cr, rfl, hl0, hlN, hlK, hr⟩ := kPrd_open he
    repeat' (first | refine e_nil ?_ | ((first | refine e_op ?_ | refine e_yes rfl ?_); (first | refine o_n (peval_sound rfl) rfl ?_ | refine o_n (nl rfl rfl tc rfl) rfl ?_ | refine o_storeC rfl rfl rfl rfl tc uc rfl rfl rfl ?_ | refine o_box rfl rfl (fun _ => ?_) | refine o_box1 rfl rfl rfl (fun _ => ?_) | refine o_alloc rfl rfl (fun _ => ?_))) | refine e_noU rfl rfl rfl ?_ | refine e_noN rfl rfl ?_ | refine s_seq ?_ | refine s_region ?_ | refine s_block ?_ | refine s_end ?_ | refine s_skip ?_ | refine s_exit ?_ | refine s_true rfl ?_ | refine s_false rfl ?_ | refine x_hit ?_ | refine x_code ?_ | refine x_back ?_ | refine x_miss rfl ?_)
    refine e_op (o_n (n_index rfl rfl rfl rfl i rfl hlt) rfl ?_)
    repeat' (first | refine e_nil ?_ | ((first | refine e_op ?_ | refine e_yes rfl ?_); (first | refine o_n (peval_sound rfl) rfl ?_ | refine o_n (nl rfl rfl tc rfl) rfl ?_ | refine o_storeC rfl rfl rfl rfl tc uc rfl rfl rfl ?_ | refine o_box rfl rfl (fun _ => ?_) | refine o_box1 rfl rfl rfl (fun _ => ?_) | refine o_alloc rfl rfl (fun _ => ?_))) | refine e_noU rfl rfl rfl ?_ | refine e_noN rfl rfl ?_ | refine s_seq ?_ | refine s_region ?_ | refine s_block ?_ | refine s_end ?_ | refine s_skip ?_ | refine s_exit ?_ | refine s_true rfl ?_ | refine s_false rfl ?_ | refine x_hit ?_ | refine x_code ?_ | refine x_back ?_ | refine x_miss rfl ?_)
    refine e_op (o_n (n_load_ro rfl rfl hb (loads_one rfl (hc 1 _ rfl))) rfl ?_)
    repeat' (first | refine e_nil ?_ | ((first | refine e_op ?_ | refine e_yes rfl ?_); (first | refine o_n (peval_sound rfl) rfl ?_ | refine o_n (nl rfl rfl tc rfl) rfl ?_ | refine o_storeC rfl rfl rfl rfl tc uc rfl rfl rfl ?_ | refine o_box rfl rfl (fun _ => ?_) | refine o_box1 rfl rfl rfl (fun _ => ?_) | refine o_alloc rfl rfl (fun _ => ?_))) | refine e_noU rfl rfl rfl ?_ | refine e_noN rfl rfl ?_ | refine s_seq ?_ | refine s_region ?_ | refine s_block ?_ | refine s_end ?_ | refine s_skip ?_ | refine s_exit ?_ | refine s_true rfl ?_ | refine s_false rfl ?_ | refine x_hit ?_ | refine x_code ?_ | refine x_back ?_ | refine x_miss rfl ?_)
    refine s_cond rfl (fun h => ?_) (fun h => ?_)
    · repeat' (first | refine e_nil ?_ | ((first | refine e_op ?_ | refine e_yes rfl ?_); (first | refine o_n (peval_sound rfl) rfl ?_ | refine o_n (nl rfl rfl tc rfl) rfl ?_ | refine o_storeC rfl rfl rfl rfl tc uc rfl rfl rfl ?_ | refine o_box rfl rfl (fun _ => ?_) | refine o_box1 rfl rfl rfl (fun _ => ?_) | refine o_alloc rfl rfl (fun _ => ?_))) | refine e_noU rfl rfl rfl ?_ | refine e_noN rfl rfl ?_ | refine s_seq ?_ | refine s_region ?_ | refine s_block ?_ | refine s_end ?_ | refine s_skip ?_ | refine s_exit ?_ | refine s_true rfl ?_ | refine s_false rfl ?_ | refine x_hit ?_ | refine x_code ?_ | refine x_back ?_ | refine x_miss rfl ?_)
      refine s_ret ⟨_, _, res1 rfl rfl, ⟨?_, rfl⟩, Ent.nil _⟩
      have h9 := of_decide_eq_true h
      exact lim5 (.inr (.inr (.inr ⟨_, List.getElem_mem hlt, by omega⟩)))
    · have h9 := of_decide_eq_false h
      clear h
      repeat' (first | refine e_nil ?_ | ((first | refine e_op ?_ | refine e_yes rfl ?_); (first | refine o_n (peval_sound rfl) rfl ?_ | refine o_n (nl rfl rfl tc rfl) rfl ?_ | refine o_storeC rfl rfl rfl rfl tc uc rfl rfl rfl ?_ | refine o_box rfl rfl (fun _ => ?_) | refine o_box1 rfl rfl rfl (fun _ => ?_) | refine o_alloc rfl rfl (fun _ => ?_))) | refine e_noU rfl rfl rfl ?_ | refine e_noN rfl rfl ?_ | refine s_seq ?_ | refine s_region ?_ | refine s_block ?_ | refine s_end ?_ | refine s_skip ?_ | refine s_exit ?_ | refine s_true rfl ?_ | refine s_false rfl ?_ | refine x_hit ?_ | refine x_code ?_ | refine x_back ?_ | refine x_miss rfl ?_)
      refine s_back ⟨⟨i + 1, by omega, ?_⟩, by simp only; omega, ?_, by repeat' (first | exact Ent.nil _ | refine Ent.tak tk ?_ | refine Ent.tak .z ?_ | refine Ent.tak (.s .z) ?_ | refine Ent.tak (.s (.s .z)) ?_ | refine Ent.tak (.s (.s (.s .z))) ?_ | refine Ent.tak (.s (.s (.s (.s .z)))) ?_ | refine Ent.tak (.s (.s (.s (.s (.s .z))))) ?_)⟩
      · intro j hj hji
        by_cases e : j = i
        · subst e; omega
        · exact hok j hj (by omega)
      · repeat' (first | exact Sub.nil _ | refine Sub.cons rfl ?_ | refine Sub.consE rfl ?_ ?_)
        exact inc (i := i) (by omega)
  have hge : i = g.Prods.length := by have := of_decide_eq_false h; omega
  subst hge
  clear h
  have hl : limitsB g = false := lim_f (by omega) (by omega) (by omega) (fun j hj => hok j hj hj)
  clear hok hi
  repeat' (first | refine e_nil ?_ | ((first | refine e_op ?_ | refine e_yes rfl ?_); (first | refine o_n (peval_sound rfl) rfl ?_ | refine o_n (nl rfl rfl tc rfl) rfl ?_ | refine o_storeC rfl rfl rfl rfl tc uc rfl rfl rfl ?_ | refine o_box rfl rfl (fun _ => ?_) | refine o_box1 rfl rfl rfl (fun _ => ?_) | refine o_alloc rfl rfl (fun _ => ?_))) | refine e_noU rfl rfl rfl ?_ | refine e_noN rfl rfl ?_ | refine s_seq ?_ | refine s_region ?_ | refine s_block ?_ | refine s_end ?_ | refine s_skip ?_ | refine s_exit ?_ | refine s_true rfl ?_ | refine s_false rfl ?_ | refine x_hit ?_ | refine x_code ?_ | refine x_back ?_ | refine x_miss rfl ?_ | ((fail_if_success (refine e_dec true (by exact rfl) ?_)); (fail_if_success (refine e_dec false (by exact rfl) ?_)); refine e_part rfl rfl (fun h => ?_) (fun h => ?_)) | refine s_cond rfl (fun h => ?_) (fun h => ?_))
  all_goals try
    refine s_ret ⟨_, _, res1 rfl rfl, ⟨?_, rfl⟩, Ent.nil _⟩
    refine not_wf hl (fun hw => ?_)
    have qt := hw.t
    have qn := hw.n
    have ql := hw.lev
    have qp := hw.prods
    simp only [bne_iff_ne, beq_iff_eq, decide_eq_true_eq] at h
    omega
  rename_i ht1 hn2 hlv
  have hp0 := h
  clear h
  simp only [bne_eq_false_iff_eq, beq_eq_false_iff_ne, decide_eq_false_iff_not] at ht1 hn2 hlv hp0
  refine s_loopK (ι := {i : Nat // i ≤ g.Terms.length ∧ ∀ j (hj : j < g.Levels.length), j < i → mayBind g.Levels[j].N g.Levels[j].Kind = true}) [1, 3, 4] rfl ⟨0, by omega, fun j _ h => by omega⟩
    (fun x => [(6, .int .i64 x.1)]) (fun x => [blk b1 27 [.slice A0 g.Terms.length c0, .slice A1 g.Levels.length c1, .slice A2 g.Pats.length c2, .slice A3 g.Nons.length c3, .slice A4 g.Prods.length c4]]) (fun x => g.Terms.length - x.1) ?_ (by repeat' (first | exact Ent.nil _ | refine Ent.tak tk ?_ | refine Ent.tak .z ?_ | refine Ent.tak (.s .z) ?_ | refine Ent.tak (.s (.s .z)) ?_ | refine Ent.tak (.s (.s (.s .z))) ?_ | refine Ent.tak (.s (.s (.s (.s .z)))) ?_ | refine Ent.tak (.s (.s (.s (.s (.s .z))))) ?_)) ?_
  · repeat' (first | exact Sub.nil _ | refine Sub.cons rfl ?_ | refine Sub.consE rfl ?_ ?_)
  rintro ⟨i, hi, hok⟩
  simp only at hi hok ⊢
  repeat' (first | refine e_nil ?_ | ((first | refine e_op ?_ | refine e_yes rfl ?_); (first | refine o_n (peval_sound rfl) rfl ?_ | refine o_n (nl rfl rfl tc rfl) rfl ?_ | refine o_storeC rfl rfl rfl rfl tc uc rfl rfl rfl ?_ | refine o_box rfl rfl (fun _ => ?_) | refine o_box1 rfl rfl rfl (fun _ => ?_) | refine o_alloc rfl rfl (fun _ => ?_))) | refine e_noU rfl rfl rfl ?_ | refine e_noN rfl rfl ?_ | refine s_seq ?_ | refine s_region ?_ | refine s_block ?_ | refine s_end ?_ | refine s_skip ?_ | refine s_exit ?_ | refine s_true rfl ?_ | refine s_false rfl ?_ | refine x_hit ?_ | refine x_code ?_ | refine x_back ?_ | refine x_miss rfl ?_)
  refine s_cond rfl (fun h => ?_) (fun h => ?_)
  · have hlt : i < g.Levels.length := by have := of_decide_eq_true h; omega
    clear h
    obtain ⟨b, o, es, e0, hb, he, hc⟩ := hG.levels.2.2 i hlt
    cases e0
    obtain ⟨rfl, hlN, hlK⟩ := kLev_open he
    repeat' (first | refine e_nil ?_ | ((first | refine e_op ?_ | refine e_yes rfl ?_); (first | refine o_n (peval_sound rfl) rfl ?_ | refine o_n (nl rfl rfl tc rfl) rfl ?_ | refine o_storeC rfl rfl rfl rfl tc uc rfl rfl rfl ?_ | refine o_box rfl rfl (fun _ => ?_) | refine o_box1 rfl rfl rfl (fun _ => ?_) | refine o_alloc rfl rfl (fun _ => ?_))) | refine e_noU rfl rfl rfl ?_ | refine e_noN rfl rfl ?_ | refine s_seq ?_ | refine s_region ?_ | refine s_block ?_ | refine s_end ?_ | refine s_skip ?_ | refine s_exit ?_ | refine s_true rfl ?_ | refine s_false rfl ?_ | refine x_hit ?_ | refine x_code ?_ | refine x_back ?_ | refine x_miss rfl ?_)
    refine e_op (o_n (n_index rfl rfl rfl rfl i rfl hlt) rfl ?_)
    refine e_op (o_n (n_load_ro rfl rfl hb (loads_agg rfl rfl hc)) rfl ?_)
    refine e_op (o_call (level_w _ _) rfl .nil Can.tt rfl ?_)
    rintro v V ⟨rfl, rfl⟩
    repeat' (first | refine e_nil ?_ | ((first | refine e_op ?_ | refine e_yes rfl ?_); (first | refine o_n (peval_sound rfl) rfl ?_ | refine o_n (nl rfl rfl tc rfl) rfl ?_ | refine o_storeC rfl rfl rfl rfl tc uc rfl rfl rfl ?_ | refine o_box rfl rfl (fun _ => ?_) | refine o_box1 rfl rfl rfl (fun _ => ?_) | refine o_alloc rfl rfl (fun _ => ?_))) | refine e_noU rfl rfl rfl ?_ | refine e_noN rfl rfl ?_ | refine s_seq ?_ | refine s_region ?_ | refine s_block ?_ | refine s_end ?_ | refine s_skip ?_ | refine s_exit ?_ | refine s_true rfl ?_ | refine s_false rfl ?_ | refine x_hit ?_ | refine x_code ?_ | refine x_back ?_ | refine x_miss rfl ?_)
    refine s_cond rfl (fun h => ?_) (fun h => ?_)
    · repeat' (first | refine e_nil ?_ | ((first | refine e_op ?_ | refine e_yes rfl ?_); (first | refine o_n (peval_sound rfl) rfl ?_ | refine o_n (nl rfl rfl tc rfl) rfl ?_ | refine o_storeC rfl rfl rfl rfl tc uc rfl rfl rfl ?_ | refine o_box rfl rfl (fun _ => ?_) | refine o_box1 rfl rfl rfl (fun _ => ?_) | refine o_alloc rfl rfl (fun _ => ?_))) | refine e_noU rfl rfl rfl ?_ | refine e_noN rfl rfl ?_ | refine s_seq ?_ | refine s_region ?_ | refine s_block ?_ | refine s_end ?_ | refine s_skip ?_ | refine s_exit ?_ | refine s_true rfl ?_ | refine s_false rfl ?_ | refine x_hit ?_ | refine x_code ?_ | refine x_back ?_ | refine x_miss rfl ?_)
      refine s_ret ⟨_, _, res1 rfl rfl, ⟨?_, rfl⟩, Ent.nil _⟩
      refine not_wf hl (fun hw => ?_)
      rw [hw.bind _ (List.getElem_mem hlt)] at h
      cases h
    · have hmb : mayBind g.Levels[i].N g.Levels[i].Kind = true := by simpa using h
      clear h
      repeat' (first | refine e_nil ?_ | ((first | refine e_op ?_ | refine e_yes rfl ?_); (first | refine o_n (peval_sound rfl) rfl ?_ | refine o_n (nl rfl rfl tc rfl) rfl ?_ | refine o_storeC rfl rfl rfl rfl tc uc rfl rfl rfl ?_ | refine o_box rfl rfl (fun _ => ?_) | refine o_box1 rfl rfl rfl (fun _ => ?_) | refine o_alloc rfl rfl (fun _ => ?_))) | refine e_noU rfl rfl rfl ?_ | refine e_noN rfl rfl ?_ | refine s_seq ?_ | refine s_region ?_ | refine s_block ?_ | refine s_end ?_ | refine s_skip ?_ | refine s_exit ?_ | refine s_true rfl ?_ | refine s_false rfl ?_ | refine x_hit ?_ | refine x_code ?_ | refine x_back ?_ | refine x_miss rfl ?_)
      refine s_back ⟨⟨i + 1, by omega, ?_⟩, by simp only; omega, ?_, by repeat' (first | exact Ent.nil _ | refine Ent.tak tk ?_ | refine Ent.tak .z ?_ | refine Ent.tak (.s .z) ?_ | refine Ent.tak (.s (.s .z)) ?_ | refine Ent.tak (.s (.s (.s .z))) ?_ | refine Ent.tak (.s (.s (.s (.s .z)))) ?_ | refine Ent.tak (.s (.s (.s (.s (.s .z))))) ?_)⟩
      · intro j hj hji
        by_cases e : j = i
        · subst e; exact hmb
        · exact hok j hj (by omega)
      · repeat' (first | exact Sub.nil _ | refine Sub.cons rfl ?_ | refine Sub.consE rfl ?_ ?_)
        exact inc (i := i) (by omega)
  have hge : i = g.Terms.length := by have := of_decide_eq_false h; omega
  subst hge
  clear h
  have hbind : ∀ l ∈ g.Levels, mayBind l.N l.Kind = true := by
    intro l hlm
    obtain ⟨j, hj, rfl⟩ := List.getElem_of_mem hlm
    exact hok j hj (by omega)
  clear hok hi
  repeat' (first | refine e_nil ?_ | ((first | refine e_op ?_ | refine e_yes rfl ?_); (first | refine o_n (peval_sound rfl) rfl ?_ | refine o_n (nl rfl rfl tc rfl) rfl ?_ | refine o_storeC rfl rfl rfl rfl tc uc rfl rfl rfl ?_ | refine o_box rfl rfl (fun _ => ?_) | refine o_box1 rfl rfl rfl (fun _ => ?_) | refine o_alloc rfl rfl (fun _ => ?_))) | refine e_noU rfl rfl rfl ?_ | refine e_noN rfl rfl ?_ | refine s_seq ?_ | refine s_region ?_ | refine s_block ?_ | refine s_end ?_ | refine s_skip ?_ | refine s_exit ?_ | refine s_true rfl ?_ | refine s_false rfl ?_ | refine x_hit ?_ | refine x_code ?_ | refine x_back ?_ | refine x_miss rfl ?_)
  refine s_loopK (ι := {i : Nat // i ≤ g.Prods.length ∧ ∀ j (hj : j < g.Prods.length), j < i → ProdOk g.Terms.length g.Nons.length j g.Prods[j]}) [1, 3, 4] rfl ⟨0, by omega, fun j _ h => by omega⟩
    (fun x => [(7, .int .i64 x.1)]) (fun x => [blk b1 27 [.slice A0 g.Terms.length c0, .slice A1 g.Levels.length c1, .slice A2 g.Pats.length c2, .slice A3 g.Nons.length c3, .slice A4 g.Prods.length c4]]) (fun x => g.Prods.length - x.1) ?_ (by repeat' (first | exact Ent.nil _ | refine Ent.tak tk ?_ | refine Ent.tak .z ?_ | refine Ent.tak (.s .z) ?_ | refine Ent.tak (.s (.s .z)) ?_ | refine Ent.tak (.s (.s (.s .z))) ?_ | refine Ent.tak (.s (.s (.s (.s .z)))) ?_ | refine Ent.tak (.s (.s (.s (.s (.s .z))))) ?_)) ?_
  · repeat' (first | exact Sub.nil _ | refine Sub.cons rfl ?_ | refine Sub.consE rfl ?_ ?_)
  rintro ⟨i, hi, hok⟩
  simp only at hi hok ⊢
  repeat' (first | refine e_nil ?_ | ((first | refine e_op ?_ | refine e_yes rfl ?_); (first | refine o_n (peval_sound rfl) rfl ?_ | refine o_n (nl rfl rfl tc rfl) rfl ?_ | refine o_storeC rfl rfl rfl rfl tc uc rfl rfl rfl ?_ | refine o_box rfl rfl (fun _ => ?_) | refine o_box1 rfl rfl rfl (fun _ => ?_) | refine o_alloc rfl rfl (fun _ => ?_))) | refine e_noU rfl rfl rfl ?_ | refine e_noN rfl rfl ?_ | refine s_seq ?_ | refine s_region ?_ | refine s_block ?_ | refine s_end ?_ | refine s_skip ?_ | refine s_exit ?_ | refine s_true rfl ?_ | refine s_false rfl ?_ | refine x_hit ?_ | refine x_code ?_ | refine x_back ?_ | refine x_miss rfl ?_)
  refine s_cond rfl (fun h => ?_) (fun h => ?_)
  · have hlt : i < g.Prods.length := by have := of_decide_eq_true h; omega
    clear h
    obtain ⟨b, o, es, e0, hb, he, hc⟩ := hG.prods.2.2 i hlt
    cases e0
    obtain ⟨Ar, cr, rfl, hl0, hlN, hlK, hr⟩ := kPrd_open he
    have hrl := hr.2.1
    have hbad : ¬ ProdOk g.Terms.length g.Nons.length i g.Prods[i] → Value.int .i64 2 = Value.int .i64 (checkE g) := fun hn =>
      not_wf hl (fun hw => hn ((prodOk_iff _ _ _ _).1 (hw.prod i hlt)))
    repeat' (first | refine e_nil ?_ | ((first | refine e_op ?_ | refine e_yes rfl ?_); (first | refine o_n (peval_sound rfl) rfl ?_ | refine o_n (nl rfl rfl tc rfl) rfl ?_ | refine o_storeC rfl rfl rfl rfl tc uc rfl rfl rfl ?_ | refine o_box rfl rfl (fun _ => ?_) | refine o_box1 rfl rfl rfl (fun _ => ?_) | refine o_alloc rfl rfl (fun _ => ?_))) | refine e_noU rfl rfl rfl ?_ | refine e_noN rfl rfl ?_ | refine s_seq ?_ | refine s_region ?_ | refine s_block ?_ | refine s_end ?_ | refine s_skip ?_ | refine s_exit ?_ | refine s_true rfl ?_ | refine s_false rfl ?_ | refine x_hit ?_ | refine x_code ?_ | refine x_back ?_ | refine x_miss rfl ?_)
    refine e_op (o_n (n_index rfl rfl rfl rfl i rfl hlt) rfl ?_)
    refine e_op (o_n (n_load_ro rfl rfl hb (loads_agg rfl rfl hc)) rfl ?_)
    repeat' (first | refine e_nil ?_ | ((first | refine e_op ?_ | refine e_yes rfl ?_); (first | refine o_n (peval_sound rfl) rfl ?_ | refine o_n (nl rfl rfl tc rfl) rfl ?_ | refine o_storeC rfl rfl rfl rfl tc uc rfl rfl rfl ?_ | refine o_box rfl rfl (fun _ => ?_) | refine o_box1 rfl rfl rfl (fun _ => ?_) | refine o_alloc rfl rfl (fun _ => ?_))) | refine e_noU rfl rfl rfl ?_ | refine e_noN rfl rfl ?_ | refine s_seq ?_ | refine s_region ?_ | refine s_block ?_ | refine s_end ?_ | refine s_skip ?_ | refine s_exit ?_ | refine s_true rfl ?_ | refine s_false rfl ?_ | refine x_hit ?_ | refine x_code ?_ | refine x_back ?_ | refine x_miss rfl ?_ | ((fail_if_success (refine e_dec true (by exact rfl) ?_)); (fail_if_success (refine e_dec false (by exact rfl) ?_)); refine e_part rfl rfl (fun h => ?_) (fun h => ?_)) | refine s_cond rfl (fun h => ?_) (fun h => ?_))
    all_goals try
      refine s_ret ⟨_, _, res1 rfl rfl, ⟨?_, rfl⟩, Ent.nil _⟩
      refine hbad (fun hp => ?_)
      have q1 := hp.lo
      have q2 := hp.hi
      have q3 := hp.zero
      first | (have h9 := zz_t h; omega) | (have h9 := of_decide_eq_true h; omega)
    rename_i b6 hx1 hx2
    have hx3 := h
    clear h
    refine e_yes rfl (o_call (level_w _ _) rfl .nil Can.tt rfl ?_)
    rintro v V ⟨rfl, rfl⟩
    repeat' (first | refine e_nil ?_ | ((first | refine e_op ?_ | refine e_yes rfl ?_); (first | refine o_n (peval_sound rfl) rfl ?_ | refine o_n (nl rfl rfl tc rfl) rfl ?_ | refine o_storeC rfl rfl rfl rfl tc uc rfl rfl rfl ?_ | refine o_box rfl rfl (fun _ => ?_) | refine o_box1 rfl rfl rfl (fun _ => ?_) | refine o_alloc rfl rfl (fun _ => ?_))) | refine e_noU rfl rfl rfl ?_ | refine e_noN rfl rfl ?_ | refine s_seq ?_ | refine s_region ?_ | refine s_block ?_ | refine s_end ?_ | refine s_skip ?_ | refine s_exit ?_ | refine s_true rfl ?_ | refine s_false rfl ?_ | refine x_hit ?_ | refine x_code ?_ | refine x_back ?_ | refine x_miss rfl ?_)
    refine s_cond rfl (fun h => ?_) (fun h => ?_)
    · repeat' (first | refine e_nil ?_ | ((first | refine e_op ?_ | refine e_yes rfl ?_); (first | refine o_n (peval_sound rfl) rfl ?_ | refine o_n (nl rfl rfl tc rfl) rfl ?_ | refine o_storeC rfl rfl rfl rfl tc uc rfl rfl rfl ?_ | refine o_box rfl rfl (fun _ => ?_) | refine o_box1 rfl rfl rfl (fun _ => ?_) | refine o_alloc rfl rfl (fun _ => ?_))) | refine e_noU rfl rfl rfl ?_ | refine e_noN rfl rfl ?_ | refine s_seq ?_ | refine s_region ?_ | refine s_block ?_ | refine s_end ?_ | refine s_skip ?_ | refine s_exit ?_ | refine s_true rfl ?_ | refine s_false rfl ?_ | refine x_hit ?_ | refine x_code ?_ | refine x_back ?_ | refine x_miss rfl ?_)
      refine s_ret ⟨_, _, res1 rfl rfl, ⟨?_, rfl⟩, Ent.nil _⟩
      refine hbad (fun hp => ?_)
      rw [hp.bind] at h
      cases h
    have hmb : mayBind g.Prods[i].L.N g.Prods[i].L.Kind = true := by simpa using h
    clear h
    replace hx1 := of_decide_eq_false hx1
    replace hx2 := of_decide_eq_false hx2
    replace hx3 := zz_f hx3
    repeat' (first | refine e_nil ?_ | ((first | refine e_op ?_ | refine e_yes rfl ?_); (first | refine o_n (peval_sound rfl) rfl ?_ | refine o_n (nl rfl rfl tc rfl) rfl ?_ | refine o_storeC rfl rfl rfl rfl tc uc rfl rfl rfl ?_ | refine o_box rfl rfl (fun _ => ?_) | refine o_box1 rfl rfl rfl (fun _ => ?_) | refine o_alloc rfl rfl (fun _ => ?_))) | refine e_noU rfl rfl rfl ?_ | refine e_noN rfl rfl ?_ | refine s_seq ?_ | refine s_region ?_ | refine s_block ?_ | refine s_end ?_ | refine s_skip ?_ | refine s_exit ?_ | refine s_true rfl ?_ | refine s_false rfl ?_ | refine x_hit ?_ | refine x_code ?_ | refine x_back ?_ | refine x_miss rfl ?_)
    refine s_loopK (ι := {j : Nat // j ≤ g.Prods[i].Right.length ∧ ∀ s ∈ g.Prods[i].Right.take j, 1 ≤ s ∧ s < (g.Terms.length : Int) + g.Nons.length ∧ s ≠ g.Terms.length}) [1, 3, 4, 7, 8] rfl ⟨0, by omega, fun s hs => by simp at hs⟩
      (fun x => [(9, .int .i64 x.1)]) (fun x => [blk b6 53 [.int .i64 g.Prods[i].Left, .slice Ar g.Prods[i].Right.length cr, .int .i64 g.Prods[i].L.N, .int .i64 g.Prods[i].L.Kind], blk b1 27 [.slice A0 g.Terms.length c0, .slice A1 g.Levels.length c1, .slice A2 g.Pats.length c2, .slice A3 g.Nons.length c3, .slice (some ⟨b, o, none⟩) g.Prods.length c4]]) (fun x => g.Prods[i].Right.length - x.1) ?_ (by repeat' (first | exact Ent.nil _ | refine Ent.tak tk ?_ | refine Ent.tak .z ?_ | refine Ent.tak (.s .z) ?_ | refine Ent.tak (.s (.s .z)) ?_ | refine Ent.tak (.s (.s (.s .z))) ?_ | refine Ent.tak (.s (.s (.s (.s .z)))) ?_ | refine Ent.tak (.s (.s (.s (.s (.s .z))))) ?_)) ?_
    · repeat' (first | exact Sub.nil _ | refine Sub.cons rfl ?_ | refine Sub.consE rfl ?_ ?_)
    rintro ⟨j, hj, hjo⟩
    simp only at hj hjo ⊢
    repeat' (first | refine e_nil ?_ | ((first | refine e_op ?_ | refine e_yes rfl ?_); (first | refine o_n (peval_sound rfl) rfl ?_ | refine o_n (nl rfl rfl tc rfl) rfl ?_ | refine o_storeC rfl rfl rfl rfl tc uc rfl rfl rfl ?_ | refine o_box rfl rfl (fun _ => ?_) | refine o_box1 rfl rfl rfl (fun _ => ?_) | refine o_alloc rfl rfl (fun _ => ?_))) | refine e_noU rfl rfl rfl ?_ | refine e_noN rfl rfl ?_ | refine s_seq ?_ | refine s_region ?_ | refine s_block ?_ | refine s_end ?_ | refine s_skip ?_ | refine s_exit ?_ | refine s_true rfl ?_ | refine s_false rfl ?_ | refine x_hit ?_ | refine x_code ?_ | refine x_back ?_ | refine x_miss rfl ?_)
    refine s_cond rfl (fun h => ?_) (fun h => ?_)
    · have hjl : j < g.Prods[i].Right.length := by have := of_decide_eq_true h; omega
      clear h
      obtain ⟨b2, o2, es2, rfl, hb2, ⟨rfl, hsI⟩, hc2⟩ := hr.2.2 j hjl
      repeat' (first | refine e_nil ?_ | ((first | refine e_op ?_ | refine e_yes rfl ?_); (first | refine o_n (peval_sound rfl) rfl ?_ | refine o_n (nl rfl rfl tc rfl) rfl ?_ | refine o_storeC rfl rfl rfl rfl tc uc rfl rfl rfl ?_ | refine o_box rfl rfl (fun _ => ?_) | refine o_box1 rfl rfl rfl (fun _ => ?_) | refine o_alloc rfl rfl (fun _ => ?_))) | refine e_noU rfl rfl rfl ?_ | refine e_noN rfl rfl ?_ | refine s_seq ?_ | refine s_region ?_ | refine s_block ?_ | refine s_end ?_ | refine s_skip ?_ | refine s_exit ?_ | refine s_true rfl ?_ | refine s_false rfl ?_ | refine x_hit ?_ | refine x_code ?_ | refine x_back ?_ | refine x_miss rfl ?_)
      refine e_op (o_n (n_index rfl rfl rfl rfl j rfl hjl) rfl ?_)
      refine e_op (o_n (n_load_ro rfl rfl hb2 (loads_one rfl (hc2 0 _ rfl))) rfl ?_)
      have hwr : IntKind.i64.wrap ((g.Terms.length : Int) + g.Nons.length) = (g.Terms.length : Int) + g.Nons.length := wrap_i64 (by omega) (by omega)
      repeat' (first | refine e_nil ?_ | ((first | refine e_op ?_ | refine e_yes rfl ?_); (first | refine o_n (peval_sound rfl) rfl ?_ | refine o_n (nl rfl rfl tc rfl) rfl ?_ | refine o_storeC rfl rfl rfl rfl tc uc rfl rfl rfl ?_ | refine o_box rfl rfl (fun _ => ?_) | refine o_box1 rfl rfl rfl (fun _ => ?_) | refine o_alloc rfl rfl (fun _ => ?_))) | refine e_noU rfl rfl rfl ?_ | refine e_noN rfl rfl ?_ | refine s_seq ?_ | refine s_region ?_ | refine s_block ?_ | refine s_end ?_ | refine s_skip ?_ | refine s_exit ?_ | refine s_true rfl ?_ | refine s_false rfl ?_ | refine x_hit ?_ | refine x_code ?_ | refine x_back ?_ | refine x_miss rfl ?_ | ((fail_if_success (refine e_dec true (by exact rfl) ?_)); (fail_if_success (refine e_dec false (by exact rfl) ?_)); refine e_part rfl rfl (fun h => ?_) (fun h => ?_)) | refine s_cond rfl (fun h => ?_) (fun h => ?_))
      all_goals try
        refine s_ret ⟨_, _, res1 rfl rfl, ⟨?_, rfl⟩, Ent.nil _⟩
        refine hbad (fun hp => ?_)
        obtain ⟨q1, q2, q3⟩ := hp.right _ (List.getElem_mem hjl)
        try rw [hwr] at h
        first | (have h9 := of_decide_eq_true h; omega) | (have h9 := eq_of_beq h; omega)
      rename_i hy1 hy2
      have hy3 := h
      clear h
      rw [hwr] at hy2
      replace hy1 := of_decide_eq_false hy1
      replace hy2 := of_decide_eq_false hy2
      replace hy3 := beq_eq_false_iff_ne.1 hy3
      refine s_back ⟨⟨j + 1, by omega, ?_⟩, by simp only; omega, ?_, by repeat' (first | exact Ent.nil _ | refine Ent.tak tk ?_ | refine Ent.tak .z ?_ | refine Ent.tak (.s .z) ?_ | refine Ent.tak (.s (.s .z)) ?_ | refine Ent.tak (.s (.s (.s .z))) ?_ | refine Ent.tak (.s (.s (.s (.s .z)))) ?_ | refine Ent.tak (.s (.s (.s (.s (.s .z))))) ?_)⟩
      · intro s hs
        rw [List.take_succ_eq_append_getElem hjl, List.mem_append, List.mem_singleton] at hs
        rcases hs with hs | rfl
        · exact hjo s hs
        · exact ⟨by omega, by omega, hy3⟩
      · repeat' (first | exact Sub.nil _ | refine Sub.cons rfl ?_ | refine Sub.consE rfl ?_ ?_)
        exact inc (i := j) (by omega)
    · have hge : j = g.Prods[i].Right.length := by have := of_decide_eq_false h; omega
      subst hge
      clear h
      rw [List.take_length] at hjo
      repeat' (first | refine e_nil ?_ | ((first | refine e_op ?_ | refine e_yes rfl ?_); (first | refine o_n (peval_sound rfl) rfl ?_ | refine o_n (nl rfl rfl tc rfl) rfl ?_ | refine o_storeC rfl rfl rfl rfl tc uc rfl rfl rfl ?_ | refine o_box rfl rfl (fun _ => ?_) | refine o_box1 rfl rfl rfl (fun _ => ?_) | refine o_alloc rfl rfl (fun _ => ?_))) | refine e_noU rfl rfl rfl ?_ | refine e_noN rfl rfl ?_ | refine s_seq ?_ | refine s_region ?_ | refine s_block ?_ | refine s_end ?_ | refine s_skip ?_ | refine s_exit ?_ | refine s_true rfl ?_ | refine s_false rfl ?_ | refine x_hit ?_ | refine x_code ?_ | refine x_back ?_ | refine x_miss rfl ?_)
      refine s_back ⟨⟨i + 1, by omega, ?_⟩, by simp only; omega, ?_, by repeat' (first | exact Ent.nil _ | refine Ent.tak tk ?_ | refine Ent.tak .z ?_ | refine Ent.tak (.s .z) ?_ | refine Ent.tak (.s (.s .z)) ?_ | refine Ent.tak (.s (.s (.s .z))) ?_ | refine Ent.tak (.s (.s (.s (.s .z)))) ?_ | refine Ent.tak (.s (.s (.s (.s (.s .z))))) ?_)⟩
      · intro j' hj' hlt'
        by_cases he2 : j' < i
        · exact hok j' hj' he2
        · have : j' = i := by omega
          subst this
          exact ⟨by omega, by omega, by omega, hmb, hjo⟩
      · repeat' (first | exact Sub.nil _ | refine Sub.cons rfl ?_ | refine Sub.consE rfl ?_ ?_)
        exact inc (i := i) (by omega)
  have hge : i = g.Prods.length := by have := of_decide_eq_false h; omega
  subst hge
  clear h
  obtain ⟨b, o, es, e0, hb0, he, hc⟩ := hG.prods.2.2 0 (by omega)
  cases e0
  obtain ⟨Ar, cr, rfl, hl0, hlN, hlK, hr⟩ := kPrd_open he
  have hrl := hr.2.1
  have hok0 := hok 0 (by omega) (by omega)
  repeat' (first | refine e_nil ?_ | ((first | refine e_op ?_ | refine e_yes rfl ?_); (first | refine o_n (peval_sound rfl) rfl ?_ | refine o_n (nl rfl rfl tc rfl) rfl ?_ | refine o_storeC rfl rfl rfl rfl tc uc rfl rfl rfl ?_ | refine o_box rfl rfl (fun _ => ?_) | refine o_box1 rfl rfl rfl (fun _ => ?_) | refine o_alloc rfl rfl (fun _ => ?_))) | refine e_noU rfl rfl rfl ?_ | refine e_noN rfl rfl ?_ | refine s_seq ?_ | refine s_region ?_ | refine s_block ?_ | refine s_end ?_ | refine s_skip ?_ | refine s_exit ?_ | refine s_true rfl ?_ | refine s_false rfl ?_ | refine x_hit ?_ | refine x_code ?_ | refine x_back ?_ | refine x_miss rfl ?_)
  refine e_op (o_n (n_index rfl rfl rfl rfl 0 rfl (by omega)) rfl ?_)
  repeat' (first | refine e_nil ?_ | ((first | refine e_op ?_ | refine e_yes rfl ?_); (first | refine o_n (peval_sound rfl) rfl ?_ | refine o_n (nl rfl rfl tc rfl) rfl ?_ | refine o_storeC rfl rfl rfl rfl tc uc rfl rfl rfl ?_ | refine o_box rfl rfl (fun _ => ?_) | refine o_box1 rfl rfl rfl (fun _ => ?_) | refine o_alloc rfl rfl (fun _ => ?_))) | refine e_noU rfl rfl rfl ?_ | refine e_noN rfl rfl ?_ | refine s_seq ?_ | refine s_region ?_ | refine s_block ?_ | refine s_end ?_ | refine s_skip ?_ | refine s_exit ?_ | refine s_true rfl ?_ | refine s_false rfl ?_ | refine x_hit ?_ | refine x_code ?_ | refine x_back ?_ | refine x_miss rfl ?_)
  refine e_op (o_n (n_load_ro rfl rfl hb0 (loads_one rfl (hc 1 _ rfl))) rfl ?_)
  have hstart : (¬ ∃ (h2 : g.Prods[0].Right.length = 1), (g.Terms.length : Int) ≤ g.Prods[0].Right[0]) → Value.int .i64 2 = Value.int .i64 (checkE g) := fun hn =>
    not_wf hl (fun hw => by
      obtain ⟨_, h2, h3⟩ := (startOk_iff _ _).1 hw.start
      exact hn ⟨h2, h3⟩)
  repeat' (first | refine e_nil ?_ | ((first | refine e_op ?_ | refine e_yes rfl ?_); (first | refine o_n (peval_sound rfl) rfl ?_ | refine o_n (nl rfl rfl tc rfl) rfl ?_ | refine o_storeC rfl rfl rfl rfl tc uc rfl rfl rfl ?_ | refine o_box rfl rfl (fun _ => ?_) | refine o_box1 rfl rfl rfl (fun _ => ?_) | refine o_alloc rfl rfl (fun _ => ?_))) | refine e_noU rfl rfl rfl ?_ | refine e_noN rfl rfl ?_ | refine s_seq ?_ | refine s_region ?_ | refine s_block ?_ | refine s_end ?_ | refine s_skip ?_ | refine s_exit ?_ | refine s_true rfl ?_ | refine s_false rfl ?_ | refine x_hit ?_ | refine x_code ?_ | refine x_back ?_ | refine x_miss rfl ?_)
  refine e_part rfl rfl (fun h => ?_) (fun h => ?_)
  · repeat' (first | refine e_nil ?_ | ((first | refine e_op ?_ | refine e_yes rfl ?_); (first | refine o_n (peval_sound rfl) rfl ?_ | refine o_n (nl rfl rfl tc rfl) rfl ?_ | refine o_storeC rfl rfl rfl rfl tc uc rfl rfl rfl ?_ | refine o_box rfl rfl (fun _ => ?_) | refine o_box1 rfl rfl rfl (fun _ => ?_) | refine o_alloc rfl rfl (fun _ => ?_))) | refine e_noU rfl rfl rfl ?_ | refine e_noN rfl rfl ?_ | refine s_seq ?_ | refine s_region ?_ | refine s_block ?_ | refine s_end ?_ | refine s_skip ?_ | refine s_exit ?_ | refine s_true rfl ?_ | refine s_false rfl ?_ | refine x_hit ?_ | refine x_code ?_ | refine x_back ?_ | refine x_miss rfl ?_)
    refine s_ret ⟨_, _, res1 rfl rfl, ⟨?_, rfl⟩, Ent.nil _⟩
    refine hstart (fun ⟨h2, _⟩ => ?_)
    rw [h2] at h; cases h
  have hone : g.Prods[0].Right.length = 1 := by
    have h9 := bne_eq_false_iff_eq.1 h
    omega
  clear h
  obtain ⟨b3, o3, es3, rfl, hb3, ⟨rfl, hsI⟩, hc3⟩ := hr.2.2 0 (by omega)
  repeat' (first | refine e_nil ?_ | ((first | refine e_op ?_ | refine e_yes rfl ?_); (first | refine o_n (peval_sound rfl) rfl ?_ | refine o_n (nl rfl rfl tc rfl) rfl ?_ | refine o_storeC rfl rfl rfl rfl tc uc rfl rfl rfl ?_ | refine o_box rfl rfl (fun _ => ?_) | refine o_box1 rfl rfl rfl (fun _ => ?_) | refine o_alloc rfl rfl (fun _ => ?_))) | refine e_noU rfl rfl rfl ?_ | refine e_noN rfl rfl ?_ | refine s_seq ?_ | refine s_region ?_ | refine s_block ?_ | refine s_end ?_ | refine s_skip ?_ | refine s_exit ?_ | refine s_true rfl ?_ | refine s_false rfl ?_ | refine x_hit ?_ | refine x_code ?_ | refine x_back ?_ | refine x_miss rfl ?_)
  refine e_yes rfl (o_n (n_index rfl rfl rfl rfl 0 rfl (by omega)) rfl ?_)
  repeat' (first | refine e_nil ?_ | ((first | refine e_op ?_ | refine e_yes rfl ?_); (first | refine o_n (peval_sound rfl) rfl ?_ | refine o_n (nl rfl rfl tc rfl) rfl ?_ | refine o_storeC rfl rfl rfl rfl tc uc rfl rfl rfl ?_ | refine o_box rfl rfl (fun _ => ?_) | refine o_box1 rfl rfl rfl (fun _ => ?_) | refine o_alloc rfl rfl (fun _ => ?_))) | refine e_noU rfl rfl rfl ?_ | refine e_noN rfl rfl ?_ | refine s_seq ?_ | refine s_region ?_ | refine s_block ?_ | refine s_end ?_ | refine s_skip ?_ | refine s_exit ?_ | refine s_true rfl ?_ | refine s_false rfl ?_ | refine x_hit ?_ | refine x_code ?_ | refine x_back ?_ | refine x_miss rfl ?_)
  refine e_yes rfl (o_n (n_load_ro rfl rfl hb0 (loads_one rfl (hc 1 _ rfl))) rfl ?_)
  refine e_yes rfl (o_n (n_index rfl rfl rfl rfl 0 rfl (by omega)) rfl ?_)
  refine e_yes rfl (o_n (n_load_ro rfl rfl hb3 (loads_one rfl (hc3 0 _ rfl))) rfl ?_)
  repeat' (first | refine e_nil ?_ | ((first | refine e_op ?_ | refine e_yes rfl ?_); (first | refine o_n (peval_sound rfl) rfl ?_ | refine o_n (nl rfl rfl tc rfl) rfl ?_ | refine o_storeC rfl rfl rfl rfl tc uc rfl rfl rfl ?_ | refine o_box rfl rfl (fun _ => ?_) | refine o_box1 rfl rfl rfl (fun _ => ?_) | refine o_alloc rfl rfl (fun _ => ?_))) | refine e_noU rfl rfl rfl ?_ | refine e_noN rfl rfl ?_ | refine s_seq ?_ | refine s_region ?_ | refine s_block ?_ | refine s_end ?_ | refine s_skip ?_ | refine s_exit ?_ | refine s_true rfl ?_ | refine s_false rfl ?_ | refine x_hit ?_ | refine x_code ?_ | refine x_back ?_ | refine x_miss rfl ?_)
  refine e_part rfl rfl (fun h => ?_) (fun h => ?_)
  · repeat' (first | refine e_nil ?_ | ((first | refine e_op ?_ | refine e_yes rfl ?_); (first | refine o_n (peval_sound rfl) rfl ?_ | refine o_n (nl rfl rfl tc rfl) rfl ?_ | refine o_storeC rfl rfl rfl rfl tc uc rfl rfl rfl ?_ | refine o_box rfl rfl (fun _ => ?_) | refine o_box1 rfl rfl rfl (fun _ => ?_) | refine o_alloc rfl rfl (fun _ => ?_))) | refine e_noU rfl rfl rfl ?_ | refine e_noN rfl rfl ?_ | refine s_seq ?_ | refine s_region ?_ | refine s_block ?_ | refine s_end ?_ | refine s_skip ?_ | refine s_exit ?_ | refine s_true rfl ?_ | refine s_false rfl ?_ | refine x_hit ?_ | refine x_code ?_ | refine x_back ?_ | refine x_miss rfl ?_)
    refine s_ret ⟨_, _, res1 rfl rfl, ⟨?_, rfl⟩, Ent.nil _⟩
    refine hstart (fun ⟨_, h2⟩ => ?_)
    have := of_decide_eq_true h
    omega
  have hbeg : (g.Terms.length : Int) ≤ g.Prods[0].Right[0] := by have := of_decide_eq_false h; omega
  clear h
  have hw0 : Wf0 g := ⟨by omega, by omega, by omega, by omega, hbind, fun i hi => (prodOk_iff _ _ _ _).2 (hok i hi hi), (startOk_iff _ _).2 ⟨by omega, hone, hbeg⟩⟩
  have hps : PsOk g.Terms.length g.Nons.length g.Prods := ⟨fun i hi => ⟨(hok i hi hi).lo, (hok i hi hi).hi⟩, fun i hi s hs => ⟨((hok i hi hi).right s hs).1, ((hok i hi hi).right s hs).2.1⟩⟩
  repeat' (first | refine e_nil ?_ | ((first | refine e_op ?_ | refine e_yes rfl ?_); (first | refine o_n (peval_sound rfl) rfl ?_ | refine o_n (nl rfl rfl tc rfl) rfl ?_ | refine o_storeC rfl rfl rfl rfl tc uc rfl rfl rfl ?_ | refine o_box rfl rfl (fun _ => ?_) | refine o_box1 rfl rfl rfl (fun _ => ?_) | refine o_alloc rfl rfl (fun _ => ?_))) | refine e_noU rfl rfl rfl ?_ | refine e_noN rfl rfl ?_ | refine s_seq ?_ | refine s_region ?_ | refine s_block ?_ | refine s_end ?_ | refine s_skip ?_ | refine s_exit ?_ | refine s_true rfl ?_ | refine s_false rfl ?_ | refine x_hit ?_ | refine x_code ?_ | refine x_back ?_ | refine x_miss rfl ?_)
  refine e_yes rfl (o_call (usefulR_w _ g hps) rfl .nil (Can.ro (kGram_mk hG)) rfl ?_)
  rintro v V ⟨rfl, rfl⟩
  repeat' (first | refine e_nil ?_ | ((first | refine e_op ?_ | refine e_yes rfl ?_); (first | refine o_n (peval_sound rfl) rfl ?_ | refine o_n (nl rfl rfl tc rfl) rfl ?_ | refine o_storeC rfl rfl rfl rfl tc uc rfl rfl rfl ?_ | refine o_box rfl rfl (fun _ => ?_) | refine o_box1 rfl rfl rfl (fun _ => ?_) | refine o_alloc rfl rfl (fun _ => ?_))) | refine e_noU rfl rfl rfl ?_ | refine e_noN rfl rfl ?_ | refine s_seq ?_ | refine s_region ?_ | refine s_block ?_ | refine s_end ?_ | refine s_skip ?_ | refine s_exit ?_ | refine s_true rfl ?_ | refine s_false rfl ?_ | refine x_hit ?_ | refine x_code ?_ | refine x_back ?_ | refine x_miss rfl ?_)
  refine s_cond rfl (fun h => ?_) (fun h => ?_)
  · repeat' (first | refine e_nil ?_ | ((first | refine e_op ?_ | refine e_yes rfl ?_); (first | refine o_n (peval_sound rfl) rfl ?_ | refine o_n (nl rfl rfl tc rfl) rfl ?_ | refine o_storeC rfl rfl rfl rfl tc uc rfl rfl rfl ?_ | refine o_box rfl rfl (fun _ => ?_) | refine o_box1 rfl rfl rfl (fun _ => ?_) | refine o_alloc rfl rfl (fun _ => ?_))) | refine e_noU rfl rfl rfl ?_ | refine e_noN rfl rfl ?_ | refine s_seq ?_ | refine s_region ?_ | refine s_block ?_ | refine s_end ?_ | refine s_skip ?_ | refine s_exit ?_ | refine s_true rfl ?_ | refine s_false rfl ?_ | refine x_hit ?_ | refine x_code ?_ | refine x_back ?_ | refine x_miss rfl ?_)
    refine s_ret ⟨_, _, res1 rfl rfl, ⟨?_, rfl⟩, Ent.nil _⟩
    rw [checkE_u hl hw0, if_neg (by simpa using h)]
  · repeat' (first | refine e_nil ?_ | ((first | refine e_op ?_ | refine e_yes rfl ?_); (first | refine o_n (peval_sound rfl) rfl ?_ | refine o_n (nl rfl rfl tc rfl) rfl ?_ | refine o_storeC rfl rfl rfl rfl tc uc rfl rfl rfl ?_ | refine o_box rfl rfl (fun _ => ?_) | refine o_box1 rfl rfl rfl (fun _ => ?_) | refine o_alloc rfl rfl (fun _ => ?_))) | refine e_noU rfl rfl rfl ?_ | refine e_noN rfl rfl ?_ | refine s_seq ?_ | refine s_region ?_ | refine s_block ?_ | refine s_end ?_ | refine s_skip ?_ | refine s_exit ?_ | refine s_true rfl ?_ | refine s_false rfl ?_ | refine x_hit ?_ | refine x_code ?_ | refine x_back ?_ | refine x_miss rfl ?_)
    refine s_ret ⟨_, _, res1 rfl rfl, ⟨?_, rfl⟩, Ent.nil _⟩
    rw [checkE_u hl hw0, if_pos (by simpa using h)]

end Go.Proofs.YtcbaebkkdkdaaaaDoor

namespace Go.Proofs.YtcbaebkkdkdaaaaDoor
set_option linter.all false

def orP (r te : List Bool) (k : Nat) : List Bool := (List.range r.length).map fun i => r.getD i false || (decide (i < k) && te.getD i false)
def orL (r te : List Bool) : List Bool := orP r te r.length

theorem orP_len (r te : List Bool) (k : Nat) : (orP r te k).length = r.length := by simp [orP]
theorem orL_len (r te : List Bool) : (orL r te).length = r.length := orP_len _ _ _

theorem orP_get {r te : List Bool} {k i : Nat} (h : i < r.length) : (orP r te k)[i]? = some (r[i] || (decide (i < k) && te.getD i false)) := by
  unfold orP
  rw [List.getElem?_map, List.getElem?_range h, Option.map_some, List.getD_eq_getElem?_getD, List.getElem?_eq_getElem h]; rfl

theorem orP_zero (r te : List Bool) : orP r te 0 = r := by
  apply List.ext_getElem?
  intro i
  by_cases h : i < r.length
  · rw [orP_get h, List.getElem?_eq_getElem h]; simp
  · rw [List.getElem?_eq_none (by rw [orP_len]; omega), List.getElem?_eq_none (by omega)]

theorem orP_succ {r te : List Bool} {k : Nat} {v : Bool} (hk : k < r.length) (hv : v = (r[k] || te.getD k false)) : (orP r te k).set k v = orP r te (k + 1) := by
  apply List.ext_getElem?
  intro i
  rw [List.getElem?_set]
  by_cases hi : i < r.length
  · rw [orP_get (k := k + 1) hi]
    by_cases e : k = i
    · subst e
      rw [if_pos rfl, orP_len, if_pos hi, hv, decide_eq_true (Nat.lt_succ_self k), Bool.true_and]
    · rw [if_neg e, orP_get hi]
      have : decide (i < k) = decide (i < k + 1) := by
        rw [decide_eq_decide]; omega
      rw [this]
  · have h2 : (orP r te (k + 1))[i]? = none := List.getElem?_eq_none (by rw [orP_len]; omega)
    have h3 : (orP r te k)[i]? = none := List.getElem?_eq_none (by rw [orP_len]; omega)
    rw [h2, h3]
    have : k ≠ i := by omega
    rw [if_neg this]

theorem orP_at {r te : List Bool} {k : Nat} (hk : k < r.length) : (orP r te k)[k]? = some r[k] := by rw [orP_get hk]; simp

def rowS (t : Nat) (no : List Bool) (fi : List (List Bool)) : List Int → List Bool → List Bool × Bool
  | [], acc => (acc, true)
  | s :: l, acc =>
    if s < (t : Int) then (acc.set s.toNat true, false)
    else if no.getD (s - t).toNat false then rowS t no fi l (orL acc (fi.getD (s - t).toNat [])) else (orL acc (fi.getD (s - t).toNat []), false)

theorem rowS_len (t : Nat) (no : List Bool) (fi : List (List Bool)) : ∀ (l : List Int) (acc : List Bool), (rowS t no fi l acc).1.length = acc.length
  | [], _ => rfl
  | s :: l, acc => by
    unfold rowS
    split
    · simp
    · split
      · rw [rowS_len, orL_len]
      · exact orL_len _ _

abbrev BSt := List Bool × List (List Bool)

def rowT (t : Nat) (s : BSt) (l : List Int) : List Bool × Bool := rowS t s.1 s.2 l (List.replicate t false)
theorem rowT_len (t : Nat) (s : BSt) (l : List Int) : (rowT t s l).1.length = t := by unfold rowT; rw [rowS_len]; simp

def bNo (t : Nat) (s : BSt) (p : Prd) : List Bool := if (rowT t s p.Right).2 then s.1.set p.Left.toNat true else s.1
def bFi (t : Nat) (s : BSt) (p : Prd) (k : Nat) : List (List Bool) := s.2.set p.Left.toNat (orP (s.2.getD p.Left.toNat []) (rowT t s p.Right).1 k)
def bStep (t : Nat) (s : BSt) (p : Prd) : BSt := (bNo t s p, bFi t s p t)
def bRound (t : Nat) (ps : List Prd) (s : BSt) : BSt := ps.foldl (bStep t) s
def bInit (t n : Nat) : BSt := (List.replicate n false, List.replicate n (List.replicate t false))
def bFix (g : Gram) : BSt := it (bRound g.Terms.length g.Prods) (g.Nons.length + g.Nons.length * g.Terms.length + 1) (bInit g.Terms.length g.Nons.length)

structure BInv (t n : Nat) (s : BSt) : Prop where
  no : s.1.length = n
  fi : s.2.length = n
  rows : ∀ r ∈ s.2, r.length = t

theorem BInv.row {t n : Nat} {s : BSt} (h : BInv t n s) {i : Nat} (hi : i < n) : (s.2.getD i []).length = t := by
  have hl : i < s.2.length := by rw [h.fi]; exact hi
  rw [List.getD_eq_getElem?_getD, List.getElem?_eq_getElem hl]
  exact h.rows _ (List.getElem_mem hl)

theorem bInit_inv (t n : Nat) : BInv t n (bInit t n) := ⟨by simp [bInit], by simp [bInit], fun r hr => by
  simp only [bInit, List.mem_replicate] at hr
  rw [hr.2]; simp⟩

theorem bNo_len (t : Nat) (s : BSt) (p : Prd) : (bNo t s p).length = s.1.length := by unfold bNo; split <;> simp

theorem bFi_rows {t n : Nat} {s : BSt} (h : BInv t n s) (p : Prd) (hp : p.Left.toNat < n) (k : Nat) : ∀ r ∈ bFi t s p k, r.length = t := by
  intro r hr
  unfold bFi at hr
  rcases List.mem_or_eq_of_mem_set hr with h2 | h2
  · exact h.rows r h2
  · rw [h2, orP_len]; exact h.row hp

theorem BInv.part {t n : Nat} {s : BSt} (h : BInv t n s) (p : Prd) (hp : p.Left.toNat < n) (k : Nat) : BInv t n (bNo t s p, bFi t s p k) :=
  ⟨by rw [bNo_len]; exact h.no, by simp only [bFi, List.length_set]; exact h.fi, bFi_rows h p hp k⟩

theorem bStep_inv {t n : Nat} {s : BSt} (h : BInv t n s) (p : Prd) (hp : p.Left.toNat < n) : BInv t n (bStep t s p) := h.part p hp t

theorem bRound_inv {t n : Nat} : ∀ (ps : List Prd) (_ : ∀ p ∈ ps, p.Left.toNat < n) (s : BSt), BInv t n s → BInv t n (bRound t ps s)
  | [], _, _, h => h
  | p :: ps, hp, s, h => bRound_inv ps (fun q hq => hp q (List.mem_cons_of_mem _ hq)) (bStep t s p) (bStep_inv h p (hp p (List.mem_cons_self ..)))

/-! ### how much is known -/
def cntF (l : List (List Bool)) : Nat := (l.map cnt).sum
def cntS (s : BSt) : Nat := cnt s.1 + cntF s.2

theorem cntF_set : ∀ (l : List (List Bool)) (i : Nat) (r : List Bool) (h : i < l.length), cntF (l.set i r) + cnt l[i] = cntF l + cnt r
  | [], i, _, h => by simp at h
  | x :: l, 0, r, _ => by simp [cntF]; omega
  | x :: l, i + 1, r, h => by
    have := cntF_set l i r (by simpa using h)
    simp only [cntF, List.set_cons_succ, List.map_cons, List.sum_cons, List.getElem_cons_succ] at this ⊢
    omega

theorem cntF_le : ∀ (l : List (List Bool)) (t : Nat) (_ : ∀ r ∈ l, r.length = t), cntF l ≤ l.length * t
  | [], _, _ => by simp [cntF]
  | x :: l, t, h => by
    have h1 := cntF_le l t (fun r hr => h r (List.mem_cons_of_mem _ hr))
    have h2 := cnt_le x
    rw [h x (List.mem_cons_self ..)] at h2
    simp only [cntF, List.map_cons, List.sum_cons, List.length_cons, Nat.succ_mul] at h1 ⊢
    omega

theorem cntS_le {t n : Nat} {s : BSt} (h : BInv t n s) : cntS s ≤ n + n * t := by
  have h1 := cnt_le s.1
  have h2 := cntF_le s.2 t h.rows
  rw [h.no] at h1
  rw [h.fi] at h2
  unfold cntS; omega

theorem orP_grow {r te : List Bool} {k : Nat} (hk : k < r.length) : orP r te (k + 1) = orP r te k ∨ cnt (orP r te (k + 1)) = cnt (orP r te k) + 1 := by
  have h1 := orP_succ (te := te) hk rfl
  rw [← h1]
  cases hb : r[k] with
  | true =>
    refine .inl ?_
    rw [Bool.true_or]
    exact set_true (by rw [orP_at hk, hb]; simp)
  | false =>
    rw [Bool.false_or]
    cases te.getD k false with
    | true => exact .inr (cnt_set (by rw [orP_at hk, hb]))
    | false =>
      refine .inl ?_
      apply List.ext_getElem?
      intro i
      rw [List.getElem?_set]
      split
      · rename_i e
        subst e
        rw [orP_len, if_pos hk, orP_at hk, hb]
      · rfl

theorem orP_mono (r te : List Bool) : ∀ k, k ≤ r.length → orP r te k = r ∨ cnt r < cnt (orP r te k)
  | 0, _ => .inl (orP_zero r te)
  | k + 1, h => by
    rcases orP_mono r te k (by omega) with h1 | h1 <;> rcases orP_grow (te := te) (show k < r.length by omega) with h2 | h2
    · exact .inl (by rw [h2, h1])
    · exact .inr (by rw [h2, h1]; omega)
    · exact .inr (by rw [h2]; exact h1)
    · exact .inr (by omega)

theorem set_self {α : Type} {l : List α} {i : Nat} {x : α} (h : l[i]? = some x) : l.set i x = l := by
  apply List.ext_getElem?
  intro j
  rw [List.getElem?_set]
  split
  · rename_i e; subst e
    split
    · exact h.symm
    · rename_i h2; rw [List.getElem?_eq_none (by omega)] at h; cases h
  · rfl

theorem bPart_cnt {t n : Nat} {s : BSt} (h : BInv t n s) (p : Prd) (hp : p.Left.toNat < n) {k : Nat} (hk : k ≤ t) : (bNo t s p, bFi t s p k) = s ∨ cntS s < cntS (bNo t s p, bFi t s p k) := by
  have hl : p.Left.toNat < s.2.length := by rw [h.fi]; exact hp
  have hrow : s.2.getD p.Left.toNat [] = s.2[p.Left.toNat] := by rw [List.getD_eq_getElem?_getD, List.getElem?_eq_getElem hl]; rfl
  have hn : bNo t s p = s.1 ∨ cnt s.1 < cnt (bNo t s p) := by
    unfold bNo
    split
    · by_cases hb : s.1[p.Left.toNat]? = some false
      · exact .inr (by rw [cnt_set hb]; omega)
      · exact .inl (set_true hb)
    · exact .inl rfl
  have hf : bFi t s p k = s.2 ∨ cntF s.2 < cntF (bFi t s p k) := by
    have h1 := orP_mono (s.2.getD p.Left.toNat []) (rowT t s p.Right).1 k (by rw [h.row hp]; exact hk)
    have h2 := cntF_set s.2 p.Left.toNat (orP (s.2.getD p.Left.toNat []) (rowT t s p.Right).1 k) hl
    unfold bFi
    rcases h1 with h1 | h1
    · refine .inl ?_
      rw [h1]
      exact set_self (by rw [List.getElem?_eq_getElem hl, hrow])
    · refine .inr ?_
      rw [hrow] at h1 h2 ⊢
      omega
  unfold cntS
  rcases hn with hn | hn <;> rcases hf with hf | hf
  · exact .inl (by rw [hn, hf])
  · refine .inr ?_
    simp only [hn]
    omega
  · refine .inr ?_
    simp only [hf]
    omega
  · refine .inr ?_
    simp only
    omega

theorem bRound_cnt {t n : Nat} : ∀ (ps : List Prd) (_ : ∀ p ∈ ps, p.Left.toNat < n) (s : BSt), BInv t n s → bRound t ps s = s ∨ cntS s < cntS (bRound t ps s)
  | [], _, _, _ => .inl rfl
  | p :: ps, hp, s, h => by
    have h1 : bStep t s p = s ∨ cntS s < cntS (bStep t s p) := bPart_cnt h p (hp p (List.mem_cons_self ..)) (Nat.le_refl t)
    have h2 := bRound_cnt ps (fun q hq => hp q (List.mem_cons_of_mem _ hq)) (bStep t s p) (bStep_inv h p (hp p (List.mem_cons_self ..)))
    show bRound t ps (bStep t s p) = s ∨ _ < cntS (bRound t ps (bStep t s p))
    rcases h1 with h1 | h1
    · rw [h1] at h2 ⊢; exact h2
    · rcases h2 with h2 | h2
      · exact .inr (by rw [h2]; exact h1)
      · exact .inr (by omega)

theorem bFix_unique {g : Gram} (hp : ∀ p ∈ g.Prods, p.Left.toNat < g.Nons.length) {m : Nat}
    (hm : bRound g.Terms.length g.Prods (it (bRound g.Terms.length g.Prods) m (bInit g.Terms.length g.Nons.length)) = it (bRound g.Terms.length g.Prods) m (bInit g.Terms.length g.Nons.length)) :
    it (bRound g.Terms.length g.Prods) m (bInit g.Terms.length g.Nons.length) = bFix g :=
  it_unique (I := BInv g.Terms.length g.Nons.length) (μ := cntS) (N := g.Nons.length + g.Nons.length * g.Terms.length) (fun x hx => bRound_inv _ hp x hx)
    (fun x hx hne => by rcases bRound_cnt g.Prods hp x hx with h | h; exact absurd h hne; exact h) (fun x hx => cntS_le hx) (bInit_inv _ _) (Nat.lt_succ_self _) hm

theorem bFix_fix {g : Gram} (hp : ∀ p ∈ g.Prods, p.Left.toNat < g.Nons.length) : bRound g.Terms.length g.Prods (bFix g) = bFix g :=
  it_stable (I := BInv g.Terms.length g.Nons.length) (μ := cntS) (N := g.Nons.length + g.Nons.length * g.Terms.length) (fun x hx => bRound_inv _ hp x hx)
    (fun x hx hne => by rcases bRound_cnt g.Prods hp x hx with h | h; exact absurd h hne; exact h) (fun x hx => cntS_le hx) (bInit_inv _ _) (Nat.lt_succ_self _)

theorem bFix_inv {g : Gram} (hp : ∀ p ∈ g.Prods, p.Left.toNat < g.Nons.length) : BInv g.Terms.length g.Nons.length (bFix g) :=
  it_inv (I := BInv g.Terms.length g.Nons.length) (fun x hx => bRound_inv _ hp x hx) (bInit_inv _ _) _

/-! ### one production, term by term -/
section
variable {t n : Nat} {s : BSt} (h : BInv t n s) (p : Prd) (hp : p.Left.toNat < n)
include h hp
theorem bFi_get (k : Nat) : (bFi t s p k)[p.Left.toNat]? = some (orP (s.2.getD p.Left.toNat []) (rowT t s p.Right).1 k) := by
  unfold bFi
  rw [List.getElem?_set_self (by rw [h.fi]; exact hp)]

theorem bFi_next_t {j : Nat} (hj : j < t) (hte : (rowT t s p.Right).1.getD j false = true) :
    (bFi t s p j).set p.Left.toNat ((orP (s.2.getD p.Left.toNat []) (rowT t s p.Right).1 j).set j true) = bFi t s p (j + 1) := by
  unfold bFi
  rw [List.set_set, orP_succ (by rw [h.row hp]; exact hj) (by rw [hte, Bool.or_true])]

theorem bFi_next_f {j : Nat} (hj : j < t) (hte : (rowT t s p.Right).1.getD j false = false ∨ (s.2.getD p.Left.toNat []).getD j false = true) : bFi t s p (j + 1) = bFi t s p j := by
  have hjl : j < (s.2.getD p.Left.toNat []).length := by rw [h.row hp]; exact hj
  have hg : (s.2.getD p.Left.toNat []).getD j false = (s.2.getD p.Left.toNat [])[j] := by rw [List.getD_eq_getElem?_getD, List.getElem?_eq_getElem hjl]; rfl
  unfold bFi
  congr 1
  rw [← orP_succ hjl rfl]
  apply set_self
  rw [orP_at hjl]
  rw [hg] at hte
  congr 1
  rcases hte with h1 | h1
  · rw [h1, Bool.or_false]
  · rw [h1, Bool.true_or]

theorem bFi_next_n {j : Nat} (hj : j < t) (hte : (rowT t s p.Right).1.getD j false = true) (hr : (s.2.getD p.Left.toNat []).getD j false = false) (no : List Bool) :
    cntS (no, bFi t s p (j + 1)) = cntS (no, bFi t s p j) + 1 := by
  have hjl : j < (s.2.getD p.Left.toNat []).length := by rw [h.row hp]; exact hj
  have hg : (s.2.getD p.Left.toNat []).getD j false = (s.2.getD p.Left.toNat [])[j] := by rw [List.getD_eq_getElem?_getD, List.getElem?_eq_getElem hjl]; rfl
  rw [← bFi_next_t h p hp hj hte]
  have hl : p.Left.toNat < (bFi t s p j).length := by unfold bFi; rw [List.length_set, h.fi]; exact hp
  have h1 := cntF_set (bFi t s p j) p.Left.toNat ((orP (s.2.getD p.Left.toNat []) (rowT t s p.Right).1 j).set j true) hl
  have h2 : (bFi t s p j)[p.Left.toNat] = orP (s.2.getD p.Left.toNat []) (rowT t s p.Right).1 j := by
    have := bFi_get h p hp j
    rw [List.getElem?_eq_getElem hl] at this
    exact Option.some.inj this
  have h3 : cnt ((orP (s.2.getD p.Left.toNat []) (rowT t s p.Right).1 j).set j true) = cnt (orP (s.2.getD p.Left.toNat []) (rowT t s p.Right).1 j) + 1 :=
    cnt_set (by rw [orP_at hjl, ← hg, hr])
  rw [h2] at h1
  unfold cntS
  simp only
  omega

theorem bNo_new (hnt : (rowT t s p.Right).2 = true) (hb : s.1.getD p.Left.toNat false = false) : cntS (bNo t s p, s.2) = cntS s + 1 := by
  have hl : p.Left.toNat < s.1.length := by rw [h.no]; exact hp
  have : cnt (s.1.set p.Left.toNat true) = cnt s.1 + 1 := cnt_set (by
    rw [List.getElem?_eq_getElem hl]
    rw [List.getD_eq_getElem?_getD, List.getElem?_eq_getElem hl] at hb
    rw [← hb]; rfl)
  unfold bNo cntS
  rw [if_pos hnt]
  simp only
  omega

theorem bNo_old (hb : (rowT t s p.Right).2 = false ∨ s.1.getD p.Left.toNat false = true) : bNo t s p = s.1 := by
  have hl : p.Left.toNat < s.1.length := by rw [h.no]; exact hp
  unfold bNo
  rcases hb with hb | hb
  · rw [hb]; rfl
  · split
    · apply set_self
      rw [List.getD_eq_getElem?_getD, List.getElem?_eq_getElem hl] at hb
      rw [List.getElem?_eq_getElem hl, ← hb]; rfl
    · rfl

theorem bFi_zero : bFi t s p 0 = s.2 := by
  have hl : p.Left.toNat < s.2.length := by rw [h.fi]; exact hp
  unfold bFi
  rw [orP_zero]
  exact set_self (by rw [List.getD_eq_getElem?_getD, List.getElem?_eq_getElem hl]; rfl)
end

theorem bRound_take {t : Nat} {ps : List Prd} {i : Nat} (hlt : i < ps.length) (s : BSt) : bRound t (ps.take (i + 1)) s = bStep t (bRound t (ps.take i) s) ps[i] := by
  rw [List.take_succ_eq_append_getElem hlt, bRound, List.foldl_append]; rfl

end Go.Proofs.YtcbaebkkdkdaaaaDoor

namespace Go.Proofs.YtcbaebkkdkdaaaaDoor
set_option linter.all false
open Go.Proofs.YtcbaebkkdkdaaaaDoor.E
attribute [local irreducible] EVX EVO EVL EV1 NEV
set_option maxRecDepth 10000

/-- What is known, read: the record in its block, its names' two lists. -/
def knR (bk : Nat) (gr : List Value) (A0 : Option Addr) (t c0 : Nat) (vu : Value) (An : Option Addr) (n cn : Nat) (Af : Option Addr) (cf : Nat) (s : BSt) : Rd :=
  (rblk bk 94 (.slice A0 t c0 :: (gr ++ [vu, .slice An n cn, .slice Af n cf]))).and (((kslice 1 kbool).rd [.slice An n cn] s.1).and ((kslice 24 (kslice 1 kbool)).rd [.slice Af n cf] s.2))

theorem row_w (bk : Nat) (gr : List Value) (hgr : gr.length = 4) (A0 : Option Addr) (t c0 : Nat) (vu : Value) (An : Option Addr) (n cn : Nat) (Af : Option Addr) (cf : Nat) (s : BSt) (hs : BInv t n s)
    (ht : t * 16 ≤ 140737488355328) (hn : n * 16 ≤ 140737488355328) (Al : Option Addr) (m cl : Nat) (xs : List Int) (hm : m = xs.length) (hx : ∀ x ∈ xs, 0 ≤ x ∧ x < (t : Int) + n) :
    Trip Tryd.prog 67 [.pointer (some ⟨bk, 0, none⟩), .slice Al m cl] ((knR bk gr A0 t c0 vu An n cn Af cf s).and ((kslice 8 kint).rd [.slice Al m cl] xs)) []
      (fun v V => ∃ bu, v = .tuple #[.slice (some ⟨bu, 0, none⟩) t t, .bool (rowT t s xs).2] ∧ V = [osl 4 1 (.slice (some ⟨bu, 0, none⟩) t t) t ((rowT t s xs).1.map Value.bool)]) := by
  subst hm
  refine trip Tryd.tabOk Tryd.func67 rfl rfl rfl rfl ?_
  rintro w SM ⟨⟨⟨hk, hk'⟩, ⟨An', cn', en, hno⟩, Af', cf', ef, hfi⟩, Al', cl', el, hl⟩
  obtain ⟨lno, lfi, lrows⟩ := hs
  obtain ⟨no, fi⟩ := s
  simp only at lno lfi lrows hno hfi
  cases el
  simp only [List.cons.injEq, Value.slice.injEq, and_true] at en ef
  obtain ⟨rfl, _, rfl⟩ := en
  obtain ⟨rfl, _, rfl⟩ := ef
  obtain ⟨g1, g2, g3, g4, rfl⟩ : ∃ g1 g2 g3 g4, gr = [g1, g2, g3, g4] := by
    match gr, hgr with
    | [g1, g2, g3, g4], _ => exact ⟨g1, g2, g3, g4, rfl⟩
  have hll := hl.2.1
  repeat' (first | refine e_nil ?_ | ((first | refine e_op ?_ | refine e_yes rfl ?_); (first | refine o_n (peval_sound rfl) rfl ?_ | refine o_n (nl rfl rfl tc rfl) rfl ?_ | refine o_storeC rfl rfl rfl rfl tc uc rfl rfl rfl ?_ | refine o_box rfl rfl (fun _ => ?_) | refine o_box1 rfl rfl rfl (fun _ => ?_) | refine o_alloc rfl rfl (fun _ => ?_))) | refine e_noU rfl rfl rfl ?_ | refine e_noN rfl rfl ?_ | refine s_seq ?_ | refine s_region ?_ | refine s_block ?_ | refine s_end ?_ | refine s_skip ?_ | refine s_exit ?_ | refine s_true rfl ?_ | refine s_false rfl ?_ | refine x_hit ?_ | refine x_code ?_ | refine x_back ?_ | refine x_miss rfl ?_)
  refine e_op (o_n (n_load_ro rfl rfl hk (loads_blk hk' rfl)) rfl ?_)
  repeat' (first | refine e_nil ?_ | ((first | refine e_op ?_ | refine e_yes rfl ?_); (first | refine o_n (peval_sound rfl) rfl ?_ | refine o_n (nl rfl rfl tc rfl) rfl ?_ | refine o_storeC rfl rfl rfl rfl tc uc rfl rfl rfl ?_ | refine o_box rfl rfl (fun _ => ?_) | refine o_box1 rfl rfl rfl (fun _ => ?_) | refine o_alloc rfl rfl (fun _ => ?_))) | refine e_noU rfl rfl rfl ?_ | refine e_noN rfl rfl ?_ | refine s_seq ?_ | refine s_region ?_ | refine s_block ?_ | refine s_end ?_ | refine s_skip ?_ | refine s_exit ?_ | refine s_true rfl ?_ | refine s_false rfl ?_ | refine x_hit ?_ | refine x_code ?_ | refine x_back ?_ | refine x_miss rfl ?_)
  refine e_op (o_make rfl rfl rfl rfl t rfl rfl (by omega) (by omega) rfl (fun bu => ?_))
  repeat' (first | refine e_nil ?_ | ((first | refine e_op ?_ | refine e_yes rfl ?_); (first | refine o_n (peval_sound rfl) rfl ?_ | refine o_n (nl rfl rfl tc rfl) rfl ?_ | refine o_storeC rfl rfl rfl rfl tc uc rfl rfl rfl ?_ | refine o_box rfl rfl (fun _ => ?_) | refine o_box1 rfl rfl rfl (fun _ => ?_) | refine o_alloc rfl rfl (fun _ => ?_))) | refine e_noU rfl rfl rfl ?_ | refine e_noN rfl rfl ?_ | refine s_seq ?_ | refine s_region ?_ | refine s_block ?_ | refine s_end ?_ | refine s_skip ?_ | refine s_exit ?_ | refine s_true rfl ?_ | refine s_false rfl ?_ | refine x_hit ?_ | refine x_code ?_ | refine x_back ?_ | refine x_miss rfl ?_)
  refine s_loopK (ι := {x : Nat × List Bool // x.1 ≤ xs.length ∧ x.2.length = t ∧ rowT t (no, fi) xs = rowS t no fi (xs.drop x.1) x.2}) [0, 1, 6, 7, 20, 21] rfl ⟨(0, List.replicate t false), by simp, by simp, rfl⟩
    (fun x => [(22, .int .i64 x.1.1)]) (fun x => [osl 4 1 (.slice (some ⟨bu, 0, none⟩) t t) t (x.1.2.map Value.bool)]) (fun x => xs.length - x.1.1) ?_ ?_ ?_
  · repeat' (first | exact Sub.nil _ | refine Sub.cons rfl ?_ | refine Sub.consE rfl ?_ ?_)
  · rw [show List.replicate t (Value.bool false) = (List.replicate t false).map Value.bool from by simp]
    repeat' (first | exact Ent.nil _ | refine Ent.tak tk ?_ | refine Ent.tak .z ?_ | refine Ent.tak (.s .z) ?_ | refine Ent.tak (.s (.s .z)) ?_ | refine Ent.tak (.s (.s (.s .z))) ?_ | refine Ent.tak (.s (.s (.s (.s .z)))) ?_ | refine Ent.tak (.s (.s (.s (.s (.s .z))))) ?_)
  rintro ⟨⟨i, acc⟩, hi, hacc, hrow⟩
  simp only at hi hacc hrow ⊢
  repeat' (first | refine e_nil ?_ | ((first | refine e_op ?_ | refine e_yes rfl ?_); (first | refine o_n (peval_sound rfl) rfl ?_ | refine o_n (nl rfl rfl tc rfl) rfl ?_ | refine o_storeC rfl rfl rfl rfl tc uc rfl rfl rfl ?_ | refine o_box rfl rfl (fun _ => ?_) | refine o_box1 rfl rfl rfl (fun _ => ?_) | refine o_alloc rfl rfl (fun _ => ?_))) | refine e_noU rfl rfl rfl ?_ | refine e_noN rfl rfl ?_ | refine s_seq ?_ | refine s_region ?_ | refine s_block ?_ | refine s_end ?_ | refine s_skip ?_ | refine s_exit ?_ | refine s_true rfl ?_ | refine s_false rfl ?_ | refine x_hit ?_ | refine x_code ?_ | refine x_back ?_ | refine x_miss rfl ?_)
  refine s_cond rfl (fun h => ?_) (fun h => ?_)
  · have hlt : i < xs.length := by have := of_decide_eq_true h; omega
    clear h
    obtain ⟨b, o, es, rfl, hb, ⟨rfl, hsI⟩, hc⟩ := hl.2.2 i hlt
    obtain ⟨hx0, hx1⟩ := hx _ (List.getElem_mem hlt)
    rw [List.drop_eq_getElem_cons hlt, rowS] at hrow
    repeat' (first | refine e_nil ?_ | ((first | refine e_op ?_ | refine e_yes rfl ?_); (first | refine o_n (peval_sound rfl) rfl ?_ | refine o_n (nl rfl rfl tc rfl) rfl ?_ | refine o_storeC rfl rfl rfl rfl tc uc rfl rfl rfl ?_ | refine o_box rfl rfl (fun _ => ?_) | refine o_box1 rfl rfl rfl (fun _ => ?_) | refine o_alloc rfl rfl (fun _ => ?_))) | refine e_noU rfl rfl rfl ?_ | refine e_noN rfl rfl ?_ | refine s_seq ?_ | refine s_region ?_ | refine s_block ?_ | refine s_end ?_ | refine s_skip ?_ | refine s_exit ?_ | refine s_true rfl ?_ | refine s_false rfl ?_ | refine x_hit ?_ | refine x_code ?_ | refine x_back ?_ | refine x_miss rfl ?_)
    refine e_op (o_n (n_index rfl rfl rfl rfl i rfl hlt) rfl ?_)
    refine e_op (o_n (n_load_ro rfl rfl hb (loads_one rfl (hc 0 _ rfl))) rfl ?_)
    repeat' (first | refine e_nil ?_ | ((first | refine e_op ?_ | refine e_yes rfl ?_); (first | refine o_n (peval_sound rfl) rfl ?_ | refine o_n (nl rfl rfl tc rfl) rfl ?_ | refine o_storeC rfl rfl rfl rfl tc uc rfl rfl rfl ?_ | refine o_box rfl rfl (fun _ => ?_) | refine o_box1 rfl rfl rfl (fun _ => ?_) | refine o_alloc rfl rfl (fun _ => ?_))) | refine e_noU rfl rfl rfl ?_ | refine e_noN rfl rfl ?_ | refine s_seq ?_ | refine s_region ?_ | refine s_block ?_ | refine s_end ?_ | refine s_skip ?_ | refine s_exit ?_ | refine s_true rfl ?_ | refine s_false rfl ?_ | refine x_hit ?_ | refine x_code ?_ | refine x_back ?_ | refine x_miss rfl ?_)
    refine s_cond rfl (fun h => ?_) (fun h => ?_)
    · have hst := of_decide_eq_true h
      clear h
      rw [if_pos hst] at hrow
      have hlt2 : xs[i].toNat < acc.length := by omega
      repeat' (first | refine e_nil ?_ | ((first | refine e_op ?_ | refine e_yes rfl ?_); (first | refine o_n (peval_sound rfl) rfl ?_ | refine o_n (nl rfl rfl tc rfl) rfl ?_ | refine o_storeC rfl rfl rfl rfl tc uc rfl rfl rfl ?_ | refine o_box rfl rfl (fun _ => ?_) | refine o_box1 rfl rfl rfl (fun _ => ?_) | refine o_alloc rfl rfl (fun _ => ?_))) | refine e_noU rfl rfl rfl ?_ | refine e_noN rfl rfl ?_ | refine s_seq ?_ | refine s_region ?_ | refine s_block ?_ | refine s_end ?_ | refine s_skip ?_ | refine s_exit ?_ | refine s_true rfl ?_ | refine s_false rfl ?_ | refine x_hit ?_ | refine x_code ?_ | refine x_back ?_ | refine x_miss rfl ?_)
      refine e_op (o_n (n_index rfl rfl rfl rfl xs[i].toNat (by omega) (by omega)) rfl ?_)
      refine e_op (o_store_osl (vs := [.bool true]) rfl rfl rfl rfl rfl rfl (by simp; omega) .z ?_)
      repeat' (first | refine e_nil ?_ | ((first | refine e_op ?_ | refine e_yes rfl ?_); (first | refine o_n (peval_sound rfl) rfl ?_ | refine o_n (nl rfl rfl tc rfl) rfl ?_ | refine o_storeC rfl rfl rfl rfl tc uc rfl rfl rfl ?_ | refine o_box rfl rfl (fun _ => ?_) | refine o_box1 rfl rfl rfl (fun _ => ?_) | refine o_alloc rfl rfl (fun _ => ?_))) | refine e_noU rfl rfl rfl ?_ | refine e_noN rfl rfl ?_ | refine s_seq ?_ | refine s_region ?_ | refine s_block ?_ | refine s_end ?_ | refine s_skip ?_ | refine s_exit ?_ | refine s_true rfl ?_ | refine s_false rfl ?_ | refine x_hit ?_ | refine x_code ?_ | refine x_back ?_ | refine x_miss rfl ?_)
      refine s_ret ⟨_, _, res2 rfl rfl rfl, ⟨bu, ?_, rfl⟩, ?_⟩
      · rw [hrow]
      · rw [hrow]
        simp only [setMany, Nat.zero_add, Nat.mul_one, List.map_set]
        repeat' (first | exact Ent.nil _ | refine Ent.tak tk ?_ | refine Ent.tak .z ?_ | refine Ent.tak (.s .z) ?_ | refine Ent.tak (.s (.s .z)) ?_ | refine Ent.tak (.s (.s (.s .z))) ?_ | refine Ent.tak (.s (.s (.s (.s .z)))) ?_ | refine Ent.tak (.s (.s (.s (.s (.s .z))))) ?_)
    · have hst := of_decide_eq_false h
      clear h
      rw [if_neg hst] at hrow
      have hj : (xs[i] - (t : Int)).toNat < n := by omega
      generalize hjj : (xs[i] - (t : Int)).toNat = j at *
      have hw : IntKind.i64.wrap (xs[i] - (t : Int)) = (j : Int) := by rw [wrap_i64] <;> omega
      obtain ⟨b2, o2, es2, rfl, hb2, ⟨Ar, cr, rfl, hrow2⟩, hc2⟩ := hfi.2.2 j (by omega)
      have hlr : fi[j].length = t := lrows _ (List.getElem_mem _)
      have hgd : fi.getD j [] = fi[j] := by rw [List.getD_eq_getElem?_getD, List.getElem?_eq_getElem]; rfl
      rw [hgd] at hrow
      repeat' (first | refine e_nil ?_ | ((first | refine e_op ?_ | refine e_yes rfl ?_); (first | refine o_n (peval_sound rfl) rfl ?_ | refine o_n (nl rfl rfl tc rfl) rfl ?_ | refine o_storeC rfl rfl rfl rfl tc uc rfl rfl rfl ?_ | refine o_box rfl rfl (fun _ => ?_) | refine o_box1 rfl rfl rfl (fun _ => ?_) | refine o_alloc rfl rfl (fun _ => ?_))) | refine e_noU rfl rfl rfl ?_ | refine e_noN rfl rfl ?_ | refine s_seq ?_ | refine s_region ?_ | refine s_block ?_ | refine s_end ?_ | refine s_skip ?_ | refine s_exit ?_ | refine s_true rfl ?_ | refine s_false rfl ?_ | refine x_hit ?_ | refine x_code ?_ | refine x_back ?_ | refine x_miss rfl ?_)
      refine e_op (o_n (n_load_ro rfl rfl hk (loads_blk hk' rfl)) rfl ?_)
      repeat' (first | refine e_nil ?_ | ((first | refine e_op ?_ | refine e_yes rfl ?_); (first | refine o_n (peval_sound rfl) rfl ?_ | refine o_n (nl rfl rfl tc rfl) rfl ?_ | refine o_storeC rfl rfl rfl rfl tc uc rfl rfl rfl ?_ | refine o_box rfl rfl (fun _ => ?_) | refine o_box1 rfl rfl rfl (fun _ => ?_) | refine o_alloc rfl rfl (fun _ => ?_))) | refine e_noU rfl rfl rfl ?_ | refine e_noN rfl rfl ?_ | refine s_seq ?_ | refine s_region ?_ | refine s_block ?_ | refine s_end ?_ | refine s_skip ?_ | refine s_exit ?_ | refine s_true rfl ?_ | refine s_false rfl ?_ | refine x_hit ?_ | refine x_code ?_ | refine x_back ?_ | refine x_miss rfl ?_)
      refine e_op (o_n (n_index rfl rfl rfl rfl j hw (by omega)) rfl ?_)
      refine e_op (o_n (n_load_ro rfl rfl hb2 (loads_one rfl (hc2 0 _ rfl))) rfl ?_)
      repeat' (first | refine e_nil ?_ | ((first | refine e_op ?_ | refine e_yes rfl ?_); (first | refine o_n (peval_sound rfl) rfl ?_ | refine o_n (nl rfl rfl tc rfl) rfl ?_ | refine o_storeC rfl rfl rfl rfl tc uc rfl rfl rfl ?_ | refine o_box rfl rfl (fun _ => ?_) | refine o_box1 rfl rfl rfl (fun _ => ?_) | refine o_alloc rfl rfl (fun _ => ?_))) | refine e_noU rfl rfl rfl ?_ | refine e_noN rfl rfl ?_ | refine s_seq ?_ | refine s_region ?_ | refine s_block ?_ | refine s_end ?_ | refine s_skip ?_ | refine s_exit ?_ | refine s_true rfl ?_ | refine s_false rfl ?_ | refine x_hit ?_ | refine x_code ?_ | refine x_back ?_ | refine x_miss rfl ?_)
      refine s_loopK (ι := {k : Nat // k ≤ t}) [0, 1, 6, 7, 20, 21, 22, 9, 41, 42] rfl ⟨0, by omega⟩
        (fun x => [(43, .int .i64 x.1)]) (fun x => [osl 4 1 (.slice (some ⟨bu, 0, none⟩) t t) t ((orP acc fi[j] x.1).map Value.bool)]) (fun x => t - x.1) ?_ ?_ ?_
      · repeat' (first | exact Sub.nil _ | refine Sub.cons rfl ?_ | refine Sub.consE rfl ?_ ?_)
      · rw [orP_zero]; repeat' (first | exact Ent.nil _ | refine Ent.tak tk ?_ | refine Ent.tak .z ?_ | refine Ent.tak (.s .z) ?_ | refine Ent.tak (.s (.s .z)) ?_ | refine Ent.tak (.s (.s (.s .z))) ?_ | refine Ent.tak (.s (.s (.s (.s .z)))) ?_ | refine Ent.tak (.s (.s (.s (.s (.s .z))))) ?_)
      rintro ⟨k, hk2⟩
      simp only at hk2 ⊢
      repeat' (first | refine e_nil ?_ | ((first | refine e_op ?_ | refine e_yes rfl ?_); (first | refine o_n (peval_sound rfl) rfl ?_ | refine o_n (nl rfl rfl tc rfl) rfl ?_ | refine o_storeC rfl rfl rfl rfl tc uc rfl rfl rfl ?_ | refine o_box rfl rfl (fun _ => ?_) | refine o_box1 rfl rfl rfl (fun _ => ?_) | refine o_alloc rfl rfl (fun _ => ?_))) | refine e_noU rfl rfl rfl ?_ | refine e_noN rfl rfl ?_ | refine s_seq ?_ | refine s_region ?_ | refine s_block ?_ | refine s_end ?_ | refine s_skip ?_ | refine s_exit ?_ | refine s_true rfl ?_ | refine s_false rfl ?_ | refine x_hit ?_ | refine x_code ?_ | refine x_back ?_ | refine x_miss rfl ?_)
      refine s_cond rfl (fun h => ?_) (fun h => ?_)
      · have hkt : k < t := by have := of_decide_eq_true h; omega
        clear h
        obtain ⟨b3, o3, es3, e3, hb3, e4, hc3⟩ := hrow2.2.2 k (by omega)
        cases e4
        cases e3
        have hka : k < (orP acc fi[j] k).length := by rw [orP_len]; omega
        have hval : (orP acc fi[j] k)[k] = acc[k] := by
          have := orP_at (r := acc) (te := fi[j]) (k := k) (by omega)
          rw [List.getElem?_eq_getElem hka] at this
          exact Option.some.inj this
        repeat' (first | refine e_nil ?_ | ((first | refine e_op ?_ | refine e_yes rfl ?_); (first | refine o_n (peval_sound rfl) rfl ?_ | refine o_n (nl rfl rfl tc rfl) rfl ?_ | refine o_storeC rfl rfl rfl rfl tc uc rfl rfl rfl ?_ | refine o_box rfl rfl (fun _ => ?_) | refine o_box1 rfl rfl rfl (fun _ => ?_) | refine o_alloc rfl rfl (fun _ => ?_))) | refine e_noU rfl rfl rfl ?_ | refine e_noN rfl rfl ?_ | refine s_seq ?_ | refine s_region ?_ | refine s_block ?_ | refine s_end ?_ | refine s_skip ?_ | refine s_exit ?_ | refine s_true rfl ?_ | refine s_false rfl ?_ | refine x_hit ?_ | refine x_code ?_ | refine x_back ?_ | refine x_miss rfl ?_)
        refine e_op (o_n (n_index rfl rfl rfl rfl k rfl (by omega)) rfl ?_)
        refine e_op (o_n (n_load_ro rfl rfl hb3 (loads_one rfl (hc3 0 _ rfl))) rfl ?_)
        repeat' (first | refine e_nil ?_ | ((first | refine e_op ?_ | refine e_yes rfl ?_); (first | refine o_n (peval_sound rfl) rfl ?_ | refine o_n (nl rfl rfl tc rfl) rfl ?_ | refine o_storeC rfl rfl rfl rfl tc uc rfl rfl rfl ?_ | refine o_box rfl rfl (fun _ => ?_) | refine o_box1 rfl rfl rfl (fun _ => ?_) | refine o_alloc rfl rfl (fun _ => ?_))) | refine e_noU rfl rfl rfl ?_ | refine e_noN rfl rfl ?_ | refine s_seq ?_ | refine s_region ?_ | refine s_block ?_ | refine s_end ?_ | refine s_skip ?_ | refine s_exit ?_ | refine s_true rfl ?_ | refine s_false rfl ?_ | refine x_hit ?_ | refine x_code ?_ | refine x_back ?_ | refine x_miss rfl ?_)
        refine e_op (o_n (n_index rfl rfl rfl rfl k rfl (by omega)) rfl ?_)
        refine e_op (o_n (n_load_osl (v := .bool acc[k]) rfl rfl .z (by simp [loadL, aggB, hka, hval])) rfl ?_)
        repeat' (first | refine e_nil ?_ | ((first | refine e_op ?_ | refine e_yes rfl ?_); (first | refine o_n (peval_sound rfl) rfl ?_ | refine o_n (nl rfl rfl tc rfl) rfl ?_ | refine o_storeC rfl rfl rfl rfl tc uc rfl rfl rfl ?_ | refine o_box rfl rfl (fun _ => ?_) | refine o_box1 rfl rfl rfl (fun _ => ?_) | refine o_alloc rfl rfl (fun _ => ?_))) | refine e_noU rfl rfl rfl ?_ | refine e_noN rfl rfl ?_ | refine s_seq ?_ | refine s_region ?_ | refine s_block ?_ | refine s_end ?_ | refine s_skip ?_ | refine s_exit ?_ | refine s_true rfl ?_ | refine s_false rfl ?_ | refine x_hit ?_ | refine x_code ?_ | refine x_back ?_ | refine x_miss rfl ?_ | ((fail_if_success (refine e_dec true (by exact rfl) ?_)); (fail_if_success (refine e_dec false (by exact rfl) ?_)); refine e_part rfl rfl (fun h => ?_) (fun h => ?_)) | refine s_cond rfl (fun h => ?_) (fun h => ?_))
        all_goals refine e_op (o_n (n_index rfl rfl rfl rfl k rfl (by omega)) rfl ?_)
        · refine e_op (o_store_osl (vs := [.bool true]) rfl rfl rfl rfl rfl rfl (by simp; omega) .z ?_)
          repeat' (first | refine e_nil ?_ | ((first | refine e_op ?_ | refine e_yes rfl ?_); (first | refine o_n (peval_sound rfl) rfl ?_ | refine o_n (nl rfl rfl tc rfl) rfl ?_ | refine o_storeC rfl rfl rfl rfl tc uc rfl rfl rfl ?_ | refine o_box rfl rfl (fun _ => ?_) | refine o_box1 rfl rfl rfl (fun _ => ?_) | refine o_alloc rfl rfl (fun _ => ?_))) | refine e_noU rfl rfl rfl ?_ | refine e_noN rfl rfl ?_ | refine s_seq ?_ | refine s_region ?_ | refine s_block ?_ | refine s_end ?_ | refine s_skip ?_ | refine s_exit ?_ | refine s_true rfl ?_ | refine s_false rfl ?_ | refine x_hit ?_ | refine x_code ?_ | refine x_back ?_ | refine x_miss rfl ?_)
          refine s_back ⟨⟨k + 1, by omega⟩, by simp only; omega, ?_, ?_⟩
          · repeat' (first | exact Sub.nil _ | refine Sub.cons rfl ?_ | refine Sub.consE rfl ?_ ?_)
            exact inc (i := k) (by omega)
          · simp only [setMany, Nat.zero_add, Nat.mul_one]
            rw [← orP_succ (v := true) (show k < acc.length by omega) (by rw [h]; rfl), List.map_set]
            repeat' (first | exact Ent.nil _ | refine Ent.tak tk ?_ | refine Ent.tak .z ?_ | refine Ent.tak (.s .z) ?_ | refine Ent.tak (.s (.s .z)) ?_ | refine Ent.tak (.s (.s (.s .z))) ?_ | refine Ent.tak (.s (.s (.s (.s .z)))) ?_ | refine Ent.tak (.s (.s (.s (.s (.s .z))))) ?_)
        · refine e_op (o_store_osl (vs := [.bool fi[j][k]]) rfl rfl rfl rfl rfl rfl (by simp; omega) .z ?_)
          repeat' (first | refine e_nil ?_ | ((first | refine e_op ?_ | refine e_yes rfl ?_); (first | refine o_n (peval_sound rfl) rfl ?_ | refine o_n (nl rfl rfl tc rfl) rfl ?_ | refine o_storeC rfl rfl rfl rfl tc uc rfl rfl rfl ?_ | refine o_box rfl rfl (fun _ => ?_) | refine o_box1 rfl rfl rfl (fun _ => ?_) | refine o_alloc rfl rfl (fun _ => ?_))) | refine e_noU rfl rfl rfl ?_ | refine e_noN rfl rfl ?_ | refine s_seq ?_ | refine s_region ?_ | refine s_block ?_ | refine s_end ?_ | refine s_skip ?_ | refine s_exit ?_ | refine s_true rfl ?_ | refine s_false rfl ?_ | refine x_hit ?_ | refine x_code ?_ | refine x_back ?_ | refine x_miss rfl ?_)
          refine s_back ⟨⟨k + 1, by omega⟩, by simp only; omega, ?_, ?_⟩
          · repeat' (first | exact Sub.nil _ | refine Sub.cons rfl ?_ | refine Sub.consE rfl ?_ ?_)
            exact inc (i := k) (by omega)
          · simp only [setMany, Nat.zero_add, Nat.mul_one]
            rw [← orP_succ (v := fi[j][k]) (show k < acc.length by omega) (by rw [h, List.getD_eq_getElem?_getD, List.getElem?_eq_getElem]; rfl), List.map_set]
            repeat' (first | exact Ent.nil _ | refine Ent.tak tk ?_ | refine Ent.tak .z ?_ | refine Ent.tak (.s .z) ?_ | refine Ent.tak (.s (.s .z)) ?_ | refine Ent.tak (.s (.s (.s .z))) ?_ | refine Ent.tak (.s (.s (.s (.s .z)))) ?_ | refine Ent.tak (.s (.s (.s (.s (.s .z))))) ?_)
      have hge : t = k := by have := of_decide_eq_false h; omega
      subst hge
      clear h
      have hor : orP acc fi[j] t = orL acc fi[j] := by unfold orL; rw [hacc]
      rw [hor]
      obtain ⟨b4, o4, es4, e4, hb4, e5, hc4⟩ := hno.2.2 j (by omega)
      cases e5
      cases e4
      have hgn : no.getD j false = no[j] := by rw [List.getD_eq_getElem?_getD, List.getElem?_eq_getElem]; rfl
      rw [hgn] at hrow
      repeat' (first | refine e_nil ?_ | ((first | refine e_op ?_ | refine e_yes rfl ?_); (first | refine o_n (peval_sound rfl) rfl ?_ | refine o_n (nl rfl rfl tc rfl) rfl ?_ | refine o_storeC rfl rfl rfl rfl tc uc rfl rfl rfl ?_ | refine o_box rfl rfl (fun _ => ?_) | refine o_box1 rfl rfl rfl (fun _ => ?_) | refine o_alloc rfl rfl (fun _ => ?_))) | refine e_noU rfl rfl rfl ?_ | refine e_noN rfl rfl ?_ | refine s_seq ?_ | refine s_region ?_ | refine s_block ?_ | refine s_end ?_ | refine s_skip ?_ | refine s_exit ?_ | refine s_true rfl ?_ | refine s_false rfl ?_ | refine x_hit ?_ | refine x_code ?_ | refine x_back ?_ | refine x_miss rfl ?_)
      refine e_op (o_n (n_load_ro rfl rfl hk (loads_blk hk' rfl)) rfl ?_)
      repeat' (first | refine e_nil ?_ | ((first | refine e_op ?_ | refine e_yes rfl ?_); (first | refine o_n (peval_sound rfl) rfl ?_ | refine o_n (nl rfl rfl tc rfl) rfl ?_ | refine o_storeC rfl rfl rfl rfl tc uc rfl rfl rfl ?_ | refine o_box rfl rfl (fun _ => ?_) | refine o_box1 rfl rfl rfl (fun _ => ?_) | refine o_alloc rfl rfl (fun _ => ?_))) | refine e_noU rfl rfl rfl ?_ | refine e_noN rfl rfl ?_ | refine s_seq ?_ | refine s_region ?_ | refine s_block ?_ | refine s_end ?_ | refine s_skip ?_ | refine s_exit ?_ | refine s_true rfl ?_ | refine s_false rfl ?_ | refine x_hit ?_ | refine x_code ?_ | refine x_back ?_ | refine x_miss rfl ?_)
      refine e_op (o_n (n_index rfl rfl rfl rfl j hw (by omega)) rfl ?_)
      refine e_op (o_n (n_load_ro rfl rfl hb4 (loads_one rfl (hc4 0 _ rfl))) rfl ?_)
      repeat' (first | refine e_nil ?_ | ((first | refine e_op ?_ | refine e_yes rfl ?_); (first | refine o_n (peval_sound rfl) rfl ?_ | refine o_n (nl rfl rfl tc rfl) rfl ?_ | refine o_storeC rfl rfl rfl rfl tc uc rfl rfl rfl ?_ | refine o_box rfl rfl (fun _ => ?_) | refine o_box1 rfl rfl rfl (fun _ => ?_) | refine o_alloc rfl rfl (fun _ => ?_))) | refine e_noU rfl rfl rfl ?_ | refine e_noN rfl rfl ?_ | refine s_seq ?_ | refine s_region ?_ | refine s_block ?_ | refine s_end ?_ | refine s_skip ?_ | refine s_exit ?_ | refine s_true rfl ?_ | refine s_false rfl ?_ | refine x_hit ?_ | refine x_code ?_ | refine x_back ?_ | refine x_miss rfl ?_)
      refine s_cond rfl (fun h => ?_) (fun h => ?_)
      · repeat' (first | refine e_nil ?_ | ((first | refine e_op ?_ | refine e_yes rfl ?_); (first | refine o_n (peval_sound rfl) rfl ?_ | refine o_n (nl rfl rfl tc rfl) rfl ?_ | refine o_storeC rfl rfl rfl rfl tc uc rfl rfl rfl ?_ | refine o_box rfl rfl (fun _ => ?_) | refine o_box1 rfl rfl rfl (fun _ => ?_) | refine o_alloc rfl rfl (fun _ => ?_))) | refine e_noU rfl rfl rfl ?_ | refine e_noN rfl rfl ?_ | refine s_seq ?_ | refine s_region ?_ | refine s_block ?_ | refine s_end ?_ | refine s_skip ?_ | refine s_exit ?_ | refine s_true rfl ?_ | refine s_false rfl ?_ | refine x_hit ?_ | refine x_code ?_ | refine x_back ?_ | refine x_miss rfl ?_)
        rw [Bool.not_eq_true'] at h
        rw [h, if_neg (by simp)] at hrow
        refine s_ret ⟨_, _, res2 rfl rfl rfl, ⟨bu, ?_, rfl⟩, ?_⟩
        · rw [hrow]
        · rw [hrow]
          repeat' (first | exact Ent.nil _ | refine Ent.tak tk ?_ | refine Ent.tak .z ?_ | refine Ent.tak (.s .z) ?_ | refine Ent.tak (.s (.s .z)) ?_ | refine Ent.tak (.s (.s (.s .z))) ?_ | refine Ent.tak (.s (.s (.s (.s .z)))) ?_ | refine Ent.tak (.s (.s (.s (.s (.s .z))))) ?_)
      · repeat' (first | refine e_nil ?_ | ((first | refine e_op ?_ | refine e_yes rfl ?_); (first | refine o_n (peval_sound rfl) rfl ?_ | refine o_n (nl rfl rfl tc rfl) rfl ?_ | refine o_storeC rfl rfl rfl rfl tc uc rfl rfl rfl ?_ | refine o_box rfl rfl (fun _ => ?_) | refine o_box1 rfl rfl rfl (fun _ => ?_) | refine o_alloc rfl rfl (fun _ => ?_))) | refine e_noU rfl rfl rfl ?_ | refine e_noN rfl rfl ?_ | refine s_seq ?_ | refine s_region ?_ | refine s_block ?_ | refine s_end ?_ | refine s_skip ?_ | refine s_exit ?_ | refine s_true rfl ?_ | refine s_false rfl ?_ | refine x_hit ?_ | refine x_code ?_ | refine x_back ?_ | refine x_miss rfl ?_)
        rw [Bool.not_eq_false'] at h
        rw [h, if_pos rfl] at hrow
        refine s_back ⟨⟨(i + 1, orL acc fi[j]), by simp only; omega, by simp only [orL_len]; exact hacc, hrow⟩, by simp only; omega, ?_, by repeat' (first | exact Ent.nil _ | refine Ent.tak tk ?_ | refine Ent.tak .z ?_ | refine Ent.tak (.s .z) ?_ | refine Ent.tak (.s (.s .z)) ?_ | refine Ent.tak (.s (.s (.s .z))) ?_ | refine Ent.tak (.s (.s (.s (.s .z)))) ?_ | refine Ent.tak (.s (.s (.s (.s (.s .z))))) ?_)⟩
        repeat' (first | exact Sub.nil _ | refine Sub.cons rfl ?_ | refine Sub.consE rfl ?_ ?_)
        exact inc (i := i) (by omega)
  · have hge : i = xs.length := by have := of_decide_eq_false h; omega
    subst hge
    clear h
    rw [List.drop_length, rowS] at hrow
    repeat' (first | refine e_nil ?_ | ((first | refine e_op ?_ | refine e_yes rfl ?_); (first | refine o_n (peval_sound rfl) rfl ?_ | refine o_n (nl rfl rfl tc rfl) rfl ?_ | refine o_storeC rfl rfl rfl rfl tc uc rfl rfl rfl ?_ | refine o_box rfl rfl (fun _ => ?_) | refine o_box1 rfl rfl rfl (fun _ => ?_) | refine o_alloc rfl rfl (fun _ => ?_))) | refine e_noU rfl rfl rfl ?_ | refine e_noN rfl rfl ?_ | refine s_seq ?_ | refine s_region ?_ | refine s_block ?_ | refine s_end ?_ | refine s_skip ?_ | refine s_exit ?_ | refine s_true rfl ?_ | refine s_false rfl ?_ | refine x_hit ?_ | refine x_code ?_ | refine x_back ?_ | refine x_miss rfl ?_)
    refine s_ret ⟨_, _, res2 rfl rfl rfl, ⟨bu, ?_, rfl⟩, ?_⟩
    · rw [hrow]
    · rw [hrow]
      repeat' (first | exact Ent.nil _ | refine Ent.tak tk ?_ | refine Ent.tak .z ?_ | refine Ent.tak (.s .z) ?_ | refine Ent.tak (.s (.s .z)) ?_ | refine Ent.tak (.s (.s (.s .z))) ?_ | refine Ent.tak (.s (.s (.s (.s .z)))) ?_ | refine Ent.tak (.s (.s (.s (.s (.s .z))))) ?_)

end Go.Proofs.YtcbaebkkdkdaaaaDoor

namespace Go.Proofs.YtcbaebkkdkdaaaaDoor
set_option linter.all false
open Go.Proofs.YtcbaebkkdkdaaaaDoor.E
attribute [local irreducible] EVX EVO EVL EV1 NEV
set_option maxRecDepth 10000
set_option maxHeartbeats 1000000

structure BsOk (t n : Nat) (ps : List Prd) : Prop where
  left : ∀ i (h : i < ps.length), 0 ≤ ps[i].Left ∧ ps[i].Left < n
  right : ∀ i (h : i < ps.length), ∀ s ∈ ps[i].Right, 0 ≤ s ∧ s < (t : Int) + n

theorem BsOk.nat {t n : Nat} {ps : List Prd} (h : BsOk t n ps) : ∀ p ∈ ps, p.Left.toNat < n := by
  intro p hp
  obtain ⟨i, hi, rfl⟩ := List.getElem_of_mem hp
  have := h.left i hi
  omega

theorem begins_w (bk : Nat) (gcs : List Value) (g : Gram) (vu : Value) (bn : Nat) (n cn : Nat) (bf : Nat) (cf : Nat) (s : BSt) (hn : n = g.Nons.length) (hs : BInv g.Terms.length n s) (hok : BsOk g.Terms.length n g.Prods) (hn48 : n ≤ 1000000) (ht48 : g.Terms.length ≤ 1000000) :
    Trip Tryd.prog 84 [.pointer (some ⟨bk, 0, none⟩)] (kGram.rd gcs g)
      [blk bk 94 (gcs ++ [vu, .slice (some ⟨bn, 0, none⟩) n cn, .slice (some ⟨bf, 0, none⟩) n cf]), osl 4 1 (.slice (some ⟨bn, 0, none⟩) n cn) n (s.1.map Value.bool), orow Value.bool 70 4 (.slice (some ⟨bf, 0, none⟩) n cf) n s.2]
      (fun v V => v = .bool (decide (bRound g.Terms.length g.Prods s ≠ s)) ∧
        V = [blk bk 94 (gcs ++ [vu, .slice (some ⟨bn, 0, none⟩) n cn, .slice (some ⟨bf, 0, none⟩) n cf]), osl 4 1 (.slice (some ⟨bn, 0, none⟩) n cn) n ((bRound g.Terms.length g.Prods s).1.map Value.bool), orow Value.bool 70 4 (.slice (some ⟨bf, 0, none⟩) n cf) n (bRound g.Terms.length g.Prods s).2]) := by
  refine trip Tryd.tabOk Tryd.func84 rfl rfl rfl rfl ?_
  intro w SM hR
  obtain ⟨A0, A1, A2, A3, A4, c0, c1, c2, c3, c4, rfl, hG⟩ := kGram_open hR
  have hT := hG.terms.2.1
  have hN := hG.nons.2.1
  have hP := hG.prods.2.1
  have hnat := hok.nat
  have hinv : ∀ i, BInv g.Terms.length n (bRound g.Terms.length (g.Prods.take i) s) := fun i => bRound_inv _ (fun p hp => hnat p (List.mem_of_mem_take hp)) s hs
  have hmono : ∀ i, cntS s ≤ cntS (bRound g.Terms.length (g.Prods.take i) s) := fun i => by
    rcases bRound_cnt (g.Prods.take i) (fun p hp => hnat p (List.mem_of_mem_take hp)) s hs with h | h
    · rw [h]; exact Nat.le_refl _
    · omega
  simp only [List.cons_append, List.nil_append]
  repeat' (first | refine e_nil ?_ | ((first | refine e_op ?_ | refine e_yes rfl ?_); (first | refine o_n (peval_sound rfl) rfl ?_ | refine o_n (nl rfl rfl tc rfl) rfl ?_ | refine o_storeC rfl rfl rfl rfl tc uc rfl rfl rfl ?_ | refine o_box rfl rfl (fun _ => ?_) | refine o_box1 rfl rfl rfl (fun _ => ?_) | refine o_alloc rfl rfl (fun _ => ?_))) | refine e_noU rfl rfl rfl ?_ | refine e_noN rfl rfl ?_ | refine s_seq ?_ | refine s_region ?_ | refine s_block ?_ | refine s_end ?_ | refine s_skip ?_ | refine s_exit ?_ | refine s_true rfl ?_ | refine s_false rfl ?_ | refine x_hit ?_ | refine x_code ?_ | refine x_back ?_ | refine x_miss rfl ?_)
  refine s_loopK (ι := {i : Nat // i ≤ g.Prods.length}) [0, 14, 15] rfl ⟨0, by omega⟩
    (fun x => [(16, .int .i64 x.1), (3, .bool (decide (cntS s < cntS (bRound g.Terms.length (g.Prods.take x.1) s))))])
    (fun x => [blk bk 94 [.slice A0 g.Terms.length c0, .slice A1 g.Levels.length c1, .slice A2 g.Pats.length c2, .slice A3 g.Nons.length c3, .slice A4 g.Prods.length c4, vu, .slice (some ⟨bn, 0, none⟩) n cn, .slice (some ⟨bf, 0, none⟩) n cf],
      osl 4 1 (.slice (some ⟨bn, 0, none⟩) n cn) n ((bRound g.Terms.length (g.Prods.take x.1) s).1.map Value.bool), orow Value.bool 70 4 (.slice (some ⟨bf, 0, none⟩) n cf) n (bRound g.Terms.length (g.Prods.take x.1) s).2])
    (fun x => g.Prods.length - x.1) ?_ (Ent.refl _) ?_
  · repeat' (first | exact Sub.nil _ | refine Sub.cons rfl ?_ | refine Sub.consE rfl ?_ ?_)
    simp [bRound]
  rintro ⟨i, hi⟩
  simp only at hi ⊢
  repeat' (first | refine e_nil ?_ | ((first | refine e_op ?_ | refine e_yes rfl ?_); (first | refine o_n (peval_sound rfl) rfl ?_ | refine o_n (nl rfl rfl tc rfl) rfl ?_ | refine o_storeC rfl rfl rfl rfl tc uc rfl rfl rfl ?_ | refine o_box rfl rfl (fun _ => ?_) | refine o_box1 rfl rfl rfl (fun _ => ?_) | refine o_alloc rfl rfl (fun _ => ?_))) | refine e_noU rfl rfl rfl ?_ | refine e_noN rfl rfl ?_ | refine s_seq ?_ | refine s_region ?_ | refine s_block ?_ | refine s_end ?_ | refine s_skip ?_ | refine s_exit ?_ | refine s_true rfl ?_ | refine s_false rfl ?_ | refine x_hit ?_ | refine x_code ?_ | refine x_back ?_ | refine x_miss rfl ?_)
  refine s_cond rfl (fun h => ?_) (fun h => ?_)
  · have hlt : i < g.Prods.length := by have := of_decide_eq_true h; omega
    clear h
    obtain ⟨b, o, es, rfl, hb, he, hc⟩ := hG.prods.2.2 i hlt
    obtain ⟨Ar, cr, rfl, hl, hlN, hlK, hr⟩ := kPrd_open he
    have hrl := hr.2.1
    have hsi := hinv i
    have hmi := hmono i
    have hstep := bRound_take (t := g.Terms.length) hlt s
    generalize hcur : bRound g.Terms.length (g.Prods.take i) s = cur at *
    obtain ⟨hl0, hl1⟩ := hok.left i hlt
    have hLn : g.Prods[i].Left.toNat < n := by omega
    repeat' (first | refine e_nil ?_ | ((first | refine e_op ?_ | refine e_yes rfl ?_); (first | refine o_n (peval_sound rfl) rfl ?_ | refine o_n (nl rfl rfl tc rfl) rfl ?_ | refine o_storeC rfl rfl rfl rfl tc uc rfl rfl rfl ?_ | refine o_box rfl rfl (fun _ => ?_) | refine o_box1 rfl rfl rfl (fun _ => ?_) | refine o_alloc rfl rfl (fun _ => ?_))) | refine e_noU rfl rfl rfl ?_ | refine e_noN rfl rfl ?_ | refine s_seq ?_ | refine s_region ?_ | refine s_block ?_ | refine s_end ?_ | refine s_skip ?_ | refine s_exit ?_ | refine s_true rfl ?_ | refine s_false rfl ?_ | refine x_hit ?_ | refine x_code ?_ | refine x_back ?_ | refine x_miss rfl ?_)
    refine e_op (o_n (n_index rfl rfl rfl rfl i rfl hlt) rfl ?_)
    refine e_op (o_n (n_load_ro rfl rfl hb (loads_agg rfl rfl hc)) rfl ?_)
    repeat' (first | refine e_nil ?_ | ((first | refine e_op ?_ | refine e_yes rfl ?_); (first | refine o_n (peval_sound rfl) rfl ?_ | refine o_n (nl rfl rfl tc rfl) rfl ?_ | refine o_storeC rfl rfl rfl rfl tc uc rfl rfl rfl ?_ | refine o_box rfl rfl (fun _ => ?_) | refine o_box1 rfl rfl rfl (fun _ => ?_) | refine o_alloc rfl rfl (fun _ => ?_))) | refine e_noU rfl rfl rfl ?_ | refine e_noN rfl rfl ?_ | refine s_seq ?_ | refine s_region ?_ | refine s_block ?_ | refine s_end ?_ | refine s_skip ?_ | refine s_exit ?_ | refine s_true rfl ?_ | refine s_false rfl ?_ | refine x_hit ?_ | refine x_code ?_ | refine x_back ?_ | refine x_miss rfl ?_)
    rename_i b5
    refine e_op (o_call (row_w bk [.slice A1 g.Levels.length c1, .slice A2 g.Pats.length c2, .slice A3 g.Nons.length c3, .slice (some ⟨b, o, none⟩) g.Prods.length c4] rfl A0 g.Terms.length c0 vu (some ⟨bn, 0, none⟩) n cn (some ⟨bf, 0, none⟩) cf cur hsi hT (by omega) Ar
      g.Prods[i].Right.length cr g.Prods[i].Right rfl (hok.right i hlt)) rfl .nil
      (Can.and (Can.and (Can.blk (.s .z)) (Can.and (Can.osl Value.bool rfl kbool_enc (.s (.s .z)) (by omega)) (Can.orow Value.bool rfl kbool_enc (.s (.s (.s .z))) (by omega) (fun r hr => by rw [hsi.rows r hr]; omega)))) (Can.ro (sl_mk hr))) rfl ?_)
    rintro v V ⟨bt, rfl, rfl⟩
    have hrt := rowT_len g.Terms.length cur g.Prods[i].Right
    have hsplit := bPart_cnt hsi g.Prods[i] hLn (k := 0) (by omega)
    repeat' (first | refine e_nil ?_ | ((first | refine e_op ?_ | refine e_yes rfl ?_); (first | refine o_n (peval_sound rfl) rfl ?_ | refine o_n (nl rfl rfl tc rfl) rfl ?_ | refine o_storeC rfl rfl rfl rfl tc uc rfl rfl rfl ?_ | refine o_box rfl rfl (fun _ => ?_) | refine o_box1 rfl rfl rfl (fun _ => ?_) | refine o_alloc rfl rfl (fun _ => ?_))) | refine e_noU rfl rfl rfl ?_ | refine e_noN rfl rfl ?_ | refine s_seq ?_ | refine s_region ?_ | refine s_block ?_ | refine s_end ?_ | refine s_skip ?_ | refine s_exit ?_ | refine s_true rfl ?_ | refine s_false rfl ?_ | refine x_hit ?_ | refine x_code ?_ | refine x_back ?_ | refine x_miss rfl ?_)
    have hno := hsi.no
    have hlL : g.Prods[i].Left.toNat < cur.1.length := by omega
    have hgN : cur.1.getD g.Prods[i].Left.toNat false = cur.1[g.Prods[i].Left.toNat] := by rw [List.getD_eq_getElem?_getD, List.getElem?_eq_getElem hlL]; rfl
    refine s_condJ (ι := Unit) (fun _ => [(0, .pointer (some ⟨bk, 0, none⟩)), (14, .slice (some ⟨b, o, none⟩) g.Prods.length c4), (15, .int .i64 g.Prods.length), (16, .int .i64 i), (5, .pointer (some ⟨b5, 0, none⟩)), (6, .slice (some ⟨bt, 0, none⟩) g.Terms.length g.Terms.length),
        (3, .bool (decide (cntS s < cntS (bNo g.Terms.length cur g.Prods[i], cur.2))))])
      (fun _ => [osl 4 1 (.slice (some ⟨bt, 0, none⟩) g.Terms.length g.Terms.length) g.Terms.length ((rowT g.Terms.length cur g.Prods[i].Right).1.map Value.bool),
        blk b5 53 [.int .i64 g.Prods[i].Left, .slice Ar g.Prods[i].Right.length cr, .int .i64 g.Prods[i].L.N, .int .i64 g.Prods[i].L.Kind],
        blk bk 94 [.slice A0 g.Terms.length c0, .slice A1 g.Levels.length c1, .slice A2 g.Pats.length c2, .slice A3 g.Nons.length c3, .slice (some ⟨b, o, none⟩) g.Prods.length c4, vu, .slice (some ⟨bn, 0, none⟩) n cn, .slice (some ⟨bf, 0, none⟩) n cf],
        osl 4 1 (.slice (some ⟨bn, 0, none⟩) n cn) n ((bNo g.Terms.length cur g.Prods[i]).map Value.bool), orow Value.bool 70 4 (.slice (some ⟨bf, 0, none⟩) n cf) n cur.2])
      rfl (fun hnt hfin => ?_) (fun hnt hfin => ?_) ?_
    · · have hb2 : bNo g.Terms.length cur g.Prods[i] = cur.1.set g.Prods[i].Left.toNat true := by unfold bNo; rw [if_pos hnt]
        repeat' (first | refine e_nil ?_ | ((first | refine e_op ?_ | refine e_yes rfl ?_); (first | refine o_n (peval_sound rfl) rfl ?_ | refine o_n (nl rfl rfl tc rfl) rfl ?_ | refine o_storeC rfl rfl rfl rfl tc uc rfl rfl rfl ?_ | refine o_box rfl rfl (fun _ => ?_) | refine o_box1 rfl rfl rfl (fun _ => ?_) | refine o_alloc rfl rfl (fun _ => ?_))) | refine e_noU rfl rfl rfl ?_ | refine e_noN rfl rfl ?_ | refine s_seq ?_ | refine s_region ?_ | refine s_block ?_ | refine s_end ?_ | refine s_skip ?_ | refine s_exit ?_ | refine s_true rfl ?_ | refine s_false rfl ?_ | refine x_hit ?_ | refine x_code ?_ | refine x_back ?_ | refine x_miss rfl ?_)
        refine s_drawT [6] (.s (.s (.s .z))) Tryd.mixed (by decide +kernel) ?_
        repeat' (first | refine l_nil ?_ | ((first | refine l_no rfl rfl rfl ?_ rfl ?_ | refine l_noN rfl rfl ?_ rfl ?_ | refine l_n (peval_sound rfl) rfl ?_ rfl ?_ | refine l_n (nl rfl rfl tc rfl) rfl ?_ rfl ?_ | refine l_ny rfl (peval_sound rfl) rfl ?_ rfl ?_ | refine l_ny rfl (nl rfl rfl tc rfl) rfl ?_ rfl ?_); · (first | exact Ent.refl _ | assumption | repeat' (first | exact Ent.refl _ | exact Ent.nil _ | refine Ent.tak .z ?_ | refine Ent.wk ?_))))
        refine l_e rfl (o_call (learn_w (some ⟨bn, 0, none⟩) cn n cur.1 hno.symm g.Prods[i].Left.toNat hlL) (by rw [Int.toNat_of_nonneg hl0]; rfl) (.cons (.s (.s (.s .z))) .nil) Can.tt rfl ?_)
        rintro v V ⟨rfl, rfl⟩
        refine ⟨(by (first | exact Ent.refl _ | assumption | repeat' (first | exact Ent.refl _ | exact Ent.nil _ | refine Ent.tak .z ?_ | refine Ent.wk ?_))), ?_⟩
        repeat' (first | refine l_nil ?_ | ((first | refine l_no rfl rfl rfl ?_ rfl ?_ | refine l_noN rfl rfl ?_ rfl ?_ | refine l_n (peval_sound rfl) rfl ?_ rfl ?_ | refine l_n (nl rfl rfl tc rfl) rfl ?_ rfl ?_ | refine l_ny rfl (peval_sound rfl) rfl ?_ rfl ?_ | refine l_ny rfl (nl rfl rfl tc rfl) rfl ?_ rfl ?_); · (first | exact Ent.refl _ | assumption | repeat' (first | exact Ent.refl _ | exact Ent.nil _ | refine Ent.tak .z ?_ | refine Ent.wk ?_))) | ((fail_if_success (refine l_dec true (by exact rfl) ?_)); (fail_if_success (refine l_dec false (by exact rfl) ?_)); refine l_part rfl rfl (fun h => ?_) (fun h => ?_)))
        · refine s_weak ?_ ?_ (hfin ())
          · repeat' (first | exact Sub.nil _ | refine Sub.cons rfl ?_ | refine Sub.consE rfl ?_ ?_)
            rw [bNo_new hsi _ hLn hnt (by rw [hgN]; simpa using h)]
            rw [decide_eq_true (by omega)]
          · rw [hb2]
            repeat' (first | exact Ent.nil _ | refine Ent.tak tk ?_ | refine Ent.tak .z ?_ | refine Ent.tak (.s .z) ?_ | refine Ent.tak (.s (.s .z)) ?_ | refine Ent.tak (.s (.s (.s .z))) ?_ | refine Ent.tak (.s (.s (.s (.s .z)))) ?_ | refine Ent.tak (.s (.s (.s (.s (.s .z))))) ?_)
        · have hold := bNo_old hsi g.Prods[i] hLn (.inr (by rw [hgN]; simpa using h))
          refine s_weak ?_ ?_ (hfin ())
          · repeat' (first | exact Sub.nil _ | refine Sub.cons rfl ?_ | refine Sub.consE rfl ?_ ?_)
            rw [hold]
          · rw [hb2]
            repeat' (first | exact Ent.nil _ | refine Ent.tak tk ?_ | refine Ent.tak .z ?_ | refine Ent.tak (.s .z) ?_ | refine Ent.tak (.s (.s .z)) ?_ | refine Ent.tak (.s (.s (.s .z))) ?_ | refine Ent.tak (.s (.s (.s (.s .z)))) ?_ | refine Ent.tak (.s (.s (.s (.s (.s .z))))) ?_)
    · · refine s_skip ?_
        have hold := bNo_old hsi g.Prods[i] hLn (.inl hnt)
        refine s_weak ?_ ?_ (hfin ())
        · repeat' (first | exact Sub.nil _ | refine Sub.cons rfl ?_ | refine Sub.consE rfl ?_ ?_)
          rw [hold]
        · rw [hold]
          repeat' (first | exact Ent.nil _ | refine Ent.tak tk ?_ | refine Ent.tak .z ?_ | refine Ent.tak (.s .z) ?_ | refine Ent.tak (.s (.s .z)) ?_ | refine Ent.tak (.s (.s (.s .z))) ?_ | refine Ent.tak (.s (.s (.s (.s .z)))) ?_ | refine Ent.tak (.s (.s (.s (.s (.s .z))))) ?_)
    rintro ⟨⟩
    generalize hte : (rowT g.Terms.length cur g.Prods[i].Right).1 = te at *
    have hnoM : ∀ k, k ≤ g.Terms.length → cntS s ≤ cntS (bNo g.Terms.length cur g.Prods[i], bFi g.Terms.length cur g.Prods[i] k) := fun k hk => by
      rcases bPart_cnt hsi g.Prods[i] hLn (k := k) hk with h | h
      · rw [h]; exact hmi
      · omega
    repeat' (first | refine e_nil ?_ | ((first | refine e_op ?_ | refine e_yes rfl ?_); (first | refine o_n (peval_sound rfl) rfl ?_ | refine o_n (nl rfl rfl tc rfl) rfl ?_ | refine o_storeC rfl rfl rfl rfl tc uc rfl rfl rfl ?_ | refine o_box rfl rfl (fun _ => ?_) | refine o_box1 rfl rfl rfl (fun _ => ?_) | refine o_alloc rfl rfl (fun _ => ?_))) | refine e_noU rfl rfl rfl ?_ | refine e_noN rfl rfl ?_ | refine s_seq ?_ | refine s_region ?_ | refine s_block ?_ | refine s_end ?_ | refine s_skip ?_ | refine s_exit ?_ | refine s_true rfl ?_ | refine s_false rfl ?_ | refine x_hit ?_ | refine x_code ?_ | refine x_back ?_ | refine x_miss rfl ?_)
    refine s_loopK (ι := {j : Nat // j ≤ g.Terms.length}) [0, 14, 15, 16, 5, 38, 39] rfl ⟨0, by omega⟩
      (fun x => [(40, .int .i64 x.1), (3, .bool (decide (cntS s < cntS (bNo g.Terms.length cur g.Prods[i], bFi g.Terms.length cur g.Prods[i] x.1))))])
      (fun x => [osl 4 1 (.slice (some ⟨bt, 0, none⟩) g.Terms.length g.Terms.length) g.Terms.length (te.map Value.bool),
        blk b5 53 [.int .i64 g.Prods[i].Left, .slice Ar g.Prods[i].Right.length cr, .int .i64 g.Prods[i].L.N, .int .i64 g.Prods[i].L.Kind],
        blk bk 94 [.slice A0 g.Terms.length c0, .slice A1 g.Levels.length c1, .slice A2 g.Pats.length c2, .slice A3 g.Nons.length c3, .slice (some ⟨b, o, none⟩) g.Prods.length c4, vu, .slice (some ⟨bn, 0, none⟩) n cn, .slice (some ⟨bf, 0, none⟩) n cf],
        osl 4 1 (.slice (some ⟨bn, 0, none⟩) n cn) n ((bNo g.Terms.length cur g.Prods[i]).map Value.bool), orow Value.bool 70 4 (.slice (some ⟨bf, 0, none⟩) n cf) n (bFi g.Terms.length cur g.Prods[i] x.1)])
      (fun x => g.Terms.length - x.1) ?_ ?_ ?_
    · repeat' (first | exact Sub.nil _ | refine Sub.cons rfl ?_ | refine Sub.consE rfl ?_ ?_)
      rw [bFi_zero hsi _ hLn]
    · rw [bFi_zero hsi _ hLn]
      exact Ent.refl _
    rintro ⟨j, hj⟩
    simp only at hj ⊢
    repeat' (first | refine e_nil ?_ | ((first | refine e_op ?_ | refine e_yes rfl ?_); (first | refine o_n (peval_sound rfl) rfl ?_ | refine o_n (nl rfl rfl tc rfl) rfl ?_ | refine o_storeC rfl rfl rfl rfl tc uc rfl rfl rfl ?_ | refine o_box rfl rfl (fun _ => ?_) | refine o_box1 rfl rfl rfl (fun _ => ?_) | refine o_alloc rfl rfl (fun _ => ?_))) | refine e_noU rfl rfl rfl ?_ | refine e_noN rfl rfl ?_ | refine s_seq ?_ | refine s_region ?_ | refine s_block ?_ | refine s_end ?_ | refine s_skip ?_ | refine s_exit ?_ | refine s_true rfl ?_ | refine s_false rfl ?_ | refine x_hit ?_ | refine x_code ?_ | refine x_back ?_ | refine x_miss rfl ?_)
    refine s_cond rfl (fun h => ?_) (fun h => ?_)
    · have hjt : j < g.Terms.length := by have := of_decide_eq_true h; omega
      clear h
      have hjl : j < te.length := by omega
      have hgt : te.getD j false = te[j] := by rw [List.getD_eq_getElem?_getD, List.getElem?_eq_getElem hjl]; rfl
      repeat' (first | refine e_nil ?_ | ((first | refine e_op ?_ | refine e_yes rfl ?_); (first | refine o_n (peval_sound rfl) rfl ?_ | refine o_n (nl rfl rfl tc rfl) rfl ?_ | refine o_storeC rfl rfl rfl rfl tc uc rfl rfl rfl ?_ | refine o_box rfl rfl (fun _ => ?_) | refine o_box1 rfl rfl rfl (fun _ => ?_) | refine o_alloc rfl rfl (fun _ => ?_))) | refine e_noU rfl rfl rfl ?_ | refine e_noN rfl rfl ?_ | refine s_seq ?_ | refine s_region ?_ | refine s_block ?_ | refine s_end ?_ | refine s_skip ?_ | refine s_exit ?_ | refine s_true rfl ?_ | refine s_false rfl ?_ | refine x_hit ?_ | refine x_code ?_ | refine x_back ?_ | refine x_miss rfl ?_)
      refine e_op (o_n (n_index rfl rfl rfl rfl j rfl hjt) rfl ?_)
      refine e_op (o_n (n_load_osl (v := .bool te[j]) rfl rfl .z (by simp [loadL, aggB, hjl])) rfl ?_)
      repeat' (first | refine e_nil ?_ | ((first | refine e_op ?_ | refine e_yes rfl ?_); (first | refine o_n (peval_sound rfl) rfl ?_ | refine o_n (nl rfl rfl tc rfl) rfl ?_ | refine o_storeC rfl rfl rfl rfl tc uc rfl rfl rfl ?_ | refine o_box rfl rfl (fun _ => ?_) | refine o_box1 rfl rfl rfl (fun _ => ?_) | refine o_alloc rfl rfl (fun _ => ?_))) | refine e_noU rfl rfl rfl ?_ | refine e_noN rfl rfl ?_ | refine s_seq ?_ | refine s_region ?_ | refine s_block ?_ | refine s_end ?_ | refine s_skip ?_ | refine s_exit ?_ | refine s_true rfl ?_ | refine s_false rfl ?_ | refine x_hit ?_ | refine x_code ?_ | refine x_back ?_ | refine x_miss rfl ?_)
      refine s_cond rfl (fun htj => ?_) (fun htj => ?_)
      · have hrj : (cur.2.getD g.Prods[i].Left.toNat []).length = g.Terms.length := hsi.row hLn
        have hfiL := hsi.fi
        have hbl : (bFi g.Terms.length cur g.Prods[i] j).length = n := by unfold bFi; rw [List.length_set]; exact hfiL
        repeat' (first | refine e_nil ?_ | ((first | refine e_op ?_ | refine e_yes rfl ?_); (first | refine o_n (peval_sound rfl) rfl ?_ | refine o_n (nl rfl rfl tc rfl) rfl ?_ | refine o_storeC rfl rfl rfl rfl tc uc rfl rfl rfl ?_ | refine o_box rfl rfl (fun _ => ?_) | refine o_box1 rfl rfl rfl (fun _ => ?_) | refine o_alloc rfl rfl (fun _ => ?_))) | refine e_noU rfl rfl rfl ?_ | refine e_noN rfl rfl ?_ | refine s_seq ?_ | refine s_region ?_ | refine s_block ?_ | refine s_end ?_ | refine s_skip ?_ | refine s_exit ?_ | refine s_true rfl ?_ | refine s_false rfl ?_ | refine x_hit ?_ | refine x_code ?_ | refine x_back ?_ | refine x_miss rfl ?_)
        refine s_ex (.s (.s (.s (.s .z)))) ?_
        rintro acs hacs
        have hLb : g.Prods[i].Left.toNat < (bFi g.Terms.length cur g.Prods[i] j).length := by omega
        have hrowe : (bFi g.Terms.length cur g.Prods[i] j)[g.Prods[i].Left.toNat] = orP (cur.2.getD g.Prods[i].Left.toNat []) te j := by
          have := bFi_get hsi g.Prods[i] hLn j
          rw [List.getElem?_eq_getElem hLb, hte] at this
          exact Option.some.inj this
        have hrowl : (bFi g.Terms.length cur g.Prods[i] j)[g.Prods[i].Left.toNat].length = g.Terms.length := by rw [hrowe, orP_len]; exact hrj
        have hjr : j < (bFi g.Terms.length cur g.Prods[i] j)[g.Prods[i].Left.toNat].length := by omega
        have hat : (bFi g.Terms.length cur g.Prods[i] j)[g.Prods[i].Left.toNat][j] = (cur.2.getD g.Prods[i].Left.toNat []).getD j false := by
          have h1 := orP_at (r := cur.2.getD g.Prods[i].Left.toNat []) (te := te) (k := j) (by omega)
          rw [← hrowe, List.getElem?_eq_getElem hjr] at h1
          rw [Option.some.inj h1]
          rw [List.getD_eq_getElem?_getD (i := j), List.getElem?_eq_getElem]; rfl
        have hnt' := bFi_next_t hsi g.Prods[i] hLn hjt (by rw [hte, hgt]; exact htj)
        rw [hte, ← hrowe] at hnt'
        have hget := rowL_get (enc := Value.bool) (ei := 4) hacs hLb
        have hfrow := ent_row (enc := Value.bool) (eo := 70) (ei := 4) (v := .slice (some ⟨bf, 0, none⟩) n cf) (n := n) (V := []) hacs hLb (r := (bFi g.Terms.length cur g.Prods[i] j)[g.Prods[i].Left.toNat].set j true) (by rw [List.length_set])
        rw [hnt'] at hfrow
        have hTk := tak_get (V := [osl 4 1 (.slice (some ⟨bn, 0, none⟩) n cn) n ((bNo g.Terms.length cur g.Prods[i]).map Value.bool)]) hget
        simp only [List.cons_append]
        refine s_ent (Ent.tak (.s (.right .z)) (Ent.tak (.s (.right .z)) (Ent.tak (.s (.right .z)) (Ent.refl _)))) ?_
        have hTk4 := Tak.s (B := osl 4 1 (.slice (some ⟨bt, 0, none⟩) g.Terms.length g.Terms.length) g.Terms.length (te.map Value.bool)) (Tak.s (B := blk b5 53 [.int .i64 g.Prods[i].Left, .slice Ar g.Prods[i].Right.length cr, .int .i64 g.Prods[i].L.N, .int .i64 g.Prods[i].L.Kind])
          (Tak.s (B := blk bk 94 [.slice A0 g.Terms.length c0, .slice A1 g.Levels.length c1, .slice A2 g.Pats.length c2, .slice A3 g.Nons.length c3, .slice (some ⟨b, o, none⟩) g.Prods.length c4, vu, .slice (some ⟨bn, 0, none⟩) n cn, .slice (some ⟨bf, 0, none⟩) n cf])
            (Tak.s (B := osl 70 1 (.slice (some ⟨bf, 0, none⟩) n cf) n (rowC acs (bFi g.Terms.length cur g.Prods[i] j))) hTk)))
        have hUV := (Ent.tak hTk4 (Ent.refl _)).trans (Ent.wk (Ent.refl _))
        refine s_drawT [9] hTk4 Tryd.mixed (by decide +kernel) ?_
        repeat' (first | refine l_nil ?_ | ((first | refine l_no rfl rfl rfl ?_ rfl ?_ | refine l_noN rfl rfl ?_ rfl ?_ | refine l_n (peval_sound rfl) rfl ?_ rfl ?_ | refine l_n (nl rfl rfl tc rfl) rfl ?_ rfl ?_ | refine l_ny rfl (peval_sound rfl) rfl ?_ rfl ?_ | refine l_ny rfl (nl rfl rfl tc rfl) rfl ?_ rfl ?_); · (first | exact Ent.refl _ | assumption | repeat' (first | exact Ent.refl _ | exact Ent.nil _ | refine Ent.tak .z ?_ | refine Ent.wk ?_))))
        refine l_n (n_index rfl rfl rfl rfl g.Prods[i].Left.toNat (by omega) (by omega)) rfl hUV rfl ?_
        refine l_n (n_load_osl (v := .slice acs[g.Prods[i].Left.toNat].1 (bFi g.Terms.length cur g.Prods[i] j)[g.Prods[i].Left.toNat].length acs[g.Prods[i].Left.toNat].2) rfl rfl (.s (.s (.s .z)))
          (by simp only [loadL, aggB, Nat.zero_add, Nat.mul_one, cond_false]; exact rowC_get hacs hLb)) rfl hUV rfl ?_
        repeat' (first | refine l_nil ?_ | ((first | refine l_no rfl rfl rfl ?_ rfl ?_ | refine l_noN rfl rfl ?_ rfl ?_ | refine l_n (peval_sound rfl) rfl ?_ rfl ?_ | refine l_n (nl rfl rfl tc rfl) rfl ?_ rfl ?_ | refine l_ny rfl (peval_sound rfl) rfl ?_ rfl ?_ | refine l_ny rfl (nl rfl rfl tc rfl) rfl ?_ rfl ?_); · (first | exact Ent.refl _ | assumption | repeat' (first | exact Ent.refl _ | exact Ent.nil _ | refine Ent.tak .z ?_ | refine Ent.wk ?_))))
        refine l_e rfl (o_call (learn_w acs[g.Prods[i].Left.toNat].1 acs[g.Prods[i].Left.toNat].2 _ (bFi g.Terms.length cur g.Prods[i] j)[g.Prods[i].Left.toNat] rfl j hjr) rfl (.cons hTk4 .nil) Can.tt rfl ?_)
        rintro v V ⟨rfl, rfl⟩
        refine ⟨Ent.wk (Ent.refl _), ?_⟩
        simp only [List.cons_append, List.nil_append]
        repeat' (first | refine l_nil ?_ | ((first | refine l_no rfl rfl rfl ?_ rfl ?_ | refine l_noN rfl rfl ?_ rfl ?_ | refine l_n (peval_sound rfl) rfl ?_ rfl ?_ | refine l_n (nl rfl rfl tc rfl) rfl ?_ rfl ?_ | refine l_ny rfl (peval_sound rfl) rfl ?_ rfl ?_ | refine l_ny rfl (nl rfl rfl tc rfl) rfl ?_ rfl ?_); · (first | exact Ent.refl _ | assumption | repeat' (first | exact Ent.refl _ | exact Ent.nil _ | refine Ent.tak .z ?_ | refine Ent.wk ?_))) | ((fail_if_success (refine l_dec true (by exact rfl) ?_)); (fail_if_success (refine l_dec false (by exact rfl) ?_)); refine l_part rfl rfl (fun h => ?_) (fun h => ?_)))
        · rw [Bool.not_eq_true', hat] at h
          repeat' (first | refine e_nil ?_ | ((first | refine e_op ?_ | refine e_yes rfl ?_); (first | refine o_n (peval_sound rfl) rfl ?_ | refine o_n (nl rfl rfl tc rfl) rfl ?_ | refine o_storeC rfl rfl rfl rfl tc uc rfl rfl rfl ?_ | refine o_box rfl rfl (fun _ => ?_) | refine o_box1 rfl rfl rfl (fun _ => ?_) | refine o_alloc rfl rfl (fun _ => ?_))) | refine e_noU rfl rfl rfl ?_ | refine e_noN rfl rfl ?_ | refine s_seq ?_ | refine s_region ?_ | refine s_block ?_ | refine s_end ?_ | refine s_skip ?_ | refine s_exit ?_ | refine s_true rfl ?_ | refine s_false rfl ?_ | refine x_hit ?_ | refine x_code ?_ | refine x_back ?_ | refine x_miss rfl ?_)
          refine s_back ⟨⟨j + 1, by omega⟩, by simp only; omega, ?_, ?_⟩
          · repeat' (first | exact Sub.nil _ | refine Sub.cons rfl ?_ | refine Sub.consE rfl ?_ ?_)
            · exact inc (i := j) (by omega)
            · rw [bFi_next_n hsi g.Prods[i] hLn hjt (by rw [hte, hgt]; exact htj) h, decide_eq_true]
              have := hnoM j (by omega)
              omega
          · exact Ent.tak (.s .z) (Ent.tak (.s .z) (Ent.tak (.s .z) (Ent.tak (.s (.s (.right .z))) hfrow)))
        · rw [Bool.not_eq_false', hat] at h
          repeat' (first | refine e_nil ?_ | ((first | refine e_op ?_ | refine e_yes rfl ?_); (first | refine o_n (peval_sound rfl) rfl ?_ | refine o_n (nl rfl rfl tc rfl) rfl ?_ | refine o_storeC rfl rfl rfl rfl tc uc rfl rfl rfl ?_ | refine o_box rfl rfl (fun _ => ?_) | refine o_box1 rfl rfl rfl (fun _ => ?_) | refine o_alloc rfl rfl (fun _ => ?_))) | refine e_noU rfl rfl rfl ?_ | refine e_noN rfl rfl ?_ | refine s_seq ?_ | refine s_region ?_ | refine s_block ?_ | refine s_end ?_ | refine s_skip ?_ | refine s_exit ?_ | refine s_true rfl ?_ | refine s_false rfl ?_ | refine x_hit ?_ | refine x_code ?_ | refine x_back ?_ | refine x_miss rfl ?_)
          refine s_back ⟨⟨j + 1, by omega⟩, by simp only; omega, ?_, ?_⟩
          · repeat' (first | exact Sub.nil _ | refine Sub.cons rfl ?_ | refine Sub.consE rfl ?_ ?_)
            · exact inc (i := j) (by omega)
            · rw [bFi_next_f hsi g.Prods[i] hLn hjt (.inr h)]
          · exact Ent.tak (.s .z) (Ent.tak (.s .z) (Ent.tak (.s .z) (Ent.tak (.s (.s (.right .z))) hfrow)))
      · repeat' (first | refine e_nil ?_ | ((first | refine e_op ?_ | refine e_yes rfl ?_); (first | refine o_n (peval_sound rfl) rfl ?_ | refine o_n (nl rfl rfl tc rfl) rfl ?_ | refine o_storeC rfl rfl rfl rfl tc uc rfl rfl rfl ?_ | refine o_box rfl rfl (fun _ => ?_) | refine o_box1 rfl rfl rfl (fun _ => ?_) | refine o_alloc rfl rfl (fun _ => ?_))) | refine e_noU rfl rfl rfl ?_ | refine e_noN rfl rfl ?_ | refine s_seq ?_ | refine s_region ?_ | refine s_block ?_ | refine s_end ?_ | refine s_skip ?_ | refine s_exit ?_ | refine s_true rfl ?_ | refine s_false rfl ?_ | refine x_hit ?_ | refine x_code ?_ | refine x_back ?_ | refine x_miss rfl ?_)
        have hnf := bFi_next_f hsi g.Prods[i] hLn hjt (.inl (by rw [hte, hgt]; exact htj))
        refine s_back ⟨⟨j + 1, by omega⟩, by simp only; omega, ?_, ?_⟩
        · repeat' (first | exact Sub.nil _ | refine Sub.cons rfl ?_ | refine Sub.consE rfl ?_ ?_)
          · exact inc (i := j) (by omega)
          · rw [hnf]
        · simp only [hnf]
          exact Ent.refl _
    · have hge : g.Terms.length = j := by have := of_decide_eq_false h; omega
      have hst2 : bStep g.Terms.length cur g.Prods[i] = (bNo g.Terms.length cur g.Prods[i], bFi g.Terms.length cur g.Prods[i] j) := by rw [← hge]; rfl
      clear h
      repeat' (first | refine e_nil ?_ | ((first | refine e_op ?_ | refine e_yes rfl ?_); (first | refine o_n (peval_sound rfl) rfl ?_ | refine o_n (nl rfl rfl tc rfl) rfl ?_ | refine o_storeC rfl rfl rfl rfl tc uc rfl rfl rfl ?_ | refine o_box rfl rfl (fun _ => ?_) | refine o_box1 rfl rfl rfl (fun _ => ?_) | refine o_alloc rfl rfl (fun _ => ?_))) | refine e_noU rfl rfl rfl ?_ | refine e_noN rfl rfl ?_ | refine s_seq ?_ | refine s_region ?_ | refine s_block ?_ | refine s_end ?_ | refine s_skip ?_ | refine s_exit ?_ | refine s_true rfl ?_ | refine s_false rfl ?_ | refine x_hit ?_ | refine x_code ?_ | refine x_back ?_ | refine x_miss rfl ?_)
      refine s_back ⟨⟨i + 1, by omega⟩, by simp only; omega, ?_, ?_⟩
      · repeat' (first | exact Sub.nil _ | refine Sub.cons rfl ?_ | refine Sub.consE rfl ?_ ?_)
        · exact inc (i := i) (by omega)
        · rw [hstep, hst2]
      · simp only [hstep, hst2]
        repeat' (first | exact Ent.nil _ | refine Ent.tak tk ?_ | refine Ent.tak .z ?_ | refine Ent.tak (.s .z) ?_ | refine Ent.tak (.s (.s .z)) ?_ | refine Ent.tak (.s (.s (.s .z))) ?_ | refine Ent.tak (.s (.s (.s (.s .z)))) ?_ | refine Ent.tak (.s (.s (.s (.s (.s .z))))) ?_)
  · have hge : i = g.Prods.length := by have := of_decide_eq_false h; omega
    subst hge
    clear h
    repeat' (first | refine e_nil ?_ | ((first | refine e_op ?_ | refine e_yes rfl ?_); (first | refine o_n (peval_sound rfl) rfl ?_ | refine o_n (nl rfl rfl tc rfl) rfl ?_ | refine o_storeC rfl rfl rfl rfl tc uc rfl rfl rfl ?_ | refine o_box rfl rfl (fun _ => ?_) | refine o_box1 rfl rfl rfl (fun _ => ?_) | refine o_alloc rfl rfl (fun _ => ?_))) | refine e_noU rfl rfl rfl ?_ | refine e_noN rfl rfl ?_ | refine s_seq ?_ | refine s_region ?_ | refine s_block ?_ | refine s_end ?_ | refine s_skip ?_ | refine s_exit ?_ | refine s_true rfl ?_ | refine s_false rfl ?_ | refine x_hit ?_ | refine x_code ?_ | refine x_back ?_ | refine x_miss rfl ?_)
    refine s_ret ⟨_, _, res1 rfl rfl, ⟨?_, rfl⟩, ?_⟩
    · rw [List.take_length]
      congr 1
      rw [decide_eq_decide]
      rcases bRound_cnt g.Prods hnat s hs with h | h
      · rw [h]; simp
      · constructor
        · intro h2 h3; rw [h3] at h2; omega
        · intro _; exact h
    · rw [List.take_length]
      repeat' (first | exact Ent.nil _ | refine Ent.tak tk ?_ | refine Ent.tak .z ?_ | refine Ent.tak (.s .z) ?_ | refine Ent.tak (.s (.s .z)) ?_ | refine Ent.tak (.s (.s (.s .z))) ?_ | refine Ent.tak (.s (.s (.s (.s .z)))) ?_ | refine Ent.tak (.s (.s (.s (.s (.s .z))))) ?_)

end Go.Proofs.YtcbaebkkdkdaaaaDoor

namespace Go.Proofs.YtcbaebkkdkdaaaaDoor
set_option linter.all false
open Go.Proofs.YtcbaebkkdkdaaaaDoor.E
attribute [local irreducible] EVX EVO EVL EV1 NEV
set_option maxRecDepth 10000
set_option maxHeartbeats 1000000

theorem rowC_snoc {acs : List (Option Addr × Nat)} {rows : List (List Bool)} (h : acs.length = rows.length) (ac : Option Addr × Nat) (r : List Bool) :
    rowC (acs ++ [ac]) (rows ++ [r]) = rowC acs rows ++ [.slice ac.1 r.length ac.2] := by
  unfold rowC; rw [List.zipWith_append h]; rfl
theorem rowL_snoc {acs : List (Option Addr × Nat)} {rows : List (List Bool)} {ei : TypeId} (h : acs.length = rows.length) (ac : Option Addr × Nat) (r : List Bool) :
    rowL Value.bool ei (acs ++ [ac]) (rows ++ [r]) = rowL Value.bool ei acs rows ++ [osl ei 1 (.slice ac.1 r.length ac.2) r.length (r.map Value.bool)] := by
  unfold rowL; rw [List.zipWith_append h]; rfl

theorem wf0_of {g : Gram} (h : checkE g = 0) : limitsB g = false ∧ Wf0 g := by
  unfold checkE wf at h
  cases hl : limitsB g with
  | true => simp [hl] at h
  | false =>
    cases hw : wf0 g with
    | true => exact ⟨rfl, (wf0_iff g).1 hw⟩
    | false => simp [hl, hw] at h

theorem lim_n {g : Gram} (h : limitsB g = false) : g.Terms.length ≤ 48 ∧ g.Nons.length ≤ 48 ∧ g.Prods.length ≤ 128 := by
  unfold limitsB at h
  simp only [Bool.or_eq_false_iff, decide_eq_false_iff_not] at h
  omega

theorem bsOk_of {g : Gram} (h : Wf0 g) : BsOk g.Terms.length g.Nons.length g.Prods :=
  ⟨fun i hi => ⟨((prodOk_iff _ _ _ _).1 (h.prod i hi)).lo, ((prodOk_iff _ _ _ _).1 (h.prod i hi)).hi⟩, fun i hi s hs => by
    have := ((prodOk_iff _ _ _ _).1 (h.prod i hi)).right s hs
    omega⟩

/-- What 'know' leaves of a grammar that may be. -/
def knM (cs : List Value) (g : Gram) (bk bn bf cf : Nat) : List Asn :=
  [blk bk 94 (cs ++ [.slice none 0 0, .slice (some ⟨bn, 0, none⟩) g.Nons.length g.Nons.length, .slice (some ⟨bf, 0, none⟩) g.Nons.length cf]),
    osl 4 1 (.slice (some ⟨bn, 0, none⟩) g.Nons.length g.Nons.length) g.Nons.length ((bFix g).1.map Value.bool), orow Value.bool 70 4 (.slice (some ⟨bf, 0, none⟩) g.Nons.length cf) g.Nons.length (bFix g).2]

theorem know_w (cs : List Value) (g : Gram) : Trip Tryd.prog 64 [.agg cs.toArray] (kGram.rd cs g) []
    (fun v V => (checkE g ≠ 0 ∧ v = .tuple #[.pointer none, .int .i64 (checkE g)] ∧ V = []) ∨
      (checkE g = 0 ∧ ∃ bk bn bf cf, v = .tuple #[.pointer (some ⟨bk, 0, none⟩), .int .i64 0] ∧ V = knM cs g bk bn bf cf)) := by
  refine trip Tryd.tabOk Tryd.func64 rfl rfl rfl rfl ?_
  intro w SM hR
  obtain ⟨A0, A1, A2, A3, A4, c0, c1, c2, c3, c4, rfl, hG⟩ := kGram_open hR
  repeat' (first | refine e_nil ?_ | ((first | refine e_op ?_ | refine e_yes rfl ?_); (first | refine o_n (peval_sound rfl) rfl ?_ | refine o_n (nl rfl rfl tc rfl) rfl ?_ | refine o_storeC rfl rfl rfl rfl tc uc rfl rfl rfl ?_ | refine o_box rfl rfl (fun _ => ?_) | refine o_box1 rfl rfl rfl (fun _ => ?_) | refine o_alloc rfl rfl (fun _ => ?_))) | refine e_noU rfl rfl rfl ?_ | refine e_noN rfl rfl ?_ | refine s_seq ?_ | refine s_region ?_ | refine s_block ?_ | refine s_end ?_ | refine s_skip ?_ | refine s_exit ?_ | refine s_true rfl ?_ | refine s_false rfl ?_ | refine x_hit ?_ | refine x_code ?_ | refine x_back ?_ | refine x_miss rfl ?_)
  rename_i b1
  refine e_op (o_call (check_w _ g) rfl .nil (Can.ro (kGram_mk hG)) rfl ?_)
  rintro v V ⟨rfl, rfl⟩
  repeat' (first | refine e_nil ?_ | ((first | refine e_op ?_ | refine e_yes rfl ?_); (first | refine o_n (peval_sound rfl) rfl ?_ | refine o_n (nl rfl rfl tc rfl) rfl ?_ | refine o_storeC rfl rfl rfl rfl tc uc rfl rfl rfl ?_ | refine o_box rfl rfl (fun _ => ?_) | refine o_box1 rfl rfl rfl (fun _ => ?_) | refine o_alloc rfl rfl (fun _ => ?_))) | refine e_noU rfl rfl rfl ?_ | refine e_noN rfl rfl ?_ | refine s_seq ?_ | refine s_region ?_ | refine s_block ?_ | refine s_end ?_ | refine s_skip ?_ | refine s_exit ?_ | refine s_true rfl ?_ | refine s_false rfl ?_ | refine x_hit ?_ | refine x_code ?_ | refine x_back ?_ | refine x_miss rfl ?_)
  refine s_cond rfl (fun h => ?_) (fun h => ?_)
  · repeat' (first | refine e_nil ?_ | ((first | refine e_op ?_ | refine e_yes rfl ?_); (first | refine o_n (peval_sound rfl) rfl ?_ | refine o_n (nl rfl rfl tc rfl) rfl ?_ | refine o_storeC rfl rfl rfl rfl tc uc rfl rfl rfl ?_ | refine o_box rfl rfl (fun _ => ?_) | refine o_box1 rfl rfl rfl (fun _ => ?_) | refine o_alloc rfl rfl (fun _ => ?_))) | refine e_noU rfl rfl rfl ?_ | refine e_noN rfl rfl ?_ | refine s_seq ?_ | refine s_region ?_ | refine s_block ?_ | refine s_end ?_ | refine s_skip ?_ | refine s_exit ?_ | refine s_true rfl ?_ | refine s_false rfl ?_ | refine x_hit ?_ | refine x_code ?_ | refine x_back ?_ | refine x_miss rfl ?_)
    refine s_ret ⟨_, _, res2 rfl rfl rfl, .inl ⟨?_, rfl, rfl⟩, Ent.nil _⟩
    simpa using h
  have hce : checkE g = 0 := by simpa using h
  clear h
  obtain ⟨hl, hw0⟩ := wf0_of hce
  obtain ⟨ht48, hn48, _⟩ := lim_n hl
  have hbs := bsOk_of hw0
  have hn2 := hw0.n
  have hT := hG.terms.2.1
  have hN := hG.nons.2.1
  have hP := hG.prods.2.1
  generalize hgn : g.Nons.length = n at *
  generalize hgt : g.Terms.length = t at *
  repeat' (first | refine e_nil ?_ | ((first | refine e_op ?_ | refine e_yes rfl ?_); (first | refine o_n (peval_sound rfl) rfl ?_ | refine o_n (nl rfl rfl tc rfl) rfl ?_ | refine o_storeC rfl rfl rfl rfl tc uc rfl rfl rfl ?_ | refine o_box rfl rfl (fun _ => ?_) | refine o_box1 rfl rfl rfl (fun _ => ?_) | refine o_alloc rfl rfl (fun _ => ?_))) | refine e_noU rfl rfl rfl ?_ | refine e_noN rfl rfl ?_ | refine s_seq ?_ | refine s_region ?_ | refine s_block ?_ | refine s_end ?_ | refine s_skip ?_ | refine s_exit ?_ | refine s_true rfl ?_ | refine s_false rfl ?_ | refine x_hit ?_ | refine x_code ?_ | refine x_back ?_ | refine x_miss rfl ?_)
  refine s_drawU [4, 6] Tryd.mixed (by decide +kernel) ?_
  repeat' (first | refine l_nil ?_ | ((first | refine l_no rfl rfl rfl ?_ rfl ?_ | refine l_noN rfl rfl ?_ rfl ?_ | refine l_n (peval_sound rfl) rfl ?_ rfl ?_ | refine l_n (nl rfl rfl tc rfl) rfl ?_ rfl ?_ | refine l_ny rfl (peval_sound rfl) rfl ?_ rfl ?_ | refine l_ny rfl (nl rfl rfl tc rfl) rfl ?_ rfl ?_); · (first | exact Ent.refl _ | assumption | repeat' (first | exact Ent.refl _ | exact Ent.nil _ | refine Ent.tak .z ?_ | refine Ent.wk ?_))))
  refine l_e rfl (o_make rfl rfl rfl rfl n rfl rfl (by omega) (by omega) rfl (fun bn => ⟨(by (first | exact Ent.refl _ | assumption | repeat' (first | exact Ent.refl _ | exact Ent.nil _ | refine Ent.tak .z ?_ | refine Ent.wk ?_))), ?_⟩))
  repeat' (first | refine l_nil ?_ | ((first | refine l_no rfl rfl rfl ?_ rfl ?_ | refine l_noN rfl rfl ?_ rfl ?_ | refine l_n (peval_sound rfl) rfl ?_ rfl ?_ | refine l_n (nl rfl rfl tc rfl) rfl ?_ rfl ?_ | refine l_ny rfl (peval_sound rfl) rfl ?_ rfl ?_ | refine l_ny rfl (nl rfl rfl tc rfl) rfl ?_ rfl ?_); · (first | exact Ent.refl _ | assumption | repeat' (first | exact Ent.refl _ | exact Ent.nil _ | refine Ent.tak .z ?_ | refine Ent.wk ?_))))
  refine l_e rfl (o_box rfl rfl (fun bk => ⟨(by (first | exact Ent.refl _ | assumption | repeat' (first | exact Ent.refl _ | exact Ent.nil _ | refine Ent.tak .z ?_ | refine Ent.wk ?_))), ?_⟩))
  repeat' (first | refine l_nil ?_ | ((first | refine l_no rfl rfl rfl ?_ rfl ?_ | refine l_noN rfl rfl ?_ rfl ?_ | refine l_n (peval_sound rfl) rfl ?_ rfl ?_ | refine l_n (nl rfl rfl tc rfl) rfl ?_ rfl ?_ | refine l_ny rfl (peval_sound rfl) rfl ?_ rfl ?_ | refine l_ny rfl (nl rfl rfl tc rfl) rfl ?_ rfl ?_); · (first | exact Ent.refl _ | assumption | repeat' (first | exact Ent.refl _ | exact Ent.nil _ | refine Ent.tak .z ?_ | refine Ent.wk ?_))))
  repeat' (first | refine e_nil ?_ | ((first | refine e_op ?_ | refine e_yes rfl ?_); (first | refine o_n (peval_sound rfl) rfl ?_ | refine o_n (nl rfl rfl tc rfl) rfl ?_ | refine o_storeC rfl rfl rfl rfl tc uc rfl rfl rfl ?_ | refine o_box rfl rfl (fun _ => ?_) | refine o_box1 rfl rfl rfl (fun _ => ?_) | refine o_alloc rfl rfl (fun _ => ?_))) | refine e_noU rfl rfl rfl ?_ | refine e_noN rfl rfl ?_ | refine s_seq ?_ | refine s_region ?_ | refine s_block ?_ | refine s_end ?_ | refine s_skip ?_ | refine s_exit ?_ | refine s_true rfl ?_ | refine s_false rfl ?_ | refine x_hit ?_ | refine x_code ?_ | refine x_back ?_ | refine x_miss rfl ?_)
  refine s_loopK (ι := {x : Nat × Value × List (Option Addr × Nat) // x.1 ≤ n ∧ x.2.2.length = x.1 ∧ (x.1 = 0 → x.2.1 = .slice none 0 0) ∧ (0 < x.1 → ∃ b c, x.2.1 = .slice (some ⟨b, 0, none⟩) x.1 c)}) [1, 5, 20] rfl
    ⟨(0, .slice none 0 0, []), by simp⟩
    (fun x => [(21, .int .i64 x.1.1)])
    (fun x => blk bk 94 [.slice A0 t c0, .slice A1 g.Levels.length c1, .slice A2 g.Pats.length c2, .slice A3 n c3, .slice A4 g.Prods.length c4, .slice none 0 0, .slice (some ⟨bn, 0, none⟩) n n, x.1.2.1] ::
      osl 4 1 (.slice (some ⟨bn, 0, none⟩) n n) n ((List.replicate n false).map Value.bool) ::
      blk b1 27 [.slice A0 t c0, .slice A1 g.Levels.length c1, .slice A2 g.Pats.length c2, .slice A3 n c3, .slice A4 g.Prods.length c4] ::
      osl 70 1 x.1.2.1 x.1.1 (rowC x.1.2.2 (List.replicate x.1.1 (List.replicate t false))) :: rowL Value.bool 4 x.1.2.2 (List.replicate x.1.1 (List.replicate t false)))
    (fun x => n - x.1.1) ?_ ?_ ?_
  · repeat' (first | exact Sub.nil _ | refine Sub.cons rfl ?_ | refine Sub.consE rfl ?_ ?_)
  · rw [show List.replicate n (Value.bool false) = (List.replicate n false).map Value.bool from by simp]
    exact Ent.tak .z (Ent.tak .z (Ent.tak .z (Ent.osl0 (Ent.nil _))))
  · rintro ⟨⟨k, v, acs⟩, hk, hacs, hv0, hv1⟩
    simp only at hk hacs hv0 hv1 ⊢
    repeat' (first | refine e_nil ?_ | ((first | refine e_op ?_ | refine e_yes rfl ?_); (first | refine o_n (peval_sound rfl) rfl ?_ | refine o_n (nl rfl rfl tc rfl) rfl ?_ | refine o_storeC rfl rfl rfl rfl tc uc rfl rfl rfl ?_ | refine o_box rfl rfl (fun _ => ?_) | refine o_box1 rfl rfl rfl (fun _ => ?_) | refine o_alloc rfl rfl (fun _ => ?_))) | refine e_noU rfl rfl rfl ?_ | refine e_noN rfl rfl ?_ | refine s_seq ?_ | refine s_region ?_ | refine s_block ?_ | refine s_end ?_ | refine s_skip ?_ | refine s_exit ?_ | refine s_true rfl ?_ | refine s_false rfl ?_ | refine x_hit ?_ | refine x_code ?_ | refine x_back ?_ | refine x_miss rfl ?_)
    refine s_cond rfl (fun h => ?_) (fun h => ?_)
    · have hkn : k < n := by have := of_decide_eq_true h; omega
      clear h
      have hal : acs.length = (List.replicate k (List.replicate t false)).length := by simp [hacs]
      repeat' (first | refine e_nil ?_ | ((first | refine e_op ?_ | refine e_yes rfl ?_); (first | refine o_n (peval_sound rfl) rfl ?_ | refine o_n (nl rfl rfl tc rfl) rfl ?_ | refine o_storeC rfl rfl rfl rfl tc uc rfl rfl rfl ?_ | refine o_box rfl rfl (fun _ => ?_) | refine o_box1 rfl rfl rfl (fun _ => ?_) | refine o_alloc rfl rfl (fun _ => ?_))) | refine e_noU rfl rfl rfl ?_ | refine e_noN rfl rfl ?_ | refine s_seq ?_ | refine s_region ?_ | refine s_block ?_ | refine s_end ?_ | refine s_skip ?_ | refine s_exit ?_ | refine s_true rfl ?_ | refine s_false rfl ?_ | refine x_hit ?_ | refine x_code ?_ | refine x_back ?_ | refine x_miss rfl ?_)
      refine s_drawB [13] [8, 9, 10] (blk bk 94 [.slice A0 t c0, .slice A1 g.Levels.length c1, .slice A2 g.Pats.length c2, .slice A3 n c3, .slice A4 g.Prods.length c4, .slice none 0 0, .slice (some ⟨bn, 0, none⟩) n n, v] ::
        osl 4 1 (.slice (some ⟨bn, 0, none⟩) n n) n ((List.replicate n false).map Value.bool) ::
        blk b1 27 [.slice A0 t c0, .slice A1 g.Levels.length c1, .slice A2 g.Pats.length c2, .slice A3 n c3, .slice A4 g.Prods.length c4] :: rowL Value.bool 4 acs (List.replicate k (List.replicate t false))) Tryd.mixed (by decide +kernel) ?_
      repeat' (first | refine b_nil ?_ | ((first | refine b_no rfl rfl rfl rfl ?_ rfl ?_ | refine b_noN rfl rfl rfl ?_ rfl ?_ | refine b_n (peval_sound rfl) rfl rfl ?_ rfl ?_ | refine b_n (nl rfl rfl tc rfl) rfl rfl ?_ rfl ?_ | refine b_ny rfl (peval_sound rfl) rfl rfl ?_ rfl ?_ | refine b_ny rfl (nl rfl rfl tc rfl) rfl rfl ?_ rfl ?_); · (first | exact Ent.refl _ | assumption | repeat' (first | exact Ent.refl _ | exact Ent.nil _ | refine Ent.tak .z ?_ | refine Ent.wk ?_))))
      refine b_e rfl rfl (o_make rfl rfl rfl rfl t rfl rfl (by omega) (by omega) rfl (fun b8 => ⟨(by (first | exact Ent.refl _ | assumption | repeat' (first | exact Ent.refl _ | exact Ent.nil _ | refine Ent.tak .z ?_ | refine Ent.wk ?_))), ?_⟩))
      refine b_e rfl rfl (o_lit rfl rfl rfl rfl rfl rfl rfl (fun b9 => ⟨(by (first | exact Ent.refl _ | assumption | repeat' (first | exact Ent.refl _ | exact Ent.nil _ | refine Ent.tak .z ?_ | refine Ent.wk ?_))), ?_⟩))
      refine b_e rfl rfl (o_append (v := v) (n := k) (m := 1) (news := [.slice (some ⟨b8, 0, none⟩) t t]) _ rfl rfl rfl rfl (fun w hm j u hu => ?_) rfl ?_ rfl (by omega) (by simp only; omega) (by omega) rfl (fun b c => .s (.s (.s (.s (.s .z))))) (fun ba c => ⟨(by (first | exact Ent.refl _ | assumption | repeat' (first | exact Ent.refl _ | exact Ent.nil _ | refine Ent.tak .z ?_ | refine Ent.wk ?_))), ?_⟩))
      · obtain ⟨S1, hP, _⟩ := hm.tak Tak.z
        rw [Nat.zero_add]
        exact osl_cells hP j u hu
      · intro u hu
        simp only [List.mem_singleton] at hu
        subst hu; rfl
      repeat' (first | refine b_nil ?_ | ((first | refine b_no rfl rfl rfl rfl ?_ rfl ?_ | refine b_noN rfl rfl rfl ?_ rfl ?_ | refine b_n (peval_sound rfl) rfl rfl ?_ rfl ?_ | refine b_n (nl rfl rfl tc rfl) rfl rfl ?_ rfl ?_ | refine b_ny rfl (peval_sound rfl) rfl rfl ?_ rfl ?_ | refine b_ny rfl (nl rfl rfl tc rfl) rfl rfl ?_ rfl ?_); · (first | exact Ent.refl _ | assumption | repeat' (first | exact Ent.refl _ | exact Ent.nil _ | refine Ent.tak .z ?_ | refine Ent.wk ?_))))
      refine b_z rfl (o_store rfl rfl rfl rfl rfl rfl rfl (.s (.s .z)) ⟨[], ?_⟩)
      repeat' (first | refine b_nil ?_ | ((first | refine b_no rfl rfl rfl rfl ?_ rfl ?_ | refine b_noN rfl rfl rfl ?_ rfl ?_ | refine b_n (peval_sound rfl) rfl rfl ?_ rfl ?_ | refine b_n (nl rfl rfl tc rfl) rfl rfl ?_ rfl ?_ | refine b_ny rfl (peval_sound rfl) rfl rfl ?_ rfl ?_ | refine b_ny rfl (nl rfl rfl tc rfl) rfl rfl ?_ rfl ?_); · (first | exact Ent.refl _ | assumption | repeat' (first | exact Ent.refl _ | exact Ent.nil _ | refine Ent.tak .z ?_ | refine Ent.wk ?_))))
      repeat' (first | refine e_nil ?_ | ((first | refine e_op ?_ | refine e_yes rfl ?_); (first | refine o_n (peval_sound rfl) rfl ?_ | refine o_n (nl rfl rfl tc rfl) rfl ?_ | refine o_storeC rfl rfl rfl rfl tc uc rfl rfl rfl ?_ | refine o_box rfl rfl (fun _ => ?_) | refine o_box1 rfl rfl rfl (fun _ => ?_) | refine o_alloc rfl rfl (fun _ => ?_))) | refine e_noU rfl rfl rfl ?_ | refine e_noN rfl rfl ?_ | refine s_seq ?_ | refine s_region ?_ | refine s_block ?_ | refine s_end ?_ | refine s_skip ?_ | refine s_exit ?_ | refine s_true rfl ?_ | refine s_false rfl ?_ | refine x_hit ?_ | refine x_code ?_ | refine x_back ?_ | refine x_miss rfl ?_)
      refine s_back ⟨⟨(k + 1, .slice (some ⟨ba, 0, none⟩) (k + 1) c, acs ++ [(some ⟨b8, 0, none⟩, t)]), by simp only; omega, by simp [hacs], by simp, fun _ => ⟨_, _, rfl⟩⟩, by simp only; omega, ?_, ?_⟩
      · repeat' (first | exact Sub.nil _ | refine Sub.cons rfl ?_ | refine Sub.consE rfl ?_ ?_)
        exact inc (i := k) (by omega)
      · simp only [List.replicate_succ', rowC_snoc hal, rowL_snoc hal, List.length_replicate, List.map_replicate]
        refine Ent.tak (.s (.s .z)) (Ent.tak (.s (.s .z)) (Ent.tak (.s (.s .z)) (Ent.tak (.s (.s .z)) (Ent.wk ?_))))
        have := Ent.mid (A := osl 4 1 (.slice (some ⟨b8, 0, none⟩) t t) t (List.replicate t (Value.bool false))) (L := rowL Value.bool 4 acs (List.replicate k (List.replicate t false))) (U := [])
        rw [List.append_nil] at this
        exact this
    · have hge : n = k := by have := of_decide_eq_false h; omega
      subst hge
      clear h
      obtain ⟨bf, cf, rfl⟩ := hv1 (by omega)
      subst hgn
      subst hgt
      repeat' (first | refine e_nil ?_ | ((first | refine e_op ?_ | refine e_yes rfl ?_); (first | refine o_n (peval_sound rfl) rfl ?_ | refine o_n (nl rfl rfl tc rfl) rfl ?_ | refine o_storeC rfl rfl rfl rfl tc uc rfl rfl rfl ?_ | refine o_box rfl rfl (fun _ => ?_) | refine o_box1 rfl rfl rfl (fun _ => ?_) | refine o_alloc rfl rfl (fun _ => ?_))) | refine e_noU rfl rfl rfl ?_ | refine e_noN rfl rfl ?_ | refine s_seq ?_ | refine s_region ?_ | refine s_block ?_ | refine s_end ?_ | refine s_skip ?_ | refine s_exit ?_ | refine s_true rfl ?_ | refine s_false rfl ?_ | refine x_hit ?_ | refine x_code ?_ | refine x_back ?_ | refine x_miss rfl ?_)
      refine e_ent (V := [blk bk 94 ([Value.slice A0 g.Terms.length c0, Value.slice A1 g.Levels.length c1, Value.slice A2 g.Pats.length c2, Value.slice A3 g.Nons.length c3, Value.slice A4 g.Prods.length c4] ++ [Value.slice none 0 0, Value.slice (some ⟨bn, 0, none⟩) g.Nons.length g.Nons.length, Value.slice (some ⟨bf, 0, none⟩) g.Nons.length cf]),
          osl 4 1 (.slice (some ⟨bn, 0, none⟩) g.Nons.length g.Nons.length) g.Nons.length ((bInit g.Terms.length g.Nons.length).1.map Value.bool), orow Value.bool 70 4 (.slice (some ⟨bf, 0, none⟩) g.Nons.length cf) g.Nons.length (bInit g.Terms.length g.Nons.length).2])
        (Ent.tak .z (Ent.tak .z (Ent.wk (Ent.ex acs (by simp [hacs, bInit]) (by rw [List.append_nil]; exact Ent.refl _))))) ?_
      refine e_op (o_call (grow_w (σ := BSt) 84 [.pointer (some ⟨bk, 0, none⟩)] [] (kGram.rd [Value.slice A0 g.Terms.length c0, Value.slice A1 g.Levels.length c1, Value.slice A2 g.Pats.length c2, Value.slice A3 g.Nons.length c3, Value.slice A4 g.Prods.length c4] g)
        (fun s => [blk bk 94 ([Value.slice A0 g.Terms.length c0, Value.slice A1 g.Levels.length c1, Value.slice A2 g.Pats.length c2, Value.slice A3 g.Nons.length c3, Value.slice A4 g.Prods.length c4] ++ [Value.slice none 0 0, Value.slice (some ⟨bn, 0, none⟩) g.Nons.length g.Nons.length, Value.slice (some ⟨bf, 0, none⟩) g.Nons.length cf]),
          osl 4 1 (.slice (some ⟨bn, 0, none⟩) g.Nons.length g.Nons.length) g.Nons.length (s.1.map Value.bool), orow Value.bool 70 4 (.slice (some ⟨bf, 0, none⟩) g.Nons.length cf) g.Nons.length s.2])
        (bRound g.Terms.length g.Prods) (fun s => decide (bRound g.Terms.length g.Prods s ≠ s)) (fun s => g.Nons.length + g.Nons.length * g.Terms.length - cntS s) (BInv g.Terms.length g.Nons.length)
        (fun s hs => begins_w bk [Value.slice A0 g.Terms.length c0, Value.slice A1 g.Levels.length c1, Value.slice A2 g.Pats.length c2, Value.slice A3 g.Nons.length c3, Value.slice A4 g.Prods.length c4] g (Value.slice none 0 0) bn g.Nons.length g.Nons.length bf cf s rfl hs hbs (by omega) (by omega)) (fun s hs => bRound_inv _ hbs.nat s hs)
        (fun s hs hne => ?_) (bInit g.Terms.length g.Nons.length) (bInit_inv _ _)) rfl (.cons .z (.cons .z (.cons .z .nil))) (Can.ro hR) rfl ?_)
      · rcases bRound_cnt g.Prods hbs.nat s hs with h | h
        · exact absurd h (of_decide_eq_true hne)
        · have := cntS_le (bRound_inv _ hbs.nat s hs)
          omega
      rintro v V ⟨rfl, s, hs, hre, hfr, rfl⟩
      obtain ⟨m, hm⟩ := reach_it hre
      have hfix : bRound g.Terms.length g.Prods s = s := Classical.not_not.1 (of_decide_eq_false hfr)
      have hu : s = bFix g := by
        rw [hm]
        refine bFix_unique hbs.nat ?_
        rw [← hm]; exact hfix
      rw [hfix]
      clear hfr hre hm hfix
      subst hu
      repeat' (first | refine e_nil ?_ | ((first | refine e_op ?_ | refine e_yes rfl ?_); (first | refine o_n (peval_sound rfl) rfl ?_ | refine o_n (nl rfl rfl tc rfl) rfl ?_ | refine o_storeC rfl rfl rfl rfl tc uc rfl rfl rfl ?_ | refine o_box rfl rfl (fun _ => ?_) | refine o_box1 rfl rfl rfl (fun _ => ?_) | refine o_alloc rfl rfl (fun _ => ?_))) | refine e_noU rfl rfl rfl ?_ | refine e_noN rfl rfl ?_ | refine s_seq ?_ | refine s_region ?_ | refine s_block ?_ | refine s_end ?_ | refine s_skip ?_ | refine s_exit ?_ | refine s_true rfl ?_ | refine s_false rfl ?_ | refine x_hit ?_ | refine x_code ?_ | refine x_back ?_ | refine x_miss rfl ?_)
      refine s_ret ⟨_, _, res2 rfl rfl rfl, .inr ⟨hce, bk, bn, bf, cf, rfl, rfl⟩, ?_⟩
      exact Ent.refl _

end Go.Proofs.YtcbaebkkdkdaaaaDoor

namespace Go.Proofs.YtcbaebkkdkdaaaaDoor
set_option linter.all false
open Go.Proofs.YtcbaebkkdkdaaaaDoor.E
attribute [local irreducible] EVX EVO EVL EV1 NEV
set_option maxRecDepth 10000
set_option maxHeartbeats 1000000

def inB (g : Gram) (s : Int) : Bool := decide (s < 0) || decide (s ≥ (g.Terms.length : Int) + g.Nons.length)

theorem of1_w (b2 : Nat) (gr : List Value) (A0 A3 : Option Addr) (c0 c3 : Nat) (u1 u2 u4 : Value) (g : Gram) (ht : g.Terms.length ≤ 48) (hn : g.Nons.length ≤ 48) (s : Int) (_ : gr = []) :
    Trip Tryd.prog 66 [.int .i64 s, .pointer (some ⟨b2, 0, none⟩)] (rblk b2 27 [.slice A0 g.Terms.length c0, u1, u2, .slice A3 g.Nons.length c3, u4]) [] (fun v V => v = .bool (inB g s) ∧ V = []) := by
  refine trip Tryd.tabOk Tryd.func66 rfl rfl rfl rfl ?_
  rintro w SM ⟨hb, hb'⟩
  have hw : IntKind.i64.wrap ((g.Terms.length : Int) + g.Nons.length) = (g.Terms.length : Int) + g.Nons.length := wrap_i64 (by omega) (by omega)
  repeat' (first | refine e_nil ?_ | ((first | refine e_op ?_ | refine e_yes rfl ?_); (first | refine o_n (peval_sound rfl) rfl ?_ | refine o_n (nl rfl rfl tc rfl) rfl ?_ | refine o_storeC rfl rfl rfl rfl tc uc rfl rfl rfl ?_ | refine o_box rfl rfl (fun _ => ?_) | refine o_box1 rfl rfl rfl (fun _ => ?_) | refine o_alloc rfl rfl (fun _ => ?_))) | refine e_noU rfl rfl rfl ?_ | refine e_noN rfl rfl ?_ | refine s_seq ?_ | refine s_region ?_ | refine s_block ?_ | refine s_end ?_ | refine s_skip ?_ | refine s_exit ?_ | refine s_true rfl ?_ | refine s_false rfl ?_ | refine x_hit ?_ | refine x_code ?_ | refine x_back ?_ | refine x_miss rfl ?_ | ((fail_if_success (refine e_dec true (by exact rfl) ?_)); (fail_if_success (refine e_dec false (by exact rfl) ?_)); refine e_part rfl rfl (fun h => ?_) (fun h => ?_)) | refine s_cond rfl (fun h => ?_) (fun h => ?_))
  · refine s_ret ⟨_, _, res1 rfl rfl, ⟨?_, rfl⟩, Ent.nil _⟩
    unfold inB; rw [h]; rfl
  · refine e_yes rfl (o_n (n_load_ro rfl rfl hb (loads_blk hb' rfl)) rfl ?_)
    repeat' (first | refine e_nil ?_ | ((first | refine e_op ?_ | refine e_yes rfl ?_); (first | refine o_n (peval_sound rfl) rfl ?_ | refine o_n (nl rfl rfl tc rfl) rfl ?_ | refine o_storeC rfl rfl rfl rfl tc uc rfl rfl rfl ?_ | refine o_box rfl rfl (fun _ => ?_) | refine o_box1 rfl rfl rfl (fun _ => ?_) | refine o_alloc rfl rfl (fun _ => ?_))) | refine e_noU rfl rfl rfl ?_ | refine e_noN rfl rfl ?_ | refine s_seq ?_ | refine s_region ?_ | refine s_block ?_ | refine s_end ?_ | refine s_skip ?_ | refine s_exit ?_ | refine s_true rfl ?_ | refine s_false rfl ?_ | refine x_hit ?_ | refine x_code ?_ | refine x_back ?_ | refine x_miss rfl ?_)
    refine e_yes rfl (o_n (n_load_ro rfl rfl hb (loads_blk hb' rfl)) rfl ?_)
    repeat' (first | refine e_nil ?_ | ((first | refine e_op ?_ | refine e_yes rfl ?_); (first | refine o_n (peval_sound rfl) rfl ?_ | refine o_n (nl rfl rfl tc rfl) rfl ?_ | refine o_storeC rfl rfl rfl rfl tc uc rfl rfl rfl ?_ | refine o_box rfl rfl (fun _ => ?_) | refine o_box1 rfl rfl rfl (fun _ => ?_) | refine o_alloc rfl rfl (fun _ => ?_))) | refine e_noU rfl rfl rfl ?_ | refine e_noN rfl rfl ?_ | refine s_seq ?_ | refine s_region ?_ | refine s_block ?_ | refine s_end ?_ | refine s_skip ?_ | refine s_exit ?_ | refine s_true rfl ?_ | refine s_false rfl ?_ | refine x_hit ?_ | refine x_code ?_ | refine x_back ?_ | refine x_miss rfl ?_)
    refine s_ret ⟨_, _, res1 rfl rfl, ⟨?_, rfl⟩, Ent.nil _⟩
    unfold inB; rw [h, hw]; rfl

def ofE (g : Gram) (l : List Int) : Int := if checkE g ≠ 0 then checkE g else if l.length > 1000 then 5 else if l.any (inB g) then 9 else 0

theorem of_w (cs : List Value) (g : Gram) (Al : Option Addr) (m cl : Nat) (l : List Int) (hm : m = l.length) : Trip Tryd.prog 39 [.agg cs.toArray, .slice Al m cl] ((kGram.rd cs g).and ((kslice 8 kint).rd [.slice Al m cl] l)) []
    (fun v V => (ofE g l ≠ 0 ∧ v = .tuple #[.slice none 0 0, .bool false, .int .i64 (ofE g l)] ∧ V = []) ∨
      (ofE g l = 0 ∧ ∃ bu, v = .tuple #[.slice (some ⟨bu, 0, none⟩) g.Terms.length g.Terms.length, .bool (rowT g.Terms.length (bFix g) l).2, .int .i64 0] ∧
        V = [osl 4 1 (.slice (some ⟨bu, 0, none⟩) g.Terms.length g.Terms.length) g.Terms.length ((rowT g.Terms.length (bFix g) l).1.map Value.bool)])) := by
  subst hm
  refine trip Tryd.tabOk Tryd.func39 rfl rfl rfl rfl ?_
  rintro w SM ⟨hR, hRl⟩
  obtain ⟨A0, A1, A2, A3, A4, c0, c1, c2, c3, c4, rfl, hG⟩ := kGram_open hR
  repeat' (first | refine e_nil ?_ | ((first | refine e_op ?_ | refine e_yes rfl ?_); (first | refine o_n (peval_sound rfl) rfl ?_ | refine o_n (nl rfl rfl tc rfl) rfl ?_ | refine o_storeC rfl rfl rfl rfl tc uc rfl rfl rfl ?_ | refine o_box rfl rfl (fun _ => ?_) | refine o_box1 rfl rfl rfl (fun _ => ?_) | refine o_alloc rfl rfl (fun _ => ?_))) | refine e_noU rfl rfl rfl ?_ | refine e_noN rfl rfl ?_ | refine s_seq ?_ | refine s_region ?_ | refine s_block ?_ | refine s_end ?_ | refine s_skip ?_ | refine s_exit ?_ | refine s_true rfl ?_ | refine s_false rfl ?_ | refine x_hit ?_ | refine x_code ?_ | refine x_back ?_ | refine x_miss rfl ?_)
  rename_i b2
  refine e_op (o_call (know_w _ g) rfl .nil (Can.ro (kGram_mk hG)) rfl ?_)
  rintro v V (⟨hne, rfl, rfl⟩ | ⟨he, bk, bn, bf, cf, rfl, rfl⟩)
  · have hof : ofE g l = checkE g := by unfold ofE; rw [if_pos hne]
    repeat' (first | refine e_nil ?_ | ((first | refine e_op ?_ | refine e_yes rfl ?_); (first | refine o_n (peval_sound rfl) rfl ?_ | refine o_n (nl rfl rfl tc rfl) rfl ?_ | refine o_storeC rfl rfl rfl rfl tc uc rfl rfl rfl ?_ | refine o_box rfl rfl (fun _ => ?_) | refine o_box1 rfl rfl rfl (fun _ => ?_) | refine o_alloc rfl rfl (fun _ => ?_))) | refine e_noU rfl rfl rfl ?_ | refine e_noN rfl rfl ?_ | refine s_seq ?_ | refine s_region ?_ | refine s_block ?_ | refine s_end ?_ | refine s_skip ?_ | refine s_exit ?_ | refine s_true rfl ?_ | refine s_false rfl ?_ | refine x_hit ?_ | refine x_code ?_ | refine x_back ?_ | refine x_miss rfl ?_)
    refine s_cond rfl (fun h => ?_) (fun h => ?_)
    · repeat' (first | refine e_nil ?_ | ((first | refine e_op ?_ | refine e_yes rfl ?_); (first | refine o_n (peval_sound rfl) rfl ?_ | refine o_n (nl rfl rfl tc rfl) rfl ?_ | refine o_storeC rfl rfl rfl rfl tc uc rfl rfl rfl ?_ | refine o_box rfl rfl (fun _ => ?_) | refine o_box1 rfl rfl rfl (fun _ => ?_) | refine o_alloc rfl rfl (fun _ => ?_))) | refine e_noU rfl rfl rfl ?_ | refine e_noN rfl rfl ?_ | refine s_seq ?_ | refine s_region ?_ | refine s_block ?_ | refine s_end ?_ | refine s_skip ?_ | refine s_exit ?_ | refine s_true rfl ?_ | refine s_false rfl ?_ | refine x_hit ?_ | refine x_code ?_ | refine x_back ?_ | refine x_miss rfl ?_)
      exact s_ret ⟨_, _, res3 rfl rfl rfl rfl, .inl ⟨by rw [hof]; exact hne, by rw [hof], rfl⟩, Ent.nil _⟩
    · exact absurd (by simpa using h) hne
  · have hof : ofE g l = if l.length > 1000 then 5 else if l.any (inB g) then 9 else 0 := by unfold ofE; rw [if_neg (by simpa using he)]
    obtain ⟨hl, hw0⟩ := wf0_of he
    obtain ⟨ht48, hn48, _⟩ := lim_n hl
    have hbs := bsOk_of hw0
    have hinv := bFix_inv hbs.nat
    simp only [knM, List.cons_append, List.nil_append]
    repeat' (first | refine e_nil ?_ | ((first | refine e_op ?_ | refine e_yes rfl ?_); (first | refine o_n (peval_sound rfl) rfl ?_ | refine o_n (nl rfl rfl tc rfl) rfl ?_ | refine o_storeC rfl rfl rfl rfl tc uc rfl rfl rfl ?_ | refine o_box rfl rfl (fun _ => ?_) | refine o_box1 rfl rfl rfl (fun _ => ?_) | refine o_alloc rfl rfl (fun _ => ?_))) | refine e_noU rfl rfl rfl ?_ | refine e_noN rfl rfl ?_ | refine s_seq ?_ | refine s_region ?_ | refine s_block ?_ | refine s_end ?_ | refine s_skip ?_ | refine s_exit ?_ | refine s_true rfl ?_ | refine s_false rfl ?_ | refine x_hit ?_ | refine x_code ?_ | refine x_back ?_ | refine x_miss rfl ?_)
    refine s_cond rfl (fun h => ?_) (fun h => ?_)
    · have h5 : ofE g l = 5 := by rw [hof, if_pos (by have := of_decide_eq_true h; omega)]
      repeat' (first | refine e_nil ?_ | ((first | refine e_op ?_ | refine e_yes rfl ?_); (first | refine o_n (peval_sound rfl) rfl ?_ | refine o_n (nl rfl rfl tc rfl) rfl ?_ | refine o_storeC rfl rfl rfl rfl tc uc rfl rfl rfl ?_ | refine o_box rfl rfl (fun _ => ?_) | refine o_box1 rfl rfl rfl (fun _ => ?_) | refine o_alloc rfl rfl (fun _ => ?_))) | refine e_noU rfl rfl rfl ?_ | refine e_noN rfl rfl ?_ | refine s_seq ?_ | refine s_region ?_ | refine s_block ?_ | refine s_end ?_ | refine s_skip ?_ | refine s_exit ?_ | refine s_true rfl ?_ | refine s_false rfl ?_ | refine x_hit ?_ | refine x_code ?_ | refine x_back ?_ | refine x_miss rfl ?_)
      exact s_ret ⟨_, _, res3 rfl rfl rfl rfl, .inl ⟨by rw [h5]; decide, by rw [h5], rfl⟩, Ent.nil _⟩
    have hl1 : ¬ l.length > 1000 := by have := of_decide_eq_false h; omega
    clear h
    rw [if_neg hl1] at hof
    repeat' (first | refine e_nil ?_ | ((first | refine e_op ?_ | refine e_yes rfl ?_); (first | refine o_n (peval_sound rfl) rfl ?_ | refine o_n (nl rfl rfl tc rfl) rfl ?_ | refine o_storeC rfl rfl rfl rfl tc uc rfl rfl rfl ?_ | refine o_box rfl rfl (fun _ => ?_) | refine o_box1 rfl rfl rfl (fun _ => ?_) | refine o_alloc rfl rfl (fun _ => ?_))) | refine e_noU rfl rfl rfl ?_ | refine e_noN rfl rfl ?_ | refine s_seq ?_ | refine s_region ?_ | refine s_block ?_ | refine s_end ?_ | refine s_skip ?_ | refine s_exit ?_ | refine s_true rfl ?_ | refine s_false rfl ?_ | refine x_hit ?_ | refine x_code ?_ | refine x_back ?_ | refine x_miss rfl ?_)
    have hF : ∀ (u : Value) (x : Int), x ∈ l → Trip Tryd.prog 66 ([] ++ [u] ++ [.pointer (some ⟨b2, 0, none⟩)])
        ((rblk b2 27 [.slice A0 g.Terms.length c0, .slice A1 g.Levels.length c1, .slice A2 g.Pats.length c2, .slice A3 g.Nons.length c3, .slice A4 g.Prods.length c4]).and (kint.rd [u] x)) [] (fun v V => v = .bool (inB g x) ∧ V = []) := by
      intro u x _
      refine ⟨(of1_w b2 [] A0 A3 c0 c3 (.slice A1 g.Levels.length c1) (.slice A2 g.Pats.length c2) (.slice A4 g.Prods.length c4) g ht48 hn48 0 rfl).enters, fun w SM h1 h2 h3 => ?_⟩
      obtain ⟨h4, h5, hI⟩ := h3
      cases h5
      exact (of1_w b2 [] A0 A3 c0 c3 _ _ _ g ht48 hn48 x rfl).calls w SM h1 h2 h4
    refine e_op (o_call (hasInt_w kint rfl 66 [] [.pointer (some ⟨b2, 0, none⟩)] _ (inB g) Al cl l hF) rfl .nil (Can.and (Can.blk (.s (.s (.s .z)))) (Can.ro hRl)) rfl ?_)
    rintro v V ⟨rfl, rfl⟩
    repeat' (first | refine e_nil ?_ | ((first | refine e_op ?_ | refine e_yes rfl ?_); (first | refine o_n (peval_sound rfl) rfl ?_ | refine o_n (nl rfl rfl tc rfl) rfl ?_ | refine o_storeC rfl rfl rfl rfl tc uc rfl rfl rfl ?_ | refine o_box rfl rfl (fun _ => ?_) | refine o_box1 rfl rfl rfl (fun _ => ?_) | refine o_alloc rfl rfl (fun _ => ?_))) | refine e_noU rfl rfl rfl ?_ | refine e_noN rfl rfl ?_ | refine s_seq ?_ | refine s_region ?_ | refine s_block ?_ | refine s_end ?_ | refine s_skip ?_ | refine s_exit ?_ | refine s_true rfl ?_ | refine s_false rfl ?_ | refine x_hit ?_ | refine x_code ?_ | refine x_back ?_ | refine x_miss rfl ?_)
    refine s_cond rfl (fun h => ?_) (fun h => ?_)
    · have h9 : ofE g l = 9 := by rw [hof, if_pos h]
      repeat' (first | refine e_nil ?_ | ((first | refine e_op ?_ | refine e_yes rfl ?_); (first | refine o_n (peval_sound rfl) rfl ?_ | refine o_n (nl rfl rfl tc rfl) rfl ?_ | refine o_storeC rfl rfl rfl rfl tc uc rfl rfl rfl ?_ | refine o_box rfl rfl (fun _ => ?_) | refine o_box1 rfl rfl rfl (fun _ => ?_) | refine o_alloc rfl rfl (fun _ => ?_))) | refine e_noU rfl rfl rfl ?_ | refine e_noN rfl rfl ?_ | refine s_seq ?_ | refine s_region ?_ | refine s_block ?_ | refine s_end ?_ | refine s_skip ?_ | refine s_exit ?_ | refine s_true rfl ?_ | refine s_false rfl ?_ | refine x_hit ?_ | refine x_code ?_ | refine x_back ?_ | refine x_miss rfl ?_)
      exact s_ret ⟨_, _, res3 rfl rfl rfl rfl, .inl ⟨by rw [h9]; decide, by rw [h9], rfl⟩, Ent.nil _⟩
    have h0 : ofE g l = 0 := by rw [hof, h]; rfl
    have hx : ∀ x ∈ l, 0 ≤ x ∧ x < (g.Terms.length : Int) + g.Nons.length := by
      intro x hx
      rw [List.any_eq_false] at h
      have := h x hx
      unfold inB at this
      simp only [Bool.or_eq_true, decide_eq_true_eq] at this
      omega
    clear h
    repeat' (first | refine e_nil ?_ | ((first | refine e_op ?_ | refine e_yes rfl ?_); (first | refine o_n (peval_sound rfl) rfl ?_ | refine o_n (nl rfl rfl tc rfl) rfl ?_ | refine o_storeC rfl rfl rfl rfl tc uc rfl rfl rfl ?_ | refine o_box rfl rfl (fun _ => ?_) | refine o_box1 rfl rfl rfl (fun _ => ?_) | refine o_alloc rfl rfl (fun _ => ?_))) | refine e_noU rfl rfl rfl ?_ | refine e_noN rfl rfl ?_ | refine s_seq ?_ | refine s_region ?_ | refine s_block ?_ | refine s_end ?_ | refine s_skip ?_ | refine s_exit ?_ | refine s_true rfl ?_ | refine s_false rfl ?_ | refine x_hit ?_ | refine x_code ?_ | refine x_back ?_ | refine x_miss rfl ?_)
    refine e_op (o_call (row_w bk [.slice A1 g.Levels.length c1, .slice A2 g.Pats.length c2, .slice A3 g.Nons.length c3, .slice A4 g.Prods.length c4] rfl A0 g.Terms.length c0 (.slice none 0 0) (some ⟨bn, 0, none⟩) g.Nons.length g.Nons.length (some ⟨bf, 0, none⟩) cf (bFix g) hinv (by omega) (by omega) Al
      l.length cl l rfl hx) rfl .nil
      (Can.and (Can.and (Can.blk .z) (Can.and (Can.osl Value.bool rfl kbool_enc (.s .z) (by omega)) (Can.orow Value.bool rfl kbool_enc (.s (.s .z)) (by omega) (fun r hr => by rw [hinv.rows r hr]; omega)))) (Can.ro hRl)) rfl ?_)
    rintro v V ⟨bt, rfl, rfl⟩
    repeat' (first | refine e_nil ?_ | ((first | refine e_op ?_ | refine e_yes rfl ?_); (first | refine o_n (peval_sound rfl) rfl ?_ | refine o_n (nl rfl rfl tc rfl) rfl ?_ | refine o_storeC rfl rfl rfl rfl tc uc rfl rfl rfl ?_ | refine o_box rfl rfl (fun _ => ?_) | refine o_box1 rfl rfl rfl (fun _ => ?_) | refine o_alloc rfl rfl (fun _ => ?_))) | refine e_noU rfl rfl rfl ?_ | refine e_noN rfl rfl ?_ | refine s_seq ?_ | refine s_region ?_ | refine s_block ?_ | refine s_end ?_ | refine s_skip ?_ | refine s_exit ?_ | refine s_true rfl ?_ | refine s_false rfl ?_ | refine x_hit ?_ | refine x_code ?_ | refine x_back ?_ | refine x_miss rfl ?_)
    refine s_ret ⟨_, _, res3 rfl rfl rfl rfl, .inr ⟨h0, bt, rfl, rfl⟩, ?_⟩
    repeat' (first | exact Ent.nil _ | refine Ent.tak tk ?_ | refine Ent.tak .z ?_ | refine Ent.tak (.s .z) ?_ | refine Ent.tak (.s (.s .z)) ?_ | refine Ent.tak (.s (.s (.s .z))) ?_ | refine Ent.tak (.s (.s (.s (.s .z)))) ?_ | refine Ent.tak (.s (.s (.s (.s (.s .z))))) ?_)

end Go.Proofs.YtcbaebkkdkdaaaaDoor

namespace Go.Proofs.YtcbaebkkdkdaaaaDoor
set_option linter.all false
open Go.Proofs.YtcbaebkkdkdaaaaDoor.E
attribute [local irreducible] EVX EVO EVL EV1 NEV
set_option maxRecDepth 10000
set_option maxHeartbeats 1000000

def sl (b n : Nat) : Value := .slice (some ⟨b, 0, none⟩) n n
def pv (l : Int) (s : Value) : Value := .agg #[.int .i64 l, s, .int .i64 0, .int .i64 0]
def ints (b : Nat) (l : List Int) : Asn := osl 3 1 (sl b l.length) l.length (l.map (Value.int .i64))
def strs (b : Nat) (l : List ByteArray) : Asn := osl 9 1 (sl b l.length) l.length (l.map Value.string)
def sA : ByteArray := ⟨#[97]⟩
def sB : ByteArray := ⟨#[98]⟩
def s0 : ByteArray := ⟨#[]⟩
def nS : ByteArray := ⟨#[83]⟩
def nA : ByteArray := ⟨#[65]⟩
def levs (b : Nat) : Asn := osl 51 2 (sl b 3) 3 [.int .i64 0, .int .i64 0, .int .i64 0, .int .i64 0, .int .i64 0, .int .i64 0]
def prodC (b3 b5 b7 b9 : Nat) : List (List Value) :=
  [[.int .i64 0, sl b3 1, .int .i64 0, .int .i64 0], [.int .i64 1, sl b5 2, .int .i64 0, .int .i64 0], [.int .i64 1, sl b7 2, .int .i64 0, .int .i64 0], [.int .i64 2, sl b9 1, .int .i64 0, .int .i64 0], [.int .i64 2, .slice none 0 0, .int .i64 0, .int .i64 0]]
def prodsA (b12 b3 b5 b7 b9 : Nat) : Asn := osl 53 4 (sl b12 5) 5 (prodC b3 b5 b7 b9).flatten
def chapC (b0 b1 b2 b12 : Nat) : List Value := [sl b0 3, sl b1 3, .slice none 0 0, sl b2 3, sl b12 5]

def chapMs : List Mk := [
  ⟨1, [0], fun l => sl (l.getD 0 0) 3, fun l => [strs (l.getD 0 0) [s0, sA, sB]]⟩,
  ⟨2, [1], fun l => sl (l.getD 0 0) 3, fun l => [levs (l.getD 0 0)]⟩,
  ⟨3, [2], fun l => sl (l.getD 0 0) 3, fun l => [strs (l.getD 0 0) [s0, nS, nA]]⟩,
  ⟨4, [3], fun l => sl (l.getD 0 0) 1, fun l => [ints (l.getD 0 0) [4]]⟩,
  ⟨5, [3], fun l => pv 0 (sl (l.getD 0 0) 1), fun _ => []⟩,
  ⟨6, [5], fun l => sl (l.getD 0 0) 2, fun l => [ints (l.getD 0 0) [5, 2]]⟩,
  ⟨7, [5], fun l => pv 1 (sl (l.getD 0 0) 2), fun _ => []⟩,
  ⟨8, [7], fun l => sl (l.getD 0 0) 2, fun l => [ints (l.getD 0 0) [4, 1]]⟩,
  ⟨9, [7], fun l => pv 1 (sl (l.getD 0 0) 2), fun _ => []⟩,
  ⟨10, [9], fun l => sl (l.getD 0 0) 1, fun l => [ints (l.getD 0 0) [1]]⟩,
  ⟨11, [9], fun l => pv 2 (sl (l.getD 0 0) 1), fun _ => []⟩,
  ⟨12, [], fun _ => pv 2 (.slice none 0 0), fun _ => []⟩,
  ⟨13, [12, 3, 5, 7, 9], fun l => sl (l.getD 0 0) 5, fun l => [prodsA (l.getD 0 0) (l.getD 1 0) (l.getD 2 0) (l.getD 3 0) (l.getD 4 0)]⟩,
  ⟨14, [0, 1, 2, 12], fun l => .agg (chapC (l.getD 0 0) (l.getD 1 0) (l.getD 2 0) (l.getD 3 0)).toArray, fun _ => []⟩]

def chapO (b0 b1 b2 b3 b5 b7 b9 b12 : Nat) : List Asn := [strs b0 [s0, sA, sB], levs b1, strs b2 [s0, nS, nA], ints b3 [4], ints b5 [5, 2], ints b7 [4, 1], ints b9 [1], prodsA b12 b3 b5 b7 b9]

end Go.Proofs.YtcbaebkkdkdaaaaDoor

namespace Go.Proofs.YtcbaebkkdkdaaaaDoor
set_option linter.all false
open Go.Proofs.YtcbaebkkdkdaaaaDoor.E

def chap : Gram := ⟨[s0, sA, sB], [⟨0, 0⟩, ⟨0, 0⟩, ⟨0, 0⟩], [], [s0, nS, nA], [⟨0, [4], ⟨0, 0⟩⟩, ⟨1, [5, 2], ⟨0, 0⟩⟩, ⟨1, [4, 1], ⟨0, 0⟩⟩, ⟨2, [1], ⟨0, 0⟩⟩, ⟨2, [], ⟨0, 0⟩⟩]⟩

theorem flat_one {α β : Type} (f : α → β) : ∀ l : List α, (l.map fun x => [f x]).flatten = l.map f
  | [] => rfl
  | x :: l => by simp [flat_one f l]

theorem sl_ints {b : Nat} {l : List Int} {w : World} {S1 S : BSet} (h : (ints b l).P w S1) (hS : ∀ b, S1 b → S b) (hI : ∀ x ∈ l, I64 x) (hl : l.length * 8 ≤ 140737488355328) : Sl 8 kint w S (some ⟨b, 0, none⟩) l.length l := by
  refine ⟨Nat.le_refl _, hl, ?_⟩
  unfold ints at h
  rw [← flat_one] at h
  refine (osl_elsG (kd := kint) h hS (by simp) rfl ?_).1
  intro i h1 h2
  rw [List.getElem_map]
  exact ⟨rfl, hI _ (List.getElem_mem h2)⟩

theorem sl_strs {b : Nat} {l : List ByteArray} {w : World} {S1 S : BSet} (h : (strs b l).P w S1) (hS : ∀ b, S1 b → S b) (hl : l.length * 16 ≤ 140737488355328) : Sl 16 kstr w S (some ⟨b, 0, none⟩) l.length l :=
  ⟨Nat.le_refl _, hl, els_mono hS (osl_els (k := kstr) Value.string rfl (fun _ _ _ => rfl) h).1⟩

theorem els_nil {α : Type} {bytes : Nat} {k : Kd α} {w : World} {S : BSet} : Sl bytes k w S none 0 ([] : List α) := ⟨Nat.le_refl _, by simp, fun i hi => by simp at hi⟩

theorem chap_rd {b0 b1 b2 b3 b5 b7 b9 b12 : Nat} {w : World} {S : BSet} (h : star (chapO b0 b1 b2 b3 b5 b7 b9 b12) w S) : kGram.R w S (chapC b0 b1 b2 b12) chap := by
  obtain ⟨_, h0, i0⟩ := star_mem (i := 0) rfl h
  obtain ⟨_, h1, i1⟩ := star_mem (i := 1) rfl h
  obtain ⟨_, h2, i2⟩ := star_mem (i := 2) rfl h
  obtain ⟨_, h3, i3⟩ := star_mem (i := 3) rfl h
  obtain ⟨_, h5, i5⟩ := star_mem (i := 4) rfl h
  obtain ⟨_, h7, i7⟩ := star_mem (i := 5) rfl h
  obtain ⟨_, h9, i9⟩ := star_mem (i := 6) rfl h
  obtain ⟨_, h12, i12⟩ := star_mem (i := 7) rfl h
  have z : I64 0 := by unfold I64; omega
  have k3 := sl_ints h3 i3 (by intro x hx; simp at hx; subst hx; unfold I64; omega) (by simp)
  have k5 := sl_ints h5 i5 (by intro x hx; simp at hx; unfold I64; omega) (by simp)
  have k7 := sl_ints h7 i7 (by intro x hx; simp at hx; unfold I64; omega) (by simp)
  have k9 := sl_ints h9 i9 (by intro x hx; simp at hx; subst hx; unfold I64; omega) (by simp)
  refine kGram_mk (g := chap) (A0 := some ⟨b0, 0, none⟩) (A1 := some ⟨b1, 0, none⟩) (A2 := none) (A3 := some ⟨b2, 0, none⟩) (A4 := some ⟨b12, 0, none⟩) (c0 := 3) (c1 := 3) (c2 := 0) (c3 := 3) (c4 := 5)
    ⟨sl_strs h0 i0 (by decide), ?_, els_nil, sl_strs h2 i2 (by decide), ?_⟩
  · refine ⟨Nat.le_refl _, by decide +kernel, ?_⟩
    refine (osl_elsG (kd := kLev) (ess := [[.int .i64 0, .int .i64 0], [.int .i64 0, .int .i64 0], [.int .i64 0, .int .i64 0]]) h1 i1 rfl rfl ?_).1
    intro i g1 g2
    have : ∀ x : Lev, x = ⟨0, 0⟩ → kLev.R w S [.int .i64 0, .int .i64 0] x := by
      rintro _ rfl
      exact ⟨[.int .i64 0], [.int .i64 0], rfl, ⟨rfl, z⟩, ⟨rfl, z⟩⟩
    rcases i with _ | _ | _ | i
    · exact this _ rfl
    · exact this _ rfl
    · exact this _ rfl
    · exact absurd g1 (by simp)
  · refine ⟨Nat.le_refl _, by decide +kernel, ?_⟩
    refine (osl_elsG (kd := kPrd) (ess := prodC b3 b5 b7 b9) h12 i12 rfl rfl ?_).1
    intro i g1 g2
    rcases i with _ | _ | _ | _ | _ | i
    · exact kPrd_mk (x := ⟨0, [4], ⟨0, 0⟩⟩) z z z k3
    · exact kPrd_mk (x := ⟨1, [5, 2], ⟨0, 0⟩⟩) (by show I64 1; unfold I64; omega) z z k5
    · exact kPrd_mk (x := ⟨1, [4, 1], ⟨0, 0⟩⟩) (by show I64 1; unfold I64; omega) z z k7
    · exact kPrd_mk (x := ⟨2, [1], ⟨0, 0⟩⟩) (by show I64 2; unfold I64; omega) z z k9
    · exact kPrd_mk (x := ⟨2, [], ⟨0, 0⟩⟩) (by show I64 2; unfold I64; omega) z z els_nil
    · exact absurd g1 (by simp [prodC])

/-! What it is known of. -/
theorem chap_check : checkE chap = 0 := by decide +kernel
theorem chap_no : (bFix chap).1 = [false, false, true] := by decide +kernel
theorem chap_fi : (bFix chap).2 = [[false, true, true], [false, true, true], [false, true, false]] := by decide +kernel
theorem chap_55 : rowT 3 (bFix chap) [5, 5] = ([false, true, false], true) := by decide +kernel
theorem chap_52 : rowT 3 (bFix chap) [5, 2] = ([false, true, true], false) := by decide +kernel
theorem chap_e : rowT 3 (bFix chap) [] = ([false, false, false], true) := by decide +kernel

end Go.Proofs.YtcbaebkkdkdaaaaDoor

namespace Go.Proofs.YtcbaebkkdkdaaaaDoor
set_option linter.all false
open Go.Proofs.YtcbaebkkdkdaaaaDoor.E
attribute [local irreducible] EVX EVO EVL EV1 NEV
set_option maxRecDepth 10000
set_option maxHeartbeats 1000000

def lets (te : List Bool) : Nat → ByteArray
  | 0 => ⟨#[]⟩
  | k + 1 => if te.getD k false then lets te k ++ strOf [IntKind.u8.wrap (IntKind.i64.wrap (95 + (k : Int)))] else lets te k

theorem lets_size (te : List Bool) : ∀ k, (lets te k).size ≤ k
  | 0 => Nat.le_refl _
  | k + 1 => by
    have := lets_size te k
    unfold lets
    split
    · rw [ByteArray.size_append]
      have h1 : (strOf [IntKind.u8.wrap (IntKind.i64.wrap (95 + (k : Int)))]).size = 1 := rfl
      omega
    · omega

theorem chap_of55 : ofE chap [5, 5] = 0 := by decide +kernel
theorem chap_of52 : ofE chap [5, 2] = 0 := by decide +kernel
theorem chap_ofe : ofE chap [] = 0 := by decide +kernel
theorem lets_55 : lets [false, true, false] 3 = ⟨#[96]⟩ := by decide +kernel
theorem lets_52 : lets [false, true, true] 3 = ⟨#[96, 97]⟩ := by decide +kernel
theorem lets_e : lets [false, false, false] 3 = ⟨#[]⟩ := by decide +kernel

end Go.Proofs.YtcbaebkkdkdaaaaDoor

namespace Go.Proofs.YtcbaebkkdkdaaaaDoor
set_option linter.all false
open Go.Proofs.YtcbaebkkdkdaaaaDoor.E
attribute [local irreducible] EVX EVO EVL EV1 NEV
set_option maxRecDepth 10000
set_option maxHeartbeats 1000000

theorem can_chap {e : E.Env} {U : List Asn} {b0 b1 b2 b3 b5 b7 b9 b12 : Nat} (h : Ent U (chapO b0 b1 b2 b3 b5 b7 b9 b12)) : Go.Proofs.YtcbaebkkdkdaaaaDoor.E.Can e U (kGram.rd (chapC b0 b1 b2 b12) chap) :=
  E.Can.of fun w S hs => chap_rd (h w S hs)

end Go.Proofs.YtcbaebkkdkdaaaaDoor

namespace Go.Proofs.YtcbaebkkdkdaaaaDoor.E
set_option linter.all false
variable {E : Env} {fr : Frm} {U V : List Asn} {K : Frm → List Asn → Prop} {k : List It} {ops : Array Oper}

def EVP (E : Env) (K : Frm → List Asn → Prop) (k : List It) (ops : Array Oper) (fuel : Nat) (done : List Nat) (fr : Frm) (U : List Asn) : Prop :=
  Region.noSelect ops = true → ∀ a w, Clo ops (lset ops done) → Fr E fr a → Mem E U w → wpAny E.P .any ops (post E K k) fuel (lset ops done) a w

/-- z is the next barrier; V stays true until then. -/
def EVQ (E : Env) (K : Frm → List Asn → Prop) (k : List It) (ops : Array Oper) (z : Nat) (V : List Asn) (fuel : Nat) (done : List Nat) (fr : Frm) (U : List Asn) : Prop :=
  Region.noSelect ops = true → ∀ a w, Clo ops (lset ops done) → Fr E fr a → Mem E U w → wpAnyB E.P ops (post E K k) z (fun w => Mem E V w) fuel (lset ops done) a w

theorem s_P {id : Nat} (hm : E.P.follows .mixedOrders = true) (hs : Region.noSelect ops = true) (h : EVP E K k ops ops.size [] fr U) : EVS E K (.code (.region id ops true) :: k) fr U := by
  intro a w hf hmem
  refine wp_region_any hm ?_
  have hc : Clo ops (lset ops []) := by
    intro m o ho hl e he hb
    have hm : m < ops.size := (Array.getElem?_eq_some_iff.1 ho).1
    rw [lset_get hm] at hl
    cases hl
  have := h hs a { w with drawn := w.drawn + 1 } hc hf hmem.drew
  rw [lset_nil] at this
  exact this

theorem p_done {fuel : Nat} {done : List Nat} (hr : Region.ready .any ops (lset ops done) = []) (h : EVS E K k fr U) : EVP E K k ops fuel done fr U := by
  intro _ a w _ hf hm
  cases fuel with
  | zero => exact ⟨hr, fr, U, h, hf, hm⟩
  | succ f => exact ⟨fun _ => ⟨fr, U, h, hf, hm⟩, fun i hi => by rw [hr] at hi; cases hi⟩

/-- A move, taken at once. -/
theorem p_mv {fuel : Nat} {done : List Nat} (i : Nat) {d : Nat} {x : Operand} {ty : TypeId} {pos : String} {af : Array Edge} {v : Value} (hi : ops[i]? = some ⟨some d, .move x, ty, pos, af, none⟩)
    (hx : val fr x = some v) (hok : takeOk ops done i = true) (hd : Nat.ble (d + 1) E.n = true) (h : EVP E K k ops fuel (i :: done) ((d, v) :: fr) U) : EVP E K k ops (fuel + 1) done fr U := by
  intro hs a w hc hf hm
  simp only [takeOk, Bool.and_eq_true] at hok
  have hr : i ∈ Region.ready .any ops (lset ops done) := by simpa using hok.2.1
  refine wpAny_first (v := v) hi (Region.noSelect_spec hs) (fun c a w h => post_panic h) _ _ _ _ (Region.free_spec hi hok.2.2) hr (.inl ⟨rfl, fun w => ?_⟩) ?_
  · simp [execOp, hf.eval hx]
  · have hc2 := hc.set hr
    rw [lset_cons] at hc2 ⊢
    exact h hs _ w hc2 (hf.put (Nat.le_of_ble_eq_true hd) v) hm

theorem p_bar {fuel : Nat} {done : List Nat} (z : Nat) (V : List Asn) (h : EVQ E K k ops z V fuel done fr U) : EVP E K k ops fuel done fr U :=
  fun hs a w hc hf hm => wpAny_of_B _ _ _ _ (h hs a w hc hf hm)

theorem p_barU {fuel : Nat} {done : List Nat} (z : Nat) (h : EVQ E K k ops z U fuel done fr U) : EVP E K k ops fuel done fr U := p_bar z U h

/-- The only one that may come up. -/
theorem p_1 {fuel : Nat} {done : List Nat} (i : Nat) {o : Oper} (hr : Region.ready .any ops (lset ops done) = [i]) (ho : ops[i]? = some o) (hg : o.guard = none)
    (h : EV1 E o fr U (EVP E K k ops fuel (i :: done))) : EVP E K k ops (fuel + 1) done fr U := by
  intro hs a w hc hf hm
  refine ⟨fun h2 => (by rw [hr] at h2; cases h2), fun j hj => ?_⟩
  have hc2 := hc.set hj
  rw [hr, List.mem_singleton] at hj
  subst hj
  unfold wpOp
  have hw : Region.wanted o (yielded ops a.tmps) = true := by simp [Region.wanted, hg]
  simp only [ho, hw, if_true]
  refine .inl (Oper.wp_mono2 ?_ (h a w hf hm))
  rintro a' w' ⟨fr', U', hk, hf', hm'⟩
  rw [lset_cons] at hc2 ⊢
  exact hk hs a' w' hc2 hf' hm'

theorem q_take {fuel : Nat} {done : List Nat} {z : Nat} (i : Nat) {d : Nat} {o : Op} {ty : TypeId} {pos : String} {af : Array Edge} {g : Option (Nat × Bool)} {v : Value} (hi : ops[i]? = some ⟨some d, o, ty, pos, af, g⟩)
    (hy : ∀ a, Fr E fr a → YieldsIf E.P ops (fun w => Mem E V w) ⟨some d, o, ty, pos, af, g⟩ v a) (hok : takeOk ops done i = true) (hw : (!Nat.beq i z && waits ops 12 z i) = true) (hV : Ent U V) (hd : Nat.ble (d + 1) E.n = true)
    (h : EVQ E K k ops z V fuel (i :: done) ((d, v) :: fr) U) : EVQ E K k ops z V (fuel + 1) done fr U := by
  intro hs a w hc hf hm
  simp only [takeOk, Bool.and_eq_true] at hok
  rw [Bool.and_eq_true] at hw
  have hr : i ∈ Region.ready .any ops (lset ops done) := by simpa using hok.2.1
  have hne : i ≠ z := fun e => by subst e; simp at hw
  have hc2 := hc.set hr
  rw [lset_cons] at hc2
  have key := h hs _ w hc2 (hf.put (Nat.le_of_ble_eq_true hd) v) hm
  rw [← lset_cons] at key
  exact wpAnyB_first hi (Region.noSelect_spec hs) (fun c a w h => post_panic h) hne (fun _ => ⟨12, hw.2⟩) _ _ _ _ hc (Region.free_spec hi hok.2.2) hr (hy a hf) (hm.ent hV) key

theorem q_n {fuel : Nat} {done : List Nat} {z : Nat} (i : Nat) {d : Nat} {o : Op} {ty : TypeId} {pos : String} {af : Array Edge} {v : Value} (hi : ops[i]? = some ⟨some d, o, ty, pos, af, none⟩)
    (hn : NEV E o fr V v) (hok : takeOk ops done i = true) (hw : (!Nat.beq i z && waits ops 12 z i) = true) (hV : Ent U V) (hd : Nat.ble (d + 1) E.n = true)
    (h : EVQ E K k ops z V fuel (i :: done) ((d, v) :: fr) U) : EVQ E K k ops z V (fuel + 1) done fr U :=
  q_take i hi (fun a hf => .inl ⟨rfl, fun w hw => hn a w _ _ _ _ _ hf hw⟩) hok hw hV hd h

theorem q_ny {fuel : Nat} {done : List Nat} {z : Nat} (i : Nat) {d : Nat} {o : Op} {ty : TypeId} {pos : String} {af : Array Edge} {v : Value} {j : Nat} {b : Bool} (hi : ops[i]? = some ⟨some d, o, ty, pos, af, some (j, b)⟩) (hg : gval ops fr j = some b)
    (hn : NEV E o fr V v) (hok : takeOk ops done i = true) (hw : (!Nat.beq i z && waits ops 12 z i) = true) (hV : Ent U V) (hd : Nat.ble (d + 1) E.n = true)
    (h : EVQ E K k ops z V fuel (i :: done) ((d, v) :: fr) U) : EVQ E K k ops z V (fuel + 1) done fr U :=
  q_take i hi (fun a hf => .inl ⟨by simp [Region.wanted, gval_yielded hf hg], fun w hw => hn a w _ _ _ _ _ hf hw⟩) hok hw hV hd h

theorem q_z {fuel : Nat} {done : List Nat} (z : Nat) {o : Oper} (hr : Region.ready .any ops (lset ops done) = [z]) (ho : ops[z]? = some o) (hg : o.guard = none)
    (h : EV1 E o fr U (EVP E K k ops fuel (z :: done))) : EVQ E K k ops z V (fuel + 1) done fr U := by
  intro hs a w hc hf hm
  refine ⟨fun h2 => (by rw [hr] at h2; cases h2), fun j hj => ?_⟩
  have hc2 := hc.set hj
  rw [hr, List.mem_singleton] at hj
  subst hj
  unfold wpOp
  have hw : Region.wanted o (yielded ops a.tmps) = true := by simp [Region.wanted, hg]
  simp only [ho, hw, if_true]
  refine .inl (Oper.wp_mono2 ?_ (h a w hf hm))
  rintro a' w' ⟨fr', U', hk, hf', hm'⟩
  refine ⟨fun _ => ?_, fun h3 => absurd rfl h3⟩
  rw [lset_cons] at hc2 ⊢
  exact hk hs a' w' hc2 hf' hm'

/-- One that acts, and leaves V. -/
theorem q_1 {fuel : Nat} {done : List Nat} {z : Nat} (i : Nat) {o : Oper} (hr : Region.ready .any ops (lset ops done) = [i]) (ho : ops[i]? = some o) (hg : o.guard = none) (hz : Nat.beq i z = false)
    (h : EV1 E o fr U (fun fr' U' => Ent U' V ∧ EVQ E K k ops z V fuel (i :: done) fr' U')) : EVQ E K k ops z V (fuel + 1) done fr U := by
  intro hs a w hc hf hm
  refine ⟨fun h2 => (by rw [hr] at h2; cases h2), fun j hj => ?_⟩
  have hc2 := hc.set hj
  rw [hr, List.mem_singleton] at hj
  subst hj
  unfold wpOp
  have hw : Region.wanted o (yielded ops a.tmps) = true := by simp [Region.wanted, hg]
  simp only [ho, hw, if_true]
  refine .inl (Oper.wp_mono2 ?_ (h a w hf hm))
  rintro a' w' ⟨fr', U', ⟨he, hk⟩, hf', hm'⟩
  refine ⟨fun e => (by subst e; simp at hz), fun _ => ⟨hm'.ent he, ?_⟩⟩
  rw [lset_cons] at hc2 ⊢
  exact hk hs a' w' hc2 hf' hm'

theorem n_look {κ : Type} [DecidableEq κ] {P : Program} {t kt e : TypeId} {s1 b1 : Nat} {z1 : List Value} {z v : Value} {x y : Operand} {b : Nat} {k : κ} {enc : κ → Value} {l : List (κ × Value)} {U' : List Asn} (hl : lookK l k = some v) (hP : E.P = P) (K : MKey P kt enc) (hz : ∀ w, (zeroValue e).run P w = .ok z w)
    (ht : tl E.T t = some ⟨.map kt e, s1, b1, z1⟩) (hx : val fr x = some (.map (some b))) (hy : val fr y = some (enc k)) (hU : Tak (mapA enc b l) U U') : NEV E (.lookup t x y false) fr U v := by
  have := n_lookup hP K hz ht hx hy hU
  rwa [hl] at this

/-- An element of several cells out of a slice that is read. -/
theorem n_load_rdA {α : Type} {kd : Kd α} {bytes n c : Nat} {xs : List α} (enc : α → List Value) (hk : ∀ w S cs x, kd.R w S cs x → cs = enc x) {t : TypeId} {x : Operand} {i : TI} {b o o' : Nat} {U' : List Asn}
    (hx : val fr x = some (.pointer (some ⟨b, o', none⟩))) (ht : tl E.T t = some i) (ha : aggB i.d = true) (hU : Tak (rdA (kslice bytes kd) [.slice (some ⟨b, o, none⟩) n c] xs) U U') (j : Nat) (hj : j < xs.length) (hs : i.size = kd.sz) (ho : o' = o + j * kd.sz) :
    NEV E (.load t x) fr U (.agg (enc xs[j]).toArray) := by
  refine n_load_of hx ht (fun w S hst => ?_)
  obtain ⟨S1, ⟨A, c', e, _, _, h3⟩, _⟩ := hU.mem hst
  cases e
  obtain ⟨b', o2, es, e, _, hR, hc⟩ := h3 j hj
  cases e
  have he := hk _ _ _ _ hR
  subst he
  subst ho
  exact loads_agg ha (by rw [kd.len hR, hs]) hc

theorem n_subI {x y : Operand} {t t2 : TypeId} {a b : Int} (hx : val fr x = some (.int .i64 a)) (hy : val fr y = some (.int .i64 b)) (h1 : -9223372036854775808 ≤ a - b) (h2 : a - b ≤ 9223372036854775807) : NEV E (.binOp .sub t x y t2) fr U (.int .i64 (a - b)) := by
  have := peval_sound (E := E) (U := U) (fr := fr) (o := .binOp .sub t x y t2) (v := .int .i64 (IntKind.i64.wrap (a - b))) (by simp [peval, hx, hy, intBin])
  rwa [wrap_i64 h1 h2] at this
theorem n_addI {x y : Operand} {t t2 : TypeId} {a b : Int} (hx : val fr x = some (.int .i64 a)) (hy : val fr y = some (.int .i64 b)) (h1 : -9223372036854775808 ≤ a + b) (h2 : a + b ≤ 9223372036854775807) : NEV E (.binOp .add t x y t2) fr U (.int .i64 (a + b)) := by
  have := peval_sound (E := E) (U := U) (fr := fr) (o := .binOp .add t x y t2) (v := .int .i64 (IntKind.i64.wrap (a + b))) (by simp [peval, hx, hy, intBin])
  rwa [wrap_i64 h1 h2] at this

theorem p_join {fuel : Nat} {done : List Nat} {ι : Type} (frX : ι → Frm) (UX : ι → List Asn) (hfin : ∀ x, EVS E K k (frX x) (UX x)) (h : (∀ x, EVS E K k (frX x) (UX x)) → EVP E K k ops fuel done fr U) :
    EVP E K k ops fuel done fr U := h hfin

/-! ### what a function hands back, the first out of a cell -/
theorem rescD {fn : Func} {p : Tmp} {t T : TypeId} {i : TI} {b : Nat} {c : C256} {rest : List Value} {U' : List Asn} (h : fn.results = #[.cell p t]) (hp : look fr p = some (.pointer (some ⟨b, 0, none⟩)))
    (ht : tl E.T t = some i) (hU : Tak (blk b T (dC c rest)) U U') (ha : aggB i.d = true) (hs : Nat.beq i.size (256 + rest.length) = true) : Res E fn fr U (.agg (dC c rest).toArray) :=
  resc h hp ht hU (ld_all (n := i.size) (by rw [dC_len, Nat.eq_of_beq_eq_true hs]) ha rfl rfl)

theorem resc2 {fn : Func} {p q : Tmp} {t : TypeId} {i : TI} {b : Nat} {T : TypeId} {cs : List Value} {v v2 : Value} {U' : List Asn} (h : fn.results = #[.cell p t, .tmp q]) (hp : look fr p = some (.pointer (some ⟨b, 0, none⟩)))
    (ht : tl E.T t = some i) (hU : Tak (blk b T cs) U U') (hl : loadL i cs 0 = some v) (hq : look fr q = some v2) : Res E fn fr U (.tuple #[v, v2]) := fun a w hf hm => by
  obtain ⟨S1, ⟨_, hb⟩, _⟩ := hm.tak hU
  have hc : ∀ j u, cs[j]? = some u → w.cell? ⟨b, j, none⟩ = some u := fun j u hu => by rw [cell_of_row w b j _ _ _ hb]; simpa using hu
  have h1 := hf.frm p _ hp
  have h2 := hf.frm q _ hq
  simp [results, h, h1, h2, asAddr, run_loadVar ht hc hl]

theorem rescD2 {fn : Func} {p q : Tmp} {t T : TypeId} {i : TI} {b : Nat} {c : C256} {rest : List Value} {v2 : Value} {U' : List Asn} (h : fn.results = #[.cell p t, .tmp q]) (hp : look fr p = some (.pointer (some ⟨b, 0, none⟩)))
    (ht : tl E.T t = some i) (hU : Tak (blk b T (dC c rest)) U U') (ha : aggB i.d = true) (hs : Nat.beq i.size (256 + rest.length) = true) (hq : look fr q = some v2) : Res E fn fr U (.tuple #[.agg (dC c rest).toArray, v2]) :=
  resc2 h hp ht hU (ld_all (n := i.size) (by rw [dC_len, Nat.eq_of_beq_eq_true hs]) ha rfl rfl) hq

end Go.Proofs.YtcbaebkkdkdaaaaDoor.E

namespace Go.Proofs.YtcbaebkkdkdaaaaDoor.E
set_option linter.all false
variable {E : Env} {fr : Frm} {U V : List Asn} {N : Frm → List Asn → Prop}

/-- A byte. -/
def kbyte : Kd Nat where
  sz := 1
  R := fun _ _ cs x => cs = [.int .u8 (x : Nat)] ∧ x < 256
  len := by rintro w S cs x ⟨rfl, _⟩; rfl
  fr := fun _ h => h
  mono := fun _ h => h

theorem op_byte {P : Program} {t : TypeId} (ht : P.underlying t = some (.int .u8)) : Opn P t kbyte := by
  intro H enc w fuel cs x h _
  obtain ⟨n, rfl, _, hw⟩ := DataW.trod_int ht h
  simp only [Lit.wf, Bool.and_eq_true, decide_eq_true_eq] at hw
  have h1 : 0 ≤ n := hw.1
  have h2 : n ≤ 255 := hw.2
  refine ⟨n.toNat, ?_, by omega⟩
  rw [Int.toNat_of_nonneg h1]

/-- l[:q] -/
theorem n_headV {t e : TypeId} {x y : Operand} {s1 b1 : Nat} {z1 : List Value} {i : TI} {A : Option Addr} {n c : Nat} {kk : IntKind} (q : Nat) {q' : Int}
    (ht : tl E.T t = some ⟨.slice e, s1, b1, z1⟩) (he : tl E.T e = some i) (hx : val fr x = some (.slice A n c)) (hy : val fr y = some (.int kk q')) (hq' : q' = (q : Int)) (hq : q ≤ c) :
    NEV E (.slice t x none (some y) none) fr U (.slice A q c) := by
  intro a w dst ty pos af g hf hm
  have h := n_head (E := E) (fr := fr) (U := U) (x := x) (kk := kk) q ht he hx hq' hq a w dst ty pos af g hf hm
  have hev : a.eval y = a.eval (.const (.int kk q')) := hf.eval hy
  unfold execOp at h ⊢
  simp only [Option.map] at h ⊢
  rw [hev]; exact h

/-- l[q:] -/
theorem n_fromV {t e : TypeId} {x y : Operand} {s1 b1 : Nat} {z1 : List Value} {i : TI} {A : Option Addr} {n c : Nat} {k : IntKind} (q : Nat) {q' : Int}
    (ht : tl E.T t = some ⟨.slice e, s1, b1, z1⟩) (he : tl E.T e = some i) (hx : val fr x = some (.slice A n c)) (hy : val fr y = some (.int k q')) (hq' : q' = (q : Int)) (hq : q ≤ n) :
    NEV E (.slice t x (some y) none none) fr U (.slice (if c = q then A else A.map (·.add (q * i.size))) (n - q) (c - q)) := by
  intro a w dst ty pos af g hf _
  subst hq'
  obtain ⟨dd, sz, bytes, z⟩ := i
  obtain ⟨inf, zv, hinf, hzv, hs, hbb, hzc⟩ := ti_info he
  have hu := u_slice ht
  have hel : E.P.elem t = e := by simp [Program.elem, hu]
  have hsz : (sizeOf e).run E.P w = .ok sz w := by simp [sizeOf, run_info hinf, hs]
  have hr := run_slice_l (P := E.P) (w := w) t A n c (by rw [hel]; exact hu) k (q : Int) (by omega) (by omega)
  rw [hel, hsz] at hr
  have ha := run_sliceAt_slice (P := E.P) (w := w) t (.slice A n c) (some (.int k (q : Int))) none none (by rw [hel]; exact hu)
  rw [hr] at ha
  have hev : a.eval y = .int k (q : Int) := hf.eval hy
  simp [execOp, hf.eval hx, hev, ha, sliced, Result.andThen]

variable {K : Frm → List Asn → Prop} {k : List It}
/-- The ways through a piece of code meet behind it. -/
theorem s_join {c : Code} {ι : Type} (frX : ι → Frm) (UX : ι → List Asn) (h : (∀ x, EVS E K k (frX x) (UX x)) → EVS E K (.code c :: k) fr U) (hfin : ∀ x, EVS E K k (frX x) (UX x)) : EVS E K (.code c :: k) fr U := h hfin

theorem s_openP {cd : Code} {e : TypeId} {sz n c m : Nat} {A : Option Addr} {xs : List Value} {U' : List Asn}
    (ht : Tak (osl e sz (.slice A n c) m xs) U U') (h : (0 < m → ∃ b, A = some ⟨b, 0, none⟩) → EVS E K (.code cd :: k) fr U) : EVS E K (.code cd :: k) fr U := by
  by_cases hm : 0 < m
  · exact s_open ht hm (fun b hb => h (fun _ => ⟨b, hb⟩))
  · exact h (fun h2 => absurd h2 hm)

end Go.Proofs.YtcbaebkkdkdaaaaDoor.E

namespace Go.Proofs.YtcbaebkkdkdaaaaDoor
set_option linter.all false
open Go.Proofs.YtcbaebkkdkdaaaaDoor.E

def kItm : Kd Itm := kiso (kpair kint kint) (fun x => (x.Prod, x.Dot))
def encX (x : Itm) : List Value := [.int .i64 x.Prod, .int .i64 x.Dot]
theorem kItm_open {w : World} {S : BSet} {cs : List Value} {x : Itm} (h : kItm.R w S cs x) : cs = encX x ∧ I64 x.Prod ∧ I64 x.Dot := by
  obtain ⟨c1, c2, rfl, ⟨rfl, h1⟩, ⟨rfl, h2⟩⟩ := h
  exact ⟨rfl, h1, h2⟩
theorem kItm_mk {w : World} {S : BSet} {x : Itm} (h1 : I64 x.Prod) (h2 : I64 x.Dot) : kItm.R w S (encX x) x := ⟨[_], [_], rfl, ⟨rfl, h1⟩, ⟨rfl, h2⟩⟩

/-- A slice of items of one's own. -/
abbrev pX (A : Option Addr) (n c : Nat) (l : List Itm) : Asn := osl 42 2 (.slice A n c) n (l.flatMap encX)

theorem encX_inj {a b : Itm} (h : encX a = encX b) : a = b := by
  cases a; cases b
  unfold encX at h
  simp only [List.cons.injEq, Value.int.injEq, true_and, and_true] at h
  rw [h.1, h.2]

theorem equal42 (w : World) (a b c d : Int) : (Op.equal 42 (.agg #[.int .i64 a, .int .i64 b]) (.agg #[.int .i64 c, .int .i64 d])).run Tryd.prog w = .ok (a == c && b == d) w := by
  have hf : Tryd.prog.fieldsOf 42 = #[{ name := "Prod", type := 3, offset := 0, embedded := false, tag := "", pkgPath := "", byteOffset := 0 }, { name := "Dot", type := 3, offset := 1, embedded := false, tag := "", pkgPath := "", byteOffset := 8 }] := by kernel_rfl
  have h3 : Tryd.prog.plainKey 3 = true := by kernel_rfl
  have p1 : ∀ u v : Int, (part 3 #[.int .i64 u, .int .i64 v] 0).run Tryd.prog w = .ok (.int .i64 u) w := fun u v => run_part_plain (P := Tryd.prog) w h3 rfl
  have p2 : ∀ u v : Int, (part 3 #[.int .i64 u, .int .i64 v] 1).run Tryd.prog w = .ok (.int .i64 v) w := fun u v => run_part_plain (P := Tryd.prog) w h3 rfl
  unfold Op.equal Op.maxDepth
  rw [run_equalIn_struct (P := Tryd.prog) w 9999 42 _ _ (by kernel_rfl) (by kernel_rfl), hf]
  have e : ∀ u v : Int, (Op.equalIn 9999 3 (.int .i64 u) (.int .i64 v)).run Tryd.prog w = .ok (u == v) w := fun u v => run_equalIn_int w 9998 3 .i64 .i64 u v Tryd.underlying3
  simp only [Op.eqFields]
  simp only [Sem.run_bind, p1, p2, e, Result.andThen_ok, Sem.run_ite, Sem.run_pure]
  cases a == c <;> cases b == d <;> simp [p1, p2, e]

theorem eqItm (x y : Itm) : (x.Prod == y.Prod && x.Dot == y.Dot) = decide (x = y) := by
  cases x; cases y
  simp only [Itm.mk.injEq, Bool.decide_and]
  rfl

theorem n_neq42 {w0 : World} {SM : BSet} {n : Nat} {fr : Frm} {U : List Asn} {x y : Operand} {a b : Itm} {t2 : TypeId} (hx : val fr x = some (.agg (encX a).toArray)) (hy : val fr y = some (.agg (encX b).toArray)) :
    NEV ⟨Tryd.prog, Tryd.tab, Tryd.tabOk, n, w0, SM⟩ (.binOp .neq 42 x y t2) fr U (.bool (!decide (a = b))) := by
  intro ac w dst ty pos af g hf _
  have hg : Tryd.prog.eqGuardType Tryd.prog.depth 42 = false := by kernel_rfl
  have he := equal42 w a.Prod a.Dot b.Prod b.Dot
  unfold execOp
  simp only [hf.eval hx, hf.eval hy, encX]
  simp [eqGuard, hg, binOp, he, eqItm]

theorem n_eql42 {w0 : World} {SM : BSet} {n : Nat} {fr : Frm} {U : List Asn} {x y : Operand} {a b : Itm} {t2 : TypeId} (hx : val fr x = some (.agg (encX a).toArray)) (hy : val fr y = some (.agg (encX b).toArray)) :
    NEV ⟨Tryd.prog, Tryd.tab, Tryd.tabOk, n, w0, SM⟩ (.binOp .eql 42 x y t2) fr U (.bool (decide (a = b))) := by
  intro ac w dst ty pos af g hf _
  have hg : Tryd.prog.eqGuardType Tryd.prog.depth 42 = false := by kernel_rfl
  have he := equal42 w a.Prod a.Dot b.Prod b.Dot
  unfold execOp
  simp only [hf.eval hx, hf.eval hy, encX]
  simp [eqGuard, hg, binOp, he, eqItm]

attribute [local irreducible] EVX EVO EVL EV1 NEV
attribute [local irreducible] own osl exA rdA rdL
set_option maxRecDepth 10000
set_option maxHeartbeats 4000000

theorem less_w (a b : Itm) : Trip Tryd.prog 92 [.agg (encX a).toArray, .agg (encX b).toArray] Rd.tt [] (fun v V => v = .bool (ltI a b) ∧ V = []) := by
  refine trip Tryd.tabOk Tryd.func92 rfl rfl rfl rfl ?_
  rintro w SM hW
  clear hW
  unfold encX
  repeat' (first | refine e_nil ?_ | ((first | refine e_op ?_ | refine e_yes rfl ?_); (first | refine o_n (peval_sound rfl) rfl ?_ | refine o_n (nl rfl rfl tc rfl) rfl ?_ | refine o_storeC rfl rfl rfl rfl tc uc rfl rfl rfl ?_ | refine o_box rfl rfl (fun _ => ?_) | refine o_box1 rfl rfl rfl (fun _ => ?_) | refine o_alloc rfl rfl (fun _ => ?_))) | refine e_noU rfl rfl rfl ?_ | refine e_noN rfl rfl ?_ | refine s_seq ?_ | refine s_region ?_ | refine s_block ?_ | refine s_end ?_ | refine s_skip ?_ | refine s_exit ?_ | refine s_true rfl ?_ | refine s_false rfl ?_ | refine x_hit ?_ | refine x_code ?_ | refine x_back ?_ | refine x_miss rfl ?_ | ((fail_if_success (refine e_dec true (by exact rfl) ?_)); (fail_if_success (refine e_dec false (by exact rfl) ?_)); refine e_part rfl rfl (fun h => ?_) (fun h => ?_)) | refine s_cond rfl (fun h => ?_) (fun h => ?_))
  all_goals refine s_ret ⟨_, _, res1 rfl rfl, ⟨?_, rfl⟩, Ent.nil _⟩
  · have h1 := of_decide_eq_true h
    congr 1; symm; rw [ltI_iff]; exact .inl h1
  · rename_i h0
    have h1 := of_decide_eq_false h0
    have h2 : a.Prod = b.Prod := by simpa using h
    unfold ltI
    rw [h0, decide_eq_true h2]; simp
  · rename_i h0
    have h1 := of_decide_eq_false h0
    have h2 : ¬ a.Prod = b.Prod := by simpa using h
    unfold ltI
    rw [h0, decide_eq_false h2]; simp

theorem behR_w (cs : List Value) (g : Gram) (x : Itm) (hx : inG g x = true) : Trip Tryd.prog 76 [.agg cs.toArray, .agg (encX x).toArray] (kGram.rd cs g) [] (fun v V => v = .int .i64 (beh g x) ∧ V = []) := by
  refine trip Tryd.tabOk Tryd.func76 rfl rfl rfl rfl ?_
  rintro w SM hR
  obtain ⟨A0, A1, A2, A3, A4, c0, c1, c2, c3, c4, rfl, hG⟩ := kGram_open hR
  unfold inG at hx
  simp only [Bool.and_eq_true, decide_eq_true_eq] at hx
  obtain ⟨x1, x2, x3, x4⟩ := hx
  obtain ⟨xp, xd⟩ := x
  simp only at x1 x2 x3 x4
  obtain ⟨p, rfl⟩ : ∃ k : Nat, xp = (k : Int) := ⟨xp.toNat, by omega⟩
  obtain ⟨d, rfl⟩ : ∃ k : Nat, xd = (k : Int) := ⟨xd.toNat, by omega⟩
  have hp : p < g.Prods.length := by omega
  have hpr : prd g (p : Int) = g.Prods[p] := by unfold prd; rw [Int.toNat_natCast, List.getD_eq_getElem?_getD, List.getElem?_eq_getElem hp]; rfl
  rw [hpr] at x4
  obtain ⟨b, o, es, rfl, hb, he, hc⟩ := hG.prods.2.2 p hp
  obtain ⟨Ar, cr, rfl, hl, hlN, hlK, hri⟩ := kPrd_open he
  have hbe : beh g ⟨(p : Int), (d : Int)⟩ = if d < g.Prods[p].Right.length then g.Prods[p].Right.getD d 0 else -1 := by
    unfold beh
    simp only [hpr, Int.toNat_natCast]
    by_cases h : d < g.Prods[p].Right.length
    · rw [if_pos h, if_pos (by omega)]
    · rw [if_neg h, if_neg (by omega)]
  unfold encX
  repeat' (first | refine e_nil ?_ | ((first | refine e_op ?_ | refine e_yes rfl ?_); (first | refine o_n (peval_sound rfl) rfl ?_ | refine o_n (nl rfl rfl tc rfl) rfl ?_ | refine o_storeC rfl rfl rfl rfl tc uc rfl rfl rfl ?_ | refine o_box rfl rfl (fun _ => ?_) | refine o_box1 rfl rfl rfl (fun _ => ?_) | refine o_alloc rfl rfl (fun _ => ?_))) | refine e_noU rfl rfl rfl ?_ | refine e_noN rfl rfl ?_ | refine s_seq ?_ | refine s_region ?_ | refine s_block ?_ | refine s_end ?_ | refine s_skip ?_ | refine s_exit ?_ | refine s_true rfl ?_ | refine s_false rfl ?_ | refine x_hit ?_ | refine x_code ?_ | refine x_back ?_ | refine x_miss rfl ?_)
  refine e_op (o_n (n_index rfl rfl rfl rfl p rfl hp) rfl ?_)
  repeat' (first | refine e_nil ?_ | ((first | refine e_op ?_ | refine e_yes rfl ?_); (first | refine o_n (peval_sound rfl) rfl ?_ | refine o_n (nl rfl rfl tc rfl) rfl ?_ | refine o_storeC rfl rfl rfl rfl tc uc rfl rfl rfl ?_ | refine o_box rfl rfl (fun _ => ?_) | refine o_box1 rfl rfl rfl (fun _ => ?_) | refine o_alloc rfl rfl (fun _ => ?_))) | refine e_noU rfl rfl rfl ?_ | refine e_noN rfl rfl ?_ | refine s_seq ?_ | refine s_region ?_ | refine s_block ?_ | refine s_end ?_ | refine s_skip ?_ | refine s_exit ?_ | refine s_true rfl ?_ | refine s_false rfl ?_ | refine x_hit ?_ | refine x_code ?_ | refine x_back ?_ | refine x_miss rfl ?_)
  refine e_op (o_n (n_load_ro rfl rfl hb (loads_one rfl (hc 1 _ rfl))) rfl ?_)
  repeat' (first | refine e_nil ?_ | ((first | refine e_op ?_ | refine e_yes rfl ?_); (first | refine o_n (peval_sound rfl) rfl ?_ | refine o_n (nl rfl rfl tc rfl) rfl ?_ | refine o_storeC rfl rfl rfl rfl tc uc rfl rfl rfl ?_ | refine o_box rfl rfl (fun _ => ?_) | refine o_box1 rfl rfl rfl (fun _ => ?_) | refine o_alloc rfl rfl (fun _ => ?_))) | refine e_noU rfl rfl rfl ?_ | refine e_noN rfl rfl ?_ | refine s_seq ?_ | refine s_region ?_ | refine s_block ?_ | refine s_end ?_ | refine s_skip ?_ | refine s_exit ?_ | refine s_true rfl ?_ | refine s_false rfl ?_ | refine x_hit ?_ | refine x_code ?_ | refine x_back ?_ | refine x_miss rfl ?_)
  refine s_cond rfl (fun h => ?_) (fun h => ?_)
  · have hd : ¬ d < g.Prods[p].Right.length := by have h := of_decide_eq_true h; simp only at h; omega
    repeat' (first | refine e_nil ?_ | ((first | refine e_op ?_ | refine e_yes rfl ?_); (first | refine o_n (peval_sound rfl) rfl ?_ | refine o_n (nl rfl rfl tc rfl) rfl ?_ | refine o_storeC rfl rfl rfl rfl tc uc rfl rfl rfl ?_ | refine o_box rfl rfl (fun _ => ?_) | refine o_box1 rfl rfl rfl (fun _ => ?_) | refine o_alloc rfl rfl (fun _ => ?_))) | refine e_noU rfl rfl rfl ?_ | refine e_noN rfl rfl ?_ | refine s_seq ?_ | refine s_region ?_ | refine s_block ?_ | refine s_end ?_ | refine s_skip ?_ | refine s_exit ?_ | refine s_true rfl ?_ | refine s_false rfl ?_ | refine x_hit ?_ | refine x_code ?_ | refine x_back ?_ | refine x_miss rfl ?_)
    refine s_ret ⟨_, _, res1 rfl rfl, ⟨?_, rfl⟩, Ent.nil _⟩
    rw [hbe, if_neg hd]
  · have hd : d < g.Prods[p].Right.length := by have h := of_decide_eq_false h; simp only at h; omega
    obtain ⟨b2, o2, es2, rfl, hb2, ⟨rfl, _⟩, hc2⟩ := hri.2.2 d hd
    repeat' (first | refine e_nil ?_ | ((first | refine e_op ?_ | refine e_yes rfl ?_); (first | refine o_n (peval_sound rfl) rfl ?_ | refine o_n (nl rfl rfl tc rfl) rfl ?_ | refine o_storeC rfl rfl rfl rfl tc uc rfl rfl rfl ?_ | refine o_box rfl rfl (fun _ => ?_) | refine o_box1 rfl rfl rfl (fun _ => ?_) | refine o_alloc rfl rfl (fun _ => ?_))) | refine e_noU rfl rfl rfl ?_ | refine e_noN rfl rfl ?_ | refine s_seq ?_ | refine s_region ?_ | refine s_block ?_ | refine s_end ?_ | refine s_skip ?_ | refine s_exit ?_ | refine s_true rfl ?_ | refine s_false rfl ?_ | refine x_hit ?_ | refine x_code ?_ | refine x_back ?_ | refine x_miss rfl ?_)
    refine e_op (o_n (n_index rfl rfl rfl rfl d rfl hd) rfl ?_)
    refine e_op (o_n (n_load_ro rfl rfl hb2 (loads_one rfl (hc2 0 _ rfl))) rfl ?_)
    repeat' (first | refine e_nil ?_ | ((first | refine e_op ?_ | refine e_yes rfl ?_); (first | refine o_n (peval_sound rfl) rfl ?_ | refine o_n (nl rfl rfl tc rfl) rfl ?_ | refine o_storeC rfl rfl rfl rfl tc uc rfl rfl rfl ?_ | refine o_box rfl rfl (fun _ => ?_) | refine o_box1 rfl rfl rfl (fun _ => ?_) | refine o_alloc rfl rfl (fun _ => ?_))) | refine e_noU rfl rfl rfl ?_ | refine e_noN rfl rfl ?_ | refine s_seq ?_ | refine s_region ?_ | refine s_block ?_ | refine s_end ?_ | refine s_skip ?_ | refine s_exit ?_ | refine s_true rfl ?_ | refine s_false rfl ?_ | refine x_hit ?_ | refine x_code ?_ | refine x_back ?_ | refine x_miss rfl ?_)
    refine s_ret ⟨_, _, res1 rfl rfl, ⟨?_, rfl⟩, Ent.nil _⟩
    rw [hbe, if_pos hd, List.getD_eq_getElem?_getD, List.getElem?_eq_getElem hd]; rfl

theorem beh_w (cs : List Value) (g : Gram) (x : Itm) (hx : inG g x = true) : Trip Tryd.prog 47 [.agg cs.toArray, .agg (encX x).toArray] (kGram.rd cs g) [] (fun v V => v = .int .i64 (beh g x) ∧ V = []) := by
  refine trip Tryd.tabOk Tryd.func47 rfl rfl rfl rfl ?_
  rintro w SM hR
  obtain ⟨A0, A1, A2, A3, A4, c0, c1, c2, c3, c4, rfl, hG⟩ := kGram_open hR
  unfold inG at hx
  simp only [Bool.and_eq_true, decide_eq_true_eq] at hx
  obtain ⟨x1, x2, x3, x4⟩ := hx
  obtain ⟨xp, xd⟩ := x
  simp only at x1 x2 x3 x4
  obtain ⟨p, rfl⟩ : ∃ k : Nat, xp = (k : Int) := ⟨xp.toNat, by omega⟩
  obtain ⟨d, rfl⟩ : ∃ k : Nat, xd = (k : Int) := ⟨xd.toNat, by omega⟩
  have hp : p < g.Prods.length := by omega
  have hpr : prd g (p : Int) = g.Prods[p] := by unfold prd; rw [Int.toNat_natCast, List.getD_eq_getElem?_getD, List.getElem?_eq_getElem hp]; rfl
  rw [hpr] at x4
  obtain ⟨b, o, es, rfl, hb, he, hc⟩ := hG.prods.2.2 p hp
  obtain ⟨Ar, cr, rfl, hl, hlN, hlK, hri⟩ := kPrd_open he
  have hbe : beh g ⟨(p : Int), (d : Int)⟩ = if d < g.Prods[p].Right.length then g.Prods[p].Right.getD d 0 else -1 := by
    unfold beh
    simp only [hpr, Int.toNat_natCast]
    by_cases h : d < g.Prods[p].Right.length
    · rw [if_pos h, if_pos (by omega)]
    · rw [if_neg h, if_neg (by omega)]
  unfold encX
  repeat' (first | refine e_nil ?_ | ((first | refine e_op ?_ | refine e_yes rfl ?_); (first | refine o_n (peval_sound rfl) rfl ?_ | refine o_n (nl rfl rfl tc rfl) rfl ?_ | refine o_storeC rfl rfl rfl rfl tc uc rfl rfl rfl ?_ | refine o_box rfl rfl (fun _ => ?_) | refine o_box1 rfl rfl rfl (fun _ => ?_) | refine o_alloc rfl rfl (fun _ => ?_))) | refine e_noU rfl rfl rfl ?_ | refine e_noN rfl rfl ?_ | refine s_seq ?_ | refine s_region ?_ | refine s_block ?_ | refine s_end ?_ | refine s_skip ?_ | refine s_exit ?_ | refine s_true rfl ?_ | refine s_false rfl ?_ | refine x_hit ?_ | refine x_code ?_ | refine x_back ?_ | refine x_miss rfl ?_)
  refine e_op (o_n (n_index rfl rfl rfl rfl p rfl hp) rfl ?_)
  repeat' (first | refine e_nil ?_ | ((first | refine e_op ?_ | refine e_yes rfl ?_); (first | refine o_n (peval_sound rfl) rfl ?_ | refine o_n (nl rfl rfl tc rfl) rfl ?_ | refine o_storeC rfl rfl rfl rfl tc uc rfl rfl rfl ?_ | refine o_box rfl rfl (fun _ => ?_) | refine o_box1 rfl rfl rfl (fun _ => ?_) | refine o_alloc rfl rfl (fun _ => ?_))) | refine e_noU rfl rfl rfl ?_ | refine e_noN rfl rfl ?_ | refine s_seq ?_ | refine s_region ?_ | refine s_block ?_ | refine s_end ?_ | refine s_skip ?_ | refine s_exit ?_ | refine s_true rfl ?_ | refine s_false rfl ?_ | refine x_hit ?_ | refine x_code ?_ | refine x_back ?_ | refine x_miss rfl ?_)
  refine e_op (o_n (n_load_ro rfl rfl hb (loads_one rfl (hc 1 _ rfl))) rfl ?_)
  repeat' (first | refine e_nil ?_ | ((first | refine e_op ?_ | refine e_yes rfl ?_); (first | refine o_n (peval_sound rfl) rfl ?_ | refine o_n (nl rfl rfl tc rfl) rfl ?_ | refine o_storeC rfl rfl rfl rfl tc uc rfl rfl rfl ?_ | refine o_box rfl rfl (fun _ => ?_) | refine o_box1 rfl rfl rfl (fun _ => ?_) | refine o_alloc rfl rfl (fun _ => ?_))) | refine e_noU rfl rfl rfl ?_ | refine e_noN rfl rfl ?_ | refine s_seq ?_ | refine s_region ?_ | refine s_block ?_ | refine s_end ?_ | refine s_skip ?_ | refine s_exit ?_ | refine s_true rfl ?_ | refine s_false rfl ?_ | refine x_hit ?_ | refine x_code ?_ | refine x_back ?_ | refine x_miss rfl ?_)
  refine s_cond rfl (fun h => ?_) (fun h => ?_)
  · have hd : d < g.Prods[p].Right.length := by have h := of_decide_eq_true h; simp only at h; omega
    obtain ⟨b2, o2, es2, rfl, hb2, ⟨rfl, _⟩, hc2⟩ := hri.2.2 d hd
    repeat' (first | refine e_nil ?_ | ((first | refine e_op ?_ | refine e_yes rfl ?_); (first | refine o_n (peval_sound rfl) rfl ?_ | refine o_n (nl rfl rfl tc rfl) rfl ?_ | refine o_storeC rfl rfl rfl rfl tc uc rfl rfl rfl ?_ | refine o_box rfl rfl (fun _ => ?_) | refine o_box1 rfl rfl rfl (fun _ => ?_) | refine o_alloc rfl rfl (fun _ => ?_))) | refine e_noU rfl rfl rfl ?_ | refine e_noN rfl rfl ?_ | refine s_seq ?_ | refine s_region ?_ | refine s_block ?_ | refine s_end ?_ | refine s_skip ?_ | refine s_exit ?_ | refine s_true rfl ?_ | refine s_false rfl ?_ | refine x_hit ?_ | refine x_code ?_ | refine x_back ?_ | refine x_miss rfl ?_)
    refine e_op (o_n (n_index rfl rfl rfl rfl d rfl hd) rfl ?_)
    refine e_op (o_n (n_load_ro rfl rfl hb2 (loads_one rfl (hc2 0 _ rfl))) rfl ?_)
    repeat' (first | refine e_nil ?_ | ((first | refine e_op ?_ | refine e_yes rfl ?_); (first | refine o_n (peval_sound rfl) rfl ?_ | refine o_n (nl rfl rfl tc rfl) rfl ?_ | refine o_storeC rfl rfl rfl rfl tc uc rfl rfl rfl ?_ | refine o_box rfl rfl (fun _ => ?_) | refine o_box1 rfl rfl rfl (fun _ => ?_) | refine o_alloc rfl rfl (fun _ => ?_))) | refine e_noU rfl rfl rfl ?_ | refine e_noN rfl rfl ?_ | refine s_seq ?_ | refine s_region ?_ | refine s_block ?_ | refine s_end ?_ | refine s_skip ?_ | refine s_exit ?_ | refine s_true rfl ?_ | refine s_false rfl ?_ | refine x_hit ?_ | refine x_code ?_ | refine x_back ?_ | refine x_miss rfl ?_)
    refine s_ret ⟨_, _, res1 rfl rfl, ⟨?_, rfl⟩, Ent.nil _⟩
    rw [hbe, if_pos hd, List.getD_eq_getElem?_getD, List.getElem?_eq_getElem hd]; rfl
  · have hd : ¬ d < g.Prods[p].Right.length := by have h := of_decide_eq_false h; simp only at h; omega
    repeat' (first | refine e_nil ?_ | ((first | refine e_op ?_ | refine e_yes rfl ?_); (first | refine o_n (peval_sound rfl) rfl ?_ | refine o_n (nl rfl rfl tc rfl) rfl ?_ | refine o_storeC rfl rfl rfl rfl tc uc rfl rfl rfl ?_ | refine o_box rfl rfl (fun _ => ?_) | refine o_box1 rfl rfl rfl (fun _ => ?_) | refine o_alloc rfl rfl (fun _ => ?_))) | refine e_noU rfl rfl rfl ?_ | refine e_noN rfl rfl ?_ | refine s_seq ?_ | refine s_region ?_ | refine s_block ?_ | refine s_end ?_ | refine s_skip ?_ | refine s_exit ?_ | refine s_true rfl ?_ | refine s_false rfl ?_ | refine x_hit ?_ | refine x_code ?_ | refine x_back ?_ | refine x_miss rfl ?_)
    refine s_ret ⟨_, _, res1 rfl rfl, ⟨?_, rfl⟩, Ent.nil _⟩
    rw [hbe, if_neg hd]

theorem sameItems_w (A B : Option Addr) (c d : Nat) (xs ys : List Itm) :
    Trip Tryd.prog 23 [.slice A xs.length c, .slice B ys.length d] (((kslice 16 kItm).rd [.slice A xs.length c] xs).and ((kslice 16 kItm).rd [.slice B ys.length d] ys)) []
      (fun v V => v = .bool (decide (xs = ys)) ∧ V = []) := by
  refine trip Tryd.tabOk Tryd.func23 rfl rfl rfl rfl ?_
  rintro w SM ⟨⟨A', c', e1, h1⟩, B', d', e2, h2⟩
  cases e1; cases e2
  repeat' (first | refine e_nil ?_ | ((first | refine e_op ?_ | refine e_yes rfl ?_); (first | refine o_n (peval_sound rfl) rfl ?_ | refine o_n (nl rfl rfl tc rfl) rfl ?_ | refine o_storeC rfl rfl rfl rfl tc uc rfl rfl rfl ?_ | refine o_box rfl rfl (fun _ => ?_) | refine o_box1 rfl rfl rfl (fun _ => ?_) | refine o_alloc rfl rfl (fun _ => ?_))) | refine e_noU rfl rfl rfl ?_ | refine e_noN rfl rfl ?_ | refine s_seq ?_ | refine s_region ?_ | refine s_block ?_ | refine s_end ?_ | refine s_skip ?_ | refine s_exit ?_ | refine s_true rfl ?_ | refine s_false rfl ?_ | refine x_hit ?_ | refine x_code ?_ | refine x_back ?_ | refine x_miss rfl ?_)
  refine s_cond rfl (fun h => ?_) (fun h => ?_)
  · repeat' (first | refine e_nil ?_ | ((first | refine e_op ?_ | refine e_yes rfl ?_); (first | refine o_n (peval_sound rfl) rfl ?_ | refine o_n (nl rfl rfl tc rfl) rfl ?_ | refine o_storeC rfl rfl rfl rfl tc uc rfl rfl rfl ?_ | refine o_box rfl rfl (fun _ => ?_) | refine o_box1 rfl rfl rfl (fun _ => ?_) | refine o_alloc rfl rfl (fun _ => ?_))) | refine e_noU rfl rfl rfl ?_ | refine e_noN rfl rfl ?_ | refine s_seq ?_ | refine s_region ?_ | refine s_block ?_ | refine s_end ?_ | refine s_skip ?_ | refine s_exit ?_ | refine s_true rfl ?_ | refine s_false rfl ?_ | refine x_hit ?_ | refine x_code ?_ | refine x_back ?_ | refine x_miss rfl ?_)
    refine s_ret ?_
    refine ⟨_, _, res1 rfl rfl, ⟨?_, rfl⟩, Ent.nil _⟩
    have hne : xs ≠ ys := by
      rintro rfl; simp at h
    simp [hne]
  have hlen : xs.length = ys.length := by simp at h; omega
  repeat' (first | refine e_nil ?_ | ((first | refine e_op ?_ | refine e_yes rfl ?_); (first | refine o_n (peval_sound rfl) rfl ?_ | refine o_n (nl rfl rfl tc rfl) rfl ?_ | refine o_storeC rfl rfl rfl rfl tc uc rfl rfl rfl ?_ | refine o_box rfl rfl (fun _ => ?_) | refine o_box1 rfl rfl rfl (fun _ => ?_) | refine o_alloc rfl rfl (fun _ => ?_))) | refine e_noU rfl rfl rfl ?_ | refine e_noN rfl rfl ?_ | refine s_seq ?_ | refine s_region ?_ | refine s_block ?_ | refine s_end ?_ | refine s_skip ?_ | refine s_exit ?_ | refine s_true rfl ?_ | refine s_false rfl ?_ | refine x_hit ?_ | refine x_code ?_ | refine x_back ?_ | refine x_miss rfl ?_)
  refine s_loopK (ι := {i : Nat // i ≤ xs.length ∧ xs.take i = ys.take i}) [0, 1] rfl ⟨0, by omega, by simp⟩ (fun i => [(5, .int .i64 i.1)]) (fun _ => []) (fun i => xs.length - i.1) ?_ (Ent.nil _) ?_
  · repeat' (first | exact Sub.nil _ | refine Sub.cons rfl ?_ | refine Sub.consE rfl ?_ ?_)
  rintro ⟨i, hi, ht⟩
  repeat' (first | refine e_nil ?_ | ((first | refine e_op ?_ | refine e_yes rfl ?_); (first | refine o_n (peval_sound rfl) rfl ?_ | refine o_n (nl rfl rfl tc rfl) rfl ?_ | refine o_storeC rfl rfl rfl rfl tc uc rfl rfl rfl ?_ | refine o_box rfl rfl (fun _ => ?_) | refine o_box1 rfl rfl rfl (fun _ => ?_) | refine o_alloc rfl rfl (fun _ => ?_))) | refine e_noU rfl rfl rfl ?_ | refine e_noN rfl rfl ?_ | refine s_seq ?_ | refine s_region ?_ | refine s_block ?_ | refine s_end ?_ | refine s_skip ?_ | refine s_exit ?_ | refine s_true rfl ?_ | refine s_false rfl ?_ | refine x_hit ?_ | refine x_code ?_ | refine x_back ?_ | refine x_miss rfl ?_)
  refine s_cond rfl (fun h => ?_) (fun h => ?_)
  · have hlt : i < xs.length := by simpa using h
    obtain ⟨b, o, es, rfl, hb, hx, hc⟩ := h1.2.2 i hlt
    obtain ⟨b2, o2, es2, rfl, hb2, hy, hc2⟩ := h2.2.2 i (by omega)
    obtain ⟨rfl, _, _⟩ := kItm_open hx
    obtain ⟨rfl, _, _⟩ := kItm_open hy
    repeat' (first | refine e_nil ?_ | ((first | refine e_op ?_ | refine e_yes rfl ?_); (first | refine o_n (peval_sound rfl) rfl ?_ | refine o_n (nl rfl rfl tc rfl) rfl ?_ | refine o_storeC rfl rfl rfl rfl tc uc rfl rfl rfl ?_ | refine o_box rfl rfl (fun _ => ?_) | refine o_box1 rfl rfl rfl (fun _ => ?_) | refine o_alloc rfl rfl (fun _ => ?_))) | refine e_noU rfl rfl rfl ?_ | refine e_noN rfl rfl ?_ | refine s_seq ?_ | refine s_region ?_ | refine s_block ?_ | refine s_end ?_ | refine s_skip ?_ | refine s_exit ?_ | refine s_true rfl ?_ | refine s_false rfl ?_ | refine x_hit ?_ | refine x_code ?_ | refine x_back ?_ | refine x_miss rfl ?_)
    refine s_drawU [] Tryd.mixed (by decide +kernel) ?_
    repeat' (first | refine l_nil ?_ | ((first | refine l_no rfl rfl rfl ?_ rfl ?_ | refine l_noN rfl rfl ?_ rfl ?_ | refine l_n (peval_sound rfl) rfl ?_ rfl ?_ | refine l_n (nl rfl rfl tc rfl) rfl ?_ rfl ?_ | refine l_ny rfl (peval_sound rfl) rfl ?_ rfl ?_ | refine l_ny rfl (nl rfl rfl tc rfl) rfl ?_ rfl ?_); · (first | exact Ent.refl _ | assumption | repeat' (first | exact Ent.refl _ | exact Ent.nil _ | refine Ent.tak .z ?_ | refine Ent.wk ?_))))
    refine l_n (n_index rfl rfl rfl rfl i rfl hlt) rfl (Ent.refl _) rfl ?_
    refine l_n (n_load_ro rfl rfl hb (loads_agg rfl rfl hc)) rfl (Ent.refl _) rfl ?_
    repeat' (first | refine l_nil ?_ | ((first | refine l_no rfl rfl rfl ?_ rfl ?_ | refine l_noN rfl rfl ?_ rfl ?_ | refine l_n (peval_sound rfl) rfl ?_ rfl ?_ | refine l_n (nl rfl rfl tc rfl) rfl ?_ rfl ?_ | refine l_ny rfl (peval_sound rfl) rfl ?_ rfl ?_ | refine l_ny rfl (nl rfl rfl tc rfl) rfl ?_ rfl ?_); · (first | exact Ent.refl _ | assumption | repeat' (first | exact Ent.refl _ | exact Ent.nil _ | refine Ent.tak .z ?_ | refine Ent.wk ?_))))
    refine l_n (n_index rfl rfl rfl rfl i rfl (by omega)) rfl (Ent.refl _) rfl ?_
    refine l_n (n_load_ro rfl rfl hb2 (loads_agg rfl rfl hc2)) rfl (Ent.refl _) rfl ?_
    refine l_n (n_neq42 rfl rfl) rfl (Ent.refl _) rfl ?_
    repeat' (first | refine l_nil ?_ | ((first | refine l_no rfl rfl rfl ?_ rfl ?_ | refine l_noN rfl rfl ?_ rfl ?_ | refine l_n (peval_sound rfl) rfl ?_ rfl ?_ | refine l_n (nl rfl rfl tc rfl) rfl ?_ rfl ?_ | refine l_ny rfl (peval_sound rfl) rfl ?_ rfl ?_ | refine l_ny rfl (nl rfl rfl tc rfl) rfl ?_ rfl ?_); · (first | exact Ent.refl _ | assumption | repeat' (first | exact Ent.refl _ | exact Ent.nil _ | refine Ent.tak .z ?_ | refine Ent.wk ?_))))
    cases h4 : decide (xs[i] = ys[i]) with
    | false =>
      have h4 := of_decide_eq_false h4
      repeat' (first | refine e_nil ?_ | ((first | refine e_op ?_ | refine e_yes rfl ?_); (first | refine o_n (peval_sound rfl) rfl ?_ | refine o_n (nl rfl rfl tc rfl) rfl ?_ | refine o_storeC rfl rfl rfl rfl tc uc rfl rfl rfl ?_ | refine o_box rfl rfl (fun _ => ?_) | refine o_box1 rfl rfl rfl (fun _ => ?_) | refine o_alloc rfl rfl (fun _ => ?_))) | refine e_noU rfl rfl rfl ?_ | refine e_noN rfl rfl ?_ | refine s_seq ?_ | refine s_region ?_ | refine s_block ?_ | refine s_end ?_ | refine s_skip ?_ | refine s_exit ?_ | refine s_true rfl ?_ | refine s_false rfl ?_ | refine x_hit ?_ | refine x_code ?_ | refine x_back ?_ | refine x_miss rfl ?_)
      refine s_ret ⟨_, _, res1 rfl rfl, ⟨?_, rfl⟩, Ent.nil _⟩
      rw [decide_eq_false (fun h => h4 (by simp only [h]))]
    | true =>
      have h4 := of_decide_eq_true h4
      repeat' (first | refine e_nil ?_ | ((first | refine e_op ?_ | refine e_yes rfl ?_); (first | refine o_n (peval_sound rfl) rfl ?_ | refine o_n (nl rfl rfl tc rfl) rfl ?_ | refine o_storeC rfl rfl rfl rfl tc uc rfl rfl rfl ?_ | refine o_box rfl rfl (fun _ => ?_) | refine o_box1 rfl rfl rfl (fun _ => ?_) | refine o_alloc rfl rfl (fun _ => ?_))) | refine e_noU rfl rfl rfl ?_ | refine e_noN rfl rfl ?_ | refine s_seq ?_ | refine s_region ?_ | refine s_block ?_ | refine s_end ?_ | refine s_skip ?_ | refine s_exit ?_ | refine s_true rfl ?_ | refine s_false rfl ?_ | refine x_hit ?_ | refine x_code ?_ | refine x_back ?_ | refine x_miss rfl ?_)
      refine s_back ⟨⟨i + 1, by omega, ?_⟩, by simp only; omega, ?_, Ent.nil _⟩
      · rw [List.take_succ_eq_append_getElem hlt, List.take_succ_eq_append_getElem (hlen ▸ hlt), ht, h4]
      · repeat' (first | exact Sub.nil _ | refine Sub.cons rfl ?_ | refine Sub.consE rfl ?_ ?_)
        exact inc (i := i) (by have := h1.2.1; omega)
  · have hlt : i = xs.length := by simp at h; omega
    repeat' (first | refine e_nil ?_ | ((first | refine e_op ?_ | refine e_yes rfl ?_); (first | refine o_n (peval_sound rfl) rfl ?_ | refine o_n (nl rfl rfl tc rfl) rfl ?_ | refine o_storeC rfl rfl rfl rfl tc uc rfl rfl rfl ?_ | refine o_box rfl rfl (fun _ => ?_) | refine o_box1 rfl rfl rfl (fun _ => ?_) | refine o_alloc rfl rfl (fun _ => ?_))) | refine e_noU rfl rfl rfl ?_ | refine e_noN rfl rfl ?_ | refine s_seq ?_ | refine s_region ?_ | refine s_block ?_ | refine s_end ?_ | refine s_skip ?_ | refine s_exit ?_ | refine s_true rfl ?_ | refine s_false rfl ?_ | refine x_hit ?_ | refine x_code ?_ | refine x_back ?_ | refine x_miss rfl ?_)
    refine s_ret ?_
    refine ⟨_, _, res1 rfl rfl, ⟨?_, rfl⟩, Ent.nil _⟩
    subst hlt
    rw [List.take_length, hlen, List.take_length] at ht
    simp [ht]

end Go.Proofs.YtcbaebkkdkdaaaaDoor

namespace Go.Proofs.YtcbaebkkdkdaaaaDoor
set_option linter.all false
open Go.Proofs.YtcbaebkkdkdaaaaDoor.E

theorem encX_len (l : List Itm) : (l.flatMap encX).length = l.length * 2 := by
  induction l with
  | nil => rfl
  | cons x l ih => rw [List.flatMap_cons, List.length_append, ih]; simp [encX]; omega

theorem encX_one (l : List Itm) : ∀ u ∈ l.flatMap encX, oneB u = true := by
  intro u hu
  obtain ⟨x, _, hx⟩ := List.mem_flatMap.1 hu
  unfold encX at hx
  simp only [List.mem_cons, List.not_mem_nil, or_false] at hx
  rcases hx with rfl | rfl <;> rfl

theorem encX_get : ∀ {l : List Itm} {i : Nat} (h : i < l.length), ((l.flatMap encX).drop (i * 2)).take 2 = encX l[i]
  | x :: l, 0, _ => by simp [encX]
  | x :: l, i + 1, h => by
    have h2 : i < l.length := by simpa using h
    rw [List.flatMap_cons, List.getElem_cons_succ, ← encX_get h2, show (i + 1) * 2 = 2 + i * 2 by omega, ← List.drop_drop]
    rfl

theorem encX_load {l : List Itm} {i : Nat} (h : i < l.length) {z : List Value} : loadL ⟨.struct [(0, 1), (1, 1)], 2, 16, z⟩ (l.flatMap encX) (0 + i * 2) = some (.agg (encX l[i]).toArray) := by
  unfold loadL
  simp only [aggB, cond_true]
  have : Nat.ble (0 + i * 2 + 2) (l.flatMap encX).length = true := by rw [encX_len]; exact Nat.ble_eq_true_of_le (by omega)
  rw [this, cond_true, Nat.zero_add, encX_get h]

theorem encX_take : ∀ {l : List Itm} {n : Nat}, (l.take n).flatMap encX = (l.flatMap encX).take (n * 2)
  | [], n => by simp
  | x :: l, 0 => by simp
  | x :: l, n + 1 => by
    rw [List.take_succ_cons, List.flatMap_cons, List.flatMap_cons, encX_take (l := l) (n := n), show (n + 1) * 2 = n * 2 + 2 by omega]
    rfl

theorem encX_drop : ∀ {l : List Itm} {n : Nat}, (l.drop n).flatMap encX = (l.flatMap encX).drop (n * 2)
  | [], n => by simp
  | x :: l, 0 => by simp
  | x :: l, n + 1 => by
    rw [List.drop_succ_cons, List.flatMap_cons, encX_drop (l := l) (n := n), show (n + 1) * 2 = n * 2 + 2 by omega]
    rfl

attribute [local irreducible] EVX EVO EVL EV1 NEV
attribute [local irreducible] own osl exA rdA rdL
set_option maxRecDepth 10000
set_option maxHeartbeats 4000000

theorem with_w (A : Option Addr) (c : Nat) (l : List Itm) (x : Itm) (hsz : l.length ≤ 100000) : Trip Tryd.prog 75 [.slice A l.length c, .agg (encX x).toArray] Rd.tt [pX A l.length c l]
    (fun v V => ∃ (A' : Option Addr) (c' : Nat), v = .slice A' (withI l x).length c' ∧ V = [pX A' (withI l x).length c' (withI l x)]) := by
  refine trip Tryd.tabOk Tryd.func75 rfl rfl rfl rfl ?_
  rintro w SM hW
  clear hW
  repeat' (first | refine e_nil ?_ | ((first | refine e_op ?_ | refine e_yes rfl ?_); (first | refine o_n (peval_sound rfl) rfl ?_ | refine o_n (nl rfl rfl tc rfl) rfl ?_ | refine o_storeC rfl rfl rfl rfl tc uc rfl rfl rfl ?_ | refine o_box rfl rfl (fun _ => ?_) | refine o_box1 rfl rfl rfl (fun _ => ?_) | refine o_alloc rfl rfl (fun _ => ?_))) | refine e_noU rfl rfl rfl ?_ | refine e_noN rfl rfl ?_ | refine s_seq ?_ | refine s_region ?_ | refine s_end ?_ | refine s_skip ?_ | refine s_exit ?_ | refine s_true rfl ?_ | refine s_false rfl ?_ | refine x_hit ?_ | refine x_code ?_ | refine x_back ?_ | refine x_miss rfl ?_)
  rename_i b3
  refine s_blockJ (ι := {n : Nat // n ≤ l.length ∧ (∀ i (h : i < l.length), i < n → ltI l[i] x = true) ∧ (∀ h : n < l.length, ltI l[n] x = false)}) (fun n => [(5, .int .i64 n.1), (0, .slice A l.length c), (3, .pointer (some ⟨b3, 0, none⟩))]) (fun _ => [blk b3 42 (encX x), pX A l.length c l]) (fun hfin => ?_) ?_
  · refine s_loopK (ι := {n : Nat // n ≤ l.length ∧ (∀ i (h : i < l.length), i < n → ltI l[i] x = true)}) [0, 3] rfl ⟨0, by omega, fun i _ h => absurd h (Nat.not_lt_zero _)⟩ (fun n => [(5, .int .i64 n.1)]) (fun _ => [blk b3 42 (encX x), pX A l.length c l]) (fun n => l.length - n.1) ?_ (Ent.refl _) ?_
    · repeat' (first | exact Sub.nil _ | refine Sub.cons rfl ?_ | refine Sub.consE rfl ?_ ?_)
    rintro ⟨n, hn, hlt⟩
    simp only at hn hlt ⊢
    repeat' (first | refine e_nil ?_ | ((first | refine e_op ?_ | refine e_yes rfl ?_); (first | refine o_n (peval_sound rfl) rfl ?_ | refine o_n (nl rfl rfl tc rfl) rfl ?_ | refine o_storeC rfl rfl rfl rfl tc uc rfl rfl rfl ?_ | refine o_box rfl rfl (fun _ => ?_) | refine o_box1 rfl rfl rfl (fun _ => ?_) | refine o_alloc rfl rfl (fun _ => ?_))) | refine e_noU rfl rfl rfl ?_ | refine e_noN rfl rfl ?_ | refine s_seq ?_ | refine s_region ?_ | refine s_end ?_ | refine s_skip ?_ | refine s_exit ?_ | refine s_true rfl ?_ | refine s_false rfl ?_ | refine x_code ?_ | refine x_back ?_ | refine x_miss rfl ?_)
    by_cases hnl : n < l.length
    · have hd : decide ((n : Int) < (l.length : Int)) = true := decide_eq_true (by omega)
      refine s_open (.s .z) (by omega) ?_
      rintro bl rfl
      refine s_drawU [10] Tryd.mixed (by decide +kernel) ?_
      repeat' (first | refine l_nil ?_ | ((first | refine l_no rfl rfl rfl ?_ rfl ?_ | refine l_noN rfl rfl ?_ rfl ?_ | refine l_n (peval_sound rfl) rfl ?_ rfl ?_ | refine l_n (nl rfl rfl tc rfl) rfl ?_ rfl ?_ | refine l_ny rfl (peval_sound rfl) rfl ?_ rfl ?_ | refine l_ny rfl (nl rfl rfl tc rfl) rfl ?_ rfl ?_); · (first | exact Ent.refl _ | assumption | repeat' (first | exact Ent.refl _ | exact Ent.nil _ | refine Ent.tak .z ?_ | refine Ent.wk ?_))))
      rw [hd]
      repeat' (first | refine l_nil ?_ | ((first | refine l_no rfl rfl rfl ?_ rfl ?_ | refine l_noN rfl rfl ?_ rfl ?_ | refine l_n (peval_sound rfl) rfl ?_ rfl ?_ | refine l_n (nl rfl rfl tc rfl) rfl ?_ rfl ?_ | refine l_ny rfl (peval_sound rfl) rfl ?_ rfl ?_ | refine l_ny rfl (nl rfl rfl tc rfl) rfl ?_ rfl ?_); · (first | exact Ent.refl _ | assumption | repeat' (first | exact Ent.refl _ | exact Ent.nil _ | refine Ent.tak .z ?_ | refine Ent.wk ?_))))
      refine l_ny rfl (n_index rfl rfl rfl rfl n rfl hnl) rfl (Ent.refl _) rfl ?_
      refine l_ny rfl (n_load_osl rfl rfl (.s .z) (encX_load hnl)) rfl (Ent.refl _) rfl ?_
      repeat' (first | refine l_nil ?_ | ((first | refine l_no rfl rfl rfl ?_ rfl ?_ | refine l_noN rfl rfl ?_ rfl ?_ | refine l_n (peval_sound rfl) rfl ?_ rfl ?_ | refine l_n (nl rfl rfl tc rfl) rfl ?_ rfl ?_ | refine l_ny rfl (peval_sound rfl) rfl ?_ rfl ?_ | refine l_ny rfl (nl rfl rfl tc rfl) rfl ?_ rfl ?_); · (first | exact Ent.refl _ | assumption | repeat' (first | exact Ent.refl _ | exact Ent.nil _ | refine Ent.tak .z ?_ | refine Ent.wk ?_))))
      refine l_ey rfl rfl (o_call (less_w l[n] x) rfl .nil Can.tt rfl ?_)
      rintro v V ⟨rfl, rfl⟩
      refine ⟨Ent.refl _, ?_⟩
      simp only [List.nil_append]
      repeat' (first | refine l_nil ?_ | ((first | refine l_no rfl rfl rfl ?_ rfl ?_ | refine l_noN rfl rfl ?_ rfl ?_ | refine l_n (peval_sound rfl) rfl ?_ rfl ?_ | refine l_n (nl rfl rfl tc rfl) rfl ?_ rfl ?_ | refine l_ny rfl (peval_sound rfl) rfl ?_ rfl ?_ | refine l_ny rfl (nl rfl rfl tc rfl) rfl ?_ rfl ?_); · (first | exact Ent.refl _ | assumption | repeat' (first | exact Ent.refl _ | exact Ent.nil _ | refine Ent.tak .z ?_ | refine Ent.wk ?_))))
      refine s_cond rfl (fun h => ?_) (fun h => ?_)
      · repeat' (first | refine e_nil ?_ | ((first | refine e_op ?_ | refine e_yes rfl ?_); (first | refine o_n (peval_sound rfl) rfl ?_ | refine o_n (nl rfl rfl tc rfl) rfl ?_ | refine o_storeC rfl rfl rfl rfl tc uc rfl rfl rfl ?_ | refine o_box rfl rfl (fun _ => ?_) | refine o_box1 rfl rfl rfl (fun _ => ?_) | refine o_alloc rfl rfl (fun _ => ?_))) | refine e_noU rfl rfl rfl ?_ | refine e_noN rfl rfl ?_ | refine s_seq ?_ | refine s_region ?_ | refine s_block ?_ | refine s_end ?_ | refine s_skip ?_ | refine s_exit ?_ | refine s_true rfl ?_ | refine s_false rfl ?_ | refine x_hit ?_ | refine x_code ?_ | refine x_back ?_ | refine x_miss rfl ?_)
        refine s_back ⟨⟨n + 1, by omega, fun i hi hin => ?_⟩, by simp only; omega, ?_, Ent.refl _⟩
        · by_cases e : i = n
          · subst e; exact h
          · exact hlt i hi (by omega)
        · repeat' (first | exact Sub.nil _ | refine Sub.cons rfl ?_ | refine Sub.consE rfl ?_ ?_)
          exact inc (i := n) (by omega)
      · repeat' (first | refine e_nil ?_ | ((first | refine e_op ?_ | refine e_yes rfl ?_); (first | refine o_n (peval_sound rfl) rfl ?_ | refine o_n (nl rfl rfl tc rfl) rfl ?_ | refine o_storeC rfl rfl rfl rfl tc uc rfl rfl rfl ?_ | refine o_box rfl rfl (fun _ => ?_) | refine o_box1 rfl rfl rfl (fun _ => ?_) | refine o_alloc rfl rfl (fun _ => ?_))) | refine e_noU rfl rfl rfl ?_ | refine e_noN rfl rfl ?_ | refine s_seq ?_ | refine s_region ?_ | refine s_end ?_ | refine s_skip ?_ | refine s_exit ?_ | refine s_true rfl ?_ | refine s_false rfl ?_ | refine x_code ?_ | refine x_back ?_ | refine x_miss rfl ?_)
        refine x_hit (s_weak ?_ (Ent.refl _) (hfin ⟨n, hn, hlt, fun _ => h⟩))
        repeat' (first | exact Sub.nil _ | refine Sub.cons rfl ?_ | refine Sub.consE rfl ?_ ?_)
    · have hd : decide ((n : Int) < (l.length : Int)) = false := decide_eq_false (by omega)
      refine s_drawU [] Tryd.mixed (by decide +kernel) ?_
      repeat' (first | refine l_nil ?_ | ((first | refine l_no rfl rfl rfl ?_ rfl ?_ | refine l_noN rfl rfl ?_ rfl ?_ | refine l_n (peval_sound rfl) rfl ?_ rfl ?_ | refine l_n (nl rfl rfl tc rfl) rfl ?_ rfl ?_ | refine l_ny rfl (peval_sound rfl) rfl ?_ rfl ?_ | refine l_ny rfl (nl rfl rfl tc rfl) rfl ?_ rfl ?_); · (first | exact Ent.refl _ | assumption | repeat' (first | exact Ent.refl _ | exact Ent.nil _ | refine Ent.tak .z ?_ | refine Ent.wk ?_))))
      rw [hd]
      repeat' (first | refine l_nil ?_ | ((first | refine l_no rfl rfl rfl ?_ rfl ?_ | refine l_noN rfl rfl ?_ rfl ?_ | refine l_n (peval_sound rfl) rfl ?_ rfl ?_ | refine l_n (nl rfl rfl tc rfl) rfl ?_ rfl ?_ | refine l_ny rfl (peval_sound rfl) rfl ?_ rfl ?_ | refine l_ny rfl (nl rfl rfl tc rfl) rfl ?_ rfl ?_); · (first | exact Ent.refl _ | assumption | repeat' (first | exact Ent.refl _ | exact Ent.nil _ | refine Ent.tak .z ?_ | refine Ent.wk ?_))))
      repeat' (first | refine e_nil ?_ | ((first | refine e_op ?_ | refine e_yes rfl ?_); (first | refine o_n (peval_sound rfl) rfl ?_ | refine o_n (nl rfl rfl tc rfl) rfl ?_ | refine o_storeC rfl rfl rfl rfl tc uc rfl rfl rfl ?_ | refine o_box rfl rfl (fun _ => ?_) | refine o_box1 rfl rfl rfl (fun _ => ?_) | refine o_alloc rfl rfl (fun _ => ?_))) | refine e_noU rfl rfl rfl ?_ | refine e_noN rfl rfl ?_ | refine s_seq ?_ | refine s_region ?_ | refine s_end ?_ | refine s_skip ?_ | refine s_exit ?_ | refine s_true rfl ?_ | refine s_false rfl ?_ | refine x_code ?_ | refine x_back ?_ | refine x_miss rfl ?_)
      refine x_hit (s_weak ?_ (Ent.refl _) (hfin ⟨n, hn, hlt, fun h => absurd h hnl⟩))
      repeat' (first | exact Sub.nil _ | refine Sub.cons rfl ?_ | refine Sub.consE rfl ?_ ?_)
  · rintro ⟨n, hn, hlt, hge⟩
    simp only
    have hw := withI_at (l := l) (x := x) hn hlt hge
    have hfin : ∀ (hne : l[n]? ≠ some x), withI l x = l.take n ++ x :: l.drop n := fun hne => by rw [hw, if_neg hne]
    have hlen : ∀ (hne : l[n]? ≠ some x), (withI l x).length = n + 1 + (l.length - n) := fun hne => by rw [hfin hne, List.length_append, List.length_cons, List.length_take, List.length_drop]; omega
    repeat' (first | refine e_nil ?_ | ((first | refine e_op ?_ | refine e_yes rfl ?_); (first | refine o_n (peval_sound rfl) rfl ?_ | refine o_n (nl rfl rfl tc rfl) rfl ?_ | refine o_storeC rfl rfl rfl rfl tc uc rfl rfl rfl ?_ | refine o_box rfl rfl (fun _ => ?_) | refine o_box1 rfl rfl rfl (fun _ => ?_) | refine o_alloc rfl rfl (fun _ => ?_))) | refine e_noU rfl rfl rfl ?_ | refine e_noN rfl rfl ?_ | refine s_seq ?_ | refine s_region ?_ | refine s_block ?_ | refine s_end ?_ | refine s_skip ?_ | refine s_exit ?_ | refine s_true rfl ?_ | refine s_false rfl ?_ | refine x_hit ?_ | refine x_code ?_ | refine x_back ?_ | refine x_miss rfl ?_)
    refine s_join (ι := PLift (l[n]? ≠ some x)) (fun _ => [(32, .bool false), (5, .int .i64 n), (0, .slice A l.length c), (3, .pointer (some ⟨b3, 0, none⟩))]) (fun _ => [blk b3 42 (encX x), pX A l.length c l]) (fun hj => ?_) ?_
    · by_cases hnl : n < l.length
      · have hd : decide ((n : Int) < (l.length : Int)) = true := decide_eq_true (by omega)
        refine s_open (.s .z) (by omega) ?_
        rintro bl rfl
        refine s_drawU [] Tryd.mixed (by decide +kernel) ?_
        repeat' (first | refine l_nil ?_ | ((first | refine l_no rfl rfl rfl ?_ rfl ?_ | refine l_noN rfl rfl ?_ rfl ?_ | refine l_n (peval_sound rfl) rfl ?_ rfl ?_ | refine l_n (nl rfl rfl tc rfl) rfl ?_ rfl ?_ | refine l_ny rfl (peval_sound rfl) rfl ?_ rfl ?_ | refine l_ny rfl (nl rfl rfl tc rfl) rfl ?_ rfl ?_); · (first | exact Ent.refl _ | assumption | repeat' (first | exact Ent.refl _ | exact Ent.nil _ | refine Ent.tak .z ?_ | refine Ent.wk ?_))))
        rw [hd]
        repeat' (first | refine l_nil ?_ | ((first | refine l_no rfl rfl rfl ?_ rfl ?_ | refine l_noN rfl rfl ?_ rfl ?_ | refine l_n (peval_sound rfl) rfl ?_ rfl ?_ | refine l_n (nl rfl rfl tc rfl) rfl ?_ rfl ?_ | refine l_ny rfl (peval_sound rfl) rfl ?_ rfl ?_ | refine l_ny rfl (nl rfl rfl tc rfl) rfl ?_ rfl ?_); · (first | exact Ent.refl _ | assumption | repeat' (first | exact Ent.refl _ | exact Ent.nil _ | refine Ent.tak .z ?_ | refine Ent.wk ?_))))
        refine l_ny rfl (n_index rfl rfl rfl rfl n rfl hnl) rfl (Ent.refl _) rfl ?_
        refine l_ny rfl (n_load_osl rfl rfl (.s .z) (encX_load hnl)) rfl (Ent.refl _) rfl ?_
        repeat' (first | refine l_nil ?_ | ((first | refine l_no rfl rfl rfl ?_ rfl ?_ | refine l_noN rfl rfl ?_ rfl ?_ | refine l_n (peval_sound rfl) rfl ?_ rfl ?_ | refine l_n (nl rfl rfl tc rfl) rfl ?_ rfl ?_ | refine l_ny rfl (peval_sound rfl) rfl ?_ rfl ?_ | refine l_ny rfl (nl rfl rfl tc rfl) rfl ?_ rfl ?_); · (first | exact Ent.refl _ | assumption | repeat' (first | exact Ent.refl _ | exact Ent.nil _ | refine Ent.tak .z ?_ | refine Ent.wk ?_))))
        refine l_ny rfl (n_eql42 rfl rfl) rfl (Ent.refl _) rfl ?_
        repeat' (first | refine l_nil ?_ | ((first | refine l_no rfl rfl rfl ?_ rfl ?_ | refine l_noN rfl rfl ?_ rfl ?_ | refine l_n (peval_sound rfl) rfl ?_ rfl ?_ | refine l_n (nl rfl rfl tc rfl) rfl ?_ rfl ?_ | refine l_ny rfl (peval_sound rfl) rfl ?_ rfl ?_ | refine l_ny rfl (nl rfl rfl tc rfl) rfl ?_ rfl ?_); · (first | exact Ent.refl _ | assumption | repeat' (first | exact Ent.refl _ | exact Ent.nil _ | refine Ent.tak .z ?_ | refine Ent.wk ?_))))
        cases he : decide (l[n] = x) with
        | true =>
          have he := of_decide_eq_true he
          have hw2 : withI l x = l := by rw [hw, if_pos (by rw [List.getElem?_eq_getElem hnl, he])]
          repeat' (first | refine e_nil ?_ | ((first | refine e_op ?_ | refine e_yes rfl ?_); (first | refine o_n (peval_sound rfl) rfl ?_ | refine o_n (nl rfl rfl tc rfl) rfl ?_ | refine o_storeC rfl rfl rfl rfl tc uc rfl rfl rfl ?_ | refine o_box rfl rfl (fun _ => ?_) | refine o_box1 rfl rfl rfl (fun _ => ?_) | refine o_alloc rfl rfl (fun _ => ?_))) | refine e_noU rfl rfl rfl ?_ | refine e_noN rfl rfl ?_ | refine s_seq ?_ | refine s_region ?_ | refine s_block ?_ | refine s_end ?_ | refine s_skip ?_ | refine s_exit ?_ | refine s_true rfl ?_ | refine s_false rfl ?_ | refine x_hit ?_ | refine x_code ?_ | refine x_back ?_ | refine x_miss rfl ?_)
          refine s_ret ⟨_, _, res1 rfl rfl, ⟨some ⟨bl, 0, none⟩, c, by rw [hw2], rfl⟩, ?_⟩
          rw [hw2]
          exact Ent.wk (Ent.refl _)
        | false =>
          have he := of_decide_eq_false he
          have hne : l[n]? ≠ some x := by rw [List.getElem?_eq_getElem hnl]; exact fun h => he (Option.some.inj h)
          repeat' (first | refine l_nil ?_ | ((first | refine l_no rfl rfl rfl ?_ rfl ?_ | refine l_noN rfl rfl ?_ rfl ?_ | refine l_n (peval_sound rfl) rfl ?_ rfl ?_ | refine l_n (nl rfl rfl tc rfl) rfl ?_ rfl ?_ | refine l_ny rfl (peval_sound rfl) rfl ?_ rfl ?_ | refine l_ny rfl (nl rfl rfl tc rfl) rfl ?_ rfl ?_); · (first | exact Ent.refl _ | assumption | repeat' (first | exact Ent.refl _ | exact Ent.nil _ | refine Ent.tak .z ?_ | refine Ent.wk ?_))))
          refine s_weak ?_ (Ent.refl _) (hj ⟨hne⟩)
          repeat' (first | exact Sub.nil _ | refine Sub.cons rfl ?_ | refine Sub.consE rfl ?_ ?_)
      · have hd : decide ((n : Int) < (l.length : Int)) = false := decide_eq_false (by omega)
        have hne : l[n]? ≠ some x := by rw [List.getElem?_eq_none (by omega)]; simp
        refine s_drawU [] Tryd.mixed (by decide +kernel) ?_
        repeat' (first | refine l_nil ?_ | ((first | refine l_no rfl rfl rfl ?_ rfl ?_ | refine l_noN rfl rfl ?_ rfl ?_ | refine l_n (peval_sound rfl) rfl ?_ rfl ?_ | refine l_n (nl rfl rfl tc rfl) rfl ?_ rfl ?_ | refine l_ny rfl (peval_sound rfl) rfl ?_ rfl ?_ | refine l_ny rfl (nl rfl rfl tc rfl) rfl ?_ rfl ?_); · (first | exact Ent.refl _ | assumption | repeat' (first | exact Ent.refl _ | exact Ent.nil _ | refine Ent.tak .z ?_ | refine Ent.wk ?_))))
        rw [hd]
        repeat' (first | refine l_nil ?_ | ((first | refine l_no rfl rfl rfl ?_ rfl ?_ | refine l_noN rfl rfl ?_ rfl ?_ | refine l_n (peval_sound rfl) rfl ?_ rfl ?_ | refine l_n (nl rfl rfl tc rfl) rfl ?_ rfl ?_ | refine l_ny rfl (peval_sound rfl) rfl ?_ rfl ?_ | refine l_ny rfl (nl rfl rfl tc rfl) rfl ?_ rfl ?_); · (first | exact Ent.refl _ | assumption | repeat' (first | exact Ent.refl _ | exact Ent.nil _ | refine Ent.tak .z ?_ | refine Ent.wk ?_))))
        refine s_weak ?_ (Ent.refl _) (hj ⟨hne⟩)
        repeat' (first | exact Sub.nil _ | refine Sub.cons rfl ?_ | refine Sub.consE rfl ?_ ?_)

    · rintro ⟨hne⟩
      have hwl := hfin hne
      have hll := hlen hne
      refine s_cap (.s .z) (fun hc => ?_)
      refine s_openP (.s .z) (fun hA => ?_)
      repeat' (first | refine e_nil ?_ | ((first | refine e_op ?_ | refine e_yes rfl ?_); (first | refine o_n (peval_sound rfl) rfl ?_ | refine o_n (nl rfl rfl tc rfl) rfl ?_ | refine o_storeC rfl rfl rfl rfl tc uc rfl rfl rfl ?_ | refine o_box rfl rfl (fun _ => ?_) | refine o_box1 rfl rfl rfl (fun _ => ?_) | refine o_alloc rfl rfl (fun _ => ?_))) | refine e_noU rfl rfl rfl ?_ | refine e_noN rfl rfl ?_ | refine s_seq ?_ | refine s_region ?_ | refine s_block ?_ | refine s_end ?_ | refine s_skip ?_ | refine s_exit ?_ | refine s_true rfl ?_ | refine s_false rfl ?_ | refine x_hit ?_ | refine x_code ?_ | refine x_back ?_ | refine x_miss rfl ?_)
      refine e_op (o_n (n_headV n rfl rfl rfl rfl rfl (by omega)) rfl ?_)
      repeat' (first | refine e_nil ?_ | ((first | refine e_op ?_ | refine e_yes rfl ?_); (first | refine o_n (peval_sound rfl) rfl ?_ | refine o_n (nl rfl rfl tc rfl) rfl ?_ | refine o_storeC rfl rfl rfl rfl tc uc rfl rfl rfl ?_ | refine o_box rfl rfl (fun _ => ?_) | refine o_box1 rfl rfl rfl (fun _ => ?_) | refine o_alloc rfl rfl (fun _ => ?_))) | refine e_noU rfl rfl rfl ?_ | refine e_noN rfl rfl ?_ | refine s_seq ?_ | refine s_region ?_ | refine s_block ?_ | refine s_end ?_ | refine s_skip ?_ | refine s_exit ?_ | refine s_true rfl ?_ | refine s_false rfl ?_ | refine x_hit ?_ | refine x_code ?_ | refine x_back ?_ | refine x_miss rfl ?_)
      refine e_ent (Ent.osl0 (e := 42) (sz := 2) (Ent.refl _)) ?_
      refine e_op (o_appendS (xs := []) (ys := (l.take n).flatMap encX) _ rfl rfl rfl rfl (by rw [encX_len, List.length_take, Nat.min_eq_left hn]) (fun h0 => ?_) (encX_one _) rfl (by simp only; omega) (by omega) rfl (fun A' c' => .z) (fun A1 c1 => ?_))
      · obtain ⟨b, rfl⟩ := hA (by omega)
        refine ⟨b, 0, rfl, fun w hm j u hu => ?_⟩
        obtain ⟨S1, hP, _⟩ := hm.tak (.s (.s .z))
        rw [Nat.zero_add]
        refine osl_cells hP j u ?_
        rw [← hu, encX_take, List.getElem?_take_of_lt]
        have := (List.getElem?_eq_some_iff.1 hu).1
        rw [encX_len, List.length_take, Nat.min_eq_left hn] at this
        omega
      simp only [List.nil_append, Nat.zero_add]
      repeat' (first | refine e_nil ?_ | ((first | refine e_op ?_ | refine e_yes rfl ?_); (first | refine o_n (peval_sound rfl) rfl ?_ | refine o_n (nl rfl rfl tc rfl) rfl ?_ | refine o_storeC rfl rfl rfl rfl tc uc rfl rfl rfl ?_ | refine o_box rfl rfl (fun _ => ?_) | refine o_box1 rfl rfl rfl (fun _ => ?_) | refine o_alloc rfl rfl (fun _ => ?_))) | refine e_noU rfl rfl rfl ?_ | refine e_noN rfl rfl ?_ | refine s_seq ?_ | refine s_region ?_ | refine s_block ?_ | refine s_end ?_ | refine s_skip ?_ | refine s_exit ?_ | refine s_true rfl ?_ | refine s_false rfl ?_ | refine x_hit ?_ | refine x_code ?_ | refine x_back ?_ | refine x_miss rfl ?_)
      refine e_op (o_lit (cs := encX x) rfl rfl rfl rfl rfl rfl rfl (fun b4 => ?_))
      repeat' (first | refine e_nil ?_ | ((first | refine e_op ?_ | refine e_yes rfl ?_); (first | refine o_n (peval_sound rfl) rfl ?_ | refine o_n (nl rfl rfl tc rfl) rfl ?_ | refine o_storeC rfl rfl rfl rfl tc uc rfl rfl rfl ?_ | refine o_box rfl rfl (fun _ => ?_) | refine o_box1 rfl rfl rfl (fun _ => ?_) | refine o_alloc rfl rfl (fun _ => ?_))) | refine e_noU rfl rfl rfl ?_ | refine e_noN rfl rfl ?_ | refine s_seq ?_ | refine s_region ?_ | refine s_block ?_ | refine s_end ?_ | refine s_skip ?_ | refine s_exit ?_ | refine s_true rfl ?_ | refine s_false rfl ?_ | refine x_hit ?_ | refine x_code ?_ | refine x_back ?_ | refine x_miss rfl ?_)
      refine e_op (o_append (v := .slice A1 n c1) (n := n) (m := 1) (xs := (l.take n).flatMap encX) (news := encX x) _ rfl rfl rfl rfl (fun w hm j u hu => ?_) rfl ?_ rfl (by omega) (by simp only; omega) (by omega) rfl (fun b c => .s .z) (fun ba ca => ?_))
      · obtain ⟨S1, hP, _⟩ := hm.tak .z
        rw [Nat.zero_add]
        exact osl_cells hP j u hu
      · simp [encX, oneB]
      repeat' (first | refine e_nil ?_ | ((first | refine e_op ?_ | refine e_yes rfl ?_); (first | refine o_n (peval_sound rfl) rfl ?_ | refine o_n (nl rfl rfl tc rfl) rfl ?_ | refine o_storeC rfl rfl rfl rfl tc uc rfl rfl rfl ?_ | refine o_box rfl rfl (fun _ => ?_) | refine o_box1 rfl rfl rfl (fun _ => ?_) | refine o_alloc rfl rfl (fun _ => ?_))) | refine e_noU rfl rfl rfl ?_ | refine e_noN rfl rfl ?_ | refine s_seq ?_ | refine s_region ?_ | refine s_block ?_ | refine s_end ?_ | refine s_skip ?_ | refine s_exit ?_ | refine s_true rfl ?_ | refine s_false rfl ?_ | refine x_hit ?_ | refine x_code ?_ | refine x_back ?_ | refine x_miss rfl ?_)
      refine e_op (o_n (n_fromV n rfl rfl rfl rfl rfl hn) rfl ?_)
      repeat' (first | refine e_nil ?_ | ((first | refine e_op ?_ | refine e_yes rfl ?_); (first | refine o_n (peval_sound rfl) rfl ?_ | refine o_n (nl rfl rfl tc rfl) rfl ?_ | refine o_storeC rfl rfl rfl rfl tc uc rfl rfl rfl ?_ | refine o_box rfl rfl (fun _ => ?_) | refine o_box1 rfl rfl rfl (fun _ => ?_) | refine o_alloc rfl rfl (fun _ => ?_))) | refine e_noU rfl rfl rfl ?_ | refine e_noN rfl rfl ?_ | refine s_seq ?_ | refine s_region ?_ | refine s_block ?_ | refine s_end ?_ | refine s_skip ?_ | refine s_exit ?_ | refine s_true rfl ?_ | refine s_false rfl ?_ | refine x_hit ?_ | refine x_code ?_ | refine x_back ?_ | refine x_miss rfl ?_)
      refine e_op (o_appendS (n := n + 1) (xs := (l.take n).flatMap encX ++ encX x) (ys := (l.drop n).flatMap encX) _ rfl rfl rfl rfl (by rw [encX_len, List.length_drop]) (fun h0 => ?_) (encX_one _) rfl (by simp only; omega) (by omega) rfl (fun A' c' => .s .z) (fun A5 c5 => ?_))
      · obtain ⟨b, rfl⟩ := hA (by omega)
        refine ⟨b, n * 2, by rw [if_neg (by omega)]; simp only [Option.map_some, Addr.add, Nat.zero_add]; by_cases h2 : n * 2 = 0 <;> simp [h2], fun w hm j u hu => ?_⟩
        obtain ⟨S1, hP, _⟩ := hm.tak (.s (.s (.s .z)))
        refine osl_cells hP (n * 2 + j) u ?_
        rw [← hu, encX_drop, List.getElem?_drop]
      repeat' (first | refine e_nil ?_ | ((first | refine e_op ?_ | refine e_yes rfl ?_); (first | refine o_n (peval_sound rfl) rfl ?_ | refine o_n (nl rfl rfl tc rfl) rfl ?_ | refine o_storeC rfl rfl rfl rfl tc uc rfl rfl rfl ?_ | refine o_box rfl rfl (fun _ => ?_) | refine o_box1 rfl rfl rfl (fun _ => ?_) | refine o_alloc rfl rfl (fun _ => ?_))) | refine e_noU rfl rfl rfl ?_ | refine e_noN rfl rfl ?_ | refine s_seq ?_ | refine s_region ?_ | refine s_block ?_ | refine s_end ?_ | refine s_skip ?_ | refine s_exit ?_ | refine s_true rfl ?_ | refine s_false rfl ?_ | refine x_hit ?_ | refine x_code ?_ | refine x_back ?_ | refine x_miss rfl ?_)
      refine s_ret ⟨_, _, res1 rfl rfl, ⟨A5, c5, by rw [hll], rfl⟩, ?_⟩
      have h5 : ((l.take n) ++ x :: l.drop n).flatMap encX = (l.take n).flatMap encX ++ encX x ++ (l.drop n).flatMap encX := by rw [List.flatMap_append, List.flatMap_cons, ← List.append_assoc]
      rw [hll, hwl]
      unfold pX
      rw [h5]
      exact Ent.wk (Ent.tak .z (Ent.nil _))

end Go.Proofs.YtcbaebkkdkdaaaaDoor

namespace Go.Proofs.YtcbaebkkdkdaaaaDoor
set_option linter.all false
open Go.Proofs.YtcbaebkkdkdaaaaDoor.E

theorem encX_at {l : List Itm} {j : Nat} {u : Value} (hu : (l.flatMap encX)[j]? = some u) : ∃ h : j / 2 < l.length, (encX l[j / 2])[j % 2]? = some u := by
  have hj : j < (l.flatMap encX).length := (List.getElem?_eq_some_iff.1 hu).1
  rw [encX_len] at hj
  have h : j / 2 < l.length := by omega
  refine ⟨h, ?_⟩
  rw [← encX_get h, List.getElem?_take_of_lt (by omega), List.getElem?_drop, show j / 2 * 2 + j % 2 = j by omega, hu]

theorem ro_items {E0 : Go.Proofs.YtcbaebkkdkdaaaaDoor.E.Env} {U : List Asn} {A : Option Addr} {xs : List Itm} (h : Els kItm E0.w0 E0.ro A xs) (hm : 0 < xs.length) : ∃ g2 o2, A = some ⟨g2, o2, none⟩ ∧ ∀ w, Go.Proofs.YtcbaebkkdkdaaaaDoor.E.Mem E0 U w → ∀ j u, (xs.flatMap encX)[j]? = some u → w.cell? ⟨g2, o2 + j, none⟩ = some u := by
  obtain ⟨b, o, es, hA, hb, _, _⟩ := h 0 hm
  refine ⟨b, o, hA, fun w hw j u hu => ?_⟩
  obtain ⟨hj, h2⟩ := encX_at hu
  obtain ⟨b', o', es', hA', hb', hx, hc⟩ := h (j / 2) hj
  obtain ⟨rfl, _, _⟩ := kItm_open hx
  rw [hA] at hA'
  simp only [Option.some.injEq, Addr.mk.injEq, and_true] at hA'
  obtain ⟨rfl, rfl⟩ := hA'
  have h0 := hc (j % 2) _ h2
  have e2 : kItm.sz = 2 := rfl
  rw [e2, show o + j / 2 * 2 + j % 2 = o + j by omega] at h0
  rw [cell_block (hw.same b hb)]
  exact h0

theorem n_eqlNil43 {w0 : World} {SM : BSet} {n : Nat} {fr : Frm} {U : List Asn} {x : Operand} {A : Option Addr} {m c : Nat} {t2 : TypeId} (hx : val fr x = some (.slice A m c)) :
    NEV ⟨Tryd.prog, Tryd.tab, Tryd.tabOk, n, w0, SM⟩ (.binOp .eql 43 x (.const (.slice none 0 0)) t2) fr U (.bool A.isNone) := by
  intro ac w dst ty pos af g hf _
  have hu : Tryd.prog.underlying 43 = some (.slice 42) := by kernel_rfl
  have he : (Op.equal 43 (.slice A m c) (.slice none 0 0)).run Tryd.prog w = .ok A.isNone w := run_equal_slice_nil (P := Tryd.prog) w 43 42 A m c hu
  have hg : Tryd.prog.eqGuardType Tryd.prog.depth 43 = false := by kernel_rfl
  have hc : ac.eval (.const (.slice none 0 0)) = .slice none 0 0 := rfl
  unfold execOp
  simp only [hf.eval hx, hc]
  simp [eqGuard, hg, binOp, he]

attribute [local irreducible] EVX EVO EVL EV1 NEV
attribute [local irreducible] own osl exA rdA rdL
set_option maxRecDepth 10000
set_option maxHeartbeats 4000000

theorem clone_w (A : Option Addr) (c : Nat) (l : List Itm) (hsz : l.length ≤ 100000) :
    Trip Tryd.prog 69 [.slice A l.length c] ((kslice 16 kItm).rd [.slice A l.length c] l) []
      (fun v V => ∃ (A' : Option Addr) (c' : Nat), v = .slice A' l.length c' ∧ V = [pX A' l.length c' l]) := by
  refine trip Tryd.tabOk Tryd.func69 rfl rfl rfl rfl ?_
  rintro w SM ⟨A', c', e1, h1⟩
  cases e1
  repeat' (first | refine e_nil ?_ | ((first | refine e_op ?_ | refine e_yes rfl ?_); (first | refine o_n (peval_sound rfl) rfl ?_ | refine o_n (nl rfl rfl tc rfl) rfl ?_ | refine o_storeC rfl rfl rfl rfl tc uc rfl rfl rfl ?_ | refine o_box rfl rfl (fun _ => ?_) | refine o_box1 rfl rfl rfl (fun _ => ?_) | refine o_alloc rfl rfl (fun _ => ?_))) | refine e_noU rfl rfl rfl ?_ | refine e_noN rfl rfl ?_ | refine s_seq ?_ | refine s_region ?_ | refine s_block ?_ | refine s_end ?_ | refine s_skip ?_ | refine s_exit ?_ | refine s_true rfl ?_ | refine s_false rfl ?_ | refine x_hit ?_ | refine x_code ?_ | refine x_back ?_ | refine x_miss rfl ?_)
  refine e_op (o_n (n_eqlNil43 rfl) rfl ?_)
  repeat' (first | refine e_nil ?_ | ((first | refine e_op ?_ | refine e_yes rfl ?_); (first | refine o_n (peval_sound rfl) rfl ?_ | refine o_n (nl rfl rfl tc rfl) rfl ?_ | refine o_storeC rfl rfl rfl rfl tc uc rfl rfl rfl ?_ | refine o_box rfl rfl (fun _ => ?_) | refine o_box1 rfl rfl rfl (fun _ => ?_) | refine o_alloc rfl rfl (fun _ => ?_))) | refine e_noU rfl rfl rfl ?_ | refine e_noN rfl rfl ?_ | refine s_seq ?_ | refine s_region ?_ | refine s_block ?_ | refine s_end ?_ | refine s_skip ?_ | refine s_exit ?_ | refine s_true rfl ?_ | refine s_false rfl ?_ | refine x_hit ?_ | refine x_code ?_ | refine x_back ?_ | refine x_miss rfl ?_)
  refine s_cond rfl (fun h => ?_) (fun h => ?_)
  · have hl : l = [] := by
      cases l with
      | nil => rfl
      | cons x l =>
        obtain ⟨b, o, es, hA, _⟩ := h1.2.2 0 (by simp)
        rw [hA] at h; cases h
    subst hl
    repeat' (first | refine e_nil ?_ | ((first | refine e_op ?_ | refine e_yes rfl ?_); (first | refine o_n (peval_sound rfl) rfl ?_ | refine o_n (nl rfl rfl tc rfl) rfl ?_ | refine o_storeC rfl rfl rfl rfl tc uc rfl rfl rfl ?_ | refine o_box rfl rfl (fun _ => ?_) | refine o_box1 rfl rfl rfl (fun _ => ?_) | refine o_alloc rfl rfl (fun _ => ?_))) | refine e_noU rfl rfl rfl ?_ | refine e_noN rfl rfl ?_ | refine s_seq ?_ | refine s_region ?_ | refine s_block ?_ | refine s_end ?_ | refine s_skip ?_ | refine s_exit ?_ | refine s_true rfl ?_ | refine s_false rfl ?_ | refine x_hit ?_ | refine x_code ?_ | refine x_back ?_ | refine x_miss rfl ?_)
    refine s_ret ⟨_, _, res1 rfl rfl, ⟨none, 0, rfl, rfl⟩, Ent.osl0 (Ent.nil _)⟩
  repeat' (first | refine e_nil ?_ | ((first | refine e_op ?_ | refine e_yes rfl ?_); (first | refine o_n (peval_sound rfl) rfl ?_ | refine o_n (nl rfl rfl tc rfl) rfl ?_ | refine o_storeC rfl rfl rfl rfl tc uc rfl rfl rfl ?_ | refine o_box rfl rfl (fun _ => ?_) | refine o_box1 rfl rfl rfl (fun _ => ?_) | refine o_alloc rfl rfl (fun _ => ?_))) | refine e_noU rfl rfl rfl ?_ | refine e_noN rfl rfl ?_ | refine s_seq ?_ | refine s_region ?_ | refine s_block ?_ | refine s_end ?_ | refine s_skip ?_ | refine s_exit ?_ | refine s_true rfl ?_ | refine s_false rfl ?_ | refine x_hit ?_ | refine x_code ?_ | refine x_back ?_ | refine x_miss rfl ?_)
  refine e_op (o_lit (cs := []) rfl rfl rfl rfl rfl rfl rfl (fun b4 => ?_))
  repeat' (first | refine e_nil ?_ | ((first | refine e_op ?_ | refine e_yes rfl ?_); (first | refine o_n (peval_sound rfl) rfl ?_ | refine o_n (nl rfl rfl tc rfl) rfl ?_ | refine o_storeC rfl rfl rfl rfl tc uc rfl rfl rfl ?_ | refine o_box rfl rfl (fun _ => ?_) | refine o_box1 rfl rfl rfl (fun _ => ?_) | refine o_alloc rfl rfl (fun _ => ?_))) | refine e_noU rfl rfl rfl ?_ | refine e_noN rfl rfl ?_ | refine s_seq ?_ | refine s_region ?_ | refine s_block ?_ | refine s_end ?_ | refine s_skip ?_ | refine s_exit ?_ | refine s_true rfl ?_ | refine s_false rfl ?_ | refine x_hit ?_ | refine x_code ?_ | refine x_back ?_ | refine x_miss rfl ?_)
  refine e_op (o_appendS (n := 0) (xs := []) (ys := l.flatMap encX) _ rfl rfl rfl rfl (encX_len l) (fun h0 => ro_items h1.2.2 h0) (encX_one _) rfl (by simp only; omega) (by omega) rfl (fun A' c' => .z) (fun A5 c5 => ?_))
  simp only [Nat.zero_add, List.nil_append]
  repeat' (first | refine e_nil ?_ | ((first | refine e_op ?_ | refine e_yes rfl ?_); (first | refine o_n (peval_sound rfl) rfl ?_ | refine o_n (nl rfl rfl tc rfl) rfl ?_ | refine o_storeC rfl rfl rfl rfl tc uc rfl rfl rfl ?_ | refine o_box rfl rfl (fun _ => ?_) | refine o_box1 rfl rfl rfl (fun _ => ?_) | refine o_alloc rfl rfl (fun _ => ?_))) | refine e_noU rfl rfl rfl ?_ | refine e_noN rfl rfl ?_ | refine s_seq ?_ | refine s_region ?_ | refine s_block ?_ | refine s_end ?_ | refine s_skip ?_ | refine s_exit ?_ | refine s_true rfl ?_ | refine s_false rfl ?_ | refine x_hit ?_ | refine x_code ?_ | refine x_back ?_ | refine x_miss rfl ?_)
  refine s_ret ⟨_, _, res1 rfl rfl, ⟨A5, c5, rfl, rfl⟩, Ent.tak .z (Ent.nil _)⟩

end Go.Proofs.YtcbaebkkdkdaaaaDoor

namespace Go.Proofs.YtcbaebkkdkdaaaaDoor
set_option linter.all false
open Go.Proofs.YtcbaebkkdkdaaaaDoor.E

theorem inG_i64 {g : Gram} (h1 : g.Prods.length ≤ 100000) (h2 : ∀ k : Nat, (prd g k).Right.length ≤ 100000) {x : Itm} (h : inG g x = true) : I64 x.Prod ∧ I64 x.Dot := by
  unfold inG at h
  simp only [Bool.and_eq_true, decide_eq_true_eq] at h
  obtain ⟨a, b, c, d⟩ := h
  have := h2 x.Prod.toNat
  rw [Int.toNat_of_nonneg a] at this
  unfold I64
  omega

theorem can_items {E0 : Go.Proofs.YtcbaebkkdkdaaaaDoor.E.Env} {U U' : List Asn} {A : Option Addr} {c : Nat} {l : List Itm} (ht : Tak (pX A l.length c l) U U') (hI : ∀ x ∈ l, I64 x.Prod ∧ I64 x.Dot) (hb : l.length ≤ 100000) : Go.Proofs.YtcbaebkkdkdaaaaDoor.E.Can E0 U ((kslice 16 kItm).rd [.slice A l.length c] l) := by
  refine Can.of fun w S hs => ?_
  obtain ⟨S1, h1, hsub⟩ := ht.mem hs
  unfold pX at h1
  rw [List.flatMap_def] at h1
  obtain ⟨h2, h3⟩ := osl_elsG (kd := kItm) (S := S) h1 hsub (by simp) rfl (fun i h1 h2 => by
    rw [List.getElem_map]
    exact kItm_mk (hI _ (List.getElem_mem h2)).1 (hI _ (List.getElem_mem h2)).2)
  exact ⟨A, c, rfl, h3, by omega, h2⟩

theorem withI_snoc {l : List Itm} {x : Itm} (h : SortI (l ++ [x])) : withI l x = l ++ [x] :=
  SortI.ext (withI_sort (List.pairwise_append.1 h).1) h fun y => by rw [withI_mem]; simp

theorem goI_take {g : Gram} {l : List Itm} {i : Nat} (h : i < l.length) (s : Int) : goI g (l.take (i + 1)) s = if beh g l[i] = s then goI g (l.take i) s ++ [⟨l[i].Prod, l[i].Dot + 1⟩] else goI g (l.take i) s := by
  rw [List.take_succ_eq_append_getElem h, goI_snoc]

theorem goI_le {g : Gram} {l : List Itm} {s : Int} : (goI g l s).length ≤ l.length := by
  unfold goI; rw [List.length_map]; exact List.length_filter_le _ _

theorem SortI.take {l : List Itm} (h : SortI l) (n : Nat) : SortI (l.take n) := List.Pairwise.sublist (List.take_sublist _ _) h

attribute [local irreducible] EVX EVO EVL EV1 NEV
attribute [local irreducible] own osl exA rdA rdL
set_option maxRecDepth 10000
set_option maxHeartbeats 4000000

theorem goes_w (cs : List Value) (g : Gram) (A : Option Addr) (c : Nat) (l : List Itm) (s : Int) (hsz : l.length ≤ 100000) (hs : SortI l) (hin : ∀ x ∈ l, inG g x = true) (hdt : ∀ x ∈ l, x.Dot ≤ 100000) :
    Trip Tryd.prog 50 [.agg cs.toArray, .slice A l.length c, .int .i64 s] ((kGram.rd cs g).and ((kslice 16 kItm).rd [.slice A l.length c] l)) []
      (fun v V => ∃ (A' : Option Addr) (c' : Nat), v = .slice A' (goI g l s).length c' ∧ V = [pX A' (goI g l s).length c' (goI g l s)]) := by
  refine trip Tryd.tabOk Tryd.func50 rfl rfl rfl rfl ?_
  rintro w SM ⟨hG0, ⟨A', c', e1, h1⟩⟩
  cases e1
  obtain ⟨A0, A1, A2, A3, A4, c0, c1, c2, c3, c4, rfl, hG⟩ := kGram_open hG0
  repeat' (first | refine e_nil ?_ | ((first | refine e_op ?_ | refine e_yes rfl ?_); (first | refine o_n (peval_sound rfl) rfl ?_ | refine o_n (nl rfl rfl tc rfl) rfl ?_ | refine o_storeC rfl rfl rfl rfl tc uc rfl rfl rfl ?_ | refine o_box rfl rfl (fun _ => ?_) | refine o_box1 rfl rfl rfl (fun _ => ?_) | refine o_alloc rfl rfl (fun _ => ?_))) | refine e_noU rfl rfl rfl ?_ | refine e_noN rfl rfl ?_ | refine s_seq ?_ | refine s_region ?_ | refine s_end ?_ | refine s_skip ?_ | refine s_exit ?_ | refine s_true rfl ?_ | refine s_false rfl ?_ | refine x_hit ?_ | refine x_code ?_ | refine x_back ?_ | refine x_miss rfl ?_)
  rename_i b3
  refine s_ent (Ent.osl0 (e := 42) (sz := 2) (Ent.refl _)) ?_
  repeat' (first | refine e_nil ?_ | ((first | refine e_op ?_ | refine e_yes rfl ?_); (first | refine o_n (peval_sound rfl) rfl ?_ | refine o_n (nl rfl rfl tc rfl) rfl ?_ | refine o_storeC rfl rfl rfl rfl tc uc rfl rfl rfl ?_ | refine o_box rfl rfl (fun _ => ?_) | refine o_box1 rfl rfl rfl (fun _ => ?_) | refine o_alloc rfl rfl (fun _ => ?_))) | refine e_noU rfl rfl rfl ?_ | refine e_noN rfl rfl ?_ | refine s_seq ?_ | refine s_region ?_ | refine s_block ?_ | refine s_end ?_ | refine s_skip ?_ | refine s_exit ?_ | refine s_true rfl ?_ | refine s_false rfl ?_ | refine x_hit ?_ | refine x_code ?_ | refine x_back ?_ | refine x_miss rfl ?_)
  refine s_loopK (ι := {x : Nat × Option Addr × Nat // x.1 ≤ l.length}) [1, 2, 3] rfl ⟨(0, none, 0), by omega⟩ (fun x => [(8, .int .i64 x.1.1), (7, .slice x.1.2.1 (goI g (l.take x.1.1) s).length x.1.2.2)])
    (fun x => [pX x.1.2.1 (goI g (l.take x.1.1) s).length x.1.2.2 (goI g (l.take x.1.1) s), blk b3 27 [.slice A0 g.Terms.length c0, .slice A1 g.Levels.length c1, .slice A2 g.Pats.length c2, .slice A3 g.Nons.length c3, .slice A4 g.Prods.length c4]]) (fun x => l.length - x.1.1) ?_ ?_ ?_
  · repeat' (first | exact Sub.nil _ | refine Sub.cons rfl ?_ | refine Sub.consE rfl ?_ ?_)
  · exact Ent.refl _
  rintro ⟨⟨i, Ao, co⟩, hi⟩
  simp only at hi ⊢
  repeat' (first | refine e_nil ?_ | ((first | refine e_op ?_ | refine e_yes rfl ?_); (first | refine o_n (peval_sound rfl) rfl ?_ | refine o_n (nl rfl rfl tc rfl) rfl ?_ | refine o_storeC rfl rfl rfl rfl tc uc rfl rfl rfl ?_ | refine o_box rfl rfl (fun _ => ?_) | refine o_box1 rfl rfl rfl (fun _ => ?_) | refine o_alloc rfl rfl (fun _ => ?_))) | refine e_noU rfl rfl rfl ?_ | refine e_noN rfl rfl ?_ | refine s_seq ?_ | refine s_region ?_ | refine s_block ?_ | refine s_end ?_ | refine s_skip ?_ | refine s_exit ?_ | refine s_true rfl ?_ | refine s_false rfl ?_ | refine x_hit ?_ | refine x_code ?_ | refine x_back ?_ | refine x_miss rfl ?_)
  refine s_cond rfl (fun h => ?_) (fun h => ?_)
  · have hlt : i < l.length := by simpa using h
    obtain ⟨b, o, es, rfl, hb, hx, hc⟩ := h1.2.2 i hlt
    obtain ⟨rfl, hx1, hx2⟩ := kItm_open hx
    have hxi := hin _ (List.getElem_mem hlt)
    have hgt := goI_take (g := g) hlt s
    have hle : (goI g (l.take i) s).length ≤ i := by have := goI_le (g := g) (l := l.take i) (s := s); rw [List.length_take] at this; omega
    repeat' (first | refine e_nil ?_ | ((first | refine e_op ?_ | refine e_yes rfl ?_); (first | refine o_n (peval_sound rfl) rfl ?_ | refine o_n (nl rfl rfl tc rfl) rfl ?_ | refine o_storeC rfl rfl rfl rfl tc uc rfl rfl rfl ?_ | refine o_box rfl rfl (fun _ => ?_) | refine o_box1 rfl rfl rfl (fun _ => ?_) | refine o_alloc rfl rfl (fun _ => ?_))) | refine e_noU rfl rfl rfl ?_ | refine e_noN rfl rfl ?_ | refine s_seq ?_ | refine s_region ?_ | refine s_block ?_ | refine s_end ?_ | refine s_skip ?_ | refine s_exit ?_ | refine s_true rfl ?_ | refine s_false rfl ?_ | refine x_hit ?_ | refine x_code ?_ | refine x_back ?_ | refine x_miss rfl ?_)
    refine s_anyU Tryd.mixed ?_
    (first | refine a_n 0 rfl (peval_sound rfl) (by decide +kernel) (by (first | exact Ent.refl _ | assumption | repeat' (first | exact Ent.refl _ | exact Ent.nil _ | refine Ent.tak .z ?_ | refine Ent.wk ?_))) rfl ?_ | refine a_n 0 rfl (nl rfl rfl tc rfl) (by decide +kernel) (by (first | exact Ent.refl _ | assumption | repeat' (first | exact Ent.refl _ | exact Ent.nil _ | refine Ent.tak .z ?_ | refine Ent.wk ?_))) rfl ?_); (first | refine a_n 1 rfl (peval_sound rfl) (by decide +kernel) (by (first | exact Ent.refl _ | assumption | repeat' (first | exact Ent.refl _ | exact Ent.nil _ | refine Ent.tak .z ?_ | refine Ent.wk ?_))) rfl ?_ | refine a_n 1 rfl (nl rfl rfl tc rfl) (by decide +kernel) (by (first | exact Ent.refl _ | assumption | repeat' (first | exact Ent.refl _ | exact Ent.nil _ | refine Ent.tak .z ?_ | refine Ent.wk ?_))) rfl ?_); (first | refine a_n 2 rfl (peval_sound rfl) (by decide +kernel) (by (first | exact Ent.refl _ | assumption | repeat' (first | exact Ent.refl _ | exact Ent.nil _ | refine Ent.tak .z ?_ | refine Ent.wk ?_))) rfl ?_ | refine a_n 2 rfl (nl rfl rfl tc rfl) (by decide +kernel) (by (first | exact Ent.refl _ | assumption | repeat' (first | exact Ent.refl _ | exact Ent.nil _ | refine Ent.tak .z ?_ | refine Ent.wk ?_))) rfl ?_)
    refine a_n 3 rfl (n_index rfl rfl rfl rfl i rfl hlt) (by decide +kernel) (by (first | exact Ent.refl _ | assumption | repeat' (first | exact Ent.refl _ | exact Ent.nil _ | refine Ent.tak .z ?_ | refine Ent.wk ?_))) rfl ?_
    refine a_n 4 rfl (n_load_ro rfl rfl hb (loads_agg rfl rfl hc)) (by decide +kernel) (by (first | exact Ent.refl _ | assumption | repeat' (first | exact Ent.refl _ | exact Ent.nil _ | refine Ent.tak .z ?_ | refine Ent.wk ?_))) rfl ?_
    (first | refine a_n 6 rfl (peval_sound rfl) (by decide +kernel) (by (first | exact Ent.refl _ | assumption | repeat' (first | exact Ent.refl _ | exact Ent.nil _ | refine Ent.tak .z ?_ | refine Ent.wk ?_))) rfl ?_ | refine a_n 6 rfl (nl rfl rfl tc rfl) (by decide +kernel) (by (first | exact Ent.refl _ | assumption | repeat' (first | exact Ent.refl _ | exact Ent.nil _ | refine Ent.tak .z ?_ | refine Ent.wk ?_))) rfl ?_)
    refine a_1 5 (by decide +kernel) rfl rfl (o_call (behR_w _ g l[i] hxi) rfl .nil (Can.ro hG0) rfl ?_)
    rintro v V ⟨rfl, rfl⟩
    refine ⟨Ent.refl _, ?_⟩
    simp only [List.nil_append]
    (first | refine a_n 7 rfl (peval_sound rfl) (by decide +kernel) (by (first | exact Ent.refl _ | assumption | repeat' (first | exact Ent.refl _ | exact Ent.nil _ | refine Ent.tak .z ?_ | refine Ent.wk ?_))) rfl ?_ | refine a_n 7 rfl (nl rfl rfl tc rfl) (by decide +kernel) (by (first | exact Ent.refl _ | assumption | repeat' (first | exact Ent.refl _ | exact Ent.nil _ | refine Ent.tak .z ?_ | refine Ent.wk ?_))) rfl ?_)
    refine a_done (by decide +kernel) ?_
    repeat' (first | refine e_nil ?_ | ((first | refine e_op ?_ | refine e_yes rfl ?_); (first | refine o_n (peval_sound rfl) rfl ?_ | refine o_n (nl rfl rfl tc rfl) rfl ?_ | refine o_storeC rfl rfl rfl rfl tc uc rfl rfl rfl ?_ | refine o_box rfl rfl (fun _ => ?_) | refine o_box1 rfl rfl rfl (fun _ => ?_) | refine o_alloc rfl rfl (fun _ => ?_))) | refine e_noU rfl rfl rfl ?_ | refine e_noN rfl rfl ?_ | refine s_seq ?_ | refine s_region ?_ | refine s_block ?_ | refine s_end ?_ | refine s_skip ?_ | refine s_exit ?_ | refine s_true rfl ?_ | refine s_false rfl ?_ | refine x_hit ?_ | refine x_code ?_ | refine x_back ?_ | refine x_miss rfl ?_)
    refine s_cond rfl (fun h => ?_) (fun h => ?_)
    · have hbs : beh g l[i] = s := by simpa using h
      rw [if_pos hbs] at hgt
      have hxd := hdt _ (List.getElem_mem hlt)
      have hxin := hxi
      unfold inG at hxin
      simp only [Bool.and_eq_true, decide_eq_true_eq] at hxin
      have hw1 : IntKind.i64.wrap (l[i].Dot + 1) = l[i].Dot + 1 := by rw [wrap_i64] <;> omega
      have hso : SortI (goI g (l.take i) s ++ [⟨l[i].Prod, l[i].Dot + 1⟩]) := by rw [← hgt]; exact goI_sort (hs.take _) s
      refine s_drawT [13] .z Tryd.mixed (by decide +kernel) ?_
      repeat' (first | refine l_nil ?_ | ((first | refine l_no rfl rfl rfl ?_ rfl ?_ | refine l_noN rfl rfl ?_ rfl ?_ | refine l_n (peval_sound rfl) rfl ?_ rfl ?_ | refine l_n (nl rfl rfl tc rfl) rfl ?_ rfl ?_ | refine l_ny rfl (peval_sound rfl) rfl ?_ rfl ?_ | refine l_ny rfl (nl rfl rfl tc rfl) rfl ?_ rfl ?_); · (first | exact Ent.refl _ | assumption | repeat' (first | exact Ent.refl _ | exact Ent.nil _ | refine Ent.tak .z ?_ | refine Ent.wk ?_))))
      refine l_n (n_index rfl rfl rfl rfl i rfl hlt) rfl (by (first | exact Ent.refl _ | assumption | repeat' (first | exact Ent.refl _ | exact Ent.nil _ | refine Ent.tak .z ?_ | refine Ent.wk ?_))) rfl ?_
      repeat' (first | refine l_nil ?_ | ((first | refine l_no rfl rfl rfl ?_ rfl ?_ | refine l_noN rfl rfl ?_ rfl ?_ | refine l_n (peval_sound rfl) rfl ?_ rfl ?_ | refine l_n (nl rfl rfl tc rfl) rfl ?_ rfl ?_ | refine l_ny rfl (peval_sound rfl) rfl ?_ rfl ?_ | refine l_ny rfl (nl rfl rfl tc rfl) rfl ?_ rfl ?_); · (first | exact Ent.refl _ | assumption | repeat' (first | exact Ent.refl _ | exact Ent.nil _ | refine Ent.tak .z ?_ | refine Ent.wk ?_))))
      refine l_n (n_load_ro rfl rfl hb (loads_one rfl (hc 0 _ rfl))) rfl (by (first | exact Ent.refl _ | assumption | repeat' (first | exact Ent.refl _ | exact Ent.nil _ | refine Ent.tak .z ?_ | refine Ent.wk ?_))) rfl ?_
      repeat' (first | refine l_nil ?_ | ((first | refine l_no rfl rfl rfl ?_ rfl ?_ | refine l_noN rfl rfl ?_ rfl ?_ | refine l_n (peval_sound rfl) rfl ?_ rfl ?_ | refine l_n (nl rfl rfl tc rfl) rfl ?_ rfl ?_ | refine l_ny rfl (peval_sound rfl) rfl ?_ rfl ?_ | refine l_ny rfl (nl rfl rfl tc rfl) rfl ?_ rfl ?_); · (first | exact Ent.refl _ | assumption | repeat' (first | exact Ent.refl _ | exact Ent.nil _ | refine Ent.tak .z ?_ | refine Ent.wk ?_))))
      refine l_n (n_index rfl rfl rfl rfl i rfl hlt) rfl (by (first | exact Ent.refl _ | assumption | repeat' (first | exact Ent.refl _ | exact Ent.nil _ | refine Ent.tak .z ?_ | refine Ent.wk ?_))) rfl ?_
      repeat' (first | refine l_nil ?_ | ((first | refine l_no rfl rfl rfl ?_ rfl ?_ | refine l_noN rfl rfl ?_ rfl ?_ | refine l_n (peval_sound rfl) rfl ?_ rfl ?_ | refine l_n (nl rfl rfl tc rfl) rfl ?_ rfl ?_ | refine l_ny rfl (peval_sound rfl) rfl ?_ rfl ?_ | refine l_ny rfl (nl rfl rfl tc rfl) rfl ?_ rfl ?_); · (first | exact Ent.refl _ | assumption | repeat' (first | exact Ent.refl _ | exact Ent.nil _ | refine Ent.tak .z ?_ | refine Ent.wk ?_))))
      refine l_n (n_load_ro rfl rfl hb (loads_one rfl (hc 1 _ rfl))) rfl (by (first | exact Ent.refl _ | assumption | repeat' (first | exact Ent.refl _ | exact Ent.nil _ | refine Ent.tak .z ?_ | refine Ent.wk ?_))) rfl ?_
      repeat' (first | refine l_nil ?_ | ((first | refine l_no rfl rfl rfl ?_ rfl ?_ | refine l_noN rfl rfl ?_ rfl ?_ | refine l_n (peval_sound rfl) rfl ?_ rfl ?_ | refine l_n (nl rfl rfl tc rfl) rfl ?_ rfl ?_ | refine l_ny rfl (peval_sound rfl) rfl ?_ rfl ?_ | refine l_ny rfl (nl rfl rfl tc rfl) rfl ?_ rfl ?_); · (first | exact Ent.refl _ | assumption | repeat' (first | exact Ent.refl _ | exact Ent.nil _ | refine Ent.tak .z ?_ | refine Ent.wk ?_))))
      rw [hw1]
      refine l_e rfl (o_call (with_w Ao co (goI g (l.take i) s) ⟨l[i].Prod, l[i].Dot + 1⟩ (by omega)) rfl (.cons .z .nil) Can.tt rfl ?_)
      rintro v V ⟨Ao', co', rfl, rfl⟩
      refine ⟨Ent.wk (Ent.refl _), ?_⟩
      rw [withI_snoc hso, ← hgt]
      repeat' (first | refine l_nil ?_ | ((first | refine l_no rfl rfl rfl ?_ rfl ?_ | refine l_noN rfl rfl ?_ rfl ?_ | refine l_n (peval_sound rfl) rfl ?_ rfl ?_ | refine l_n (nl rfl rfl tc rfl) rfl ?_ rfl ?_ | refine l_ny rfl (peval_sound rfl) rfl ?_ rfl ?_ | refine l_ny rfl (nl rfl rfl tc rfl) rfl ?_ rfl ?_); · (first | exact Ent.refl _ | assumption | repeat' (first | exact Ent.refl _ | exact Ent.nil _ | refine Ent.tak .z ?_ | refine Ent.wk ?_))))
      repeat' (first | refine e_nil ?_ | ((first | refine e_op ?_ | refine e_yes rfl ?_); (first | refine o_n (peval_sound rfl) rfl ?_ | refine o_n (nl rfl rfl tc rfl) rfl ?_ | refine o_storeC rfl rfl rfl rfl tc uc rfl rfl rfl ?_ | refine o_box rfl rfl (fun _ => ?_) | refine o_box1 rfl rfl rfl (fun _ => ?_) | refine o_alloc rfl rfl (fun _ => ?_))) | refine e_noU rfl rfl rfl ?_ | refine e_noN rfl rfl ?_ | refine s_seq ?_ | refine s_region ?_ | refine s_block ?_ | refine s_end ?_ | refine s_skip ?_ | refine s_exit ?_ | refine s_true rfl ?_ | refine s_false rfl ?_ | refine x_hit ?_ | refine x_code ?_ | refine x_back ?_ | refine x_miss rfl ?_)
      refine s_back ⟨⟨(i + 1, Ao', co'), by simp only; omega⟩, by simp only; omega, ?_, Ent.refl _⟩
      repeat' (first | exact Sub.nil _ | refine Sub.cons rfl ?_ | refine Sub.consE rfl ?_ ?_)
      exact inc (i := i) (by omega)
    · have hbs : ¬ beh g l[i] = s := by simpa using h
      rw [if_neg hbs] at hgt
      repeat' (first | refine e_nil ?_ | ((first | refine e_op ?_ | refine e_yes rfl ?_); (first | refine o_n (peval_sound rfl) rfl ?_ | refine o_n (nl rfl rfl tc rfl) rfl ?_ | refine o_storeC rfl rfl rfl rfl tc uc rfl rfl rfl ?_ | refine o_box rfl rfl (fun _ => ?_) | refine o_box1 rfl rfl rfl (fun _ => ?_) | refine o_alloc rfl rfl (fun _ => ?_))) | refine e_noU rfl rfl rfl ?_ | refine e_noN rfl rfl ?_ | refine s_seq ?_ | refine s_region ?_ | refine s_block ?_ | refine s_end ?_ | refine s_skip ?_ | refine s_exit ?_ | refine s_true rfl ?_ | refine s_false rfl ?_ | refine x_hit ?_ | refine x_code ?_ | refine x_back ?_ | refine x_miss rfl ?_)
      refine s_back ⟨⟨(i + 1, Ao, co), by simp only; omega⟩, by simp only; omega, ?_, ?_⟩
      · repeat' (first | exact Sub.nil _ | refine Sub.cons rfl ?_ | refine Sub.consE rfl ?_ ?_)
        · exact inc (i := i) (by omega)
        · simp only; rw [hgt]
      · simp only; rw [hgt]; exact Ent.refl _
  · have hlt : i = l.length := by simp at h; omega
    repeat' (first | refine e_nil ?_ | ((first | refine e_op ?_ | refine e_yes rfl ?_); (first | refine o_n (peval_sound rfl) rfl ?_ | refine o_n (nl rfl rfl tc rfl) rfl ?_ | refine o_storeC rfl rfl rfl rfl tc uc rfl rfl rfl ?_ | refine o_box rfl rfl (fun _ => ?_) | refine o_box1 rfl rfl rfl (fun _ => ?_) | refine o_alloc rfl rfl (fun _ => ?_))) | refine e_noU rfl rfl rfl ?_ | refine e_noN rfl rfl ?_ | refine s_seq ?_ | refine s_region ?_ | refine s_block ?_ | refine s_end ?_ | refine s_skip ?_ | refine s_exit ?_ | refine s_true rfl ?_ | refine s_false rfl ?_ | refine x_hit ?_ | refine x_code ?_ | refine x_back ?_ | refine x_miss rfl ?_)
    subst hlt
    rw [List.take_length]
    refine s_ret ⟨_, _, res1 rfl rfl, ⟨Ao, co, rfl, rfl⟩, Ent.tak .z (Ent.nil _)⟩

end Go.Proofs.YtcbaebkkdkdaaaaDoor
