/-
  Part 2 of what the law's walk stands on: lemmas and contracts, each proved here without a condition but those that it names.
-/
import Derived.Test.YtjeimmekhfhepaaErBase1
import Derived.WalkKit
import Derived.ProofKit
import Derived.OpenShut
import Derived.ShutString
import Derived.ChangeOld
import Derived.Below
import Derived.SizedLaws
import Derived.Laws.Slices
import Derived.MapKept
import Derived.ChangeKeysEq
import Derived.Laws.StructEq
import Derived.Sort.Grow
import Derived.Deep.Draws
import Derived.Lib.Builder
import Derived.Laws.CopyOwn
import Derived.Laws.IdiomCopy
import Derived.WideKeyEntry
import Derived.Scope
import Derived.Maps.RangeRun
import Derived.ScopeJumps

namespace Go.Proofs.Ytjeimmekhfhepaa
set_option linter.all false
open Go.Proofs.Ytjeimmekhfhepaa.E
attribute [local irreducible] EVX EVO EVL EV1 NEV
set_option maxRecDepth 10000

theorem not_wf {g : Gram} (hl : limitsB g = false) (h : ¬ Wf0 g) : Value.int .i64 2 = Value.int .i64 (checkE g) := by rw [checkE_2 hl h]

theorem reach_it {σ : Type} {nxt : σ → σ} {fresh : σ → Bool} {s0 s : σ} (h : Reach nxt fresh s0 s) : ∃ m, s = it nxt m s0 := by
  induction h with
  | refl => exact ⟨0, rfl⟩
  | step _ _ ih =>
    obtain ⟨m, rfl⟩ := ih
    exact ⟨m + 1, (it_succ nxt m s0).symm⟩

theorem hasBoolN_w (A : Option Addr) (n c : Nat) (xs : List Bool) (hn : n = xs.length) (y : Bool) : Trip Try.prog 23 [.slice A n c, .bool y] ((kslice 1 kbool).rd [.slice A n c] xs) []
    (fun v V => v = .bool (xs.any (fun x => y == x)) ∧ V = []) := by
  subst hn
  exact hasBool_w A c xs y

theorem zz_t {a b : Int} (h : (!((a == 0) == (b == 0))) = true) : ¬ (a = 0 ↔ b = 0) := by
  intro hi
  by_cases ha : a = 0
  · have hb := hi.1 ha
    subst ha; subst hb; cases h
  · have hb : ¬ b = 0 := fun hb => ha (hi.2 hb)
    rw [beq_eq_false_iff_ne.2 ha, beq_eq_false_iff_ne.2 hb] at h; cases h
theorem zz_f {a b : Int} (h : (!((a == 0) == (b == 0))) = false) : (a = 0 ↔ b = 0) := by
  by_cases ha : a = 0 <;> by_cases hb : b = 0 <;> simp_all

theorem check_w (cs : List Value) (g : Gram) : Trip Try.prog 7 [.agg cs.toArray] (kGram.rd cs g) [] (fun v V => v = .int .i64 (checkE g) ∧ V = []) := by
  refine trip Try.tabOk Try.func7 rfl rfl rfl rfl ?_
  intro w SM hR
  obtain ⟨A0, A1, A2, A3, A4, c0, c1, c2, c3, c4, rfl, hG⟩ := kGram_open hR
  have hLev : ∀ es (x : Lev), x ∈ g.Levels → Trip Try.prog 19 ([] ++ [.agg es.toArray] ++ []) (Rd.tt.and (kLev.rd es x)) [] (fun v V => v = .bool (!mayBind x.N x.Kind) ∧ V = []) := by
    intro es x _
    refine ⟨(check1_w 0 0).enters, fun w SM h1 h2 h3 => ?_⟩
    obtain ⟨rfl, _⟩ := kLev_open h3.2
    exact (check1_w _ _).calls w SM h1 h2 trivial
  repeat' (first | refine e_nil ?_ | ((refine e_op ?_); (first | refine o_n (peval_sound rfl) rfl ?_ | refine o_n (nl rfl rfl tc rfl) rfl ?_ | refine o_box rfl rfl (fun _ => ?_))) | refine s_seq ?_ | refine s_region ?_)
  rename_i b1
  refine e_op (o_call (limits_w _ g) rfl .nil (Can.ro (kGram_mk hG)) rfl ?_)
  rintro v V ⟨rfl, rfl⟩
  repeat' (refine e_nil ?_)
  refine s_cond rfl (fun hl => ?_) (fun hl => ?_)
  · repeat' (first | refine e_nil ?_ | ((refine e_op ?_); (refine o_n (peval_sound rfl) rfl ?_)) | refine s_seq ?_ | refine s_region ?_)
    refine s_ret ⟨_, _, res1 rfl rfl, ⟨?_, rfl⟩, Ent.nil _⟩
    rw [checkE_5 hl]
  have hT := hG.terms.2.1
  have hN := hG.nons.2.1
  have hP := hG.prods.2.1
  repeat' (first | refine s_seq ?_ | refine s_skip ?_)
  refine s_drawU [] Try.mixed (by decide +kernel) ?_
  repeat' (first | refine l_nil ?_ | ((first | refine l_n (peval_sound rfl) rfl ?_ rfl ?_ | refine l_n (nl rfl rfl tc rfl) rfl ?_ rfl ?_); · (exact Ent.refl _)))
  repeat' (first | refine e_nil ?_ | ((first | refine e_op ?_ | refine e_yes rfl ?_); (first | refine o_n (peval_sound rfl) rfl ?_ | refine o_n (nl rfl rfl tc rfl) rfl ?_)) | refine e_noU rfl rfl rfl ?_ | refine s_seq ?_ | refine s_region ?_ | refine s_skip ?_ | refine s_true rfl ?_ | ((fail_if_success (refine e_dec true (by exact rfl) ?_)); (fail_if_success (refine e_dec false (by exact rfl) ?_)); refine e_part rfl rfl (fun h => ?_) (fun h => ?_)) | refine s_cond rfl (fun h => ?_) (fun h => ?_))
  all_goals try
    refine s_ret ⟨_, _, res1 rfl rfl, ⟨?_, rfl⟩, Ent.nil _⟩
    refine not_wf hl (fun hw => ?_)
    have qt := hw.t
    have qn := hw.n
    have qlev := hw.lev
    have qprods := hw.prods
    simp only [bne_iff_ne, beq_iff_eq, decide_eq_true_eq] at h
    omega
  rename_i ht1 hn2 hlv
  have hp0 := h
  clear h
  simp only [bne_eq_false_iff_eq, beq_eq_false_iff_ne, decide_eq_false_iff_not] at ht1 hn2 hlv hp0
  refine e_op (o_call (hasLev_w kLev rfl 19 [] [] Rd.tt (fun x => !mayBind x.N x.Kind) A1 c1 g.Levels hLev) rfl .nil (Can.ro ⟨trivial, sl_mk hG.levels⟩) rfl ?_)
  rintro v V ⟨rfl, rfl⟩
  repeat' (refine e_nil ?_)
  refine s_cond rfl (fun hb => ?_) (fun hb => ?_)
  · repeat' (first | refine e_nil ?_ | ((refine e_op ?_); (refine o_n (peval_sound rfl) rfl ?_)) | refine s_seq ?_ | refine s_region ?_)
    refine s_ret ⟨_, _, res1 rfl rfl, ⟨?_, rfl⟩, Ent.nil _⟩
    refine not_wf hl (fun hw => ?_)
    rw [List.any_eq_true] at hb
    obtain ⟨x, hx, hx2⟩ := hb
    rw [hw.bind x hx] at hx2
    cases hx2
  have hbind : ∀ l ∈ g.Levels, mayBind l.N l.Kind = true := by
    intro l hlm
    rw [List.any_eq_false] at hb
    simpa using hb l hlm
  repeat' (first | refine e_nil ?_ | ((refine e_op ?_); (first | refine o_n (peval_sound rfl) rfl ?_ | refine o_n (nl rfl rfl tc rfl) rfl ?_)) | refine s_seq ?_ | refine s_region ?_ | refine s_block ?_ | refine s_skip ?_)
  refine s_loopK (ι := {i : Nat // i ≤ g.Prods.length ∧ ∀ j (hj : j < g.Prods.length), j < i → ProdOk g.Terms.length g.Nons.length j g.Prods[j]}) [1, 3, 4, 42, 43] rfl ⟨0, by omega, fun j _ h => by omega⟩
    (fun x => [(44, .int .i64 x.1)]) (fun x => [blk b1 27 [.slice A0 g.Terms.length c0, .slice A1 g.Levels.length c1, .slice A2 g.Pats.length c2, .slice A3 g.Nons.length c3, .slice A4 g.Prods.length c4]]) (fun x => g.Prods.length - x.1) ?_ (Ent.refl _) ?_
  · repeat' (first | exact Sub.nil _ | refine Sub.cons rfl ?_)
  rintro ⟨i, hi, hok⟩
  simp only at hi hok ⊢
  repeat' (first | refine e_nil ?_ | ((refine e_op ?_); (refine o_n (peval_sound rfl) rfl ?_)) | refine s_seq ?_ | refine s_region ?_)
  refine s_cond rfl (fun h => ?_) (fun h => ?_)
  · have hlt : i < g.Prods.length := by simpa using h
    have hpe := hG.prods
    obtain ⟨b, o, es, e0, hb, he, hc⟩ := hG.prods.2.2 i hlt
    cases e0
    obtain ⟨Ar, cr, rfl, hl0, hlN, hlK, hr⟩ := kPrd_open he
    have hrl := hr.2.1
    repeat' (first | ((refine e_op ?_); (refine o_n (peval_sound rfl) rfl ?_)) | refine s_seq ?_ | refine s_region ?_ | refine s_block ?_ | refine s_skip ?_)
    refine e_op (o_n (n_index rfl rfl rfl rfl i rfl hlt) rfl ?_)
    refine e_op (o_n (n_load_ro rfl rfl hb (loads_agg rfl rfl hc)) rfl ?_)
    have hbad : ¬ ProdOk g.Terms.length g.Nons.length i g.Prods[i] → Value.int .i64 2 = Value.int .i64 (checkE g) := fun hn =>
      not_wf hl (fun hw => hn ((prodOk_iff _ _ _ _).1 (hw.prod i hlt)))
    repeat' (first | refine e_nil ?_ | ((first | refine e_op ?_ | refine e_yes rfl ?_); (first | refine o_n (peval_sound rfl) rfl ?_ | refine o_n (nl rfl rfl tc rfl) rfl ?_ | refine o_storeC rfl rfl rfl rfl tc uc rfl rfl rfl ?_ | refine o_alloc rfl rfl (fun _ => ?_))) | refine e_noU rfl rfl rfl ?_ | refine s_seq ?_ | refine s_region ?_ | refine s_true rfl ?_ | ((fail_if_success (refine e_dec true (by exact rfl) ?_)); (fail_if_success (refine e_dec false (by exact rfl) ?_)); refine e_part rfl rfl (fun h => ?_) (fun h => ?_)))
    all_goals try
      refine s_ret ⟨_, _, res1 rfl rfl, ⟨?_, rfl⟩, Ent.nil _⟩
      refine hbad (fun hp => ?_)
      have q1 := hp.lo
      have q2 := hp.hi
      have q3 := hp.zero
      first | (have h9 := zz_t h; omega) | (have h9 := of_decide_eq_true h; omega)
    rename_i b6 hx1 hx2
    have hx3 := h
    clear h
    refine e_yes rfl (o_call (mayBind_w _ _) rfl .nil Can.tt rfl ?_)
    rintro v V ⟨rfl, rfl⟩
    repeat' (first | refine e_nil ?_ | ((first | refine e_op ?_ | refine e_yes rfl ?_); (refine o_n (peval_sound rfl) rfl ?_)))
    refine s_cond rfl (fun h => ?_) (fun h => ?_)
    · repeat' (first | refine e_nil ?_ | ((refine e_op ?_); (refine o_n (peval_sound rfl) rfl ?_)) | refine s_seq ?_ | refine s_region ?_)
      refine s_ret ⟨_, _, res1 rfl rfl, ⟨?_, rfl⟩, Ent.nil _⟩
      refine hbad (fun hp => ?_)
      rw [hp.bind] at h
      cases h
    have hmb : mayBind g.Prods[i].L.N g.Prods[i].L.Kind = true := by simpa using h
    clear h
    replace hx1 := of_decide_eq_false hx1
    replace hx2 := of_decide_eq_false hx2
    replace hx3 := zz_f hx3
    repeat' (first | refine e_nil ?_ | ((refine e_op ?_); (first | refine o_n (peval_sound rfl) rfl ?_ | refine o_n (nl rfl rfl tc rfl) rfl ?_)) | refine s_seq ?_ | refine s_region ?_ | refine s_block ?_ | refine s_skip ?_)
    refine s_loopK (ι := {j : Nat // j ≤ g.Prods[i].Right.length ∧ ∀ s ∈ g.Prods[i].Right.take j, 1 ≤ s ∧ s < (g.Terms.length : Int) + g.Nons.length ∧ s ≠ g.Terms.length}) [1, 3, 4, 42, 43, 44, 73, 74] rfl ⟨0, by omega, fun s hs => by simp at hs⟩
      (fun x => [(75, .int .i64 x.1)]) (fun x => [blk b1 27 [.slice A0 g.Terms.length c0, .slice A1 g.Levels.length c1, .slice A2 g.Pats.length c2, .slice A3 g.Nons.length c3, .slice (some ⟨b, o, none⟩) g.Prods.length c4]]) (fun x => g.Prods[i].Right.length - x.1) ?_ (by repeat' (first | exact Ent.nil _ | refine Ent.tak tk ?_)) ?_
    · repeat' (first | exact Sub.nil _ | refine Sub.cons rfl ?_)
    rintro ⟨j, hj, hjo⟩
    simp only at hj hjo ⊢
    repeat' (first | refine e_nil ?_ | ((refine e_op ?_); (refine o_n (peval_sound rfl) rfl ?_)) | refine s_seq ?_ | refine s_region ?_)
    refine s_cond rfl (fun h => ?_) (fun h => ?_)
    · have hjl : j < g.Prods[i].Right.length := by simpa using h
      clear h
      obtain ⟨b2, o2, es2, rfl, hb2, ⟨rfl, hsI⟩, hc2⟩ := hr.2.2 j hjl
      repeat' (first | refine s_seq ?_ | refine s_region ?_ | refine s_block ?_ | refine s_skip ?_)
      refine e_op (o_n (n_index rfl rfl rfl rfl j rfl hjl) rfl ?_)
      refine e_op (o_n (n_load_ro rfl rfl hb2 (loads_one rfl (hc2 0 _ rfl))) rfl ?_)
      have hwr : IntKind.i64.wrap ((g.Terms.length : Int) + g.Nons.length) = (g.Terms.length : Int) + g.Nons.length := wrap_i64 (by omega) (by omega)
      repeat' (first | refine e_nil ?_ | ((first | refine e_op ?_ | refine e_yes rfl ?_); (refine o_n (peval_sound rfl) rfl ?_)) | refine e_noU rfl rfl rfl ?_ | refine s_seq ?_ | refine s_region ?_ | refine s_end ?_ | refine s_skip ?_ | refine s_true rfl ?_ | ((fail_if_success (refine e_dec true (by exact rfl) ?_)); (fail_if_success (refine e_dec false (by exact rfl) ?_)); refine e_part rfl rfl (fun h => ?_) (fun h => ?_)) | refine s_cond rfl (fun h => ?_) (fun h => ?_))
      all_goals try
        refine s_ret ⟨_, _, res1 rfl rfl, ⟨?_, rfl⟩, Ent.nil _⟩
        refine hbad (fun hp => ?_)
        obtain ⟨q1, q2, q3⟩ := hp.right _ (List.getElem_mem hjl)
        try rw [hwr] at h
        first | (have h9 := of_decide_eq_true h; omega) | (have h9 := eq_of_beq h; omega)
      rename_i hy1 hy2
      have hy3 := h
      clear h
      rw [hwr] at hy2
      replace hy1 := of_decide_eq_false hy1
      replace hy2 := of_decide_eq_false hy2
      replace hy3 := beq_eq_false_iff_ne.1 hy3
      refine s_back ⟨⟨j + 1, by omega, ?_⟩, by simp only; omega, ?_, by repeat' (first | exact Ent.nil _ | refine Ent.tak tk ?_)⟩
      · intro s hs
        rw [List.take_succ_eq_append_getElem hjl, List.mem_append, List.mem_singleton] at hs
        rcases hs with hs | rfl
        · exact hjo s hs
        · exact ⟨by omega, by omega, hy3⟩
      · repeat' (first | exact Sub.nil _ | refine Sub.cons rfl ?_ | refine Sub.consE rfl ?_ ?_)
        exact inc (i := j) (by omega)
    · have hge : j = g.Prods[i].Right.length := by have := of_decide_eq_false h; omega
      subst hge
      clear h
      rw [List.take_length] at hjo
      repeat' (first | refine e_nil ?_ | ((refine e_op ?_); (refine o_n (peval_sound rfl) rfl ?_)) | refine s_region ?_ | refine s_end ?_ | refine s_exit ?_ | refine x_hit ?_ | refine x_code ?_ | refine x_back ?_)
      refine s_back ⟨⟨i + 1, by omega, ?_⟩, by simp only; omega, ?_, by repeat' (first | exact Ent.nil _ | refine Ent.tak tk ?_)⟩
      · intro j' hj' hlt'
        by_cases he2 : j' < i
        · exact hok j' hj' he2
        · have : j' = i := by omega
          subst this
          exact ⟨by omega, by omega, by omega, hmb, hjo⟩
      · repeat' (first | exact Sub.nil _ | refine Sub.cons rfl ?_ | refine Sub.consE rfl ?_ ?_)
        exact inc (i := i) (by omega)
  · have hge : i = g.Prods.length := by have := of_decide_eq_false h; omega
    subst hge
    clear h
    obtain ⟨b, o, es, e0, hb0, he, hc⟩ := hG.prods.2.2 0 (by omega)
    cases e0
    obtain ⟨Ar, cr, rfl, hl0, hlN, hlK, hr⟩ := kPrd_open he
    have hrl := hr.2.1
    have hok0 := hok 0 (by omega) (by omega)
    repeat' (first | ((refine e_op ?_); (first | refine o_n (peval_sound rfl) rfl ?_ | refine o_n (nl rfl rfl tc rfl) rfl ?_)) | refine s_seq ?_ | refine s_region ?_ | refine s_exit ?_ | refine x_hit ?_ | refine x_code ?_ | refine x_back ?_)
    refine e_op (o_n (n_index rfl rfl rfl rfl 0 rfl (by omega)) rfl ?_)
    repeat' (((refine e_op ?_); (refine o_n (peval_sound rfl) rfl ?_)))
    refine e_op (o_n (n_load_ro rfl rfl hb0 (loads_one rfl (hc 1 _ rfl))) rfl ?_)
    have hstart : (¬ ∃ (h2 : g.Prods[0].Right.length = 1), (g.Terms.length : Int) ≤ g.Prods[0].Right[0]) → Value.int .i64 2 = Value.int .i64 (checkE g) := fun hn =>
      not_wf hl (fun hw => by
        obtain ⟨_, h2, h3⟩ := (startOk_iff _ _).1 hw.start
        exact hn ⟨h2, h3⟩)
    repeat' (first | refine e_nil ?_ | ((refine e_op ?_); (refine o_n (peval_sound rfl) rfl ?_)) | refine s_seq ?_ | refine s_region ?_)
    refine e_part rfl rfl (fun h => ?_) (fun h => ?_)
    · repeat' (first | refine e_nil ?_ | ((refine e_op ?_); (refine o_n (peval_sound rfl) rfl ?_)) | refine e_noU rfl rfl rfl ?_ | refine s_seq ?_ | refine s_region ?_ | refine s_true rfl ?_)
      refine s_ret ⟨_, _, res1 rfl rfl, ⟨?_, rfl⟩, Ent.nil _⟩
      refine hstart (fun ⟨h2, _⟩ => ?_)
      rw [h2] at h; cases h
    have hone : g.Prods[0].Right.length = 1 := by
      have h9 := bne_eq_false_iff_eq.1 h
      omega
    clear h
    repeat' (((refine e_yes rfl ?_); (refine o_n (peval_sound rfl) rfl ?_)))
    obtain ⟨b3, o3, es3, rfl, hb3, ⟨rfl, hsI⟩, hc3⟩ := hr.2.2 0 (by omega)
    refine e_yes rfl (o_n (n_index rfl rfl rfl rfl 0 rfl (by omega)) rfl ?_)
    refine e_yes rfl (o_n (n_load_ro rfl rfl hb3 (loads_one rfl (hc3 0 _ rfl))) rfl ?_)
    repeat' (first | refine e_nil ?_ | ((first | refine e_op ?_ | refine e_yes rfl ?_); (refine o_n (peval_sound rfl) rfl ?_)))
    refine s_cond rfl (fun h => ?_) (fun h => ?_)
    · repeat' (first | refine e_nil ?_ | ((refine e_op ?_); (refine o_n (peval_sound rfl) rfl ?_)) | refine s_seq ?_ | refine s_region ?_)
      refine s_ret ⟨_, _, res1 rfl rfl, ⟨?_, rfl⟩, Ent.nil _⟩
      refine hstart (fun ⟨_, h2⟩ => ?_)
      have := of_decide_eq_true h
      omega
    have hbeg : (g.Terms.length : Int) ≤ g.Prods[0].Right[0] := by have := of_decide_eq_false h; omega
    clear h
    have hw0 : Wf0 g := ⟨by omega, by omega, by omega, by omega, hbind, fun i hi => (prodOk_iff _ _ _ _).2 (hok i hi hi), (startOk_iff _ _).2 ⟨by omega, hone, hbeg⟩⟩
    have hps : PsOk g.Terms.length g.Nons.length g.Prods := ⟨fun i hi => ⟨(hok i hi hi).lo, (hok i hi hi).hi⟩, fun i hi s hs => ⟨((hok i hi hi).right s hs).1, ((hok i hi hi).right s hs).2.1⟩⟩
    repeat' (first | refine s_seq ?_ | refine s_skip ?_)
    refine s_anyU Try.mixed ?_
    refine a_n 0 rfl (n_load rfl rfl .z rfl) (by decide +kernel) (Ent.refl _) rfl ?_
    refine a_n 1 rfl (peval_sound rfl) (by decide +kernel) (Ent.refl _) rfl ?_
    refine a_join (ι := Nat × Nat) (fun x => [(10, .pointer (some ⟨x.2, 0, none⟩))])
      (fun x => [blk x.2 55 (kwC [.slice A0 g.Terms.length c0, .slice A1 g.Levels.length c1, .slice A2 g.Pats.length c2, .slice A3 g.Nons.length c3, .slice (some ⟨b, o, none⟩) g.Prods.length c4] (some ⟨x.1, 0, none⟩) g.Nons.length g.Nons.length (.slice none 0 0) (.slice none 0 0)),
        osl 4 1 (.slice (some ⟨x.1, 0, none⟩) g.Nons.length g.Nons.length) g.Nons.length ((List.replicate g.Nons.length false).map Value.bool)]) ?_ (fun hfin => ?_)
    rotate_left
    · refine a_2 2 4 (by decide +kernel) rfl rfl rfl rfl ?_ ?_
      · refine o_make rfl rfl rfl rfl g.Nons.length rfl rfl (by omega) (by omega) rfl (fun bu => ⟨(by (repeat' (first | exact Ent.refl _ | refine Ent.wk ?_))), ?_⟩)
        refine a_n 3 rfl (peval_sound rfl) (by decide +kernel) (by (repeat' (first | exact Ent.refl _ | refine Ent.wk ?_))) rfl ?_
        refine a_1 4 (by decide +kernel) rfl rfl (o_alloc rfl rfl (fun bk => ⟨(by (repeat' (first | exact Ent.refl _ | refine Ent.wk ?_))), ?_⟩))
        refine a_1 5 (by decide +kernel) rfl rfl (o_store rfl rfl rfl rfl rfl rfl rfl .z ⟨(by (repeat' (first | exact Ent.refl _ | refine Ent.wk ?_))), ?_⟩)
        refine a_done (by decide +kernel) ?_
        rw [show List.replicate g.Nons.length (Value.bool false) = (List.replicate g.Nons.length false).map Value.bool from by simp]
        exact s_weak (by repeat' (first | exact Sub.nil _ | refine Sub.cons rfl ?_)) (by repeat' (first | exact Ent.nil _ | refine Ent.tak tk ?_ | refine Ent.tak .z ?_)) (hfin (bu, bk))
      · refine o_alloc rfl rfl (fun bk => ⟨(by (repeat' (first | exact Ent.refl _ | refine Ent.wk ?_))), ?_⟩)
        refine a_1 2 (by decide +kernel) rfl rfl (o_make rfl rfl rfl rfl g.Nons.length rfl rfl (by omega) (by omega) rfl (fun bu => ⟨(by (repeat' (first | exact Ent.refl _ | refine Ent.wk ?_))), ?_⟩))
        refine a_n 3 rfl (peval_sound rfl) (by decide +kernel) (by (repeat' (first | exact Ent.refl _ | refine Ent.wk ?_))) rfl ?_
        refine a_1 5 (by decide +kernel) rfl rfl (o_store rfl rfl rfl rfl rfl rfl rfl (.s .z) ⟨(by (repeat' (first | exact Ent.refl _ | refine Ent.wk ?_))), ?_⟩)
        refine a_done (by decide +kernel) ?_
        rw [show List.replicate g.Nons.length (Value.bool false) = (List.replicate g.Nons.length false).map Value.bool from by simp]
        exact s_weak (by repeat' (first | exact Sub.nil _ | refine Sub.cons rfl ?_)) (by repeat' (first | exact Ent.nil _ | refine Ent.tak tk ?_ | refine Ent.tak (.s .z) ?_)) (hfin (bu, bk))
    rintro ⟨bu, bk⟩
    repeat' (first | ((refine e_op ?_); (refine o_n (peval_sound rfl) rfl ?_)) | refine s_seq ?_ | refine s_region ?_)
    refine e_op (o_call (grow_w (σ := List Bool) 22 [.pointer (some ⟨bk, 0, none⟩)] [] (kGram.rd [.slice A0 g.Terms.length c0, .slice A1 g.Levels.length c1, .slice A2 g.Pats.length c2, .slice A3 g.Nons.length c3, .slice (some ⟨b, o, none⟩) g.Prods.length c4] g)
      (fun s => [blk bk 55 (kwC [.slice A0 g.Terms.length c0, .slice A1 g.Levels.length c1, .slice A2 g.Pats.length c2, .slice A3 g.Nons.length c3, .slice (some ⟨b, o, none⟩) g.Prods.length c4] (some ⟨bu, 0, none⟩) g.Nons.length g.Nons.length (.slice none 0 0) (.slice none 0 0)),
        osl 4 1 (.slice (some ⟨bu, 0, none⟩) g.Nons.length g.Nons.length) g.Nons.length (s.map Value.bool)])
      (uRound g.Terms.length g.Prods) (fun s => decide (uRound g.Terms.length g.Prods s ≠ s)) (fun s => g.Nons.length - cnt s) (fun s => s.length = g.Nons.length)
      (fun s hs => useful_w bk [.slice A0 g.Terms.length c0, .slice A1 g.Levels.length c1, .slice A2 g.Pats.length c2, .slice A3 g.Nons.length c3, .slice (some ⟨b, o, none⟩) g.Prods.length c4] g (some ⟨bu, 0, none⟩) g.Nons.length g.Nons.length s hs.symm rfl _ _ hps) (fun s hs => by rw [uRound_len]; exact hs)
      (fun s hs hne => ?_) (List.replicate g.Nons.length false) (by simp)) rfl (.cons .z (.cons .z .nil)) (Can.ro (kGram_mk hG)) rfl ?_)
    · rcases uRound_cnt g.Terms.length g.Prods s with h | h
      · exact absurd h (of_decide_eq_true hne)
      · have := cnt_le (uRound g.Terms.length g.Prods s)
        rw [uRound_len] at this
        omega
    rintro v V ⟨rfl, s, hs, hre, hfr, rfl⟩
    obtain ⟨m, hm⟩ := reach_it hre
    have hfix : uRound g.Terms.length g.Prods s = s := Classical.not_not.1 (of_decide_eq_false hfr)
    have hu : s = uFix g := by
      rw [hm]
      refine uFix_unique ?_
      rw [← hm]; exact hfix
    rw [hfix]
    clear hfr hre hm
    subst hu
    repeat' (first | refine e_nil ?_ | ((refine e_op ?_); (first | refine o_n (peval_sound rfl) rfl ?_ | refine o_n (nl rfl rfl tc rfl) rfl ?_)) | refine s_seq ?_ | refine s_region ?_)
    refine e_op (o_call (hasBoolN_w (some ⟨bu, 0, none⟩) g.Nons.length g.Nons.length (uFix g) hs.symm false) rfl .nil (Can.osl Value.bool rfl kbool_enc (.s .z) (by omega)) rfl ?_)
    rintro v V ⟨rfl, rfl⟩
    have hch : checkE g = if (uFix g).any (fun x => false == x) then 2 else 0 := by
      rw [checkE_u hl hw0]
      have e : (uFix g).all id = !(uFix g).any (fun x => false == x) := by
        rw [List.not_any_eq_all_not]
        congr 1
        funext x; cases x <;> rfl
      rw [e]
      cases (uFix g).any (fun x => false == x) <;> rfl
    repeat' (refine e_nil ?_)
    refine s_cond rfl (fun h => ?_) (fun h => ?_)
    · repeat' (first | refine e_nil ?_ | ((refine e_op ?_); (refine o_n (peval_sound rfl) rfl ?_)) | refine s_seq ?_ | refine s_region ?_)
      refine s_ret ⟨_, _, res1 rfl rfl, ⟨?_, rfl⟩, Ent.nil _⟩
      rw [hch, h]; rfl
    · repeat' (first | refine e_nil ?_ | ((refine e_op ?_); (refine o_n (peval_sound rfl) rfl ?_)) | refine s_seq ?_ | refine s_region ?_ | refine s_skip ?_)
      refine s_ret ⟨_, _, res1 rfl rfl, ⟨?_, rfl⟩, Ent.nil _⟩
      rw [hch, h]; rfl

end Go.Proofs.Ytjeimmekhfhepaa

namespace Go.Proofs.Ytjeimmekhfhepaa.E
set_option linter.all false
open Go.RowKit

/-- What the model reads as a value of a type is data of a kind. -/
def Opn {α : Type} (P : Program) (t : TypeId) (k : Kd α) : Prop :=
  ∀ (H : Type) (enc : TypeId × Value → H) (w : World) (fuel : Nat) (cs : List Value) (x : DataW H × List MemPlace),
    DataW.trod enc P w 0 (fun _ => true) true fuel t cs = some x → (∀ n ∈ x.1.weights P t, n ≤ 140737488351232) → ∃ y, k.R w (fun b => b < w.heap.size) cs y

theorem op_int {P : Program} {t : TypeId} (ht : P.underlying t = some (.int .i64)) : Opn P t kint := by
  intro H enc w fuel cs x h _
  obtain ⟨n, rfl, _, hw⟩ := DataW.trod_int ht h
  refine ⟨n, rfl, ?_⟩
  simp only [Lit.wf, Bool.and_eq_true, decide_eq_true_eq] at hw
  exact hw

theorem op_bool {P : Program} {t : TypeId} (ht : P.underlying t = some .bool) : Opn P t kbool := by
  intro H enc w fuel cs x h _
  obtain ⟨b, rfl, _⟩ := DataW.trod_bool ht h
  exact ⟨b, rfl⟩

theorem op_str {P : Program} {t : TypeId} (ht : P.underlying t = some .string) : Opn P t kstr := by
  intro H enc w fuel cs x h _
  obtain ⟨s, rfl, _⟩ := DataW.trod_string ht h
  exact ⟨s, rfl⟩

theorem op_iso {α β : Type} {P : Program} {t : TypeId} {k : Kd α} {f : β → α} (hs : ∀ y, ∃ x, f x = y) (h : Opn P t k) : Opn P t (kiso k f) := by
  intro H enc w fuel cs x hx hw
  obtain ⟨y, hy⟩ := h H enc w fuel cs x hx hw
  obtain ⟨z, rfl⟩ := hs y
  exact ⟨z, hy⟩

theorem weightsAll_mem {H : Type} {P : Program} {e : TypeId} : ∀ {ds : List (DataW H)} {d : DataW H}, d ∈ ds → ∀ n ∈ d.weights P e, n ∈ DataW.weightsAll P e ds
  | a :: ds, d, hd, n, hn => by
    simp only [DataW.weightsAll, List.mem_append]
    rcases List.mem_cons.1 hd with rfl | h
    · exact .inl hn
    · exact .inr (weightsAll_mem h n hn)
  | [], _, hd, _, _ => by cases hd

theorem op_slice {α : Type} {P : Program} {t e : TypeId} {k : Kd α} {bytes : Nat} (ht : P.underlying t = some (.slice e)) (hb : P.bytesOf e = bytes) (hc : P.cellsOf e = k.sz) (hp : 0 < k.sz) (h : Opn P e k) :
    Opn P t (kslice bytes k) := by
  intro H enc w fuel cs x hx hw
  rcases DataW.trod_slice ht hx with ⟨rfl, _⟩ | ⟨a, len, cap, elems, rest, n, _, rfl, rfl, _, hl, _, hlen, hel, _, _⟩
  · exact ⟨[], none, 0, rfl, Nat.le_refl _, by simp, fun i hi => absurd hi (Nat.not_lt_zero _)⟩
  · simp only [DataW.weights, ht, List.mem_cons, List.mem_append] at hw
    have cells : ∀ i, i < len → ∃ d es, elems[i]? = some d ∧ es.length = k.sz ∧ (∀ j, j < k.sz → w.cell? ((a.add (i * k.sz)).add j) = es[j]?) ∧ DataW.trod enc P w 0 (fun _ => true) true n e es = some d := by
      intro i hi
      have h1 := hel i hi
      obtain ⟨d, hd⟩ : ∃ d, elems[i]? = some d := ⟨elems[i]'(by omega), List.getElem?_eq_getElem _⟩
      rw [hd, Option.bind_eq_some_iff] at h1
      obtain ⟨es, he, hy⟩ := h1
      obtain ⟨_, hlen', hcell⟩ := World.cells?_some he
      rw [hc] at hlen' hcell
      exact ⟨d, es, hd, hlen', hcell, hy⟩
    have hadd : ∀ (a : Addr) (i j : Nat), (a.add i).add j = a.add (i + j) := by
      intro a i j
      unfold Addr.add
      by_cases hi : i = 0
      · subst hi; simp
      · by_cases hj : j = 0
        · subst hj; simp [hi]
        · simp [hi, hj, Nat.add_assoc]
    have form : 0 < len → ∃ b o, a = ⟨b, o, none⟩ ∧ b < w.heap.size := by
      intro h0
      obtain ⟨d, es, _, hl', hcell, _⟩ := cells 0 h0
      have h1 := hcell 0 hp
      obtain ⟨v0, hv0⟩ : ∃ v, es[0]? = some v := ⟨es[0]'(by omega), List.getElem?_eq_getElem _⟩
      rw [hv0, hadd] at h1
      simp only [Nat.zero_mul, Nat.add_zero] at h1
      have ha0 : a.add 0 = a := by simp [Addr.add]
      rw [ha0] at h1
      obtain ⟨b, o, s⟩ := a
      unfold World.cell? at h1
      split at h1
      · rename_i hb
        have hlt : b < w.heap.size := (Array.getElem?_eq_some_iff.1 hb).1
        cases s with
        | none => exact ⟨b, o, rfl, hlt⟩
        | some s => simp at h1
      · cases h1
    have each : ∀ i : Fin len, ∃ y : α, ∃ b o es, (some a : Option Addr) = some ⟨b, o, none⟩ ∧ b < w.heap.size ∧ k.R w (fun b => b < w.heap.size) es y ∧ ∀ j u, es[j]? = some u → w.cell? ⟨b, o + i * k.sz + j, none⟩ = some u := by
      intro ⟨i, hi⟩
      obtain ⟨d, es, hd, hl', hcell, hy⟩ := cells i hi
      obtain ⟨b, o, rfl, hlt⟩ := form (by omega)
      obtain ⟨y, hy⟩ := h H enc w n es d hy fun m hm => hw m (.inr (.inl (weightsAll_mem (List.mem_map_of_mem (List.mem_of_getElem? hd)) m hm)))
      refine ⟨y, b, o, es, rfl, hlt, hy, fun j u hu => ?_⟩
      have hj : j < es.length := (List.getElem?_eq_some_iff.1 hu).1
      have h2 := hcell j (by omega)
      rw [hu, hadd] at h2
      rw [← h2]
      unfold Addr.add
      by_cases h0 : i * k.sz + j = 0
      · rw [if_pos h0, Nat.add_assoc, h0]; rfl
      · rw [if_neg h0, Nat.add_assoc]
    refine ⟨List.ofFn fun i => Classical.choose (each i), some a, cap, by simp, by simpa using hl, ?_, ?_⟩
    · have := hw _ (.inl rfl)
      simp only [List.length_map, hb] at this
      simp only [List.length_ofFn]
      have h3 : len * bytes ≤ (elems.length + rest.length) * bytes := Nat.mul_le_mul_right _ (by omega)
      omega
    · intro i hi
      simp only [List.length_ofFn] at hi
      simp only [List.getElem_ofFn]
      exact Classical.choose_spec (each ⟨i, hi⟩)

/-- What the model reads as the fields of a struct from an offset on. -/
def OpnS {α : Type} (P : Program) (fs : List Field) (k : Kd α) (o : Nat) : Prop :=
  ∀ (H : Type) (enc : TypeId × Value → H) (w : World) (n : Nat) (cs : List Value) (xs : List (DataW H × List MemPlace)), xs.length = fs.length →
    (∀ (i : Nat) (f : Field), fs[i]? = some f → DataW.trod enc P w 0 (fun _ => true) true n f.type ((cs.drop f.offset).take (P.cellsOf f.type)) = xs[i]?) →
    (∀ n ∈ DataW.weightsEach P (fs.map (·.type)) (xs.map (·.1)), n ≤ 140737488351232) → ∃ y, k.R w (fun b => b < w.heap.size) ((cs.drop o).take k.sz) y

theorem ops_one {α : Type} {P : Program} {f : Field} {k : Kd α} (hc : P.cellsOf f.type = k.sz) (h : Opn P f.type k) : OpnS P [f] k f.offset := by
  intro H enc w n cs xs hl hx hw
  match xs, hl with
  | [x], _ =>
    have h0 := hx 0 f rfl
    rw [hc] at h0
    exact h H enc w n _ x h0 fun m hm => hw m (by simp [DataW.weightsEach, hm])

theorem ops_cons {α β : Type} {P : Program} {f : Field} {fs : List Field} {k : Kd α} {l : Kd β} {o : Nat} (hc : P.cellsOf f.type = k.sz) (h : Opn P f.type k) (ho : f.offset + k.sz = o) (hs : OpnS P fs l o) :
    OpnS P (f :: fs) (kpair k l) f.offset := by
  intro H enc w n cs xs hl hx hw
  match xs, hl with
  | x :: xs, hl =>
    have h0 := hx 0 f rfl
    rw [hc] at h0
    obtain ⟨y, hy⟩ := h H enc w n _ x h0 fun m hm => hw m (by simp [DataW.weightsEach, hm])
    obtain ⟨z, hz⟩ := hs H enc w n cs xs (by simpa using hl) (fun i g hg => hx (i + 1) g (by simpa using hg)) fun m hm => hw m (by simp only [List.map_cons, DataW.weightsEach, List.mem_append]; exact .inr hm)
    refine ⟨(y, z), _, _, ?_, hy, hz⟩
    show (cs.drop f.offset).take (k.sz + l.sz) = _
    rw [List.take_add, List.drop_drop, ho]

theorem op_struct {α : Type} {P : Program} {t : TypeId} {fs : Array Field} {k : Kd α} (ht : P.underlying t = some (.struct fs)) (hc : P.cellsOf t = k.sz) (h : OpnS P fs.toList k 0) : Opn P t k := by
  intro H enc w fuel cs x hx hw
  obtain ⟨xs, n, _, rfl, hl, hlen, hf⟩ := DataW.trod_struct ht hx
  simp only [DataW.weights, ht] at hw
  obtain ⟨y, hy⟩ := h H enc w n cs xs (by simpa using hlen) (fun i f hi => hf i f (by simpa using hi)) hw
  rw [List.drop_zero, List.take_of_length_le (by rw [hl, hc]; exact Nat.le_refl _)] at hy
  exact ⟨y, hy⟩

/-- A parameter of a law: the kind's reading, out of the model's. -/
theorem op_arg {H α : Type} {P : Program} {t : TypeId} {k : Kd α} (ho : Opn P t k) {enc : TypeId × Value → H} {w : World} {fuel : Nat} {cs : List Value} {x : DataW H × List MemPlace} {ts : List TypeId} {ds : List (DataW H)} {j : Nat}
    (hx : DataW.trod enc P w 0 (fun _ => true) true fuel t cs = some x) (hz : (DataW.weightsEach P ts ds).all (· ≤ reachBytes) = true) (ht : ts[j]? = some t) (hd : ds[j]? = some x.1) : ∃ y, k.R w (fun b => b < w.heap.size) cs y :=
  ho H enc w fuel cs x hx fun n hn => of_decide_eq_true (List.all_eq_true.1 hz _ (DataW.weights_mem_each ht hd n hn))

/-- From a contract that owns nothing to the walk of a law. -/
theorem Trip.law {P : Program} {f : FuncId} {args : List Value} {R : Rd} {v : Value} (h : Trip P f args R [] (fun u V => u = v ∧ V = [])) (w : World) (hR : R.P w (fun b => b < w.heap.size)) :
    Calls P f args.toArray w fun e w' => e = .returned v ∧ Below w.heap.size w w' :=
  (h.calls w (fun _ => False) (fun _ h => h.elim) trivial (R.mono _ _ _ (fun _ hb => ⟨hb, fun h => h⟩) hR)).mono
    fun _ _ ⟨_, _, _, he, ⟨hv, _⟩, _, _, st⟩ => ⟨hv ▸ he, st.os, st.tape, st.output, st.size, fun b hb => st.same b hb fun h => h⟩

end Go.Proofs.Ytjeimmekhfhepaa.E

namespace Go.Proofs.Ytjeimmekhfhepaa.E
set_option linter.all false
variable {E : Env} {fr : Frm} {U : List Asn} {N : Frm → List Asn → Prop}

/-- Data of a kind, in blocks of one's own. -/
def rdA {α : Type} (k : Kd α) (cs : List Value) (x : α) : Asn := ⟨fun w S => k.R w S cs x, fun _ _ _ h hr => k.fr h hr⟩

/-- Several data of a kind. -/
def rdL {α : Type} (k : Kd α) (ess : List (List Value)) (xs : List α) : Asn :=
  ⟨fun w S => ess.length = xs.length ∧ ∀ i (h1 : i < ess.length) (h2 : i < xs.length), k.R w S ess[i] xs[i], fun _ _ _ h ⟨hl, hr⟩ => ⟨hl, fun i h1 h2 => k.fr h (hr i h1 h2)⟩⟩

theorem Can.rdA {α : Type} {k : Kd α} {cs : List Value} {x : α} {U' : List Asn} (ht : Tak (rdA k cs x) U U') : Can E U (k.rd cs x) :=
  Can.of fun _ _ hs => by
    obtain ⟨_, h1, hsub⟩ := ht.mem hs
    exact k.mono hsub h1

/-- Two assertions, each of which allows its set to grow, as one. -/
theorem Ent.two {A B C : Asn} {U : List Asn} (h : ∀ w S1 S2, A.P w S1 → B.P w S2 → C.P w (fun b => S1 b ∨ S2 b)) : Ent (A :: B :: U) (C :: U) := by
  rintro w S ⟨S1, S2, h1, ⟨S3, S4, h3, h4, hd2, j1, j2⟩, hd, i1, i2⟩
  refine ⟨fun b => S1 b ∨ S3 b, S4, h w S1 S3 h1 h3, h4, ?_, ?_, fun b hb => i2 b (j2 b hb)⟩
  · rintro b (hb | hb) hc
    · exact hd b hb (j2 b hc)
    · exact hd2 b hb hc
  · rintro b (hb | hb)
    · exact i1 b hb
    · exact i2 b (j1 b hb)

theorem Ent.one {A C : Asn} {U : List Asn} (h : ∀ w S, A.P w S → C.P w S) : Ent (A :: U) (C :: U) := by
  rintro w S ⟨S1, S2, h1, h2, hd, i1, i2⟩
  exact ⟨S1, S2, h w S1 h1, h2, hd, i1, i2⟩

theorem ent_nilL {α : Type} {k : Kd α} : Ent U (rdL k [] ([] : List α) :: U) := fun w S hs =>
  ⟨fun _ => False, S, ⟨rfl, fun i h1 => absurd h1 (Nat.not_lt_zero _)⟩, hs, fun _ h => h.elim, fun _ h => h.elim, fun _ h => h⟩

theorem ent_snoc {α : Type} {k : Kd α} {ess : List (List Value)} {xs : List α} {es : List Value} {x : α} : Ent (rdL k ess xs :: rdA k es x :: U) (rdL k (ess ++ [es]) (xs ++ [x]) :: U) :=
  Ent.two fun w S1 S2 ⟨hl, h1⟩ h2 => ⟨by simp [hl], fun i h3 h4 => by
    by_cases hi : i < ess.length
    · rw [List.getElem_append_left hi, List.getElem_append_left (by omega)]
      exact k.mono (fun _ h => .inl h) (h1 i hi (by omega))
    · have e1 : i = ess.length := by simp at h3; omega
      subst e1
      have e2 : (ess ++ [es])[ess.length]'h3 = es := by simp
      have e3 : (xs ++ [x])[ess.length]'h4 = x := by simp [hl]
      rw [e2, e3]
      exact k.mono (fun _ h => .inr h) h2⟩

theorem ent_slice {α : Type} {k : Kd α} {bytes n c : Nat} {e : TypeId} {A : Option Addr} {ess : List (List Value)} {xs : List α} (hn : n = xs.length) (hb : n * bytes ≤ 140737488355328) :
    Ent (osl e k.sz (.slice A n c) n ess.flatten :: rdL k ess xs :: U) (rdA (kslice bytes k) [.slice A n c] xs :: U) :=
  Ent.two fun w S1 S2 h1 ⟨hl, h2⟩ => by
    obtain ⟨h3, h4⟩ := osl_elsG (S := fun b => S1 b ∨ S2 b) h1 (fun _ h => .inl h) hl hn fun i h1 h2' => k.mono (fun _ h => .inr h) (h2 i h1 h2')
    subst hn
    exact ⟨A, c, rfl, h4, hb, h3⟩

theorem ent_pair {α β : Type} {a : Kd α} {b : Kd β} {c1 c2 : List Value} {x : α} {y : β} : Ent (rdA a c1 x :: rdA b c2 y :: U) (rdA (kpair a b) (c1 ++ c2) (x, y) :: U) :=
  Ent.two fun _ _ _ h1 h2 => ⟨c1, c2, rfl, a.mono (fun _ h => .inl h) h1, b.mono (fun _ h => .inr h) h2⟩

/-- Data that holds no address. -/
def Flat {α : Type} (k : Kd α) : Prop := ∀ w S w' S' cs x, k.R w S cs x → k.R w' S' cs x

theorem flat_int : Flat kint := fun _ _ _ _ _ _ h => h
theorem flat_bool : Flat kbool := fun _ _ _ _ _ _ h => h
theorem flat_str : Flat kstr := fun _ _ _ _ _ _ h => h
theorem flat_pair {α β : Type} {a : Kd α} {b : Kd β} (ha : Flat a) (hb : Flat b) : Flat (kpair a b) := fun w S w' S' _ _ ⟨c1, c2, h, h1, h2⟩ => ⟨c1, c2, h, ha w S w' S' _ _ h1, hb w S w' S' _ _ h2⟩
theorem flat_iso {α β : Type} {a : Kd α} {f : β → α} (ha : Flat a) : Flat (kiso a f) := fun w S w' S' cs x h => ha w S w' S' cs (f x) h

def OneC {α : Type} (k : Kd α) : Prop := ∀ w S cs x, k.R w S cs x → ∀ u ∈ cs, oneB u = true
theorem onec_int : OneC kint := by rintro w S cs x ⟨rfl, _⟩ u hu; simp at hu; subst hu; rfl
theorem onec_bool : OneC kbool := by rintro w S cs x rfl u hu; simp at hu; subst hu; rfl
theorem onec_str : OneC kstr := by rintro w S cs x rfl u hu; simp at hu; subst hu; rfl
theorem onec_pair {α β : Type} {a : Kd α} {b : Kd β} (ha : OneC a) (hb : OneC b) : OneC (kpair a b) := by
  rintro w S cs x ⟨c1, c2, rfl, h1, h2⟩ u hu
  rcases List.mem_append.1 hu with h | h
  · exact ha w S _ _ h1 u h
  · exact hb w S _ _ h2 u h
theorem onec_iso {α β : Type} {a : Kd α} {f : β → α} (ha : OneC a) : OneC (kiso a f) := fun w S cs x h => ha w S cs (f x) h

theorem flatten_get {sz : Nat} : ∀ (ess : List (List Value)) (_ : ∀ es ∈ ess, es.length = sz) (j : Nat) (u : Value), ess.flatten[j]? = some u → ∃ i r, ∃ (h : i < ess.length), j = i * sz + r ∧ ess[i][r]? = some u
  | [], _, j, u, h => by simp at h
  | e0 :: ess, hall, j, u, h => by
    have h0 := hall e0 (List.mem_cons_self ..)
    rw [List.flatten_cons] at h
    by_cases hj : j < e0.length
    · rw [List.getElem?_append_left hj] at h
      exact ⟨0, j, by simp, by omega, by simpa using h⟩
    · rw [List.getElem?_append_right (by omega)] at h
      obtain ⟨i, r, hi, hjr, hu⟩ := flatten_get ess (fun es hes => hall es (List.mem_cons_of_mem _ hes)) _ _ h
      exact ⟨i + 1, r, by simpa using hi, by rw [Nat.succ_mul]; omega, by simpa using hu⟩

/-- The cells of a slice's elements, in a row. -/
theorem els_cells {α : Type} {k : Kd α} {w : World} {S : BSet} {b o : Nat} {xs : List α} (h : Els k w S (some ⟨b, o, none⟩) xs) :
    ∃ ess : List (List Value), ess.length = xs.length ∧ (∀ i (h1 : i < ess.length) (h2 : i < xs.length), k.R w S ess[i] xs[i]) ∧ (∀ es ∈ ess, es.length = k.sz) ∧
      ∀ j u, ess.flatten[j]? = some u → w.cell? ⟨b, o + j, none⟩ = some u := by
  have each : ∀ i : Fin xs.length, ∃ es, k.R w S es xs[i.1] ∧ ∀ j u, es[j]? = some u → w.cell? ⟨b, o + i.1 * k.sz + j, none⟩ = some u := by
    rintro ⟨i, hi⟩
    obtain ⟨b', o', es, hA, _, hR, hc⟩ := h i hi
    simp only [Option.some.injEq, Addr.mk.injEq, and_true] at hA
    obtain ⟨rfl, rfl⟩ := hA
    exact ⟨es, hR, hc⟩
  refine ⟨List.ofFn fun i => Classical.choose (each i), by simp, ?_, ?_, ?_⟩
  · intro i h1 h2
    simp only [List.getElem_ofFn]
    exact (Classical.choose_spec (each ⟨i, h2⟩)).1
  · intro es hes
    rw [List.mem_ofFn] at hes
    obtain ⟨i, rfl⟩ := hes
    exact k.len (Classical.choose_spec (each i)).1
  · intro j u hu
    obtain ⟨i, r, hi, rfl, hu2⟩ := flatten_get (sz := k.sz) _ (by
      intro es hes
      rw [List.mem_ofFn] at hes
      obtain ⟨i, rfl⟩ := hes
      exact k.len (Classical.choose_spec (each i)).1) _ _ hu
    simp only [List.getElem_ofFn] at hu2
    have h2 : i < xs.length := by simpa using hi
    have := (Classical.choose_spec (each ⟨i, h2⟩)).2 r u hu2
    rw [← Nat.add_assoc]
    exact this

/-- append(nil, l...): a copy of a slice that is read. -/
theorem o_copy {α : Type} {k : Kd α} {bytes : Nat} {d : Nat} {t e : TypeId} {x y : Operand} {ty : TypeId} {pos : String} {af : Array Edge} {g : Option (Nat × Bool)} {s1 b1 : Nat} {z1 : List Value} {i : TI}
    {A : Option Addr} {n c : Nat} {xs : List α} (hf : Flat k) (ho : OneC k)
    (ht : tl E.T t = some ⟨.slice e, s1, b1, z1⟩) (he : tl E.T e = some i) (hx : val fr x = some (.slice none 0 0)) (hy : val fr y = some (.slice A n c)) (hn : n = xs.length)
    (hr : Can E U ((kslice bytes k).rd [.slice A n c] xs)) (hsz : i.size = k.sz) (hbb : i.bytes = bytes) (hby : n * bytes ≤ 140737488355328) (hp : Nat.ble 1 bytes = true)
    (hzl : Nat.beq i.zero.length i.size = true) (hd : Nat.ble (d + 1) E.n = true)
    (h : ∀ A' c', N ((d, .slice A' n c') :: fr) (rdA (kslice bytes k) [.slice A' n c'] xs :: U)) :
    EV1 E ⟨some d, .call ⟨.builtin .append, #[x, y], #[t, t]⟩, ty, pos, af, g⟩ fr U N := by
  have hp' := Nat.le_of_ble_eq_true hp
  intro a w hfr hm
  obtain ⟨S, hs, hS⟩ := hm.own
  obtain ⟨A2, c2, hA, hc, _, hels⟩ := hr w S hm.same hs
  simp only [List.cons.injEq, Value.slice.injEq, and_true] at hA
  obtain ⟨rfl, _, rfl⟩ := hA
  by_cases hn0 : n = 0
  · subst hn0
    have hxs : xs = [] := List.eq_nil_of_length_eq_zero hn.symm
    subst hxs
    have h0 := n_append0 (E := E) (fr := fr) (U := U) (c := 0) ht he hx hy (Nat.le_refl _) a w (some d) ty pos af g hfr hm
    unfold Oper.wp
    rw [h0]
    refine ⟨_, _, h none 0, hfr.put (Nat.le_of_ble_eq_true hd) _, hm.ent ?_⟩
    exact fun w S hs => ⟨fun _ => False, S, ⟨none, 0, rfl, Nat.le_refl _, by simp, fun i hi => absurd hi (Nat.not_lt_zero _)⟩, hs, fun _ h => h.elim, fun _ h => h.elim, fun _ h => h⟩
  · have hx0 : 0 < xs.length := by omega
    obtain ⟨b, o, es, rfl, _, _, _⟩ := hels 0 hx0
    obtain ⟨ess, hl, hR, hlen, hcell⟩ := els_cells hels
    have h63 : n ≤ 9223372036854775807 := by
      have : n * 1 ≤ n * bytes := Nat.mul_le_mul_left _ hp'
      omega
    have hfl : ess.flatten.length = n * i.size := by
      rw [List.length_flatten, hsz, hn, ← hl]
      have : ess.map List.length = ess.map fun _ => k.sz := List.map_congr_left hlen
      rw [this]
      clear this hcell hR hlen hl
      induction ess with
      | nil => simp
      | cons e0 ess ih => simp only [List.map_cons, List.sum_cons, ih, List.length_cons, Nat.succ_mul]; omega
    have hone : ∀ u ∈ ess.flatten, oneB u = true := by
      intro u hu
      rw [List.mem_flatten] at hu
      obtain ⟨es', hes, hu⟩ := hu
      obtain ⟨i', hi', rfl⟩ := List.getElem_of_mem hes
      exact ho w _ _ _ (hR i' hi' (by omega)) u hu
    obtain ⟨dd, sz, bts, z⟩ := i
    obtain ⟨inf, zv, hinf, hzv, hs', hbb', hzc⟩ := ti_info he
    have hzsize : zv.cells.size = inf.size := by rw [hzc, hs']; simpa using Nat.eq_of_beq_eq_true hzl
    simp only at hfl hsz hbb
    subst hs'
    subst hbb'
    subst hbb
    have hO0 : w.ownsRow 0 e inf.size (.slice none 0 0) 0 [] := ⟨by simp, .inl ⟨rfl, rfl⟩⟩
    obtain ⟨b', c', w', hrun, hO', hgr, hb'⟩ := append_own2 (P := E.P) w t ty e inf zv (u_slice ht) hinf hzv hzsize (.slice none 0 0) 0 [] hO0 ⟨b, o, none⟩ n c ess.flatten hfl
      (fun j u hu => by rw [add_at]; exact hcell j u hu) (fun u hu => oneB_eq (hone u hu)) (by omega) (by omega) (by simpa using hby)
    have hst := step_grown hgr
    have hbe : b' = w.heap.size := by
      rcases hb' with h | h
      · cases h
      · exact h
    have hblt : b' < w'.heap.size := (World.ownsRow.lt hO' b' rfl).2
    unfold Oper.wp execOp
    simp only [resolve, invoke, builtin, Sem.run_bind, Sem.run_pure, Result.andThen_ok, List.map_toArray, List.map_cons, List.map_nil, hfr.eval hx, hfr.eval hy, hrun]
    rw [Nat.zero_add, List.nil_append, hsz] at hO'
    rw [Nat.zero_add]
    refine ⟨_, _, h (some ⟨b', 0, none⟩) c', hfr.put (Nat.le_of_ble_eq_true hd) _, hm.new (T1 := fun q => q = b') ⟨hst.os, hst.tape, hst.output, hst.size, fun q hq _ => hst.same q hq (by intro e; cases e)⟩ ?_ ?_⟩
    · obtain ⟨h3, h4⟩ := osl_elsG (kd := k) (S := fun q => q = b') (S1 := fun q => q = b') (xs := xs) ⟨hO', fun q hq => by simpa [Value.ownBlock] using hq.symm⟩ (fun _ h => h) hl hn fun i h1 h2 => hf w _ _ _ _ _ (hR i h1 h2)
      subst hn
      exact ⟨_, c', rfl, h4, hby, h3⟩
    · rintro q rfl
      exact ⟨hblt, by omega⟩

theorem ent_can {α : Type} {k : Kd α} {cs : List Value} {x : α} {A : Asn} (P : Program) (h : ∀ E : Env, Can E [A] (k.rd cs x)) : Ent (A :: U) (rdA k cs x :: U) :=
  Ent.one fun w S hA => k.mono (fun b hb => hb.elim (fun h => absurd trivial h.2) id)
    (h ⟨P, [], (fun _ h => nomatch h), 0, w, fun _ => True⟩ w S (fun _ _ => rfl) ⟨S, fun _ => False, hA, trivial, fun _ _ h => h, fun _ h => h, fun _ h => h.elim⟩)

/-- A contract, what comes back told otherwise. -/
theorem Trip.monoE {P : Program} {f : FuncId} {args : List Value} {R : Rd} {Ms : List Asn} {Q Q' : Value → List Asn → Prop} (h : Trip P f args R Ms Q) (hq : ∀ v V, Q v V → ∃ V', Q' v V' ∧ Ent V V') : Trip P f args R Ms Q' :=
  ⟨h.enters, fun w SM h1 h2 h3 => (h.calls w SM h1 h2 h3).mono fun _ _ ⟨v, V, S, a, b, c, d⟩ => by
    obtain ⟨V', hV', he⟩ := hq v V b
    exact ⟨v, V', S, a, hV', he _ _ c, d⟩⟩

theorem ent_nilS {α : Type} {k : Kd α} {bytes : Nat} : Ent U (rdA (kslice bytes k) [.slice none 0 0] ([] : List α) :: U) := fun w S hs =>
  ⟨fun _ => False, S, ⟨none, 0, rfl, Nat.le_refl _, by simp, fun i h1 => absurd h1 (Nat.not_lt_zero _)⟩, hs, fun _ h => h.elim, fun _ h => h.elim, fun _ h => h⟩

/-- The ways through a region meet at its end. -/
theorem e_join {K : Frm → List Asn → Prop} {k : List It} {ops : Array Oper} {l : List Oper} {ι : Type} (frX : ι → Frm) (UX : ι → List Asn) (hfin : ∀ x, EVS E K k (frX x) (UX x))
    (h : (∀ x, EVS E K k (frX x) (UX x)) → EVO E K k ops l fr U) : EVO E K k ops l fr U := h hfin

theorem e_joinU {K : Frm → List Asn → Prop} {k : List It} {ops : Array Oper} {l : List Oper} (frX : Frm) (hfin : EVS E K k frX U) (h : EVS E K k frX U → EVO E K k ops l fr U) : EVO E K k ops l fr U := h hfin

/-- A slice of slices, opened, its parts behind what is loaded often. -/
theorem ent_rows {α : Type} {enc : α → Value} {eo ei : TypeId} {v : Value} {n : Nat} {acs : List (Option Addr × Nat)} {rows : List (List α)} {V W : List Asn} (hl : acs.length = rows.length) :
    Ent (osl eo 1 v n (rowC acs rows) :: (V ++ (rowL enc ei acs rows ++ W))) (orow enc eo ei v n rows :: (V ++ W)) := by
  refine Ent.ex (φ := fun acs : List (Option Addr × Nat) => acs.length = rows.length) acs hl ?_
  rw [List.cons_append]
  exact Ent.cons Ent.comm3

end Go.Proofs.Ytjeimmekhfhepaa.E

namespace Go.Proofs.Ytjeimmekhfhepaa.E
set_option linter.all false
variable {E : Env} {fr : Frm} {U : List Asn} {N : Frm → List Asn → Prop}

theorem n_rem {x y : Operand} {t t2 : TypeId} {k : IntKind} {a b : Int} (hx : val fr x = some (.int k a)) (hy : val fr y = some (.int k b)) (hb : b ≠ 0) : NEV E (.binOp .rem t x y t2) fr U (.int k (a.tmod b)) := by
  intro ac w dst ty pos af g hf _
  simp [execOp, hf.eval hx, hf.eval hy, eqGuard, binOp, Op.intDiv, hb]

/-- append(l, m...): both are one's own. -/
theorem o_appendO {d : Nat} {t e : TypeId} {x y : Operand} {ty : TypeId} {pos : String} {af : Array Edge} {g : Option (Nat × Bool)} {s1 b1 : Nat} {z1 : List Value} {i : TI} {A B : Option Addr} {n c m c2 : Nat} {xs ys : List Value} {W : List Asn}
    (U' : Option Addr → Nat → List Asn) (ht : tl E.T t = some ⟨.slice e, s1, b1, z1⟩) (he : tl E.T e = some i) (hx : val fr x = some (.slice A n c)) (hy : val fr y = some (.slice B m c2))
    (hs : Tak (osl e i.size (.slice B m c2) m ys) U W) (h1 : ∀ u ∈ ys, oneB u = true)
    (hzl : Nat.beq i.zero.length i.size = true) (hby : (n + m) * i.bytes ≤ 140737488355328) (h63 : n + m ≤ 9223372036854775807) (hd : Nat.ble (d + 1) E.n = true)
    (hU : ∀ A' c', Upd (osl e i.size (.slice A n c) n xs) (osl e i.size (.slice A' (n + m) c') (n + m) (xs ++ ys)) U (U' A' c'))
    (h : ∀ A' c', N ((d, .slice A' (n + m) c') :: fr) (U' A' c')) :
    EV1 E ⟨some d, .call ⟨.builtin .append, #[x, y], #[t, t]⟩, ty, pos, af, g⟩ fr U N := by
  intro a w hf hm
  obtain ⟨S2, hP2, _⟩ := hm.tak hs
  by_cases hm0 : m = 0
  · subst hm0
    have hys : ys = [] := List.eq_nil_of_length_eq_zero (by have := hP2.1.1; simpa using this)
    subst hys
    obtain ⟨S1, hP1, hlt, hk⟩ := hm.upd (hU A c)
    have hnc : n ≤ c := by
      rcases hP1.1.2 with ⟨hv, hn⟩ | ⟨g', cap, cur, hv, _, _, hnc, _⟩
      · omega
      · simp only [Value.slice.injEq] at hv; omega
    have h0 := n_append0 (E := E) (fr := fr) (U := U) ht he hx hy hnc a w (some d) ty pos af g hf hm
    unfold Oper.wp
    rw [h0]
    refine ⟨_, _, h A c, hf.put (Nat.le_of_ble_eq_true hd) _, hk w S1 (Step.refl w S1) ?_ (fun b hb => ⟨hlt b hb, .inl hb⟩)⟩
    rw [List.append_nil, Nat.add_zero]
    exact hP1
  · obtain ⟨g2, rfl⟩ := osl_form hP2 (by omega)
    refine o_append (g2 := g2) (o2 := 0) (news := ys) (xs := xs) (v := .slice A n c) (n := n) (m := m) (fun b c => U' (some ⟨b, 0, none⟩) c) ht he hx hy (fun w' hm' j u hu => ?_) hP2.1.1 h1 hzl (by omega) hby h63 hd (fun b c => hU _ _) (fun b c => h _ _) a w hf hm
    obtain ⟨S3, hP3, _⟩ := hm'.tak hs
    rw [Nat.zero_add]
    exact osl_cells hP3 j u hu

theorem oneB_ints (l : List Int) : ∀ u ∈ l.map (Value.int .i64), oneB u = true := by
  intro u hu
  obtain ⟨x, _, rfl⟩ := List.mem_map.1 hu
  rfl

/-- A slice of numbers of one's own, read. -/
theorem can_ints {e : TypeId} {A : Option Addr} {n c : Nat} {l : List Int} {U' : List Asn} (ht : Tak (osl e 1 (.slice A n c) n (l.map (Value.int .i64))) U U') (hI : ∀ x ∈ l, I64 x) (hb : n * 8 ≤ 140737488355328) : Can E U ((kslice 8 kint).rd [.slice A n c] l) :=
  Can.of fun w S hs => by
    obtain ⟨S1, h1, hsub⟩ := ht.mem hs
    have hn : n = l.length := by have := h1.1.1; simpa using this.symm
    have h2 : (osl e kint.sz (.slice A n c) n (l.map fun x => [Value.int .i64 x]).flatten).P w S1 := by
      have : (l.map fun x => [Value.int .i64 x]).flatten = l.map (Value.int .i64) := by
        clear h1 hn ht hI
        induction l with
        | nil => rfl
        | cons a l ih => simp [ih]
      rw [this]; exact h1
    obtain ⟨h3, h4⟩ := osl_elsG (xs := l) h2 hsub (by simp) hn fun i h1 h2 => by
      simp only [List.getElem_map]
      exact ⟨rfl, hI _ (List.getElem_mem _)⟩
    subst hn
    exact ⟨A, c, rfl, h4, hb, h3⟩

/-- An element of a slice that is one's own to read: one cell, told by what it is. -/
theorem n_load_rd {α : Type} {k : Kd α} {bytes n c : Nat} {xs : List α} (enc : α → Value) (hk : ∀ w S cs x, k.R w S cs x → cs = [enc x]) {t : TypeId} {x : Operand} {i : TI} {b o o' : Nat} {U' : List Asn}
    (hx : val fr x = some (.pointer (some ⟨b, o', none⟩))) (ht : tl E.T t = some i) (ha : aggB i.d = false) (hU : Tak (rdA (kslice bytes k) [.slice (some ⟨b, o, none⟩) n c] xs) U U') (j : Nat) (hj : j < xs.length) (hs : k.sz = 1) (ho : o' = o + j * 1) :
    NEV E (.load t x) fr U (enc xs[j]) :=
  n_load_of hx ht fun w S hst => by
    obtain ⟨S1, ⟨A, c', e, _, _, hels⟩, _⟩ := hU.mem hst
    simp only [List.cons.injEq, Value.slice.injEq, and_true] at e
    obtain ⟨rfl, _, rfl⟩ := e
    obtain ⟨b', o2, es, hA, _, hR, hc⟩ := hels j hj
    simp only [Option.some.injEq, Addr.mk.injEq, and_true] at hA
    obtain ⟨rfl, rfl⟩ := hA
    have := hk _ _ _ _ hR
    subst this
    have h0 := hc 0 _ rfl
    rw [hs, Nat.add_zero, ← ho] at h0
    exact loads_one ha h0

theorem rd_form {α : Type} {k : Kd α} {bytes n c : Nat} {xs : List α} {A : Option Addr} {w : World} {S : BSet} (h : (rdA (kslice bytes k) [.slice A n c] xs).P w S) (hm : 0 < xs.length) : ∃ b o, A = some ⟨b, o, none⟩ := by
  obtain ⟨A', c', e, _, _, hels⟩ := h
  simp only [List.cons.injEq, Value.slice.injEq, and_true] at e
  obtain ⟨rfl, _, rfl⟩ := e
  obtain ⟨b', o2, es, hA, _⟩ := hels 0 hm
  exact ⟨b', o2, hA⟩

theorem s_openR {K : Frm → List Asn → Prop} {k : List It} {cd : Code} {α : Type} {kd : Kd α} {bytes n c : Nat} {xs : List α} {A : Option Addr} {U' : List Asn}
    (ht : Tak (rdA (kslice bytes kd) [.slice A n c] xs) U U') (hm : 0 < xs.length) (h : ∀ b o, A = some ⟨b, o, none⟩ → EVS E K (.code cd :: k) fr U) : EVS E K (.code cd :: k) fr U := by
  intro a w hf hme
  obtain ⟨S1, hP, _⟩ := hme.tak ht
  obtain ⟨b, o, hb⟩ := rd_form hP hm
  exact h b o hb a w hf hme

theorem e_openR {K : Frm → List Asn → Prop} {k : List It} {ops : Array Oper} {l : List Oper} {α : Type} {kd : Kd α} {bytes n c : Nat} {xs : List α} {A : Option Addr} {U' : List Asn}
    (ht : Tak (rdA (kslice bytes kd) [.slice A n c] xs) U U') (hm : 0 < xs.length) (h : ∀ b o, A = some ⟨b, o, none⟩ → EVO E K k ops l fr U) : EVO E K k ops l fr U := by
  intro a w hf hme
  obtain ⟨S1, hP, _⟩ := hme.tak ht
  obtain ⟨b, o, hb⟩ := rd_form hP hm
  exact h b o hb a w hf hme

theorem kbool_is (w : World) (S : BSet) (cs : List Value) (x : Bool) (h : kbool.R w S cs x) : cs = [.bool x] := h

end Go.Proofs.Ytjeimmekhfhepaa.E

namespace Go.Proofs.Ytjeimmekhfhepaa.E
set_option linter.all false
variable {E : Env} {fr : Frm} {U : List Asn} {N : Frm → List Asn → Prop}

/-- l[1:] -/
theorem n_tail {t e : TypeId} {x : Operand} {s1 b1 : Nat} {z1 : List Value} {i : TI} {A : Option Addr} {n c : Nat} {k : IntKind}
    (ht : tl E.T t = some ⟨.slice e, s1, b1, z1⟩) (he : tl E.T e = some i) (hx : val fr x = some (.slice A n c)) (hn : 1 ≤ n) :
    NEV E (.slice t x (some (.const (.int k 1))) none none) fr U (.slice (if c = 1 then A else A.map (·.add (1 * i.size))) (n - 1) (c - 1)) := by
  intro a w dst ty pos af g hf _
  obtain ⟨dd, sz, bytes, z⟩ := i
  obtain ⟨inf, zv, hinf, hzv, hs, hbb, hzc⟩ := ti_info he
  have hu := u_slice ht
  have hel : E.P.elem t = e := by simp [Program.elem, hu]
  have hsz : (sizeOf e).run E.P w = .ok sz w := by simp [sizeOf, run_info hinf, hs]
  have hr := run_slice_l (P := E.P) (w := w) t A n c (by rw [hel]; exact hu) k 1 (by omega) (by omega)
  rw [hel, hsz] at hr
  have ha := run_sliceAt_slice (P := E.P) (w := w) t (.slice A n c) (some (.int k 1)) none none (by rw [hel]; exact hu)
  rw [hr] at ha
  have hev : a.eval (.const (.int k 1)) = .int k 1 := rfl
  simp [execOp, hf.eval hx, hev, ha, sliced, Result.andThen]

/-- append(l, m...): l is one's own; m's cells are known. -/
theorem o_appendS {d : Nat} {t e : TypeId} {x y : Operand} {ty : TypeId} {pos : String} {af : Array Edge} {g : Option (Nat × Bool)} {s1 b1 : Nat} {z1 : List Value} {i : TI} {A B : Option Addr} {n c m c2 : Nat} {xs ys : List Value}
    (U' : Option Addr → Nat → List Asn) (ht : tl E.T t = some ⟨.slice e, s1, b1, z1⟩) (he : tl E.T e = some i) (hx : val fr x = some (.slice A n c)) (hy : val fr y = some (.slice B m c2))
    (hl : ys.length = m * i.size) (hB : 0 < m → ∃ g2 o2, B = some ⟨g2, o2, none⟩ ∧ ∀ w, Mem E U w → ∀ j u, ys[j]? = some u → w.cell? ⟨g2, o2 + j, none⟩ = some u) (h1 : ∀ u ∈ ys, oneB u = true)
    (hzl : Nat.beq i.zero.length i.size = true) (hby : (n + m) * i.bytes ≤ 140737488355328) (h63 : n + m ≤ 9223372036854775807) (hd : Nat.ble (d + 1) E.n = true)
    (hU : ∀ A' c', Upd (osl e i.size (.slice A n c) n xs) (osl e i.size (.slice A' (n + m) c') (n + m) (xs ++ ys)) U (U' A' c'))
    (h : ∀ A' c', N ((d, .slice A' (n + m) c') :: fr) (U' A' c')) :
    EV1 E ⟨some d, .call ⟨.builtin .append, #[x, y], #[t, t]⟩, ty, pos, af, g⟩ fr U N := by
  intro a w hf hm
  by_cases hm0 : m = 0
  · subst hm0
    have hys : ys = [] := List.eq_nil_of_length_eq_zero (by simpa using hl)
    subst hys
    obtain ⟨S1, hP1, hlt, hk⟩ := hm.upd (hU A c)
    have hnc : n ≤ c := by
      rcases hP1.1.2 with ⟨hv, hn⟩ | ⟨g', cap, cur, hv, _, _, hnc, _⟩
      · omega
      · simp only [Value.slice.injEq] at hv; omega
    have h0 := n_append0 (E := E) (fr := fr) (U := U) ht he hx hy hnc a w (some d) ty pos af g hf hm
    unfold Oper.wp
    rw [h0]
    refine ⟨_, _, h A c, hf.put (Nat.le_of_ble_eq_true hd) _, hk w S1 (Step.refl w S1) ?_ (fun b hb => ⟨hlt b hb, .inl hb⟩)⟩
    rw [List.append_nil, Nat.add_zero]
    exact hP1
  · obtain ⟨g2, o2, rfl, hc⟩ := hB (by omega)
    exact o_append (g2 := g2) (o2 := o2) (news := ys) (xs := xs) (v := .slice A n c) (n := n) (m := m) (fun b c => U' (some ⟨b, 0, none⟩) c) ht he hx hy hc hl h1 hzl (by omega) hby h63 hd (fun b c => hU _ _) (fun b c => h _ _) a w hf hm

/-- The cells of a slice of numbers that is read. -/
theorem ro_ints {A : Option Addr} {xs : List Int} (h : Els kint E.w0 E.ro A xs) (hm : 0 < xs.length) : ∃ g2 o2, A = some ⟨g2, o2, none⟩ ∧ ∀ w, Mem E U w → ∀ j u, (xs.map (Value.int .i64))[j]? = some u → w.cell? ⟨g2, o2 + j, none⟩ = some u := by
  obtain ⟨b, o, es, hA, hb, _, _⟩ := h 0 hm
  refine ⟨b, o, hA, fun w hw j u hu => ?_⟩
  have hj : j < xs.length := by simpa using (List.getElem?_eq_some_iff.1 hu).1
  obtain ⟨b', o', es', hA', hb', ⟨rfl, _⟩, hc⟩ := h j hj
  rw [hA] at hA'
  simp only [Option.some.injEq, Addr.mk.injEq, and_true] at hA'
  obtain ⟨rfl, rfl⟩ := hA'
  have h0 := hc 0 _ rfl
  rw [List.getElem?_map, List.getElem?_eq_getElem hj, Option.map_some, Option.some.injEq] at hu
  subst hu
  rw [cell_block (hw.same b hb)]
  simpa [kint] using h0

theorem s_open {K : Frm → List Asn → Prop} {k : List It} {cd : Code} {e : TypeId} {sz n c m : Nat} {A : Option Addr} {xs : List Value} {U' : List Asn}
    (ht : Tak (osl e sz (.slice A n c) m xs) U U') (hm : 0 < m) (h : ∀ b, A = some ⟨b, 0, none⟩ → EVS E K (.code cd :: k) fr U) : EVS E K (.code cd :: k) fr U := by
  intro a w hf hme
  obtain ⟨S1, hP, _⟩ := hme.tak ht
  obtain ⟨b, hb⟩ := osl_form hP hm
  exact h b hb a w hf hme

theorem s_cap {K : Frm → List Asn → Prop} {k : List It} {cd : Code} {e : TypeId} {sz n c m : Nat} {A : Option Addr} {xs : List Value} {U' : List Asn}
    (ht : Tak (osl e sz (.slice A n c) m xs) U U') (h : m ≤ c → EVS E K (.code cd :: k) fr U) : EVS E K (.code cd :: k) fr U := by
  intro a w hf hme
  obtain ⟨S1, hP, _⟩ := hme.tak ht
  refine h ?_ a w hf hme
  rcases hP.1.2 with ⟨_, hn⟩ | ⟨g', cap, cur, hv, _, _, hnc, _⟩
  · omega
  · simp only [Value.slice.injEq] at hv; omega

end Go.Proofs.Ytjeimmekhfhepaa.E

namespace Go.Proofs.Ytjeimmekhfhepaa.E
set_option linter.all false
variable {E : Env} {fr : Frm} {U V : List Asn} {N : Frm → List Asn → Prop} {K : Frm → List Asn → Prop} {k : List It} {ops : Array Oper}

/-! ### makers, and two operations behind them -/
def mkOk2 (ops : Array Oper) (ms : List Mk) (fr : Frm) : Bool :=
  Nat.beq ops.size (ms.length + 2) && (inOrder ops &&
  ((List.range ms.length).all (fun j => match ms[j]?, ops[j]? with
    | some m, some o => o.guard.isNone && ((look fr m.d).isNone && ((List.range ms.length).all (fun i => Nat.beq i j || match ms[i]? with
        | some m2 => !Nat.beq m.d m2.d
        | none => true) && m.use.all (fun u => Nat.beq u j || waits ops 12 j u)))
    | _, _ => false) &&
  (List.range ms.length).all (fun j => waits ops 12 ms.length j && waits ops 12 (ms.length + 1) j)))

theorem mkOk2_spec {ms : List Mk} (h : mkOk2 ops ms fr = true) : ops.size = ms.length + 2 ∧ inOrder ops = true ∧
    (∀ (j : Nat) (m : Mk) (o : Oper), ms[j]? = some m → ops[j]? = some o → o.guard = none ∧ look fr m.d = none ∧ (∀ (i : Nat) (m2 : Mk), i ≠ j → ms[i]? = some m2 → m.d ≠ m2.d) ∧ (∀ u ∈ m.use, u = j ∨ waits ops 12 j u = true)) ∧
    (∀ i, i < ops.size → ms.length ≤ i → ∀ j < ms.length, waits ops 12 i j = true) := by
  simp only [mkOk2, Bool.and_eq_true] at h
  obtain ⟨h1, h2, h3, h4⟩ := h
  have hsz := Nat.eq_of_beq_eq_true h1
  refine ⟨hsz, h2, ?_, ?_⟩
  · intro j m o hm ho
    have hj : j < ms.length := by
      rcases Nat.lt_or_ge j ms.length with h | h
      · exact h
      · rw [List.getElem?_eq_none h] at hm; cases hm
    have := List.all_eq_true.1 h3 j (List.mem_range.2 hj)
    simp only [hm, ho, Bool.and_eq_true] at this
    obtain ⟨a, b, c, d⟩ := this
    refine ⟨Option.isNone_iff_eq_none.1 a, Option.isNone_iff_eq_none.1 b, ?_, ?_⟩
    · intro i m2 hne hm2 he
      have hi : i < ms.length := by
        rcases Nat.lt_or_ge i ms.length with h | h
        · exact h
        · rw [List.getElem?_eq_none h] at hm2; cases hm2
      have := List.all_eq_true.1 c i (List.mem_range.2 hi)
      rw [hm2, Bool.or_eq_true] at this
      rcases this with h | h
      · exact hne (Nat.eq_of_beq_eq_true h)
      · simp [he] at h
    · intro u hu
      have := List.all_eq_true.1 d u hu
      rw [Bool.or_eq_true] at this
      exact this.imp Nat.eq_of_beq_eq_true id
  · intro i hi hm j hj
    have := List.all_eq_true.1 h4 j (List.mem_range.2 hj)
    rw [Bool.and_eq_true] at this
    rcases Nat.lt_or_ge ms.length i with h | h
    · have e : i = ms.length + 1 := by omega
      rw [e]; exact this.2
    · have e : i = ms.length := by omega
      rw [e]; exact this.1

theorem mk_core2 {ms : List Mk} {fr0 : Frm} {U0 : List Asn} (hok : mkOk2 ops ms fr0 = true) (hstep : ∀ i, i < ms.length → MkStep E ops ms fr0 i)
    (hlast : ∀ (B : Nat → Nat) (fr : Frm) (U : List Asn) (done : List Nat), Sub fr fr0 → (∀ (j : Nat) (m : Mk), ms[j]? = some m → look fr m.d = some (m.val B)) →
      (∀ j, j < ms.length → done.contains j = true) → done.Nodup → (∀ j ∈ done, j < ms.length) → Ent U (ownAll ms B done ++ U0) →
      ∀ (fuel : Nat) (a : Act) (w : World), 2 ≤ fuel → Fr E fr a → Mem E U w → wpAny E.P .any ops (post E K k) fuel (lset ops done) a w) :
    ∀ (fuel : Nat) (done : List Nat) (B : Nat → Nat) (fr : Frm) (U : List Asn) (a : Act) (w : World),
      ((List.range ops.size).filter (fun j => !done.contains j)).length ≤ fuel → done.Nodup → (∀ j ∈ done, j < ms.length) →
      (∀ j ∈ done, ∀ o, ops[j]? = some o → ∀ e ∈ o.after, Region.binds .any e = true → done.contains e.on = true) →
      Sub fr fr0 → (∀ j ∈ done, ∀ (m : Mk), ms[j]? = some m → look fr m.d = some (m.val B)) → Ent U (ownAll ms B done ++ U0) → Fr E fr a → Mem E U w →
      wpAny E.P .any ops (post E K k) fuel (lset ops done) a w := by
  obtain ⟨hsz, hin, hms, hla⟩ := mkOk2_spec hok
  intro fuel
  induction fuel with
  | zero =>
    intro done B fr U a w hfu hnd hlt _ _ _ _ _ _
    have hnil : (List.range ops.size).filter (fun j => !done.contains j) = [] := List.length_eq_zero_iff.1 (by omega)
    rw [List.filter_eq_nil_iff] at hnil
    have := hnil ms.length (List.mem_range.2 (by omega))
    have h2 : done.contains ms.length = true := by
      cases hc : done.contains ms.length with
      | true => rfl
      | false => rw [hc] at this; exact absurd rfl this
    have := hlt ms.length (by simpa using h2)
    omega
  | succ fuel ih =>
    intro done B fr U a w hfu hnd hlt hcl hsub hlook hent hf hm
    have hclo := clo_lset hcl hin
    by_cases hfull : ∀ j, j < ms.length → done.contains j = true
    · refine hlast B fr U done hsub (fun j m hm => hlook j (by
          have hj : j < ms.length := by
            rcases Nat.lt_or_ge j ms.length with h | h
            · exact h
            · rw [List.getElem?_eq_none h] at hm; cases hm
          simpa using hfull j hj) m hm) hfull hnd hlt hent _ a w ?_ hf hm
      have hlen : done.length ≤ ms.length := by
        have := List.Nodup.length_le_of_subset hnd (l₂ := List.range ms.length) (fun j hj => List.mem_range.2 (hlt j hj))
        rwa [List.length_range] at this
      have hc : ops.size - done.length ≤ ((List.range ops.size).filter (fun j => !done.contains j)).length := by
        have h1 : ((List.range ops.size).filter (fun j => done.contains j)).length ≤ done.length :=
          List.Nodup.length_le_of_subset (List.nodup_range.sublist List.filter_sublist) (fun j hj => by
            have := (List.mem_filter.1 hj).2
            simpa using this)
        have h2 := List.length_eq_countP_add_countP (fun j => done.contains j) (l := List.range ops.size)
        rw [List.length_range, List.countP_eq_length_filter, List.countP_eq_length_filter] at h2
        have h3 : (List.range ops.size).filter (fun j => decide ¬(done.contains j = true)) = (List.range ops.size).filter (fun j => !done.contains j) := by
          congr 1; funext j; cases done.contains j <;> rfl
        rw [h3] at h2
        omega
      omega
    refine ⟨fun h0 => ?_, fun i hi => ?_⟩
    · exfalso
      have hall : ∀ j, j < ops.size → done.contains j = true := by
        intro j
        induction j using Nat.strongRecOn with
        | _ j ihj =>
          intro hj
          cases hc : done.contains j with
          | true => rfl
          | false =>
            exfalso
            have : j ∈ Region.ready .any ops (lset ops done) := by
              obtain ⟨o, ho⟩ : ∃ o, ops[j]? = some o := ⟨ops[j], Array.getElem?_eq_getElem hj⟩
              refine mem_ready.2 ⟨by rw [lset_get_t hj]; exact hc, o, ho, fun e he hb => ?_⟩
              simp only [inOrder, List.all_eq_true, List.mem_range] at hin
              have h1 := hin j hj
              simp only [ho] at h1
              have h2 := Array.all_eq_true_iff_forall_mem.1 h1 e he
              rw [Nat.blt_eq] at h2
              rw [lset_get (by omega)]
              exact ihj e.on h2 (by omega)
            rw [h0] at this; cases this
      have h1 := hall ms.length (by omega)
      have := hlt ms.length (by simpa using h1)
      omega
    · obtain ⟨hun, o, ho, hdep⟩ := mem_ready.1 hi
      have hio : i < ops.size := (Array.getElem?_eq_some_iff.1 ho).1
      rw [lset_get_t hio] at hun
      by_cases him : i < ms.length
      · obtain ⟨m, hmm⟩ : ∃ m, ms[i]? = some m := ⟨ms[i], List.getElem?_eq_getElem him⟩
        obtain ⟨hg, hbase, hdif, huse⟩ := hms i m o hmm ho
        have hdep' : ∀ e ∈ o.after, Region.binds .any e = true → done.contains e.on = true := fun e he hb => by
          have h1 := hdep e he hb
          simp only [inOrder, List.all_eq_true, List.mem_range] at hin
          have h2 := hin i hio
          simp only [ho] at h2
          have h3 := Array.all_eq_true_iff_forall_mem.1 h2 e he
          rw [Nat.blt_eq] at h3
          rw [lset_get (by omega)] at h1
          exact h1
        have hnu : ∀ j ∈ done, ∀ (m2 : Mk), ms[j]? = some m2 → ∀ u ∈ m2.use, u ≠ i := by
          intro j hj m2 hm2 u hu he
          subst he
          have hjm := hlt j hj
          obtain ⟨oj, hoj⟩ : ∃ oj, ops[j]? = some oj := ⟨ops[j], Array.getElem?_eq_getElem (by omega)⟩
          rcases (hms j m2 oj hm2 hoj).2.2.2 u hu with h | h
          · subst h
            rw [List.contains_eq_mem, decide_eq_false_iff_not] at hun
            exact hun hj
          · have := waits_listed hclo 12 j h (fun o' ho' e he hb => hclo j o' ho' (by rw [lset_get (by omega)]; simpa using hj) e he hb)
            rw [lset_get hio, hun] at this
            cases this
        have hst := hstep i him o m ho hmm B fr U hsub (fun e he hb m2 hm2 => hlook e.on (by simpa using hdep' e he hb) m2 hm2)
        unfold wpOp
        have hw : Region.wanted o (yielded ops a.tmps) = true := by simp [Region.wanted, hg]
        simp only [ho, hw, if_true]
        refine .inl (Oper.wp_mono2 ?_ (hst a w hf hm))
        rintro a' w' ⟨fr', U', ⟨b, hs', he'⟩, hf', hm'⟩
        rw [lset_cons]
        have hlook0 : ∀ (j : Nat) (m2 : Mk), j ≠ i → ms[j]? = some m2 → ∀ u, look fr m2.d = some u → look fr' m2.d = some u := by
          intro j m2 hj hm2 u hu
          refine hs' _ _ ?_
          have hne := hdif j m2 hj hm2
          simp only [look]
          cases hb : Nat.beq m.d m2.d with
          | true => exact absurd (Nat.eq_of_beq_eq_true hb) hne
          | false => exact hu
        refine ih (i :: done) (setB B i b) fr' U' a' w' ?_ ?_ ?_ ?_ ?_ ?_ ?_ hf' hm'
        · have := mem_unlisted hio hun
          omega
        · rw [List.nodup_cons]
          exact ⟨by rw [List.contains_eq_mem, decide_eq_false_iff_not] at hun; exact hun, hnd⟩
        · intro j hj
          rcases List.mem_cons.1 hj with h | h
          · rw [h]; exact him
          · exact hlt j h
        · intro j hj o' ho' e he hb
          rw [List.contains_cons, Bool.or_eq_true]
          rcases List.mem_cons.1 hj with h | h
          · rw [h, ho] at ho'
            cases ho'
            exact .inr (hdep' e he hb)
          · exact .inr (hcl j h o' ho' e he hb)
        · intro d u hu
          refine hs' d u ?_
          simp only [look]
          cases hb : Nat.beq m.d d with
          | true =>
            rw [← Nat.eq_of_beq_eq_true hb, hbase] at hu; cases hu
          | false => exact hsub d u hu
        · intro j hj m2 hm2
          rcases List.mem_cons.1 hj with h | h
          · subst h
            rw [hmm] at hm2
            cases hm2
            refine hs' _ _ ?_
            simp [look]
          · have hji : j ≠ i := fun e => by
              subst e
              rw [List.contains_eq_mem, decide_eq_false_iff_not] at hun
              exact hun h
            have h1 := hlook0 j m2 hji hm2 _ (hlook j h m2 hm2)
            rw [h1]
            congr 1
            unfold Mk.val
            congr 1
            apply List.map_congr_left
            intro u hu
            exact (setB_ne (hnu j h m2 hm2 u hu)).symm
        · refine he'.trans ?_
          show Ent _ (ownAll ms (setB B i b) (i :: done) ++ U0)
          unfold ownAll
          rw [hmm, ownAll_set hnu, List.append_assoc]
          exact Ent.app hent
      · exfalso
        refine hfull fun j hj => ?_
        have h1 := waits_listed hclo 12 i (hla i hio (by omega) j hj) (fun o' ho' e he hb => by
          rw [ho] at ho'
          cases ho'
          exact hdep e he hb)
        rwa [lset_get (by omega)] at h1

/-- **A region of makers**, two operations behind it, one after the other. -/
theorem s_mk2 {id : Nat} (ms : List Mk) (hmx : E.P.follows .mixedOrders = true) (hok : mkOk2 ops ms fr = true) (hstep : ∀ i, i < ms.length → MkStep E ops ms fr i)
    {o1 o2 : Oper} (ho1 : ops[ms.length]? = some o1) (ho2 : ops[ms.length + 1]? = some o2) (hg1 : o1.guard = none) (hg2 : o2.guard = none)
    (hr1 : Region.ready .any ops (lset ops (List.range ms.length)) = [ms.length]) (hr2 : Region.ready .any ops (lset ops (ms.length :: List.range ms.length)) = [ms.length + 1])
    (hr3 : Region.ready .any ops (lset ops ((ms.length + 1) :: ms.length :: List.range ms.length)) = [])
    (hlast : ∀ (B : Nat → Nat), EV1 E o1 (depFr ms B (List.range ms.length) fr) (ownAll ms B (List.range ms.length) ++ U) (fun fr' U' => EV1 E o2 fr' U' (EVS E K k))) : EVS E K (.code (.region id ops true) :: k) fr U := by
  intro a w hf hmem
  refine wp_region_any hmx ?_
  have := mk_core2 (U0 := U) hok hstep (K := K) (k := k) (fun B fr' U' done hsub hlk hcon hnd hlt hent fuel a' w' hfu hf' hm' => by
    have hp : done.Perm (List.range ms.length) := by
      rw [List.perm_ext_iff_of_nodup hnd List.nodup_range]
      intro j
      constructor
      · intro hj; exact List.mem_range.2 (hlt j hj)
      · intro hj; have := hcon j (List.mem_range.1 hj); simpa using this
    have hls : lset ops done = lset ops (List.range ms.length) := by
      apply Array.ext
      · simp [lset]
      · intro i h1 h2
        simp only [lset, Array.getElem_map, Array.getElem_range]
        rw [Bool.eq_iff_iff, List.contains_iff_mem, List.contains_iff_mem]
        exact hp.mem_iff
    rw [hls]
    obtain ⟨f, rfl⟩ : ∃ f, fuel = f + 2 := ⟨fuel - 2, by omega⟩
    refine ⟨(by intro h0; rw [hr1] at h0; cases h0), fun i hi => ?_⟩
    rw [hr1, List.mem_singleton] at hi
    subst hi
    unfold wpOp
    have hw : Region.wanted o1 (yielded ops a'.tmps) = true := by simp [Region.wanted, hg1]
    simp only [ho1, hw, if_true]
    refine .inl (Oper.wp_mono2 ?_ (hlast B a' w' (hf'.sub (depFr_sub hsub _ (fun j _ m hm => hlk j m hm))) (hm'.ent (hent.trans (ownAll_perm hp U)))))
    rintro a2 w2 ⟨fr2, U2, h2, hf2, hm2⟩
    rw [lset_cons]
    refine ⟨(by intro h0; rw [hr2] at h0; cases h0), fun i hi => ?_⟩
    rw [hr2, List.mem_singleton] at hi
    subst hi
    unfold wpOp
    have hw : Region.wanted o2 (yielded ops a2.tmps) = true := by simp [Region.wanted, hg2]
    simp only [ho2, hw, if_true]
    refine .inl (Oper.wp_mono2 ?_ (h2 a2 w2 hf2 hm2))
    rintro a3 w3 ⟨fr3, U3, h3, hf3, hm3⟩
    rw [lset_cons]
    exact wpAny_done hr3 ⟨fr3, U3, h3, hf3, hm3⟩ f)
    ops.size [] (fun _ => 0) fr U a { w with drawn := w.drawn + 1 } (by
      have := List.length_filter_le (fun j => !([] : List Nat).contains j) (List.range ops.size)
      rw [List.length_range] at this
      exact this) List.nodup_nil (fun j hj => by cases hj) (fun j hj => by cases hj) (Sub.refl _) (fun j hj => by cases hj) (Ent.refl _) hf hmem.drew
  rw [lset_nil] at this
  exact this

/-! ### copies -/
/-- append(nil, l...): a copy of a slice that is read, as one's own. -/
theorem o_copyO {α : Type} {k : Kd α} {bytes : Nat} {d : Nat} {t e : TypeId} {x y : Operand} {ty : TypeId} {pos : String} {af : Array Edge} {g : Option (Nat × Bool)} {s1 b1 : Nat} {z1 : List Value} {i : TI}
    {A : Option Addr} {n c : Nat} {xs : List α} (enc : α → List Value) (hk : ∀ w S cs x, k.R w S cs x → cs = enc x) (ho : OneC k)
    (ht : tl E.T t = some ⟨.slice e, s1, b1, z1⟩) (he : tl E.T e = some i) (hx : val fr x = some (.slice none 0 0)) (hy : val fr y = some (.slice A n c)) (hn : n = xs.length)
    (hr : Can E U ((kslice bytes k).rd [.slice A n c] xs)) (hsz : i.size = k.sz) (hbb : i.bytes = bytes) (hby : n * bytes ≤ 140737488355328) (hp : Nat.ble 1 bytes = true)
    (hzl : Nat.beq i.zero.length i.size = true) (hd : Nat.ble (d + 1) E.n = true)
    (h : ∀ A' c', N ((d, .slice A' n c') :: fr) (osl e k.sz (.slice A' n c') n (xs.flatMap enc) :: U)) :
    EV1 E ⟨some d, .call ⟨.builtin .append, #[x, y], #[t, t]⟩, ty, pos, af, g⟩ fr U N := by
  have hp' := Nat.le_of_ble_eq_true hp
  intro a w hfr hm
  obtain ⟨S, hs, hS⟩ := hm.own
  obtain ⟨A2, c2, hA, hc, _, hels⟩ := hr w S hm.same hs
  simp only [List.cons.injEq, Value.slice.injEq, and_true] at hA
  obtain ⟨rfl, _, rfl⟩ := hA
  by_cases hn0 : n = 0
  · subst hn0
    have hxs : xs = [] := List.eq_nil_of_length_eq_zero hn.symm
    subst hxs
    have h0 := n_append0 (E := E) (fr := fr) (U := U) (c := 0) ht he hx hy (Nat.le_refl _) a w (some d) ty pos af g hfr hm
    unfold Oper.wp
    rw [h0]
    exact ⟨_, _, h none 0, hfr.put (Nat.le_of_ble_eq_true hd) _, hm.ent (Ent.osl0 (Ent.refl _))⟩
  · have hx0 : 0 < xs.length := by omega
    obtain ⟨b, o, es, rfl, _, _, _⟩ := hels 0 hx0
    obtain ⟨ess, hl, hR, hlen, hcell⟩ := els_cells hels
    have h63 : n ≤ 9223372036854775807 := by
      have : n * 1 ≤ n * bytes := Nat.mul_le_mul_left _ hp'
      omega
    have hfl : ess.flatten.length = n * i.size := by
      rw [List.length_flatten, hsz, hn, ← hl]
      have : ess.map List.length = ess.map fun _ => k.sz := List.map_congr_left hlen
      rw [this]
      clear this hcell hR hlen hl
      induction ess with
      | nil => simp
      | cons e0 ess ih => simp only [List.map_cons, List.sum_cons, ih, List.length_cons, Nat.succ_mul]; omega
    have hone : ∀ u ∈ ess.flatten, oneB u = true := by
      intro u hu
      rw [List.mem_flatten] at hu
      obtain ⟨es', hes, hu⟩ := hu
      obtain ⟨i', hi', rfl⟩ := List.getElem_of_mem hes
      exact ho w _ _ _ (hR i' hi' (by omega)) u hu
    obtain ⟨dd, sz, bts, z⟩ := i
    obtain ⟨inf, zv, hinf, hzv, hs', hbb', hzc⟩ := ti_info he
    have hzsize : zv.cells.size = inf.size := by rw [hzc, hs']; simpa using Nat.eq_of_beq_eq_true hzl
    simp only at hfl hsz hbb
    subst hs'
    subst hbb'
    subst hbb
    have hO0 : w.ownsRow 0 e inf.size (.slice none 0 0) 0 [] := ⟨by simp, .inl ⟨rfl, rfl⟩⟩
    obtain ⟨b', c', w', hrun, hO', hgr, hb'⟩ := append_own2 (P := E.P) w t ty e inf zv (u_slice ht) hinf hzv hzsize (.slice none 0 0) 0 [] hO0 ⟨b, o, none⟩ n c ess.flatten hfl
      (fun j u hu => by rw [add_at]; exact hcell j u hu) (fun u hu => oneB_eq (hone u hu)) (by omega) (by omega) (by simpa using hby)
    have hst := step_grown hgr
    have hbe : b' = w.heap.size := by
      rcases hb' with h | h
      · cases h
      · exact h
    have hblt : b' < w'.heap.size := (World.ownsRow.lt hO' b' rfl).2
    unfold Oper.wp execOp
    simp only [resolve, invoke, builtin, Sem.run_bind, Sem.run_pure, Result.andThen_ok, List.map_toArray, List.map_cons, List.map_nil, hfr.eval hx, hfr.eval hy, hrun]
    rw [Nat.zero_add, List.nil_append, hsz] at hO'
    rw [Nat.zero_add]
    refine ⟨_, _, h (some ⟨b', 0, none⟩) c', hfr.put (Nat.le_of_ble_eq_true hd) _, hm.new (T1 := fun q => q = b') ⟨hst.os, hst.tape, hst.output, hst.size, fun q hq _ => hst.same q hq (by intro e; cases e)⟩ ?_ ?_⟩
    · have hfe : xs.flatMap enc = ess.flatten := by
        rw [List.flatMap_def]
        congr 1
        apply List.ext_getElem (by simp [hl])
        intro i h1 h2
        rw [List.getElem_map]
        exact (hk _ _ _ _ (hR i h2 (by simpa using h1))).symm
      rw [hfe]
      exact ⟨hO', fun q hq => by simpa [Value.ownBlock] using hq.symm⟩
    · rintro q rfl
      exact ⟨hblt, by omega⟩


/-- One's own slice of data that hold no address, read. -/
theorem ent_flat {α : Type} {kd : Kd α} {bytes n c : Nat} {e : TypeId} {A : Option Addr} {xs : List α} (enc : α → List Value) (henc : ∀ w S, ∀ x ∈ xs, kd.R w S (enc x) x) (hn : n = xs.length) (hb : n * bytes ≤ 140737488355328) :
    Ent (osl e kd.sz (.slice A n c) n (xs.flatMap enc) :: U) (rdA (kslice bytes kd) [.slice A n c] xs :: U) :=
  Ent.one fun w S h1 => by
    rw [List.flatMap_def] at h1
    obtain ⟨h3, h4⟩ := osl_elsG (S := S) h1 (fun _ h => h) (by simp) hn fun i h1 h2 => by
      rw [List.getElem_map]; exact henc w S _ (List.getElem_mem _)
    subst hn
    exact ⟨A, c, rfl, h4, hb, h3⟩

theorem ent_take {α : Type} {kd : Kd α} {bytes n m c : Nat} {A : Option Addr} {xs : List α} (hm : m ≤ n) : Ent (rdA (kslice bytes kd) [.slice A n c] xs :: U) (rdA (kslice bytes kd) [.slice A m c] (xs.take m) :: U) :=
  Ent.one fun w S ⟨A', c', e, h1, h2, h3⟩ => by
    simp only [List.cons.injEq, Value.slice.injEq, and_true] at e
    obtain ⟨rfl, rfl, rfl⟩ := e
    have hl : (xs.take m).length = m := by rw [List.length_take]; omega
    refine ⟨A, c, by rw [hl], by omega, Nat.le_trans (Nat.mul_le_mul_right _ (by omega)) h2, fun i hi => ?_⟩
    obtain ⟨b, o, es, q1, q2, q3, q4⟩ := h3 i (by omega)
    exact ⟨b, o, es, q1, q2, by rw [List.getElem_take]; exact q3, q4⟩

/-- l[:q] -/
theorem n_head {t e : TypeId} {x : Operand} {s1 b1 : Nat} {z1 : List Value} {i : TI} {A : Option Addr} {n c : Nat} {kk : IntKind} (q : Nat) {q' : Int}
    (ht : tl E.T t = some ⟨.slice e, s1, b1, z1⟩) (he : tl E.T e = some i) (hx : val fr x = some (.slice A n c)) (hq' : q' = (q : Int)) (hq : q ≤ c) :
    NEV E (.slice t x none (some (.const (.int kk q'))) none) fr U (.slice A q c) := by
  intro a w dst ty pos af g hf _
  subst hq'
  obtain ⟨dd, sz, bytes, z⟩ := i
  obtain ⟨inf, zv, hinf, hzv, hs, hbb, hzc⟩ := ti_info he
  have hu := u_slice ht
  have hel : E.P.elem t = e := by simp [Program.elem, hu]
  have hsz : (sizeOf e).run E.P w = .ok sz w := by simp [sizeOf, run_info hinf, hs]
  have hr := run_slice_h (P := E.P) (w := w) t A n c (by rw [hel]; exact hu) kk (q : Int) (by omega) (by omega)
  rw [hel, hsz] at hr
  have ha := run_sliceAt_slice (P := E.P) (w := w) t (.slice A n c) none (some (.int kk (q : Int))) none (by rw [hel]; exact hu)
  rw [hr] at ha
  have hev : a.eval (.const (.int kk (q : Int))) = .int kk (q : Int) := rfl
  have hA : (if c = 0 then A else A.map (·.add (0 * sz))) = A := by
    split
    · rfl
    · cases A <;> simp [Addr.add]
  simp [execOp, hf.eval hx, hev, ha, sliced, Result.andThen]
  cases A <;> simp [Addr.add]

theorem s_blockJ {c : Code} {id : Nat} {ι : Type} (frX : ι → Frm) (UX : ι → List Asn) (h : (∀ x, EVS E K k (frX x) (UX x)) → EVS E K (.code c :: .blk id :: k) fr U) (hfin : ∀ x, EVS E K k (frX x) (UX x)) :
    EVS E K (.code (.block id c) :: k) fr U := s_block (h hfin)

theorem kint_is (w : World) (S : BSet) (cs : List Value) (x : Int) (h : kint.R w S cs x) : cs = [.int .i64 x] := h.1
theorem kstr_is (w : World) (S : BSet) (cs : List Value) (x : ByteArray) (h : kstr.R w S cs x) : cs = [.string x] := h

/-! ### several data of a kind, in a slice -/
theorem Can.rdL {α : Type} {kd : Kd α} {ess : List (List Value)} {xs : List α} {U' : List Asn} (ht : Tak (rdL kd ess xs) U U') (j : Nat) (h1 : j < ess.length) (h2 : j < xs.length) : Can E U (kd.rd ess[j] xs[j]) :=
  Can.of fun _ _ hs => by
    obtain ⟨_, ⟨_, h⟩, hsub⟩ := ht.mem hs
    exact kd.mono hsub (h j h1 h2)

theorem s_rdL {α : Type} {kd : Kd α} {ess : List (List Value)} {xs : List α} {U' : List Asn} {c : Code} (ht : Tak (rdL kd ess xs) U U') (h : ess.length = xs.length → (∀ es ∈ ess, es.length = kd.sz) → EVS E K (.code c :: k) fr U) : EVS E K (.code c :: k) fr U := by
  intro a w hf hme
  obtain ⟨S1, ⟨hl, hr⟩, _⟩ := hme.tak ht
  refine h hl (fun es hes => ?_) a w hf hme
  obtain ⟨i, hi, rfl⟩ := List.getElem_of_mem hes
  exact kd.len (hr i hi (by omega))

theorem flatten_take {sz : Nat} : ∀ (ess : List (List Value)) (_ : ∀ es ∈ ess, es.length = sz) (j : Nat) (h : j < ess.length), (ess.flatten.drop (j * sz)).take sz = ess[j] ∧ (j + 1) * sz ≤ ess.flatten.length
  | [], _, j, h => absurd h (Nat.not_lt_zero _)
  | e0 :: ess, hall, j, h => by
    have h0 := hall e0 (List.mem_cons_self ..)
    rw [List.flatten_cons]
    cases j with
    | zero =>
      refine ⟨?_, by rw [List.length_append]; omega⟩
      rw [Nat.zero_mul, List.drop_zero, List.take_append_of_le_length (by omega), List.take_of_length_le (by omega)]; rfl
    | succ j =>
      obtain ⟨h1, h2⟩ := flatten_take ess (fun es hes => hall es (List.mem_cons_of_mem _ hes)) j (by simpa using h)
      refine ⟨?_, by rw [List.length_append]; have : (j + 1 + 1) * sz = sz + (j + 1) * sz := by rw [Nat.succ_mul, Nat.add_comm]
                     omega⟩
      have e : (j + 1) * sz = e0.length + j * sz := by rw [Nat.succ_mul, h0, Nat.add_comm]
      rw [e, List.drop_append, List.drop_of_length_le (by omega)]
      have e2 : e0.length + j * sz - e0.length = j * sz := by omega
      rw [e2, List.nil_append]
      simpa using h1

theorem load_flat {i : TI} {sz : Nat} {ess : List (List Value)} (hall : ∀ es ∈ ess, es.length = sz) {j o : Nat} (h : j < ess.length) (ha : aggB i.d = true) (hs : i.size = sz) (ho : o = j * sz) : loadL i ess.flatten o = some (.agg ess[j].toArray) := by
  obtain ⟨h1, h2⟩ := flatten_take ess hall j h
  subst ho
  unfold loadL
  have : Nat.ble (j * sz + i.size) ess.flatten.length = true := by rw [Nat.ble_eq, hs]; rw [Nat.succ_mul] at h2; exact h2
  rw [hs] at this
  simp only [ha, hs, cond_true, this, h1]

end Go.Proofs.Ytjeimmekhfhepaa.E

namespace Go.Proofs.Ytjeimmekhfhepaa.E
set_option linter.all false
variable {E : Env} {fr : Frm} {U V : List Asn} {N : Frm → List Asn → Prop}

section keys
variable {κ : Type} [DecidableEq κ]

/-- Where a key is among pairs; what stands there. -/
def findK (k : κ) : List (κ × Value) → Nat → Option (Nat × Value)
  | [], _ => none
  | p :: l, i => if p.1 = k then some (i, p.2) else findK k l (i + 1)

/-- Pairs, a key set. -/
def setK (k : κ) (v : Value) : List (κ × Value) → List (κ × Value)
  | [] => [(k, v)]
  | p :: l => if p.1 = k then (k, v) :: l else p :: setK k v l

def lookK (l : List (κ × Value)) (k : κ) : Option Value := (l.find? fun p => decide (p.1 = k)).map (·.2)

theorem findK_look (k : κ) : ∀ (l : List (κ × Value)) (i : Nat), (findK k l i).map (·.2) = lookK l k
  | [], _ => rfl
  | p :: l, i => by
    unfold findK lookK
    by_cases h : p.1 = k
    · rw [if_pos h, List.find?_cons_of_pos (by simpa using h)]; rfl
    · rw [if_neg h, List.find?_cons_of_neg (by simpa using h)]
      exact findK_look k l (i + 1)

theorem findK_set (k : κ) (v : Value) : ∀ (l : List (κ × Value)) (i : Nat),
    (findK k l i = none → setK k v l = l ++ [(k, v)]) ∧ ∀ j u, findK k l i = some (j, u) → ∃ d, j = i + d ∧ ∃ (h : d < l.length), l[d].1 = k ∧ setK k v l = l.set d (k, v)
  | [], i => ⟨fun _ => rfl, fun j u h => by cases h⟩
  | p :: l, i => by
    unfold findK setK
    by_cases h : p.1 = k
    · rw [if_pos h, if_pos h]
      refine ⟨fun h => (by cases h), fun j u h2 => ?_⟩
      simp only [Option.some.injEq, Prod.mk.injEq] at h2
      exact ⟨0, h2.1.symm, by simp, h, rfl⟩
    · rw [if_neg h, if_neg h]
      obtain ⟨h1, h2⟩ := findK_set k v l (i + 1)
      refine ⟨fun h3 => by rw [h1 h3]; rfl, fun j u h3 => ?_⟩
      obtain ⟨d, rfl, hd, hk, hs⟩ := h2 j u h3
      exact ⟨d + 1, by omega, by simpa using hd, by simpa using hk, by rw [hs]; rfl⟩

theorem look_set (k k' : κ) (v : Value) : ∀ (l : List (κ × Value)), lookK (setK k v l) k' = if k' = k then some v else lookK l k'
  | [] => by
    unfold setK lookK
    by_cases h : k' = k
    · rw [if_pos h]; simp [h]
    · rw [if_neg h]; have : ¬ k = k' := fun e => h e.symm; simp [this]
  | p :: l => by
    have ih := look_set k k' v l
    unfold setK
    by_cases h : p.1 = k
    · rw [if_pos h]
      unfold lookK at ih ⊢
      by_cases h2 : k' = k
      · rw [if_pos h2]; simp [h2]
      · have h3 : ¬ k = k' := fun e => h2 e.symm
        have h4 : ¬ p.1 = k' := fun e => h2 (e ▸ h)
        rw [if_neg h2]; simp [h3, h4]
    · rw [if_neg h]
      unfold lookK at ih ⊢
      by_cases h2 : p.1 = k'
      · have : ¬ k' = k := fun e => h (h2.trans e)
        rw [if_neg this]; simp [h2]
      · rw [List.find?_cons_of_neg (by simpa using h2), List.find?_cons_of_neg (by simpa using h2)]
        exact ih

theorem setK_len (k : κ) (v : Value) : ∀ (l : List (κ × Value)), (setK k v l).length = if lookK l k = none then l.length + 1 else l.length
  | [] => rfl
  | p :: l => by
    have ih := setK_len k v l
    unfold setK
    by_cases h : p.1 = k
    · rw [if_pos h]
      have : lookK (p :: l) k ≠ none := by unfold lookK; rw [List.find?_cons_of_pos (by simpa using h)]; simp
      rw [if_neg this]; rfl
    · rw [if_neg h]
      have : lookK (p :: l) k = lookK l k := by unfold lookK; rw [List.find?_cons_of_neg (by simpa using h)]
      rw [this, List.length_cons, ih, List.length_cons]
      split <;> rfl

/-- How keys of a kind are found. -/
structure MKey (P : Program) (kt : TypeId) (enc : κ → Value) : Prop where
  check : ∀ (w : World) (e : Bool) (k : κ), (Instr.checkKey e 10000 kt (enc k)).run P w = .ok () w
  find : ∀ (w : World) (k : κ) (es : List MapEntry) (l : List (κ × Value)), es.map (fun e => (e.key, e.val)) = l.map (fun p => (enc p.1, p.2)) → (Instr.findKey kt (enc k) es).run P w = .ok (findK k l 0) w
  stays : ∀ (w : World) (k : κ), (Instr.keyThatStays (enc k) (enc k)).run P w = .ok (enc k) w

/-- A map of one's own: its pairs, in the order in which they came. -/
def mapA (enc : κ → Value) (b : Nat) (l : List (κ × Value)) : Asn where
  P := fun w S => S b ∧ ∃ (es : Array MapEntry) (clock : Nat), w.heap[b]? = some (.map es clock) ∧ es.toList.map (fun e => (e.key, e.val)) = l.map (fun p => (enc p.1, p.2))
  fr := fun _ _ _ h ⟨h1, es, c, h2, h3⟩ => ⟨h1, es, c, (h b h1).trans h2, h3⟩

theorem o_newMap {d : Nat} {t : TypeId} {ty : TypeId} {pos : String} {af : Array Edge} {g : Option (Nat × Bool)} (enc : κ → Value) (hd : Nat.ble (d + 1) E.n = true)
    (h : ∀ b, N ((d, .map (some b)) :: fr) (mapA enc b ([] : List (κ × Value)) :: U)) : EV1 E ⟨some d, .makeMap t none, ty, pos, af, g⟩ fr U N := by
  intro a w hf hm
  unfold Oper.wp execOp
  simp only [Instr.makeMap, newObj]
  refine ⟨_, _, h w.heap.size, hf.put (Nat.le_of_ble_eq_true hd) _, hm.new (T1 := fun k => k = w.heap.size) (step_alloc w (.map #[] 0)) ⟨rfl, #[], 0, heap_alloc_new w _, rfl⟩ ?_⟩
  rintro b rfl
  exact ⟨by simp, Nat.le_refl _⟩

theorem n_lookup {P : Program} {t kt e : TypeId} {s1 b1 : Nat} {z1 : List Value} {z : Value} {x y : Operand} {b : Nat} {k : κ} {enc : κ → Value} {l : List (κ × Value)} {U' : List Asn} (hP : E.P = P) (K : MKey P kt enc) (hz : ∀ w, (zeroValue e).run P w = .ok z w)
    (ht : tl E.T t = some ⟨.map kt e, s1, b1, z1⟩) (hx : val fr x = some (.map (some b))) (hy : val fr y = some (enc k)) (hU : Tak (mapA enc b l) U U') :
    NEV E (.lookup t x y false) fr U ((lookK l k).getD z) := by
  subst hP
  intro a w dst ty pos af g hf hm
  obtain ⟨S1, ⟨_, es, clock, hb, hes⟩, _⟩ := hm.tak hU
  have hf2 := K.find w k es.toList l hes
  have hl := findK_look k l 0
  have hr : (Instr.lookup t (.map (some b)) (enc k) false).run E.P w = .ok ((lookK l k).getD z) w := by
    rw [← hl]
    cases hfk : findK k l 0 with
    | none => rw [hfk] at hf2; simp [Instr.lookup, run_under (u_map ht), MapKept.run_getObj_map hb, K.check, hf2, hz, Result.andThen]
    | some q => rw [hfk] at hf2; simp [Instr.lookup, run_under (u_map ht), MapKept.run_getObj_map hb, K.check, hf2, Result.andThen]
  simp [execOp, hf.eval hx, hf.eval hy, hr]

theorem n_lookup2 {P : Program} {t kt e : TypeId} {s1 b1 : Nat} {z1 : List Value} {z : Value} {x y : Operand} {b : Nat} {k : κ} {enc : κ → Value} {l : List (κ × Value)} {U' : List Asn} (hP : E.P = P) (K : MKey P kt enc) (hz : ∀ w, (zeroValue e).run P w = .ok z w)
    (ht : tl E.T t = some ⟨.map kt e, s1, b1, z1⟩) (hx : val fr x = some (.map (some b))) (hy : val fr y = some (enc k)) (hU : Tak (mapA enc b l) U U') :
    NEV E (.lookup t x y true) fr U (.tuple #[(lookK l k).getD z, .bool (lookK l k).isSome]) := by
  subst hP
  intro a w dst ty pos af g hf hm
  obtain ⟨S1, ⟨_, es, clock, hb, hes⟩, _⟩ := hm.tak hU
  have hf2 := K.find w k es.toList l hes
  have hl := findK_look k l 0
  have hr : (Instr.lookup t (.map (some b)) (enc k) true).run E.P w = .ok (.tuple #[(lookK l k).getD z, .bool (lookK l k).isSome]) w := by
    rw [← hl]
    cases hfk : findK k l 0 with
    | none => rw [hfk] at hf2; simp [Instr.lookup, run_under (u_map ht), MapKept.run_getObj_map hb, K.check, hf2, hz, Result.andThen]
    | some q => rw [hfk] at hf2; simp [Instr.lookup, run_under (u_map ht), MapKept.run_getObj_map hb, K.check, hf2, Result.andThen]
  simp [execOp, hf.eval hx, hf.eval hy, hr]

theorem o_mapUpdate {P : Program} {t kt e : TypeId} {s1 b1 : Nat} {z1 : List Value} {x y z : Operand} {v : Value} {ty : TypeId} {pos : String} {af : Array Edge} {g : Option (Nat × Bool)} {b : Nat} {k : κ} {enc : κ → Value} {l : List (κ × Value)} {U' : List Asn} (hP : E.P = P) (K : MKey P kt enc)
    (ht : tl E.T t = some ⟨.map kt e, s1, b1, z1⟩) (hx : val fr x = some (.map (some b))) (hy : val fr y = some (enc k)) (hz : val fr z = some v) (hU : Upd (mapA enc b l) (mapA enc b (setK k v l)) U U') (h : N fr U') :
    EV1 E ⟨none, .mapUpdate t x y z, ty, pos, af, g⟩ fr U N := by
  subst hP
  intro a w hf hm
  obtain ⟨S1, ⟨hS, es, clock, hb, hes⟩, hlt, hk⟩ := hm.upd hU
  have hf2 := K.find w k es.toList l hes
  have hblt : b < w.heap.size := hlt b hS
  have hlen : es.size = l.length := by have := congrArg List.length hes; simpa using this
  have key : ∃ es' clock', (Instr.mapUpdate t (.map (some b)) (enc k) v).run E.P w = .ok () { w with heap := w.heap.setIfInBounds b (.map es' clock') } ∧ es'.toList.map (fun e => (e.key, e.val)) = (setK k v l).map (fun p => (enc p.1, p.2)) := by
    obtain ⟨h1, h2⟩ := findK_set k v l 0
    cases hfk : findK k l 0 with
    | none =>
      rw [hfk] at hf2
      refine ⟨es.push { key := enc k, val := v, born := clock }, clock + 1, ?_, ?_⟩
      · simp [Instr.mapUpdate, run_under (u_map ht), MapKept.run_getObj_map hb, K.check, hf2, MapKept.run_setObj_map _ hb, Result.andThen]
      · rw [h1 hfk]; simp [hes]
    | some q =>
      obtain ⟨j, u⟩ := q
      rw [hfk] at hf2
      obtain ⟨d, hjd, hd, hkd, hs⟩ := h2 j u hfk
      rw [Nat.zero_add] at hjd
      subst hjd
      have hjs : j < es.size := by omega
      have hkey : es[j].key = enc k := by
        have h3 : (es.toList.map (fun e => (e.key, e.val)))[j]? = some (es[j].key, es[j].val) := by
          rw [List.getElem?_map, List.getElem?_eq_getElem (by simpa using hjs)]; simp
        rw [hes, List.getElem?_map, List.getElem?_eq_getElem hd, Option.map_some, Option.some.injEq, Prod.mk.injEq] at h3
        rw [← h3.1, hkd]
      refine ⟨es.modify j fun e => { e with key := enc k, val := v }, clock, ?_, ?_⟩
      · simp [Instr.mapUpdate, run_under (u_map ht), MapKept.run_getObj_map hb, K.check, hf2, hjs, hkey, K.stays, MapKept.run_setObj_map _ hb, Result.andThen]
      · rw [hs]
        apply List.ext_getElem?
        intro i
        have hei := congrArg (fun l => l[i]?) hes
        simp only [List.getElem?_map] at hei
        simp only [List.getElem?_map, Array.toList_modify, List.getElem?_modify, List.getElem?_set]
        by_cases hij : j = i
        · subst hij
          rw [if_pos rfl, if_pos hd, List.getElem?_eq_getElem (by simpa using hjs)]; simp
        · rw [if_neg hij]
          cases hx2 : es.toList[i]? with
          | none => rw [hx2] at hei; simpa [hij] using hei
          | some x => rw [hx2] at hei; simpa [hij] using hei
  obtain ⟨es', clock', hrun, hes'⟩ := key
  unfold Oper.wp execOp
  simp only [hf.eval hx, hf.eval hy, hf.eval hz, Sem.run_bind, hrun, Result.andThen_ok, Sem.run_pure]
  have hset : ∀ q : Nat, q ≠ b → ({ w with heap := w.heap.setIfInBounds b (.map es' clock') } : World).heap[q]? = w.heap[q]? := fun q hq => by
    simp [Array.getElem?_setIfInBounds_ne (Ne.symm hq)]
  refine ⟨_, _, h, hf.put_none _, hk _ S1 ⟨rfl, rfl, rfl, by simp, fun q hq hn => hset q (fun e => hn (e ▸ hS))⟩ ⟨hS, es', clock', by simp [hblt], hes'⟩ (fun q hq => ⟨by simpa using hlt q hq, .inl hq⟩)⟩

theorem n_lenM {t kt e : TypeId} {s1 b1 : Nat} {z1 : List Value} {x : Operand} {b : Nat} {enc : κ → Value} {l : List (κ × Value)} {U' : List Asn}
    (ht : tl E.T t = some ⟨.map kt e, s1, b1, z1⟩) (hx : val fr x = some (.map (some b))) (hU : Tak (mapA enc b l) U U') :
    NEV E (.call ⟨.builtin .len, #[x], #[t]⟩) fr U (.int .i64 (l.length : Nat)) := by
  intro a w dst ty pos af g hf hm
  obtain ⟨S1, ⟨_, es, clock, hb, hes⟩, _⟩ := hm.tak hU
  have hlen : es.size = l.length := by have := congrArg List.length hes; simpa using this
  simp [execOp, resolve, invoke, builtin, hf.eval hx, Builtin.len_, run_under (u_map ht), MapKept.run_getObj_map hb, hlen, goInt, Result.andThen]

end keys

/-! ### keys -/
def encI (k : Int) : Value := .int .i64 k
def encI2 (k : Int × Int) : Value := .agg #[.int .i64 k.1, .int .i64 k.2]

theorem mkey_int {P : Program} {kt : TypeId} (hu : P.underlying kt = some (.int .i64)) : MKey P kt encI where
  check := fun w e k => MapKept.run_checkKey hu (by simp [MapKept.IsKey, encI]) e 9999
  find := fun w k es l h => by
    have hf : ∀ (es : List MapEntry) (l : List (Int × Value)) (i : Nat), es.map (fun e => (e.key, e.val)) = l.map (fun p => (encI p.1, p.2)) → Instr.findNow (.int .i64) (encI k) es i = some (findK k l i) := by
      intro es
      induction es with
      | nil =>
        intro l i h
        cases l with
        | nil => rfl
        | cons p l => simp at h
      | cons e es ih =>
        intro l i h
        cases l with
        | nil => simp at h
        | cons p l =>
          simp only [List.map_cons, List.cons.injEq, Prod.mk.injEq] at h
          obtain ⟨⟨h1, h2⟩, h3⟩ := h
          unfold Instr.findNow findK
          rw [h1]
          simp only [encI, Instr.sameNow, if_true]
          by_cases hk : p.1 = k
          · rw [if_pos hk, hk]; simp [h2]
          · have : (k == p.1) = false := by simp; exact fun e => hk e.symm
            rw [if_neg hk, this]
            exact ih l (i + 1) h3
    simp [Instr.findKey, run_underlying hu, Result.andThen, hf es l 0 h]
  stays := fun w k => by simp [Instr.keyThatStays, encI, Instr.sameBits]

theorem mkey_int2 {P : Program} {kt e : TypeId} {ie : TypeInfo} (hu : P.underlying kt = some (.array 2 e)) (he : P.underlying e = some (.int .i64)) (hi : P.info? e = some ie) (hs : ie.size = 1) : MKey P kt encI2 := by
  have hpk : P.plainKey e = true := by unfold Program.plainKey; rw [he]
  have hsz : ∀ w : World, (sizeOf e).run P w = .ok 1 w := fun w => by simp [sizeOf, run_info hi, hs]
  have p0 : ∀ (w : World) (a b : Int), (part e #[.int .i64 a, .int .i64 b] 0).run P w = .ok (.int .i64 a) w := fun w a b => run_part_plain (P := P) w hpk rfl
  have p1 : ∀ (w : World) (a b : Int), (part e #[.int .i64 a, .int .i64 b] 1).run P w = .ok (.int .i64 b) w := fun w a b => run_part_plain (P := P) w hpk rfl
  have hck : ∀ (w : World) (em : Bool) (a : Int), (Instr.checkKey em 9999 e (.int .i64 a)).run P w = .ok () w := fun w em a => MapKept.run_checkKey he (by simp [MapKept.IsKey]) em 9998
  have heq : ∀ (w : World) (a b : Int), (Op.equalIn 9999 e (.int .i64 a) (.int .i64 b)).run P w = .ok (a == b) w := fun w a b => run_equalIn_int w 9998 e .i64 .i64 a b he
  have hE : ∀ (w : World) (j k : Int × Int), (Op.equal kt (encI2 j) (encI2 k)).run P w = .ok (decide (j = k)) w := by
    intro w ⟨a, b⟩ ⟨c, d⟩
    unfold Op.equal Op.maxDepth Op.equalIn
    simp only [encI2, Sem.run_bind, run_under hu, Result.andThen_ok, hsz]
    rw [Std.Legacy.Range.forIn_eq_forIn_range']
    have e1 : List.range' ([:2] : Std.Legacy.Range).start ([:2] : Std.Legacy.Range).size ([:2] : Std.Legacy.Range).step = [0, 1] := rfl
    rw [e1]
    simp only [List.forIn_cons, List.forIn_nil, Sem.run_bind, Nat.zero_mul, Nat.one_mul, p0, p1, heq, Result.andThen_ok]
    cases ha : a == c <;> cases hb : b == d <;> simp_all
  refine ⟨fun w em k => ?_, fun w k es l h => ?_, fun w k => by simp [Instr.keyThatStays, encI2, Instr.sameBits]⟩
  · unfold Instr.checkKey
    simp only [encI2, Sem.run_bind, run_under hu, Result.andThen_ok]
    rw [Std.Legacy.Range.forIn_eq_forIn_range']
    have e1 : List.range' ([:2] : Std.Legacy.Range).start ([:2] : Std.Legacy.Range).size ([:2] : Std.Legacy.Range).step = [0, 1] := rfl
    rw [e1]
    simp only [List.forIn_cons, List.forIn_nil, Sem.run_bind, Nat.zero_mul, Nat.one_mul, hsz, p0, p1, hck, Result.andThen_ok, Sem.run_pure]
  · have hA : ∀ (es : List MapEntry) (l : List ((Int × Int) × Value)) (i : Nat), es.map (fun e => (e.key, e.val)) = l.map (fun p => (encI2 p.1, p.2)) → (Instr.findAsking kt (encI2 k) es i).run P w = .ok (findK k l i) w := by
      intro es
      induction es with
      | nil =>
        intro l i h
        cases l with
        | nil => simp [Instr.findAsking, findK]
        | cons p l => simp at h
      | cons e es ih =>
        intro l i h
        cases l with
        | nil => simp at h
        | cons p l =>
          simp only [List.map_cons, List.cons.injEq, Prod.mk.injEq] at h
          obtain ⟨⟨h1, h2⟩, h3⟩ := h
          unfold Instr.findAsking findK
          rw [h1]
          simp only [Sem.run_bind, hE, Result.andThen_ok]
          by_cases hk : p.1 = k
          · rw [if_pos hk, hk]; simp [h2]
          · have : ¬ k = p.1 := fun e => hk e.symm
            rw [if_neg hk]
            simp only [this, decide_false, Bool.false_eq_true, if_false]
            exact ih l (i + 1) h3
    cases es with
    | nil =>
      cases l with
      | nil => simp [Instr.findKey, run_underlying hu, Result.andThen, Instr.findNow, findK]
      | cons p l => simp at h
    | cons e0 es =>
      have hn : Instr.findNow (.array 2 e) (encI2 k) (e0 :: es) 0 = none := by simp [Instr.findNow, Instr.sameNow, encI2]
      simp only [Instr.findKey, Sem.run_bind, run_underlying hu, Result.andThen_ok, hn]
      exact hA (e0 :: es) l 0 h

end Go.Proofs.Ytjeimmekhfhepaa.E

namespace Go.Proofs.Ytjeimmekhfhepaa.E
set_option linter.all false
variable {E : Env} {fr : Frm} {U V : List Asn} {N : Frm → List Asn → Prop}


/-- The cells of an array of 256 numbers. -/
structure C256 where
  l : List Int
  h : l.length = 256

def dC (c : C256) (rest : List Value) : List Value := c.l.map (Value.int .i64) ++ rest
def C256.zero : C256 := ⟨List.replicate 256 0, List.length_replicate⟩
def C256.set (c : C256) (j : Nat) (v : Int) : C256 := ⟨c.l.set j v, by rw [List.length_set]; exact c.h⟩
def C256.get (c : C256) (j : Nat) : Int := c.l.getD j 0

theorem C256.ext {c d : C256} (h : c.l = d.l) : c = d := by cases c; cases d; simp only at h; subst h; rfl
theorem C256.get_eq (c : C256) {j : Nat} (h : j < c.l.length) : c.get j = c.l[j] := by unfold C256.get; rw [List.getD_eq_getElem?_getD, List.getElem?_eq_getElem h]; rfl
theorem C256.get_mem (c : C256) {j : Nat} (h : j < 256) : c.get j ∈ c.l := by rw [c.get_eq (by rw [c.h]; exact h)]; exact List.getElem_mem _
theorem dC_len (c : C256) (rest : List Value) : (dC c rest).length = 256 + rest.length := by unfold dC; rw [List.length_append, List.length_map, c.h]
theorem dC_app (c : C256) (r s : List Value) : dC c r ++ s = dC c (r ++ s) := by unfold dC; rw [List.append_assoc]
theorem dC_zero (rest : List Value) : List.replicate 256 (Value.int .i64 0) ++ rest = dC .zero rest := by unfold dC C256.zero; rw [List.map_replicate]
theorem dC_zero0 : List.replicate 256 (Value.int .i64 0) = dC .zero [] := by rw [← dC_zero, List.append_nil]
theorem dC_get (c : C256) (rest : List Value) {j : Nat} (h : j < 256) : (dC c rest)[j]? = some (.int .i64 (c.get j)) := by
  unfold dC
  have h2 : j < c.l.length := by rw [c.h]; exact h
  rw [List.getElem?_append_left (by rw [List.length_map]; exact h2), List.getElem?_map, List.getElem?_eq_getElem h2, c.get_eq h2]; rfl
theorem dC_rest (c : C256) (rest : List Value) {o : Nat} (h : 256 ≤ o) : (dC c rest)[o]? = rest[o - 256]? := by
  unfold dC
  rw [List.getElem?_append_right (by rw [List.length_map, c.h]; exact h), List.length_map, c.h]
theorem dC_set (c : C256) (rest : List Value) {j : Nat} (h : j < 256) (v : Int) : (dC c rest).set j (.int .i64 v) = dC (c.set j v) rest := by
  unfold dC C256.set
  rw [List.set_append_left _ _ (by rw [List.length_map, c.h]; exact h), List.map_set]
theorem dC_setR (c : C256) (rest : List Value) {o : Nat} (h : 256 ≤ o) (v : Value) : (dC c rest).set o v = dC c (rest.set (o - 256) v) := by
  unfold dC
  rw [List.set_append_right _ _ (by rw [List.length_map, c.h]; exact h), List.length_map, c.h]
theorem dC_one (c : C256) (rest : List Value) (h : ∀ u ∈ rest, oneB u = true) : ∀ u ∈ dC c rest, oneB u = true := by
  intro u hu
  rcases List.mem_append.1 hu with h1 | h1
  · obtain ⟨x, _, rfl⟩ := List.mem_map.1 h1; rfl
  · exact h u h1
theorem setMany_all (cs vs : List Value) (h : vs.length = cs.length) : setMany cs 0 vs = vs := by
  rw [setMany_splice vs cs 0 (by omega), List.take_zero, Nat.zero_add, h, List.drop_length]; simp
theorem C256.get_set (c : C256) (j k : Nat) (v : Int) (h : j < 256) : (c.set j v).get k = if k = j then v else c.get k := by
  unfold C256.get C256.set
  simp only [List.getD_eq_getElem?_getD, List.getElem?_set]
  by_cases e : j = k
  · subst e; rw [if_pos rfl, if_pos rfl, if_pos (by rw [c.h]; exact h)]; rfl
  · rw [if_neg e, if_neg (fun x => e x.symm)]
theorem dC_inj {c d : C256} {r s : List Value} (h : dC c r = dC d s) : c = d ∧ r = s := by
  unfold dC at h
  obtain ⟨h1, h2⟩ := List.append_inj h (by rw [List.length_map, List.length_map, c.h, d.h])
  refine ⟨C256.ext ?_, h2⟩
  exact (List.map_inj_right (fun a b hab => by cases hab; rfl)).1 h1

def kArr : Kd C256 where
  sz := 256
  R := fun _ _ cs x => cs = dC x [] ∧ ∀ v ∈ x.l, I64 v
  len := by rintro w S cs x ⟨rfl, _⟩; rw [dC_len]; rfl
  fr := fun _ h => h
  mono := fun _ h => h

set_option maxRecDepth 20000 in
theorem op_arr {P : Program} {t e : TypeId} (ht : P.underlying t = some (.array 256 e)) (he : P.underlying e = some (.int .i64)) (hc : P.cellsOf e = 1) (hn : P.cellsOf t = 256) : Opn P t kArr := by
  intro H enc w fuel cs x h _
  obtain ⟨xs, m, _, _, hl, hxl, hf⟩ := DataW.trod_array ht h
  rw [hn] at hl
  have each : ∀ i : Fin 256, ∃ v : Int, cs[i.1]? = some (.int .i64 v) ∧ I64 v := by
    rintro ⟨i, hi⟩
    have h1 := hf i hi
    rw [hc, Nat.mul_one] at h1
    have h2 : (cs.drop i).take 1 = [cs[i]'(by omega)] := by
      rw [List.drop_eq_getElem_cons (by omega)]; rfl
    rw [h2] at h1
    cases hx : xs[i]? with
    | none =>
      rw [List.getElem?_eq_none_iff] at hx
      omega
    | some y =>
      rw [hx] at h1
      obtain ⟨v, hv, _, hw⟩ := DataW.trod_int he h1
      simp only [List.cons.injEq, and_true] at hv
      refine ⟨v, by rw [List.getElem?_eq_getElem (by omega), hv], ?_⟩
      simp only [Lit.wf, Bool.and_eq_true, decide_eq_true_eq] at hw
      exact hw
  refine ⟨⟨List.ofFn fun i => Classical.choose (each i), List.length_ofFn⟩, ?_, ?_⟩
  · unfold dC
    rw [List.append_nil]
    apply List.ext_getElem?
    intro j
    by_cases hj : j < 256
    · have h1 := (Classical.choose_spec (each ⟨j, hj⟩)).1
      simp only at h1
      rw [h1, List.getElem?_map, List.getElem?_ofFn, dif_pos hj]; rfl
    · rw [List.getElem?_eq_none (by omega), List.getElem?_eq_none (by rw [List.length_map, List.length_ofFn]; omega)]
  · intro v hv
    obtain ⟨i, rfl⟩ := List.mem_ofFn.1 hv
    exact (Classical.choose_spec (each i)).2

/-! ### loads -/
theorem ld_after {i : TI} {cls rest : List Value} {n k : Nat} {v : Value} (h : cls.length = n) (ha : aggB i.d = false) (hk : rest[k]? = some v) {o : Nat} (ho : o = n + k) : loadL i (cls ++ rest) o = some v := by
  subst ho
  subst h
  unfold loadL
  simp only [ha, cond_false]
  rw [List.getElem?_append_right (by omega), Nat.add_sub_cancel_left, hk]

theorem ld_all {i : TI} {cs : List Value} {n : Nat} (h : cs.length = n) (ha : aggB i.d = true) (hs : i.size = n) {o : Nat} (ho : o = 0) : loadL i cs o = some (.agg cs.toArray) := by
  subst ho
  unfold loadL
  have : Nat.ble (0 + i.size) cs.length = true := by rw [Nat.ble_eq, Nat.zero_add, hs, h]; exact Nat.le_refl _
  simp only [ha, cond_true, this, List.drop_zero]
  rw [hs, ← h, List.take_length]

theorem ld_in {i : TI} {cls rest : List Value} {k : Nat} {v : Value} (ha : aggB i.d = false) (hk : cls[k]? = some v) {o : Nat} (ho : o = k) : loadL i (cls ++ rest) o = some v := by
  subst ho
  unfold loadL
  simp only [ha, cond_false]
  rw [List.getElem?_append_left (List.getElem?_eq_some_iff.1 hk).1, hk]

theorem ld_head {i : TI} {cls rest : List Value} {n : Nat} (h : cls.length = n) (ha : aggB i.d = true) (hs : i.size = n) {o : Nat} (ho : o = 0) : loadL i (cls ++ rest) o = some (.agg cls.toArray) := by
  subst ho
  unfold loadL
  have : Nat.ble (0 + i.size) (cls ++ rest).length = true := by rw [Nat.ble_eq, Nat.zero_add, hs, List.length_append]; omega
  simp only [ha, cond_true, this, List.drop_zero]
  rw [hs, ← h, List.take_left]


section loads
variable {t : TypeId} {x y : Operand} {i : TI} {b o : Nat} {T : TypeId} {c : C256} {rest : List Value} {v : Value} {U' : List Asn}

theorem n_dR (hx : val fr x = some (.pointer (some ⟨b, o, none⟩))) (ht : tl E.T t = some i) (hU : Tak (blk b T (dC c rest)) U U') (ha : aggB i.d = false) (ho : Nat.ble 256 o = true) (hk : rest[o - 256]? = some v) : NEV E (.load t x) fr U v := by
  refine n_load hx ht hU ?_
  unfold loadL
  rw [ha, cond_false, dC_rest _ _ (Nat.le_of_ble_eq_true ho), hk]

theorem n_dC (hx : val fr x = some (.pointer (some ⟨b, o, none⟩))) (ht : tl E.T t = some i) (hU : Tak (blk b T (dC c rest)) U U') (ha : aggB i.d = false) (j : Nat) (hj : j < 256) (ho : o = j) : NEV E (.load t x) fr U (.int .i64 (c.get j)) := by
  subst ho
  refine n_load hx ht hU ?_
  unfold loadL
  rw [ha, cond_false, dC_get _ _ hj]

theorem n_dA (hx : val fr x = some (.pointer (some ⟨b, 0, none⟩))) (ht : tl E.T t = some i) (hU : Tak (blk b T (dC c rest)) U U') (ha : aggB i.d = true) (hs : Nat.beq i.size (256 + rest.length) = true) : NEV E (.load t x) fr U (.agg (dC c rest).toArray) := by
  refine n_load hx ht hU ?_
  exact ld_all (n := i.size) (by rw [dC_len, Nat.eq_of_beq_eq_true hs]) ha rfl rfl

theorem n_dK (hx : val fr x = some (.pointer (some ⟨b, 0, none⟩))) (ht : tl E.T t = some i) (hU : Tak (blk b T (dC c rest)) U U') (ha : aggB i.d = true) (hs : Nat.beq i.size 256 = true) : NEV E (.load t x) fr U (.agg (dC c []).toArray) := by
  refine n_load hx ht hU ?_
  have := ld_head (i := i) (cls := dC c []) (rest := rest) (n := 256) (by rw [dC_len]; rfl) ha (Nat.eq_of_beq_eq_true hs) rfl
  rwa [dC_app, List.nil_append] at this

theorem n_idxD {ix : Operand} {e : TypeId} {k : IntKind} {q : Int} {len s1 b1 : Nat} {z1 : List Value} (hx : val fr x = some (.agg (dC c rest).toArray)) (hi : val fr ix = some (.int k q)) (ht : tl E.T t = some ⟨.arr len e, s1, b1, z1⟩) (he : tl E.T e = some i) (ha : aggB i.d = false) (hs : Nat.beq i.size 1 = true)
    (hl : Nat.ble len 256 = true) (j : Nat) (hj : q = (j : Int)) (hlt : j < len) : NEV E (.index t x ix) fr U (.int .i64 (c.get j)) := by
  subst hj
  intro a w dst ty pos af g hf _
  obtain ⟨inf, v0, hinf, _, hsz, _, _⟩ := ti_info (d := i.d) (s := i.size) (b := i.bytes) (z := i.zero) he
  have h1 : ((0 : Int) ≤ (j : Int) ∧ (j : Int) < (len : Int)) := by omega
  have hl2 := Nat.le_of_ble_eq_true hl
  have hs2 := Nat.eq_of_beq_eq_true hs
  have hsz2 : (sizeOf e).run E.P w = .ok 1 w := by rw [run_size hinf, hsz, hs2]
  have hc : (dC c rest).toArray[j]? = some (.int .i64 (c.get j)) := by rw [List.getElem?_toArray]; exact dC_get _ _ (by omega)
  have hag := run_isAgg (E := E) he w
  rw [ha] at hag
  simp only [execOp, hf.eval hx, hf.eval hi, Instr.index, asIntOf, Sem.run_bind, Sem.run_pure, Result.andThen_ok, run_under (u_arr ht), h1, and_self, if_true, hsz2, Int.toNat_natCast, Nat.mul_one, part, hag, Bool.false_eq_true, if_false, hc]

/-! ### stores -/
theorem o_dS {ty : TypeId} {pos : String} {af : Array Edge} {g : Option (Nat × Bool)} (hx : val fr x = some (.pointer (some ⟨b, o, none⟩))) (hy : val fr y = some v) (ht : tl E.T t = some i) (hs : Nat.beq i.size 1 = true) (hv : v.cells.toList = [v]) (h1 : oneB v = true)
    (ho : Nat.ble 256 o = true) (hl : Nat.ble (o + 1) (256 + rest.length) = true) (hU : Upd (blk b T (dC c rest)) (blk b T (dC c (rest.set (o - 256) v))) U U') (h : N fr U') : EV1 E ⟨none, .store t x y, ty, pos, af, g⟩ fr U N := by
  have e : setMany (dC c rest) o [v] = dC c (rest.set (o - 256) v) := by simp only [setMany]; rw [dC_setR _ _ (Nat.le_of_ble_eq_true ho)]
  rw [← e] at hU
  refine o_store hx hy ht hv ?_ (by simp [h1]) ?_ hU h
  · rw [Nat.eq_of_beq_eq_true hs]; rfl
  · rw [Nat.eq_of_beq_eq_true hs, dC_len]; exact hl

theorem o_dC {n : Int} {ty : TypeId} {pos : String} {af : Array Edge} {g : Option (Nat × Bool)} (hx : val fr x = some (.pointer (some ⟨b, o, none⟩))) (hy : val fr y = some (.int .i64 n)) (ht : tl E.T t = some i) (hs : Nat.beq i.size 1 = true)
    (j : Nat) (hj : j < 256) (ho : o = j) (hU : Upd (blk b T (dC c rest)) (blk b T (dC (c.set j n) rest)) U U') (h : N fr U') : EV1 E ⟨none, .store t x y, ty, pos, af, g⟩ fr U N := by
  subst ho
  have e : setMany (dC c rest) o [.int .i64 n] = dC (c.set o n) rest := by simp only [setMany]; rw [dC_set _ _ hj]
  rw [← e] at hU
  refine o_store hx hy ht rfl ?_ rfl ?_ hU h
  · rw [Nat.eq_of_beq_eq_true hs]; rfl
  · rw [Nat.eq_of_beq_eq_true hs, dC_len, Nat.ble_eq]; omega

theorem o_dAll {c2 : C256} {r2 : List Value} {ty : TypeId} {pos : String} {af : Array Edge} {g : Option (Nat × Bool)} (hx : val fr x = some (.pointer (some ⟨b, 0, none⟩))) (hy : val fr y = some (.agg (dC c2 r2).toArray)) (ht : tl E.T t = some i)
    (hU : Upd (blk b T (dC c rest)) (blk b T (dC c2 r2)) U U') (hs : Nat.beq i.size (256 + r2.length) = true) (hl : Nat.beq rest.length r2.length = true) (h1 : r2.all oneB = true) (h : N fr U') : EV1 E ⟨none, .store t x y, ty, pos, af, g⟩ fr U N := by
  have hl2 := Nat.eq_of_beq_eq_true hl
  have e : setMany (dC c rest) 0 (dC c2 r2) = dC c2 r2 := setMany_all _ _ (by rw [dC_len, dC_len, hl2])
  rw [← e] at hU
  refine o_store hx hy ht rfl ?_ ?_ ?_ hU h
  · rw [Nat.eq_of_beq_eq_true hs]; simp only [Value.cells]; rw [dC_len]; exact Nat.beq_refl _
  · simp only [Value.cells]
    rw [List.all_eq_true]
    exact dC_one c2 r2 (List.all_eq_true.1 h1)
  · rw [Nat.eq_of_beq_eq_true hs, dC_len, hl2, Nat.zero_add, Nat.ble_eq]; exact Nat.le_refl _

theorem o_dNew {d : Nat} {ty : TypeId} {pos : String} {af : Array Edge} {g : Option (Nat × Bool)} (ht : tl E.T t = some i) (hz : i.zero = List.replicate 256 (Value.int .i64 0) ++ rest) (hd : Nat.ble (d + 1) E.n = true)
    (h : ∀ b, N ((d, .pointer (some ⟨b, 0, none⟩)) :: fr) (blk b t (dC .zero rest) :: U)) : EV1 E ⟨some d, .alloc t, ty, pos, af, g⟩ fr U N := by
  refine o_alloc ht hd (fun b => ?_)
  rw [hz, dC_zero]; exact h b
theorem o_dNew0 {d : Nat} {ty : TypeId} {pos : String} {af : Array Edge} {g : Option (Nat × Bool)} (ht : tl E.T t = some i) (hz : i.zero = List.replicate 256 (Value.int .i64 0)) (hd : Nat.ble (d + 1) E.n = true)
    (h : ∀ b, N ((d, .pointer (some ⟨b, 0, none⟩)) :: fr) (blk b t (dC .zero []) :: U)) : EV1 E ⟨some d, .alloc t, ty, pos, af, g⟩ fr U N := by
  refine o_alloc ht hd (fun b => ?_)
  rw [hz, dC_zero0]; exact h b
/-! ### by the class search -/
class TakD (b : Nat) (U : List Asn) (T : outParam TypeId) (c : outParam C256) (rest : outParam (List Value)) (W : outParam (List Asn)) : Prop where
  tak : Tak (blk b T (dC c rest)) U W
instance TakD.s {b : Nat} {U : List Asn} {T : TypeId} {c : C256} {rest : List Value} {W : List Asn} {B : Asn} [h : TakD b U T c rest W] : TakD b (B :: U) T c rest (B :: W) := ⟨.s h.tak⟩
instance TakD.z {b : Nat} {U : List Asn} {T : TypeId} {c : C256} {rest : List Value} : TakD b (blk b T (dC c rest) :: U) T c rest U := ⟨.z⟩
instance TakD.n {b : Nat} {U : List Asn} {T : TypeId} {c : C256} {rest : List Value} {W : List Asn} [h : TakD b U T c rest W] : TakD b ([] ++ U) T c rest W := h
instance TakD.a {b : Nat} {L U : List Asn} {T : TypeId} {c : C256} {rest : List Value} {W : List Asn} {B : Asn} [h : TakD b (B :: (L ++ U)) T c rest W] : TakD b ((B :: L) ++ U) T c rest W := h
theorem td {b : Nat} {U : List Asn} {T : TypeId} {c : C256} {rest : List Value} {W : List Asn} [h : TakD b U T c rest W] : TakD b U T c rest W := h
theorem dR (hx : val fr x = some (.pointer (some ⟨b, o, none⟩))) (ht : tl E.T t = some i) (hU : TakD b U T c rest U') (ha : aggB i.d = false) (ho : Nat.ble 256 o = true) (hk : rest[o - 256]? = some v) : NEV E (.load t x) fr U v := n_dR hx ht hU.tak ha ho hk
theorem dA (hx : val fr x = some (.pointer (some ⟨b, 0, none⟩))) (ht : tl E.T t = some i) (hU : TakD b U T c rest U') (ha : aggB i.d = true) (hs : Nat.beq i.size (256 + rest.length) = true) : NEV E (.load t x) fr U (.agg (dC c rest).toArray) := n_dA hx ht hU.tak ha hs
theorem dK (hx : val fr x = some (.pointer (some ⟨b, 0, none⟩))) (ht : tl E.T t = some i) (hU : TakD b U T c rest U') (ha : aggB i.d = true) (hs : Nat.beq i.size 256 = true) : NEV E (.load t x) fr U (.agg (dC c []).toArray) := n_dK hx ht hU.tak ha hs
theorem dS {W : List Asn} {ty : TypeId} {pos : String} {af : Array Edge} {g : Option (Nat × Bool)} (hx : val fr x = some (.pointer (some ⟨b, o, none⟩))) (hy : val fr y = some v) (ht : tl E.T t = some i) (hs : Nat.beq i.size 1 = true) (hv : v.cells.toList = [v]) (h1 : oneB v = true)
    (ho : Nat.ble 256 o = true) (hW : TakD b U T c rest W) (hU : UpdC (blk b T (dC c rest)) (blk b T (dC c (rest.set (o - 256) v))) U U') (hl : Nat.ble (o + 1) (256 + rest.length) = true) (h : N fr U') : EV1 E ⟨none, .store t x y, ty, pos, af, g⟩ fr U N := o_dS hx hy ht hs hv h1 ho hl hU.upd h
theorem dAll {W : List Asn} {c2 : C256} {r2 : List Value} {ty : TypeId} {pos : String} {af : Array Edge} {g : Option (Nat × Bool)} (hx : val fr x = some (.pointer (some ⟨b, 0, none⟩))) (hy : val fr y = some (.agg (dC c2 r2).toArray)) (ht : tl E.T t = some i)
    (hW : TakD b U T c rest W) (hU : UpdC (blk b T (dC c rest)) (blk b T (dC c2 r2)) U U') (hs : Nat.beq i.size (256 + r2.length) = true) (hl : Nat.beq rest.length r2.length = true) (h1 : r2.all oneB = true) (h : N fr U') : EV1 E ⟨none, .store t x y, ty, pos, af, g⟩ fr U N := o_dAll hx hy ht hU.upd hs hl h1 h

end loads

/-! ### structs that are built -/
theorem n_build {t : TypeId} {s1 b1 : Nat} {fs : List (Nat × Nat)} {z cs : List Value} {parts : Array (Nat × Operand)} {ps : List (Nat × Value)} (ht : tl E.T t = some ⟨.struct fs, s1, b1, z⟩) (hp : partVals fr parts.toList = some ps) (ha : fs.all (fun p => Nat.ble 1 p.2) = true)
    (hf : fillL fs z ps = some cs) : NEV E (.build t parts) fr U (.agg cs.toArray) := by
  refine peval_sound ?_
  simp only [peval, ht, hp, ha, hf]

theorem fillD_one {fs : List (Nat × Nat)} {i o : Nat} {v : Value} {ps : List (Nat × Value)} {c : C256} {rest : List Value} (hi : fs[i]? = some (o, 1)) (ho : 256 ≤ o) (hv : v.cells.toList = [v]) (hl : o + 1 ≤ 256 + rest.length) :
    fillL fs (dC c rest) ((i, v) :: ps) = fillL fs (dC c (rest.set (o - 256) v)) ps := by
  have e : setMany (dC c rest) o [v] = dC c (rest.set (o - 256) v) := by simp only [setMany]; rw [dC_setR _ _ ho]
  rw [fillL, hi]
  simp only [hv, List.length_singleton, ne_eq, not_true_eq_false, if_false]
  rw [if_pos (by rw [dC_len]; exact hl), e]

theorem fillD_arr {fs : List (Nat × Nat)} {i : Nat} {ps : List (Nat × Value)} {c c2 : C256} {r2 rest : List Value} (hi : fs[i]? = some (0, 256 + r2.length)) (hl : r2.length ≤ rest.length) :
    fillL fs (dC c rest) ((i, .agg (dC c2 r2).toArray) :: ps) = fillL fs (dC c2 (r2 ++ rest.drop r2.length)) ps := by
  have e : setMany (dC c rest) 0 (dC c2 r2) = dC c2 (r2 ++ rest.drop r2.length) := by
    rw [setMany_splice _ _ 0 (by rw [dC_len, dC_len]; omega), List.take_zero, List.nil_append, Nat.zero_add, dC_len, ← dC_app]
    congr 1
    unfold dC
    rw [List.drop_append, List.length_map, c.h, List.drop_of_length_le (by rw [List.length_map, c.h]; omega), List.nil_append, Nat.add_sub_cancel_left]
  have e1 : (Value.agg (dC c2 r2).toArray).cells.toList = dC c2 r2 := rfl
  have e2 : ¬ ((dC c2 r2).length ≠ 256 + r2.length) := by rw [dC_len]; simp
  have e3 : 0 + (256 + r2.length) ≤ (dC c rest).length := by rw [dC_len]; omega
  rw [fillL, hi]
  simp only [e1]
  rw [if_neg e2, if_pos e3, e]

theorem fillD_nil {fs : List (Nat × Nat)} {cs : List Value} : fillL fs cs [] = some cs := rfl

/-! ### arrays, compared -/
theorem n_neqD {P : Program} {t e t2 : TypeId} {x y : Operand} {c d : C256} {s1 b1 s2 b2 : Nat} {z1 z2 : List Value} (hP : E.P = P) (hq : P.eqGuardType P.depth t = false) (hx : val fr x = some (.agg (dC c []).toArray)) (hy : val fr y = some (.agg (dC d []).toArray)) (ht : tl E.T t = some ⟨.arr 256 e, s1, b1, z1⟩) (he : tl E.T e = some ⟨.int .i64, s2, b2, z2⟩) (hs : Nat.beq s2 1 = true) :
    NEV E (.binOp .neq t x y t2) fr U (.bool (!decide (c.l = d.l))) := by
  subst hP
  intro a w dst ty pos af g hf _
  obtain ⟨inf, v0, hinf, _, hsz, _, _⟩ := ti_info he
  have hs2 := Nat.eq_of_beq_eq_true hs
  have hsz2 : ∀ w : World, (sizeOf e).run E.P w = .ok 1 w := fun w => by rw [run_size hinf, hsz, hs2]
  have hpk : E.P.plainKey e = true := by unfold Program.plainKey; rw [u_int he]
  have hp : ∀ (c : C256) (j : Nat), j < 256 → (part e (dC c []).toArray (j * 1)).run E.P w = .ok (.int .i64 (c.get j)) w := fun c j hj =>
    run_part_plain (P := E.P) w hpk (by rw [Nat.mul_one, List.getElem?_toArray]; exact dC_get _ _ hj)
  have loop : ∀ (js : List Nat), (∀ j ∈ js, j < 256) → (forIn js ((none, ()) : Option Bool × Unit) fun i __s => do
              let __do_lift ← part e (dC c []).toArray (i * 1)
              let __do_lift_1 ← part e (dC d []).toArray (i * 1)
              let __do_lift ← Op.equalIn 9999 e __do_lift __do_lift_1
              if (!__do_lift) = true then pure (ForInStep.done (some false, ())) else pure (ForInStep.yield (none, ())) : Sem (Option Bool × Unit)).run E.P w =
        .ok (if js.all (fun j => decide (c.get j = d.get j)) then (none, ()) else (some false, ())) w := by
    intro js
    induction js with
    | nil => intro _; simp
    | cons j js ih =>
      intro h
      simp only [List.forIn_cons, Sem.run_bind, hp c j (h j (List.mem_cons_self ..)), hp d j (h j (List.mem_cons_self ..)), Result.andThen_ok, run_equalIn_int w 9998 e .i64 .i64 _ _ (u_int he), List.all_cons]
      by_cases hj : c.get j = d.get j
      · simp only [hj, beq_self_eq_true, Bool.not_true, Bool.false_eq_true, if_false, Sem.run_pure, Result.andThen_ok, decide_true, Bool.true_and]
        exact ih (fun k hk => h k (List.mem_cons_of_mem _ hk))
      · have : (c.get j == d.get j) = false := by simpa using hj
        simp [this, hj]
  have hE : (Op.equal t (.agg (dC c []).toArray) (.agg (dC d []).toArray)).run E.P w = .ok (decide (c.l = d.l)) w := by
    unfold Op.equal Op.maxDepth Op.equalIn
    simp only [Sem.run_bind, run_under (u_arr ht), Result.andThen_ok, hsz2]
    rw [Std.Legacy.Range.forIn_eq_forIn_range']
    have e1 : List.range' ([:256] : Std.Legacy.Range).start ([:256] : Std.Legacy.Range).size ([:256] : Std.Legacy.Range).step = List.range 256 := by
      rw [List.range_eq_range']; rfl
    rw [e1, loop (List.range 256) (fun j hj => List.mem_range.1 hj)]
    have e2 : (List.range 256).all (fun j => decide (c.get j = d.get j)) = decide (c.l = d.l) := by
      rw [Bool.eq_iff_iff, List.all_eq_true, decide_eq_true_eq]
      constructor
      · intro h
        apply List.ext_getElem (by rw [c.h, d.h])
        intro j h1 h2
        have := h j (List.mem_range.2 (by rw [← c.h]; exact h1))
        rw [decide_eq_true_eq, c.get_eq h1, d.get_eq h2] at this
        exact this
      · intro h j _
        rw [decide_eq_true_eq, C256.ext h]
    rw [e2]
    cases decide (c.l = d.l) <;> simp
  simp [execOp, hf.eval hx, hf.eval hy, eqGuard, hq, binOp, u_arr ht, hE]

attribute [irreducible] dC

end Go.Proofs.Ytjeimmekhfhepaa.E

namespace Go.Proofs.Ytjeimmekhfhepaa.E
set_option linter.all false
variable {E : Env} {fr : Frm} {U V : List Asn} {N : Frm → List Asn → Prop}

/-- l[:n:n]. -/
theorem n_full {t e : TypeId} {x y z : Operand} {s1 b1 : Nat} {z1 : List Value} {i : TI} {A : Option Addr} {n c : Nat} {k1 k2 : IntKind} {q1 q2 : Int}
    (ht : tl E.T t = some ⟨.slice e, s1, b1, z1⟩) (he : tl E.T e = some i) (hx : val fr x = some (.slice A n c)) (hy : val fr y = some (.int k1 q1)) (hz : val fr z = some (.int k2 q2)) (h1 : q1 = (n : Int)) (h2 : q2 = (n : Int)) (hn : n ≤ c) :
    NEV E (.slice t x none (some y) (some z)) fr U (.slice A n n) := by
  intro a w dst ty pos af g hf _
  subst h1; subst h2
  obtain ⟨dd, sz, bytes, zz⟩ := i
  obtain ⟨inf, zv, hinf, hzv, hs, hbb, hzc⟩ := ti_info he
  have hu := u_slice ht
  have hel : E.P.elem t = e := by simp [Program.elem, hu]
  have hsz : (sizeOf e).run E.P w = .ok sz w := by simp [sizeOf, run_info hinf, hs]
  have hr := run_slice_any (P := E.P) (w := w) t A n c (by rw [hel]; exact hu) none (some (.int k1 (n : Int))) (some (.int k2 (n : Int)))
  have hb : (Instr.sliceBounds true n c none (some (.int k1 (n : Int))) (some (.int k2 (n : Int)))).run E.P w = .ok (0, n, n) w := by
    simp [Instr.sliceBounds, run_sliceBound, hn, (by omega : (n : Int) ≤ c)]
  rw [hb, hel] at hr
  simp only [Result.andThen_ok, hsz] at hr
  have ha := run_sliceAt_slice (P := E.P) (w := w) t (.slice A n c) none (some (.int k1 (n : Int))) (some (.int k2 (n : Int))) (by rw [hel]; exact hu)
  rw [hr] at ha
  simp [execOp, hf.eval hx, hf.eval hy, hf.eval hz, ha, sliced]
  cases A <;> simp [Addr.add]

/-- append(l[:n:n], m...): always anew. -/
theorem o_appendG {d : Nat} {t e : TypeId} {x y : Operand} {ty : TypeId} {pos : String} {af : Array Edge} {g : Option (Nat × Bool)} {s1 b1 : Nat} {z1 : List Value} {i : TI} {b0 o0 n : Nat} {xs : List Value}
    {g2 o2 m c2 : Nat} {news : List Value}
    (ht : tl E.T t = some ⟨.slice e, s1, b1, z1⟩) (he : tl E.T e = some i) (hx : val fr x = some (.slice (some ⟨b0, o0, none⟩) n n)) (hy : val fr y = some (.slice (some ⟨g2, o2, none⟩) m c2))
    (hol : ∀ w, Mem E U w → ∀ j u, xs[j]? = some u → w.cell? ⟨b0, o0 + j, none⟩ = some u) (hxl : xs.length = n * i.size)
    (hsrc : ∀ w, Mem E U w → ∀ j u, news[j]? = some u → w.cell? ⟨g2, o2 + j, none⟩ = some u) (hl : news.length = m * i.size)
    (hzl : Nat.beq i.zero.length i.size = true) (hm0 : 0 < m) (hby : (n + m) * i.bytes ≤ 140737488355328) (h63 : n + m ≤ 9223372036854775807) (hd : Nat.ble (d + 1) E.n = true)
    (h : ∀ b c, N ((d, .slice (some ⟨b, 0, none⟩) (n + m) c) :: fr) (osl e i.size (.slice (some ⟨b, 0, none⟩) (n + m) c) (n + m) (xs ++ news) :: U)) :
    EV1 E ⟨some d, .call ⟨.builtin .append, #[x, y], #[t, t]⟩, ty, pos, af, g⟩ fr U N := by
  intro a w hf hm
  obtain ⟨dd, sz, bytes, z⟩ := i
  obtain ⟨inf, zv, hinf, hzv, hs, hbb, hzc⟩ := ti_info he
  have hzs : zv.cells.size = inf.size := by rw [hzc, hs]; simpa using Nat.eq_of_beq_eq_true hzl
  simp only at hl hby hxl h
  subst hs
  subst hbb
  have hr := run_append_grow (P := E.P) w t ty e inf zv (u_slice ht) hinf hzv ⟨b0, o0, none⟩ n n xs hxl (fun j u hu => by rw [add_at]; exact hol w hm j u hu) ⟨g2, o2, none⟩ m c2 news hl
    (fun j u hu => by rw [add_at]; exact hsrc w hm j u hu) (by omega) (by omega) (growslice_fits (by omega) hby)
  have hlen : (xs ++ news).length = (n + m) * inf.size := by rw [List.length_append, hxl, hl, Nat.add_mul]
  have hge := grownCap_ge w (n + m) n e
  have hcm : grownCap w (n + m) n e ≤ maxLen := grownCap_le_maxLen w (n + m) n e (by rw [maxLen_eq]; exact h63)
  unfold Oper.wp execOp
  simp only [resolve, invoke, builtin, Sem.run_bind, Sem.run_pure, Result.andThen_ok, List.map_toArray, List.map_cons, List.map_nil, hf.eval hx, hf.eval hy, hr]
  refine ⟨_, _, h w.heap.size (grownCap w (n + m) n e), hf.put (Nat.le_of_ble_eq_true hd) _, ?_⟩
  refine hm.new (T1 := fun k => k = w.heap.size) ⟨rfl, rfl, rfl, by simp, fun k hk _ => @heap_alloc_old w.drew _ _ hk⟩ ⟨⟨hlen, .inr ⟨w.heap.size, _, _, rfl, Nat.zero_le _, heap_alloc_new w.drew _, hge, hcm, ?_, ?_⟩⟩, ?_⟩ ?_
  · simp only [Array.size_append, List.size_toArray, size_zeroCells, hzs, hxl, hl, ← Nat.add_mul]
    congr 1
    omega
  · simp only [Array.toList_append, List.append_assoc]
    rw [← List.append_assoc, ← hlen]
    exact List.take_left
  · intro k hk; simp [Value.ownBlock] at hk; exact hk.symm
  · rintro k rfl
    exact ⟨by simp, Nat.le_refl _⟩

/-! ### a map that numbers things as they come -/
section num
variable {κ : Type} [DecidableEq κ]
def ix : List κ → κ → Nat
  | [], _ => 0
  | x :: u, k => if x = k then 0 else ix u k + 1

theorem ix_cons {u : List κ} {x k : κ} (h : ¬ x = k) : ix (x :: u) k = ix u k + 1 := by show (if x = k then 0 else ix u k + 1) = _; rw [if_neg h]

def asO : Nat → List κ → List (κ × Value)
  | _, [] => []
  | i, k :: u => (k, .int .i64 (i : Nat)) :: asO (i + 1) u

theorem asO_len : ∀ (i : Nat) (u : List κ), (asO i u).length = u.length
  | _, [] => rfl
  | i, _ :: u => by unfold asO; rw [List.length_cons, List.length_cons, asO_len]

theorem asO_look (k : κ) : ∀ (i : Nat) (u : List κ), lookK (asO i u) k = if k ∈ u then some (.int .i64 ((i + ix u k : Nat) : Int)) else none
  | _, [] => by simp [asO, lookK]
  | i, x :: u => by
    unfold asO
    have ih := asO_look k (i + 1) u
    unfold lookK at ih ⊢
    by_cases h : x = k
    · subst h
      rw [List.find?_cons_of_pos (by simp), if_pos List.mem_cons_self]
      simp [ix]
    · rw [List.find?_cons_of_neg (by simpa using h), ih]
      have h2 : ¬ k = x := fun e => h e.symm
      by_cases hm : k ∈ u
      · rw [if_pos hm, if_pos (List.mem_cons_of_mem _ hm)]
        rw [ix_cons h]
        congr 3; omega
      · rw [if_neg hm, if_neg (by rw [List.mem_cons]; exact fun h3 => h3.elim h2 hm)]

theorem asO_set (k : κ) : ∀ (i : Nat) (u : List κ), k ∉ u → setK k (.int .i64 ((i + u.length : Nat) : Int)) (asO i u) = asO i (u ++ [k])
  | i, [], _ => by simp [asO, setK]
  | i, x :: u, h => by
    rw [List.cons_append]
    unfold asO setK
    rw [if_neg (fun e : x = k => h (by rw [e]; exact List.mem_cons_self)), ← asO_set k (i + 1) u (fun h2 => h (List.mem_cons_of_mem _ h2))]
    have e : i + (x :: u).length = i + 1 + u.length := by rw [List.length_cons]; omega
    rw [e]

def asG (u : List κ) : List (κ × Value) := asO 0 u
theorem asG_len (u : List κ) : (asG u).length = u.length := asO_len 0 u
theorem asG_in {u : List κ} {k : κ} (h : k ∈ u) : lookK (asG u) k = some (.int .i64 (ix u k : Nat)) := by unfold asG; rw [asO_look, if_pos h, Nat.zero_add]
theorem asG_out {u : List κ} {k : κ} (h : k ∉ u) : lookK (asG u) k = none := by unfold asG; rw [asO_look, if_neg h]
theorem asG_set {u : List κ} {k : κ} (h : k ∉ u) : setK k (.int .i64 (u.length : Nat)) (asG u) = asG (u ++ [k]) := by
  have := asO_set k 0 u h
  rwa [Nat.zero_add] at this

variable {P : Program} {t kt e : TypeId} {s1 b1 : Nat} {z1 : List Value} {z : Value} {x y : Operand} {b : Nat} {k : κ} {enc : κ → Value} {u : List κ} {U' : List Asn}

theorem n_g2_in (hin : k ∈ u) (hP : E.P = P) (K : MKey P kt enc) (hz : ∀ w, (zeroValue e).run P w = .ok z w) (ht : tl E.T t = some ⟨.map kt e, s1, b1, z1⟩) (hx : val fr x = some (.map (some b))) (hy : val fr y = some (enc k)) (hU : Tak (mapA enc b (asG u)) U U') :
    NEV E (.lookup t x y true) fr U (.tuple #[.int .i64 (ix u k : Nat), .bool true]) := by
  have := n_lookup2 hP K hz ht hx hy hU
  rwa [asG_in hin] at this
theorem n_g2_out (hout : k ∉ u) (hP : E.P = P) (K : MKey P kt enc) (hz : ∀ w, (zeroValue e).run P w = .ok z w) (ht : tl E.T t = some ⟨.map kt e, s1, b1, z1⟩) (hx : val fr x = some (.map (some b))) (hy : val fr y = some (enc k)) (hU : Tak (mapA enc b (asG u)) U U') :
    NEV E (.lookup t x y true) fr U (.tuple #[z, .bool false]) := by
  have := n_lookup2 hP K hz ht hx hy hU
  rwa [asG_out hout] at this
theorem n_g_in (hin : k ∈ u) (hP : E.P = P) (K : MKey P kt enc) (hz : ∀ w, (zeroValue e).run P w = .ok z w) (ht : tl E.T t = some ⟨.map kt e, s1, b1, z1⟩) (hx : val fr x = some (.map (some b))) (hy : val fr y = some (enc k)) (hU : Tak (mapA enc b (asG u)) U U') :
    NEV E (.lookup t x y false) fr U (.int .i64 (ix u k : Nat)) := by
  have := n_lookup hP K hz ht hx hy hU
  rwa [asG_in hin] at this
theorem n_glen (ht : tl E.T t = some ⟨.map kt e, s1, b1, z1⟩) (hx : val fr x = some (.map (some b))) (hU : Tak (mapA enc b (asG u)) U U') : NEV E (.call ⟨.builtin .len, #[x], #[t]⟩) fr U (.int .i64 (u.length : Nat)) := by
  have := n_lenM ht hx hU
  rwa [asG_len] at this
theorem o_gup {w : Operand} {ty : TypeId} {pos : String} {af : Array Edge} {g : Option (Nat × Bool)} (hout : k ∉ u) (hP : E.P = P) (K : MKey P kt enc) (ht : tl E.T t = some ⟨.map kt e, s1, b1, z1⟩) (hx : val fr x = some (.map (some b))) (hy : val fr y = some (enc k)) (hz : val fr w = some (.int .i64 (u.length : Nat)))
    (hU : Upd (mapA enc b (asG u)) (mapA enc b (asG (u ++ [k]))) U U') (h : N fr U') : EV1 E ⟨none, .mapUpdate t x y w, ty, pos, af, g⟩ fr U N := by
  rw [← asG_set hout] at hU
  exact o_mapUpdate hP K ht hx hy hz hU h
end num

theorem ro_cells {b o : Nat} {xs : List Int} (h : Els kint E.w0 E.ro (some ⟨b, o, none⟩) xs) : ∀ w, Mem E U w → ∀ j u, (xs.map (Value.int .i64))[j]? = some u → w.cell? ⟨b, o + j, none⟩ = some u := by
  intro w hw j u hj
  by_cases hm : 0 < xs.length
  · obtain ⟨g2, o2, e, hh⟩ := ro_ints (U := U) h hm
    cases e
    exact hh w hw j u hj
  · have : xs = [] := List.eq_nil_of_length_eq_zero (by omega)
    subst this
    simp at hj

/-- [2]int{a, b}. -/
theorem n_build2 {t e : TypeId} {x y : Operand} {s1 b1 b2 : Nat} {u0 u1 : Value} {z2 : List Value} {a b : Int} (ht : tl E.T t = some ⟨.arr 2 e, s1, b1, [u0, u1]⟩) (he : tl E.T e = some ⟨.int .i64, 1, b2, z2⟩) (hx : val fr x = some (.int .i64 a)) (hy : val fr y = some (.int .i64 b)) :
    NEV E (.build t #[(0, x), (1, y)]) fr U (.agg #[.int .i64 a, .int .i64 b]) := by
  intro ac w dst ty pos af g hf _
  obtain ⟨inf, zv, hinf, hzv, hs, hbb, hzc⟩ := ti_info ht
  obtain ⟨inf2, zv2, hinf2, hzv2, hs2, hbb2, hzc2⟩ := ti_info he
  have hsz : (sizeOf e).run E.P w = .ok 1 w := by rw [run_size hinf2, hs2]
  have ev : ∀ n : Int, (Value.int .i64 n).cells = #[Value.int .i64 n] := fun _ => rfl
  simp [execOp, hf.eval hx, hf.eval hy, Instr.build, run_zero hinf hzv, run_under (u_arr ht), hsz, hzc, Instr.fill, ev]

end Go.Proofs.Ytjeimmekhfhepaa.E

namespace Go.Proofs.Ytjeimmekhfhepaa.E
set_option linter.all false
variable {E : Env} {fr : Frm} {U V : List Asn} {K : Frm → List Asn → Prop} {k : List It} {ops : Array Oper}

def EVP (E : Env) (K : Frm → List Asn → Prop) (k : List It) (ops : Array Oper) (fuel : Nat) (done : List Nat) (fr : Frm) (U : List Asn) : Prop :=
  Region.noSelect ops = true → ∀ a w, Clo ops (lset ops done) → Fr E fr a → Mem E U w → wpAny E.P .any ops (post E K k) fuel (lset ops done) a w

/-- z is the next barrier; V stays true until then. -/
def EVQ (E : Env) (K : Frm → List Asn → Prop) (k : List It) (ops : Array Oper) (z : Nat) (V : List Asn) (fuel : Nat) (done : List Nat) (fr : Frm) (U : List Asn) : Prop :=
  Region.noSelect ops = true → ∀ a w, Clo ops (lset ops done) → Fr E fr a → Mem E U w → wpAnyB E.P ops (post E K k) z (fun w => Mem E V w) fuel (lset ops done) a w

theorem s_P {id : Nat} (hm : E.P.follows .mixedOrders = true) (hs : Region.noSelect ops = true) (h : EVP E K k ops ops.size [] fr U) : EVS E K (.code (.region id ops true) :: k) fr U := by
  intro a w hf hmem
  refine wp_region_any hm ?_
  have hc : Clo ops (lset ops []) := by
    intro m o ho hl e he hb
    have hm : m < ops.size := (Array.getElem?_eq_some_iff.1 ho).1
    rw [lset_get hm] at hl
    cases hl
  have := h hs a { w with drawn := w.drawn + 1 } hc hf hmem.drew
  rw [lset_nil] at this
  exact this

theorem p_done {fuel : Nat} {done : List Nat} (hr : Region.ready .any ops (lset ops done) = []) (h : EVS E K k fr U) : EVP E K k ops fuel done fr U := by
  intro _ a w _ hf hm
  cases fuel with
  | zero => exact ⟨hr, fr, U, h, hf, hm⟩
  | succ f => exact ⟨fun _ => ⟨fr, U, h, hf, hm⟩, fun i hi => by rw [hr] at hi; cases hi⟩

/-- A move, taken at once. -/
theorem p_mv {fuel : Nat} {done : List Nat} (i : Nat) {d : Nat} {x : Operand} {ty : TypeId} {pos : String} {af : Array Edge} {v : Value} (hi : ops[i]? = some ⟨some d, .move x, ty, pos, af, none⟩)
    (hx : val fr x = some v) (hok : takeOk ops done i = true) (hd : Nat.ble (d + 1) E.n = true) (h : EVP E K k ops fuel (i :: done) ((d, v) :: fr) U) : EVP E K k ops (fuel + 1) done fr U := by
  intro hs a w hc hf hm
  simp only [takeOk, Bool.and_eq_true] at hok
  have hr : i ∈ Region.ready .any ops (lset ops done) := by simpa using hok.2.1
  refine wpAny_first (v := v) hi (Region.noSelect_spec hs) (fun c a w h => post_panic h) _ _ _ _ (Region.free_spec hi hok.2.2) hr (.inl ⟨rfl, fun w => ?_⟩) ?_
  · simp [execOp, hf.eval hx]
  · have hc2 := hc.set hr
    rw [lset_cons] at hc2 ⊢
    exact h hs _ w hc2 (hf.put (Nat.le_of_ble_eq_true hd) v) hm

theorem p_bar {fuel : Nat} {done : List Nat} (z : Nat) (V : List Asn) (h : EVQ E K k ops z V fuel done fr U) : EVP E K k ops fuel done fr U :=
  fun hs a w hc hf hm => wpAny_of_B _ _ _ _ (h hs a w hc hf hm)

theorem p_barU {fuel : Nat} {done : List Nat} (z : Nat) (h : EVQ E K k ops z U fuel done fr U) : EVP E K k ops fuel done fr U := p_bar z U h

/-- The only one that may come up. -/
theorem p_1 {fuel : Nat} {done : List Nat} (i : Nat) {o : Oper} (hr : Region.ready .any ops (lset ops done) = [i]) (ho : ops[i]? = some o) (hg : o.guard = none)
    (h : EV1 E o fr U (EVP E K k ops fuel (i :: done))) : EVP E K k ops (fuel + 1) done fr U := by
  intro hs a w hc hf hm
  refine ⟨fun h2 => (by rw [hr] at h2; cases h2), fun j hj => ?_⟩
  have hc2 := hc.set hj
  rw [hr, List.mem_singleton] at hj
  subst hj
  unfold wpOp
  have hw : Region.wanted o (yielded ops a.tmps) = true := by simp [Region.wanted, hg]
  simp only [ho, hw, if_true]
  refine .inl (Oper.wp_mono2 ?_ (h a w hf hm))
  rintro a' w' ⟨fr', U', hk, hf', hm'⟩
  rw [lset_cons] at hc2 ⊢
  exact hk hs a' w' hc2 hf' hm'

theorem q_take {fuel : Nat} {done : List Nat} {z : Nat} (i : Nat) {d : Nat} {o : Op} {ty : TypeId} {pos : String} {af : Array Edge} {g : Option (Nat × Bool)} {v : Value} (hi : ops[i]? = some ⟨some d, o, ty, pos, af, g⟩)
    (hy : ∀ a, Fr E fr a → YieldsIf E.P ops (fun w => Mem E V w) ⟨some d, o, ty, pos, af, g⟩ v a) (hok : takeOk ops done i = true) (hw : (!Nat.beq i z && waits ops 12 z i) = true) (hV : Ent U V) (hd : Nat.ble (d + 1) E.n = true)
    (h : EVQ E K k ops z V fuel (i :: done) ((d, v) :: fr) U) : EVQ E K k ops z V (fuel + 1) done fr U := by
  intro hs a w hc hf hm
  simp only [takeOk, Bool.and_eq_true] at hok
  rw [Bool.and_eq_true] at hw
  have hr : i ∈ Region.ready .any ops (lset ops done) := by simpa using hok.2.1
  have hne : i ≠ z := fun e => by subst e; simp at hw
  have hc2 := hc.set hr
  rw [lset_cons] at hc2
  have key := h hs _ w hc2 (hf.put (Nat.le_of_ble_eq_true hd) v) hm
  rw [← lset_cons] at key
  exact wpAnyB_first hi (Region.noSelect_spec hs) (fun c a w h => post_panic h) hne (fun _ => ⟨12, hw.2⟩) _ _ _ _ hc (Region.free_spec hi hok.2.2) hr (hy a hf) (hm.ent hV) key

theorem q_n {fuel : Nat} {done : List Nat} {z : Nat} (i : Nat) {d : Nat} {o : Op} {ty : TypeId} {pos : String} {af : Array Edge} {v : Value} (hi : ops[i]? = some ⟨some d, o, ty, pos, af, none⟩)
    (hn : NEV E o fr V v) (hok : takeOk ops done i = true) (hw : (!Nat.beq i z && waits ops 12 z i) = true) (hV : Ent U V) (hd : Nat.ble (d + 1) E.n = true)
    (h : EVQ E K k ops z V fuel (i :: done) ((d, v) :: fr) U) : EVQ E K k ops z V (fuel + 1) done fr U :=
  q_take i hi (fun a hf => .inl ⟨rfl, fun w hw => hn a w _ _ _ _ _ hf hw⟩) hok hw hV hd h

theorem q_ny {fuel : Nat} {done : List Nat} {z : Nat} (i : Nat) {d : Nat} {o : Op} {ty : TypeId} {pos : String} {af : Array Edge} {v : Value} {j : Nat} {b : Bool} (hi : ops[i]? = some ⟨some d, o, ty, pos, af, some (j, b)⟩) (hg : gval ops fr j = some b)
    (hn : NEV E o fr V v) (hok : takeOk ops done i = true) (hw : (!Nat.beq i z && waits ops 12 z i) = true) (hV : Ent U V) (hd : Nat.ble (d + 1) E.n = true)
    (h : EVQ E K k ops z V fuel (i :: done) ((d, v) :: fr) U) : EVQ E K k ops z V (fuel + 1) done fr U :=
  q_take i hi (fun a hf => .inl ⟨by simp [Region.wanted, gval_yielded hf hg], fun w hw => hn a w _ _ _ _ _ hf hw⟩) hok hw hV hd h

theorem q_z {fuel : Nat} {done : List Nat} (z : Nat) {o : Oper} (hr : Region.ready .any ops (lset ops done) = [z]) (ho : ops[z]? = some o) (hg : o.guard = none)
    (h : EV1 E o fr U (EVP E K k ops fuel (z :: done))) : EVQ E K k ops z V (fuel + 1) done fr U := by
  intro hs a w hc hf hm
  refine ⟨fun h2 => (by rw [hr] at h2; cases h2), fun j hj => ?_⟩
  have hc2 := hc.set hj
  rw [hr, List.mem_singleton] at hj
  subst hj
  unfold wpOp
  have hw : Region.wanted o (yielded ops a.tmps) = true := by simp [Region.wanted, hg]
  simp only [ho, hw, if_true]
  refine .inl (Oper.wp_mono2 ?_ (h a w hf hm))
  rintro a' w' ⟨fr', U', hk, hf', hm'⟩
  refine ⟨fun _ => ?_, fun h3 => absurd rfl h3⟩
  rw [lset_cons] at hc2 ⊢
  exact hk hs a' w' hc2 hf' hm'

/-- One that acts, and leaves V. -/
theorem q_1 {fuel : Nat} {done : List Nat} {z : Nat} (i : Nat) {o : Oper} (hr : Region.ready .any ops (lset ops done) = [i]) (ho : ops[i]? = some o) (hg : o.guard = none) (hz : Nat.beq i z = false)
    (h : EV1 E o fr U (fun fr' U' => Ent U' V ∧ EVQ E K k ops z V fuel (i :: done) fr' U')) : EVQ E K k ops z V (fuel + 1) done fr U := by
  intro hs a w hc hf hm
  refine ⟨fun h2 => (by rw [hr] at h2; cases h2), fun j hj => ?_⟩
  have hc2 := hc.set hj
  rw [hr, List.mem_singleton] at hj
  subst hj
  unfold wpOp
  have hw : Region.wanted o (yielded ops a.tmps) = true := by simp [Region.wanted, hg]
  simp only [ho, hw, if_true]
  refine .inl (Oper.wp_mono2 ?_ (h a w hf hm))
  rintro a' w' ⟨fr', U', ⟨he, hk⟩, hf', hm'⟩
  refine ⟨fun e => (by subst e; simp at hz), fun _ => ⟨hm'.ent he, ?_⟩⟩
  rw [lset_cons] at hc2 ⊢
  exact hk hs a' w' hc2 hf' hm'

theorem n_look {κ : Type} [DecidableEq κ] {P : Program} {t kt e : TypeId} {s1 b1 : Nat} {z1 : List Value} {z v : Value} {x y : Operand} {b : Nat} {k : κ} {enc : κ → Value} {l : List (κ × Value)} {U' : List Asn} (hl : lookK l k = some v) (hP : E.P = P) (K : MKey P kt enc) (hz : ∀ w, (zeroValue e).run P w = .ok z w)
    (ht : tl E.T t = some ⟨.map kt e, s1, b1, z1⟩) (hx : val fr x = some (.map (some b))) (hy : val fr y = some (enc k)) (hU : Tak (mapA enc b l) U U') : NEV E (.lookup t x y false) fr U v := by
  have := n_lookup hP K hz ht hx hy hU
  rwa [hl] at this

/-- An element of several cells out of a slice that is read. -/
theorem n_load_rdA {α : Type} {kd : Kd α} {bytes n c : Nat} {xs : List α} (enc : α → List Value) (hk : ∀ w S cs x, kd.R w S cs x → cs = enc x) {t : TypeId} {x : Operand} {i : TI} {b o o' : Nat} {U' : List Asn}
    (hx : val fr x = some (.pointer (some ⟨b, o', none⟩))) (ht : tl E.T t = some i) (ha : aggB i.d = true) (hU : Tak (rdA (kslice bytes kd) [.slice (some ⟨b, o, none⟩) n c] xs) U U') (j : Nat) (hj : j < xs.length) (hs : i.size = kd.sz) (ho : o' = o + j * kd.sz) :
    NEV E (.load t x) fr U (.agg (enc xs[j]).toArray) := by
  refine n_load_of hx ht (fun w S hst => ?_)
  obtain ⟨S1, ⟨A, c', e, _, _, h3⟩, _⟩ := hU.mem hst
  cases e
  obtain ⟨b', o2, es, e, _, hR, hc⟩ := h3 j hj
  cases e
  have he := hk _ _ _ _ hR
  subst he
  subst ho
  exact loads_agg ha (by rw [kd.len hR, hs]) hc

theorem n_subI {x y : Operand} {t t2 : TypeId} {a b : Int} (hx : val fr x = some (.int .i64 a)) (hy : val fr y = some (.int .i64 b)) (h1 : -9223372036854775808 ≤ a - b) (h2 : a - b ≤ 9223372036854775807) : NEV E (.binOp .sub t x y t2) fr U (.int .i64 (a - b)) := by
  have := peval_sound (E := E) (U := U) (fr := fr) (o := .binOp .sub t x y t2) (v := .int .i64 (IntKind.i64.wrap (a - b))) (by simp [peval, hx, hy, intBin])
  rwa [wrap_i64 h1 h2] at this
theorem n_addI {x y : Operand} {t t2 : TypeId} {a b : Int} (hx : val fr x = some (.int .i64 a)) (hy : val fr y = some (.int .i64 b)) (h1 : -9223372036854775808 ≤ a + b) (h2 : a + b ≤ 9223372036854775807) : NEV E (.binOp .add t x y t2) fr U (.int .i64 (a + b)) := by
  have := peval_sound (E := E) (U := U) (fr := fr) (o := .binOp .add t x y t2) (v := .int .i64 (IntKind.i64.wrap (a + b))) (by simp [peval, hx, hy, intBin])
  rwa [wrap_i64 h1 h2] at this

theorem p_join {fuel : Nat} {done : List Nat} {ι : Type} (frX : ι → Frm) (UX : ι → List Asn) (hfin : ∀ x, EVS E K k (frX x) (UX x)) (h : (∀ x, EVS E K k (frX x) (UX x)) → EVP E K k ops fuel done fr U) :
    EVP E K k ops fuel done fr U := h hfin

/-! ### what a function hands back, the first out of a cell -/
theorem rescD {fn : Func} {p : Tmp} {t T : TypeId} {i : TI} {b : Nat} {c : C256} {rest : List Value} {U' : List Asn} (h : fn.results = #[.cell p t]) (hp : look fr p = some (.pointer (some ⟨b, 0, none⟩)))
    (ht : tl E.T t = some i) (hU : Tak (blk b T (dC c rest)) U U') (ha : aggB i.d = true) (hs : Nat.beq i.size (256 + rest.length) = true) : Res E fn fr U (.agg (dC c rest).toArray) :=
  resc h hp ht hU (ld_all (n := i.size) (by rw [dC_len, Nat.eq_of_beq_eq_true hs]) ha rfl rfl)

theorem resc2 {fn : Func} {p q : Tmp} {t : TypeId} {i : TI} {b : Nat} {T : TypeId} {cs : List Value} {v v2 : Value} {U' : List Asn} (h : fn.results = #[.cell p t, .tmp q]) (hp : look fr p = some (.pointer (some ⟨b, 0, none⟩)))
    (ht : tl E.T t = some i) (hU : Tak (blk b T cs) U U') (hl : loadL i cs 0 = some v) (hq : look fr q = some v2) : Res E fn fr U (.tuple #[v, v2]) := fun a w hf hm => by
  obtain ⟨S1, ⟨_, hb⟩, _⟩ := hm.tak hU
  have hc : ∀ j u, cs[j]? = some u → w.cell? ⟨b, j, none⟩ = some u := fun j u hu => by rw [cell_of_row w b j _ _ _ hb]; simpa using hu
  have h1 := hf.frm p _ hp
  have h2 := hf.frm q _ hq
  simp [results, h, h1, h2, asAddr, run_loadVar ht hc hl]

theorem rescD2 {fn : Func} {p q : Tmp} {t T : TypeId} {i : TI} {b : Nat} {c : C256} {rest : List Value} {v2 : Value} {U' : List Asn} (h : fn.results = #[.cell p t, .tmp q]) (hp : look fr p = some (.pointer (some ⟨b, 0, none⟩)))
    (ht : tl E.T t = some i) (hU : Tak (blk b T (dC c rest)) U U') (ha : aggB i.d = true) (hs : Nat.beq i.size (256 + rest.length) = true) (hq : look fr q = some v2) : Res E fn fr U (.tuple #[.agg (dC c rest).toArray, v2]) :=
  resc2 h hp ht hU (ld_all (n := i.size) (by rw [dC_len, Nat.eq_of_beq_eq_true hs]) ha rfl rfl) hq

end Go.Proofs.Ytjeimmekhfhepaa.E

namespace Go.Proofs.Ytjeimmekhfhepaa.E
set_option linter.all false
variable {E : Env} {fr : Frm} {U V : List Asn} {N : Frm → List Asn → Prop}

/-- A byte. -/
def kbyte : Kd Nat where
  sz := 1
  R := fun _ _ cs x => cs = [.int .u8 (x : Nat)] ∧ x < 256
  len := by rintro w S cs x ⟨rfl, _⟩; rfl
  fr := fun _ h => h
  mono := fun _ h => h

theorem op_byte {P : Program} {t : TypeId} (ht : P.underlying t = some (.int .u8)) : Opn P t kbyte := by
  intro H enc w fuel cs x h _
  obtain ⟨n, rfl, _, hw⟩ := DataW.trod_int ht h
  simp only [Lit.wf, Bool.and_eq_true, decide_eq_true_eq] at hw
  have h1 : 0 ≤ n := hw.1
  have h2 : n ≤ 255 := hw.2
  refine ⟨n.toNat, ?_, by omega⟩
  rw [Int.toNat_of_nonneg h1]

/-- l[:q] -/
theorem n_headV {t e : TypeId} {x y : Operand} {s1 b1 : Nat} {z1 : List Value} {i : TI} {A : Option Addr} {n c : Nat} {kk : IntKind} (q : Nat) {q' : Int}
    (ht : tl E.T t = some ⟨.slice e, s1, b1, z1⟩) (he : tl E.T e = some i) (hx : val fr x = some (.slice A n c)) (hy : val fr y = some (.int kk q')) (hq' : q' = (q : Int)) (hq : q ≤ c) :
    NEV E (.slice t x none (some y) none) fr U (.slice A q c) := by
  intro a w dst ty pos af g hf hm
  have h := n_head (E := E) (fr := fr) (U := U) (x := x) (kk := kk) q ht he hx hq' hq a w dst ty pos af g hf hm
  have hev : a.eval y = a.eval (.const (.int kk q')) := hf.eval hy
  unfold execOp at h ⊢
  simp only [Option.map] at h ⊢
  rw [hev]; exact h

/-- l[q:] -/
theorem n_fromV {t e : TypeId} {x y : Operand} {s1 b1 : Nat} {z1 : List Value} {i : TI} {A : Option Addr} {n c : Nat} {k : IntKind} (q : Nat) {q' : Int}
    (ht : tl E.T t = some ⟨.slice e, s1, b1, z1⟩) (he : tl E.T e = some i) (hx : val fr x = some (.slice A n c)) (hy : val fr y = some (.int k q')) (hq' : q' = (q : Int)) (hq : q ≤ n) :
    NEV E (.slice t x (some y) none none) fr U (.slice (if c = q then A else A.map (·.add (q * i.size))) (n - q) (c - q)) := by
  intro a w dst ty pos af g hf _
  subst hq'
  obtain ⟨dd, sz, bytes, z⟩ := i
  obtain ⟨inf, zv, hinf, hzv, hs, hbb, hzc⟩ := ti_info he
  have hu := u_slice ht
  have hel : E.P.elem t = e := by simp [Program.elem, hu]
  have hsz : (sizeOf e).run E.P w = .ok sz w := by simp [sizeOf, run_info hinf, hs]
  have hr := run_slice_l (P := E.P) (w := w) t A n c (by rw [hel]; exact hu) k (q : Int) (by omega) (by omega)
  rw [hel, hsz] at hr
  have ha := run_sliceAt_slice (P := E.P) (w := w) t (.slice A n c) (some (.int k (q : Int))) none none (by rw [hel]; exact hu)
  rw [hr] at ha
  have hev : a.eval y = .int k (q : Int) := hf.eval hy
  simp [execOp, hf.eval hx, hev, ha, sliced, Result.andThen]

variable {K : Frm → List Asn → Prop} {k : List It}
/-- The ways through a piece of code meet behind it. -/
theorem s_join {c : Code} {ι : Type} (frX : ι → Frm) (UX : ι → List Asn) (h : (∀ x, EVS E K k (frX x) (UX x)) → EVS E K (.code c :: k) fr U) (hfin : ∀ x, EVS E K k (frX x) (UX x)) : EVS E K (.code c :: k) fr U := h hfin

theorem s_openP {cd : Code} {e : TypeId} {sz n c m : Nat} {A : Option Addr} {xs : List Value} {U' : List Asn}
    (ht : Tak (osl e sz (.slice A n c) m xs) U U') (h : (0 < m → ∃ b, A = some ⟨b, 0, none⟩) → EVS E K (.code cd :: k) fr U) : EVS E K (.code cd :: k) fr U := by
  by_cases hm : 0 < m
  · exact s_open ht hm (fun b hb => h (fun _ => ⟨b, hb⟩))
  · exact h (fun h2 => absurd h2 hm)

end Go.Proofs.Ytjeimmekhfhepaa.E

namespace Go.Proofs.Ytjeimmekhfhepaa.E
set_option linter.all false
variable {E : Env} {fr : Frm} {U : List Asn} {N : Frm → List Asn → Prop}

/-- clear(l[q:]): what is ahead of q stays. -/
theorem o_clear {t e : TypeId} {x : Operand} {ty : TypeId} {pos : String} {af : Array Edge} {g : Option (Nat × Bool)} {s1 b1 : Nat} {z1 : List Value} {i : TI} {b n c m c2 q o : Nat} {xs : List Value} {U' : List Asn}
    (ht : tl E.T t = some ⟨.slice e, s1, b1, z1⟩) (he : tl E.T e = some i) (hx : val fr x = some (.slice (some ⟨b, o, none⟩) m c2)) (ho : o = q * i.size) (hm0 : 0 < m) (hn : q + m ≤ n)
    (hz : i.zero.all oneB = true) (hzl : Nat.beq i.zero.length i.size = true)
    (hU : Upd (osl e i.size (.slice (some ⟨b, 0, none⟩) n c) n xs) (osl e i.size (.slice (some ⟨b, 0, none⟩) q c) q (xs.take (q * i.size))) U U') (h : N fr U') :
    EV1 E ⟨none, .call ⟨.builtin .clear, #[x], #[t]⟩, ty, pos, af, g⟩ fr U N := by
  intro a w hf hm
  subst ho
  obtain ⟨S1, ⟨hO, hS⟩, hlt, hk⟩ := hm.upd hU
  have hSb := hS b rfl
  obtain ⟨d, sz, by_, z⟩ := i
  obtain ⟨inf, zv, hinf, hzv, hs, _, hzc⟩ := ti_info he
  simp only at hzl hz hO hU hk ⊢
  have hzl' := Nat.eq_of_beq_eq_true hzl
  rcases hO.2 with ⟨he2, _⟩ | ⟨g', cap, cur, hv, _, hg, hnc, hcm, hcs, htake⟩
  · cases he2
  · simp only [Value.slice.injEq, Option.some.injEq, Addr.mk.injEq, and_true, true_and] at hv
    obtain ⟨rfl, rfl⟩ := hv
    have hzs : zv.cells.size = sz := by rw [hzc]; simpa using hzl'
    have hcl : (Builtin.zeroCells zv.cells m).toList.length = m * sz := by simp [Builtin.zeroCells, hzs]
    have hle : q * sz + 0 + (Builtin.zeroCells zv.cells m).toList.length ≤ cur.size := by
      rw [hcl, hcs, Nat.add_zero, ← Nat.add_mul]; exact Nat.mul_le_mul_right _ (by omega)
    have hone : ∀ u ∈ (Builtin.zeroCells zv.cells m).toList, oneB u = true := by
      intro u hu
      unfold Builtin.zeroCells at hu
      simp only [Array.toList_map, List.mem_map, Array.toList_range, List.mem_range, hzs] at hu
      obtain ⟨j, hj, rfl⟩ := hu
      have hp : 0 < sz := by
        rcases Nat.eq_zero_or_pos sz with h0 | h0
        · rw [h0] at hj; omega
        · exact h0
      have hj2 : j % sz < z.length := by rw [hzl']; exact Nat.mod_lt _ hp
      rw [hzc]
      have e1 : z.toArray[j % sz]! = z[j % sz] := by simp [hj2]
      rw [e1]
      exact List.all_eq_true.1 hz _ (List.getElem_mem hj2)
    have hr := run_storeCells_at E.P b (q * sz) e (Builtin.zeroCells zv.cells m).toList 0 cur w hg hle (fun u hu => oneB_eq (hone u hu))
    have hrun : (Builtin.clear_ #[t] ty #[.slice (some ⟨b, q * sz, none⟩) m c2]).run E.P w = .ok (.tuple #[]) (w.setRow b (List.take (q * sz + 0) cur.toList ++ (Builtin.zeroCells zv.cells m).toList ++ List.drop (q * sz + 0 + (Builtin.zeroCells zv.cells m).toList.length) cur.toList).toArray) := by
      unfold Builtin.clear_
      obtain ⟨m', rfl⟩ : ∃ m', m = m' + 1 := ⟨m - 1, by omega⟩
      simp [run_under (u_slice ht), run_zero hinf hzv, hr]
    unfold Oper.wp execOp
    simp only [resolve, invoke, builtin, Sem.run_bind, Sem.run_pure, Result.andThen_ok, List.map_toArray, List.map_cons, List.map_nil, hf.eval hx, hrun]
    have hst := step_setRow w b
    refine ⟨fr, U', h, hf.put_none (.tuple #[]), hk _ (fun k => k = b) ⟨(hst _).os, (hst _).tape, (hst _).output, (hst _).size, fun k hk1 hk2 => (hst _).same k hk1 (fun e => hk2 (e ▸ hSb))⟩ ⟨⟨?_, .inr ⟨b, c, _, rfl, Nat.zero_le _, setRow_heap w b cur _ e _ hg, by omega, hcm, ?_, ?_⟩⟩, ?_⟩ ?_⟩
    · rw [List.length_take, hO.1, Nat.min_eq_left]; exact Nat.mul_le_mul_right _ (by omega)
    · rw [hcl] at hle; rw [List.size_toArray, List.length_append, List.length_append, List.length_take, List.length_drop, hcl, Array.length_toList]; omega
    · rw [← htake, List.take_take, Nat.min_eq_left (Nat.mul_le_mul_right _ (by omega))]
      have : q * sz ≤ cur.size := by omega
      simp only [Nat.add_zero, List.append_assoc]
      rw [List.take_append_of_le_length (by simp; omega), List.take_take, Nat.min_self]
    · intro k hk; simp [Value.ownBlock] at hk; exact hk.symm
    · rintro k rfl
      exact ⟨Nat.lt_of_lt_of_le (hlt k hSb) (hst _).size, .inl hSb⟩

end Go.Proofs.Ytjeimmekhfhepaa.E

namespace Go.Proofs.Ytjeimmekhfhepaa.E
set_option linter.all false
variable {E : Env} {fr : Frm} {ops : Array Oper}

/-- A world that came of w by draws and new blocks. -/
def Gr (w w' : World) : Prop := ∃ n os, w' = Sort.grow (w.drewN n) os

theorem Gr.refl (w : World) : Gr w w := ⟨0, #[], by rw [Sort.grow_empty]; rfl⟩
theorem Gr.drew {w w' : World} (h : Gr w w') : Gr w { w' with drawn := w'.drawn + 1 } := by
  obtain ⟨n, os, rfl⟩ := h
  exact ⟨n + 1, os, rfl⟩
theorem Gr.alloc {w w' : World} (h : Gr w w') (o : Obj) : Gr w (w'.alloc o) := by
  obtain ⟨n, os, rfl⟩ := h
  exact ⟨n, os ++ #[o], by rw [Sort.alloc_eq_grow, Sort.grow_grow]⟩
theorem Gr.trans {a b c : World} (h : Gr a b) (h2 : Gr b c) : Gr a c := by
  obtain ⟨n, os, rfl⟩ := h
  obtain ⟨m, os2, rfl⟩ := h2
  refine ⟨n + m, os ++ os2, ?_⟩
  rw [← Sort.grow_grow]
  unfold Sort.grow World.drewN
  simp only [Nat.add_assoc]
theorem Gr.block {w w' : World} (h : Gr w w') {b : Nat} (hb : b < w.heap.size) : w'.heap[b]? = w.heap[b]? := by
  obtain ⟨n, os, rfl⟩ := h
  unfold Sort.grow World.drewN
  simp only
  rw [Array.getElem?_append_left hb]
theorem Gr.size {w w' : World} (h : Gr w w') : w.heap.size ≤ w'.heap.size := by
  obtain ⟨n, os, rfl⟩ := h
  unfold Sort.grow World.drewN
  simp
theorem Gr.mem {w : World} (h : Gr E.w0 w) : Mem E [] w := by
  refine ⟨?_, ?_, ?_, h.size, fun b hb => h.block hb.1, fun _ => False, trivial, fun _ h => h.elim⟩ <;> (obtain ⟨n, os, rfl⟩ := h; rfl)

/-- What is left of a region when the operations 'done' have come up. -/
def EVG (E : Env) (R : Act → World → Prop) (ops : Array Oper) (fuel : Nat) (done : List Nat) (fr : Frm) : Prop :=
  ∀ a w, Fr E fr a → Gr E.w0 w → wpAnyH E.P .any ops (fun e a' w' => e = .normal ∧ R a' w') (fun w => Gr E.w0 w) fuel (lset ops done) a w

theorem g_begin {R : Act → World → Prop} {id : Nat} {a : Act} {Q : Exit → Act → World → Prop} (hm : E.P.follows .mixedOrders = true) (hf : Fr E fr a) (h : EVG E R ops ops.size [] fr) (hQ : ∀ a w, R a w → Q .normal a w) :
    (Code.region id ops true).wp E.P Q a E.w0 := by
  refine Code.wp_mono (Q := fun e a' w' => e = .normal ∧ R a' w') (fun e a w ⟨he, hr⟩ => by subst he; exact hQ a w hr) ?_
  refine wp_region_held (S := fun w => Gr E.w0 w) hm ?_
  have := h a { E.w0 with drawn := E.w0.drawn + 1 } hf (Gr.refl _).drew
  rw [lset_nil] at this
  exact this

theorem g_n {R : Act → World → Prop} {fuel : Nat} {done : List Nat} (i : Nat) {d : Nat} {o : Op} {ty : TypeId} {pos : String} {af : Array Edge} {v : Value} (hi : ops[i]? = some ⟨some d, o, ty, pos, af, none⟩)
    (hn : NEV E o fr [] v) (hok : takeOk ops done i = true) (hd : Nat.ble (d + 1) E.n = true) (h : EVG E R ops fuel (i :: done) ((d, v) :: fr)) : EVG E R ops (fuel + 1) done fr := by
  intro a w hf hm
  simp only [takeOk, Bool.and_eq_true] at hok
  refine wpAnyH_take hi hok.1 hok.2.2 hok.2.1 (fun c a w h => by cases h.1) (.inl ⟨rfl, fun w hw => hn a w _ _ _ _ _ hf hw.mem⟩) hm ?_
  rw [lset_cons]
  exact h _ w (hf.put (Nat.le_of_ble_eq_true hd) _) hm

/-- A call that leaves a world of the kind, its answer known. -/
theorem g_call {R : Act → World → Prop} {fuel : Nat} {done : List Nat} (i : Nat) {d : Nat} {f : FuncId} {args : Array Operand} {ts : Array TypeId} {ty : TypeId} {pos : String} {af : Array Edge} {vs : List Value} {v : Value}
    (hr : Region.ready .any ops (lset ops done) = [i]) (hi : ops[i]? = some ⟨some d, .call ⟨.value (.func f), args, ts⟩, ty, pos, af, none⟩) (hv : vals fr args.toList = some vs) (he : Enters E.P f)
    (hc : ∀ w, Gr E.w0 w → Calls E.P f vs.toArray w fun e w' => e = .returned v ∧ Gr E.w0 w') (hd : Nat.ble (d + 1) E.n = true) (h : EVG E R ops fuel (i :: done) ((d, v) :: fr)) : EVG E R ops (fuel + 1) done fr := by
  intro a w hf hm
  refine wpAnyH_all hr (by simp) ?_
  intro j hj
  rw [List.mem_singleton] at hj
  subst hj
  have ha : args.map a.eval = vs.toArray := by rw [← hf.evals hv, map_arr]
  unfold wpOp
  have hw : Region.wanted (⟨some d, .call ⟨.value (.func f), args, ts⟩, ty, pos, af, none⟩ : Oper) (yielded ops a.tmps) = true := by simp [Region.wanted]
  simp only [hi, hw, if_true]
  refine .inl ?_
  unfold Oper.wp execOp
  simp only [resolve, Act.eval, Deferred.ofValue, Sem.run_bind, Sem.run_pure, Result.andThen_ok, invoke, ha, Array.empty_append, Array.append_empty, he _ _, Oper.upon]
  refine (hc w hm).mono ?_
  rintro e w' ⟨rfl, hg⟩
  refine ⟨hg, ?_⟩
  rw [lset_cons]
  exact h _ w' (hf.put (Nat.le_of_ble_eq_true hd) _) hg

/-- A literal of a slice, and a call that takes it. -/
theorem g_litcall {R : Act → World → Prop} {fuel : Nat} {done : List Nat} (i j : Nat) {d d2 : Nat} {t e : TypeId} {len : Nat} {parts : Array (Nat × Operand)} {f : FuncId} {ts : Array TypeId} {ty ty2 : TypeId} {pos pos2 : String} {af af2 : Array Edge} {vs : Array Value} {v : Value}
    (hr : Region.ready .any ops (lset ops done) = [i]) (hi : ops[i]? = some ⟨some d, .buildSlice t len parts, ty, pos, af, none⟩)
    (hl : ∀ a w, Fr E fr a → (Instr.buildSlice t len (parts.map (fun (x : Nat × Operand) => (x.1, a.eval x.2)))).run E.P w = .ok (.slice (some ⟨w.heap.size, 0, none⟩) len len) (w.alloc (.cells vs e)))
    (hr2 : Region.ready .any ops (lset ops (i :: done)) = [j]) (hj : ops[j]? = some ⟨some d2, .call ⟨.value (.func f), #[.tmp d], ts⟩, ty2, pos2, af2, none⟩) (he : Enters E.P f)
    (hc : ∀ w b, Gr E.w0 w → w.heap[b]? = some (.cells vs e (0, 0)) → Calls E.P f #[.slice (some ⟨b, 0, none⟩) len len] w fun e w' => e = .returned v ∧ Gr E.w0 w') (hd : Nat.ble (d + 1) E.n = true) (hd2 : Nat.ble (d2 + 1) E.n = true)
    (h : EVG E R ops fuel (j :: i :: done) [(d2, v)]) : EVG E R ops (fuel + 1 + 1) done fr := by
  intro a w hf hm
  refine wpAnyH_all hr (by simp) ?_
  intro q hq
  rw [List.mem_singleton] at hq
  subst hq
  unfold wpOp
  have hw : Region.wanted (⟨some d, .buildSlice t len parts, ty, pos, af, none⟩ : Oper) (yielded ops a.tmps) = true := by simp [Region.wanted]
  simp only [hi, hw, if_true]
  refine .inl ?_
  unfold Oper.wp execOp
  simp only [Sem.run_bind, Sem.run_pure, hl a w hf, Result.andThen_ok, Oper.upon]
  have hg1 := hm.alloc (.cells vs e)
  refine ⟨hg1, ?_⟩
  rw [lset_cons]
  refine wpAnyH_all hr2 (by simp) ?_
  intro q hq
  rw [List.mem_singleton] at hq
  subst hq
  have hf2 := hf.put (Nat.le_of_ble_eq_true hd) (.slice (some ⟨w.heap.size, 0, none⟩) len len)
  unfold wpOp
  have hw : ∀ tm, Region.wanted (⟨some d2, .call ⟨.value (.func f), #[.tmp d], ts⟩, ty2, pos2, af2, none⟩ : Oper) (yielded ops tm) = true := fun tm => by simp [Region.wanted]
  simp only [hj, hw, if_true]
  refine .inl ?_
  have hev : (a.put (some d) (.slice (some ⟨w.heap.size, 0, none⟩) len len)).eval (.tmp d) = .slice (some ⟨w.heap.size, 0, none⟩) len len := hf2.eval (by simp [val, look])
  unfold Oper.wp execOp
  simp only [resolve, Act.eval, Deferred.ofValue, Sem.run_bind, Sem.run_pure, Result.andThen_ok, invoke, List.map_toArray, List.map_cons, List.map_nil, Array.empty_append, Array.append_empty, he _ _, Oper.upon]
  simp only [Act.eval] at hev
  rw [hev]
  refine (hc _ _ hg1 (heap_alloc_new w _)).mono ?_
  rintro e w' ⟨rfl, hg⟩
  refine ⟨hg, ?_⟩
  rw [lset_cons]
  refine h _ w' ?_ hg
  have hf3 := hf2.put (Nat.le_of_ble_eq_true hd2) v
  exact hf3.sub (Sub.cons (by simp [look]) (Sub.nil _))

theorem g_done {R : Act → World → Prop} {fuel : Nat} {done : List Nat} (hr : Region.ready .any ops (lset ops done) = []) (h : ∀ a w, Fr E fr a → Gr E.w0 w → R a w) : EVG E R ops fuel done fr :=
  fun a w hf hm => wpAnyH_done hr ⟨rfl, h a w hf hm⟩ _

end Go.Proofs.Ytjeimmekhfhepaa.E

namespace Go.Proofs.Ytjeimmekhfhepaa.E
set_option linter.all false
variable {E : Env} {fr : Frm} {U : List Asn} {N : Frm → List Asn → Prop}

/-! ### strings as keys -/
def encB (k : ByteArray) : Value := .string k

theorem bytes_beq (a b : ByteArray) : (a == b) = decide (a = b) := by
  have h : (a == b) = (a.data == b.data) := rfl
  rw [h, Bool.eq_iff_iff, decide_eq_true_eq, beq_iff_eq]
  cases a; cases b
  simp

theorem mkey_str {P : Program} {kt : TypeId} (hu : P.underlying kt = some .string) : MKey P kt encB where
  check := fun w e k => MapKept.run_checkKey hu (by simp [MapKept.IsKey, encB]) e 9999
  find := fun w k es l h => by
    have hf : ∀ (es : List MapEntry) (l : List (ByteArray × Value)) (i : Nat), es.map (fun e => (e.key, e.val)) = l.map (fun p => (encB p.1, p.2)) → Instr.findNow .string (encB k) es i = some (findK k l i) := by
      intro es
      induction es with
      | nil =>
        intro l i h
        cases l with
        | nil => rfl
        | cons p l => simp at h
      | cons e es ih =>
        intro l i h
        cases l with
        | nil => simp at h
        | cons p l =>
          simp only [List.map_cons, List.cons.injEq, Prod.mk.injEq] at h
          obtain ⟨⟨h1, h2⟩, h3⟩ := h
          unfold Instr.findNow findK
          rw [h1]
          simp only [encB, Instr.sameNow, bytes_beq]
          by_cases hk : p.1 = k
          · rw [if_pos hk, hk]; simp [h2]
          · have : decide (k = p.1) = false := by simp; exact fun e => hk e.symm
            rw [if_neg hk, this]
            exact ih l (i + 1) h3
    simp [Instr.findKey, run_underlying hu, Result.andThen, hf es l 0 h]
  stays := fun w k => by have := bytes_beq k k; simp [Instr.keyThatStays, encB, Instr.sameBits, this]

/-! ### a builder -/
/-- A strings.Builder in a block b of its own, from B on, its bytes bs. -/
def bldA (T e : TypeId) (B b : Nat) (bs : List Value) : Asn where
  P := fun w S => ∃ p v, (p = Value.pointer none ∨ p = Value.pointer (some ⟨b, 0, none⟩)) ∧ B ≤ b ∧ w.heap[b]? = some (.cells #[p, v] T (0, 0)) ∧ w.ownsRow B e 1 v bs.length bs ∧ v.ownBlock ≠ some b ∧ S b ∧ ∀ k, v.ownBlock = some k → S k
  fr := by
    rintro w w' S h ⟨p, v, h1, h2, h3, h4, h5, h6, h7⟩
    refine ⟨p, v, h1, h2, (h b h6).trans h3, ⟨h4.1, ?_⟩, h5, h6, h7⟩
    rcases h4.2 with hn | ⟨g, cap, cur, hv, hb, hg, r⟩
    · exact .inl hn
    · exact .inr ⟨g, cap, cur, hv, hb, (h g (h7 g (by rw [hv]; rfl))).trans hg, r⟩

theorem bldA.is {T e : TypeId} {B b : Nat} {bs : List Value} {w : World} {S : BSet} (h : (bldA T e B b bs).P w S) : Lib.IsBuilder T e B b bs w := by
  obtain ⟨p, v, h1, h2, h3, h4, h5, h6, h7⟩ := h
  rcases h1 with rfl | rfl
  · exact .inl ⟨h2, v, h3, h4, h5⟩
  · exact .inr ⟨h2, v, h3, h4, h5⟩

/-- A new builder. -/
theorem o_bldNew {d : Nat} {t e : TypeId} {ty : TypeId} {pos : String} {af : Array Edge} {g : Option (Nat × Bool)} {i : TI} (ht : tl E.T t = some i) (hz : i.zero = [.pointer none, .slice none 0 0]) (hd : Nat.ble (d + 1) E.n = true)
    (h : ∀ b, N ((d, .pointer (some ⟨b, 0, none⟩)) :: fr) (bldA t e E.w0.heap.size b [] :: U)) : EV1 E ⟨some d, .alloc t, ty, pos, af, g⟩ fr U N := by
  intro a w hf hm
  obtain ⟨dd, sz, by_, z⟩ := i
  simp only at hz
  subst hz
  obtain ⟨inf, zv, hinf, hz, _, _, hzc⟩ := ti_info ht
  unfold Oper.wp execOp
  simp only [Instr.alloc, Sem.run_bind, run_zero hinf hz, Result.andThen_ok, newVar, newRow, run_newObj, Sem.run_pure, hzc]
  refine ⟨_, _, h w.heap.size, hf.put (Nat.le_of_ble_eq_true hd) _, hm.new (step_alloc w _) (T1 := fun k => k = w.heap.size) ?_ (by rintro b rfl; simp)⟩
  exact ⟨_, _, .inl rfl, hm.size, heap_alloc_new w _, ⟨rfl, .inl ⟨rfl, rfl⟩⟩, fun h => (by cases h), rfl, fun k h => (by cases h)⟩

/-- A call that adds to a builder; of what else was of one's own nothing is known behind it. -/
theorem o_bldAdd {d : Nat} {f : FuncId} {T e : TypeId} {args : Array Operand} {ts : Array TypeId} {ty : TypeId} {pos : String} {af : Array Edge} {g : Option (Nat × Bool)} {vs : List Value} {v : Value} {b : Nat} {bs bs' : List Value} {U' : List Asn}
    (he : Enters E.P f) (hU : Tak (bldA T e E.w0.heap.size b bs) U U') (hv : vals fr args.toList = some vs)
    (hc : ∀ w : World, Lib.IsBuilder T e E.w0.heap.size b bs w → E.w0.heap.size ≤ w.heap.size → Calls E.P f vs.toArray w fun x w' => x = .returned v ∧ (Lib.BuilderAt T e E.w0.heap.size b (.pointer (some ⟨b, 0, none⟩)) bs' w' ∧ RowKit.Below E.w0.heap.size w w'))
    (hd : Nat.ble (d + 1) E.n = true) (h : N ((d, v) :: fr) [bldA T e E.w0.heap.size b bs']) : EV1 E ⟨some d, .call ⟨.value (.func f), args, ts⟩, ty, pos, af, g⟩ fr U N := by
  intro a w hf hm
  have ha : args.map a.eval = vs.toArray := by rw [← hf.evals hv, map_arr]
  obtain ⟨S1, hP, hS1⟩ := hm.tak hU
  unfold Oper.wp execOp
  simp only [resolve, Act.eval, Deferred.ofValue, Sem.run_bind, Sem.run_pure, Result.andThen_ok, invoke, ha, Array.empty_append, Array.append_empty, he _ _]
  refine (hc w (bldA.is hP) hm.size).mono ?_
  rintro x w' ⟨rfl, hB, hb⟩
  refine ⟨_, _, h, hf.put (Nat.le_of_ble_eq_true hd) _, ⟨hb.os.trans hm.os, hb.tape.trans hm.tape, hb.output.trans hm.output, Nat.le_trans hm.size hb.size, fun k hk => (hb.block k hk.1).trans (hm.same k hk), ?_⟩⟩
  obtain ⟨h2, u, h3, h4, h5⟩ := hB
  have hblt : b < w'.heap.size := (Array.getElem?_eq_some_iff.1 h3).1
  refine ⟨fun k => k = b ∨ u.ownBlock = some k, ⟨fun k => k = b ∨ u.ownBlock = some k, fun _ => False, ⟨_, u, .inr rfl, h2, h3, h4, h5, .inl rfl, fun k hk => .inr hk⟩, trivial, fun _ _ h => h, fun _ h => h, fun _ h => h.elim⟩, ?_⟩
  rintro k (rfl | hk)
  · exact ⟨hblt, .inl h2⟩
  · have := World.ownsRow.lt h4 k hk
    exact ⟨this.2, .inl this.1⟩

/-- The last call to a builder: of what is one's own nothing is known behind it. -/
theorem o_bldEnd {d : Nat} {f : FuncId} {T e : TypeId} {args : Array Operand} {ts : Array TypeId} {ty : TypeId} {pos : String} {af : Array Edge} {g : Option (Nat × Bool)} {vs : List Value} {v : Value} {b : Nat} {bs : List Value} {U' : List Asn}
    (he : Enters E.P f) (hU : Tak (bldA T e E.w0.heap.size b bs) U U') (hv : vals fr args.toList = some vs)
    (hc : ∀ w : World, Lib.IsBuilder T e E.w0.heap.size b bs w → E.w0.heap.size ≤ w.heap.size → Calls E.P f vs.toArray w fun x w' => x = .returned v ∧ RowKit.Below E.w0.heap.size w w')
    (hd : Nat.ble (d + 1) E.n = true) (h : N ((d, v) :: fr) []) : EV1 E ⟨some d, .call ⟨.value (.func f), args, ts⟩, ty, pos, af, g⟩ fr U N := by
  intro a w hf hm
  have ha : args.map a.eval = vs.toArray := by rw [← hf.evals hv, map_arr]
  obtain ⟨S1, hP, hS1⟩ := hm.tak hU
  unfold Oper.wp execOp
  simp only [resolve, Act.eval, Deferred.ofValue, Sem.run_bind, Sem.run_pure, Result.andThen_ok, invoke, ha, Array.empty_append, Array.append_empty, he _ _]
  refine (hc w (bldA.is hP) hm.size).mono ?_
  rintro x w' ⟨rfl, hb⟩
  exact ⟨_, _, h, hf.put (Nat.le_of_ble_eq_true hd) _, ⟨hb.os.trans hm.os, hb.tape.trans hm.tape, hb.output.trans hm.output, Nat.le_trans hm.size hb.size, fun k hk => (hb.block k hk.1).trans (hm.same k hk), fun _ => False, trivial, fun _ h => h.elim⟩⟩

end Go.Proofs.Ytjeimmekhfhepaa.E

namespace Go.Proofs.Ytjeimmekhfhepaa.E
set_option linter.all false
variable {E : Env} {fr : Frm} {U V : List Asn} {N : Frm → List Asn → Prop}

/-- Several assertions as one. -/
def bun (L : List Asn) : Asn := ⟨fun w S => star L w S, fun w w' S h hs => star_fr L w w' S h hs⟩

theorem ent_bun {L : List Asn} : Ent (L ++ V) (bun L :: V) := fun w S hs => by
  obtain ⟨S1, S2, h1, h2, hd, i1, i2⟩ := star_split hs
  exact ⟨S1, S2, h1, h2, hd, i1, i2⟩
theorem ent_unbun {L : List Asn} : Ent (bun L :: V) (L ++ V) := fun w S ⟨S1, S2, h1, h2, hd, i1, i2⟩ =>
  star_mono (fun b hb => hb.elim (i1 b) (i2 b)) (star_append h1 h2 hd)
theorem ent_bunE {L L' : List Asn} (h : L = L') : Ent (bun L :: V) (bun L' :: V) := by subst h; exact Ent.refl _

section rows
variable {α : Type} {f : List α → List Value} {sz : Nat} {ei : TypeId}

abbrev rowA (f : List α → List Value) (sz : Nat) (ei : TypeId) (ac : Option Addr × Nat) (r : List α) : Asn := osl ei sz (.slice ac.1 r.length ac.2) r.length (f r)
def rowX (f : List α → List Value) (sz : Nat) (ei : TypeId) (acs : List (Option Addr × Nat)) (rows : List (List α)) : List Asn := List.zipWith (rowA f sz ei) acs rows

theorem rowX_get {acs : List (Option Addr × Nat)} {rows : List (List α)} (hl : acs.length = rows.length) {i : Nat} (hi : i < rows.length) :
    (rowX f sz ei acs rows)[i]? = some (rowA f sz ei (acs[i]'(hl ▸ hi)) rows[i]) := by
  unfold rowX
  rw [List.getElem?_zipWith, List.getElem?_eq_getElem (hl ▸ hi), List.getElem?_eq_getElem hi]

theorem zipWith_set2 {β γ : Type} (g : β → List α → γ) : ∀ (l : List β) (rows : List (List α)) (i : Nat) (b : β) (r : List α), l.length = rows.length → (List.zipWith g l rows).set i (g b r) = List.zipWith g (l.set i b) (rows.set i r)
  | [], [], _, _, _, _ => rfl
  | [], _ :: _, _, _, _, h => by simp at h
  | _ :: _, [], _, _, _, h => by simp at h
  | x :: l, y :: rows, 0, b, r, _ => rfl
  | x :: l, y :: rows, i + 1, b, r, h => by simp [zipWith_set2 g l rows i b r (by simpa using h)]

/-- A row is taken out. -/
theorem ent_btake {acs : List (Option Addr × Nat)} {rows : List (List α)} (hl : acs.length = rows.length) {i : Nat} (hi : i < rows.length) :
    Ent (bun (rowX f sz ei acs rows) :: V) (rowA f sz ei (acs[i]'(hl ▸ hi)) rows[i] :: bun ((rowX f sz ei acs rows).eraseIdx i) :: V) :=
  ent_unbun.trans ((Ent.tak (tak_get (rowX_get hl hi)) (Ent.refl _)).trans (Ent.cons ent_bun))

/-- A row is put back, another one. -/
theorem ent_bput {acs : List (Option Addr × Nat)} {rows : List (List α)} (hl : acs.length = rows.length) {i : Nat} (hi : i < rows.length) {ac : Option Addr × Nat} {r : List α} :
    Ent (rowA f sz ei ac r :: bun ((rowX f sz ei acs rows).eraseIdx i) :: V) (bun (rowX f sz ei (acs.set i ac) (rows.set i r)) :: V) := by
  refine (Ent.cons ent_unbun).trans ((ent_put (rowX_get hl hi)).trans ?_)
  unfold rowX
  rw [zipWith_set2 _ _ _ _ _ _ hl]
  exact ent_bun

theorem ent_bsnoc {acs : List (Option Addr × Nat)} {rows : List (List α)} (hl : acs.length = rows.length) {ac : Option Addr × Nat} {r : List α} :
    Ent (rowA f sz ei ac r :: bun (rowX f sz ei acs rows) :: V) (bun (rowX f sz ei (acs ++ [ac]) (rows ++ [r])) :: V) := by
  refine (Ent.cons ent_unbun).trans (Ent.mid.trans ?_)
  have : rowX f sz ei (acs ++ [ac]) (rows ++ [r]) = rowX f sz ei acs rows ++ [rowA f sz ei ac r] := by
    unfold rowX; rw [List.zipWith_append hl]; rfl
  rw [this]
  refine Ent.trans ?_ ent_bun
  rw [List.append_assoc]
  exact Ent.refl _

theorem ent_bhead {ac : Option Addr × Nat} {acs : List (Option Addr × Nat)} {r : List α} {rows : List (List α)} :
    Ent (bun (rowX f sz ei (ac :: acs) (r :: rows)) :: V) (rowA f sz ei ac r :: bun (rowX f sz ei acs rows) :: V) :=
  ent_unbun.trans (Ent.cons ent_bun)

theorem ent_bnil0 : Ent V (bun (rowX f sz ei ([] : List (Option Addr × Nat)) ([] : List (List α))) :: V) := ent_bun (L := [])

theorem ent_bnil (hf : f [] = []) : ∀ n : Nat, Ent V (bun (rowX f sz ei (List.replicate n (none, 0)) (List.replicate n ([] : List α))) :: V)
  | 0 => ent_bun (L := [])
  | n + 1 => by
    refine (ent_bnil hf n).trans (ent_unbun.trans ?_)
    refine Ent.trans (V := rowA f sz ei (none, 0) ([] : List α) :: (rowX f sz ei (List.replicate n (none, 0)) (List.replicate n ([] : List α)) ++ V)) ?_ (ent_bun (L := _ :: _))
    show Ent _ (osl ei sz (.slice none 0 0) 0 (f []) :: _)
    rw [hf]
    exact Ent.osl0 (Ent.refl _)

/-- The values of the rows. -/
theorem rowC_set2 {acs : List (Option Addr × Nat)} {rows : List (List α)} (hl : acs.length = rows.length) {i : Nat} {ac : Option Addr × Nat} {r : List α} :
    (rowC acs rows).set i (.slice ac.1 r.length ac.2) = rowC (acs.set i ac) (rows.set i r) :=
  zipWith_set2 (fun (ac : Option Addr × Nat) (r : List α) => Value.slice ac.1 r.length ac.2) _ _ _ _ _ hl
theorem rowC_snoc {acs : List (Option Addr × Nat)} {rows : List (List α)} (hl : acs.length = rows.length) {ac : Option Addr × Nat} {r : List α} :
    rowC (acs ++ [ac]) (rows ++ [r]) = rowC acs rows ++ [.slice ac.1 r.length ac.2] := by
  unfold rowC; rw [List.zipWith_append hl]; rfl
theorem rowC_rep : ∀ n : Nat, rowC (List.replicate n (none, 0)) (List.replicate n ([] : List α)) = List.replicate n (.slice none 0 0)
  | 0 => rfl
  | n + 1 => by
    have ih := rowC_rep n
    unfold rowC at *
    rw [List.replicate_succ, List.replicate_succ, List.replicate_succ, List.zipWith_cons_cons, ih]; rfl
theorem rowC_len {acs : List (Option Addr × Nat)} {rows : List (List α)} (hl : acs.length = rows.length) : (rowC acs rows).length = rows.length := by unfold rowC; simp [hl]
theorem rowC_load {acs : List (Option Addr × Nat)} {rows : List (List α)} (hl : acs.length = rows.length) {i : Nat} (hi : i < rows.length) {e : TypeId} {bytes : Nat} {z : List Value} :
    loadL ⟨.slice e, 1, bytes, z⟩ (rowC acs rows) (0 + i * 1) = some (.slice (acs[i]'(hl ▸ hi)).1 rows[i].length (acs[i]'(hl ▸ hi)).2) := by
  rw [Nat.zero_add, Nat.mul_one]
  unfold loadL
  simp only [aggB, cond_false]
  exact rowC_get hl hi

/-- A row is read. -/
theorem can_brow {β : Type} {kd : Kd β} {x : β} {acs : List (Option Addr × Nat)} {rows : List (List α)} {U' : List Asn} (hl : acs.length = rows.length) (ht : Tak (bun (rowX f sz ei acs rows)) U U') {i : Nat} (hi : i < rows.length) {cs : List Value}
    (hA : ∀ E : Env, Can E [rowA f sz ei (acs[i]'(hl ▸ hi)) rows[i]] (kd.rd cs x)) : Can E U (kd.rd cs x) := Can.of fun w S hs => by
  obtain ⟨S1, h1, hsub⟩ := ht.mem hs
  obtain ⟨S2, h2, hsub2⟩ := star_mem (rowX_get (f := f) (sz := sz) (ei := ei) hl hi) h1
  have h3 := hA ⟨E.P, [], (fun _ h => nomatch h), 0, w, fun _ => True⟩ w S2 (fun _ _ => rfl) ⟨S2, fun _ => False, h2, trivial, fun _ _ h => h, fun _ h => h, fun _ h => h.elim⟩
  exact kd.mono (fun b hb => hb.elim (fun h => absurd trivial h.2) (fun h => hsub b (hsub2 b h))) h3
end rows

end Go.Proofs.Ytjeimmekhfhepaa.E

namespace Go.Proofs.Ytjeimmekhfhepaa.E
set_option linter.all false
variable {E : Env} {fr : Frm} {U : List Asn} {N : Frm → List Asn → Prop}

/-! ### keys that are structs -/
theorem mkey_struct {κ : Type} [DecidableEq κ] {P : Program} {kt : TypeId} {enc : κ → Value} {fs : Array Field} (hu : P.underlying kt = some (.struct fs))
    (heq : ∀ (w : World) (a b : κ), (Op.equal kt (enc a) (enc b)).run P w = .ok (decide (a = b)) w)
    (hck : ∀ (w : World) (e : Bool) (k : κ), (Instr.checkKey e 10000 kt (enc k)).run P w = .ok () w)
    (hst : ∀ (w : World) (k : κ), (Instr.keyThatStays (enc k) (enc k)).run P w = .ok (enc k) w) : MKey P kt enc where
  check := hck
  stays := hst
  find := fun w k es l h => by
    have hf : ∀ (es : List MapEntry) (l : List (κ × Value)) (i : Nat), es.map (fun e => (e.key, e.val)) = l.map (fun p => (enc p.1, p.2)) → (Instr.findAsking kt (enc k) es i).run P w = .ok (findK k l i) w := by
      intro es
      induction es with
      | nil =>
        intro l i h
        cases l with
        | nil => rfl
        | cons p l => simp at h
      | cons e es ih =>
        intro l i h
        cases l with
        | nil => simp at h
        | cons p l =>
          simp only [List.map_cons, List.cons.injEq, Prod.mk.injEq] at h
          obtain ⟨⟨h1, h2⟩, h3⟩ := h
          unfold Instr.findAsking findK
          rw [h1]
          simp only [Sem.run_bind, heq, Result.andThen_ok]
          by_cases hk : p.1 = k
          · rw [if_pos hk]; simp [hk, h2]
          · rw [if_neg hk]
            have : decide (k = p.1) = false := by simp; exact fun e => hk e.symm
            rw [this]
            exact ih l (i + 1) h3
    have h0 : Instr.findNow (.struct fs) (enc k) es 0 = none ∨ es = [] := by
      cases es with
      | nil => exact .inr rfl
      | cons e es => left; unfold Instr.findNow; rfl
    rcases h0 with h0 | h0
    · simp [Instr.findKey, run_underlying hu, Result.andThen, h0, hf es l 0 h]
    · subst h0
      cases l with
      | nil => simp [Instr.findKey, run_underlying hu, Result.andThen, Instr.findNow, findK]
      | cons p l => simp at h

/-! ### arrays of truth values -/
abbrev cB (bs : List Bool) : List Value := bs.map Value.bool

theorem cB_len (bs : List Bool) : (cB bs).length = bs.length := List.length_map ..

section bits
variable {t e : TypeId} {x y : Operand} {i : TI} {b o n : Nat} {T : TypeId} {bs : List Bool} {U' : List Asn}

theorem n_loadA (hx : val fr x = some (.pointer (some ⟨b, 0, none⟩))) (ht : tl E.T t = some i) (hU : Tak (blk b T (cB bs)) U U') (ha : aggB i.d = true) (hs : bs.length = i.size) : NEV E (.load t x) fr U (.agg (cB bs).toArray) := by
  refine n_load hx ht hU ?_
  exact ld_all (n := i.size) (by rw [cB_len, hs]) ha rfl rfl

theorem n_loadB (hx : val fr x = some (.pointer (some ⟨b, o, none⟩))) (ht : tl E.T t = some i) (hU : Tak (blk b T (cB bs)) U U') (ha : aggB i.d = false) (j : Nat) (hj : j < bs.length) (ho : o = j) : NEV E (.load t x) fr U (.bool bs[j]) := by
  subst ho
  refine n_load hx ht hU ?_
  unfold loadL
  rw [ha, cond_false, List.getElem?_map, List.getElem?_eq_getElem hj]; rfl

theorem n_idxB {ix : Operand} {k : IntKind} {q : Int} {len s1 b1 : Nat} {z1 : List Value} (hx : val fr x = some (.agg (cB bs).toArray)) (hi : val fr ix = some (.int k q)) (ht : tl E.T t = some ⟨.arr len e, s1, b1, z1⟩) (he : tl E.T e = some i) (ha : aggB i.d = false) (hs : Nat.beq i.size 1 = true)
    (hl : len ≤ bs.length) (j : Nat) (hj : q = (j : Int)) (hlt : j < len) : NEV E (.index t x ix) fr U (.bool (bs[j]'(by omega))) := by
  subst hj
  intro a w dst ty pos af g hf _
  obtain ⟨inf, v0, hinf, _, hsz, _, _⟩ := ti_info (d := i.d) (s := i.size) (b := i.bytes) (z := i.zero) he
  have h1 : ((0 : Int) ≤ (j : Int) ∧ (j : Int) < (len : Int)) := by omega
  have hs2 := Nat.eq_of_beq_eq_true hs
  have hsz2 : (sizeOf e).run E.P w = .ok 1 w := by rw [run_size hinf, hsz, hs2]
  have hjl : j < bs.length := by omega
  have hc : (cB bs).toArray[j]? = some (.bool bs[j]) := by rw [List.getElem?_toArray, List.getElem?_map, List.getElem?_eq_getElem hjl]; rfl
  have hag := run_isAgg (E := E) he w
  rw [ha] at hag
  simp only [execOp, hf.eval hx, hf.eval hi, Instr.index, asIntOf, Sem.run_bind, Sem.run_pure, Result.andThen_ok, run_under (u_arr ht), h1, and_self, if_true, hsz2, Int.toNat_natCast, Nat.mul_one, part, hag, Bool.false_eq_true, if_false, hc]

theorem o_storeB {ty : TypeId} {pos : String} {af : Array Edge} {g : Option (Nat × Bool)} {v : Bool} (hx : val fr x = some (.pointer (some ⟨b, o, none⟩))) (hy : val fr y = some (.bool v)) (ht : tl E.T t = some i) (hs : Nat.beq i.size 1 = true)
    (j : Nat) (hj : j < bs.length) (ho : o = j) (hU : Upd (blk b T (cB bs)) (blk b T (cB (bs.set j v))) U U') (h : N fr U') : EV1 E ⟨none, .store t x y, ty, pos, af, g⟩ fr U N := by
  subst ho
  have e : setMany (cB bs) o [.bool v] = cB (bs.set o v) := by simp only [setMany]; show _ = (bs.set o v).map Value.bool; rw [List.map_set]
  rw [← e] at hU
  refine o_store hx hy ht rfl ?_ rfl ?_ hU h
  · rw [Nat.eq_of_beq_eq_true hs]; rfl
  · rw [Nat.eq_of_beq_eq_true hs, cB_len, Nat.ble_eq]; omega

theorem o_storeA {ty : TypeId} {pos : String} {af : Array Edge} {g : Option (Nat × Bool)} {cs : List Bool} (hx : val fr x = some (.pointer (some ⟨b, 0, none⟩))) (hy : val fr y = some (.agg (cB cs).toArray)) (ht : tl E.T t = some i) (hs : cs.length = i.size) (hl : bs.length = i.size)
    (hU : Upd (blk b T (cB bs)) (blk b T (cB cs)) U U') (h : N fr U') : EV1 E ⟨none, .store t x y, ty, pos, af, g⟩ fr U N := by
  have e : setMany (cB bs) 0 (cB cs) = cB cs := setMany_all _ _ (by rw [cB_len, cB_len, hs, hl])
  rw [← e] at hU
  refine o_store hx hy ht rfl ?_ ?_ ?_ hU h
  · simp only [Value.cells]; rw [cB_len, hs]; exact Nat.beq_refl _
  · simp only [Value.cells]
    rw [List.all_eq_true]
    intro u hu
    obtain ⟨q, _, rfl⟩ := List.mem_map.1 hu
    rfl
  · rw [cB_len, hl, Nat.zero_add, Nat.ble_eq]; exact Nat.le_refl _

/-- A slice of an array: all of it, or its first terms. -/
theorem n_arrAll {len s1 b1 : Nat} {z1 : List Value} (hx : val fr x = some (.pointer (some ⟨b, 0, none⟩))) (ht : tl E.T t = some ⟨.arr len e, s1, b1, z1⟩) (he : tl E.T e = some i) : NEV E (.slice t x none none none) fr U (.slice (some ⟨b, 0, none⟩) len len) := by
  intro a w dst ty pos af g hf _
  obtain ⟨inf, v0, hinf, _, hsz, _, _⟩ := ti_info (d := i.d) (s := i.size) (b := i.bytes) (z := i.zero) he
  have hu := u_arr ht
  have hr : (Instr.sliceAt t (.pointer (some ⟨b, 0, none⟩)) none none none).run E.P w = .ok (.slice (some ⟨b, 0, none⟩) len len) w := by
    simp [Instr.sliceAt, Instr.sureAddr, slicedAt, run_under hu, Instr.sliceBounds, run_sliceBound, sliced, run_size hinf, Addr.add, Result.andThen]
  simp [execOp, hf.eval hx, hr, Result.andThen]

theorem n_arrTo {len s1 b1 : Nat} {z1 : List Value} {h : Operand} {k : IntKind} {q : Int} (hx : val fr x = some (.pointer (some ⟨b, 0, none⟩))) (hh : val fr h = some (.int k q)) (ht : tl E.T t = some ⟨.arr len e, s1, b1, z1⟩) (he : tl E.T e = some i) (m : Nat) (hq : q = (m : Int)) (hm : m ≤ len) :
    NEV E (.slice t x none (some h) none) fr U (.slice (some ⟨b, 0, none⟩) m len) := by
  subst hq
  intro a w dst ty pos af g hf _
  obtain ⟨inf, v0, hinf, _, hsz, _, _⟩ := ti_info (d := i.d) (s := i.size) (b := i.bytes) (z := i.zero) he
  have hu := u_arr ht
  have h2 : ¬ ((m : Int) > (len : Int)) := by omega
  have h3 : (m : Int) ≤ (len : Int) := by omega
  have hr : (Instr.sliceAt t (.pointer (some ⟨b, 0, none⟩)) none (some (.int k (m : Int))) none).run E.P w = .ok (.slice (some ⟨b, 0, none⟩) m len) w := by
    simp [Instr.sliceAt, Instr.sureAddr, slicedAt, run_under hu, Instr.sliceBounds, run_sliceBound, sliced, run_size hinf, Addr.add, Result.andThen, hm]
  simp [execOp, hf.eval hx, hf.eval hh, hr, Result.andThen]

/-- An array, read as a slice. -/
theorem can_bits {kd : Kd Bool} (hsz : kd.sz = 1) (henc : ∀ w S x, kd.R w S [.bool x] x) {m c bytes : Nat} (ht : Tak (blk b T (cB bs)) U U') (hm : m ≤ bs.length) (hc : m ≤ c) (hb : m * bytes ≤ 140737488355328) : Can E U ((kslice bytes kd).rd [.slice (some ⟨b, 0, none⟩) m c] (bs.take m)) :=
  Can.of fun w S hs => by
    obtain ⟨S1, ⟨h1, h2⟩, hsub⟩ := ht.mem hs
    have hlen : (bs.take m).length = m := by rw [List.length_take]; omega
    refine ⟨some ⟨b, 0, none⟩, c, by rw [hlen], by omega, by rw [hlen]; exact hb, fun i hi => ?_⟩
    rw [hlen] at hi
    refine ⟨b, 0, [.bool (bs.take m)[i]], rfl, hsub b h1, henc _ _ _, fun j u hu => ?_⟩
    cases j with
    | succ j => simp at hu
    | zero =>
      simp only [List.getElem?_cons_zero, Option.some.injEq] at hu
      subst hu
      rw [hsz, Nat.mul_one, Nat.zero_add, Nat.add_zero, List.getElem_take]
      rw [cell_of_row w b i _ _ _ h2, List.getElem?_toArray, List.getElem?_map, List.getElem?_eq_getElem (by omega)]; rfl
end bits

end Go.Proofs.Ytjeimmekhfhepaa.E

namespace Go.Proofs.Ytjeimmekhfhepaa.E
set_option linter.all false
variable {E : Env} {fr : Frm} {U : List Asn} {N : Frm → List Asn → Prop}


theorem NEV.weak {op : Op} {V : List Asn} {v : Value} (he : Ent U V) (h : NEV E op fr V v) : NEV E op fr U v :=
  fun a w dst ty pos af g hf hm => h a w dst ty pos af g hf (hm.ent he)

/-- A label: nothing is done. -/
theorem s_label {K : Frm → List Asn → Prop} {k : List It} {l : Nat} (h : EVS E K k fr U) : EVS E K (.code (.label l) :: k) fr U :=
  fun _ _ hf hm => wp_label ⟨fr, U, h, hf, hm⟩

/-- A scope of labels, without a jump. -/
theorem s_scope {K : Frm → List Asn → Prop} {k : List It} {c : Code} (h : EVS E K (.code c :: k) fr U) : EVS E K (.code (.scope c) :: k) fr U := by
  intro a w hf hm
  refine wp_scope_straight (wp_mono (h a w hf hm) ?_)
  rintro e a' w' ⟨fr', U', he, hf', hm'⟩
  cases e with
  | normal => exact ⟨fr', U', he, hf', hm'⟩
  | exit id => exact ⟨fr', U', he, hf', hm'⟩
  | goto l => exact (show False by cases k with | nil => exact he | cons x k => cases x <;> exact he).elim
  | ret => exact ⟨fr', U', by rw [EVX_ret] at he ⊢; exact he, hf', hm'⟩
  | panic c => exact (show False by cases k with | nil => exact he | cons x k => cases x <;> exact he).elim
  | outgrown => exact (show False by cases k with | nil => exact he | cons x k => cases x <;> exact he).elim

/-! ### arrays that are built -/
theorem n_buildA0 {t e : TypeId} {len s1 b1 : Nat} {z1 : List Value} {i : TI} (ht : tl E.T t = some ⟨.arr len e, s1, b1, z1⟩) (he : tl E.T e = some i) : NEV E (.build t #[]) fr U (.agg z1.toArray) := by
  intro a w dst ty pos af g hf _
  obtain ⟨inf0, zv, hi0, hz, _, _, hzc⟩ := ti_info ht
  obtain ⟨inf, v0, hinf, _, hsz, _, _⟩ := ti_info (d := i.d) (s := i.size) (b := i.bytes) (z := i.zero) he
  have e1 : zv.cells = z1.toArray := by rw [← hzc]
  simp [execOp, Instr.build, run_zero hi0 hz, run_under (u_arr ht), run_size hinf, Instr.fill, e1, Result.andThen]

theorem n_buildA1 {t e : TypeId} {len s1 b1 : Nat} {z1 : List Value} {i : TI} {x : Operand} {v : Value} (ht : tl E.T t = some ⟨.arr len e, s1, b1, z1⟩) (he : tl E.T e = some i) (hx : val fr x = some v) (hv : v.cells = #[v]) (hs : Nat.beq i.size 1 = true) (hl : Nat.ble 1 z1.length = true) :
    NEV E (.build t #[(0, x)]) fr U (.agg (z1.set 0 v).toArray) := by
  intro a w dst ty pos af g hf _
  obtain ⟨inf0, zv, hi0, hz, _, _, hzc⟩ := ti_info ht
  obtain ⟨inf, v0, hinf, _, hsz, _, _⟩ := ti_info (d := i.d) (s := i.size) (b := i.bytes) (z := i.zero) he
  have hs2 := Nat.eq_of_beq_eq_true hs
  have hl2 := Nat.le_of_ble_eq_true hl
  have e1 : zv.cells = z1.toArray := by rw [← hzc]
  have h2 : ¬ (1 > z1.length) := by omega
  have h3 : z1 ≠ [] := by intro h; subst h; simp at hl2
  simp [execOp, hf.eval hx, Instr.build, run_zero hi0 hz, run_under (u_arr ht), run_size hinf, hsz, hs2, Instr.fill, e1, hv, Result.andThen, h2, h3, Array.zipIdx]

/-! ### a pointer that may be none -/
theorem n_eqlP {t t2 e : TypeId} {x y : Operand} {A : Option Addr} (hu : E.P.underlying t = some (.pointer e)) (hq : E.P.eqGuardType E.P.depth t = false) (hx : val fr x = some (.pointer A)) (hy : val fr y = some (.pointer none)) :
    NEV E (.binOp .eql t x y t2) fr U (.bool A.isNone) := by
  intro a w dst ty pos af g hf _
  have he : (Op.equal t (.pointer A) (.pointer none)).run E.P w = .ok A.isNone w := by
    unfold Op.equal Op.maxDepth Op.equalIn
    cases A <;> simp [run_underlying hu, Result.andThen]
  simp [execOp, hf.eval hx, hf.eval hy, eqGuard, hq, binOp, he]

theorem n_neqP {t t2 e : TypeId} {x y : Operand} {A : Option Addr} (hu : E.P.underlying t = some (.pointer e)) (hq : E.P.eqGuardType E.P.depth t = false) (hx : val fr x = some (.pointer A)) (hy : val fr y = some (.pointer none)) :
    NEV E (.binOp .neq t x y t2) fr U (.bool (!A.isNone)) := by
  intro a w dst ty pos af g hf _
  have he : (Op.equal t (.pointer A) (.pointer none)).run E.P w = .ok A.isNone w := by
    unfold Op.equal Op.maxDepth Op.equalIn
    cases A <;> simp [run_underlying hu, Result.andThen]
  simp [execOp, hf.eval hx, hf.eval hy, eqGuard, hq, binOp, he]

/-! ### copying into an array -/
theorem o_copyB {d : Nat} {t t' e : TypeId} {x y : Operand} {ty : TypeId} {pos : String} {af : Array Edge} {g : Option (Nat × Bool)} {s1 b1 : Nat} {z1 : List Value} {i : TI} {b bu m c len c2 : Nat} {T e2 : TypeId} {bs src : List Bool} {W U' : List Asn}
    (ht : tl E.T t = some ⟨.slice e, s1, b1, z1⟩) (he : tl E.T e = some i) (hs : Nat.beq i.size 1 = true) (hx : val fr x = some (.slice (some ⟨b, 0, none⟩) len c2)) (hy : val fr y = some (.slice (some ⟨bu, 0, none⟩) m c))
    (hsr : Tak (osl e2 1 (.slice (some ⟨bu, 0, none⟩) m c) m (cB src)) U W) (hlen : bs.length = len) (hm : m ≤ len) (hd : Nat.ble (d + 1) E.n = true)
    (hU : Upd (blk b T (cB bs)) (blk b T (cB (src ++ bs.drop m))) U U') (h : N ((d, .int .i64 m) :: fr) U') : EV1 E ⟨some d, .call ⟨.builtin .copy, #[x, y], #[t, t']⟩, ty, pos, af, g⟩ fr U N := by
  intro a w hf hmm
  obtain ⟨S2, hP2, _⟩ := hmm.tak hsr
  obtain ⟨S1, ⟨hS, hb⟩, hlt, hk⟩ := hmm.upd hU
  obtain ⟨inf, v0, hinf, _, hsz, _, _⟩ := ti_info (d := i.d) (s := i.size) (b := i.bytes) (z := i.zero) he
  have hsrc : src.length = m := by have := hP2.1.1; rw [cB_len] at this; omega
  have hblt : b < w.heap.size := hlt b hS
  have hrun := run_copy_row (P := E.P) w t t' ty e b 0 len c2 ⟨bu, 0, none⟩ m c (cB bs).toArray T (cB src) (u_slice ht) (by rw [hinf]; simp [hsz, Nat.eq_of_beq_eq_true hs]) hb
    (by rw [cB_len, hsrc]; exact (Nat.min_eq_left hm).symm)
    (fun j v hj => by have h1 := osl_cells hP2 j v hj; have h2 : (⟨bu, 0, none⟩ : Addr).add j = ⟨bu, j, none⟩ := (by unfold Addr.add; split <;> simp_all); rw [h2]; exact h1)
    (by rw [cB_len, List.size_toArray, cB_len]; omega)
    (fun v hv => by obtain ⟨q, _, rfl⟩ := List.mem_map.1 hv; rfl)
  have e1 : (((cB bs).toArray.toList.take 0 ++ cB src ++ (cB bs).toArray.toList.drop (0 + (cB src).length)).toArray : Array Value) = (cB (src ++ bs.drop m)).toArray := by
    rw [List.take_zero, List.nil_append, Nat.zero_add, cB_len, hsrc]
    show _ = ((src ++ bs.drop m).map Value.bool).toArray
    rw [List.map_append, List.map_drop]
  rw [e1, cB_len, hsrc] at hrun
  unfold Oper.wp execOp
  simp only [resolve, invoke, builtin, List.map_toArray, List.map_cons, List.map_nil, hf.eval hx, hf.eval hy, Sem.run_bind, hrun, Result.andThen_ok, Sem.run_pure]
  have hset : ∀ q : Nat, q ≠ b → (w.setRow b (cB (src ++ bs.drop m)).toArray).heap[q]? = w.heap[q]? := fun q hq => setRow_other w b q _ hq
  refine ⟨_, _, h, hf.put (Nat.le_of_ble_eq_true hd) _, hk _ S1 ⟨rfl, rfl, rfl, by simp, fun q hq hn => hset q (fun e => hn (e ▸ hS))⟩ ⟨hS, setRow_heap w b _ _ T _ hb⟩ (fun q hq => ⟨by simpa using hlt q hq, .inl hq⟩)⟩

/-! ### stamped entries -/
section maps
variable {κ : Type} [DecidableEq κ]

/-- A map of one's own, with its entries' stamps. -/
def mapS (enc : κ → Value) (b : Nat) (l : List (κ × Value)) (st : List Nat) (ck : Nat) : Asn where
  P := fun w S => S b ∧ (∃ es : Array MapEntry, w.heap[b]? = some (.map es ck) ∧ es.toList.map (fun e => (e.key, e.val)) = l.map (fun p => (enc p.1, p.2)) ∧ es.toList.map (·.born) = st) ∧ st.Nodup ∧ ∀ s ∈ st, s < ck
  fr := fun _ _ _ h ⟨h1, ⟨es, h2, h3, h4⟩, h5⟩ => ⟨h1, ⟨es, (h b h1).trans h2, h3, h4⟩, h5⟩

theorem ent_mapS {enc : κ → Value} {b : Nat} {l : List (κ × Value)} {st : List Nat} {ck : Nat} {V : List Asn} : Ent (mapS enc b l st ck :: V) (mapA enc b l :: V) := fun w S ⟨S1, S2, h1, h2, h3⟩ => by
  obtain ⟨a, ⟨es, hb, hk, _⟩, _⟩ := h1
  exact ⟨S1, S2, ⟨a, es, ck, hb, hk⟩, h2, h3⟩

theorem o_newMapS {d : Nat} {t : TypeId} {ty : TypeId} {pos : String} {af : Array Edge} {g : Option (Nat × Bool)} (enc : κ → Value) (hd : Nat.ble (d + 1) E.n = true)
    (h : ∀ b, N ((d, .map (some b)) :: fr) (mapS enc b ([] : List (κ × Value)) [] 0 :: U)) : EV1 E ⟨some d, .makeMap t none, ty, pos, af, g⟩ fr U N := by
  intro a w hf hm
  unfold Oper.wp execOp
  simp only [Instr.makeMap, newObj]
  refine ⟨_, _, h w.heap.size, hf.put (Nat.le_of_ble_eq_true hd) _, hm.new (T1 := fun k => k = w.heap.size) (step_alloc w (.map #[] 0)) ⟨rfl, ⟨#[], heap_alloc_new w _, rfl, rfl⟩, List.nodup_nil, fun s hs => by cases hs⟩ ?_⟩
  rintro b rfl
  exact ⟨by simp, Nat.le_refl _⟩

theorem findK_none {l : List (κ × Value)} {k : κ} (h : lookK l k = none) : ∀ i, findK k l i = none := by
  induction l with
  | nil => intro i; rfl
  | cons p l ih =>
    intro i
    unfold findK
    by_cases hk : p.1 = k
    · unfold lookK at h; rw [List.find?_cons_of_pos (by simpa using hk)] at h; cases h
    · rw [if_neg hk]
      refine ih ?_ (i + 1)
      unfold lookK at h ⊢
      rwa [List.find?_cons_of_neg (by simpa using hk)] at h

/-- A new entry of a map, its value still nothing. -/
theorem o_mapEntry {P : Program} {d : Nat} {t kt e : TypeId} {s1 b1 : Nat} {z1 : List Value} {x y : Operand} {z : Value} {ty : TypeId} {pos : String} {af : Array Edge} {g : Option (Nat × Bool)} {b : Nat} {k : κ} {enc : κ → Value} {l : List (κ × Value)} {st : List Nat} {ck : Nat} {U' : List Asn} (hP : E.P = P) (K : MKey P kt enc)
    (hz : ∀ w, (zeroValue e).run P w = .ok z w) (ht : tl E.T t = some ⟨.map kt e, s1, b1, z1⟩) (hx : val fr x = some (.map (some b))) (hy : val fr y = some (enc k)) (hk0 : lookK l k = none) (hd : Nat.ble (d + 1) E.n = true)
    (hU : Upd (mapS enc b l st ck) (mapS enc b (l ++ [(k, z)]) (st ++ [ck]) (ck + 1)) U U') (h : N ((d, .tuple #[z, .int .i64 ck]) :: fr) U') :
    EV1 E ⟨some d, .mapEntry t x y, ty, pos, af, g⟩ fr U N := by
  subst hP
  intro a w hf hm
  obtain ⟨S1, ⟨hS, ⟨es, hb, hes, hst⟩, hnd, hck⟩, hlt, hk⟩ := hm.upd hU
  have hf2 := K.find w k es.toList l hes
  rw [findK_none hk0] at hf2
  have hblt : b < w.heap.size := hlt b hS
  have hrun : (Instr.mapEntry t (.map (some b)) (enc k)).run E.P w = .ok (.tuple #[z, .int .i64 ck]) { w with heap := w.heap.setIfInBounds b (.map (es.push { key := enc k, val := z, born := ck }) (ck + 1)) } := by
    simp [Instr.mapEntry, run_under (u_map ht), MapKept.run_getObj_map hb, K.check, hf2, hz, MapKept.run_setObj_map _ hb, Result.andThen, goInt]
  unfold Oper.wp execOp
  simp only [hf.eval hx, hf.eval hy, Sem.run_bind, hrun, Result.andThen_ok, Sem.run_pure]
  have hset : ∀ q : Nat, q ≠ b → ({ w with heap := w.heap.setIfInBounds b (.map (es.push { key := enc k, val := z, born := ck }) (ck + 1)) } : World).heap[q]? = w.heap[q]? := fun q hq => by
    simp [Array.getElem?_setIfInBounds_ne (Ne.symm hq)]
  refine ⟨_, _, h, hf.put (Nat.le_of_ble_eq_true hd) _, hk _ S1 ⟨rfl, rfl, rfl, by simp, fun q hq hn => hset q (fun e => hn (e ▸ hS))⟩
    ⟨hS, ⟨es.push { key := enc k, val := z, born := ck }, by simp [hblt], by simp [hes], by simp [hst]⟩, ?_, fun s hs => ?_⟩ (fun q hq => ⟨by simpa using hlt q hq, .inl hq⟩)⟩
  · rw [List.nodup_append]
    exact ⟨hnd, by simp, fun s hs u hu e => by rw [List.mem_singleton] at hu; subst hu; subst e; exact absurd (hck _ hs) (Nat.lt_irrefl _)⟩
  · rcases List.mem_append.1 hs with hs | hs
    · have := hck s hs; omega
    · rw [List.mem_singleton] at hs; omega

/-- Its value. -/
theorem o_entryStore {t : TypeId} {x y u : Operand} {z v : Value} {ty : TypeId} {pos : String} {af : Array Edge} {g : Option (Nat × Bool)} {b : Nat} {k : κ} {enc : κ → Value} {l : List (κ × Value)} {st : List Nat} {ck : Nat} {q : Int} {U' : List Asn}
    (hx : val fr x = some (.map (some b))) (hy : val fr y = some (.int .i64 q)) (hq : q = (ck : Int)) (hu : val fr u = some v)
    (hU : Upd (mapS enc b (l ++ [(k, z)]) (st ++ [ck]) (ck + 1)) (mapS enc b (l ++ [(k, v)]) (st ++ [ck]) (ck + 1)) U U') (h : N fr U') :
    EV1 E ⟨none, .entryStore t x y u, ty, pos, af, g⟩ fr U N := by
  subst hq
  intro a w hf hm
  obtain ⟨S1, ⟨hS, ⟨es, hb, hes, hst⟩, hnd, hck⟩, hlt, hk⟩ := hm.upd hU
  have hblt : b < w.heap.size := hlt b hS
  have hlen : es.size = l.length + 1 := by have := congrArg List.length hes; simpa using this
  have hstl : st.length = l.length := by have := congrArg List.length hst; simp at this; omega
  have hlast : es.toList[l.length]? = some es[l.length] := by rw [List.getElem?_eq_getElem (by simp [hlen])]; simp
  have hborn : es[l.length].born = ck := by
    have := congrArg (fun l' => l'[l.length]?) hst
    simp only [List.getElem?_map, hlast, Option.map_some] at this
    rw [List.getElem?_append_right (by omega), hstl, Nat.sub_self] at this
    simpa using this
  have hfind : es.findIdx? (fun e => (e.born : Int) == (ck : Int)) = some l.length := by
    rw [Go.WideElems.findIdx_arr, ← hborn]
    exact Go.WideElems.findIdx_born (by rw [hst]; exact hnd) hlast
  have hrun : (Instr.entryStore t (.map (some b)) (.int .i64 ck) v).run E.P w = .ok () { w with heap := w.heap.setIfInBounds b (.map (es.modify l.length fun e => { e with val := v }) (ck + 1)) } := by
    simp [Instr.entryStore, MapKept.run_getObj_map hb, asInt, asIntOf, hfind, MapKept.run_setObj_map _ hb, Result.andThen]
  unfold Oper.wp execOp
  simp only [hf.eval hx, hf.eval hy, hf.eval hu, Sem.run_bind, hrun, Result.andThen_ok, Sem.run_pure]
  have hset : ∀ q : Nat, q ≠ b → ({ w with heap := w.heap.setIfInBounds b (.map (es.modify l.length fun e => { e with val := v }) (ck + 1)) } : World).heap[q]? = w.heap[q]? := fun q hq => by
    simp [Array.getElem?_setIfInBounds_ne (Ne.symm hq)]
  refine ⟨_, _, h, hf.put_none _, hk _ S1 ⟨rfl, rfl, rfl, by simp, fun q hq hn => hset q (fun e => hn (e ▸ hS))⟩
    ⟨hS, ⟨es.modify l.length fun e => { e with val := v }, by simp [hblt], ?_, ?_⟩, hnd, hck⟩ (fun q hq => ⟨by simpa using hlt q hq, .inl hq⟩)⟩
  · apply List.ext_getElem?
    intro i
    have hei := congrArg (fun l => l[i]?) hes
    simp only [List.getElem?_map] at hei
    simp only [List.getElem?_map, Array.toList_modify, List.getElem?_modify]
    by_cases hij : l.length = i
    · subst hij
      rw [hlast] at hei ⊢
      rw [List.getElem?_append_right (Nat.le_refl _), Nat.sub_self] at hei ⊢
      simp at hei ⊢
      exact hei.1
    · simp only [if_neg hij]
      have h2 : (l ++ [(k, v)])[i]? = (l ++ [(k, z)])[i]? := by
        by_cases hlt2 : i < l.length
        · rw [List.getElem?_append_left hlt2, List.getElem?_append_left hlt2]
        · rw [List.getElem?_eq_none (by simp; omega), List.getElem?_eq_none (by simp; omega)]
      rw [h2]
      simpa using hei
  · apply List.ext_getElem?
    intro i
    have hei := congrArg (fun l => l[i]?) hst
    simp only [List.getElem?_map] at hei
    simp only [List.getElem?_map, Array.toList_modify, List.getElem?_modify]
    rw [← hei]
    by_cases hij : l.length = i
    · subst hij
      cases es.toList[l.length]? <;> simp
    · simp only [if_neg hij]; simp
end maps

end Go.Proofs.Ytjeimmekhfhepaa.E

namespace Go.Proofs.Ytjeimmekhfhepaa.E
open Go
set_option linter.all false
variable {E : Env} {fr : Frm} {U : List Asn} {N : Frm → List Asn → Prop}

/-- A slice of one's own, by its block. -/
class TakO (b : Nat) (U : List Asn) (e : outParam TypeId) (sz : outParam Nat) (n c k : outParam Nat) (xs : outParam (List Value)) (W : outParam (List Asn)) : Prop where
  tak : Tak (osl e sz (.slice (some ⟨b, 0, none⟩) n c) k xs) U W
instance TakO.s {b : Nat} {U : List Asn} {e : TypeId} {sz n c k : Nat} {xs : List Value} {W : List Asn} {B : Asn} [h : TakO b U e sz n c k xs W] : TakO b (B :: U) e sz n c k xs (B :: W) := ⟨.s h.tak⟩
instance TakO.z {b : Nat} {U : List Asn} {e : TypeId} {sz n c k : Nat} {xs : List Value} : TakO b (osl e sz (.slice (some ⟨b, 0, none⟩) n c) k xs :: U) e sz n c k xs U := ⟨.z⟩
instance TakO.n {b : Nat} {U : List Asn} {e : TypeId} {sz n c k : Nat} {xs : List Value} {W : List Asn} [h : TakO b U e sz n c k xs W] : TakO b ([] ++ U) e sz n c k xs W := h
instance TakO.a {b : Nat} {L U : List Asn} {e : TypeId} {sz n c k : Nat} {xs : List Value} {W : List Asn} {B : Asn} [h : TakO b (B :: (L ++ U)) e sz n c k xs W] : TakO b ((B :: L) ++ U) e sz n c k xs W := h
theorem to {b : Nat} {U : List Asn} {e : TypeId} {sz n c k : Nat} {xs : List Value} {W : List Asn} [h : TakO b U e sz n c k xs W] : TakO b U e sz n c k xs W := h

/-- A slice of one's own, by the slice; what is put in its place. -/
class UpdV (v : Value) (U : List Asn) (e : outParam TypeId) (sz n : outParam Nat) (xs : outParam (List Value)) (F : outParam (Asn → List Asn)) : Prop where
  upd : ∀ A', Upd (osl e sz v n xs) A' U (F A')
instance UpdV.s {v : Value} {U : List Asn} {e : TypeId} {sz n : Nat} {xs : List Value} {F : Asn → List Asn} {B : Asn} [h : UpdV v U e sz n xs F] : UpdV v (B :: U) e sz n xs (fun A' => B :: F A') := ⟨fun A' => .s (h.upd A')⟩
instance UpdV.z {v : Value} {U : List Asn} {e : TypeId} {sz n : Nat} {xs : List Value} : UpdV v (osl e sz v n xs :: U) e sz n xs (fun A' => A' :: U) := ⟨fun _ => .z⟩
instance UpdV.n {v : Value} {U : List Asn} {e : TypeId} {sz n : Nat} {xs : List Value} {F : Asn → List Asn} [h : UpdV v U e sz n xs F] : UpdV v ([] ++ U) e sz n xs F := h
instance UpdV.a {v : Value} {L U : List Asn} {e : TypeId} {sz n : Nat} {xs : List Value} {F : Asn → List Asn} {B : Asn} [h : UpdV v (B :: (L ++ U)) e sz n xs F] : UpdV v ((B :: L) ++ U) e sz n xs F := h
theorem uv {v : Value} {U : List Asn} {e : TypeId} {sz n : Nat} {xs : List Value} {F : Asn → List Asn} [h : UpdV v U e sz n xs F] : UpdV v U e sz n xs F := h

theorem Upd.takO {A A' : Asn} : ∀ {U U' : List Asn}, Upd A A' U U' → ∃ W, Tak A U W
  | _, _, .z => ⟨_, .z⟩
  | _, _, .s h => by obtain ⟨W, hW⟩ := Upd.takO h; exact ⟨_, .s hW⟩

/-- The parts that a call wants. -/
class PicC (Ms U : List Asn) (W : outParam (List Asn)) : Prop where
  pic : Pic Ms U W
instance PicC.nil {U : List Asn} : PicC [] U U := ⟨.nil⟩
instance PicC.cons {A : Asn} {Ms U U1 W : List Asn} [h : TakA A U U1] [h2 : PicC Ms U1 W] : PicC (A :: Ms) U W := ⟨.cons h.tak h2.pic⟩
theorem pc {Ms U W : List Asn} [h : PicC Ms U W] : Pic Ms U W := h.pic

theorem no {t : TypeId} {x : Operand} {i : TI} {b o : Nat} {e : TypeId} {sz n c k : Nat} {xs : List Value} {v : Value} {W : List Asn}
    (hx : val fr x = some (.pointer (some ⟨b, o, none⟩))) (ht : tl E.T t = some i) (hU : TakO b U e sz n c k xs W) (hl : loadL i xs o = some v) : NEV E (.load t x) fr U v :=
  n_load_osl hx ht hU.tak hl

/-- A store into a slice of one's own. -/
theorem o_storeO {t : TypeId} {x y : Operand} {ty : TypeId} {pos : String} {af : Array Edge} {g : Option (Nat × Bool)} {i : TI} {b o : Nat} {e : TypeId} {sz n c k : Nat} {xs vs : List Value} {v : Value} {W U' : List Asn}
    (hx : val fr x = some (.pointer (some ⟨b, o, none⟩))) (hy : val fr y = some v) (ht : tl E.T t = some i) (hv : v.cells.toList = vs) (hW : TakO b U e sz n c k xs W)
    (hU : UpdC (osl e sz (.slice (some ⟨b, 0, none⟩) n c) k xs) (osl e sz (.slice (some ⟨b, 0, none⟩) n c) k (setMany xs o vs)) U U') (hl : Nat.beq vs.length i.size = true) (h1 : vs.all oneB = true)
    (hle : o + i.size ≤ xs.length) (h : N fr U') : EV1 E ⟨none, .store t x y, ty, pos, af, g⟩ fr U N :=
  o_store_osl hx hy ht hv hl h1 hle hU.upd h

/-- One element, just built, behind a slice of one's own. -/
theorem o_app1 {d : Nat} {t e : TypeId} {x y : Operand} {ty : TypeId} {pos : String} {af : Array Edge} {g : Option (Nat × Bool)} {s1 b1 : Nat} {z1 : List Value} {i : TI} {v : Value} {n : Nat} {xs : List Value}
    {g2 m c2 k2 : Nat} {e2 : TypeId} {sz2 : Nat} {news : List Value} {F : Asn → List Asn} {sz : Nat} {W : List Asn}
    (ht : tl E.T t = some ⟨.slice e, s1, b1, z1⟩) (he : tl E.T e = some i) (hx : val fr x = some v) (hy : val fr y = some (.slice (some ⟨g2, 0, none⟩) m c2)) (hs : TakO g2 U e2 sz2 m c2 k2 news W) (hU : UpdV v U e sz n xs F) (hsz : sz = i.size)
    (hl : news.length = m * i.size) (h1 : news.all oneB = true) (hzl : Nat.beq i.zero.length i.size = true) (hm0 : 0 < m) (hby : (n + m) * i.bytes ≤ 140737488355328) (hd : Nat.ble (d + 1) E.n = true)
    (hb0 : 0 < i.bytes)
    (h : ∀ b c, N ((d, .slice (some ⟨b, 0, none⟩) (n + m) c) :: fr) (F (osl e i.size (.slice (some ⟨b, 0, none⟩) (n + m) c) (n + m) (xs ++ news)))) :
    EV1 E ⟨some d, .call ⟨.builtin .append, #[x, y], #[t, t]⟩, ty, pos, af, g⟩ fr U N := by
  subst hsz
  have h63 : n + m ≤ 9223372036854775807 := Nat.le_trans (Nat.le_trans (Nat.le_mul_of_pos_right _ hb0) hby) (by decide)
  refine o_append (fun b c => F (osl e i.size (.slice (some ⟨b, 0, none⟩) (n + m) c) (n + m) (xs ++ news))) ht he hx hy (fun w hm j u hu => ?_) hl (List.all_eq_true.1 h1) hzl hm0 hby h63 hd (fun b c => hU.upd _) h
  obtain ⟨S1, hP, _⟩ := hm.tak hs.tak
  rw [Nat.zero_add]
  exact osl_cells hP j u hu

theorem o_callC {d : Nat} {f : FuncId} {args : Array Operand} {ts : Array TypeId} {ty : TypeId} {pos : String} {af : Array Edge} {g : Option (Nat × Bool)} {vs : List Value} {R : Rd} {Ms U' : List Asn}
    {Q : Value → List Asn → Prop} (ht : Trip E.P f vs R Ms Q) (hv : vals fr args.toList = some vs) (hp : PicC Ms U U') (hR : Can E U' R) (hd : Nat.ble (d + 1) E.n = true)
    (h : ∀ v V, Q v V → N ((d, v) :: fr) (V ++ U')) : EV1 E ⟨some d, .call ⟨.value (.func f), args, ts⟩, ty, pos, af, g⟩ fr U N :=
  o_call ht hv hp.pic hR hd h
theorem pk {Ms U W : List Asn} [h : PicC Ms U W] : PicC Ms U W := h

theorem Ent.blkC {b : Nat} {T : TypeId} {cs cs' : List Value} {W V : List Asn} (h : TakC b U T cs W) (e : cs = cs') (h' : Ent W V) : Ent U (blk b T cs' :: V) := by
  subst e; exact Ent.tak h.tak h'
theorem Ent.oslC {b : Nat} {e e' : TypeId} {sz sz' n n' c c' k k' : Nat} {xs xs' : List Value} {W V : List Asn} (h : TakO b U e sz n c k xs W) (h1 : e = e') (h2 : sz = sz') (h3 : n = n') (h4 : c = c') (h5 : k = k') (h6 : xs = xs') (h' : Ent W V) : Ent U (osl e' sz' (.slice (some ⟨b, 0, none⟩) n' c') k' xs' :: V) := by
  subst h1 h2 h3 h4 h5 h6; exact Ent.tak h.tak h'
/-- One row more, behind a bundle of rows. -/
theorem Ent.snocB {α : Type} {f : List α → List Value} {sz : Nat} {ei : TypeId} {acs : List (Option Addr × Nat)} {rows : List (List α)} {ac : Option Addr × Nat} {r : List α} {U1 U2 V : List Asn} (h1 : TakA (rowA f sz ei ac r) U U1) (h2 : TakA (bun (rowX f sz ei acs rows)) U1 U2) (hl : acs.length = rows.length) (h : Ent U2 V) :
    Ent U (bun (rowX f sz ei (acs ++ [ac]) (rows ++ [r])) :: V) :=
  Ent.trans (Ent.tak h1.tak (Ent.tak h2.tak (Ent.refl _))) (Ent.trans (ent_bsnoc hl) (Ent.cons h))
theorem ta {A : Asn} {U W : List Asn} [h : TakA A U W] : TakA A U W := h

end Go.Proofs.Ytjeimmekhfhepaa.E

namespace Go.Proofs.Ytjeimmekhfhepaa.E
open Go
set_option linter.all false
variable {E : Env} {fr : Frm} {U : List Asn} {N : Frm → List Asn → Prop}

theorem Trip.monoS {P : Program} {f : FuncId} {args : List Value} {R : Rd} {Ms : List Asn} {Q Q' : Value → List Asn → Prop} (h : Trip P f args R Ms Q) (hq : ∀ v V, Q v V → ∀ w S, star V w S → Q' v V) : Trip P f args R Ms Q' where
  enters := h.enters
  calls := fun w SM hS hs hR => (h.calls w SM hS hs hR).mono fun e w' ⟨v, V, S, he, hQ, hst, hb, hstep⟩ => ⟨v, V, S, he, hq v V hQ w' S hst, hst, hb, hstep⟩

theorem n_field {t : TypeId} {x : Operand} {f : Nat} {u v : Value} (hx : val fr x = some u) (hr : ∀ w, (Instr.field t u f).run E.P w = .ok v w) : NEV E (.field t x f) fr U v := by
  intro a w dst ty pos af g hf _
  simp [execOp, hf.eval hx, hr w]

/-- A field that is one cell. -/
theorem n_field1 {t : TypeId} {x : Operand} {f off ft : Nat} {cs : List Value} {v : Value} {fs : Array Field} {fd : Field} {i : TI} (hx : val fr x = some (.agg cs.toArray)) (ht : E.P.underlying t = some (.struct fs)) (hf : fs[f]? = some fd) (hft : fd.type = ft) (hi : tl E.T ft = some i) (ha : aggB i.d = false) (ho : fd.offset = off) (hv : cs[off]? = some v) : NEV E (.field t x f) fr U v := by
  subst hft ho
  refine n_field hx (fun w => ?_)
  unfold Instr.field
  simp [run_under ht, hf, part, run_isAgg hi, ha, asAgg, hv]

section skip
variable {K : Frm → List Asn → Prop} {k : List It} {ops : Array Oper} {V : List Asn}
/-- An operation that is not wanted, in a region whose orders are all walked. -/
theorem a_no {fuel : Nat} {done : List Nat} (i : Nat) {d : Nat} {o : Op} {ty : TypeId} {pos : String} {af : Array Edge} {j : Nat} {b b' : Bool} (hi : ops[i]? = some ⟨some d, o, ty, pos, af, some (j, b)⟩)
    (hg : gval ops fr j = some b') (hb : Bool.xor b b' = true) (hok : takeOk ops done i = true) (hV : Ent U V) (hd : Nat.ble (d + 1) E.n = true) (h : EVA E K k ops V fuel (i :: done) ((d, undef) :: fr) U) : EVA E K k ops V (fuel + 1) done fr U := by
  intro a w hf hm
  simp only [takeOk, Bool.and_eq_true] at hok
  refine wpAnyH_take hi hok.1 hok.2.2 hok.2.1 (fun c a w h => post_panic h) (.inr ⟨by
    simp only [Region.wanted, gval_yielded hf hg]
    cases b <;> cases b' <;> first | rfl | (simp at hb), rfl⟩) (hm.ent hV) ?_
  rw [lset_cons]
  exact h _ w (hf.put (Nat.le_of_ble_eq_true hd) _) hm
theorem a_noN {fuel : Nat} {done : List Nat} (i : Nat) {d : Nat} {o : Op} {ty : TypeId} {pos : String} {af : Array Edge} {j : Nat} {b : Bool} (hi : ops[i]? = some ⟨some d, o, ty, pos, af, some (j, b)⟩)
    (hg : gno ops fr j = true) (hok : takeOk ops done i = true) (hV : Ent U V) (hd : Nat.ble (d + 1) E.n = true) (h : EVA E K k ops V fuel (i :: done) ((d, undef) :: fr) U) : EVA E K k ops V (fuel + 1) done fr U := by
  intro a w hf hm
  simp only [takeOk, Bool.and_eq_true] at hok
  refine wpAnyH_take hi hok.1 hok.2.2 hok.2.1 (fun c a w h => post_panic h) (.inr ⟨by simp only [Region.wanted, gno_yielded hf hg]; rfl, rfl⟩) (hm.ent hV) ?_
  rw [lset_cons]
  exact h _ w (hf.put (Nat.le_of_ble_eq_true hd) _) hm
theorem a_1no {fuel : Nat} {done : List Nat} (i : Nat) {d : Nat} {o : Op} {ty : TypeId} {pos : String} {af : Array Edge} {j : Nat} {b b' : Bool} (hr : Region.ready .any ops (lset ops done) = [i]) (hi : ops[i]? = some ⟨some d, o, ty, pos, af, some (j, b)⟩)
    (hg : gval ops fr j = some b') (hb : Bool.xor b b' = true) (hV : Ent U V) (hd : Nat.ble (d + 1) E.n = true) (h : EVA E K k ops V fuel (i :: done) ((d, undef) :: fr) U) : EVA E K k ops V (fuel + 1) done fr U := by
  intro a w hf hm
  refine wpAnyH_all hr (by simp) ?_
  intro q hq
  simp only [List.mem_singleton] at hq
  subst hq
  unfold wpOp
  have hw : Region.wanted ⟨some d, o, ty, pos, af, some (j, b)⟩ (yielded ops a.tmps) = false := by
    simp only [Region.wanted, gval_yielded hf hg]
    cases b <;> cases b' <;> first | rfl | (simp at hb)
  simp only [hi, hw, Bool.false_eq_true, if_false]
  refine ⟨hm.ent hV, ?_⟩
  rw [lset_cons]
  exact h _ w (hf.put (Nat.le_of_ble_eq_true hd) _) hm
end skip

end Go.Proofs.Ytjeimmekhfhepaa.E

namespace Go.Proofs.Ytjeimmekhfhepaa.E
open Go
set_option linter.all false
variable {E : Env} {fr : Frm} {U : List Asn} {N : Frm → List Asn → Prop}
section maps
variable {κ : Type} [DecidableEq κ]

/-- An iterator over a map: which entries were met, by number. -/
def iterA (r m : Nat) (st : List Nat) (ck : Nat) (ix : List Nat) : Asn where
  P := fun w S => S r ∧ w.heap[r]? = some (.mapIter (some m) ck (ix.map fun i => st.getD i 0).toArray ck)
  fr := fun _ _ _ h ⟨h1, h2⟩ => ⟨h1, (h r h1).trans h2⟩

theorem o_range {d : Nat} {t kt e : TypeId} {s1 b1 : Nat} {z1 : List Value} {x : Operand} {ty : TypeId} {pos : String} {af : Array Edge} {g : Option (Nat × Bool)} {b : Nat} {enc : κ → Value} {l : List (κ × Value)} {st : List Nat} {ck : Nat} {W : List Asn}
    (ht : tl E.T t = some ⟨.map kt e, s1, b1, z1⟩) (hx : val fr x = some (.map (some b))) (hU : Tak (mapS enc b l st ck) U W) (hd : Nat.ble (d + 1) E.n = true)
    (h : ∀ r, N ((d, .pointer (some ⟨r, 0, none⟩)) :: fr) (iterA r b st ck [] :: U)) : EV1 E ⟨some d, .range t x, ty, pos, af, g⟩ fr U N := by
  intro a w hf hm
  obtain ⟨S1, ⟨hS, ⟨es, hb, hes, hst⟩, hnd, hck⟩, hlt⟩ := hm.tak hU
  have hrun : (Instr.range t (.map (some b))).run E.P w = .ok (.pointer (some ⟨w.heap.size, 0, none⟩)) (w.alloc (.mapIter (some b) ck #[] ck)) := by
    simp [Instr.range, run_under (u_map ht), MapKept.run_getObj_map hb, Result.andThen]
  unfold Oper.wp execOp
  simp only [hf.eval hx, Sem.run_bind, hrun, Result.andThen_ok, Sem.run_pure]
  refine ⟨_, _, h w.heap.size, hf.put (Nat.le_of_ble_eq_true hd) _, hm.new (T1 := fun k => k = w.heap.size) (step_alloc w _) ⟨rfl, by rw [heap_alloc_new]; rfl⟩ ?_⟩
  rintro b rfl
  exact ⟨by simp, Nat.le_refl _⟩

theorem Mem.drew2 {w : World} (hm : Mem E U w) : Mem E U w.drew := hm.drew

/-- The next entry, whichever; or none, if all were met. -/
theorem o_next {d : Nat} {x : Operand} {ty : TypeId} {pos : String} {af : Array Edge} {g : Option (Nat × Bool)} {r b : Nat} {enc : κ → Value} {l : List (κ × Value)} {st : List Nat} {ck : Nat} {ix : List Nat} {W : List Asn} {F : List Nat → List Asn}
    (hx : val fr x = some (.pointer (some ⟨r, 0, none⟩))) (hM : Tak (mapS enc b l st ck) U W) (hI : ∀ ix', Upd (iterA r b st ck ix) (iterA r b st ck ix') U (F ix')) (hix : ∀ i ∈ ix, i < l.length) (hd : Nat.ble (d + 1) E.n = true)
    (h0 : (∀ i, i < l.length → i ∈ ix) → N ((d, .tuple #[.bool false]) :: fr) U)
    (h1 : ∀ (i : Nat) (hi : i < l.length), i ∉ ix → N ((d, .tuple #[.bool true, enc l[i].1, l[i].2]) :: fr) (F (ix ++ [i]))) : EV1 E ⟨some d, .next x false, ty, pos, af, g⟩ fr U N := by
  intro a w hf hm
  obtain ⟨S1, ⟨hS, ⟨es, hb, hes, hst⟩, hnd, hck⟩, hlt⟩ := hm.tak hM
  obtain ⟨S2, ⟨hSr, hr⟩, _, _⟩ := hm.upd (hI ix)
  have hlen : es.size = l.length := by have := congrArg List.length hes; simpa using this
  have hstl : st.length = l.length := by have := congrArg List.length hst; simp at this; omega
  have hborn : ∀ (i : Nat) (hi : i < es.size), es[i].born = st.getD i 0 := fun i hi => by
    have := congrArg (fun l' => l'[i]?) hst
    simp only [List.getElem?_map] at this
    rw [List.getElem?_eq_getElem (by simpa using hi)] at this
    rw [List.getD_eq_getElem?_getD, ← this]; simp
  have hinj : ∀ i j, i < l.length → j < l.length → st.getD i 0 = st.getD j 0 → i = j := fun i j hi hj e => by
    rw [List.getD_eq_getElem?_getD, List.getD_eq_getElem?_getD, List.getElem?_eq_getElem (by omega), List.getElem?_eq_getElem (by omega)] at e
    simp only [Option.getD_some] at e
    rcases Nat.lt_trichotomy i j with h | h | h
    · exact absurd e (List.pairwise_iff_getElem.1 hnd i j (by omega) (by omega) h)
    · exact h
    · exact absurd e.symm (List.pairwise_iff_getElem.1 hnd j i (by omega) (by omega) h)
  have hold : ∀ q ∈ es.toList, q.born < ck := fun q hq => hck _ (by rw [← hst]; exact List.mem_map.2 ⟨q, hq, rfl⟩)
  have hcont : ∀ (i : Nat) (hi : i < l.length), ((ix.map fun i => st.getD i 0).toArray.contains (st.getD i 0) = true) ↔ i ∈ ix := fun i hi => by
    rw [List.contains_toArray, List.contains_iff_mem, List.mem_map]
    constructor
    · rintro ⟨j, hj, e⟩
      have := hinj j i (hix j hj) hi e
      subst this; exact hj
    · intro h; exact ⟨i, h, rfl⟩
  have hkv : ∀ (i : Nat) (hi : i < l.length) (hi2 : i < es.size), es[i].key = enc l[i].1 ∧ es[i].val = l[i].2 := fun i hi hi2 => by
    have := congrArg (fun l' => l'[i]?) hes
    simp only [List.getElem?_map] at this
    rw [List.getElem?_eq_getElem (by simpa using hi2), List.getElem?_eq_getElem hi] at this
    simpa using this
  unfold Oper.wp execOp
  rcases run_next_at (P := E.P) w ty r b ck ck _ es ck hr hb hold (Nat.le_refl _) with ⟨hz, hrun⟩ | ⟨e, he, w1, hw1, hrun⟩
  · simp only [hf.eval hx, Sem.run_bind, hrun, Result.andThen_ok, Sem.run_pure]
    refine ⟨_, _, h0 (fun i hi => ?_), hf.put (Nat.le_of_ble_eq_true hd) _, hm⟩
    refine Classical.byContradiction fun hn => ?_
    have hmem : es[i]'(by omega) ∈ (leftOf es (ix.map fun i => st.getD i 0).toArray) := by
      unfold leftOf
      rw [Array.mem_filter]
      refine ⟨Array.getElem_mem _, ?_⟩
      rw [hborn i (by omega)]
      simp only [Bool.not_eq_true']
      exact Bool.eq_false_iff.2 (fun h => hn ((hcont i hi).1 h))
    have := Array.size_pos_of_mem hmem
    omega
  · simp only [hf.eval hx, Sem.run_bind, hrun, Result.andThen_ok, Sem.run_pure]
    have he2 : e ∈ leftOf es (ix.map fun i => st.getD i 0).toArray := by simpa using he
    unfold leftOf at he2
    rw [Array.mem_filter] at he2
    obtain ⟨hin, hno⟩ := he2
    obtain ⟨i, hi, rfl⟩ := Array.getElem_of_mem hin
    have hil : i < l.length := by omega
    have hni : i ∉ ix := fun h => by
      have := (hcont i hil).2 h
      rw [hborn i hi] at hno
      rw [this] at hno
      cases hno
    obtain ⟨k1, k2⟩ := hkv i hil hi
    rw [k1, k2]
    have hm1 : Mem E U w1 := by rcases hw1 with rfl | rfl; exact hm; exact hm.drew2
    obtain ⟨S3, ⟨hS3, hr3⟩, hlt3, hk3⟩ := hm1.upd (hI (ix ++ [i]))
    have e3 : ((ix.map fun i => st.getD i 0).toArray.push es[i].born) = ((ix ++ [i]).map fun i => st.getD i 0).toArray := by
      rw [hborn i hi]; simp
    refine ⟨_, _, h1 i hil hni, hf.put (Nat.le_of_ble_eq_true hd) _, hk3 _ S3 ⟨rfl, rfl, rfl, by simp [Go.ChangeMaps.setBlock], fun q hq hn => ?_⟩ ⟨hS3, ?_⟩ (fun q hq => ⟨by simpa [Go.ChangeMaps.setBlock] using hlt3 q hq, .inl hq⟩)⟩
    · simp [Go.ChangeMaps.setBlock, Array.getElem?_setIfInBounds_ne (fun e => hn (e ▸ hS3) : r ≠ q)]
    · rw [← e3]
      have hrlt : r < w1.heap.size := hlt3 r hS3
      simp [Go.ChangeMaps.setBlock, hrlt]

/-- The entry that was met last. -/
theorem n_entry {x : Operand} {r b : Nat} {enc : κ → Value} {l : List (κ × Value)} {st : List Nat} {ck : Nat} {ix : List Nat} {i : Nat} {W W2 : List Asn} (hx : val fr x = some (.pointer (some ⟨r, 0, none⟩))) (hM : Tak (mapS enc b l st ck) U W) (hI : Tak (iterA r b st ck (ix ++ [i])) U W2) (hi : i < l.length) :
    NEV E (.entry x) fr U (.tuple #[enc l[i].1, l[i].2]) := by
  intro a w dst ty pos af g hf hm
  obtain ⟨S1, ⟨hS, ⟨es, hb, hes, hst⟩, hnd, hck⟩, hlt⟩ := hm.tak hM
  obtain ⟨S2, ⟨hSr, hr⟩, _⟩ := hm.tak hI
  have hlen : es.size = l.length := by have := congrArg List.length hes; simpa using this
  have hi2 : i < es.size := by omega
  have hborn : es[i].born = st.getD i 0 := by
    have := congrArg (fun l' => l'[i]?) hst
    simp only [List.getElem?_map] at this
    rw [List.getElem?_eq_getElem (by simpa using hi2)] at this
    rw [List.getD_eq_getElem?_getD, ← this]; simp
  have hkv : es[i].key = enc l[i].1 ∧ es[i].val = l[i].2 := by
    have := congrArg (fun l' => l'[i]?) hes
    simp only [List.getElem?_map] at this
    rw [List.getElem?_eq_getElem (by simpa using hi2), List.getElem?_eq_getElem hi] at this
    simpa using this
  have e3 : ((ix ++ [i]).map fun i => st.getD i 0).toArray = ((ix.map fun i => st.getD i 0).toArray.push es[i].born) := by
    rw [hborn]; simp
  rw [e3] at hr
  have hrun := run_entry_at (P := E.P) w r b ck _ es ck es[i] hr hb (by simp) (by rw [hst]; exact hnd)
  rw [hkv.1, hkv.2] at hrun
  simp [execOp, hf.eval hx, hrun]
end maps
end Go.Proofs.Ytjeimmekhfhepaa.E

namespace Go.Proofs.Ytjeimmekhfhepaa.E
open Go
set_option linter.all false
variable {E : Env} {fr : Frm} {U : List Asn} {N : Frm → List Asn → Prop}

theorem n_min {x y : Operand} {ts : Array TypeId} {k k2 : IntKind} {p q : Int} (hx : val fr x = some (.int k p)) (hy : val fr y = some (.int k2 q)) : NEV E (.call ⟨.builtin .min, #[x, y], ts⟩) fr U (.int k (if q < p then q else p)) := by
  intro a w dst ty pos af g hf hm
  simp [execOp, resolve, invoke, builtin, hf.eval hx, hf.eval hy, Builtin.min_, Builtin.min2, Result.andThen]

section maps
variable {κ : Type} [DecidableEq κ]

/-- A new entry. -/
theorem o_mapUpdateS {P : Program} {t kt e : TypeId} {s1 b1 : Nat} {z1 : List Value} {x y u : Operand} {v : Value} {ty : TypeId} {pos : String} {af : Array Edge} {g : Option (Nat × Bool)} {b : Nat} {k : κ} {enc : κ → Value} {l : List (κ × Value)} {st : List Nat} {ck : Nat} {U' : List Asn} (hP : E.P = P) (K : MKey P kt enc)
    (ht : tl E.T t = some ⟨.map kt e, s1, b1, z1⟩) (hx : val fr x = some (.map (some b))) (hy : val fr y = some (enc k)) (hu : val fr u = some v) (hk0 : lookK l k = none)
    (hU : Upd (mapS enc b l st ck) (mapS enc b (l ++ [(k, v)]) (st ++ [ck]) (ck + 1)) U U') (h : N fr U') :
    EV1 E ⟨none, .mapUpdate t x y u, ty, pos, af, g⟩ fr U N := by
  subst hP
  intro a w hf hm
  obtain ⟨S1, ⟨hS, ⟨es, hb, hes, hst⟩, hnd, hck⟩, hlt, hk⟩ := hm.upd hU
  have hf2 := K.find w k es.toList l hes
  rw [findK_none hk0] at hf2
  have hblt : b < w.heap.size := hlt b hS
  have hrun : (Instr.mapUpdate t (.map (some b)) (enc k) v).run E.P w = .ok () { w with heap := w.heap.setIfInBounds b (.map (es.push { key := enc k, val := v, born := ck }) (ck + 1)) } := by
    simp [Instr.mapUpdate, run_under (u_map ht), MapKept.run_getObj_map hb, K.check, hf2, MapKept.run_setObj_map _ hb, Result.andThen]
  unfold Oper.wp execOp
  simp only [hf.eval hx, hf.eval hy, hf.eval hu, Sem.run_bind, hrun, Result.andThen_ok, Sem.run_pure]
  have hset : ∀ q : Nat, q ≠ b → ({ w with heap := w.heap.setIfInBounds b (.map (es.push { key := enc k, val := v, born := ck }) (ck + 1)) } : World).heap[q]? = w.heap[q]? := fun q hq => by
    simp [Array.getElem?_setIfInBounds_ne (Ne.symm hq)]
  refine ⟨_, _, h, hf.put_none _, hk _ S1 ⟨rfl, rfl, rfl, by simp, fun q hq hn => hset q (fun e => hn (e ▸ hS))⟩
    ⟨hS, ⟨es.push { key := enc k, val := v, born := ck }, by simp [hblt], by simp [hes], by simp [hst]⟩, ?_, fun s hs => ?_⟩ (fun q hq => ⟨by simpa using hlt q hq, .inl hq⟩)⟩
  · rw [List.nodup_append]
    exact ⟨hnd, by simp, fun s hs u hu e => by rw [List.mem_singleton] at hu; subst hu; subst e; exact absurd (hck _ hs) (Nat.lt_irrefl _)⟩
  · rcases List.mem_append.1 hs with hs | hs
    · have := hck s hs; omega
    · rw [List.mem_singleton] at hs; omega

theorem es_same {es : Array MapEntry} {kv : Value} {i : Nat} (h : ∀ (hi : i < es.size), es[i].key = kv) : (es.modify i fun e => { e with key := kv }) = es := by
  apply Array.ext
  · simp
  · intro j h1 h2
    rw [Array.getElem_modify]
    split
    · rename_i e
      subst e
      have := h h2
      cases hq : es[i] with
      | mk key val born =>
        rw [hq] at this
        simp only at this
        rw [this]
    · rfl

/-- An entry that is there, by its stamp. -/
theorem o_mapEntryOld {P : Program} {d : Nat} {t kt e : TypeId} {s1 b1 : Nat} {z1 : List Value} {x y : Operand} {v : Value} {ty : TypeId} {pos : String} {af : Array Edge} {g : Option (Nat × Bool)} {b : Nat} {k : κ} {enc : κ → Value} {l : List (κ × Value)} {st : List Nat} {ck i : Nat} {W : List Asn} (hP : E.P = P) (K : MKey P kt enc)
    (ht : tl E.T t = some ⟨.map kt e, s1, b1, z1⟩) (hx : val fr x = some (.map (some b))) (hy : val fr y = some (enc k)) (hfk : findK k l 0 = some (i, v)) (hi : l[i]? = some (k, v)) (hd : Nat.ble (d + 1) E.n = true)
    (hU : Tak (mapS enc b l st ck) U W) (hU2 : Upd (mapS enc b l st ck) (mapS enc b l st ck) U U) (h : N ((d, .tuple #[v, .int .i64 (st.getD i 0 : Nat)]) :: fr) U) :
    EV1 E ⟨some d, .mapEntry t x y, ty, pos, af, g⟩ fr U N := by
  subst hP
  intro a w hf hm
  obtain ⟨S1, ⟨hS, ⟨es, hb, hes, hst⟩, hnd, hck⟩, hlt, hk⟩ := hm.upd hU2
  have hf2 := K.find w k es.toList l hes
  rw [hfk] at hf2
  have hblt : b < w.heap.size := hlt b hS
  have hlen : es.size = l.length := by have := congrArg List.length hes; simpa using this
  have hil : i < l.length := (List.getElem?_eq_some_iff.1 hi).1
  have hi2 : i < es.size := by omega
  have hkey : es[i].key = enc k := by
    have := congrArg (fun l' => l'[i]?) hes
    simp only [List.getElem?_map] at this
    rw [List.getElem?_eq_getElem (by simpa using hi2), hi] at this
    simp at this
    exact this.1
  have hborn : es[i].born = st.getD i 0 := by
    have := congrArg (fun l' => l'[i]?) hst
    simp only [List.getElem?_map] at this
    rw [List.getElem?_eq_getElem (by simpa using hi2)] at this
    rw [List.getD_eq_getElem?_getD, ← this]; simp
  have hsame : (es.modify i fun e => { e with key := enc k }) = es := es_same (fun _ => hkey)
  have hrun : (Instr.mapEntry t (.map (some b)) (enc k)).run E.P w = .ok (.tuple #[v, .int .i64 (st.getD i 0 : Nat)]) { w with heap := w.heap.setIfInBounds b (.map es ck) } := by
    simp [Instr.mapEntry, run_under (u_map ht), MapKept.run_getObj_map hb, K.check, hf2, MapKept.run_setObj_map _ hb, Result.andThen, goInt, hi2, hkey, K.stays, hsame, hborn]
  unfold Oper.wp execOp
  simp only [hf.eval hx, hf.eval hy, Sem.run_bind, hrun, Result.andThen_ok, Sem.run_pure]
  have hset : ∀ q : Nat, q ≠ b → ({ w with heap := w.heap.setIfInBounds b (.map es ck) } : World).heap[q]? = w.heap[q]? := fun q hq => by
    simp [Array.getElem?_setIfInBounds_ne (Ne.symm hq)]
  refine ⟨_, _, h, hf.put (Nat.le_of_ble_eq_true hd) _, hk _ S1 ⟨rfl, rfl, rfl, by simp, fun q hq hn => hset q (fun e => hn (e ▸ hS))⟩
    ⟨hS, ⟨es, by simp [hblt], hes, hst⟩, hnd, hck⟩ (fun q hq => ⟨by simpa using hlt q hq, .inl hq⟩)⟩

/-- Its value, anew. -/
theorem o_entryStoreAt {t : TypeId} {x y u : Operand} {v : Value} {ty : TypeId} {pos : String} {af : Array Edge} {g : Option (Nat × Bool)} {b : Nat} {k : κ} {enc : κ → Value} {l : List (κ × Value)} {st : List Nat} {ck i : Nat} {q : Int} {v0 : Value} {U' : List Asn}
    (hx : val fr x = some (.map (some b))) (hy : val fr y = some (.int .i64 q)) (hq : q = (st.getD i 0 : Nat)) (hi : l[i]? = some (k, v0)) (hu : val fr u = some v)
    (hU : Upd (mapS enc b l st ck) (mapS enc b (l.set i (k, v)) st ck) U U') (h : N fr U') :
    EV1 E ⟨none, .entryStore t x y u, ty, pos, af, g⟩ fr U N := by
  subst hq
  intro a w hf hm
  obtain ⟨S1, ⟨hS, ⟨es, hb, hes, hst⟩, hnd, hck⟩, hlt, hk⟩ := hm.upd hU
  have hblt : b < w.heap.size := hlt b hS
  have hlen : es.size = l.length := by have := congrArg List.length hes; simpa using this
  have hil : i < l.length := (List.getElem?_eq_some_iff.1 hi).1
  have hi2 : i < es.size := by omega
  have hat : es.toList[i]? = some es[i] := by rw [List.getElem?_eq_getElem (by simpa using hi2)]; simp
  have hborn : es[i].born = st.getD i 0 := by
    have := congrArg (fun l' => l'[i]?) hst
    simp only [List.getElem?_map] at this
    rw [List.getElem?_eq_getElem (by simpa using hi2)] at this
    rw [List.getD_eq_getElem?_getD, ← this]; simp
  generalize st.getD i 0 = sg at hborn hy
  have hfind : es.findIdx? (fun e => (e.born : Int) == (sg : Int)) = some i := by
    rw [Go.WideElems.findIdx_arr, ← hborn]
    exact Go.WideElems.findIdx_born (by rw [hst]; exact hnd) hat
  have hrun : (Instr.entryStore t (.map (some b)) (.int .i64 (sg : Nat)) v).run E.P w = .ok () { w with heap := w.heap.setIfInBounds b (.map (es.modify i fun e => { e with val := v }) ck) } := by
    simp [Instr.entryStore, MapKept.run_getObj_map hb, asInt, asIntOf, hfind, MapKept.run_setObj_map _ hb, Result.andThen]
  unfold Oper.wp execOp
  simp only [hf.eval hx, hf.eval hy, hf.eval hu, Sem.run_bind, hrun, Result.andThen_ok, Sem.run_pure]
  have hset : ∀ q : Nat, q ≠ b → ({ w with heap := w.heap.setIfInBounds b (.map (es.modify i fun e => { e with val := v }) ck) } : World).heap[q]? = w.heap[q]? := fun q hq => by
    simp [Array.getElem?_setIfInBounds_ne (Ne.symm hq)]
  refine ⟨_, _, h, hf.put_none _, hk _ S1 ⟨rfl, rfl, rfl, by simp, fun q hq hn => hset q (fun e => hn (e ▸ hS))⟩
    ⟨hS, ⟨es.modify i fun e => { e with val := v }, by simp [hblt], ?_, ?_⟩, hnd, hck⟩ (fun q hq => ⟨by simpa using hlt q hq, .inl hq⟩)⟩
  · apply List.ext_getElem?
    intro j
    have hei := congrArg (fun l => l[j]?) hes
    simp only [List.getElem?_map] at hei
    simp only [List.getElem?_map, Array.toList_modify, List.getElem?_modify, List.getElem?_set]
    by_cases hij : i = j
    · subst hij
      rw [hat, hi] at hei
      rw [hat, if_pos rfl, if_pos hil]
      simp at hei ⊢
      exact hei.1
    · simp only [if_neg hij]
      simpa using hei
  · apply List.ext_getElem?
    intro j
    have hei := congrArg (fun l => l[j]?) hst
    simp only [List.getElem?_map] at hei
    simp only [List.getElem?_map, Array.toList_modify, List.getElem?_modify]
    rw [← hei]
    by_cases hij : i = j
    · subst hij
      cases es.toList[i]? <;> simp
    · simp only [if_neg hij]; simp
end maps
end Go.Proofs.Ytjeimmekhfhepaa.E

namespace Go.Proofs.Ytjeimmekhfhepaa.E
open Go
set_option linter.all false
variable {E : Env} {fr : Frm} {U : List Asn} {K : Frm → List Asn → Prop} {k : List It}

/-- The parts of a code whose end is a jump, without it. -/
def parts (l : Nat) : Code → List It
  | .seq a b => .code a :: parts l b
  | .goto _ => []
  | c => [.code c]
/-- Is its end a jump to the label? -/
def endsG (l : Nat) : Code → Bool
  | .seq _ b => endsG l b
  | .goto l' => Nat.beq l' l
  | _ => false

theorem x_parts {l id : Nat} : ∀ (c : Code), EVX E K (.exit id) (parts l c ++ k) fr U → EVX E K (.exit id) k fr U
  | .seq a b, h => x_parts b h
  | .goto _, h => h
  | .label _, h => h
  | .skip, h => h
  | .ret, h => h
  | .exit _, h => h
  | .region _ _ _, h => h
  | .block _ _, h => h
  | .loop _, h => h
  | .cond _ _ _, h => h
  | .scope _, h => h
  | .rangeFunc _ _ _ _, h => h
  | .refuse _, h => h

theorem least {p : Nat → Prop} (h : ∃ n, p n) : ∃ n, p n ∧ ∀ m, p m → n ≤ m := by
  obtain ⟨n, hn⟩ := h
  induction n using Nat.strongRecOn with
  | _ n ih =>
    by_cases h2 : ∃ m, m < n ∧ p m
    · obtain ⟨m, h3, h4⟩ := h2; exact ih m h3 h4
    · exact ⟨n, hn, fun m hm => Nat.le_of_not_lt fun h => h2 ⟨m, h, hm⟩⟩

theorem jump_parts {l : Nat} {R : Frm → List Asn → Prop} : ∀ (c : Code) {fr : Frm} {U : List Asn}, endsG l c = true → EVS E K (parts l c ++ (.back R :: k)) fr U → ∀ a w, Fr E fr a → Mem E U w →
    c.wp E.P (Exit.jump l (fun a' w' => ∃ fr' U', R fr' U' ∧ Fr E fr' a' ∧ Mem E U' w') (post E K k)) a w
  | .seq x y, fr, U, he, h, a, w, hf, hm => by
    have h : EVS E K (.code x :: (parts l y ++ (.back R :: k))) fr U := h
    refine wp_seq (wp_mono (h a w hf hm) ?_)
    rintro e a' w' ⟨fr', U', hx, hf', hm'⟩
    cases e with
    | normal => exact jump_parts y he hx a' w' hf' hm'
    | exit id => exact ⟨fr', U', x_parts (k := .back R :: k) y hx, hf', hm'⟩
    | goto l' =>
      exfalso
      revert hx
      generalize parts l y ++ (It.back R :: k) = kk
      intro hx
      cases kk with
      | nil => exact hx
      | cons z kk => cases z <;> exact hx
    | ret => exact ⟨fr', U', by rw [EVX_ret] at hx ⊢; exact hx, hf', hm'⟩
    | panic c =>
      exfalso
      revert hx
      generalize parts l y ++ (It.back R :: k) = kk
      intro hx
      cases kk with
      | nil => exact hx
      | cons z kk => cases z <;> exact hx
    | outgrown =>
      exfalso
      revert hx
      generalize parts l y ++ (It.back R :: k) = kk
      intro hx
      cases kk with
      | nil => exact hx
      | cons z kk => cases z <;> exact hx
  | .goto l', fr, U, he, h, a, w, hf, hm => wp_goto ⟨Nat.eq_of_beq_eq_true he, fr, U, h, hf, hm⟩

/-- A scope in which the run jumps back to one label: what holds there, and what each pass lowers. -/
theorem s_scopeJ {ι : Type} {c rest : Code} {l : Nat} (frX : ι → Frm) (UX : ι → List Asn) (rank : ι → Nat) (hf : findLabel c l = some rest) (he : endsG l rest = true) (hc : endsG l c = true)
    (first : EVS E K (parts l c ++ (.back (fun fr' U' => ∃ j, Sub fr' (frX j) ∧ Ent U' (UX j)) :: k)) fr U)
    (pass : ∀ i, EVS E K (parts l rest ++ (.back (fun fr' U' => ∃ j, rank j < rank i ∧ Sub fr' (frX j) ∧ Ent U' (UX j)) :: k)) (frX i) (UX i)) : EVS E K (.code (.scope c) :: k) fr U := by
  classical
  intro a w hfr hm
  let Jj : ι → Act → World → Prop := fun j a w => Fr E (frX j) a ∧ Mem E (UX j) w
  let μ : Act → World → Nat := fun a w => if h : ∃ n, ∃ j, rank j = n ∧ Jj j a w then Classical.choose (least h) else 0
  have hle : ∀ j a w, Jj j a w → μ a w ≤ rank j := fun j a w hj => by
    have h : ∃ n, ∃ j, rank j = n ∧ Jj j a w := ⟨_, j, rfl, hj⟩
    have e : μ a w = Classical.choose (least h) := dif_pos h
    rw [e]
    exact (Classical.choose_spec (least h)).2 _ ⟨j, rfl, hj⟩
  have hmin : ∀ a w, (∃ j, Jj j a w) → ∃ j, rank j = μ a w ∧ Jj j a w := fun a w ⟨j, hj⟩ => by
    have h : ∃ n, ∃ j, rank j = n ∧ Jj j a w := ⟨_, j, rfl, hj⟩
    have e : μ a w = Classical.choose (least h) := dif_pos h
    rw [e]
    exact (Classical.choose_spec (least h)).1
  refine wp_scope_jumps l (fun a w => ∃ j, Jj j a w) μ hf ?_ ?_
  · refine wp_mono (jump_parts c hc first a w hfr hm) ?_
    intro e a' w' h
    cases e with
    | goto l' =>
      obtain ⟨h1, fr', U', ⟨j, h2, h3⟩, h4, h5⟩ := h
      exact ⟨h1, j, h4.sub h2, h5.ent h3⟩
    | normal => exact h
    | exit id => exact h
    | ret => exact h
    | panic c => exact h
    | outgrown => exact h
  · intro a w hj
    obtain ⟨i, hi, hfi, hmi⟩ := hmin a w hj
    refine wp_mono (jump_parts rest he (pass i) a w hfi hmi) ?_
    intro e a' w' h
    cases e with
    | goto l' =>
      obtain ⟨h1, fr', U', ⟨j, h0, h2, h3⟩, h4, h5⟩ := h
      have hjj : Jj j a' w' := ⟨h4.sub h2, h5.ent h3⟩
      exact ⟨h1, ⟨j, hjj⟩, by have := hle j a' w' hjj; omega⟩
    | normal => exact h
    | exit id => exact h
    | ret => exact h
    | panic c => exact h
    | outgrown => exact h

theorem back_mono {R R' : Frm → List Asn → Prop} (hR : ∀ fr U, R fr U → R' fr U) : ∀ (L : List It) (e : Exit) (fr : Frm) (U : List Asn), EVX E K e (L ++ (.back R :: k)) fr U → EVX E K e (L ++ (.back R' :: k)) fr U
  | [], e, fr, U, h => by
    cases e with
    | normal => exact hR fr U h
    | exit id => exact h
    | goto l => exact h
    | ret => exact h
    | panic c => exact h
    | outgrown => exact h
  | x :: L, e, fr, U, h => by
    have ih := back_mono hR L
    cases x with
    | code c =>
      cases e with
      | normal => exact fun a w hf hm => wp_mono (h a w hf hm) (fun e' a' w' ⟨fr', U', h1, h2, h3⟩ => ⟨fr', U', ih e' fr' U' h1, h2, h3⟩)
      | exit id => exact ih (.exit id) fr U h
      | goto l => exact h
      | ret => exact h
      | panic c => exact h
      | outgrown => exact h
    | blk id =>
      cases e with
      | normal => exact ih .normal fr U h
      | exit id' =>
        simp only [List.cons_append, EVX] at h ⊢
        cases hb : Nat.beq id' id with
        | true => rw [hb] at h; exact ih .normal fr U h
        | false => rw [hb] at h; exact ih (.exit id') fr U h
      | goto l => exact h
      | ret => exact h
      | panic c => exact h
      | outgrown => exact h
    | back R0 =>
      cases e with
      | normal => exact h
      | exit id => exact ih (.exit id) fr U h
      | goto l => exact h
      | ret => exact h
      | panic c => exact h
      | outgrown => exact h

/-- A scope that begins with some code, then the label: the code behind the label is walked once. -/
theorem s_scopeL {ι : Type} {pre body : Code} {l : Nat} (frX : ι → Frm) (UX : ι → List Asn) (rank : ι → Nat) (hf : findLabel (.seq pre (.seq (.label l) body)) l = some (.seq .skip body)) (he : endsG l body = true)
    (first : EVS E K [.code pre, .back (fun fr' U' => ∃ j, Sub fr' (frX j) ∧ Ent U' (UX j))] fr U)
    (pass : ∀ i, EVS E K (parts l body ++ (.back (fun fr' U' => ∃ j, rank j < rank i ∧ Sub fr' (frX j) ∧ Ent U' (UX j)) :: k)) (frX i) (UX i)) : EVS E K (.code (.scope (.seq pre (.seq (.label l) body))) :: k) fr U := by
  refine s_scopeJ frX UX rank hf he he ?_ (fun i => s_skip (pass i))
  intro a w hfr hm
  refine wp_mono (first a w hfr hm) ?_
  rintro e a' w' ⟨fr', U', hx, hf', hm'⟩
  cases e with
  | normal =>
    obtain ⟨j, h1, h2⟩ := hx
    have h3 := back_mono (k := k) (R' := fun fr' U' => ∃ j, Sub fr' (frX j) ∧ Ent U' (UX j)) (fun fr U ⟨j, _, h4, h5⟩ => ⟨j, h4, h5⟩) (parts l body) .normal _ _ (pass j)
    exact ⟨frX j, UX j, s_label h3, hf'.sub h1, hm'.ent h2⟩
  | exit id => exact hx.elim
  | goto l => exact hx.elim
  | ret => exact ⟨fr', U', by rw [EVX_ret] at hx ⊢; exact hx, hf', hm'⟩
  | panic c => exact hx.elim
  | outgrown => exact hx.elim
end Go.Proofs.Ytjeimmekhfhepaa.E

namespace Go.Proofs.Ytjeimmekhfhepaa.E
set_option linter.all false
open Go
variable {E : Env} {K : Frm → List Asn → Prop} {fr : Frm} {U : List Asn} {k : List It}

/-- A slice that is one's own, somewhere within what is owned: where it is not nil it begins at a block. -/
theorem e_openB {ops : Array Oper} {l : List Oper} {e : TypeId} {sz n c m : Nat} {A : Option Addr} {xs : List Value} {W : List Asn}
    (he : Ent U (osl e sz (.slice A n c) m xs :: W)) (hm : 0 < m) (h : ∀ b, A = some ⟨b, 0, none⟩ → EVO E K k ops l fr U) : EVO E K k ops l fr U := by
  intro a w hf hme
  obtain ⟨S1, hP, _⟩ := (hme.ent he).tak .z
  obtain ⟨b, hb⟩ := osl_form hP hm
  exact h b hb a w hf hme
theorem s_openB {cd : Code} {e : TypeId} {sz n c m : Nat} {A : Option Addr} {xs : List Value} {W : List Asn}
    (he : Ent U (osl e sz (.slice A n c) m xs :: W)) (h : (0 < m → ∃ b, A = some ⟨b, 0, none⟩) → EVS E K (.code cd :: k) fr U) : EVS E K (.code cd :: k) fr U := by
  intro a w hf hme
  obtain ⟨S1, hP, _⟩ := (hme.ent he).tak .z
  exact h (fun hm => osl_form hP hm) a w hf hme

theorem e_cap {ops : Array Oper} {l : List Oper} {e : TypeId} {sz n c m : Nat} {A : Option Addr} {xs : List Value} {U' : List Asn}
    (ht : Tak (osl e sz (.slice A n c) m xs) U U') (h : m ≤ c → EVO E K k ops l fr U) : EVO E K k ops l fr U := by
  intro a w hf hme
  obtain ⟨S1, hP, _⟩ := hme.tak ht
  refine h ?_ a w hf hme
  rcases hP.1.2 with ⟨_, hn⟩ | ⟨g', cap, cur, hv, _, _, hnc, _⟩
  · omega
  · simp only [Value.slice.injEq] at hv; omega

theorem n_quo {x y : Operand} {t t2 : TypeId} {k : IntKind} {a b : Int} (hx : val fr x = some (.int k a)) (hy : val fr y = some (.int k b)) (hb : b ≠ 0) : NEV E (.binOp .quo t x y t2) fr U (.int k (k.wrap (a.tdiv b))) := by
  intro ac w dst ty pos af g hf _
  simp [execOp, hf.eval hx, hf.eval hy, eqGuard, binOp, Op.intDiv, hb]

end Go.Proofs.Ytjeimmekhfhepaa.E

namespace Go.Proofs.Ytjeimmekhfhepaa
set_option linter.all false
open Go.Proofs.Ytjeimmekhfhepaa.E

def sl (b n : Nat) : Value := .slice (some ⟨b, 0, none⟩) n n
def pv (l : Int) (s : Value) : Value := .agg #[.int .i64 l, s, .int .i64 0, .int .i64 0]
def ints (b : Nat) (l : List Int) : Asn := osl 3 1 (sl b l.length) l.length (l.map (Value.int .i64))
def strs (b : Nat) (l : List ByteArray) : Asn := osl 9 1 (sl b l.length) l.length (l.map Value.string)
theorem flat_one {α β : Type} (f : α → β) : ∀ l : List α, (l.map fun x => [f x]).flatten = l.map f
  | [] => rfl
  | x :: l => by simp [flat_one f l]

theorem sl_strs {b : Nat} {l : List ByteArray} {w : World} {S1 S : BSet} (h : (strs b l).P w S1) (hS : ∀ b, S1 b → S b) (hl : l.length * 16 ≤ 140737488355328) : Sl 16 kstr w S (some ⟨b, 0, none⟩) l.length l :=
  ⟨Nat.le_refl _, hl, els_mono hS (osl_els (k := kstr) Value.string rfl (fun _ _ _ => rfl) h).1⟩

theorem els_nil {α : Type} {bytes : Nat} {k : Kd α} {w : World} {S : BSet} : Sl bytes k w S none 0 ([] : List α) := ⟨Nat.le_refl _, by simp, fun i hi => by simp at hi⟩

theorem can_to {R : Rd} {A : Asn} (P : Program) (h : ∀ E : Go.Proofs.Ytjeimmekhfhepaa.E.Env, Go.Proofs.Ytjeimmekhfhepaa.E.Can E [A] R) {w : World} {S : BSet} (hA : A.P w S) : R.P w S :=
  R.mono w _ _ (fun b hb => hb.elim (fun h => absurd trivial h.2) id) (h ⟨P, [], (fun _ h => nomatch h), 0, w, fun _ => True⟩ w S (fun _ _ => rfl) ⟨S, fun _ => False, hA, trivial, fun _ _ h => h, fun _ h => h, fun _ h => h.elim⟩)

theorem Can.byEnt {E0 : Go.Proofs.Ytjeimmekhfhepaa.E.Env} {U V : List Asn} {R : Rd} (h : Go.Proofs.Ytjeimmekhfhepaa.E.Can E0 V R) (he : Ent U V) : Go.Proofs.Ytjeimmekhfhepaa.E.Can E0 U R := fun w S ha hs => h w S ha (he w S hs)

def encZ (x : Lev) : List Value := [.int .i64 x.N, .int .i64 x.Kind]

/-- The cells of productions whose right sides lie apart. -/
def prRow (ac : Option Addr × Nat) (p : Prd) : List Value := [.int .i64 p.Left, .slice ac.1 p.Right.length ac.2, .int .i64 p.L.N, .int .i64 p.L.Kind]
def prC (acs : List (Option Addr × Nat)) (ps : List Prd) : List Value := (List.zipWith prRow acs ps).flatten

theorem prC_snoc {acs : List (Option Addr × Nat)} {ps : List Prd} (hl : acs.length = ps.length) {ac : Option Addr × Nat} {p : Prd} : prC acs ps ++ prRow ac p = prC (acs ++ [ac]) (ps ++ [p]) := by
  unfold prC
  rw [List.zipWith_append hl]
  simp

abbrev prB (acs : List (Option Addr × Nat)) (ps : List Prd) : Asn := bun (rowX (fun l : List Int => l.map (Value.int .i64)) 1 3 acs (ps.map (·.Right)))
abbrev levZ (b : Nat) (l : List Lev) : Asn := osl 42 2 (sl b l.length) l.length (l.flatMap encZ)
abbrev prS (A : Option Addr) (c : Nat) (acs : List (Option Addr × Nat)) (ps : List Prd) : Asn := osl 44 4 (.slice A ps.length c) ps.length (prC acs ps)

/-- Numbers and lengths that fit. -/
structure PrOk (ps : List Prd) : Prop where
  n : ps.length ≤ 1000
  r : ∀ p ∈ ps, p.Right.length ≤ 1000 ∧ (∀ x ∈ p.Right, I64 x) ∧ I64 p.Left ∧ I64 p.L.N ∧ I64 p.L.Kind

theorem gram_rdP {g : Gram} {b0 b1 b2 : Nat} {A : Option Addr} {c : Nat} {acs : List (Option Addr × Nat)} {ps : List Prd} (hl : acs.length = ps.length) (m : Nat) (hm : m ≤ ps.length) (hg : g.Prods = ps.take m) (hP : g.Pats = [])
    (nT : g.Terms.length ≤ 1000) (nL : g.Levels.length ≤ 1000) (nN : g.Nons.length ≤ 1000) (hO : PrOk ps) (hlv : ∀ x ∈ g.Levels, x = ⟨0, 0⟩) {w : World} {S : BSet}
    (h : star [strs b0 g.Terms, levZ b1 g.Levels, strs b2 g.Nons, prS A c acs ps, prB acs ps] w S) :
    kGram.R w S [sl b0 g.Terms.length, sl b1 g.Levels.length, .slice none 0 0, sl b2 g.Nons.length, .slice A m c] g := by
  obtain ⟨_, h0, i0⟩ := star_mem (i := 0) rfl h
  obtain ⟨_, h1, i1⟩ := star_mem (i := 1) rfl h
  obtain ⟨_, h2, i2⟩ := star_mem (i := 2) rfl h
  obtain ⟨_, h3, i3⟩ := star_mem (i := 3) rfl h
  obtain ⟨_, h4, i4⟩ := star_mem (i := 4) rfl h
  have hml : g.Prods.length = m := by rw [hg, List.length_take]; omega
  have hpn := hO.n
  have z : I64 0 := by unfold I64; omega
  have hrow : Els kPrd w S A ps ∧ ps.length ≤ c := by
    refine osl_elsG (kd := kPrd) (ess := List.zipWith prRow acs ps) h3 i3 (by simp [hl]) rfl (fun i g1 g2 => ?_)
    rw [List.getElem_zipWith]
    have hi : i < (ps.map (·.Right)).length := by rw [List.length_map]; exact g2
    have hl2 : acs.length = (ps.map (·.Right)).length := by rw [List.length_map]; exact hl
    obtain ⟨S3, h5, i5⟩ := star_mem (rowX_get (f := fun l : List Int => l.map (Value.int .i64)) (sz := 1) (ei := 3) hl2 hi) h4
    obtain ⟨r1, r2, r3, r4, r5⟩ := hO.r _ (List.getElem_mem g2)
    have hri : (ps.map (·.Right))[i] = ps[i].Right := List.getElem_map _
    rw [hri] at h5
    obtain ⟨A', c', e, k1, k2, k3⟩ := can_to (R := (kslice 8 kint).rd _ _) Try.prog (fun E => can_ints .z r2 (by omega)) h5
    simp only [List.cons.injEq, Value.slice.injEq, and_true] at e
    refine kPrd_mk r3 r4 r5 ⟨?_, k2, els_mono (fun b hb => i4 b (i5 b hb)) ?_⟩
    · rw [e.2.2]; exact k1
    · rw [e.1]; exact k3
  have e4 : Sl 48 kPrd w S A c g.Prods := by
    refine ⟨by omega, by omega, fun i hi => ?_⟩
    have hi2 : i < ps.length := by omega
    have := hrow.1 i hi2
    have e : g.Prods[i] = ps[i] := by
      have : ∀ (l : List Prd) (hi : i < l.length), l = ps.take m → l[i] = ps[i] := fun l hi e => by subst e; rw [List.getElem_take]
      exact this _ hi hg
    rw [e]
    exact this
  have hr := kGram_mk (g := g) (A0 := some ⟨b0, 0, none⟩) (A1 := some ⟨b1, 0, none⟩) (A2 := none) (A3 := some ⟨b2, 0, none⟩) (A4 := A) (c0 := g.Terms.length) (c1 := g.Levels.length) (c2 := 0) (c3 := g.Nons.length) (c4 := c)
    ⟨sl_strs h0 i0 (by omega), ?_, by rw [hP]; exact els_nil, sl_strs h2 i2 (by omega), e4⟩
  · rw [hml, hP] at hr; exact hr
  · refine ⟨Nat.le_refl _, by omega, ?_⟩
    unfold levZ at h1
    rw [List.flatMap_def] at h1
    refine (osl_elsG (kd := kLev) (ess := g.Levels.map encZ) h1 i1 (by simp) rfl (fun i g1 g2 => ?_)).1
    rw [List.getElem_map, hlv _ (List.getElem_mem g2)]
    exact ⟨[.int .i64 0], [.int .i64 0], rfl, ⟨rfl, z⟩, ⟨rfl, z⟩⟩

theorem can_gramP {E0 : Go.Proofs.Ytjeimmekhfhepaa.E.Env} {U V : List Asn} {g : Gram} {b0 b1 b2 : Nat} {A : Option Addr} {c : Nat} {acs : List (Option Addr × Nat)} {ps : List Prd} (hl : acs.length = ps.length) (m : Nat) (hm : m ≤ ps.length) (hg : g.Prods = ps.take m) (hP : g.Pats = [])
    (nT : g.Terms.length ≤ 1000) (nL : g.Levels.length ≤ 1000) (nN : g.Nons.length ≤ 1000) (hO : PrOk ps) (hlv : ∀ x ∈ g.Levels, x = ⟨0, 0⟩)
    (he : Ent V ([strs b0 g.Terms, levZ b1 g.Levels, strs b2 g.Nons, prS A c acs ps, prB acs ps] ++ U)) : Go.Proofs.Ytjeimmekhfhepaa.E.Can E0 V (kGram.rd [sl b0 g.Terms.length, sl b1 g.Levels.length, .slice none 0 0, sl b2 g.Nons.length, .slice A m c] g) :=
  Can.of fun w S hs => by
    obtain ⟨S1, S2, h1, _, _, i1, _⟩ := star_split (he w S hs)
    exact kGram.mono i1 (gram_rdP hl m hm hg hP nT nL nN hO hlv h1)

theorem prOk_of {ps : List Prd} (hn : ps.length ≤ 1000) (h : (ps.all fun p => decide (p.Right.length ≤ 1000) && (p.Right.all fun x => decide (-9223372036854775808 ≤ x) && decide (x ≤ 9223372036854775807)) && decide (-9223372036854775808 ≤ p.Left) && decide (p.Left ≤ 9223372036854775807) && decide (p.L.N = 0) && decide (p.L.Kind = 0)) = true) : PrOk ps := ⟨hn, by
  intro p hp
  have h := List.all_eq_true.1 h p hp
  simp only [Bool.and_eq_true, decide_eq_true_eq, List.all_eq_true] at h
  obtain ⟨⟨⟨⟨⟨h1, h2⟩, h3⟩, h4⟩, h5⟩, h6⟩ := h
  exact ⟨h1, fun x hx => h2 x hx, ⟨h3, h4⟩, by rw [h5]; exact ⟨by decide, by decide⟩, by rw [h6]; exact ⟨by decide, by decide⟩⟩⟩

end Go.Proofs.Ytjeimmekhfhepaa

namespace Go.Proofs.Ytjeimmekhfhepaa
set_option linter.all false
open Go.Proofs.Ytjeimmekhfhepaa.E

def bringN (x m : Int) : Int := if m ≤ 0 then 0 else if x.tmod m < 0 then x.tmod m + m else x.tmod m

theorem tmod_gt (x : Int) {m : Int} (h : 0 < m) : -m < x.tmod m := by
  have h2 : (-x).tmod m = -(x.tmod m) := Int.neg_tmod x m
  have h3 := Int.tmod_lt_of_pos (-x) h
  omega

theorem bringN_rng {x m : Int} (h : 0 < m) : 0 ≤ bringN x m ∧ bringN x m < m := by
  unfold bringN
  rw [if_neg (by omega)]
  have h1 := Int.tmod_lt_of_pos x h
  by_cases hx : 0 ≤ x
  · have h2 := Int.tmod_nonneg m hx
    rw [if_neg (by omega)]; omega
  · have h2 : (-x).tmod m = -(x.tmod m) := Int.neg_tmod x m
    have h3 := Int.tmod_lt_of_pos (-x) h
    have h4 := Int.tmod_nonneg m (show 0 ≤ -x by omega)
    split <;> omega

attribute [local irreducible] EVX EVO EVL EV1 NEV
attribute [local irreducible] own osl exA rdA rdL
attribute [local irreducible] bldA mapA bun mapS
set_option maxRecDepth 10000
set_option maxHeartbeats 4000000

theorem bring_w (x m : Int) (hx : I64 x) (hm : I64 m) (hm0 : 0 < m) : Trip Try.prog 9 [.int .i64 x, .int .i64 m] Rd.tt [] (fun v V => v = .int .i64 (bringN x m) ∧ V = []) := by
  refine trip Try.tabOk Try.func9 rfl rfl rfl rfl ?_
  rintro w SM hW
  clear hW
  have hb : bringN x m = if x.tmod m < 0 then x.tmod m + m else x.tmod m := by unfold bringN; rw [if_neg (by omega)]
  have h1 := Int.tmod_lt_of_pos x hm0
  have h1' := tmod_gt x hm0
  unfold I64 at hm
  repeat' (first | refine e_nil ?_ | ((refine e_op ?_); (refine o_n (peval_sound rfl) rfl ?_)) | refine s_seq ?_ | refine s_region ?_)
  rw [decide_eq_false (p := m ≤ 0) (by omega)]
  repeat' (first | ((refine e_op ?_); (refine o_n (peval_sound rfl) rfl ?_)) | refine s_seq ?_ | refine s_region ?_ | refine s_skip ?_ | refine s_false rfl ?_)
  refine e_op (o_n (n_rem rfl rfl (by omega)) rfl ?_)
  repeat' (first | refine e_nil ?_ | ((refine e_op ?_); (refine o_n (peval_sound rfl) rfl ?_)) | refine s_seq ?_ | refine s_region ?_)
  refine s_cond rfl (fun h => ?_) (fun h => ?_)
  · have h2 := of_decide_eq_true h
    have hw : IntKind.i64.wrap (x.tmod m + m) = x.tmod m + m := by rw [wrap_i64] <;> omega
    repeat' (first | refine e_nil ?_ | ((refine e_op ?_); (refine o_n (peval_sound rfl) rfl ?_)) | refine s_seq ?_ | refine s_region ?_)
    rw [hw]
    refine s_ret ⟨_, _, res1 rfl rfl, ⟨?_, rfl⟩, Ent.nil _⟩
    rw [hb, if_pos h2]
  · have h2 := of_decide_eq_false h
    repeat' (first | refine e_nil ?_ | ((refine e_op ?_); (refine o_n (peval_sound rfl) rfl ?_)) | refine s_seq ?_ | refine s_region ?_ | refine s_skip ?_)
    refine s_ret ⟨_, _, res1 rfl rfl, ⟨?_, rfl⟩, Ent.nil _⟩
    rw [hb, if_neg h2]

end Go.Proofs.Ytjeimmekhfhepaa

namespace Go.Proofs.Ytjeimmekhfhepaa
set_option linter.all false

structure Itm where
  Prod : Int
  Dot : Int
deriving DecidableEq

def ltI (a b : Itm) : Bool := decide (a.Prod < b.Prod) || (decide (a.Prod = b.Prod) && decide (a.Dot < b.Dot))

theorem ltI_iff {a b : Itm} : ltI a b = true ↔ a.Prod < b.Prod ∨ (a.Prod = b.Prod ∧ a.Dot < b.Dot) := by
  unfold ltI; simp only [Bool.or_eq_true, Bool.and_eq_true, decide_eq_true_eq]
theorem ltI_irr (a : Itm) : ltI a a = false := by
  cases h : ltI a a with
  | false => rfl
  | true => rw [ltI_iff] at h; omega
theorem ltI_trans {a b c : Itm} (h : ltI a b = true) (h2 : ltI b c = true) : ltI a c = true := by
  rw [ltI_iff] at *; omega
theorem ltI_asym {a b : Itm} (h : ltI a b = true) : ltI b a = false := by
  cases h2 : ltI b a with
  | false => rfl
  | true => rw [ltI_iff] at *; omega
theorem ltI_tri {a b : Itm} (h : ltI a b = false) (hne : a ≠ b) : ltI b a = true := by
  have h1 : ¬ (a.Prod < b.Prod ∨ (a.Prod = b.Prod ∧ a.Dot < b.Dot)) := fun h2 => by rw [← ltI_iff, h] at h2; cases h2
  rw [ltI_iff]
  have : ¬ (a.Prod = b.Prod ∧ a.Dot = b.Dot) := fun h3 => hne (by cases a; cases b; simp only at h3; rw [h3.1, h3.2])
  omega

def SortI (l : List Itm) : Prop := l.Pairwise fun a b => ltI a b = true

theorem SortI.ext : ∀ {a b : List Itm}, SortI a → SortI b → (∀ x, x ∈ a ↔ x ∈ b) → a = b
  | [], [], _, _, _ => rfl
  | [], y :: b, _, _, h => absurd ((h y).2 List.mem_cons_self) (by simp)
  | x :: a, [], _, _, h => absurd ((h x).1 List.mem_cons_self) (by simp)
  | x :: a, y :: b, ha, hb, h => by
    obtain ⟨ha1, ha2⟩ := List.pairwise_cons.1 ha
    obtain ⟨hb1, hb2⟩ := List.pairwise_cons.1 hb
    have hxy : x = y := by
      refine Classical.byContradiction (fun hne => ?_)
      have h1 := (List.mem_cons.1 ((h x).1 List.mem_cons_self)).resolve_left hne
      have h2 := (List.mem_cons.1 ((h y).2 List.mem_cons_self)).resolve_left (fun e => hne e.symm)
      have h3 := hb1 x h1
      have h4 := ha1 y h2
      rw [ltI_asym h3] at h4; cases h4
    subst hxy
    have : a = b := SortI.ext ha2 hb2 (fun z => by
      have hz := h z
      refine ⟨fun hm => ?_, fun hm => ?_⟩
      · rcases List.mem_cons.1 (hz.1 (List.mem_cons_of_mem _ hm)) with e | e
        · subst e; have := ha1 z hm; rw [ltI_irr] at this; cases this
        · exact e
      · rcases List.mem_cons.1 (hz.2 (List.mem_cons_of_mem _ hm)) with e | e
        · subst e; have := hb1 z hm; rw [ltI_irr] at this; cases this
        · exact e)
    rw [this]

/-- Items in order, and one more. -/
def withI : List Itm → Itm → List Itm
  | [], x => [x]
  | y :: l, x => if ltI y x then y :: withI l x else if y = x then y :: l else x :: y :: l

theorem withI_mem : ∀ {l : List Itm} {x y : Itm}, y ∈ withI l x ↔ y ∈ l ∨ y = x
  | [], x, y => by simp [withI]
  | z :: l, x, y => by
    unfold withI
    split
    · rw [List.mem_cons, withI_mem, List.mem_cons]
      exact ⟨fun h => h.elim (fun h => .inl (.inl h)) (fun h => h.elim (fun h => .inl (.inr h)) .inr), fun h => h.elim (fun h => h.elim .inl (fun h => .inr (.inl h))) (fun h => .inr (.inr h))⟩
    · split
      · rename_i e; subst e
        refine ⟨.inl, fun h => h.elim id (fun h => by subst h; exact List.mem_cons_self)⟩
      · rw [List.mem_cons]
        exact ⟨fun h => h.symm, fun h => h.symm⟩

theorem withI_sort : ∀ {l : List Itm} {x : Itm}, SortI l → SortI (withI l x)
  | [], x, _ => List.pairwise_singleton _ _
  | z :: l, x, h => by
    obtain ⟨h1, h2⟩ := List.pairwise_cons.1 h
    unfold withI
    split
    · rename_i hz
      refine List.pairwise_cons.2 ⟨fun y hy => ?_, withI_sort h2⟩
      rcases withI_mem.1 hy with hy | rfl
      · exact h1 y hy
      · exact hz
    · rename_i hz
      split
      · exact h
      · rename_i hne
        have hx := ltI_tri (by simpa using hz) hne
        refine List.pairwise_cons.2 ⟨fun y hy => ?_, h⟩
        rcases List.mem_cons.1 hy with rfl | hy
        · exact hx
        · exact ltI_trans hx (h1 y hy)

/-- The place at which an item stands, or would. -/
theorem withI_at : ∀ {l : List Itm} {x : Itm} {n : Nat}, n ≤ l.length → (∀ i (h : i < l.length), i < n → ltI l[i] x = true) → (∀ h : n < l.length, ltI l[n] x = false) →
    withI l x = if l[n]? = some x then l else l.take n ++ x :: l.drop n
  | [], x, n, hn, _, _ => by
    have : n = 0 := by simpa using hn
    subst this; rfl
  | y :: l, x, 0, _, _, h2 => by
    have h3 := h2 (by simp)
    rw [List.getElem_cons_zero] at h3
    unfold withI
    rw [if_neg (by rw [h3]; simp)]
    by_cases e : y = x
    · rw [if_pos e, if_pos (by simp [e])]
    · rw [if_neg e, if_neg (by simpa using e)]; rfl
  | y :: l, x, n + 1, hn, h1, h2 => by
    have h3 := h1 0 (by simp) (by omega)
    rw [List.getElem_cons_zero] at h3
    unfold withI
    rw [if_pos h3, withI_at (n := n) (by simpa using hn) (fun i h hi => by have := h1 (i + 1) (by simpa using h) (by omega); rwa [List.getElem_cons_succ] at this)
      (fun h => by have := h2 (by simpa using h); rwa [List.getElem_cons_succ] at this)]
    rw [List.getElem?_cons_succ]
    split
    · rfl
    · rfl

def sortI (l : List Itm) : List Itm := l.foldl withI []

theorem foldl_withI : ∀ (l acc : List Itm), SortI acc → SortI (l.foldl withI acc) ∧ ∀ x, x ∈ l.foldl withI acc ↔ x ∈ acc ∨ x ∈ l
  | [], acc, h => ⟨h, fun x => by simp⟩
  | y :: l, acc, h => by
    obtain ⟨h1, h2⟩ := foldl_withI l (withI acc y) (withI_sort h)
    refine ⟨h1, fun x => ?_⟩
    rw [List.foldl_cons, h2 x, withI_mem, List.mem_cons]
    exact ⟨fun h => h.elim (fun h => h.elim .inl (fun h => .inr (.inl h))) (fun h => .inr (.inr h)), fun h => h.elim (fun h => .inl (.inl h)) (fun h => h.elim (fun h => .inl (.inr h)) .inr)⟩

theorem sortI_sort (l : List Itm) : SortI (sortI l) := (foldl_withI l [] List.Pairwise.nil).1
theorem sortI_mem (l : List Itm) (x : Itm) : x ∈ sortI l ↔ x ∈ l := by
  unfold sortI; rw [(foldl_withI l [] List.Pairwise.nil).2 x]; simp
theorem sortI_self {l : List Itm} (h : SortI l) : sortI l = l := SortI.ext (sortI_sort l) h (sortI_mem l)

/-! ### of a grammar -/
def prd (g : Gram) (k : Int) : Prd := g.Prods.getD k.toNat ⟨0, [], ⟨0, 0⟩⟩
def beh (g : Gram) (x : Itm) : Int := if x.Dot < (prd g x.Prod).Right.length then (prd g x.Prod).Right.getD x.Dot.toNat 0 else -1
def inG (g : Gram) (x : Itm) : Bool := decide (0 ≤ x.Prod) && (decide (x.Prod < g.Prods.length) && (decide (0 ≤ x.Dot) && decide (x.Dot ≤ (prd g x.Prod).Right.length)))

inductive Cl (g : Gram) (l : List Itm) : Itm → Prop
  | base {x : Itm} : x ∈ l → Cl g l x
  | step {x : Itm} {k : Nat} : Cl g l x → k < g.Prods.length → beh g x = g.Terms.length + (prd g k).Left → Cl g l ⟨k, 0⟩

theorem Cl.sub {g : Gram} {l m : List Itm} (h : ∀ x ∈ l, Cl g m x) {x : Itm} (hx : Cl g l x) : Cl g m x := by
  induction hx with
  | base h2 => exact h _ h2
  | step _ hk hb ih => exact .step ih hk hb

theorem Cl.mono {g : Gram} {l m : List Itm} (h : ∀ x ∈ l, x ∈ m) {x : Itm} (hx : Cl g l x) : Cl g m x := hx.sub fun y hy => .base (h y hy)

theorem Cl.inG {g : Gram} {l : List Itm} (h : ∀ x ∈ l, Go.Proofs.Ytjeimmekhfhepaa.inG g x = true) {x : Itm} (hx : Cl g l x) : Go.Proofs.Ytjeimmekhfhepaa.inG g x = true := by
  cases hx with
  | base h2 => exact h _ h2
  | step _ hk hb =>
    unfold Go.Proofs.Ytjeimmekhfhepaa.inG
    simp only [Bool.and_eq_true, decide_eq_true_eq]
    exact ⟨by omega, by omega, by omega, by omega⟩

/-- All productions of a name. -/
def addN (g : Gram) (s : Int) (out : List Itm) (m : Nat) : List Itm := (List.range m).foldl (fun out (k : Nat) => if (prd g k).Left = s then withI out ⟨k, 0⟩ else out) out

theorem addN_zero (g : Gram) (s : Int) (out : List Itm) : addN g s out 0 = out := rfl
theorem addN_succ (g : Gram) (s : Int) (out : List Itm) (m : Nat) : addN g s out (m + 1) = if (prd g m).Left = s then withI (addN g s out m) ⟨m, 0⟩ else addN g s out m := by
  unfold addN; rw [List.range_succ, List.foldl_append]; rfl

theorem addN_spec (g : Gram) (s : Int) {out : List Itm} (h : SortI out) : ∀ m, SortI (addN g s out m) ∧ ∀ x, x ∈ addN g s out m ↔ x ∈ out ∨ ∃ k : Nat, k < m ∧ (prd g k).Left = s ∧ x = ⟨k, 0⟩
  | 0 => ⟨h, fun x => by rw [addN_zero]; exact ⟨.inl, fun h => h.elim id (fun ⟨k, hk, _⟩ => absurd hk (Nat.not_lt_zero _))⟩⟩
  | m + 1 => by
    obtain ⟨h1, h2⟩ := addN_spec g s h m
    rw [addN_succ]
    by_cases e : (prd g m).Left = s
    · rw [if_pos e]
      refine ⟨withI_sort h1, fun x => ?_⟩
      rw [withI_mem, h2 x]
      refine ⟨fun h => ?_, fun h => ?_⟩
      · rcases h with (h | ⟨k, hk, a, b⟩) | h
        · exact .inl h
        · exact .inr ⟨k, by omega, a, b⟩
        · exact .inr ⟨m, by omega, e, h⟩
      · rcases h with h | ⟨k, hk, a, b⟩
        · exact .inl (.inl h)
        · by_cases ek : k = m
          · subst ek; exact .inr b
          · exact .inl (.inr ⟨k, by omega, a, b⟩)
    · rw [if_neg e]
      refine ⟨h1, fun x => ?_⟩
      rw [h2 x]
      refine ⟨fun h => h.elim .inl (fun ⟨k, hk, a, b⟩ => .inr ⟨k, by omega, a, b⟩), fun h => ?_⟩
      rcases h with h | ⟨k, hk, a, b⟩
      · exact .inl h
      · by_cases ek : k = m
        · subst ek; exact absurd a e
        · exact .inr ⟨k, by omega, a, b⟩

/-- Is there a name to do behind an item? -/
def openI (g : Gram) (done : List Bool) (x : Itm) : Bool := decide ((g.Terms.length : Int) ≤ beh g x) && !(done.getD (beh g x - g.Terms.length).toNat false)

def clF (g : Gram) : Nat → List Itm → List Bool → List Itm
  | 0, out, _ => out
  | f + 1, out, done => match out.find? (openI g done) with
    | none => out
    | some x => clF g f (addN g (beh g x - g.Terms.length) out g.Prods.length) (done.set (beh g x - g.Terms.length).toNat true)

def closedP (g : Gram) (l : List Itm) : List Itm := clF g (g.Nons.length + 1) (sortI l) (List.replicate g.Nons.length false)

/-- What holds on the way. -/
structure ClI (g : Gram) (l out : List Itm) (done : List Bool) : Prop where
  sort : SortI out
  has : ∀ x ∈ l, x ∈ out
  cl : ∀ x ∈ out, Cl g l x
  len : done.length = g.Nons.length
  all : ∀ k : Nat, k < g.Prods.length → ∀ n : Nat, (prd g k).Left = n → done.getD n false = true → (⟨k, 0⟩ : Itm) ∈ out

def undone (done : List Bool) : Nat := done.countP (fun b => !b)

theorem undone_set {done : List Bool} {k : Nat} (h : k < done.length) (h2 : done.getD k false = false) : undone (done.set k true) + 1 = undone done := by
  induction done generalizing k with
  | nil => simp at h
  | cons b done ih =>
    cases k with
    | zero =>
      have hb : b = false := by simpa using h2
      subst hb
      simp [undone]
    | succ k =>
      have := ih (k := k) (by simpa using h) (by simpa using h2)
      unfold undone at this ⊢
      rw [List.set_cons_succ, List.countP_cons, List.countP_cons]
      omega

theorem ClI.begin (g : Gram) (l : List Itm) : ClI g l (sortI l) (List.replicate g.Nons.length false) where
  sort := sortI_sort l
  has x h := (sortI_mem l x).2 h
  cl x h := .base ((sortI_mem l x).1 h)
  len := List.length_replicate
  all k hk n hn h := by
    rw [List.getD_eq_getElem?_getD, List.getElem?_replicate] at h
    split at h <;> simp at h

theorem ClI.next {g : Gram} {l out : List Itm} {done : List Bool} (h : ClI g l out done) {x : Itm} (hx : x ∈ out) {n : Nat} (hb : beh g x = g.Terms.length + (n : Int)) :
    ClI g l (addN g n out g.Prods.length) (done.set n true) := by
  have hs := addN_spec g n h.sort g.Prods.length
  refine ⟨hs.1, fun y hy => (hs.2 y).2 (.inl (h.has y hy)), fun y hy => ?_, by rw [List.length_set]; exact h.len, fun k hk m hm hd => ?_⟩
  · rcases (hs.2 y).1 hy with hy | ⟨k, hk, a, rfl⟩
    · exact h.cl y hy
    · exact .step (h.cl x hx) hk (by rw [hb, a])
  · by_cases e : n = m
    · subst e
      exact (hs.2 _).2 (.inr ⟨k, hk, hm, rfl⟩)
    · rw [List.getD_eq_getElem?_getD, List.getElem?_set_ne e, ← List.getD_eq_getElem?_getD] at hd
      exact (hs.2 _).2 (.inl (h.all k hk m hm hd))

/-- All names behind items are done. -/
theorem ClI.fin {g : Gram} {l out : List Itm} {done : List Bool} (h : ClI g l out done) (hno : ∀ x ∈ out, openI g done x = false) (hl : ∀ k : Nat, k < g.Prods.length → 0 ≤ (prd g k).Left) : ∀ x, x ∈ out ↔ Cl g l x := by
  refine fun x => ⟨h.cl x, fun hx => ?_⟩
  induction hx with
  | base h2 => exact h.has _ h2
  | @step y k _ hk hb ih =>
    have h1 := hno y ih
    have h0 := hl k hk
    unfold openI at h1
    rw [hb, decide_eq_true (by omega), Bool.true_and] at h1
    have e : ((g.Terms.length : Int) + (prd g k).Left - g.Terms.length).toNat = (prd g k).Left.toNat := by omega
    rw [e] at h1
    exact h.all k hk (prd g k).Left.toNat (by omega) (by simpa using h1)

/-- The items' names are names of the grammar. -/
def BehOk (g : Gram) : Prop := ∀ x, inG g x = true → beh g x < g.Terms.length + g.Nons.length

theorem clF_spec {g : Gram} {l : List Itm} (hg : BehOk g) (hl : ∀ k : Nat, k < g.Prods.length → 0 ≤ (prd g k).Left) (hin : ∀ x ∈ l, inG g x = true) : ∀ (f : Nat) (out : List Itm) (done : List Bool), ClI g l out done → undone done < f →
    SortI (clF g f out done) ∧ ∀ x, x ∈ clF g f out done ↔ Cl g l x
  | 0, _, _, _, hf => absurd hf (Nat.not_lt_zero _)
  | f + 1, out, done, h, hf => by
    unfold clF
    cases hx : out.find? (openI g done) with
    | none => exact ⟨h.sort, h.fin (fun y hy => by have := List.find?_eq_none.1 hx y hy; simpa using this) hl⟩
    | some x =>
      have hm := List.mem_of_find?_eq_some hx
      have ho := List.find?_some hx
      unfold openI at ho
      rw [Bool.and_eq_true, decide_eq_true_eq] at ho
      have hb := hg x ((h.cl x hm).inG hin)
      have hlt : (beh g x - g.Terms.length).toNat < g.Nons.length := by omega
      have hn := h.next hm (n := (beh g x - g.Terms.length).toNat) (by omega)
      have e : ((beh g x - (g.Terms.length : Int)).toNat : Int) = beh g x - g.Terms.length := by omega
      rw [e] at hn
      refine clF_spec hg hl hin f _ _ hn ?_
      have := undone_set (k := (beh g x - g.Terms.length).toNat) (by rw [h.len]; exact hlt) (by simpa using ho.2)
      omega

theorem closedP_spec {g : Gram} {l : List Itm} (hg : BehOk g) (hl : ∀ k : Nat, k < g.Prods.length → 0 ≤ (prd g k).Left) (hin : ∀ x ∈ l, inG g x = true) : SortI (closedP g l) ∧ ∀ x, x ∈ closedP g l ↔ Cl g l x := by
  refine clF_spec hg hl hin _ _ _ (ClI.begin g l) ?_
  have : undone (List.replicate g.Nons.length false) ≤ g.Nons.length := by
    have := List.countP_le_length (p := fun b => !b) (l := List.replicate g.Nons.length false)
    rw [List.length_replicate] at this; exact this
  omega

end Go.Proofs.Ytjeimmekhfhepaa

namespace Go.Proofs.Ytjeimmekhfhepaa
set_option linter.all false
open Go.Proofs.Ytjeimmekhfhepaa.E

/-- A production, how far it is there, where it began. -/
structure EI where
  p : Nat
  d : Nat
  f : Nat
deriving DecidableEq

def rhs (g : Gram) (p : Nat) : List Int := (prd g p).Right
def lhs (g : Gram) (p : Nat) : Int := (prd g p).Left
/-- The symbol behind an item. -/
def sym? (g : Gram) (x : EI) : Option Int := (rhs g x.p)[x.d]?

/-- Symbols stand for the terms from a place to a place. -/
inductive Dr (g : Gram) (w : List Int) : List Int → Nat → Nat → Prop
  | nil {i : Nat} : Dr g w [] i i
  | term {s : Int} {l : List Int} {i j : Nat} : s < g.Terms.length → w[i]? = some s → Dr g w l (i + 1) j → Dr g w (s :: l) i j
  | non {s : Int} {l : List Int} {i m j q : Nat} : ¬ s < g.Terms.length → q < g.Prods.length → lhs g q = s - g.Terms.length → Dr g w (rhs g q) i m → Dr g w l m j → Dr g w (s :: l) i j

inductive Ein (g : Gram) (w : List Int) : Nat → EI → Prop
  | start : Ein g w 0 ⟨0, 0, 0⟩
  | pred {k q : Nat} {x : EI} {s : Int} : Ein g w k x → sym? g x = some s → ¬ s < g.Terms.length → q < g.Prods.length → lhs g q = s - g.Terms.length → Ein g w k ⟨q, 0, k⟩
  | scan {k : Nat} {x : EI} {s : Int} : Ein g w k x → sym? g x = some s → s < g.Terms.length → w[k]? = some s → Ein g w (k + 1) ⟨x.p, x.d + 1, x.f⟩
  | comp {k : Nat} {x y : EI} {s : Int} : Ein g w k x → sym? g x = none → Ein g w x.f y → sym? g y = some s → ¬ s < g.Terms.length → lhs g x.p = s - g.Terms.length → Ein g w k ⟨y.p, y.d + 1, y.f⟩

section
variable {g : Gram} {w : List Int}

theorem Dr.app {l1 l2 : List Int} {i m j : Nat} (h : Dr g w l1 i m) (h2 : Dr g w l2 m j) : Dr g w (l1 ++ l2) i j := by
  induction h with
  | nil => exact h2
  | term a b _ ih => exact .term a b (ih h2)
  | non a b c d _ _ ih => exact .non a b c d (ih h2)

/-- What is there of an item: its production is one, its dot no further than it is long; it began before. -/
structure EOk (g : Gram) (k : Nat) (x : EI) : Prop where
  p : x.p < g.Prods.length
  d : x.d ≤ (rhs g x.p).length
  f : x.f ≤ k
theorem Ein.ok (h0 : 0 < g.Prods.length) {k : Nat} {x : EI} (h : Ein g w k x) : EOk g k x := by
  induction h with
  | start => exact ⟨h0, Nat.zero_le _, Nat.le_refl _⟩
  | pred _ _ _ h3 _ ih => exact ⟨h3, Nat.zero_le _, Nat.le_refl _⟩
  | scan _ h2 _ _ ih => exact ⟨ih.p, (List.getElem?_eq_some_iff.1 h2).1, Nat.le_succ_of_le ih.f⟩
  | comp _ _ _ h4 _ _ ih1 ih2 => exact ⟨ih2.p, (List.getElem?_eq_some_iff.1 h4).1, Nat.le_trans ih2.f ih1.f⟩

theorem take_sym {x : EI} {s : Int} (h : sym? g x = some s) : (rhs g x.p).take (x.d + 1) = (rhs g x.p).take x.d ++ [s] := by
  obtain ⟨h1, h2⟩ := List.getElem?_eq_some_iff.1 h
  rw [List.take_succ_eq_append_getElem h1, h2]
theorem none_full {x : EI} (h : sym? g x = none) (hd : x.d ≤ (rhs g x.p).length) : (rhs g x.p).take x.d = rhs g x.p := by
  have := List.getElem?_eq_none_iff.1 h
  exact List.take_of_length_le this

/-- Items tell the truth. -/
theorem Ein.sound (h0 : 0 < g.Prods.length) {k : Nat} {x : EI} (h : Ein g w k x) : Dr g w ((rhs g x.p).take x.d) x.f k := by
  induction h with
  | start => exact .nil
  | pred => exact .nil
  | scan h1 h2 h3 h4 ih =>
    show Dr g w (List.take (_ + 1) _) _ _
    rw [take_sym h2]
    exact ih.app (.term h3 h4 .nil)
  | @comp k x y s h1 h2 h3 h4 h5 h6 ih1 ih2 =>
    show Dr g w (List.take (y.d + 1) _) _ _
    rw [take_sym h4]
    rw [none_full h2 (h1.ok h0).d] at ih1
    exact ih2.app (.non h5 (h1.ok h0).p h6 ih1 .nil)

/-- All that is true is told. -/
theorem Dr.told {l : List Int} {i j : Nat} (h : Dr g w l i j) : ∀ {p d f : Nat} {r : List Int}, Ein g w i ⟨p, d, f⟩ → (rhs g p).drop d = l ++ r → Ein g w j ⟨p, d + l.length, f⟩ := by
  induction h with
  | nil => intro p d f r h1 _; exact h1
  | @term s l i j h1 h2 _ ih =>
    intro p d f r h3 h4
    have hs : sym? g ⟨p, d, f⟩ = some s := by
      show (rhs g p)[d]? = some s
      have : ((rhs g p).drop d)[0]? = some s := by rw [h4]; rfl
      rwa [List.getElem?_drop, Nat.add_zero] at this
    have h5 := ih (.scan h3 hs h1 h2) (r := r) (by rw [← List.drop_drop, h4]; rfl)
    rw [show d + (s :: l).length = d + 1 + l.length by rw [List.length_cons]; omega]
    exact h5
  | @non s l i m j q h1 h2 h3 _ _ ih1 ih2 =>
    intro p d f r h4 h5
    have hs : sym? g ⟨p, d, f⟩ = some s := by
      show (rhs g p)[d]? = some s
      have : ((rhs g p).drop d)[0]? = some s := by rw [h5]; rfl
      rwa [List.getElem?_drop, Nat.add_zero] at this
    have h6 := ih1 (.pred h4 hs h1 h2 h3) (r := []) (by rw [List.drop_zero, List.append_nil])
    rw [Nat.zero_add] at h6
    have h7 : Ein g w m ⟨p, d + 1, f⟩ := .comp h6 (List.getElem?_eq_none (Nat.le_refl _)) h4 hs h1 h3
    have h8 := ih2 h7 (r := r) (by rw [← List.drop_drop, h5]; rfl)
    rw [show d + (s :: l).length = d + 1 + l.length by rw [List.length_cons]; omega]
    exact h8

/-- Derived: the first production's row stands for all terms. -/
theorem derives_iff (h0 : 0 < g.Prods.length) {n : Nat} (h1 : (rhs g 0).length = 1) : Ein g w n ⟨0, 1, 0⟩ ↔ Dr g w (rhs g 0) 0 n := by
  constructor
  · intro h
    have := h.sound h0
    rwa [show (⟨0, 1, 0⟩ : EI).p = 0 from rfl, show (⟨0, 1, 0⟩ : EI).d = 1 from rfl, ← h1, List.take_length] at this
  · intro h
    have := h.told (p := 0) (d := 0) (f := 0) (r := []) .start (by rw [List.drop_zero, List.append_nil])
    rwa [h1] at this

/-- Items at a place: so at each place before. -/
theorem Ein.before {n : Nat} {x : EI} (h : Ein g w n x) : ∀ k, k ≤ n → ∃ y, Ein g w k y := by
  induction h with
  | start =>
    intro k hk
    obtain rfl : k = 0 := by omega
    exact ⟨_, .start⟩
  | pred _ _ _ _ _ ih => exact ih
  | @scan n x s h1 h2 h3 h4 ih =>
    intro k hk
    by_cases e : k = n + 1
    · subst e; exact ⟨_, .scan h1 h2 h3 h4⟩
    · exact ih k (by omega)
  | comp _ _ _ _ _ _ ih1 _ => exact ih1
/-- Items at a place do not hang on the terms behind it. -/
theorem Ein.take {k : Nat} {x : EI} (h0 : 0 < g.Prods.length) (h : Ein g w k x) : ∀ m, k ≤ m → Ein g (w.take m) k x := by
  induction h with
  | start => intro m _; exact .start
  | pred _ h2 h3 h4 h5 ih => intro m hm; exact .pred (ih m hm) h2 h3 h4 h5
  | scan _ h2 h3 h4 ih => intro m hm; exact .scan (ih m (by omega)) h2 h3 (by rw [List.getElem?_take, if_pos (by omega)]; exact h4)
  | comp h1 h2 _ h4 h5 h6 ih1 ih2 => intro m hm; exact .comp (ih1 m hm) h2 (ih2 m (Nat.le_trans (h1.ok h0).f hm)) h4 h5 h6
theorem viable_take (h0 : 0 < g.Prods.length) {n k : Nat} (hk : k ≤ n) (h : ∃ x, Ein g w n x) : ∃ x, Ein g (w.take k) k x := by
  obtain ⟨x, hx⟩ := h
  obtain ⟨y, hy⟩ := hx.before k hk
  exact ⟨y, hy.take h0 k (Nat.le_refl _)⟩
end

/-- More productions: more items, and more is derived. -/
structure Mre (g h : Gram) : Prop where
  t : h.Terms.length = g.Terms.length
  n : g.Prods.length ≤ h.Prods.length
  l : ∀ p, p < g.Prods.length → rhs h p = rhs g p ∧ lhs h p = lhs g p
theorem Ein.more {g h : Gram} {w : List Int} (H : Mre g h) (h0 : 0 < g.Prods.length) {k : Nat} {x : EI} (hx : Ein g w k x) : Ein h w k x := by
  induction hx with
  | start => exact .start
  | @pred k q x s h1 h2 h3 h4 h5 ih =>
    refine .pred ih (s := s) ?_ (by rw [H.t]; exact h3) (Nat.lt_of_lt_of_le h4 H.n) (by rw [(H.l q h4).2, H.t]; exact h5)
    unfold sym? at h2 ⊢
    rw [(H.l _ (h1.ok h0).p).1]; exact h2
  | @scan k x s h1 h2 h3 h4 ih =>
    refine .scan ih (s := s) ?_ (by rw [H.t]; exact h3) h4
    unfold sym? at h2 ⊢
    rw [(H.l _ (h1.ok h0).p).1]; exact h2
  | @comp k x y s h1 h2 h3 h4 h5 h6 ih1 ih2 =>
    refine .comp ih1 ?_ ih2 (s := s) ?_ (by rw [H.t]; exact h5) (by rw [(H.l _ (h1.ok h0).p).2, H.t]; exact h6)
    · unfold sym? at h2 ⊢
      rw [(H.l _ (h1.ok h0).p).1]; exact h2
    · unfold sym? at h4 ⊢
      rw [(H.l _ (h3.ok h0).p).1]; exact h4

/-! ### a chart that is closed holds all items -/
def shutC (g : Gram) (w : List Int) (R : List (List EI)) : Bool :=
  (R.getD 0 []).contains ⟨0, 0, 0⟩ &&
  (List.range R.length).all fun k => (R.getD k []).all fun x =>
    match sym? g x with
    | none => (R.getD x.f []).all fun y => match sym? g y with
      | none => true
      | some s => decide (s < g.Terms.length) || !decide (lhs g x.p = s - g.Terms.length) || (R.getD k []).contains ⟨y.p, y.d + 1, y.f⟩
    | some s => if s < g.Terms.length then (if w[k]? = some s then (R.getD (k + 1) []).contains ⟨x.p, x.d + 1, x.f⟩ else true)
      else (List.range g.Prods.length).all fun q => !decide (lhs g q = s - g.Terms.length) || (R.getD k []).contains ⟨q, 0, k⟩
theorem getD_mem {α : Type} {R : List (List α)} {k : Nat} {x : α} (h : x ∈ R.getD k []) : k < R.length := by
  rcases Nat.lt_or_ge k R.length with h1 | h1
  · exact h1
  · rw [List.getD_eq_getElem?_getD, List.getElem?_eq_none h1] at h; cases h
theorem shut_all {g : Gram} {w : List Int} {R : List (List EI)} (h : shutC g w R = true) {k : Nat} {x : EI} (hx : Ein g w k x) : x ∈ R.getD k [] := by
  unfold shutC at h
  rw [Bool.and_eq_true] at h
  obtain ⟨h0, h1⟩ := h
  have hk : ∀ {k : Nat} {x : EI}, x ∈ R.getD k [] → _ := fun {k x} hm => List.all_eq_true.1 (List.all_eq_true.1 h1 k (List.mem_range.2 (getD_mem hm))) x hm
  induction hx with
  | start => exact List.contains_iff_mem.1 h0
  | @pred k q x s _ h2 h3 h4 h5 ih =>
    have h6 := hk ih
    rw [h2] at h6
    simp only [if_neg h3, List.all_eq_true, Bool.or_eq_true, Bool.not_eq_true', decide_eq_false_iff_not] at h6
    rcases h6 q (List.mem_range.2 h4) with h7 | h7
    · exact absurd h5 h7
    · exact List.contains_iff_mem.1 h7
  | @scan k x s _ h2 h3 h4 ih =>
    have h6 := hk ih
    rw [h2] at h6
    simp only [if_pos h3, if_pos h4] at h6
    exact List.contains_iff_mem.1 h6
  | @comp k x y s _ h2 _ h4 h5 h6 ih1 ih2 =>
    have h7 := hk ih1
    rw [h2] at h7
    have h8 := List.all_eq_true.1 h7 y ih2
    rw [h4] at h8
    simp only [Bool.or_eq_true, decide_eq_true_eq, Bool.not_eq_true', decide_eq_false_iff_not] at h8
    rcases h8 with (h8 | h8) | h8
    · exact absurd h8 h5
    · exact absurd h6 h8
    · exact List.contains_iff_mem.1 h8

end Go.Proofs.Ytjeimmekhfhepaa
