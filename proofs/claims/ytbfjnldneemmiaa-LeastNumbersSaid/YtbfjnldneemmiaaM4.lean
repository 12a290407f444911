/-
  LeastNumbers, walked.
-/
import Derived.Test.YtbfjnldneemmiaaP7
import Derived.Test.YtbfjnldneemmiaaM2
namespace Go.Proofs.Ytbfjnldneemmiaa
set_option linter.all false
open Go.Proofs.Ytbfjnldneemmiaa.E

attribute [local irreducible] EVX EVO EVL EV1 NEV
attribute [local irreducible] own osl exA rdA rdL
attribute [local irreducible] Lc rowS2 stepR bfs findI addR
set_option maxRecDepth 10000
set_option maxHeartbeats 4000000

theorem leastNumbersL_w (cs : List Value) (m : Mach) : Trip Try.prog 5 [.agg cs.toArray] (kDfa.rd cs m) [] (fun v V => v = .bool true ∧ V = []) := by
  refine trip Try.tabOk Try.func5 rfl rfl rfl rfl ?_
  rintro w SM hR
  have hR0 := hR
  obtain ⟨A1, A2, c1, c2, rfl, hD⟩ := kDfa_open hR0
  repeat' (first | refine e_nil ?_ | ((first | refine e_op ?_ | refine e_yes rfl ?_); (first | refine o_dNew rfl rfl rfl (fun _ => ?_) | refine o_dNew0 rfl rfl rfl (fun _ => ?_) | refine dAll rfl rfl rfl td uc rfl rfl rfl ?_ | refine dS rfl rfl rfl rfl rfl rfl rfl td uc rfl ?_ | refine o_n (n_b26 rfl rfl) rfl ?_ | refine o_n (n_b26NR rfl rfl rfl rfl rfl) rfl ?_ | refine o_n (n_b26R rfl rfl rfl rfl) rfl ?_ | refine o_n (n_b26CR rfl rfl rfl rfl) rfl ?_ | refine o_n (n_b91 rfl rfl rfl rfl rfl rfl) rfl ?_ | refine o_n (peval_sound rfl) rfl ?_ | refine o_n (nl rfl rfl tc rfl) rfl ?_ | refine o_n (dR rfl rfl td rfl rfl rfl) rfl ?_ | refine o_n (dA rfl rfl td rfl rfl) rfl ?_ | refine o_n (dK rfl rfl td rfl rfl) rfl ?_ | refine o_storeC rfl rfl rfl rfl tc uc rfl rfl rfl ?_ | refine o_box rfl rfl (fun _ => ?_) | refine o_box1 rfl rfl rfl (fun _ => ?_) | refine o_alloc rfl rfl (fun _ => ?_))) | refine e_noU rfl rfl rfl ?_ | refine e_noN rfl rfl ?_ | refine s_seq ?_ | refine s_region ?_ | refine s_block ?_ | refine s_end ?_ | refine s_skip ?_ | refine s_exit ?_ | refine s_true rfl ?_ | refine s_false rfl ?_ | refine x_hit ?_ | refine x_code ?_ | refine x_back ?_ | refine x_miss rfl ?_)
  rename_i bA
  refine e_op (o_call works_w rfl .nil Can.tt rfl ?_)
  rintro v V ⟨rfl, rfl⟩
  simp only [List.nil_append]
  repeat' (first | refine e_nil ?_ | ((first | refine e_op ?_ | refine e_yes rfl ?_); (first | refine o_dNew rfl rfl rfl (fun _ => ?_) | refine o_dNew0 rfl rfl rfl (fun _ => ?_) | refine dAll rfl rfl rfl td uc rfl rfl rfl ?_ | refine dS rfl rfl rfl rfl rfl rfl rfl td uc rfl ?_ | refine o_n (n_b26 rfl rfl) rfl ?_ | refine o_n (n_b26NR rfl rfl rfl rfl rfl) rfl ?_ | refine o_n (n_b26R rfl rfl rfl rfl) rfl ?_ | refine o_n (n_b26CR rfl rfl rfl rfl) rfl ?_ | refine o_n (n_b91 rfl rfl rfl rfl rfl rfl) rfl ?_ | refine o_n (peval_sound rfl) rfl ?_ | refine o_n (nl rfl rfl tc rfl) rfl ?_ | refine o_n (dR rfl rfl td rfl rfl rfl) rfl ?_ | refine o_n (dA rfl rfl td rfl rfl) rfl ?_ | refine o_n (dK rfl rfl td rfl rfl) rfl ?_ | refine o_storeC rfl rfl rfl rfl tc uc rfl rfl rfl ?_ | refine o_box rfl rfl (fun _ => ?_) | refine o_box1 rfl rfl rfl (fun _ => ?_) | refine o_alloc rfl rfl (fun _ => ?_))) | refine e_noU rfl rfl rfl ?_ | refine e_noN rfl rfl ?_ | refine s_seq ?_ | refine s_region ?_ | refine s_block ?_ | refine s_end ?_ | refine s_skip ?_ | refine s_exit ?_ | refine s_true rfl ?_ | refine s_false rfl ?_ | refine x_hit ?_ | refine x_code ?_ | refine x_back ?_ | refine x_miss rfl ?_)
  refine e_op (o_call (dcheck_w _ m) rfl .nil (Can.ro hR) rfl ?_)
  rintro v V ⟨rfl, rfl⟩
  simp only [List.nil_append]
  cases hc : checkM m != 0 with
  | true =>
    repeat' (first | refine e_nil ?_ | ((first | refine e_op ?_ | refine e_yes rfl ?_); (first | refine o_dNew rfl rfl rfl (fun _ => ?_) | refine o_dNew0 rfl rfl rfl (fun _ => ?_) | refine dAll rfl rfl rfl td uc rfl rfl rfl ?_ | refine dS rfl rfl rfl rfl rfl rfl rfl td uc rfl ?_ | refine o_n (n_b26 rfl rfl) rfl ?_ | refine o_n (n_b26NR rfl rfl rfl rfl rfl) rfl ?_ | refine o_n (n_b26R rfl rfl rfl rfl) rfl ?_ | refine o_n (n_b26CR rfl rfl rfl rfl) rfl ?_ | refine o_n (n_b91 rfl rfl rfl rfl rfl rfl) rfl ?_ | refine o_n (peval_sound rfl) rfl ?_ | refine o_n (nl rfl rfl tc rfl) rfl ?_ | refine o_n (dR rfl rfl td rfl rfl rfl) rfl ?_ | refine o_n (dA rfl rfl td rfl rfl) rfl ?_ | refine o_n (dK rfl rfl td rfl rfl) rfl ?_ | refine o_storeC rfl rfl rfl rfl tc uc rfl rfl rfl ?_ | refine o_box rfl rfl (fun _ => ?_) | refine o_box1 rfl rfl rfl (fun _ => ?_) | refine o_alloc rfl rfl (fun _ => ?_))) | refine e_noU rfl rfl rfl ?_ | refine e_noN rfl rfl ?_ | refine s_seq ?_ | refine s_region ?_ | refine s_block ?_ | refine s_end ?_ | refine s_skip ?_ | refine s_exit ?_ | refine s_true rfl ?_ | refine s_false rfl ?_ | refine x_hit ?_ | refine x_code ?_ | refine x_back ?_ | refine x_miss rfl ?_)
    rw [hc]
    repeat' (first | refine e_nil ?_ | ((first | refine e_op ?_ | refine e_yes rfl ?_); (first | refine o_dNew rfl rfl rfl (fun _ => ?_) | refine o_dNew0 rfl rfl rfl (fun _ => ?_) | refine dAll rfl rfl rfl td uc rfl rfl rfl ?_ | refine dS rfl rfl rfl rfl rfl rfl rfl td uc rfl ?_ | refine o_n (n_b26 rfl rfl) rfl ?_ | refine o_n (n_b26NR rfl rfl rfl rfl rfl) rfl ?_ | refine o_n (n_b26R rfl rfl rfl rfl) rfl ?_ | refine o_n (n_b26CR rfl rfl rfl rfl) rfl ?_ | refine o_n (n_b91 rfl rfl rfl rfl rfl rfl) rfl ?_ | refine o_n (peval_sound rfl) rfl ?_ | refine o_n (nl rfl rfl tc rfl) rfl ?_ | refine o_n (dR rfl rfl td rfl rfl rfl) rfl ?_ | refine o_n (dA rfl rfl td rfl rfl) rfl ?_ | refine o_n (dK rfl rfl td rfl rfl) rfl ?_ | refine o_storeC rfl rfl rfl rfl tc uc rfl rfl rfl ?_ | refine o_box rfl rfl (fun _ => ?_) | refine o_box1 rfl rfl rfl (fun _ => ?_) | refine o_alloc rfl rfl (fun _ => ?_))) | refine e_noU rfl rfl rfl ?_ | refine e_noN rfl rfl ?_ | refine s_seq ?_ | refine s_region ?_ | refine s_block ?_ | refine s_end ?_ | refine s_skip ?_ | refine s_exit ?_ | refine s_true rfl ?_ | refine s_false rfl ?_ | refine x_hit ?_ | refine x_code ?_ | refine x_back ?_ | refine x_miss rfl ?_)
    exact s_ret ⟨_, _, res1 rfl rfl, ⟨rfl, rfl⟩, Ent.nil _⟩
  | false =>
    have hc' : checkM m = 0 := by simpa using hc
    have o := check_mok hc'
    repeat' (first | refine e_nil ?_ | ((first | refine e_op ?_ | refine e_yes rfl ?_); (first | refine o_dNew rfl rfl rfl (fun _ => ?_) | refine o_dNew0 rfl rfl rfl (fun _ => ?_) | refine dAll rfl rfl rfl td uc rfl rfl rfl ?_ | refine dS rfl rfl rfl rfl rfl rfl rfl td uc rfl ?_ | refine o_n (n_b26 rfl rfl) rfl ?_ | refine o_n (n_b26NR rfl rfl rfl rfl rfl) rfl ?_ | refine o_n (n_b26R rfl rfl rfl rfl) rfl ?_ | refine o_n (n_b26CR rfl rfl rfl rfl) rfl ?_ | refine o_n (n_b91 rfl rfl rfl rfl rfl rfl) rfl ?_ | refine o_n (peval_sound rfl) rfl ?_ | refine o_n (nl rfl rfl tc rfl) rfl ?_ | refine o_n (dR rfl rfl td rfl rfl rfl) rfl ?_ | refine o_n (dA rfl rfl td rfl rfl) rfl ?_ | refine o_n (dK rfl rfl td rfl rfl) rfl ?_ | refine o_storeC rfl rfl rfl rfl tc uc rfl rfl rfl ?_ | refine o_box rfl rfl (fun _ => ?_) | refine o_box1 rfl rfl rfl (fun _ => ?_) | refine o_alloc rfl rfl (fun _ => ?_))) | refine e_noU rfl rfl rfl ?_ | refine e_noN rfl rfl ?_ | refine s_seq ?_ | refine s_region ?_ | refine s_block ?_ | refine s_end ?_ | refine s_skip ?_ | refine s_exit ?_ | refine s_true rfl ?_ | refine s_false rfl ?_ | refine x_hit ?_ | refine x_code ?_ | refine x_back ?_ | refine x_miss rfl ?_)
    rw [hc]
    repeat' (first | refine e_nil ?_ | ((first | refine e_op ?_ | refine e_yes rfl ?_); (first | refine o_dNew rfl rfl rfl (fun _ => ?_) | refine o_dNew0 rfl rfl rfl (fun _ => ?_) | refine dAll rfl rfl rfl td uc rfl rfl rfl ?_ | refine dS rfl rfl rfl rfl rfl rfl rfl td uc rfl ?_ | refine o_n (n_b26 rfl rfl) rfl ?_ | refine o_n (n_b26NR rfl rfl rfl rfl rfl) rfl ?_ | refine o_n (n_b26R rfl rfl rfl rfl) rfl ?_ | refine o_n (n_b26CR rfl rfl rfl rfl) rfl ?_ | refine o_n (n_b91 rfl rfl rfl rfl rfl rfl) rfl ?_ | refine o_n (peval_sound rfl) rfl ?_ | refine o_n (nl rfl rfl tc rfl) rfl ?_ | refine o_n (dR rfl rfl td rfl rfl rfl) rfl ?_ | refine o_n (dA rfl rfl td rfl rfl) rfl ?_ | refine o_n (dK rfl rfl td rfl rfl) rfl ?_ | refine o_storeC rfl rfl rfl rfl tc uc rfl rfl rfl ?_ | refine o_box rfl rfl (fun _ => ?_) | refine o_box1 rfl rfl rfl (fun _ => ?_) | refine o_alloc rfl rfl (fun _ => ?_))) | refine e_noU rfl rfl rfl ?_ | refine e_noN rfl rfl ?_ | refine s_seq ?_ | refine s_region ?_ | refine s_block ?_ | refine s_end ?_ | refine s_skip ?_ | refine s_exit ?_ | refine s_true rfl ?_ | refine s_false rfl ?_ | refine x_hit ?_ | refine x_code ?_ | refine x_back ?_ | refine x_miss rfl ?_)
    refine e_yes rfl (o_call (small_w _ m) rfl .nil (Can.ro hR) rfl ?_)
    rintro v V ⟨rfl, rfl⟩
    simp only [List.nil_append]
    cases hs : smallM m with
    | false =>
      repeat' (first | refine e_nil ?_ | ((first | refine e_op ?_ | refine e_yes rfl ?_); (first | refine o_dNew rfl rfl rfl (fun _ => ?_) | refine o_dNew0 rfl rfl rfl (fun _ => ?_) | refine dAll rfl rfl rfl td uc rfl rfl rfl ?_ | refine dS rfl rfl rfl rfl rfl rfl rfl td uc rfl ?_ | refine o_n (n_b26 rfl rfl) rfl ?_ | refine o_n (n_b26NR rfl rfl rfl rfl rfl) rfl ?_ | refine o_n (n_b26R rfl rfl rfl rfl) rfl ?_ | refine o_n (n_b26CR rfl rfl rfl rfl) rfl ?_ | refine o_n (n_b91 rfl rfl rfl rfl rfl rfl) rfl ?_ | refine o_n (peval_sound rfl) rfl ?_ | refine o_n (nl rfl rfl tc rfl) rfl ?_ | refine o_n (dR rfl rfl td rfl rfl rfl) rfl ?_ | refine o_n (dA rfl rfl td rfl rfl) rfl ?_ | refine o_n (dK rfl rfl td rfl rfl) rfl ?_ | refine o_storeC rfl rfl rfl rfl tc uc rfl rfl rfl ?_ | refine o_box rfl rfl (fun _ => ?_) | refine o_box1 rfl rfl rfl (fun _ => ?_) | refine o_alloc rfl rfl (fun _ => ?_))) | refine e_noU rfl rfl rfl ?_ | refine e_noN rfl rfl ?_ | refine s_seq ?_ | refine s_region ?_ | refine s_block ?_ | refine s_end ?_ | refine s_skip ?_ | refine s_exit ?_ | refine s_true rfl ?_ | refine s_false rfl ?_ | refine x_hit ?_ | refine x_code ?_ | refine x_back ?_ | refine x_miss rfl ?_)
      exact s_ret ⟨_, _, res1 rfl rfl, ⟨rfl, rfl⟩, Ent.nil _⟩
    | true =>
      repeat' (first | refine e_nil ?_ | ((first | refine e_op ?_ | refine e_yes rfl ?_); (first | refine o_dNew rfl rfl rfl (fun _ => ?_) | refine o_dNew0 rfl rfl rfl (fun _ => ?_) | refine dAll rfl rfl rfl td uc rfl rfl rfl ?_ | refine dS rfl rfl rfl rfl rfl rfl rfl td uc rfl ?_ | refine o_n (n_b26 rfl rfl) rfl ?_ | refine o_n (n_b26NR rfl rfl rfl rfl rfl) rfl ?_ | refine o_n (n_b26R rfl rfl rfl rfl) rfl ?_ | refine o_n (n_b26CR rfl rfl rfl rfl) rfl ?_ | refine o_n (n_b91 rfl rfl rfl rfl rfl rfl) rfl ?_ | refine o_n (peval_sound rfl) rfl ?_ | refine o_n (nl rfl rfl tc rfl) rfl ?_ | refine o_n (dR rfl rfl td rfl rfl rfl) rfl ?_ | refine o_n (dA rfl rfl td rfl rfl) rfl ?_ | refine o_n (dK rfl rfl td rfl rfl) rfl ?_ | refine o_storeC rfl rfl rfl rfl tc uc rfl rfl rfl ?_ | refine o_box rfl rfl (fun _ => ?_) | refine o_box1 rfl rfl rfl (fun _ => ?_) | refine o_alloc rfl rfl (fun _ => ?_))) | refine e_noU rfl rfl rfl ?_ | refine e_noN rfl rfl ?_ | refine s_seq ?_ | refine s_region ?_ | refine s_block ?_ | refine s_end ?_ | refine s_skip ?_ | refine s_exit ?_ | refine s_true rfl ?_ | refine s_false rfl ?_ | refine x_hit ?_ | refine x_code ?_ | refine x_back ?_ | refine x_miss rfl ?_)
      refine e_op (o_call (leastOf_w _ m) rfl .nil (Can.ro hR) rfl ?_)
      rintro v V ⟨X1, X2, x1, x2, rfl, rfl⟩
      simp only [ownD, List.cons_append, List.nil_append]
      have hmi := leastOf_mi m
      have eX : ofM m = leastM m := by unfold ofM; rw [if_pos hc']
      have hok := mok_check (least_ok o)
      rw [eX] at hmi ⊢
      rw [hc']
      repeat' (first | refine e_nil ?_ | ((first | refine e_op ?_ | refine e_yes rfl ?_); (first | refine o_dNew rfl rfl rfl (fun _ => ?_) | refine o_dNew0 rfl rfl rfl (fun _ => ?_) | refine dAll rfl rfl rfl td uc rfl rfl rfl ?_ | refine dS rfl rfl rfl rfl rfl rfl rfl td uc rfl ?_ | refine o_n (n_b26 rfl rfl) rfl ?_ | refine o_n (n_b26NR rfl rfl rfl rfl rfl) rfl ?_ | refine o_n (n_b26R rfl rfl rfl rfl) rfl ?_ | refine o_n (n_b26CR rfl rfl rfl rfl) rfl ?_ | refine o_n (n_b91 rfl rfl rfl rfl rfl rfl) rfl ?_ | refine o_n (peval_sound rfl) rfl ?_ | refine o_n (nl rfl rfl tc rfl) rfl ?_ | refine o_n (dR rfl rfl td rfl rfl rfl) rfl ?_ | refine o_n (dA rfl rfl td rfl rfl) rfl ?_ | refine o_n (dK rfl rfl td rfl rfl) rfl ?_ | refine o_storeC rfl rfl rfl rfl tc uc rfl rfl rfl ?_ | refine o_box rfl rfl (fun _ => ?_) | refine o_box1 rfl rfl rfl (fun _ => ?_) | refine o_alloc rfl rfl (fun _ => ?_))) | refine e_noU rfl rfl rfl ?_ | refine e_noN rfl rfl ?_ | refine s_seq ?_ | refine s_region ?_ | refine s_block ?_ | refine s_end ?_ | refine s_skip ?_ | refine s_exit ?_ | refine s_true rfl ?_ | refine s_false rfl ?_ | refine x_hit ?_ | refine x_code ?_ | refine x_back ?_ | refine x_miss rfl ?_)
      rename_i b3
      refine e_yes rfl (o_call (dcheck_w _ (leastM m)) rfl .nil (can_ent (Ent.wk (ent_dfa' hmi))) rfl ?_)
      rintro v V ⟨rfl, rfl⟩
      rw [hok]
      simp only [List.nil_append]
      have hfs := fin_sts o
      have hfl := rows_sz o hfs
      have hnl := least_len m
      have hcl : (leastM m).Class = clsL m (finM m) := rfl
      have hKl := Lc_len m (finM m) 256
      have hrowl : ∀ r ∈ (leastM m).Next, r.length = (Lc m (finM m) 256).length := fun r hr => least_rows hr
      have hrow : ∀ (s k : Nat) (h : s < (leastM m).Next.length) (hs : s < (finM m).length) (hk : k < (Lc m (finM m) 256).length), (leastM m).Next[s][k]? = some (findI (finM m) (go m (finM m)[s] (Lc m (finM m) 256)[k])) := fun s k h hs hk => least_row m h hs hk
      have hLlt := Lc_lt m (finM m) 256
      have hf0 := fin_pos m
      have hbeg : bfs m (m.Next.length + 1) 0 [begM m] = finM m := rfl
      have hbs := beg_sts o
      have hpass := fun (s : Int) (h : s ∈ finM m) (D : List Int) => stepR_Lc (m := m) (fin := finM m) h D
      generalize leastM m = X at *
      generalize finM m = fin at *
      generalize hL : Lc m fin 256 = L at *
      repeat' (first | refine e_nil ?_ | ((first | refine e_op ?_ | refine e_yes rfl ?_); (first | refine o_dNew rfl rfl rfl (fun _ => ?_) | refine o_dNew0 rfl rfl rfl (fun _ => ?_) | refine dAll rfl rfl rfl td uc rfl rfl rfl ?_ | refine dS rfl rfl rfl rfl rfl rfl rfl td uc rfl ?_ | refine o_n (n_b26 rfl rfl) rfl ?_ | refine o_n (n_b26NR rfl rfl rfl rfl rfl) rfl ?_ | refine o_n (n_b26R rfl rfl rfl rfl) rfl ?_ | refine o_n (n_b26CR rfl rfl rfl rfl) rfl ?_ | refine o_n (n_b91 rfl rfl rfl rfl rfl rfl) rfl ?_ | refine o_n (peval_sound rfl) rfl ?_ | refine o_n (nl rfl rfl tc rfl) rfl ?_ | refine o_n (dR rfl rfl td rfl rfl rfl) rfl ?_ | refine o_n (dA rfl rfl td rfl rfl) rfl ?_ | refine o_n (dK rfl rfl td rfl rfl) rfl ?_ | refine o_storeC rfl rfl rfl rfl tc uc rfl rfl rfl ?_ | refine o_box rfl rfl (fun _ => ?_) | refine o_box1 rfl rfl rfl (fun _ => ?_) | refine o_alloc rfl rfl (fun _ => ?_))) | refine e_noU rfl rfl rfl ?_ | refine e_noN rfl rfl ?_ | refine s_seq ?_ | refine s_region ?_ | refine s_block ?_ | refine s_end ?_ | refine s_skip ?_ | refine s_exit ?_ | refine s_true rfl ?_ | refine s_false rfl ?_ | refine x_hit ?_ | refine x_code ?_ | refine x_back ?_ | refine x_miss rfl ?_)
      refine s_ex (.s .z) ?_
      rintro acx hax
      refine s_ent Ent.comm ?_
      simp only [List.cons_append, List.nil_append]
      refine s_loopK (ι := {x : Nat × List Int // x.1 ≤ fin.length ∧ x.1 ≤ x.2.length ∧ Sts m x.2 ∧ bfs m (m.Next.length + 1 - x.1) x.1 x.2 = fin ∧ x.2 ≠ []}) [1, 3, 6] rfl ⟨(0, [begM m]), by omega, by simp, hbs, hbeg, by simp⟩ (fun x => [(7, .int .i64 x.1.1), (5, .int .i64 ((x.1.2.length : Int) - 1))])
        (fun _ => blk b3 26 (dfC X X1 X2 x1 x2) :: osl 24 1 (.slice X1 X.Next.length x1) X.Next.length (E.rowC acx X.Next) :: (rowL (Value.int .i64) 3 acx X.Next ++ [])) (fun x => fin.length - x.1.1) ?_ ?_ ?_
      · repeat' (first | exact Sub.nil _ | refine Sub.cons rfl ?_ | refine Sub.consE rfl ?_ ?_)
      · rw [List.append_nil]
        exact Ent.tak .z (Ent.wk (Ent.wk (Ent.refl _)))
      rintro ⟨⟨s, D⟩, hs1, hs2, hDs, hbfs, hDne⟩
      simp only at hs1 hs2 hDs hbfs hDne ⊢
      have hDl := hDs.len
      have hn1 := o.n1
      repeat' (first | refine e_nil ?_ | ((first | refine e_op ?_ | refine e_yes rfl ?_); (first | refine o_dNew rfl rfl rfl (fun _ => ?_) | refine o_dNew0 rfl rfl rfl (fun _ => ?_) | refine dAll rfl rfl rfl td uc rfl rfl rfl ?_ | refine dS rfl rfl rfl rfl rfl rfl rfl td uc rfl ?_ | refine o_n (n_b26 rfl rfl) rfl ?_ | refine o_n (n_b26NR rfl rfl rfl rfl rfl) rfl ?_ | refine o_n (n_b26R rfl rfl rfl rfl) rfl ?_ | refine o_n (n_b26CR rfl rfl rfl rfl) rfl ?_ | refine o_n (n_b91 rfl rfl rfl rfl rfl rfl) rfl ?_ | refine o_n (peval_sound rfl) rfl ?_ | refine o_n (nl rfl rfl tc rfl) rfl ?_ | refine o_n (dR rfl rfl td rfl rfl rfl) rfl ?_ | refine o_n (dA rfl rfl td rfl rfl) rfl ?_ | refine o_n (dK rfl rfl td rfl rfl) rfl ?_ | refine o_storeC rfl rfl rfl rfl tc uc rfl rfl rfl ?_ | refine o_box rfl rfl (fun _ => ?_) | refine o_box1 rfl rfl rfl (fun _ => ?_) | refine o_alloc rfl rfl (fun _ => ?_))) | refine e_noU rfl rfl rfl ?_ | refine e_noN rfl rfl ?_ | refine s_seq ?_ | refine s_region ?_ | refine s_block ?_ | refine s_end ?_ | refine s_skip ?_ | refine s_exit ?_ | refine s_true rfl ?_ | refine s_false rfl ?_ | refine x_hit ?_ | refine x_code ?_ | refine x_back ?_ | refine x_miss rfl ?_)
      refine s_cond rfl (fun h => ?_) (fun h => ?_)
      · have hlt : s < fin.length := by have := of_decide_eq_true h; omega
        clear h
        have hsD : s < D.length := by
          refine Nat.lt_of_not_le (fun hle => ?_)
          rw [bfs_end hle] at hbfs
          subst hbfs; omega
        obtain ⟨f, hf⟩ : ∃ f, m.Next.length + 1 - s = f + 1 := ⟨m.Next.length - s, by omega⟩
        have hpre0 := bfs_pre m (f + 1) s D
        rw [hf] at hbfs
        rw [hbfs] at hpre0
        rw [bfs_go hsD] at hbfs
        have hDf : D[s] = fin[s] := by
          obtain ⟨r, hr⟩ := hpre0
          have h2 : fin[s]? = D[s]? := by rw [← hr, List.getElem?_append_left hsD]
          rw [List.getElem?_eq_getElem hlt, List.getElem?_eq_getElem hsD] at h2
          exact (Option.some.inj h2).symm
        rw [hDf] at hbfs
        have hmem : fin[s] ∈ fin := List.getElem_mem hlt
        have hst := hfs.st hmem
        rw [hpass _ hmem D] at hbfs
        have hDs2 : Sts m (addR m fin[s] D L) := by
          rw [← hpass _ hmem D, stepR_eq]
          exact rowS2_sts o hst hDs 256 (Nat.le_refl _)
        have hpre2 : addR m fin[s] D L <+: fin := by
          have := bfs_pre m f (s + 1) (addR m fin[s] D L)
          rwa [hbfs] at this
        have hlX : s < X.Next.length := by omega
        have hrl := hrowl _ (List.getElem_mem hlX)
        have hhx : loadL ⟨.slice 3, 1, 24, [.slice none 0 0]⟩ (E.rowC acx X.Next) (0 + s * 1) = some (.slice (acx[s]'(hax ▸ hlX)).1 X.Next[s].length (acx[s]'(hax ▸ hlX)).2) := by
          unfold loadL
          simp only [aggB, cond_false]
          rw [Nat.zero_add, Nat.mul_one]; exact E.rowC_get hax hlX
        have tkx := rowL_get (enc := Value.int .i64) (ei := 3) hax hlX
        generalize (acx[s]'(hax ▸ hlX)) = ax at *
        obtain ⟨ax1, ax2⟩ := ax
        simp only at hhx tkx
        rw [hrl] at hhx tkx
        have hrows := hrow s
        generalize hs0 : fin[s] = s0 at *
        repeat' (first | refine e_nil ?_ | ((first | refine e_op ?_ | refine e_yes rfl ?_); (first | refine o_dNew rfl rfl rfl (fun _ => ?_) | refine o_dNew0 rfl rfl rfl (fun _ => ?_) | refine dAll rfl rfl rfl td uc rfl rfl rfl ?_ | refine dS rfl rfl rfl rfl rfl rfl rfl td uc rfl ?_ | refine o_n (n_b26 rfl rfl) rfl ?_ | refine o_n (n_b26NR rfl rfl rfl rfl rfl) rfl ?_ | refine o_n (n_b26R rfl rfl rfl rfl) rfl ?_ | refine o_n (n_b26CR rfl rfl rfl rfl) rfl ?_ | refine o_n (n_b91 rfl rfl rfl rfl rfl rfl) rfl ?_ | refine o_n (peval_sound rfl) rfl ?_ | refine o_n (nl rfl rfl tc rfl) rfl ?_ | refine o_n (dR rfl rfl td rfl rfl rfl) rfl ?_ | refine o_n (dA rfl rfl td rfl rfl) rfl ?_ | refine o_n (dK rfl rfl td rfl rfl) rfl ?_ | refine o_storeC rfl rfl rfl rfl tc uc rfl rfl rfl ?_ | refine o_box rfl rfl (fun _ => ?_) | refine o_box1 rfl rfl rfl (fun _ => ?_) | refine o_alloc rfl rfl (fun _ => ?_))) | refine e_noU rfl rfl rfl ?_ | refine e_noN rfl rfl ?_ | refine s_seq ?_ | refine s_region ?_ | refine s_block ?_ | refine s_end ?_ | refine s_skip ?_ | refine s_exit ?_ | refine s_true rfl ?_ | refine s_false rfl ?_ | refine x_hit ?_ | refine x_code ?_ | refine x_back ?_ | refine x_miss rfl ?_)
        refine s_cond rfl (fun h => absurd (of_decide_eq_true h) (by omega)) (fun _ => ?_)
        refine s_open (.s .z) (by omega) ?_
        rintro p1 rfl
        repeat' (first | refine e_nil ?_ | ((first | refine e_op ?_ | refine e_yes rfl ?_); (first | refine o_dNew rfl rfl rfl (fun _ => ?_) | refine o_dNew0 rfl rfl rfl (fun _ => ?_) | refine dAll rfl rfl rfl td uc rfl rfl rfl ?_ | refine dS rfl rfl rfl rfl rfl rfl rfl td uc rfl ?_ | refine o_n (n_b26 rfl rfl) rfl ?_ | refine o_n (n_b26NR rfl rfl rfl rfl rfl) rfl ?_ | refine o_n (n_b26R rfl rfl rfl rfl) rfl ?_ | refine o_n (n_b26CR rfl rfl rfl rfl) rfl ?_ | refine o_n (n_b91 rfl rfl rfl rfl rfl rfl) rfl ?_ | refine o_n (peval_sound rfl) rfl ?_ | refine o_n (nl rfl rfl tc rfl) rfl ?_ | refine o_n (dR rfl rfl td rfl rfl rfl) rfl ?_ | refine o_n (dA rfl rfl td rfl rfl) rfl ?_ | refine o_n (dK rfl rfl td rfl rfl) rfl ?_ | refine o_storeC rfl rfl rfl rfl tc uc rfl rfl rfl ?_ | refine o_box rfl rfl (fun _ => ?_) | refine o_box1 rfl rfl rfl (fun _ => ?_) | refine o_alloc rfl rfl (fun _ => ?_))) | refine e_noU rfl rfl rfl ?_ | refine e_noN rfl rfl ?_ | refine s_seq ?_ | refine s_region ?_ | refine s_block ?_ | refine s_end ?_ | refine s_skip ?_ | refine s_exit ?_ | refine s_true rfl ?_ | refine s_false rfl ?_ | refine x_hit ?_ | refine x_code ?_ | refine x_back ?_ | refine x_miss rfl ?_)
        refine s_loopK (ι := {k : Nat // k ≤ L.length}) [1, 3, 6, 7] rfl ⟨0, by omega⟩ (fun k => [(8, .int .i64 k.1), (5, .int .i64 (((addR m s0 D (L.take k.1)).length : Int) - 1))])
          (fun _ => blk b3 26 (dfC X (some ⟨p1, 0, none⟩) X2 x1 x2) :: osl 24 1 (.slice (some ⟨p1, 0, none⟩) X.Next.length x1) X.Next.length (E.rowC acx X.Next) :: (rowL (Value.int .i64) 3 acx X.Next ++ [])) (fun k => L.length - k.1) ?_ (Ent.refl _) ?_
        · have e0 : addR m s0 D (L.take 0) = D := by rw [List.take_zero]; unfold addR; rfl
          simp only [e0]
          repeat' (first | exact Sub.nil _ | refine Sub.cons rfl ?_ | refine Sub.consE rfl ?_ ?_)
        rintro ⟨k, hk⟩
        simp only at hk ⊢
        have hpk : addR m s0 D (L.take k) <+: addR m s0 D L := addR_take_pre
        have hkl := (hpk.trans hpre2).length_le
        repeat' (first | refine e_nil ?_ | ((first | refine e_op ?_ | refine e_yes rfl ?_); (first | refine o_dNew rfl rfl rfl (fun _ => ?_) | refine o_dNew0 rfl rfl rfl (fun _ => ?_) | refine dAll rfl rfl rfl td uc rfl rfl rfl ?_ | refine dS rfl rfl rfl rfl rfl rfl rfl td uc rfl ?_ | refine o_n (n_b26 rfl rfl) rfl ?_ | refine o_n (n_b26NR rfl rfl rfl rfl rfl) rfl ?_ | refine o_n (n_b26R rfl rfl rfl rfl) rfl ?_ | refine o_n (n_b26CR rfl rfl rfl rfl) rfl ?_ | refine o_n (n_b91 rfl rfl rfl rfl rfl rfl) rfl ?_ | refine o_n (peval_sound rfl) rfl ?_ | refine o_n (nl rfl rfl tc rfl) rfl ?_ | refine o_n (dR rfl rfl td rfl rfl rfl) rfl ?_ | refine o_n (dA rfl rfl td rfl rfl) rfl ?_ | refine o_n (dK rfl rfl td rfl rfl) rfl ?_ | refine o_storeC rfl rfl rfl rfl tc uc rfl rfl rfl ?_ | refine o_box rfl rfl (fun _ => ?_) | refine o_box1 rfl rfl rfl (fun _ => ?_) | refine o_alloc rfl rfl (fun _ => ?_))) | refine e_noU rfl rfl rfl ?_ | refine e_noN rfl rfl ?_ | refine s_seq ?_ | refine s_region ?_ | refine s_block ?_ | refine s_end ?_ | refine s_skip ?_ | refine s_exit ?_ | refine s_true rfl ?_ | refine s_false rfl ?_ | refine x_hit ?_ | refine x_code ?_ | refine x_back ?_ | refine x_miss rfl ?_)
        refine e_op (o_n (n_index rfl rfl rfl rfl s rfl hlX) rfl ?_)
        refine e_op (o_n (n_load_osl rfl rfl (.s .z) hhx) rfl ?_)
        repeat' (first | refine e_nil ?_ | ((first | refine e_op ?_ | refine e_yes rfl ?_); (first | refine o_dNew rfl rfl rfl (fun _ => ?_) | refine o_dNew0 rfl rfl rfl (fun _ => ?_) | refine dAll rfl rfl rfl td uc rfl rfl rfl ?_ | refine dS rfl rfl rfl rfl rfl rfl rfl td uc rfl ?_ | refine o_n (n_b26 rfl rfl) rfl ?_ | refine o_n (n_b26NR rfl rfl rfl rfl rfl) rfl ?_ | refine o_n (n_b26R rfl rfl rfl rfl) rfl ?_ | refine o_n (n_b26CR rfl rfl rfl rfl) rfl ?_ | refine o_n (n_b91 rfl rfl rfl rfl rfl rfl) rfl ?_ | refine o_n (peval_sound rfl) rfl ?_ | refine o_n (nl rfl rfl tc rfl) rfl ?_ | refine o_n (dR rfl rfl td rfl rfl rfl) rfl ?_ | refine o_n (dA rfl rfl td rfl rfl) rfl ?_ | refine o_n (dK rfl rfl td rfl rfl) rfl ?_ | refine o_storeC rfl rfl rfl rfl tc uc rfl rfl rfl ?_ | refine o_box rfl rfl (fun _ => ?_) | refine o_box1 rfl rfl rfl (fun _ => ?_) | refine o_alloc rfl rfl (fun _ => ?_))) | refine e_noU rfl rfl rfl ?_ | refine e_noN rfl rfl ?_ | refine s_seq ?_ | refine s_region ?_ | refine s_block ?_ | refine s_end ?_ | refine s_skip ?_ | refine s_exit ?_ | refine s_true rfl ?_ | refine s_false rfl ?_ | refine x_hit ?_ | refine x_code ?_ | refine x_back ?_ | refine x_miss rfl ?_)
        refine s_cond rfl (fun h => ?_) (fun h => ?_)
        · have hkL : k < L.length := by have := of_decide_eq_true h; omega
          clear h
          have hstep := addR_take (m := m) (s := s0) (D := D) hkL
          have hpk2 : addR m s0 D (L.take (k + 1)) <+: addR m s0 D L := addR_take_pre
          have hv := hrows k hlX hlt hkL
          simp only [hs0] at hv
          have hL256 : L[k] < 256 := hLlt _ (List.getElem_mem hkL)
          have hgs := (go_st o hst hL256).1
          generalize go m s0 L[k] = t at *
          rw [hstep] at hpk2
          have hne : addR m s0 D (L.take k) ≠ [] := fun h => hDne (by
            have := (addR_pre m s0 (L.take k) D).length_le
            rw [h] at this
            exact List.eq_nil_of_length_eq_zero (by simpa using this))
          have hnum := num_step hfs (hpk2.trans hpre2) hne hgs
          rw [← hstep] at hnum
          have hrng := findI_rng hfs t
          generalize findI fin t = v at *
          have hpos : 0 < (addR m s0 D (L.take k)).length := List.length_pos_iff.2 hne
          have hkX : k < X.Next[s].length := by omega
          refine s_open (.s (.s (tak_get tkx))) (by omega) ?_
          rintro q1 rfl
          have hldv : loadL ⟨.int .i64, 1, 8, [.int .i64 0]⟩ (X.Next[s].map (Value.int .i64)) (0 + k * 1) = some (.int .i64 v) := by
            unfold loadL
            simp only [aggB, cond_false]
            rw [Nat.zero_add, Nat.mul_one, List.getElem?_map, hv]; rfl
          generalize (addR m s0 D (L.take k)).length = d at *
          repeat' (first | refine e_nil ?_ | ((first | refine e_op ?_ | refine e_yes rfl ?_); (first | refine o_dNew rfl rfl rfl (fun _ => ?_) | refine o_dNew0 rfl rfl rfl (fun _ => ?_) | refine dAll rfl rfl rfl td uc rfl rfl rfl ?_ | refine dS rfl rfl rfl rfl rfl rfl rfl td uc rfl ?_ | refine o_n (n_b26 rfl rfl) rfl ?_ | refine o_n (n_b26NR rfl rfl rfl rfl rfl) rfl ?_ | refine o_n (n_b26R rfl rfl rfl rfl) rfl ?_ | refine o_n (n_b26CR rfl rfl rfl rfl) rfl ?_ | refine o_n (n_b91 rfl rfl rfl rfl rfl rfl) rfl ?_ | refine o_n (peval_sound rfl) rfl ?_ | refine o_n (nl rfl rfl tc rfl) rfl ?_ | refine o_n (dR rfl rfl td rfl rfl rfl) rfl ?_ | refine o_n (dA rfl rfl td rfl rfl) rfl ?_ | refine o_n (dK rfl rfl td rfl rfl) rfl ?_ | refine o_storeC rfl rfl rfl rfl tc uc rfl rfl rfl ?_ | refine o_box rfl rfl (fun _ => ?_) | refine o_box1 rfl rfl rfl (fun _ => ?_) | refine o_alloc rfl rfl (fun _ => ?_))) | refine e_noU rfl rfl rfl ?_ | refine e_noN rfl rfl ?_ | refine s_seq ?_ | refine s_region ?_ | refine s_block ?_ | refine s_end ?_ | refine s_skip ?_ | refine s_exit ?_ | refine s_true rfl ?_ | refine s_false rfl ?_ | refine x_hit ?_ | refine x_code ?_ | refine x_back ?_ | refine x_miss rfl ?_)
          refine e_op (o_n (n_index rfl rfl rfl rfl s rfl hlX) rfl ?_)
          refine e_op (o_n (n_load_osl rfl rfl (.s .z) hhx) rfl ?_)
          repeat' (first | refine e_nil ?_ | ((first | refine e_op ?_ | refine e_yes rfl ?_); (first | refine o_dNew rfl rfl rfl (fun _ => ?_) | refine o_dNew0 rfl rfl rfl (fun _ => ?_) | refine dAll rfl rfl rfl td uc rfl rfl rfl ?_ | refine dS rfl rfl rfl rfl rfl rfl rfl td uc rfl ?_ | refine o_n (n_b26 rfl rfl) rfl ?_ | refine o_n (n_b26NR rfl rfl rfl rfl rfl) rfl ?_ | refine o_n (n_b26R rfl rfl rfl rfl) rfl ?_ | refine o_n (n_b26CR rfl rfl rfl rfl) rfl ?_ | refine o_n (n_b91 rfl rfl rfl rfl rfl rfl) rfl ?_ | refine o_n (peval_sound rfl) rfl ?_ | refine o_n (nl rfl rfl tc rfl) rfl ?_ | refine o_n (dR rfl rfl td rfl rfl rfl) rfl ?_ | refine o_n (dA rfl rfl td rfl rfl) rfl ?_ | refine o_n (dK rfl rfl td rfl rfl) rfl ?_ | refine o_storeC rfl rfl rfl rfl tc uc rfl rfl rfl ?_ | refine o_box rfl rfl (fun _ => ?_) | refine o_box1 rfl rfl rfl (fun _ => ?_) | refine o_alloc rfl rfl (fun _ => ?_))) | refine e_noU rfl rfl rfl ?_ | refine e_noN rfl rfl ?_ | refine s_seq ?_ | refine s_region ?_ | refine s_block ?_ | refine s_end ?_ | refine s_skip ?_ | refine s_exit ?_ | refine s_true rfl ?_ | refine s_false rfl ?_ | refine x_hit ?_ | refine x_code ?_ | refine x_back ?_ | refine x_miss rfl ?_)
          refine e_op (o_n (n_index rfl rfl rfl rfl k rfl hkL) rfl ?_)
          refine e_op (o_n (n_load_osl rfl rfl (.s (.s (tak_get tkx))) hldv) rfl ?_)
          repeat' (first | refine e_nil ?_ | ((first | refine e_op ?_ | refine e_yes rfl ?_); (first | refine o_dNew rfl rfl rfl (fun _ => ?_) | refine o_dNew0 rfl rfl rfl (fun _ => ?_) | refine dAll rfl rfl rfl td uc rfl rfl rfl ?_ | refine dS rfl rfl rfl rfl rfl rfl rfl td uc rfl ?_ | refine o_n (n_b26 rfl rfl) rfl ?_ | refine o_n (n_b26NR rfl rfl rfl rfl rfl) rfl ?_ | refine o_n (n_b26R rfl rfl rfl rfl) rfl ?_ | refine o_n (n_b26CR rfl rfl rfl rfl) rfl ?_ | refine o_n (n_b91 rfl rfl rfl rfl rfl rfl) rfl ?_ | refine o_n (peval_sound rfl) rfl ?_ | refine o_n (nl rfl rfl tc rfl) rfl ?_ | refine o_n (dR rfl rfl td rfl rfl rfl) rfl ?_ | refine o_n (dA rfl rfl td rfl rfl) rfl ?_ | refine o_n (dK rfl rfl td rfl rfl) rfl ?_ | refine o_storeC rfl rfl rfl rfl tc uc rfl rfl rfl ?_ | refine o_box rfl rfl (fun _ => ?_) | refine o_box1 rfl rfl rfl (fun _ => ?_) | refine o_alloc rfl rfl (fun _ => ?_))) | refine e_noU rfl rfl rfl ?_ | refine e_noN rfl rfl ?_ | refine s_seq ?_ | refine s_region ?_ | refine s_block ?_ | refine s_end ?_ | refine s_skip ?_ | refine s_exit ?_ | refine s_true rfl ?_ | refine s_false rfl ?_ | refine x_hit ?_ | refine x_code ?_ | refine x_back ?_ | refine x_miss rfl ?_)
          have hw : IntKind.i64.wrap ((d : Int) - 1 + 1) = (d : Int) := by rw [wrap_i64 (by omega) (by omega)]; omega
          rw [hw]
          refine s_cond rfl (fun h => absurd (of_decide_eq_true h) (by omega)) (fun _ => ?_)
          repeat' (first | refine e_nil ?_ | ((first | refine e_op ?_ | refine e_yes rfl ?_); (first | refine o_dNew rfl rfl rfl (fun _ => ?_) | refine o_dNew0 rfl rfl rfl (fun _ => ?_) | refine dAll rfl rfl rfl td uc rfl rfl rfl ?_ | refine dS rfl rfl rfl rfl rfl rfl rfl td uc rfl ?_ | refine o_n (n_b26 rfl rfl) rfl ?_ | refine o_n (n_b26NR rfl rfl rfl rfl rfl) rfl ?_ | refine o_n (n_b26R rfl rfl rfl rfl) rfl ?_ | refine o_n (n_b26CR rfl rfl rfl rfl) rfl ?_ | refine o_n (n_b91 rfl rfl rfl rfl rfl rfl) rfl ?_ | refine o_n (peval_sound rfl) rfl ?_ | refine o_n (nl rfl rfl tc rfl) rfl ?_ | refine o_n (dR rfl rfl td rfl rfl rfl) rfl ?_ | refine o_n (dA rfl rfl td rfl rfl) rfl ?_ | refine o_n (dK rfl rfl td rfl rfl) rfl ?_ | refine o_storeC rfl rfl rfl rfl tc uc rfl rfl rfl ?_ | refine o_box rfl rfl (fun _ => ?_) | refine o_box1 rfl rfl rfl (fun _ => ?_) | refine o_alloc rfl rfl (fun _ => ?_))) | refine e_noU rfl rfl rfl ?_ | refine e_noN rfl rfl ?_ | refine s_seq ?_ | refine s_region ?_ | refine s_block ?_ | refine s_end ?_ | refine s_skip ?_ | refine s_exit ?_ | refine s_true rfl ?_ | refine s_false rfl ?_ | refine x_hit ?_ | refine x_code ?_ | refine x_back ?_ | refine x_miss rfl ?_)
          refine e_op (o_n (n_index rfl rfl rfl rfl s rfl hlX) rfl ?_)
          refine e_op (o_n (n_load_osl rfl rfl (.s .z) hhx) rfl ?_)
          repeat' (first | refine e_nil ?_ | ((first | refine e_op ?_ | refine e_yes rfl ?_); (first | refine o_dNew rfl rfl rfl (fun _ => ?_) | refine o_dNew0 rfl rfl rfl (fun _ => ?_) | refine dAll rfl rfl rfl td uc rfl rfl rfl ?_ | refine dS rfl rfl rfl rfl rfl rfl rfl td uc rfl ?_ | refine o_n (n_b26 rfl rfl) rfl ?_ | refine o_n (n_b26NR rfl rfl rfl rfl rfl) rfl ?_ | refine o_n (n_b26R rfl rfl rfl rfl) rfl ?_ | refine o_n (n_b26CR rfl rfl rfl rfl) rfl ?_ | refine o_n (n_b91 rfl rfl rfl rfl rfl rfl) rfl ?_ | refine o_n (peval_sound rfl) rfl ?_ | refine o_n (nl rfl rfl tc rfl) rfl ?_ | refine o_n (dR rfl rfl td rfl rfl rfl) rfl ?_ | refine o_n (dA rfl rfl td rfl rfl) rfl ?_ | refine o_n (dK rfl rfl td rfl rfl) rfl ?_ | refine o_storeC rfl rfl rfl rfl tc uc rfl rfl rfl ?_ | refine o_box rfl rfl (fun _ => ?_) | refine o_box1 rfl rfl rfl (fun _ => ?_) | refine o_alloc rfl rfl (fun _ => ?_))) | refine e_noU rfl rfl rfl ?_ | refine e_noN rfl rfl ?_ | refine s_seq ?_ | refine s_region ?_ | refine s_block ?_ | refine s_end ?_ | refine s_skip ?_ | refine s_exit ?_ | refine s_true rfl ?_ | refine s_false rfl ?_ | refine x_hit ?_ | refine x_code ?_ | refine x_back ?_ | refine x_miss rfl ?_)
          refine e_op (o_n (n_index rfl rfl rfl rfl k rfl hkL) rfl ?_)
          refine e_op (o_n (n_load_osl rfl rfl (.s (.s (tak_get tkx))) hldv) rfl ?_)
          repeat' (first | refine e_nil ?_ | ((first | refine e_op ?_ | refine e_yes rfl ?_); (first | refine o_dNew rfl rfl rfl (fun _ => ?_) | refine o_dNew0 rfl rfl rfl (fun _ => ?_) | refine dAll rfl rfl rfl td uc rfl rfl rfl ?_ | refine dS rfl rfl rfl rfl rfl rfl rfl td uc rfl ?_ | refine o_n (n_b26 rfl rfl) rfl ?_ | refine o_n (n_b26NR rfl rfl rfl rfl rfl) rfl ?_ | refine o_n (n_b26R rfl rfl rfl rfl) rfl ?_ | refine o_n (n_b26CR rfl rfl rfl rfl) rfl ?_ | refine o_n (n_b91 rfl rfl rfl rfl rfl rfl) rfl ?_ | refine o_n (peval_sound rfl) rfl ?_ | refine o_n (nl rfl rfl tc rfl) rfl ?_ | refine o_n (dR rfl rfl td rfl rfl rfl) rfl ?_ | refine o_n (dA rfl rfl td rfl rfl) rfl ?_ | refine o_n (dK rfl rfl td rfl rfl) rfl ?_ | refine o_storeC rfl rfl rfl rfl tc uc rfl rfl rfl ?_ | refine o_box rfl rfl (fun _ => ?_) | refine o_box1 rfl rfl rfl (fun _ => ?_) | refine o_alloc rfl rfl (fun _ => ?_))) | refine e_noU rfl rfl rfl ?_ | refine e_noN rfl rfl ?_ | refine s_seq ?_ | refine s_region ?_ | refine s_block ?_ | refine s_end ?_ | refine s_skip ?_ | refine s_exit ?_ | refine s_true rfl ?_ | refine s_false rfl ?_ | refine x_hit ?_ | refine x_code ?_ | refine x_back ?_ | refine x_miss rfl ?_)
          have hmx : (if v > (d : Int) - 1 then v else (d : Int) - 1) = ((addR m s0 D (L.take (k + 1))).length : Int) - 1 := by rw [← hnum.2]; split <;> omega
          rw [hmx]
          refine s_back ⟨⟨k + 1, by omega⟩, by simp only; omega, ?_, Ent.refl _⟩
          repeat' (first | exact Sub.nil _ | refine Sub.cons rfl ?_ | refine Sub.consE rfl ?_ ?_)
          exact inc (i := k) (by omega)
        · have hkL : k = L.length := by have := of_decide_eq_false h; omega
          subst hkL
          clear h
          have hpl := (addR_pre m s0 L D).length_le
          repeat' (first | refine e_nil ?_ | ((first | refine e_op ?_ | refine e_yes rfl ?_); (first | refine o_dNew rfl rfl rfl (fun _ => ?_) | refine o_dNew0 rfl rfl rfl (fun _ => ?_) | refine dAll rfl rfl rfl td uc rfl rfl rfl ?_ | refine dS rfl rfl rfl rfl rfl rfl rfl td uc rfl ?_ | refine o_n (n_b26 rfl rfl) rfl ?_ | refine o_n (n_b26NR rfl rfl rfl rfl rfl) rfl ?_ | refine o_n (n_b26R rfl rfl rfl rfl) rfl ?_ | refine o_n (n_b26CR rfl rfl rfl rfl) rfl ?_ | refine o_n (n_b91 rfl rfl rfl rfl rfl rfl) rfl ?_ | refine o_n (peval_sound rfl) rfl ?_ | refine o_n (nl rfl rfl tc rfl) rfl ?_ | refine o_n (dR rfl rfl td rfl rfl rfl) rfl ?_ | refine o_n (dA rfl rfl td rfl rfl) rfl ?_ | refine o_n (dK rfl rfl td rfl rfl) rfl ?_ | refine o_storeC rfl rfl rfl rfl tc uc rfl rfl rfl ?_ | refine o_box rfl rfl (fun _ => ?_) | refine o_box1 rfl rfl rfl (fun _ => ?_) | refine o_alloc rfl rfl (fun _ => ?_))) | refine e_noU rfl rfl rfl ?_ | refine e_noN rfl rfl ?_ | refine s_seq ?_ | refine s_region ?_ | refine s_block ?_ | refine s_end ?_ | refine s_skip ?_ | refine s_exit ?_ | refine s_true rfl ?_ | refine s_false rfl ?_ | refine x_hit ?_ | refine x_code ?_ | refine x_back ?_ | refine x_miss rfl ?_)
          refine s_back ⟨⟨(s + 1, addR m s0 D L), by simp only; omega, by simp only; omega, hDs2, ?_, ?_⟩, by simp only; omega, ?_, Ent.refl _⟩
          · simp only
            rw [show m.Next.length + 1 - (s + 1) = f by omega]; exact hbfs
          · simp only
            intro h
            rw [h] at hpl
            simp at hpl
            exact hDne hpl
          · rw [List.take_length]
            repeat' (first | exact Sub.nil _ | refine Sub.cons rfl ?_ | refine Sub.consE rfl ?_ ?_)
            exact inc (i := s) (by omega)
      · have hlt : s = fin.length := by have := of_decide_eq_false h; omega
        clear h
        have hpre0 := bfs_pre m (m.Next.length + 1 - s) s D
        rw [hbfs] at hpre0
        have hDfin : D.length = fin.length := by have := hpre0.length_le; omega
        rw [hDfin]
        repeat' (first | refine e_nil ?_ | ((first | refine e_op ?_ | refine e_yes rfl ?_); (first | refine o_dNew rfl rfl rfl (fun _ => ?_) | refine o_dNew0 rfl rfl rfl (fun _ => ?_) | refine dAll rfl rfl rfl td uc rfl rfl rfl ?_ | refine dS rfl rfl rfl rfl rfl rfl rfl td uc rfl ?_ | refine o_n (n_b26 rfl rfl) rfl ?_ | refine o_n (n_b26NR rfl rfl rfl rfl rfl) rfl ?_ | refine o_n (n_b26R rfl rfl rfl rfl) rfl ?_ | refine o_n (n_b26CR rfl rfl rfl rfl) rfl ?_ | refine o_n (n_b91 rfl rfl rfl rfl rfl rfl) rfl ?_ | refine o_n (peval_sound rfl) rfl ?_ | refine o_n (nl rfl rfl tc rfl) rfl ?_ | refine o_n (dR rfl rfl td rfl rfl rfl) rfl ?_ | refine o_n (dA rfl rfl td rfl rfl) rfl ?_ | refine o_n (dK rfl rfl td rfl rfl) rfl ?_ | refine o_storeC rfl rfl rfl rfl tc uc rfl rfl rfl ?_ | refine o_box rfl rfl (fun _ => ?_) | refine o_box1 rfl rfl rfl (fun _ => ?_) | refine o_alloc rfl rfl (fun _ => ?_))) | refine e_noU rfl rfl rfl ?_ | refine e_noN rfl rfl ?_ | refine s_seq ?_ | refine s_region ?_ | refine s_block ?_ | refine s_end ?_ | refine s_skip ?_ | refine s_exit ?_ | refine s_true rfl ?_ | refine s_false rfl ?_ | refine x_hit ?_ | refine x_code ?_ | refine x_back ?_ | refine x_miss rfl ?_)
        refine s_loopK (ι := {c : Nat // c ≤ 256}) [1, 3, 5] rfl ⟨0, by omega⟩ (fun c => [(9, .int .i64 c.1), (6, .int .i64 (Lc m fin c.1).length)])
          (fun _ => blk b3 26 (dfC X X1 X2 x1 x2) :: osl 24 1 (.slice X1 X.Next.length x1) X.Next.length (E.rowC acx X.Next) :: (rowL (Value.int .i64) 3 acx X.Next ++ [])) (fun c => 256 - c.1) ?_ (Ent.refl _) ?_
        · have e0 : (Lc m fin 0).length = 0 := by have := Lc_len m fin 0; omega
          simp only [e0]
          repeat' (first | exact Sub.nil _ | refine Sub.cons rfl ?_ | refine Sub.consE rfl ?_ ?_)
        rintro ⟨c, hc⟩
        simp only at hc ⊢
        have hLl := Lc_len m fin c
        repeat' (first | refine e_nil ?_ | ((first | refine e_op ?_ | refine e_yes rfl ?_); (first | refine o_dNew rfl rfl rfl (fun _ => ?_) | refine o_dNew0 rfl rfl rfl (fun _ => ?_) | refine dAll rfl rfl rfl td uc rfl rfl rfl ?_ | refine dS rfl rfl rfl rfl rfl rfl rfl td uc rfl ?_ | refine o_n (n_b26 rfl rfl) rfl ?_ | refine o_n (n_b26NR rfl rfl rfl rfl rfl) rfl ?_ | refine o_n (n_b26R rfl rfl rfl rfl) rfl ?_ | refine o_n (n_b26CR rfl rfl rfl rfl) rfl ?_ | refine o_n (n_b91 rfl rfl rfl rfl rfl rfl) rfl ?_ | refine o_n (peval_sound rfl) rfl ?_ | refine o_n (nl rfl rfl tc rfl) rfl ?_ | refine o_n (dR rfl rfl td rfl rfl rfl) rfl ?_ | refine o_n (dA rfl rfl td rfl rfl) rfl ?_ | refine o_n (dK rfl rfl td rfl rfl) rfl ?_ | refine o_storeC rfl rfl rfl rfl tc uc rfl rfl rfl ?_ | refine o_box rfl rfl (fun _ => ?_) | refine o_box1 rfl rfl rfl (fun _ => ?_) | refine o_alloc rfl rfl (fun _ => ?_))) | refine e_noU rfl rfl rfl ?_ | refine e_noN rfl rfl ?_ | refine s_seq ?_ | refine s_region ?_ | refine s_block ?_ | refine s_end ?_ | refine s_skip ?_ | refine s_exit ?_ | refine s_true rfl ?_ | refine s_false rfl ?_ | refine x_hit ?_ | refine x_code ?_ | refine x_back ?_ | refine x_miss rfl ?_)
        refine s_cond rfl (fun h => ?_) (fun h => ?_)
        · have hc256 : c < 256 := by have := of_decide_eq_true h; omega
          clear h
          have hget : X.Class.get c = (fcl m fin c : Nat) := by rw [hcl]; exact clsL_get m fin hc256
          have hle : fcl m fin c ≤ (Lc m fin c).length := fk_le m fin c _
          have hsucc := Lc_len_succ m fin c
          repeat' (first | refine e_nil ?_ | ((first | refine e_op ?_ | refine e_yes rfl ?_); (first | refine o_dNew rfl rfl rfl (fun _ => ?_) | refine o_dNew0 rfl rfl rfl (fun _ => ?_) | refine dAll rfl rfl rfl td uc rfl rfl rfl ?_ | refine dS rfl rfl rfl rfl rfl rfl rfl td uc rfl ?_ | refine o_n (n_b26 rfl rfl) rfl ?_ | refine o_n (n_b26NR rfl rfl rfl rfl rfl) rfl ?_ | refine o_n (n_b26R rfl rfl rfl rfl) rfl ?_ | refine o_n (n_b26CR rfl rfl rfl rfl) rfl ?_ | refine o_n (n_b91 rfl rfl rfl rfl rfl rfl) rfl ?_ | refine o_n (peval_sound rfl) rfl ?_ | refine o_n (nl rfl rfl tc rfl) rfl ?_ | refine o_n (dR rfl rfl td rfl rfl rfl) rfl ?_ | refine o_n (dA rfl rfl td rfl rfl) rfl ?_ | refine o_n (dK rfl rfl td rfl rfl) rfl ?_ | refine o_storeC rfl rfl rfl rfl tc uc rfl rfl rfl ?_ | refine o_box rfl rfl (fun _ => ?_) | refine o_box1 rfl rfl rfl (fun _ => ?_) | refine o_alloc rfl rfl (fun _ => ?_))) | refine e_noU rfl rfl rfl ?_ | refine e_noN rfl rfl ?_ | refine s_seq ?_ | refine s_region ?_ | refine s_block ?_ | refine s_end ?_ | refine s_skip ?_ | refine s_exit ?_ | refine s_true rfl ?_ | refine s_false rfl ?_ | refine x_hit ?_ | refine x_code ?_ | refine x_back ?_ | refine x_miss rfl ?_)
          refine e_op (o_n (n_indexA rfl rfl rfl rfl c rfl hc256) rfl ?_)
          refine e_op (o_n (n_dC rfl rfl .z rfl c hc256 (by show 0 + 0 + c * 1 = c; omega)) rfl ?_)
          rw [hget]
          repeat' (first | refine e_nil ?_ | ((first | refine e_op ?_ | refine e_yes rfl ?_); (first | refine o_dNew rfl rfl rfl (fun _ => ?_) | refine o_dNew0 rfl rfl rfl (fun _ => ?_) | refine dAll rfl rfl rfl td uc rfl rfl rfl ?_ | refine dS rfl rfl rfl rfl rfl rfl rfl td uc rfl ?_ | refine o_n (n_b26 rfl rfl) rfl ?_ | refine o_n (n_b26NR rfl rfl rfl rfl rfl) rfl ?_ | refine o_n (n_b26R rfl rfl rfl rfl) rfl ?_ | refine o_n (n_b26CR rfl rfl rfl rfl) rfl ?_ | refine o_n (n_b91 rfl rfl rfl rfl rfl rfl) rfl ?_ | refine o_n (peval_sound rfl) rfl ?_ | refine o_n (nl rfl rfl tc rfl) rfl ?_ | refine o_n (dR rfl rfl td rfl rfl rfl) rfl ?_ | refine o_n (dA rfl rfl td rfl rfl) rfl ?_ | refine o_n (dK rfl rfl td rfl rfl) rfl ?_ | refine o_storeC rfl rfl rfl rfl tc uc rfl rfl rfl ?_ | refine o_box rfl rfl (fun _ => ?_) | refine o_box1 rfl rfl rfl (fun _ => ?_) | refine o_alloc rfl rfl (fun _ => ?_))) | refine e_noU rfl rfl rfl ?_ | refine e_noN rfl rfl ?_ | refine s_seq ?_ | refine s_region ?_ | refine s_block ?_ | refine s_end ?_ | refine s_skip ?_ | refine s_exit ?_ | refine s_true rfl ?_ | refine s_false rfl ?_ | refine x_hit ?_ | refine x_code ?_ | refine x_back ?_ | refine x_miss rfl ?_)
          refine s_cond rfl (fun h => absurd (of_decide_eq_true h) (by omega)) (fun _ => ?_)
          repeat' (first | refine e_nil ?_ | ((first | refine e_op ?_ | refine e_yes rfl ?_); (first | refine o_dNew rfl rfl rfl (fun _ => ?_) | refine o_dNew0 rfl rfl rfl (fun _ => ?_) | refine dAll rfl rfl rfl td uc rfl rfl rfl ?_ | refine dS rfl rfl rfl rfl rfl rfl rfl td uc rfl ?_ | refine o_n (n_b26 rfl rfl) rfl ?_ | refine o_n (n_b26NR rfl rfl rfl rfl rfl) rfl ?_ | refine o_n (n_b26R rfl rfl rfl rfl) rfl ?_ | refine o_n (n_b26CR rfl rfl rfl rfl) rfl ?_ | refine o_n (n_b91 rfl rfl rfl rfl rfl rfl) rfl ?_ | refine o_n (peval_sound rfl) rfl ?_ | refine o_n (nl rfl rfl tc rfl) rfl ?_ | refine o_n (dR rfl rfl td rfl rfl rfl) rfl ?_ | refine o_n (dA rfl rfl td rfl rfl) rfl ?_ | refine o_n (dK rfl rfl td rfl rfl) rfl ?_ | refine o_storeC rfl rfl rfl rfl tc uc rfl rfl rfl ?_ | refine o_box rfl rfl (fun _ => ?_) | refine o_box1 rfl rfl rfl (fun _ => ?_) | refine o_alloc rfl rfl (fun _ => ?_))) | refine e_noU rfl rfl rfl ?_ | refine e_noN rfl rfl ?_ | refine s_seq ?_ | refine s_region ?_ | refine s_block ?_ | refine s_end ?_ | refine s_skip ?_ | refine s_exit ?_ | refine s_true rfl ?_ | refine s_false rfl ?_ | refine x_hit ?_ | refine x_code ?_ | refine x_back ?_ | refine x_miss rfl ?_)
          refine e_op (o_n (n_indexA rfl rfl rfl rfl c rfl hc256) rfl ?_)
          refine e_op (o_n (n_dC rfl rfl .z rfl c hc256 (by show 0 + 0 + c * 1 = c; omega)) rfl ?_)
          rw [hget]
          repeat' (first | refine e_nil ?_ | ((first | refine e_op ?_ | refine e_yes rfl ?_); (first | refine o_dNew rfl rfl rfl (fun _ => ?_) | refine o_dNew0 rfl rfl rfl (fun _ => ?_) | refine dAll rfl rfl rfl td uc rfl rfl rfl ?_ | refine dS rfl rfl rfl rfl rfl rfl rfl td uc rfl ?_ | refine o_n (n_b26 rfl rfl) rfl ?_ | refine o_n (n_b26NR rfl rfl rfl rfl rfl) rfl ?_ | refine o_n (n_b26R rfl rfl rfl rfl) rfl ?_ | refine o_n (n_b26CR rfl rfl rfl rfl) rfl ?_ | refine o_n (n_b91 rfl rfl rfl rfl rfl rfl) rfl ?_ | refine o_n (peval_sound rfl) rfl ?_ | refine o_n (nl rfl rfl tc rfl) rfl ?_ | refine o_n (dR rfl rfl td rfl rfl rfl) rfl ?_ | refine o_n (dA rfl rfl td rfl rfl) rfl ?_ | refine o_n (dK rfl rfl td rfl rfl) rfl ?_ | refine o_storeC rfl rfl rfl rfl tc uc rfl rfl rfl ?_ | refine o_box rfl rfl (fun _ => ?_) | refine o_box1 rfl rfl rfl (fun _ => ?_) | refine o_alloc rfl rfl (fun _ => ?_))) | refine e_noU rfl rfl rfl ?_ | refine e_noN rfl rfl ?_ | refine s_seq ?_ | refine s_region ?_ | refine s_block ?_ | refine s_end ?_ | refine s_skip ?_ | refine s_exit ?_ | refine s_true rfl ?_ | refine s_false rfl ?_ | refine x_hit ?_ | refine x_code ?_ | refine x_back ?_ | refine x_miss rfl ?_)
          refine s_cond rfl (fun h => ?_) (fun h => ?_)
          · have e : fcl m fin c = (Lc m fin c).length := by simp only [beq_iff_eq] at h; omega
            rw [if_pos e] at hsucc
            repeat' (first | refine e_nil ?_ | ((first | refine e_op ?_ | refine e_yes rfl ?_); (first | refine o_dNew rfl rfl rfl (fun _ => ?_) | refine o_dNew0 rfl rfl rfl (fun _ => ?_) | refine dAll rfl rfl rfl td uc rfl rfl rfl ?_ | refine dS rfl rfl rfl rfl rfl rfl rfl td uc rfl ?_ | refine o_n (n_b26 rfl rfl) rfl ?_ | refine o_n (n_b26NR rfl rfl rfl rfl rfl) rfl ?_ | refine o_n (n_b26R rfl rfl rfl rfl) rfl ?_ | refine o_n (n_b26CR rfl rfl rfl rfl) rfl ?_ | refine o_n (n_b91 rfl rfl rfl rfl rfl rfl) rfl ?_ | refine o_n (peval_sound rfl) rfl ?_ | refine o_n (nl rfl rfl tc rfl) rfl ?_ | refine o_n (dR rfl rfl td rfl rfl rfl) rfl ?_ | refine o_n (dA rfl rfl td rfl rfl) rfl ?_ | refine o_n (dK rfl rfl td rfl rfl) rfl ?_ | refine o_storeC rfl rfl rfl rfl tc uc rfl rfl rfl ?_ | refine o_box rfl rfl (fun _ => ?_) | refine o_box1 rfl rfl rfl (fun _ => ?_) | refine o_alloc rfl rfl (fun _ => ?_))) | refine e_noU rfl rfl rfl ?_ | refine e_noN rfl rfl ?_ | refine s_seq ?_ | refine s_region ?_ | refine s_block ?_ | refine s_end ?_ | refine s_skip ?_ | refine s_exit ?_ | refine s_true rfl ?_ | refine s_false rfl ?_ | refine x_hit ?_ | refine x_code ?_ | refine x_back ?_ | refine x_miss rfl ?_)
            refine s_back ⟨⟨c + 1, by omega⟩, by simp only; omega, ?_, Ent.refl _⟩
            simp only [hsucc]
            repeat' (first | exact Sub.nil _ | refine Sub.cons rfl ?_ | refine Sub.consE rfl ?_ ?_)
            · exact inc (i := c) (by omega)
            · exact inc (i := (Lc m fin c).length) (by omega)
          · have e : ¬ fcl m fin c = (Lc m fin c).length := by simp only [beq_eq_false_iff_ne, ne_eq] at h; omega
            rw [if_neg e] at hsucc
            repeat' (first | refine e_nil ?_ | ((first | refine e_op ?_ | refine e_yes rfl ?_); (first | refine o_dNew rfl rfl rfl (fun _ => ?_) | refine o_dNew0 rfl rfl rfl (fun _ => ?_) | refine dAll rfl rfl rfl td uc rfl rfl rfl ?_ | refine dS rfl rfl rfl rfl rfl rfl rfl td uc rfl ?_ | refine o_n (n_b26 rfl rfl) rfl ?_ | refine o_n (n_b26NR rfl rfl rfl rfl rfl) rfl ?_ | refine o_n (n_b26R rfl rfl rfl rfl) rfl ?_ | refine o_n (n_b26CR rfl rfl rfl rfl) rfl ?_ | refine o_n (n_b91 rfl rfl rfl rfl rfl rfl) rfl ?_ | refine o_n (peval_sound rfl) rfl ?_ | refine o_n (nl rfl rfl tc rfl) rfl ?_ | refine o_n (dR rfl rfl td rfl rfl rfl) rfl ?_ | refine o_n (dA rfl rfl td rfl rfl) rfl ?_ | refine o_n (dK rfl rfl td rfl rfl) rfl ?_ | refine o_storeC rfl rfl rfl rfl tc uc rfl rfl rfl ?_ | refine o_box rfl rfl (fun _ => ?_) | refine o_box1 rfl rfl rfl (fun _ => ?_) | refine o_alloc rfl rfl (fun _ => ?_))) | refine e_noU rfl rfl rfl ?_ | refine e_noN rfl rfl ?_ | refine s_seq ?_ | refine s_region ?_ | refine s_block ?_ | refine s_end ?_ | refine s_skip ?_ | refine s_exit ?_ | refine s_true rfl ?_ | refine s_false rfl ?_ | refine x_hit ?_ | refine x_code ?_ | refine x_back ?_ | refine x_miss rfl ?_)
            refine s_back ⟨⟨c + 1, by omega⟩, by simp only; omega, ?_, Ent.refl _⟩
            simp only [hsucc]
            repeat' (first | exact Sub.nil _ | refine Sub.cons rfl ?_ | refine Sub.consE rfl ?_ ?_)
            exact inc (i := c) (by omega)
        · have hc256 : c = 256 := by have := of_decide_eq_false h; omega
          subst hc256
          clear h
          have h0X : 0 < X.Next.length := by omega
          have hrl := hrowl _ (List.getElem_mem h0X)
          have hhx : loadL ⟨.slice 3, 1, 24, [.slice none 0 0]⟩ (E.rowC acx X.Next) (0 + 0 * 1) = some (.slice (acx[0]'(hax ▸ h0X)).1 L.length (acx[0]'(hax ▸ h0X)).2) := by
            unfold loadL
            simp only [aggB, cond_false]
            rw [Nat.zero_add, Nat.mul_one, ← hrl]; exact E.rowC_get hax h0X
          have e1 : ((fin.length : Int) - 1 == IntKind.i64.wrap ((X.Next.length : Int) - 1)) = true := by rw [wrap_i64 (by omega) (by omega), hnl]; exact beq_self_eq_true _
          have e2 : ((L.length : Int) == (L.length : Int)) = true := beq_self_eq_true _
          refine s_open (.s .z) (by omega) ?_
          rintro p1 rfl
          rw [hL]
          repeat' (first | refine e_nil ?_ | ((first | refine e_op ?_ | refine e_yes rfl ?_); (first | refine o_dNew rfl rfl rfl (fun _ => ?_) | refine o_dNew0 rfl rfl rfl (fun _ => ?_) | refine dAll rfl rfl rfl td uc rfl rfl rfl ?_ | refine dS rfl rfl rfl rfl rfl rfl rfl td uc rfl ?_ | refine o_n (n_b26 rfl rfl) rfl ?_ | refine o_n (n_b26NR rfl rfl rfl rfl rfl) rfl ?_ | refine o_n (n_b26R rfl rfl rfl rfl) rfl ?_ | refine o_n (n_b26CR rfl rfl rfl rfl) rfl ?_ | refine o_n (n_b91 rfl rfl rfl rfl rfl rfl) rfl ?_ | refine o_n (peval_sound rfl) rfl ?_ | refine o_n (nl rfl rfl tc rfl) rfl ?_ | refine o_n (dR rfl rfl td rfl rfl rfl) rfl ?_ | refine o_n (dA rfl rfl td rfl rfl) rfl ?_ | refine o_n (dK rfl rfl td rfl rfl) rfl ?_ | refine o_storeC rfl rfl rfl rfl tc uc rfl rfl rfl ?_ | refine o_box rfl rfl (fun _ => ?_) | refine o_box1 rfl rfl rfl (fun _ => ?_) | refine o_alloc rfl rfl (fun _ => ?_))) | refine e_noU rfl rfl rfl ?_ | refine e_noN rfl rfl ?_ | refine s_seq ?_ | refine s_region ?_ | refine s_block ?_ | refine s_end ?_ | refine s_skip ?_ | refine s_exit ?_ | refine s_true rfl ?_ | refine s_false rfl ?_ | refine x_hit ?_ | refine x_code ?_ | refine x_back ?_ | refine x_miss rfl ?_)
          rw [e1]
          repeat' (first | refine e_nil ?_ | ((first | refine e_op ?_ | refine e_yes rfl ?_); (first | refine o_dNew rfl rfl rfl (fun _ => ?_) | refine o_dNew0 rfl rfl rfl (fun _ => ?_) | refine dAll rfl rfl rfl td uc rfl rfl rfl ?_ | refine dS rfl rfl rfl rfl rfl rfl rfl td uc rfl ?_ | refine o_n (n_b26 rfl rfl) rfl ?_ | refine o_n (n_b26NR rfl rfl rfl rfl rfl) rfl ?_ | refine o_n (n_b26R rfl rfl rfl rfl) rfl ?_ | refine o_n (n_b26CR rfl rfl rfl rfl) rfl ?_ | refine o_n (n_b91 rfl rfl rfl rfl rfl rfl) rfl ?_ | refine o_n (peval_sound rfl) rfl ?_ | refine o_n (nl rfl rfl tc rfl) rfl ?_ | refine o_n (dR rfl rfl td rfl rfl rfl) rfl ?_ | refine o_n (dA rfl rfl td rfl rfl) rfl ?_ | refine o_n (dK rfl rfl td rfl rfl) rfl ?_ | refine o_storeC rfl rfl rfl rfl tc uc rfl rfl rfl ?_ | refine o_box rfl rfl (fun _ => ?_) | refine o_box1 rfl rfl rfl (fun _ => ?_) | refine o_alloc rfl rfl (fun _ => ?_))) | refine e_noU rfl rfl rfl ?_ | refine e_noN rfl rfl ?_ | refine s_seq ?_ | refine s_region ?_ | refine s_block ?_ | refine s_end ?_ | refine s_skip ?_ | refine s_exit ?_ | refine s_true rfl ?_ | refine s_false rfl ?_ | refine x_hit ?_ | refine x_code ?_ | refine x_back ?_ | refine x_miss rfl ?_)
          refine e_yes rfl (o_n (n_index rfl rfl rfl rfl 0 rfl h0X) rfl ?_)
          refine e_yes rfl (o_n (n_load_osl rfl rfl (.s .z) hhx) rfl ?_)
          repeat' (first | refine e_nil ?_ | ((first | refine e_op ?_ | refine e_yes rfl ?_); (first | refine o_dNew rfl rfl rfl (fun _ => ?_) | refine o_dNew0 rfl rfl rfl (fun _ => ?_) | refine dAll rfl rfl rfl td uc rfl rfl rfl ?_ | refine dS rfl rfl rfl rfl rfl rfl rfl td uc rfl ?_ | refine o_n (n_b26 rfl rfl) rfl ?_ | refine o_n (n_b26NR rfl rfl rfl rfl rfl) rfl ?_ | refine o_n (n_b26R rfl rfl rfl rfl) rfl ?_ | refine o_n (n_b26CR rfl rfl rfl rfl) rfl ?_ | refine o_n (n_b91 rfl rfl rfl rfl rfl rfl) rfl ?_ | refine o_n (peval_sound rfl) rfl ?_ | refine o_n (nl rfl rfl tc rfl) rfl ?_ | refine o_n (dR rfl rfl td rfl rfl rfl) rfl ?_ | refine o_n (dA rfl rfl td rfl rfl) rfl ?_ | refine o_n (dK rfl rfl td rfl rfl) rfl ?_ | refine o_storeC rfl rfl rfl rfl tc uc rfl rfl rfl ?_ | refine o_box rfl rfl (fun _ => ?_) | refine o_box1 rfl rfl rfl (fun _ => ?_) | refine o_alloc rfl rfl (fun _ => ?_))) | refine e_noU rfl rfl rfl ?_ | refine e_noN rfl rfl ?_ | refine s_seq ?_ | refine s_region ?_ | refine s_block ?_ | refine s_end ?_ | refine s_skip ?_ | refine s_exit ?_ | refine s_true rfl ?_ | refine s_false rfl ?_ | refine x_hit ?_ | refine x_code ?_ | refine x_back ?_ | refine x_miss rfl ?_)
          rw [e2]
          repeat' (first | refine e_nil ?_ | ((first | refine e_op ?_ | refine e_yes rfl ?_); (first | refine o_dNew rfl rfl rfl (fun _ => ?_) | refine o_dNew0 rfl rfl rfl (fun _ => ?_) | refine dAll rfl rfl rfl td uc rfl rfl rfl ?_ | refine dS rfl rfl rfl rfl rfl rfl rfl td uc rfl ?_ | refine o_n (n_b26 rfl rfl) rfl ?_ | refine o_n (n_b26NR rfl rfl rfl rfl rfl) rfl ?_ | refine o_n (n_b26R rfl rfl rfl rfl) rfl ?_ | refine o_n (n_b26CR rfl rfl rfl rfl) rfl ?_ | refine o_n (n_b91 rfl rfl rfl rfl rfl rfl) rfl ?_ | refine o_n (peval_sound rfl) rfl ?_ | refine o_n (nl rfl rfl tc rfl) rfl ?_ | refine o_n (dR rfl rfl td rfl rfl rfl) rfl ?_ | refine o_n (dA rfl rfl td rfl rfl) rfl ?_ | refine o_n (dK rfl rfl td rfl rfl) rfl ?_ | refine o_storeC rfl rfl rfl rfl tc uc rfl rfl rfl ?_ | refine o_box rfl rfl (fun _ => ?_) | refine o_box1 rfl rfl rfl (fun _ => ?_) | refine o_alloc rfl rfl (fun _ => ?_))) | refine e_noU rfl rfl rfl ?_ | refine e_noN rfl rfl ?_ | refine s_seq ?_ | refine s_region ?_ | refine s_block ?_ | refine s_end ?_ | refine s_skip ?_ | refine s_exit ?_ | refine s_true rfl ?_ | refine s_false rfl ?_ | refine x_hit ?_ | refine x_code ?_ | refine x_back ?_ | refine x_miss rfl ?_)
          exact s_ret ⟨_, _, res1 rfl rfl, ⟨rfl, rfl⟩, Ent.nil _⟩

end Go.Proofs.Ytbfjnldneemmiaa
