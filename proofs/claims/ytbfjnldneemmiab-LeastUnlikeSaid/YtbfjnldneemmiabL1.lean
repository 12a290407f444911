/-
  Small functions over machines; whether a machine may be, by the program.
-/
import Derived.Test.YtbfjnldneemmiabTab
import Derived.Test.YtbfjnldneemmiabLD
namespace Go.Proofs.Ytbfjnldneemmiab
set_option linter.all false
open Go.Proofs.Ytbfjnldneemmiab.E

attribute [local irreducible] EVX EVO EVL EV1 NEV
set_option maxRecDepth 10000
set_option maxHeartbeats 2000000

theorem long_w (A : Option Addr) (n c : Nat) : Trip Try.prog 12 [.slice A n c] Rd.tt [] (fun v V => v = .bool (decide (n > 256)) ∧ V = []) := by
  refine trip Try.tabOk Try.func12 rfl rfl rfl rfl ?_
  intro w SM _
  repeat' (first | refine e_nil ?_ | ((first | refine e_op ?_ | refine e_yes rfl ?_); (first | refine o_dNew rfl rfl rfl (fun _ => ?_) | refine o_dNew0 rfl rfl rfl (fun _ => ?_) | refine dAll rfl rfl rfl td uc rfl rfl rfl ?_ | refine dS rfl rfl rfl rfl rfl rfl rfl td uc rfl ?_ | refine o_n (n_b26 rfl rfl) rfl ?_ | refine o_n (n_b26NR rfl rfl rfl rfl rfl) rfl ?_ | refine o_n (n_b26R rfl rfl rfl rfl) rfl ?_ | refine o_n (n_b26CR rfl rfl rfl rfl) rfl ?_ | refine o_n (n_b91 rfl rfl rfl rfl rfl rfl) rfl ?_ | refine o_n (peval_sound rfl) rfl ?_ | refine o_n (nl rfl rfl tc rfl) rfl ?_ | refine o_n (dR rfl rfl td rfl rfl rfl) rfl ?_ | refine o_n (dA rfl rfl td rfl rfl) rfl ?_ | refine o_n (dK rfl rfl td rfl rfl) rfl ?_ | refine o_storeC rfl rfl rfl rfl tc uc rfl rfl rfl ?_ | refine o_box rfl rfl (fun _ => ?_) | refine o_box1 rfl rfl rfl (fun _ => ?_) | refine o_alloc rfl rfl (fun _ => ?_))) | refine e_noU rfl rfl rfl ?_ | refine e_noN rfl rfl ?_ | refine s_seq ?_ | refine s_region ?_ | refine s_block ?_ | refine s_end ?_ | refine s_skip ?_ | refine s_exit ?_ | refine s_true rfl ?_ | refine s_false rfl ?_ | refine x_hit ?_ | refine x_code ?_ | refine x_back ?_ | refine x_miss rfl ?_ | ((fail_if_success (refine e_dec true (by exact rfl) ?_)); (fail_if_success (refine e_dec false (by exact rfl) ?_)); refine e_part rfl rfl (fun h => ?_) (fun h => ?_)) | refine s_cond rfl (fun h => ?_) (fun h => ?_))
  refine s_ret ⟨_, _, res1 rfl rfl, ⟨?_, rfl⟩, Ent.nil _⟩
  congr 2
  simp; omega

theorem index_w (A : Option Addr) (c : Nat) (xs : List (List Int)) : Trip Try.prog 15 [.slice A xs.length c, .func (.func 12) #[] #[]] (kNext.rd [.slice A xs.length c] xs) []
    (fun v V => (∃ i : Int, v = .int .i64 i ∧ (0 ≤ i ↔ ∃ r ∈ xs, r.length > 256)) ∧ V = []) := by
  refine trip Try.tabOk Try.func15 rfl rfl rfl rfl ?_
  rintro w SM ⟨A', c', e1, h1⟩
  cases e1
  have hx := h1.2.1
  repeat' (first | refine e_nil ?_ | ((first | refine e_op ?_ | refine e_yes rfl ?_); (first | refine o_dNew rfl rfl rfl (fun _ => ?_) | refine o_dNew0 rfl rfl rfl (fun _ => ?_) | refine dAll rfl rfl rfl td uc rfl rfl rfl ?_ | refine dS rfl rfl rfl rfl rfl rfl rfl td uc rfl ?_ | refine o_n (n_b26 rfl rfl) rfl ?_ | refine o_n (n_b26NR rfl rfl rfl rfl rfl) rfl ?_ | refine o_n (n_b26R rfl rfl rfl rfl) rfl ?_ | refine o_n (n_b26CR rfl rfl rfl rfl) rfl ?_ | refine o_n (n_b91 rfl rfl rfl rfl rfl rfl) rfl ?_ | refine o_n (peval_sound rfl) rfl ?_ | refine o_n (nl rfl rfl tc rfl) rfl ?_ | refine o_n (dR rfl rfl td rfl rfl rfl) rfl ?_ | refine o_n (dA rfl rfl td rfl rfl) rfl ?_ | refine o_n (dK rfl rfl td rfl rfl) rfl ?_ | refine o_storeC rfl rfl rfl rfl tc uc rfl rfl rfl ?_ | refine o_box rfl rfl (fun _ => ?_) | refine o_box1 rfl rfl rfl (fun _ => ?_) | refine o_alloc rfl rfl (fun _ => ?_))) | refine e_noU rfl rfl rfl ?_ | refine e_noN rfl rfl ?_ | refine s_seq ?_ | refine s_region ?_ | refine s_block ?_ | refine s_end ?_ | refine s_skip ?_ | refine s_exit ?_ | refine s_true rfl ?_ | refine s_false rfl ?_ | refine x_hit ?_ | refine x_code ?_ | refine x_back ?_ | refine x_miss rfl ?_)
  refine s_loopK (ι := {i : Nat // i ≤ xs.length ∧ ∀ j (hj : j < xs.length), j < i → ¬ xs[j].length > 256}) [0, 1, 6, 7] rfl ⟨0, by omega, fun j _ h => by omega⟩ (fun i => [(8, .int .i64 i.1)]) (fun _ => []) (fun i => xs.length - i.1) ?_ (Ent.nil _) ?_
  · repeat' (first | exact Sub.nil _ | refine Sub.cons rfl ?_ | refine Sub.consE rfl ?_ ?_)
  rintro ⟨i, hi, hok⟩
  simp only at hi hok ⊢
  repeat' (first | refine e_nil ?_ | ((first | refine e_op ?_ | refine e_yes rfl ?_); (first | refine o_dNew rfl rfl rfl (fun _ => ?_) | refine o_dNew0 rfl rfl rfl (fun _ => ?_) | refine dAll rfl rfl rfl td uc rfl rfl rfl ?_ | refine dS rfl rfl rfl rfl rfl rfl rfl td uc rfl ?_ | refine o_n (n_b26 rfl rfl) rfl ?_ | refine o_n (n_b26NR rfl rfl rfl rfl rfl) rfl ?_ | refine o_n (n_b26R rfl rfl rfl rfl) rfl ?_ | refine o_n (n_b26CR rfl rfl rfl rfl) rfl ?_ | refine o_n (n_b91 rfl rfl rfl rfl rfl rfl) rfl ?_ | refine o_n (peval_sound rfl) rfl ?_ | refine o_n (nl rfl rfl tc rfl) rfl ?_ | refine o_n (dR rfl rfl td rfl rfl rfl) rfl ?_ | refine o_n (dA rfl rfl td rfl rfl) rfl ?_ | refine o_n (dK rfl rfl td rfl rfl) rfl ?_ | refine o_storeC rfl rfl rfl rfl tc uc rfl rfl rfl ?_ | refine o_box rfl rfl (fun _ => ?_) | refine o_box1 rfl rfl rfl (fun _ => ?_) | refine o_alloc rfl rfl (fun _ => ?_))) | refine e_noU rfl rfl rfl ?_ | refine e_noN rfl rfl ?_ | refine s_seq ?_ | refine s_region ?_ | refine s_block ?_ | refine s_end ?_ | refine s_skip ?_ | refine s_exit ?_ | refine s_true rfl ?_ | refine s_false rfl ?_ | refine x_hit ?_ | refine x_code ?_ | refine x_back ?_ | refine x_miss rfl ?_)
  refine s_cond rfl (fun h => ?_) (fun h => ?_)
  · have hlt : i < xs.length := by have := of_decide_eq_true h; omega
    clear h
    obtain ⟨b, o, es, rfl, hb, ⟨Ar, cr, rfl, hr⟩, hc⟩ := h1.2.2 i hlt
    repeat' (first | refine e_nil ?_ | ((first | refine e_op ?_ | refine e_yes rfl ?_); (first | refine o_dNew rfl rfl rfl (fun _ => ?_) | refine o_dNew0 rfl rfl rfl (fun _ => ?_) | refine dAll rfl rfl rfl td uc rfl rfl rfl ?_ | refine dS rfl rfl rfl rfl rfl rfl rfl td uc rfl ?_ | refine o_n (n_b26 rfl rfl) rfl ?_ | refine o_n (n_b26NR rfl rfl rfl rfl rfl) rfl ?_ | refine o_n (n_b26R rfl rfl rfl rfl) rfl ?_ | refine o_n (n_b26CR rfl rfl rfl rfl) rfl ?_ | refine o_n (n_b91 rfl rfl rfl rfl rfl rfl) rfl ?_ | refine o_n (peval_sound rfl) rfl ?_ | refine o_n (nl rfl rfl tc rfl) rfl ?_ | refine o_n (dR rfl rfl td rfl rfl rfl) rfl ?_ | refine o_n (dA rfl rfl td rfl rfl) rfl ?_ | refine o_n (dK rfl rfl td rfl rfl) rfl ?_ | refine o_storeC rfl rfl rfl rfl tc uc rfl rfl rfl ?_ | refine o_box rfl rfl (fun _ => ?_) | refine o_box1 rfl rfl rfl (fun _ => ?_) | refine o_alloc rfl rfl (fun _ => ?_))) | refine e_noU rfl rfl rfl ?_ | refine e_noN rfl rfl ?_ | refine s_seq ?_ | refine s_region ?_ | refine s_block ?_ | refine s_end ?_ | refine s_skip ?_ | refine s_exit ?_ | refine s_true rfl ?_ | refine s_false rfl ?_ | refine x_hit ?_ | refine x_code ?_ | refine x_back ?_ | refine x_miss rfl ?_)
    refine e_op (o_n (n_index rfl rfl rfl rfl i rfl hlt) rfl ?_)
    refine e_op (o_n (n_load_ro rfl rfl hb (loads_one rfl (hc 0 _ rfl))) rfl ?_)
    refine e_op (o_callv (l := []) (m := []) rfl (long_w Ar xs[i].length cr) rfl .nil Can.tt rfl ?_)
    rintro v V ⟨rfl, rfl⟩
    repeat' (first | refine e_nil ?_ | ((first | refine e_op ?_ | refine e_yes rfl ?_); (first | refine o_dNew rfl rfl rfl (fun _ => ?_) | refine o_dNew0 rfl rfl rfl (fun _ => ?_) | refine dAll rfl rfl rfl td uc rfl rfl rfl ?_ | refine dS rfl rfl rfl rfl rfl rfl rfl td uc rfl ?_ | refine o_n (n_b26 rfl rfl) rfl ?_ | refine o_n (n_b26NR rfl rfl rfl rfl rfl) rfl ?_ | refine o_n (n_b26R rfl rfl rfl rfl) rfl ?_ | refine o_n (n_b26CR rfl rfl rfl rfl) rfl ?_ | refine o_n (n_b91 rfl rfl rfl rfl rfl rfl) rfl ?_ | refine o_n (peval_sound rfl) rfl ?_ | refine o_n (nl rfl rfl tc rfl) rfl ?_ | refine o_n (dR rfl rfl td rfl rfl rfl) rfl ?_ | refine o_n (dA rfl rfl td rfl rfl) rfl ?_ | refine o_n (dK rfl rfl td rfl rfl) rfl ?_ | refine o_storeC rfl rfl rfl rfl tc uc rfl rfl rfl ?_ | refine o_box rfl rfl (fun _ => ?_) | refine o_box1 rfl rfl rfl (fun _ => ?_) | refine o_alloc rfl rfl (fun _ => ?_))) | refine e_noU rfl rfl rfl ?_ | refine e_noN rfl rfl ?_ | refine s_seq ?_ | refine s_region ?_ | refine s_block ?_ | refine s_end ?_ | refine s_skip ?_ | refine s_exit ?_ | refine s_true rfl ?_ | refine s_false rfl ?_ | refine x_hit ?_ | refine x_code ?_ | refine x_back ?_ | refine x_miss rfl ?_)
    refine s_cond rfl (fun h => ?_) (fun h => ?_)
    · have h9 := of_decide_eq_true h
      repeat' (first | refine e_nil ?_ | ((first | refine e_op ?_ | refine e_yes rfl ?_); (first | refine o_dNew rfl rfl rfl (fun _ => ?_) | refine o_dNew0 rfl rfl rfl (fun _ => ?_) | refine dAll rfl rfl rfl td uc rfl rfl rfl ?_ | refine dS rfl rfl rfl rfl rfl rfl rfl td uc rfl ?_ | refine o_n (n_b26 rfl rfl) rfl ?_ | refine o_n (n_b26NR rfl rfl rfl rfl rfl) rfl ?_ | refine o_n (n_b26R rfl rfl rfl rfl) rfl ?_ | refine o_n (n_b26CR rfl rfl rfl rfl) rfl ?_ | refine o_n (n_b91 rfl rfl rfl rfl rfl rfl) rfl ?_ | refine o_n (peval_sound rfl) rfl ?_ | refine o_n (nl rfl rfl tc rfl) rfl ?_ | refine o_n (dR rfl rfl td rfl rfl rfl) rfl ?_ | refine o_n (dA rfl rfl td rfl rfl) rfl ?_ | refine o_n (dK rfl rfl td rfl rfl) rfl ?_ | refine o_storeC rfl rfl rfl rfl tc uc rfl rfl rfl ?_ | refine o_box rfl rfl (fun _ => ?_) | refine o_box1 rfl rfl rfl (fun _ => ?_) | refine o_alloc rfl rfl (fun _ => ?_))) | refine e_noU rfl rfl rfl ?_ | refine e_noN rfl rfl ?_ | refine s_seq ?_ | refine s_region ?_ | refine s_block ?_ | refine s_end ?_ | refine s_skip ?_ | refine s_exit ?_ | refine s_true rfl ?_ | refine s_false rfl ?_ | refine x_hit ?_ | refine x_code ?_ | refine x_back ?_ | refine x_miss rfl ?_)
      refine s_ret ⟨_, _, res1 rfl rfl, ⟨⟨_, rfl, ?_⟩, rfl⟩, Ent.nil _⟩
      exact ⟨fun _ => ⟨_, List.getElem_mem hlt, h9⟩, fun _ => by omega⟩
    · have h9 := of_decide_eq_false h
      repeat' (first | refine e_nil ?_ | ((first | refine e_op ?_ | refine e_yes rfl ?_); (first | refine o_dNew rfl rfl rfl (fun _ => ?_) | refine o_dNew0 rfl rfl rfl (fun _ => ?_) | refine dAll rfl rfl rfl td uc rfl rfl rfl ?_ | refine dS rfl rfl rfl rfl rfl rfl rfl td uc rfl ?_ | refine o_n (n_b26 rfl rfl) rfl ?_ | refine o_n (n_b26NR rfl rfl rfl rfl rfl) rfl ?_ | refine o_n (n_b26R rfl rfl rfl rfl) rfl ?_ | refine o_n (n_b26CR rfl rfl rfl rfl) rfl ?_ | refine o_n (n_b91 rfl rfl rfl rfl rfl rfl) rfl ?_ | refine o_n (peval_sound rfl) rfl ?_ | refine o_n (nl rfl rfl tc rfl) rfl ?_ | refine o_n (dR rfl rfl td rfl rfl rfl) rfl ?_ | refine o_n (dA rfl rfl td rfl rfl) rfl ?_ | refine o_n (dK rfl rfl td rfl rfl) rfl ?_ | refine o_storeC rfl rfl rfl rfl tc uc rfl rfl rfl ?_ | refine o_box rfl rfl (fun _ => ?_) | refine o_box1 rfl rfl rfl (fun _ => ?_) | refine o_alloc rfl rfl (fun _ => ?_))) | refine e_noU rfl rfl rfl ?_ | refine e_noN rfl rfl ?_ | refine s_seq ?_ | refine s_region ?_ | refine s_block ?_ | refine s_end ?_ | refine s_skip ?_ | refine s_exit ?_ | refine s_true rfl ?_ | refine s_false rfl ?_ | refine x_hit ?_ | refine x_code ?_ | refine x_back ?_ | refine x_miss rfl ?_)
      refine s_back ⟨⟨i + 1, by omega, ?_⟩, by simp only; omega, ?_, Ent.nil _⟩
      · intro j hj hji
        by_cases e : j = i
        · subst e; exact h9
        · exact hok j hj (by omega)
      · repeat' (first | exact Sub.nil _ | refine Sub.cons rfl ?_ | refine Sub.consE rfl ?_ ?_)
        exact inc (i := i) (by omega)
  · have hge : i = xs.length := by have := of_decide_eq_false h; omega
    repeat' (first | refine e_nil ?_ | ((first | refine e_op ?_ | refine e_yes rfl ?_); (first | refine o_dNew rfl rfl rfl (fun _ => ?_) | refine o_dNew0 rfl rfl rfl (fun _ => ?_) | refine dAll rfl rfl rfl td uc rfl rfl rfl ?_ | refine dS rfl rfl rfl rfl rfl rfl rfl td uc rfl ?_ | refine o_n (n_b26 rfl rfl) rfl ?_ | refine o_n (n_b26NR rfl rfl rfl rfl rfl) rfl ?_ | refine o_n (n_b26R rfl rfl rfl rfl) rfl ?_ | refine o_n (n_b26CR rfl rfl rfl rfl) rfl ?_ | refine o_n (n_b91 rfl rfl rfl rfl rfl rfl) rfl ?_ | refine o_n (peval_sound rfl) rfl ?_ | refine o_n (nl rfl rfl tc rfl) rfl ?_ | refine o_n (dR rfl rfl td rfl rfl rfl) rfl ?_ | refine o_n (dA rfl rfl td rfl rfl) rfl ?_ | refine o_n (dK rfl rfl td rfl rfl) rfl ?_ | refine o_storeC rfl rfl rfl rfl tc uc rfl rfl rfl ?_ | refine o_box rfl rfl (fun _ => ?_) | refine o_box1 rfl rfl rfl (fun _ => ?_) | refine o_alloc rfl rfl (fun _ => ?_))) | refine e_noU rfl rfl rfl ?_ | refine e_noN rfl rfl ?_ | refine s_seq ?_ | refine s_region ?_ | refine s_block ?_ | refine s_end ?_ | refine s_skip ?_ | refine s_exit ?_ | refine s_true rfl ?_ | refine s_false rfl ?_ | refine x_hit ?_ | refine x_code ?_ | refine x_back ?_ | refine x_miss rfl ?_)
    refine s_ret ⟨_, _, res1 rfl rfl, ⟨⟨_, rfl, ?_⟩, rfl⟩, Ent.nil _⟩
    refine ⟨fun h => by omega, ?_⟩
    rintro ⟨r, hr, hlr⟩
    obtain ⟨j, hj, rfl⟩ := List.getElem_of_mem hr
    exact absurd hlr (hok j hj (by omega))

theorem contains_w (A : Option Addr) (c : Nat) (xs : List (List Int)) : Trip Try.prog 11 [.slice A xs.length c, .func (.func 12) #[] #[]] (kNext.rd [.slice A xs.length c] xs) []
    (fun v V => v = .bool (xs.any fun r => decide (r.length > 256)) ∧ V = []) := by
  refine trip Try.tabOk Try.func11 rfl rfl rfl rfl ?_
  rintro w SM hR
  repeat' (first | refine e_nil ?_ | ((first | refine e_op ?_ | refine e_yes rfl ?_); (first | refine o_dNew rfl rfl rfl (fun _ => ?_) | refine o_dNew0 rfl rfl rfl (fun _ => ?_) | refine dAll rfl rfl rfl td uc rfl rfl rfl ?_ | refine dS rfl rfl rfl rfl rfl rfl rfl td uc rfl ?_ | refine o_n (n_b26 rfl rfl) rfl ?_ | refine o_n (n_b26NR rfl rfl rfl rfl rfl) rfl ?_ | refine o_n (n_b26R rfl rfl rfl rfl) rfl ?_ | refine o_n (n_b26CR rfl rfl rfl rfl) rfl ?_ | refine o_n (n_b91 rfl rfl rfl rfl rfl rfl) rfl ?_ | refine o_n (peval_sound rfl) rfl ?_ | refine o_n (nl rfl rfl tc rfl) rfl ?_ | refine o_n (dR rfl rfl td rfl rfl rfl) rfl ?_ | refine o_n (dA rfl rfl td rfl rfl) rfl ?_ | refine o_n (dK rfl rfl td rfl rfl) rfl ?_ | refine o_storeC rfl rfl rfl rfl tc uc rfl rfl rfl ?_ | refine o_box rfl rfl (fun _ => ?_) | refine o_box1 rfl rfl rfl (fun _ => ?_) | refine o_alloc rfl rfl (fun _ => ?_))) | refine e_noU rfl rfl rfl ?_ | refine e_noN rfl rfl ?_ | refine s_seq ?_ | refine s_region ?_ | refine s_block ?_ | refine s_end ?_ | refine s_skip ?_ | refine s_exit ?_ | refine s_true rfl ?_ | refine s_false rfl ?_ | refine x_hit ?_ | refine x_code ?_ | refine x_back ?_ | refine x_miss rfl ?_)
  refine e_op (o_call (index_w A c xs) rfl .nil (Can.ro hR) rfl ?_)
  rintro v V ⟨⟨i, rfl, hi⟩, rfl⟩
  repeat' (first | refine e_nil ?_ | ((first | refine e_op ?_ | refine e_yes rfl ?_); (first | refine o_dNew rfl rfl rfl (fun _ => ?_) | refine o_dNew0 rfl rfl rfl (fun _ => ?_) | refine dAll rfl rfl rfl td uc rfl rfl rfl ?_ | refine dS rfl rfl rfl rfl rfl rfl rfl td uc rfl ?_ | refine o_n (n_b26 rfl rfl) rfl ?_ | refine o_n (n_b26NR rfl rfl rfl rfl rfl) rfl ?_ | refine o_n (n_b26R rfl rfl rfl rfl) rfl ?_ | refine o_n (n_b26CR rfl rfl rfl rfl) rfl ?_ | refine o_n (n_b91 rfl rfl rfl rfl rfl rfl) rfl ?_ | refine o_n (peval_sound rfl) rfl ?_ | refine o_n (nl rfl rfl tc rfl) rfl ?_ | refine o_n (dR rfl rfl td rfl rfl rfl) rfl ?_ | refine o_n (dA rfl rfl td rfl rfl) rfl ?_ | refine o_n (dK rfl rfl td rfl rfl) rfl ?_ | refine o_storeC rfl rfl rfl rfl tc uc rfl rfl rfl ?_ | refine o_box rfl rfl (fun _ => ?_) | refine o_box1 rfl rfl rfl (fun _ => ?_) | refine o_alloc rfl rfl (fun _ => ?_))) | refine e_noU rfl rfl rfl ?_ | refine e_noN rfl rfl ?_ | refine s_seq ?_ | refine s_region ?_ | refine s_block ?_ | refine s_end ?_ | refine s_skip ?_ | refine s_exit ?_ | refine s_true rfl ?_ | refine s_false rfl ?_ | refine x_hit ?_ | refine x_code ?_ | refine x_back ?_ | refine x_miss rfl ?_)
  refine s_ret ⟨_, _, res1 rfl rfl, ⟨?_, rfl⟩, Ent.nil _⟩
  congr 1
  rw [Bool.eq_iff_iff, decide_eq_true_eq, List.any_eq_true]
  simp only [decide_eq_true_eq]
  exact hi

def smallM (m : Mach) : Bool := decide (m.Next.length ≤ 40) && (decide (m.Next.length = 0) || decide (kM m ≤ 40))

theorem small_w (cs : List Value) (m : Mach) : Trip Try.prog 6 [.agg cs.toArray] (kDfa.rd cs m) [] (fun v V => v = .bool (smallM m) ∧ V = []) := by
  refine trip Try.tabOk Try.func6 rfl rfl rfl rfl ?_
  intro w SM hR
  obtain ⟨A1, A2, c1, c2, rfl, hD⟩ := kDfa_open hR
  repeat' (first | refine e_nil ?_ | ((first | refine e_op ?_ | refine e_yes rfl ?_); (first | refine o_dNew rfl rfl rfl (fun _ => ?_) | refine o_dNew0 rfl rfl rfl (fun _ => ?_) | refine dAll rfl rfl rfl td uc rfl rfl rfl ?_ | refine dS rfl rfl rfl rfl rfl rfl rfl td uc rfl ?_ | refine o_n (n_b26 rfl rfl) rfl ?_ | refine o_n (n_b26NR rfl rfl rfl rfl rfl) rfl ?_ | refine o_n (n_b26R rfl rfl rfl rfl) rfl ?_ | refine o_n (n_b26CR rfl rfl rfl rfl) rfl ?_ | refine o_n (n_b91 rfl rfl rfl rfl rfl rfl) rfl ?_ | refine o_n (peval_sound rfl) rfl ?_ | refine o_n (nl rfl rfl tc rfl) rfl ?_ | refine o_n (dR rfl rfl td rfl rfl rfl) rfl ?_ | refine o_n (dA rfl rfl td rfl rfl) rfl ?_ | refine o_n (dK rfl rfl td rfl rfl) rfl ?_ | refine o_storeC rfl rfl rfl rfl tc uc rfl rfl rfl ?_ | refine o_box rfl rfl (fun _ => ?_) | refine o_box1 rfl rfl rfl (fun _ => ?_) | refine o_alloc rfl rfl (fun _ => ?_))) | refine e_noU rfl rfl rfl ?_ | refine e_noN rfl rfl ?_ | refine s_seq ?_ | refine s_region ?_ | refine s_block ?_ | refine s_end ?_ | refine s_skip ?_ | refine s_exit ?_ | refine s_true rfl ?_ | refine s_false rfl ?_ | refine x_hit ?_ | refine x_code ?_ | refine x_back ?_ | refine x_miss rfl ?_)
  rename_i b1
  refine e_joinU [(2, .bool (smallM m))] ?_ (fun hj => ?_)
  · repeat' (first | refine e_nil ?_ | ((first | refine e_op ?_ | refine e_yes rfl ?_); (first | refine o_dNew rfl rfl rfl (fun _ => ?_) | refine o_dNew0 rfl rfl rfl (fun _ => ?_) | refine dAll rfl rfl rfl td uc rfl rfl rfl ?_ | refine dS rfl rfl rfl rfl rfl rfl rfl td uc rfl ?_ | refine o_n (n_b26 rfl rfl) rfl ?_ | refine o_n (n_b26NR rfl rfl rfl rfl rfl) rfl ?_ | refine o_n (n_b26R rfl rfl rfl rfl) rfl ?_ | refine o_n (n_b26CR rfl rfl rfl rfl) rfl ?_ | refine o_n (n_b91 rfl rfl rfl rfl rfl rfl) rfl ?_ | refine o_n (peval_sound rfl) rfl ?_ | refine o_n (nl rfl rfl tc rfl) rfl ?_ | refine o_n (dR rfl rfl td rfl rfl rfl) rfl ?_ | refine o_n (dA rfl rfl td rfl rfl) rfl ?_ | refine o_n (dK rfl rfl td rfl rfl) rfl ?_ | refine o_storeC rfl rfl rfl rfl tc uc rfl rfl rfl ?_ | refine o_box rfl rfl (fun _ => ?_) | refine o_box1 rfl rfl rfl (fun _ => ?_) | refine o_alloc rfl rfl (fun _ => ?_))) | refine e_noU rfl rfl rfl ?_ | refine e_noN rfl rfl ?_ | refine s_seq ?_ | refine s_region ?_ | refine s_block ?_ | refine s_end ?_ | refine s_skip ?_ | refine s_exit ?_ | refine s_true rfl ?_ | refine s_false rfl ?_ | refine x_hit ?_ | refine x_code ?_ | refine x_back ?_ | refine x_miss rfl ?_)
    exact s_ret ⟨_, _, res1 rfl rfl, ⟨rfl, rfl⟩, Ent.nil _⟩
  repeat' (first | refine e_nil ?_ | ((first | refine e_op ?_ | refine e_yes rfl ?_); (first | refine o_dNew rfl rfl rfl (fun _ => ?_) | refine o_dNew0 rfl rfl rfl (fun _ => ?_) | refine dAll rfl rfl rfl td uc rfl rfl rfl ?_ | refine dS rfl rfl rfl rfl rfl rfl rfl td uc rfl ?_ | refine o_n (n_b26 rfl rfl) rfl ?_ | refine o_n (n_b26NR rfl rfl rfl rfl rfl) rfl ?_ | refine o_n (n_b26R rfl rfl rfl rfl) rfl ?_ | refine o_n (n_b26CR rfl rfl rfl rfl) rfl ?_ | refine o_n (n_b91 rfl rfl rfl rfl rfl rfl) rfl ?_ | refine o_n (peval_sound rfl) rfl ?_ | refine o_n (nl rfl rfl tc rfl) rfl ?_ | refine o_n (dR rfl rfl td rfl rfl rfl) rfl ?_ | refine o_n (dA rfl rfl td rfl rfl) rfl ?_ | refine o_n (dK rfl rfl td rfl rfl) rfl ?_ | refine o_storeC rfl rfl rfl rfl tc uc rfl rfl rfl ?_ | refine o_box rfl rfl (fun _ => ?_) | refine o_box1 rfl rfl rfl (fun _ => ?_) | refine o_alloc rfl rfl (fun _ => ?_))) | refine e_noU rfl rfl rfl ?_ | refine e_noN rfl rfl ?_ | refine s_seq ?_ | refine s_region ?_ | refine s_block ?_ | refine s_end ?_ | refine s_skip ?_ | refine s_exit ?_ | refine s_true rfl ?_ | refine s_false rfl ?_ | refine x_hit ?_ | refine x_code ?_ | refine x_back ?_ | refine x_miss rfl ?_ | ((fail_if_success (refine e_dec true (by exact rfl) ?_)); (fail_if_success (refine e_dec false (by exact rfl) ?_)); refine e_part rfl rfl (fun h => ?_) (fun h => ?_)) | refine s_cond rfl (fun h => ?_) (fun h => ?_))
  · refine s_weak ?_ (Ent.refl _) hj
    refine Sub.consE rfl ?_ (Sub.nil _)
    have h1 := of_decide_eq_true ‹decide ((m.Next.length : Int) ≤ 40) = true›
    have h2 : m.Next.length = 0 := by simpa using ‹((m.Next.length : Int) == 0) = true›
    unfold smallM; rw [h2]; rfl
  · have h1 := of_decide_eq_true ‹decide ((m.Next.length : Int) ≤ 40) = true›
    have h2 : ¬ m.Next.length = 0 := by simpa using ‹((m.Next.length : Int) == 0) = false›
    have h0 : 0 < m.Next.length := by omega
    obtain ⟨b, o, es, rfl, hb, ⟨Ar, cr, rfl, hr⟩, hc⟩ := hD.next.2.2 0 h0
    refine e_yes rfl (o_n (n_index rfl rfl rfl rfl 0 rfl h0) rfl ?_)
    refine e_yes rfl (o_n (n_load_ro rfl rfl hb (loads_one rfl (hc 0 _ rfl))) rfl ?_)
    repeat' (first | refine e_nil ?_ | ((first | refine e_op ?_ | refine e_yes rfl ?_); (first | refine o_dNew rfl rfl rfl (fun _ => ?_) | refine o_dNew0 rfl rfl rfl (fun _ => ?_) | refine dAll rfl rfl rfl td uc rfl rfl rfl ?_ | refine dS rfl rfl rfl rfl rfl rfl rfl td uc rfl ?_ | refine o_n (n_b26 rfl rfl) rfl ?_ | refine o_n (n_b26NR rfl rfl rfl rfl rfl) rfl ?_ | refine o_n (n_b26R rfl rfl rfl rfl) rfl ?_ | refine o_n (n_b26CR rfl rfl rfl rfl) rfl ?_ | refine o_n (n_b91 rfl rfl rfl rfl rfl rfl) rfl ?_ | refine o_n (peval_sound rfl) rfl ?_ | refine o_n (nl rfl rfl tc rfl) rfl ?_ | refine o_n (dR rfl rfl td rfl rfl rfl) rfl ?_ | refine o_n (dA rfl rfl td rfl rfl) rfl ?_ | refine o_n (dK rfl rfl td rfl rfl) rfl ?_ | refine o_storeC rfl rfl rfl rfl tc uc rfl rfl rfl ?_ | refine o_box rfl rfl (fun _ => ?_) | refine o_box1 rfl rfl rfl (fun _ => ?_) | refine o_alloc rfl rfl (fun _ => ?_))) | refine e_noU rfl rfl rfl ?_ | refine e_noN rfl rfl ?_ | refine s_seq ?_ | refine s_region ?_ | refine s_block ?_ | refine s_end ?_ | refine s_skip ?_ | refine s_exit ?_ | refine s_true rfl ?_ | refine s_false rfl ?_ | refine x_hit ?_ | refine x_code ?_ | refine x_back ?_ | refine x_miss rfl ?_)
    refine s_weak ?_ (Ent.refl _) hj
    refine Sub.consE rfl ?_ (Sub.nil _)
    unfold smallM kM
    rw [decide_eq_true (by omega : m.Next.length ≤ 40), decide_eq_false h2, Bool.true_and, Bool.false_or]
    congr 2
    simp [List.getD_eq_getElem?_getD, h0]
    omega
  · have h1 := of_decide_eq_false ‹decide ((m.Next.length : Int) ≤ 40) = false›
    refine s_weak ?_ (Ent.refl _) hj
    refine Sub.consE rfl ?_ (Sub.nil _)
    unfold smallM
    rw [decide_eq_false (by omega), Bool.false_and]

theorem lim_t {m : Mach} (h : m.Next.length > 512 ∨ m.Rule.length > 512 ∨ ∃ r ∈ m.Next, r.length > 256) : Value.int .i64 5 = Value.int .i64 (checkM m) := by
  rw [checkM_5]
  unfold limM
  simp only [Bool.or_eq_true, decide_eq_true_eq, List.any_eq_true]
  exact h
theorem lim_ff {m : Mach} (h1 : ¬ m.Next.length > 512) (h2 : ¬ m.Rule.length > 512) (h3 : ∀ r ∈ m.Next, ¬ r.length > 256) : limM m = false := by
  unfold limM
  simp only [Bool.or_eq_false_iff, decide_eq_false_iff_not, List.any_eq_false, decide_eq_true_eq]
  exact ⟨h1, h2, h3⟩
theorem bad_2 {m : Mach} (hl : limM m = false) (h : MOk m → False) : Value.int .i64 2 = Value.int .i64 (checkM m) := by
  by_cases h2 : checkM m = 0
  · exact (h (check_mok h2)).elim
  · unfold checkM at h2 ⊢
    rw [hl] at h2 ⊢
    simp only [Bool.false_eq_true, if_false] at h2 ⊢
    by_cases h3 : formM m = true
    · rw [if_pos h3]
    · rw [if_neg h3] at h2 ⊢
      by_cases h4 : restM m = true
      · rw [if_pos h4] at h2; exact absurd rfl h2
      · rw [if_neg h4]

theorem formF {m : Mach} (h : formM m = false) : 0 < m.Next.length ∧ m.Rule.length = m.Next.length ∧ 0 < kM m := by
  unfold formM at h
  simp only [Bool.or_eq_false_iff, decide_eq_false_iff_not] at h
  omega

structure RowOk (m : Mach) (j : Nat) : Prop where
  len : (m.Next.getD j []).length = kM m
  rul : -1 ≤ m.Rule.getD j 0 ∧ m.Rule.getD j 0 < 64
  go : ∀ v ∈ m.Next.getD j [], -1 ≤ v ∧ v < m.Next.length

theorem getD_lt {α : Type} {l : List α} {i : Nat} {d : α} (h : i < l.length) : l.getD i d = l[i] := by rw [List.getD_eq_getElem?_getD, List.getElem?_eq_getElem h]; rfl

theorem rowOk_mk {m : Mach} {j : Nat} (h1 : j < m.Next.length) (h2 : j < m.Rule.length) (hl : m.Next[j].length = kM m) (hr : -1 ≤ m.Rule[j] ∧ m.Rule[j] < 64) (hg : ∀ v ∈ m.Next[j], -1 ≤ v ∧ v < m.Next.length) : RowOk m j :=
  ⟨by rw [getD_lt h1]; exact hl, by rw [getD_lt h2]; exact hr, by rw [getD_lt h1]; exact hg⟩

theorem mok_rows {m : Mach} (hl : limM m = false) (f1 : 0 < m.Next.length) (f2 : m.Rule.length = m.Next.length) (f3 : 0 < kM m) (hc : ∀ j, j < 256 → 0 ≤ m.Class.get j ∧ m.Class.get j < kM m)
    (hr : ∀ j, j < m.Next.length → j < m.Next.length → RowOk m j) : MOk m := by
  unfold limM at hl
  simp only [Bool.or_eq_false_iff, decide_eq_false_iff_not, List.any_eq_false, decide_eq_true_eq] at hl
  obtain ⟨l1, l2, l3⟩ := hl
  refine ⟨f1, by omega, f2, f3, ?_, ?_, fun i hi => ?_, ?_, fun i hi => ?_⟩
  · have : kM m = m.Next[0].length := by unfold kM; rw [getD_lt f1]
    rw [this]
    have := l3 _ (List.getElem_mem f1)
    omega
  · intro v hv
    obtain ⟨i, hi, rfl⟩ := List.getElem_of_mem hv
    rw [← C256.get_eq _ hi]
    exact hc i (by rw [← m.Class.h]; exact hi)
  · have := (hr i hi hi).len; rwa [getD_lt hi] at this
  · intro v hv
    obtain ⟨i, hi, rfl⟩ := List.getElem_of_mem hv
    have := (hr i (by omega) (by omega)).rul
    rwa [getD_lt hi] at this
  · have := (hr i hi hi).go; rwa [getD_lt hi] at this

theorem dcheck_w (cs : List Value) (m : Mach) : Trip Try.prog 5 [.agg cs.toArray] (kDfa.rd cs m) [] (fun v V => v = .int .i64 (checkM m) ∧ V = []) := by
  refine trip Try.tabOk Try.func5 rfl rfl rfl rfl ?_
  intro w SM hR
  obtain ⟨A1, A2, c1, c2, rfl, hD⟩ := kDfa_open hR
  have hN := hD.next.2.1
  have hRl := hD.rule.2.1
  repeat' (first | refine e_nil ?_ | ((first | refine e_op ?_ | refine e_yes rfl ?_); (first | refine o_dNew rfl rfl rfl (fun _ => ?_) | refine o_dNew0 rfl rfl rfl (fun _ => ?_) | refine dAll rfl rfl rfl td uc rfl rfl rfl ?_ | refine dS rfl rfl rfl rfl rfl rfl rfl td uc rfl ?_ | refine o_n (n_b26 rfl rfl) rfl ?_ | refine o_n (n_b26NR rfl rfl rfl rfl rfl) rfl ?_ | refine o_n (n_b26R rfl rfl rfl rfl) rfl ?_ | refine o_n (n_b26CR rfl rfl rfl rfl) rfl ?_ | refine o_n (n_b91 rfl rfl rfl rfl rfl rfl) rfl ?_ | refine o_n (peval_sound rfl) rfl ?_ | refine o_n (nl rfl rfl tc rfl) rfl ?_ | refine o_n (dR rfl rfl td rfl rfl rfl) rfl ?_ | refine o_n (dA rfl rfl td rfl rfl) rfl ?_ | refine o_n (dK rfl rfl td rfl rfl) rfl ?_ | refine o_storeC rfl rfl rfl rfl tc uc rfl rfl rfl ?_ | refine o_box rfl rfl (fun _ => ?_) | refine o_box1 rfl rfl rfl (fun _ => ?_) | refine o_alloc rfl rfl (fun _ => ?_))) | refine e_noU rfl rfl rfl ?_ | refine e_noN rfl rfl ?_ | refine s_seq ?_ | refine s_region ?_ | refine s_block ?_ | refine s_end ?_ | refine s_skip ?_ | refine s_exit ?_ | refine s_true rfl ?_ | refine s_false rfl ?_ | refine x_hit ?_ | refine x_code ?_ | refine x_back ?_ | refine x_miss rfl ?_)
  rename_i b1
  repeat' (first | refine e_nil ?_ | ((first | refine e_op ?_ | refine e_yes rfl ?_); (first | refine o_dNew rfl rfl rfl (fun _ => ?_) | refine o_dNew0 rfl rfl rfl (fun _ => ?_) | refine dAll rfl rfl rfl td uc rfl rfl rfl ?_ | refine dS rfl rfl rfl rfl rfl rfl rfl td uc rfl ?_ | refine o_n (n_b26 rfl rfl) rfl ?_ | refine o_n (n_b26NR rfl rfl rfl rfl rfl) rfl ?_ | refine o_n (n_b26R rfl rfl rfl rfl) rfl ?_ | refine o_n (n_b26CR rfl rfl rfl rfl) rfl ?_ | refine o_n (n_b91 rfl rfl rfl rfl rfl rfl) rfl ?_ | refine o_n (peval_sound rfl) rfl ?_ | refine o_n (nl rfl rfl tc rfl) rfl ?_ | refine o_n (dR rfl rfl td rfl rfl rfl) rfl ?_ | refine o_n (dA rfl rfl td rfl rfl) rfl ?_ | refine o_n (dK rfl rfl td rfl rfl) rfl ?_ | refine o_storeC rfl rfl rfl rfl tc uc rfl rfl rfl ?_ | refine o_box rfl rfl (fun _ => ?_) | refine o_box1 rfl rfl rfl (fun _ => ?_) | refine o_alloc rfl rfl (fun _ => ?_))) | refine e_noU rfl rfl rfl ?_ | refine e_noN rfl rfl ?_ | refine s_seq ?_ | refine s_region ?_ | refine s_block ?_ | refine s_end ?_ | refine s_skip ?_ | refine s_exit ?_ | refine s_true rfl ?_ | refine s_false rfl ?_ | refine x_hit ?_ | refine x_code ?_ | refine x_back ?_ | refine x_miss rfl ?_ | ((fail_if_success (refine e_dec true (by exact rfl) ?_)); (fail_if_success (refine e_dec false (by exact rfl) ?_)); refine e_part rfl rfl (fun h => ?_) (fun h => ?_)) | refine s_cond rfl (fun h => ?_) (fun h => ?_))
  · exact s_ret ⟨_, _, res1 rfl rfl, ⟨lim_t (.inl (by have := of_decide_eq_true h; omega)), rfl⟩, Ent.nil _⟩
  · exact s_ret ⟨_, _, res1 rfl rfl, ⟨lim_t (.inr (.inl (by have := of_decide_eq_true h; omega))), rfl⟩, Ent.nil _⟩
  have k2 := of_decide_eq_false h
  have k1 := of_decide_eq_false ‹decide ((m.Next.length : Int) > 512) = false›
  refine e_yes rfl (o_call (contains_w A1 c1 m.Next) rfl .nil (Can.ro (sl_mk hD.next)) rfl ?_)
  rintro v V ⟨rfl, rfl⟩
  repeat' (first | refine e_nil ?_ | ((first | refine e_op ?_ | refine e_yes rfl ?_); (first | refine o_dNew rfl rfl rfl (fun _ => ?_) | refine o_dNew0 rfl rfl rfl (fun _ => ?_) | refine dAll rfl rfl rfl td uc rfl rfl rfl ?_ | refine dS rfl rfl rfl rfl rfl rfl rfl td uc rfl ?_ | refine o_n (n_b26 rfl rfl) rfl ?_ | refine o_n (n_b26NR rfl rfl rfl rfl rfl) rfl ?_ | refine o_n (n_b26R rfl rfl rfl rfl) rfl ?_ | refine o_n (n_b26CR rfl rfl rfl rfl) rfl ?_ | refine o_n (n_b91 rfl rfl rfl rfl rfl rfl) rfl ?_ | refine o_n (peval_sound rfl) rfl ?_ | refine o_n (nl rfl rfl tc rfl) rfl ?_ | refine o_n (dR rfl rfl td rfl rfl rfl) rfl ?_ | refine o_n (dA rfl rfl td rfl rfl) rfl ?_ | refine o_n (dK rfl rfl td rfl rfl) rfl ?_ | refine o_storeC rfl rfl rfl rfl tc uc rfl rfl rfl ?_ | refine o_box rfl rfl (fun _ => ?_) | refine o_box1 rfl rfl rfl (fun _ => ?_) | refine o_alloc rfl rfl (fun _ => ?_))) | refine e_noU rfl rfl rfl ?_ | refine e_noN rfl rfl ?_ | refine s_seq ?_ | refine s_region ?_ | refine s_block ?_ | refine s_end ?_ | refine s_skip ?_ | refine s_exit ?_ | refine s_true rfl ?_ | refine s_false rfl ?_ | refine x_hit ?_ | refine x_code ?_ | refine x_back ?_ | refine x_miss rfl ?_)
  refine s_cond rfl (fun h => ?_) (fun h => ?_)
  · repeat' (first | refine e_nil ?_ | ((first | refine e_op ?_ | refine e_yes rfl ?_); (first | refine o_dNew rfl rfl rfl (fun _ => ?_) | refine o_dNew0 rfl rfl rfl (fun _ => ?_) | refine dAll rfl rfl rfl td uc rfl rfl rfl ?_ | refine dS rfl rfl rfl rfl rfl rfl rfl td uc rfl ?_ | refine o_n (n_b26 rfl rfl) rfl ?_ | refine o_n (n_b26NR rfl rfl rfl rfl rfl) rfl ?_ | refine o_n (n_b26R rfl rfl rfl rfl) rfl ?_ | refine o_n (n_b26CR rfl rfl rfl rfl) rfl ?_ | refine o_n (n_b91 rfl rfl rfl rfl rfl rfl) rfl ?_ | refine o_n (peval_sound rfl) rfl ?_ | refine o_n (nl rfl rfl tc rfl) rfl ?_ | refine o_n (dR rfl rfl td rfl rfl rfl) rfl ?_ | refine o_n (dA rfl rfl td rfl rfl) rfl ?_ | refine o_n (dK rfl rfl td rfl rfl) rfl ?_ | refine o_storeC rfl rfl rfl rfl tc uc rfl rfl rfl ?_ | refine o_box rfl rfl (fun _ => ?_) | refine o_box1 rfl rfl rfl (fun _ => ?_) | refine o_alloc rfl rfl (fun _ => ?_))) | refine e_noU rfl rfl rfl ?_ | refine e_noN rfl rfl ?_ | refine s_seq ?_ | refine s_region ?_ | refine s_block ?_ | refine s_end ?_ | refine s_skip ?_ | refine s_exit ?_ | refine s_true rfl ?_ | refine s_false rfl ?_ | refine x_hit ?_ | refine x_code ?_ | refine x_back ?_ | refine x_miss rfl ?_)
    rw [List.any_eq_true] at h
    obtain ⟨r, hr, h9⟩ := h
    exact s_ret ⟨_, _, res1 rfl rfl, ⟨lim_t (.inr (.inr ⟨r, hr, of_decide_eq_true h9⟩)), rfl⟩, Ent.nil _⟩
  have hl : limM m = false := by
    refine lim_ff (by omega) (by omega) (fun r hr => ?_)
    have h9 := List.any_eq_false.1 h r hr
    simpa using h9
  clear h k1 k2
  repeat' (first | refine e_nil ?_ | ((first | refine e_op ?_ | refine e_yes rfl ?_); (first | refine o_dNew rfl rfl rfl (fun _ => ?_) | refine o_dNew0 rfl rfl rfl (fun _ => ?_) | refine dAll rfl rfl rfl td uc rfl rfl rfl ?_ | refine dS rfl rfl rfl rfl rfl rfl rfl td uc rfl ?_ | refine o_n (n_b26 rfl rfl) rfl ?_ | refine o_n (n_b26NR rfl rfl rfl rfl rfl) rfl ?_ | refine o_n (n_b26R rfl rfl rfl rfl) rfl ?_ | refine o_n (n_b26CR rfl rfl rfl rfl) rfl ?_ | refine o_n (n_b91 rfl rfl rfl rfl rfl rfl) rfl ?_ | refine o_n (peval_sound rfl) rfl ?_ | refine o_n (nl rfl rfl tc rfl) rfl ?_ | refine o_n (dR rfl rfl td rfl rfl rfl) rfl ?_ | refine o_n (dA rfl rfl td rfl rfl) rfl ?_ | refine o_n (dK rfl rfl td rfl rfl) rfl ?_ | refine o_storeC rfl rfl rfl rfl tc uc rfl rfl rfl ?_ | refine o_box rfl rfl (fun _ => ?_) | refine o_box1 rfl rfl rfl (fun _ => ?_) | refine o_alloc rfl rfl (fun _ => ?_))) | refine e_noU rfl rfl rfl ?_ | refine e_noN rfl rfl ?_ | refine s_seq ?_ | refine s_region ?_ | refine s_block ?_ | refine s_end ?_ | refine s_skip ?_ | refine s_exit ?_ | refine s_true rfl ?_ | refine s_false rfl ?_ | refine x_hit ?_ | refine x_code ?_ | refine x_back ?_ | refine x_miss rfl ?_ | ((fail_if_success (refine e_dec true (by exact rfl) ?_)); (fail_if_success (refine e_dec false (by exact rfl) ?_)); refine e_part rfl rfl (fun h => ?_) (fun h => ?_)) | refine s_cond rfl (fun h => ?_) (fun h => ?_))
  · refine s_ret ⟨_, _, res1 rfl rfl, ⟨bad_2 hl (fun o => ?_), rfl⟩, Ent.nil _⟩
    have h1 := o.n0
    simp only [beq_iff_eq] at h
    omega
  · refine s_ret ⟨_, _, res1 rfl rfl, ⟨bad_2 hl (fun o => ?_), rfl⟩, Ent.nil _⟩
    have h1 := o.r
    simp only [bne_iff_ne, ne_eq] at h
    omega
  have f1 : 0 < m.Next.length := by
    have h1 := ‹((m.Next.length : Int) == 0) = false›
    simp only [beq_eq_false_iff_ne, ne_eq] at h1
    omega
  have f2 : m.Rule.length = m.Next.length := by
    simp only [bne_eq_false_iff_eq] at h
    omega
  clear h
  obtain ⟨b, o, es, rfl, hb, ⟨Ar, cr, rfl, hr⟩, hc⟩ := hD.next.2.2 0 f1
  have hk : m.Next[0].length = kM m := by unfold kM; simp [List.getD_eq_getElem?_getD, f1]
  rw [hk] at hc
  refine e_yes rfl (o_n (n_index rfl rfl rfl rfl 0 rfl f1) rfl ?_)
  refine e_yes rfl (o_n (n_load_ro rfl rfl hb (loads_one rfl (hc 0 _ rfl))) rfl ?_)
  repeat' (first | refine e_nil ?_ | ((first | refine e_op ?_ | refine e_yes rfl ?_); (first | refine o_dNew rfl rfl rfl (fun _ => ?_) | refine o_dNew0 rfl rfl rfl (fun _ => ?_) | refine dAll rfl rfl rfl td uc rfl rfl rfl ?_ | refine dS rfl rfl rfl rfl rfl rfl rfl td uc rfl ?_ | refine o_n (n_b26 rfl rfl) rfl ?_ | refine o_n (n_b26NR rfl rfl rfl rfl rfl) rfl ?_ | refine o_n (n_b26R rfl rfl rfl rfl) rfl ?_ | refine o_n (n_b26CR rfl rfl rfl rfl) rfl ?_ | refine o_n (n_b91 rfl rfl rfl rfl rfl rfl) rfl ?_ | refine o_n (peval_sound rfl) rfl ?_ | refine o_n (nl rfl rfl tc rfl) rfl ?_ | refine o_n (dR rfl rfl td rfl rfl rfl) rfl ?_ | refine o_n (dA rfl rfl td rfl rfl) rfl ?_ | refine o_n (dK rfl rfl td rfl rfl) rfl ?_ | refine o_storeC rfl rfl rfl rfl tc uc rfl rfl rfl ?_ | refine o_box rfl rfl (fun _ => ?_) | refine o_box1 rfl rfl rfl (fun _ => ?_) | refine o_alloc rfl rfl (fun _ => ?_))) | refine e_noU rfl rfl rfl ?_ | refine e_noN rfl rfl ?_ | refine s_seq ?_ | refine s_region ?_ | refine s_block ?_ | refine s_end ?_ | refine s_skip ?_ | refine s_exit ?_ | refine s_true rfl ?_ | refine s_false rfl ?_ | refine x_hit ?_ | refine x_code ?_ | refine x_back ?_ | refine x_miss rfl ?_)
  refine s_cond rfl (fun h => ?_) (fun h => ?_)
  · repeat' (first | refine e_nil ?_ | ((first | refine e_op ?_ | refine e_yes rfl ?_); (first | refine o_dNew rfl rfl rfl (fun _ => ?_) | refine o_dNew0 rfl rfl rfl (fun _ => ?_) | refine dAll rfl rfl rfl td uc rfl rfl rfl ?_ | refine dS rfl rfl rfl rfl rfl rfl rfl td uc rfl ?_ | refine o_n (n_b26 rfl rfl) rfl ?_ | refine o_n (n_b26NR rfl rfl rfl rfl rfl) rfl ?_ | refine o_n (n_b26R rfl rfl rfl rfl) rfl ?_ | refine o_n (n_b26CR rfl rfl rfl rfl) rfl ?_ | refine o_n (n_b91 rfl rfl rfl rfl rfl rfl) rfl ?_ | refine o_n (peval_sound rfl) rfl ?_ | refine o_n (nl rfl rfl tc rfl) rfl ?_ | refine o_n (dR rfl rfl td rfl rfl rfl) rfl ?_ | refine o_n (dA rfl rfl td rfl rfl) rfl ?_ | refine o_n (dK rfl rfl td rfl rfl) rfl ?_ | refine o_storeC rfl rfl rfl rfl tc uc rfl rfl rfl ?_ | refine o_box rfl rfl (fun _ => ?_) | refine o_box1 rfl rfl rfl (fun _ => ?_) | refine o_alloc rfl rfl (fun _ => ?_))) | refine e_noU rfl rfl rfl ?_ | refine e_noN rfl rfl ?_ | refine s_seq ?_ | refine s_region ?_ | refine s_block ?_ | refine s_end ?_ | refine s_skip ?_ | refine s_exit ?_ | refine s_true rfl ?_ | refine s_false rfl ?_ | refine x_hit ?_ | refine x_code ?_ | refine x_back ?_ | refine x_miss rfl ?_)
    refine s_ret ⟨_, _, res1 rfl rfl, ⟨bad_2 hl (fun o => ?_), rfl⟩, Ent.nil _⟩
    have h1 := o.k0
    simp only [beq_iff_eq] at h
    omega
  have f3 : 0 < kM m := by
    simp only [beq_eq_false_iff_ne, ne_eq] at h
    omega
  clear h
  repeat' (first | refine e_nil ?_ | ((first | refine e_op ?_ | refine e_yes rfl ?_); (first | refine o_dNew rfl rfl rfl (fun _ => ?_) | refine o_dNew0 rfl rfl rfl (fun _ => ?_) | refine dAll rfl rfl rfl td uc rfl rfl rfl ?_ | refine dS rfl rfl rfl rfl rfl rfl rfl td uc rfl ?_ | refine o_n (n_b26 rfl rfl) rfl ?_ | refine o_n (n_b26NR rfl rfl rfl rfl rfl) rfl ?_ | refine o_n (n_b26R rfl rfl rfl rfl) rfl ?_ | refine o_n (n_b26CR rfl rfl rfl rfl) rfl ?_ | refine o_n (n_b91 rfl rfl rfl rfl rfl rfl) rfl ?_ | refine o_n (peval_sound rfl) rfl ?_ | refine o_n (nl rfl rfl tc rfl) rfl ?_ | refine o_n (dR rfl rfl td rfl rfl rfl) rfl ?_ | refine o_n (dA rfl rfl td rfl rfl) rfl ?_ | refine o_n (dK rfl rfl td rfl rfl) rfl ?_ | refine o_storeC rfl rfl rfl rfl tc uc rfl rfl rfl ?_ | refine o_box rfl rfl (fun _ => ?_) | refine o_box1 rfl rfl rfl (fun _ => ?_) | refine o_alloc rfl rfl (fun _ => ?_))) | refine e_noU rfl rfl rfl ?_ | refine e_noN rfl rfl ?_ | refine s_seq ?_ | refine s_region ?_ | refine s_block ?_ | refine s_end ?_ | refine s_skip ?_ | refine s_exit ?_ | refine s_true rfl ?_ | refine s_false rfl ?_ | refine x_hit ?_ | refine x_code ?_ | refine x_back ?_ | refine x_miss rfl ?_)
  refine e_op (o_n (n_index rfl rfl rfl rfl 0 rfl f1) rfl ?_)
  refine e_op (o_n (n_load_ro rfl rfl hb (loads_one rfl (hc 0 _ rfl))) rfl ?_)
  repeat' (first | refine e_nil ?_ | ((first | refine e_op ?_ | refine e_yes rfl ?_); (first | refine o_dNew rfl rfl rfl (fun _ => ?_) | refine o_dNew0 rfl rfl rfl (fun _ => ?_) | refine dAll rfl rfl rfl td uc rfl rfl rfl ?_ | refine dS rfl rfl rfl rfl rfl rfl rfl td uc rfl ?_ | refine o_n (n_b26 rfl rfl) rfl ?_ | refine o_n (n_b26NR rfl rfl rfl rfl rfl) rfl ?_ | refine o_n (n_b26R rfl rfl rfl rfl) rfl ?_ | refine o_n (n_b26CR rfl rfl rfl rfl) rfl ?_ | refine o_n (n_b91 rfl rfl rfl rfl rfl rfl) rfl ?_ | refine o_n (peval_sound rfl) rfl ?_ | refine o_n (nl rfl rfl tc rfl) rfl ?_ | refine o_n (dR rfl rfl td rfl rfl rfl) rfl ?_ | refine o_n (dA rfl rfl td rfl rfl) rfl ?_ | refine o_n (dK rfl rfl td rfl rfl) rfl ?_ | refine o_storeC rfl rfl rfl rfl tc uc rfl rfl rfl ?_ | refine o_box rfl rfl (fun _ => ?_) | refine o_box1 rfl rfl rfl (fun _ => ?_) | refine o_alloc rfl rfl (fun _ => ?_))) | refine e_noU rfl rfl rfl ?_ | refine e_noN rfl rfl ?_ | refine s_seq ?_ | refine s_region ?_ | refine s_block ?_ | refine s_end ?_ | refine s_skip ?_ | refine s_exit ?_ | refine s_true rfl ?_ | refine s_false rfl ?_ | refine x_hit ?_ | refine x_code ?_ | refine x_back ?_ | refine x_miss rfl ?_)
  refine s_loopK (ι := {i : Nat // i ≤ 256 ∧ ∀ j, j < i → 0 ≤ m.Class.get j ∧ m.Class.get j < kM m}) [1, 3, 52] rfl ⟨0, by omega, fun j h => by omega⟩ (fun i => [(53, .int .i64 i.1)])
    (fun _ => [blk b1 26 (dC m.Class [.slice (some ⟨b, o, none⟩) m.Next.length c1, .slice A2 m.Rule.length c2])]) (fun i => 256 - i.1) ?_ (by repeat' (first | exact Ent.nil _ | refine Ent.tak tk ?_)) ?_
  · repeat' (first | exact Sub.nil _ | refine Sub.cons rfl ?_ | refine Sub.consE rfl ?_ ?_)
  rintro ⟨i, hi, hok⟩
  simp only at hi hok ⊢
  repeat' (first | refine e_nil ?_ | ((first | refine e_op ?_ | refine e_yes rfl ?_); (first | refine o_dNew rfl rfl rfl (fun _ => ?_) | refine o_dNew0 rfl rfl rfl (fun _ => ?_) | refine dAll rfl rfl rfl td uc rfl rfl rfl ?_ | refine dS rfl rfl rfl rfl rfl rfl rfl td uc rfl ?_ | refine o_n (n_b26 rfl rfl) rfl ?_ | refine o_n (n_b26NR rfl rfl rfl rfl rfl) rfl ?_ | refine o_n (n_b26R rfl rfl rfl rfl) rfl ?_ | refine o_n (n_b26CR rfl rfl rfl rfl) rfl ?_ | refine o_n (n_b91 rfl rfl rfl rfl rfl rfl) rfl ?_ | refine o_n (peval_sound rfl) rfl ?_ | refine o_n (nl rfl rfl tc rfl) rfl ?_ | refine o_n (dR rfl rfl td rfl rfl rfl) rfl ?_ | refine o_n (dA rfl rfl td rfl rfl) rfl ?_ | refine o_n (dK rfl rfl td rfl rfl) rfl ?_ | refine o_storeC rfl rfl rfl rfl tc uc rfl rfl rfl ?_ | refine o_box rfl rfl (fun _ => ?_) | refine o_box1 rfl rfl rfl (fun _ => ?_) | refine o_alloc rfl rfl (fun _ => ?_))) | refine e_noU rfl rfl rfl ?_ | refine e_noN rfl rfl ?_ | refine s_seq ?_ | refine s_region ?_ | refine s_block ?_ | refine s_end ?_ | refine s_skip ?_ | refine s_exit ?_ | refine s_true rfl ?_ | refine s_false rfl ?_ | refine x_hit ?_ | refine x_code ?_ | refine x_back ?_ | refine x_miss rfl ?_)
  refine s_cond rfl (fun h => ?_) (fun h => ?_)
  · have hlt : i < 256 := by have := of_decide_eq_true h; omega
    clear h
    repeat' (first | refine e_nil ?_ | ((first | refine e_op ?_ | refine e_yes rfl ?_); (first | refine o_dNew rfl rfl rfl (fun _ => ?_) | refine o_dNew0 rfl rfl rfl (fun _ => ?_) | refine dAll rfl rfl rfl td uc rfl rfl rfl ?_ | refine dS rfl rfl rfl rfl rfl rfl rfl td uc rfl ?_ | refine o_n (n_b26 rfl rfl) rfl ?_ | refine o_n (n_b26NR rfl rfl rfl rfl rfl) rfl ?_ | refine o_n (n_b26R rfl rfl rfl rfl) rfl ?_ | refine o_n (n_b26CR rfl rfl rfl rfl) rfl ?_ | refine o_n (n_b91 rfl rfl rfl rfl rfl rfl) rfl ?_ | refine o_n (peval_sound rfl) rfl ?_ | refine o_n (nl rfl rfl tc rfl) rfl ?_ | refine o_n (dR rfl rfl td rfl rfl rfl) rfl ?_ | refine o_n (dA rfl rfl td rfl rfl) rfl ?_ | refine o_n (dK rfl rfl td rfl rfl) rfl ?_ | refine o_storeC rfl rfl rfl rfl tc uc rfl rfl rfl ?_ | refine o_box rfl rfl (fun _ => ?_) | refine o_box1 rfl rfl rfl (fun _ => ?_) | refine o_alloc rfl rfl (fun _ => ?_))) | refine e_noU rfl rfl rfl ?_ | refine e_noN rfl rfl ?_ | refine s_seq ?_ | refine s_region ?_ | refine s_block ?_ | refine s_end ?_ | refine s_skip ?_ | refine s_exit ?_ | refine s_true rfl ?_ | refine s_false rfl ?_ | refine x_hit ?_ | refine x_code ?_ | refine x_back ?_ | refine x_miss rfl ?_)
    refine e_op (o_n (n_idxD rfl rfl rfl rfl rfl rfl rfl i rfl hlt) rfl ?_)
    repeat' (first | refine e_nil ?_ | ((first | refine e_op ?_ | refine e_yes rfl ?_); (first | refine o_dNew rfl rfl rfl (fun _ => ?_) | refine o_dNew0 rfl rfl rfl (fun _ => ?_) | refine dAll rfl rfl rfl td uc rfl rfl rfl ?_ | refine dS rfl rfl rfl rfl rfl rfl rfl td uc rfl ?_ | refine o_n (n_b26 rfl rfl) rfl ?_ | refine o_n (n_b26NR rfl rfl rfl rfl rfl) rfl ?_ | refine o_n (n_b26R rfl rfl rfl rfl) rfl ?_ | refine o_n (n_b26CR rfl rfl rfl rfl) rfl ?_ | refine o_n (n_b91 rfl rfl rfl rfl rfl rfl) rfl ?_ | refine o_n (peval_sound rfl) rfl ?_ | refine o_n (nl rfl rfl tc rfl) rfl ?_ | refine o_n (dR rfl rfl td rfl rfl rfl) rfl ?_ | refine o_n (dA rfl rfl td rfl rfl) rfl ?_ | refine o_n (dK rfl rfl td rfl rfl) rfl ?_ | refine o_storeC rfl rfl rfl rfl tc uc rfl rfl rfl ?_ | refine o_box rfl rfl (fun _ => ?_) | refine o_box1 rfl rfl rfl (fun _ => ?_) | refine o_alloc rfl rfl (fun _ => ?_))) | refine e_noU rfl rfl rfl ?_ | refine e_noN rfl rfl ?_ | refine s_seq ?_ | refine s_region ?_ | refine s_block ?_ | refine s_end ?_ | refine s_skip ?_ | refine s_exit ?_ | refine s_true rfl ?_ | refine s_false rfl ?_ | refine x_hit ?_ | refine x_code ?_ | refine x_back ?_ | refine x_miss rfl ?_ | ((fail_if_success (refine e_dec true (by exact rfl) ?_)); (fail_if_success (refine e_dec false (by exact rfl) ?_)); refine e_part rfl rfl (fun h => ?_) (fun h => ?_)) | refine s_cond rfl (fun h => ?_) (fun h => ?_))
    · refine s_ret ⟨_, _, res1 rfl rfl, ⟨bad_2 hl (fun o => ?_), rfl⟩, Ent.nil _⟩
      have h1 := o.cls _ (m.Class.get_mem hlt)
      have h2 := of_decide_eq_true h
      omega
    · refine s_ret ⟨_, _, res1 rfl rfl, ⟨bad_2 hl (fun o => ?_), rfl⟩, Ent.nil _⟩
      have h1 := o.cls _ (m.Class.get_mem hlt)
      have h2 := of_decide_eq_true h
      omega
    · have h2 := of_decide_eq_false h
      have h3 := of_decide_eq_false ‹decide (m.Class.get i < 0) = false›
      refine s_back ⟨⟨i + 1, by omega, ?_⟩, by simp only; omega, ?_, by repeat' (first | exact Ent.nil _ | refine Ent.tak tk ?_)⟩
      · intro j hji
        by_cases e : j = i
        · subst e; omega
        · exact hok j (by omega)
      · repeat' (first | exact Sub.nil _ | refine Sub.cons rfl ?_ | refine Sub.consE rfl ?_ ?_)
        exact inc (i := i) (by omega)
  have hge : i = 256 := by have := of_decide_eq_false h; omega
  subst hge
  clear h hi
  repeat' (first | refine e_nil ?_ | ((first | refine e_op ?_ | refine e_yes rfl ?_); (first | refine o_dNew rfl rfl rfl (fun _ => ?_) | refine o_dNew0 rfl rfl rfl (fun _ => ?_) | refine dAll rfl rfl rfl td uc rfl rfl rfl ?_ | refine dS rfl rfl rfl rfl rfl rfl rfl td uc rfl ?_ | refine o_n (n_b26 rfl rfl) rfl ?_ | refine o_n (n_b26NR rfl rfl rfl rfl rfl) rfl ?_ | refine o_n (n_b26R rfl rfl rfl rfl) rfl ?_ | refine o_n (n_b26CR rfl rfl rfl rfl) rfl ?_ | refine o_n (n_b91 rfl rfl rfl rfl rfl rfl) rfl ?_ | refine o_n (peval_sound rfl) rfl ?_ | refine o_n (nl rfl rfl tc rfl) rfl ?_ | refine o_n (dR rfl rfl td rfl rfl rfl) rfl ?_ | refine o_n (dA rfl rfl td rfl rfl) rfl ?_ | refine o_n (dK rfl rfl td rfl rfl) rfl ?_ | refine o_storeC rfl rfl rfl rfl tc uc rfl rfl rfl ?_ | refine o_box rfl rfl (fun _ => ?_) | refine o_box1 rfl rfl rfl (fun _ => ?_) | refine o_alloc rfl rfl (fun _ => ?_))) | refine e_noU rfl rfl rfl ?_ | refine e_noN rfl rfl ?_ | refine s_seq ?_ | refine s_region ?_ | refine s_block ?_ | refine s_end ?_ | refine s_skip ?_ | refine s_exit ?_ | refine s_true rfl ?_ | refine s_false rfl ?_ | refine x_hit ?_ | refine x_code ?_ | refine x_back ?_ | refine x_miss rfl ?_)
  refine s_loopK (ι := {i : Nat // i ≤ m.Next.length ∧ ∀ j (hj : j < m.Next.length), j < i → RowOk m j}) [1, 3, 65, 66] rfl ⟨0, by omega, fun j _ h => by omega⟩ (fun i => [(67, .int .i64 i.1)])
    (fun _ => [blk b1 26 (dC m.Class [.slice (some ⟨b, o, none⟩) m.Next.length c1, .slice A2 m.Rule.length c2])]) (fun i => m.Next.length - i.1) ?_ (by repeat' (first | exact Ent.nil _ | refine Ent.tak tk ?_)) ?_
  · repeat' (first | exact Sub.nil _ | refine Sub.cons rfl ?_ | refine Sub.consE rfl ?_ ?_)
  rintro ⟨i, hi, hrow⟩
  simp only at hi hrow ⊢
  repeat' (first | refine e_nil ?_ | ((first | refine e_op ?_ | refine e_yes rfl ?_); (first | refine o_dNew rfl rfl rfl (fun _ => ?_) | refine o_dNew0 rfl rfl rfl (fun _ => ?_) | refine dAll rfl rfl rfl td uc rfl rfl rfl ?_ | refine dS rfl rfl rfl rfl rfl rfl rfl td uc rfl ?_ | refine o_n (n_b26 rfl rfl) rfl ?_ | refine o_n (n_b26NR rfl rfl rfl rfl rfl) rfl ?_ | refine o_n (n_b26R rfl rfl rfl rfl) rfl ?_ | refine o_n (n_b26CR rfl rfl rfl rfl) rfl ?_ | refine o_n (n_b91 rfl rfl rfl rfl rfl rfl) rfl ?_ | refine o_n (peval_sound rfl) rfl ?_ | refine o_n (nl rfl rfl tc rfl) rfl ?_ | refine o_n (dR rfl rfl td rfl rfl rfl) rfl ?_ | refine o_n (dA rfl rfl td rfl rfl) rfl ?_ | refine o_n (dK rfl rfl td rfl rfl) rfl ?_ | refine o_storeC rfl rfl rfl rfl tc uc rfl rfl rfl ?_ | refine o_box rfl rfl (fun _ => ?_) | refine o_box1 rfl rfl rfl (fun _ => ?_) | refine o_alloc rfl rfl (fun _ => ?_))) | refine e_noU rfl rfl rfl ?_ | refine e_noN rfl rfl ?_ | refine s_seq ?_ | refine s_region ?_ | refine s_block ?_ | refine s_end ?_ | refine s_skip ?_ | refine s_exit ?_ | refine s_true rfl ?_ | refine s_false rfl ?_ | refine x_hit ?_ | refine x_code ?_ | refine x_back ?_ | refine x_miss rfl ?_)
  refine s_cond rfl (fun h => ?_) (fun h => ?_)
  · have hlt : i < m.Next.length := by have := of_decide_eq_true h; omega
    clear h
    obtain ⟨b3, o3, es3, e3, hb3, ⟨Ar3, cr3, rfl, hr3⟩, hc3⟩ := hD.next.2.2 i hlt
    cases e3
    obtain ⟨b4, o4, es4, rfl, hb4, ⟨rfl, hi4⟩, hc4⟩ := hD.rule.2.2 i (by omega)
    repeat' (first | refine e_nil ?_ | ((first | refine e_op ?_ | refine e_yes rfl ?_); (first | refine o_dNew rfl rfl rfl (fun _ => ?_) | refine o_dNew0 rfl rfl rfl (fun _ => ?_) | refine dAll rfl rfl rfl td uc rfl rfl rfl ?_ | refine dS rfl rfl rfl rfl rfl rfl rfl td uc rfl ?_ | refine o_n (n_b26 rfl rfl) rfl ?_ | refine o_n (n_b26NR rfl rfl rfl rfl rfl) rfl ?_ | refine o_n (n_b26R rfl rfl rfl rfl) rfl ?_ | refine o_n (n_b26CR rfl rfl rfl rfl) rfl ?_ | refine o_n (n_b91 rfl rfl rfl rfl rfl rfl) rfl ?_ | refine o_n (peval_sound rfl) rfl ?_ | refine o_n (nl rfl rfl tc rfl) rfl ?_ | refine o_n (dR rfl rfl td rfl rfl rfl) rfl ?_ | refine o_n (dA rfl rfl td rfl rfl) rfl ?_ | refine o_n (dK rfl rfl td rfl rfl) rfl ?_ | refine o_storeC rfl rfl rfl rfl tc uc rfl rfl rfl ?_ | refine o_box rfl rfl (fun _ => ?_) | refine o_box1 rfl rfl rfl (fun _ => ?_) | refine o_alloc rfl rfl (fun _ => ?_))) | refine e_noU rfl rfl rfl ?_ | refine e_noN rfl rfl ?_ | refine s_seq ?_ | refine s_region ?_ | refine s_block ?_ | refine s_end ?_ | refine s_skip ?_ | refine s_exit ?_ | refine s_true rfl ?_ | refine s_false rfl ?_ | refine x_hit ?_ | refine x_code ?_ | refine x_back ?_ | refine x_miss rfl ?_)
    refine e_op (o_n (n_index rfl rfl rfl rfl i rfl hlt) rfl ?_)
    refine e_op (o_n (n_load_ro rfl rfl hb3 (loads_one rfl (hc3 0 _ rfl))) rfl ?_)
    repeat' (first | refine e_nil ?_ | ((first | refine e_op ?_ | refine e_yes rfl ?_); (first | refine o_dNew rfl rfl rfl (fun _ => ?_) | refine o_dNew0 rfl rfl rfl (fun _ => ?_) | refine dAll rfl rfl rfl td uc rfl rfl rfl ?_ | refine dS rfl rfl rfl rfl rfl rfl rfl td uc rfl ?_ | refine o_n (n_b26 rfl rfl) rfl ?_ | refine o_n (n_b26NR rfl rfl rfl rfl rfl) rfl ?_ | refine o_n (n_b26R rfl rfl rfl rfl) rfl ?_ | refine o_n (n_b26CR rfl rfl rfl rfl) rfl ?_ | refine o_n (n_b91 rfl rfl rfl rfl rfl rfl) rfl ?_ | refine o_n (peval_sound rfl) rfl ?_ | refine o_n (nl rfl rfl tc rfl) rfl ?_ | refine o_n (dR rfl rfl td rfl rfl rfl) rfl ?_ | refine o_n (dA rfl rfl td rfl rfl) rfl ?_ | refine o_n (dK rfl rfl td rfl rfl) rfl ?_ | refine o_storeC rfl rfl rfl rfl tc uc rfl rfl rfl ?_ | refine o_box rfl rfl (fun _ => ?_) | refine o_box1 rfl rfl rfl (fun _ => ?_) | refine o_alloc rfl rfl (fun _ => ?_))) | refine e_noU rfl rfl rfl ?_ | refine e_noN rfl rfl ?_ | refine s_seq ?_ | refine s_region ?_ | refine s_block ?_ | refine s_end ?_ | refine s_skip ?_ | refine s_exit ?_ | refine s_true rfl ?_ | refine s_false rfl ?_ | refine x_hit ?_ | refine x_code ?_ | refine x_back ?_ | refine x_miss rfl ?_ | ((fail_if_success (refine e_dec true (by exact rfl) ?_)); (fail_if_success (refine e_dec false (by exact rfl) ?_)); refine e_part rfl rfl (fun h => ?_) (fun h => ?_)) | refine s_cond rfl (fun h => ?_) (fun h => ?_))
    · refine s_ret ⟨_, _, res1 rfl rfl, ⟨bad_2 hl (fun o => ?_), rfl⟩, Ent.nil _⟩
      have h1 := o.row i hlt
      simp only [bne_iff_ne, ne_eq] at h
      omega
    have hrl : m.Next[i].length = kM m := by simp only [bne_eq_false_iff_eq] at h; omega
    clear h
    refine e_yes rfl (o_n (n_index rfl rfl rfl rfl i rfl (by omega)) rfl ?_)
    refine e_yes rfl (o_n (n_load_ro rfl rfl hb4 (loads_one rfl (hc4 0 _ rfl))) rfl ?_)
    repeat' (first | refine e_nil ?_ | ((first | refine e_op ?_ | refine e_yes rfl ?_); (first | refine o_dNew rfl rfl rfl (fun _ => ?_) | refine o_dNew0 rfl rfl rfl (fun _ => ?_) | refine dAll rfl rfl rfl td uc rfl rfl rfl ?_ | refine dS rfl rfl rfl rfl rfl rfl rfl td uc rfl ?_ | refine o_n (n_b26 rfl rfl) rfl ?_ | refine o_n (n_b26NR rfl rfl rfl rfl rfl) rfl ?_ | refine o_n (n_b26R rfl rfl rfl rfl) rfl ?_ | refine o_n (n_b26CR rfl rfl rfl rfl) rfl ?_ | refine o_n (n_b91 rfl rfl rfl rfl rfl rfl) rfl ?_ | refine o_n (peval_sound rfl) rfl ?_ | refine o_n (nl rfl rfl tc rfl) rfl ?_ | refine o_n (dR rfl rfl td rfl rfl rfl) rfl ?_ | refine o_n (dA rfl rfl td rfl rfl) rfl ?_ | refine o_n (dK rfl rfl td rfl rfl) rfl ?_ | refine o_storeC rfl rfl rfl rfl tc uc rfl rfl rfl ?_ | refine o_box rfl rfl (fun _ => ?_) | refine o_box1 rfl rfl rfl (fun _ => ?_) | refine o_alloc rfl rfl (fun _ => ?_))) | refine e_noU rfl rfl rfl ?_ | refine e_noN rfl rfl ?_ | refine s_seq ?_ | refine s_region ?_ | refine s_block ?_ | refine s_end ?_ | refine s_skip ?_ | refine s_exit ?_ | refine s_true rfl ?_ | refine s_false rfl ?_ | refine x_hit ?_ | refine x_code ?_ | refine x_back ?_ | refine x_miss rfl ?_ | ((fail_if_success (refine e_dec true (by exact rfl) ?_)); (fail_if_success (refine e_dec false (by exact rfl) ?_)); refine e_part rfl rfl (fun h => ?_) (fun h => ?_)) | refine s_cond rfl (fun h => ?_) (fun h => ?_))
    · refine s_ret ⟨_, _, res1 rfl rfl, ⟨bad_2 hl (fun o => ?_), rfl⟩, Ent.nil _⟩
      have h1 := o.rul _ (List.getElem_mem (by omega : i < m.Rule.length))
      have h2 := of_decide_eq_true h
      omega
    have hr1 := of_decide_eq_false h
    clear h
    refine e_yes rfl (o_n (n_index rfl rfl rfl rfl i rfl (by omega)) rfl ?_)
    refine e_yes rfl (o_n (n_load_ro rfl rfl hb4 (loads_one rfl (hc4 0 _ rfl))) rfl ?_)
    repeat' (first | refine e_nil ?_ | ((first | refine e_op ?_ | refine e_yes rfl ?_); (first | refine o_dNew rfl rfl rfl (fun _ => ?_) | refine o_dNew0 rfl rfl rfl (fun _ => ?_) | refine dAll rfl rfl rfl td uc rfl rfl rfl ?_ | refine dS rfl rfl rfl rfl rfl rfl rfl td uc rfl ?_ | refine o_n (n_b26 rfl rfl) rfl ?_ | refine o_n (n_b26NR rfl rfl rfl rfl rfl) rfl ?_ | refine o_n (n_b26R rfl rfl rfl rfl) rfl ?_ | refine o_n (n_b26CR rfl rfl rfl rfl) rfl ?_ | refine o_n (n_b91 rfl rfl rfl rfl rfl rfl) rfl ?_ | refine o_n (peval_sound rfl) rfl ?_ | refine o_n (nl rfl rfl tc rfl) rfl ?_ | refine o_n (dR rfl rfl td rfl rfl rfl) rfl ?_ | refine o_n (dA rfl rfl td rfl rfl) rfl ?_ | refine o_n (dK rfl rfl td rfl rfl) rfl ?_ | refine o_storeC rfl rfl rfl rfl tc uc rfl rfl rfl ?_ | refine o_box rfl rfl (fun _ => ?_) | refine o_box1 rfl rfl rfl (fun _ => ?_) | refine o_alloc rfl rfl (fun _ => ?_))) | refine e_noU rfl rfl rfl ?_ | refine e_noN rfl rfl ?_ | refine s_seq ?_ | refine s_region ?_ | refine s_block ?_ | refine s_end ?_ | refine s_skip ?_ | refine s_exit ?_ | refine s_true rfl ?_ | refine s_false rfl ?_ | refine x_hit ?_ | refine x_code ?_ | refine x_back ?_ | refine x_miss rfl ?_ | ((fail_if_success (refine e_dec true (by exact rfl) ?_)); (fail_if_success (refine e_dec false (by exact rfl) ?_)); refine e_part rfl rfl (fun h => ?_) (fun h => ?_)) | refine s_cond rfl (fun h => ?_) (fun h => ?_))
    · refine s_ret ⟨_, _, res1 rfl rfl, ⟨bad_2 hl (fun o => ?_), rfl⟩, Ent.nil _⟩
      have h1 := o.rul _ (List.getElem_mem (by omega : i < m.Rule.length))
      have h2 := of_decide_eq_true h
      omega
    have hr2 := of_decide_eq_false h
    clear h
    have h8 := hr3.2.1
    refine s_loopK (ι := {j : Nat // j ≤ m.Next[i].length ∧ ∀ k (hk : k < m.Next[i].length), k < j → -1 ≤ m.Next[i][k] ∧ m.Next[i][k] < m.Next.length}) [1, 3, 65, 66, 67, 92, 93] rfl ⟨0, by omega, fun j _ h => by omega⟩ (fun j => [(94, .int .i64 j.1)])
      (fun _ => [blk b1 26 (dC m.Class [.slice (some ⟨b, o, none⟩) m.Next.length c1, .slice (some ⟨b4, o4, none⟩) m.Rule.length c2])]) (fun j => m.Next[i].length - j.1) ?_ (by repeat' (first | exact Ent.nil _ | refine Ent.tak tk ?_)) ?_
    · repeat' (first | exact Sub.nil _ | refine Sub.cons rfl ?_ | refine Sub.consE rfl ?_ ?_)
    rintro ⟨j, hj, hgo⟩
    simp only at hj hgo ⊢
    repeat' (first | refine e_nil ?_ | ((first | refine e_op ?_ | refine e_yes rfl ?_); (first | refine o_dNew rfl rfl rfl (fun _ => ?_) | refine o_dNew0 rfl rfl rfl (fun _ => ?_) | refine dAll rfl rfl rfl td uc rfl rfl rfl ?_ | refine dS rfl rfl rfl rfl rfl rfl rfl td uc rfl ?_ | refine o_n (n_b26 rfl rfl) rfl ?_ | refine o_n (n_b26NR rfl rfl rfl rfl rfl) rfl ?_ | refine o_n (n_b26R rfl rfl rfl rfl) rfl ?_ | refine o_n (n_b26CR rfl rfl rfl rfl) rfl ?_ | refine o_n (n_b91 rfl rfl rfl rfl rfl rfl) rfl ?_ | refine o_n (peval_sound rfl) rfl ?_ | refine o_n (nl rfl rfl tc rfl) rfl ?_ | refine o_n (dR rfl rfl td rfl rfl rfl) rfl ?_ | refine o_n (dA rfl rfl td rfl rfl) rfl ?_ | refine o_n (dK rfl rfl td rfl rfl) rfl ?_ | refine o_storeC rfl rfl rfl rfl tc uc rfl rfl rfl ?_ | refine o_box rfl rfl (fun _ => ?_) | refine o_box1 rfl rfl rfl (fun _ => ?_) | refine o_alloc rfl rfl (fun _ => ?_))) | refine e_noU rfl rfl rfl ?_ | refine e_noN rfl rfl ?_ | refine s_seq ?_ | refine s_region ?_ | refine s_block ?_ | refine s_end ?_ | refine s_skip ?_ | refine s_exit ?_ | refine s_true rfl ?_ | refine s_false rfl ?_ | refine x_hit ?_ | refine x_code ?_ | refine x_back ?_ | refine x_miss rfl ?_)
    refine s_cond rfl (fun h => ?_) (fun h => ?_)
    · have hlj : j < m.Next[i].length := by have := of_decide_eq_true h; omega
      clear h
      obtain ⟨b5, o5, es5, rfl, hb5, ⟨rfl, hi5⟩, hc5⟩ := hr3.2.2 j hlj
      repeat' (first | refine e_nil ?_ | ((first | refine e_op ?_ | refine e_yes rfl ?_); (first | refine o_dNew rfl rfl rfl (fun _ => ?_) | refine o_dNew0 rfl rfl rfl (fun _ => ?_) | refine dAll rfl rfl rfl td uc rfl rfl rfl ?_ | refine dS rfl rfl rfl rfl rfl rfl rfl td uc rfl ?_ | refine o_n (n_b26 rfl rfl) rfl ?_ | refine o_n (n_b26NR rfl rfl rfl rfl rfl) rfl ?_ | refine o_n (n_b26R rfl rfl rfl rfl) rfl ?_ | refine o_n (n_b26CR rfl rfl rfl rfl) rfl ?_ | refine o_n (n_b91 rfl rfl rfl rfl rfl rfl) rfl ?_ | refine o_n (peval_sound rfl) rfl ?_ | refine o_n (nl rfl rfl tc rfl) rfl ?_ | refine o_n (dR rfl rfl td rfl rfl rfl) rfl ?_ | refine o_n (dA rfl rfl td rfl rfl) rfl ?_ | refine o_n (dK rfl rfl td rfl rfl) rfl ?_ | refine o_storeC rfl rfl rfl rfl tc uc rfl rfl rfl ?_ | refine o_box rfl rfl (fun _ => ?_) | refine o_box1 rfl rfl rfl (fun _ => ?_) | refine o_alloc rfl rfl (fun _ => ?_))) | refine e_noU rfl rfl rfl ?_ | refine e_noN rfl rfl ?_ | refine s_seq ?_ | refine s_region ?_ | refine s_block ?_ | refine s_end ?_ | refine s_skip ?_ | refine s_exit ?_ | refine s_true rfl ?_ | refine s_false rfl ?_ | refine x_hit ?_ | refine x_code ?_ | refine x_back ?_ | refine x_miss rfl ?_)
      refine e_op (o_n (n_index rfl rfl rfl rfl j rfl hlj) rfl ?_)
      refine e_op (o_n (n_load_ro rfl rfl hb5 (loads_one rfl (hc5 0 _ rfl))) rfl ?_)
      repeat' (first | refine e_nil ?_ | ((first | refine e_op ?_ | refine e_yes rfl ?_); (first | refine o_dNew rfl rfl rfl (fun _ => ?_) | refine o_dNew0 rfl rfl rfl (fun _ => ?_) | refine dAll rfl rfl rfl td uc rfl rfl rfl ?_ | refine dS rfl rfl rfl rfl rfl rfl rfl td uc rfl ?_ | refine o_n (n_b26 rfl rfl) rfl ?_ | refine o_n (n_b26NR rfl rfl rfl rfl rfl) rfl ?_ | refine o_n (n_b26R rfl rfl rfl rfl) rfl ?_ | refine o_n (n_b26CR rfl rfl rfl rfl) rfl ?_ | refine o_n (n_b91 rfl rfl rfl rfl rfl rfl) rfl ?_ | refine o_n (peval_sound rfl) rfl ?_ | refine o_n (nl rfl rfl tc rfl) rfl ?_ | refine o_n (dR rfl rfl td rfl rfl rfl) rfl ?_ | refine o_n (dA rfl rfl td rfl rfl) rfl ?_ | refine o_n (dK rfl rfl td rfl rfl) rfl ?_ | refine o_storeC rfl rfl rfl rfl tc uc rfl rfl rfl ?_ | refine o_box rfl rfl (fun _ => ?_) | refine o_box1 rfl rfl rfl (fun _ => ?_) | refine o_alloc rfl rfl (fun _ => ?_))) | refine e_noU rfl rfl rfl ?_ | refine e_noN rfl rfl ?_ | refine s_seq ?_ | refine s_region ?_ | refine s_block ?_ | refine s_end ?_ | refine s_skip ?_ | refine s_exit ?_ | refine s_true rfl ?_ | refine s_false rfl ?_ | refine x_hit ?_ | refine x_code ?_ | refine x_back ?_ | refine x_miss rfl ?_ | ((fail_if_success (refine e_dec true (by exact rfl) ?_)); (fail_if_success (refine e_dec false (by exact rfl) ?_)); refine e_part rfl rfl (fun h => ?_) (fun h => ?_)) | refine s_cond rfl (fun h => ?_) (fun h => ?_))
      · refine s_ret ⟨_, _, res1 rfl rfl, ⟨bad_2 hl (fun o => ?_), rfl⟩, Ent.nil _⟩
        have h1 := o.go i hlt _ (List.getElem_mem hlj)
        have h2 := of_decide_eq_true h
        omega
      · refine s_ret ⟨_, _, res1 rfl rfl, ⟨bad_2 hl (fun o => ?_), rfl⟩, Ent.nil _⟩
        have h1 := o.go i hlt _ (List.getElem_mem hlj)
        have h2 := of_decide_eq_true h
        omega
      · have h2 := of_decide_eq_false h
        have h3 := of_decide_eq_false ‹decide (m.Next[i][j] < -1) = false›
        refine s_back ⟨⟨j + 1, by omega, ?_⟩, by simp only; omega, ?_, by repeat' (first | exact Ent.nil _ | refine Ent.tak tk ?_)⟩
        · intro k hk hkj
          by_cases e : k = j
          · subst e; omega
          · exact hgo k hk (by omega)
        · repeat' (first | exact Sub.nil _ | refine Sub.cons rfl ?_ | refine Sub.consE rfl ?_ ?_)
          exact inc (i := j) (by omega)
    have hge : j = m.Next[i].length := by have := of_decide_eq_false h; omega
    subst hge
    clear h
    repeat' (first | refine e_nil ?_ | ((first | refine e_op ?_ | refine e_yes rfl ?_); (first | refine o_dNew rfl rfl rfl (fun _ => ?_) | refine o_dNew0 rfl rfl rfl (fun _ => ?_) | refine dAll rfl rfl rfl td uc rfl rfl rfl ?_ | refine dS rfl rfl rfl rfl rfl rfl rfl td uc rfl ?_ | refine o_n (n_b26 rfl rfl) rfl ?_ | refine o_n (n_b26NR rfl rfl rfl rfl rfl) rfl ?_ | refine o_n (n_b26R rfl rfl rfl rfl) rfl ?_ | refine o_n (n_b26CR rfl rfl rfl rfl) rfl ?_ | refine o_n (n_b91 rfl rfl rfl rfl rfl rfl) rfl ?_ | refine o_n (peval_sound rfl) rfl ?_ | refine o_n (nl rfl rfl tc rfl) rfl ?_ | refine o_n (dR rfl rfl td rfl rfl rfl) rfl ?_ | refine o_n (dA rfl rfl td rfl rfl) rfl ?_ | refine o_n (dK rfl rfl td rfl rfl) rfl ?_ | refine o_storeC rfl rfl rfl rfl tc uc rfl rfl rfl ?_ | refine o_box rfl rfl (fun _ => ?_) | refine o_box1 rfl rfl rfl (fun _ => ?_) | refine o_alloc rfl rfl (fun _ => ?_))) | refine e_noU rfl rfl rfl ?_ | refine e_noN rfl rfl ?_ | refine s_seq ?_ | refine s_region ?_ | refine s_block ?_ | refine s_end ?_ | refine s_skip ?_ | refine s_exit ?_ | refine s_true rfl ?_ | refine s_false rfl ?_ | refine x_hit ?_ | refine x_code ?_ | refine x_back ?_ | refine x_miss rfl ?_)
    refine s_back ⟨⟨i + 1, by omega, ?_⟩, by simp only; omega, ?_, by repeat' (first | exact Ent.nil _ | refine Ent.tak tk ?_)⟩
    · intro k hk hki
      by_cases e : k = i
      · subst e
        refine rowOk_mk hlt (by omega) hrl ⟨by omega, by omega⟩ (fun v hv => ?_)
        obtain ⟨q, hq, rfl⟩ := List.getElem_of_mem hv
        exact hgo q hq hq
      · exact hrow k hk (by omega)
    · repeat' (first | exact Sub.nil _ | refine Sub.cons rfl ?_ | refine Sub.consE rfl ?_ ?_)
      exact inc (i := i) (by omega)
  have hge : i = m.Next.length := by have := of_decide_eq_false h; omega
  subst hge
  clear h
  repeat' (first | refine e_nil ?_ | ((first | refine e_op ?_ | refine e_yes rfl ?_); (first | refine o_dNew rfl rfl rfl (fun _ => ?_) | refine o_dNew0 rfl rfl rfl (fun _ => ?_) | refine dAll rfl rfl rfl td uc rfl rfl rfl ?_ | refine dS rfl rfl rfl rfl rfl rfl rfl td uc rfl ?_ | refine o_n (n_b26 rfl rfl) rfl ?_ | refine o_n (n_b26NR rfl rfl rfl rfl rfl) rfl ?_ | refine o_n (n_b26R rfl rfl rfl rfl) rfl ?_ | refine o_n (n_b26CR rfl rfl rfl rfl) rfl ?_ | refine o_n (n_b91 rfl rfl rfl rfl rfl rfl) rfl ?_ | refine o_n (peval_sound rfl) rfl ?_ | refine o_n (nl rfl rfl tc rfl) rfl ?_ | refine o_n (dR rfl rfl td rfl rfl rfl) rfl ?_ | refine o_n (dA rfl rfl td rfl rfl) rfl ?_ | refine o_n (dK rfl rfl td rfl rfl) rfl ?_ | refine o_storeC rfl rfl rfl rfl tc uc rfl rfl rfl ?_ | refine o_box rfl rfl (fun _ => ?_) | refine o_box1 rfl rfl rfl (fun _ => ?_) | refine o_alloc rfl rfl (fun _ => ?_))) | refine e_noU rfl rfl rfl ?_ | refine e_noN rfl rfl ?_ | refine s_seq ?_ | refine s_region ?_ | refine s_block ?_ | refine s_end ?_ | refine s_skip ?_ | refine s_exit ?_ | refine s_true rfl ?_ | refine s_false rfl ?_ | refine x_hit ?_ | refine x_code ?_ | refine x_back ?_ | refine x_miss rfl ?_)
  refine s_ret ⟨_, _, res1 rfl rfl, ⟨?_, rfl⟩, Ent.nil _⟩
  rw [mok_check (mok_rows hl f1 f2 f3 hok hrow)]

end Go.Proofs.Ytbfjnldneemmiab
