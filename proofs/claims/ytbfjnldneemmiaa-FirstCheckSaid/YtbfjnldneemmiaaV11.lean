/-
  FirstCheck, walked.
-/
import Derived.Test.YtbfjnldneemmiaaV10
namespace Go.Proofs.Ytbfjnldneemmiaa
set_option linter.all false
open Go.Proofs.Ytbfjnldneemmiaa.E
attribute [local irreducible] EVX EVO EVL EV1 NEV
set_option maxRecDepth 10000
set_option maxHeartbeats 1000000

theorem firstCheck_w (cs : List Value) (g : Gram) : Trip Try.prog 6 [.agg cs.toArray] (kGram.rd cs g) [] (fun v V => v = .bool true ∧ V = []) := by
  refine trip Try.tabOk Try.func6 rfl rfl rfl rfl ?_
  intro w SM hR
  obtain ⟨A0, A1, A2, A3, A4, c0, c1, c2, c3, c4, rfl, hG⟩ := kGram_open hR
  repeat' (first | refine e_nil ?_ | ((first | refine e_op ?_ | refine e_yes rfl ?_); (first | refine o_n (peval_sound rfl) rfl ?_ | refine o_n (n_load rfl rfl .z rfl) rfl ?_ | refine o_n (n_load rfl rfl (.s .z) rfl) rfl ?_ | refine o_n (n_load rfl rfl (.s (.s .z)) rfl) rfl ?_ | refine o_n (n_load rfl rfl (.s (.s (.s .z))) rfl) rfl ?_ | refine o_n (n_load rfl rfl (.s (.s (.s (.s .z)))) rfl) rfl ?_ | refine o_n (n_load rfl rfl (.s (.s (.s (.s (.s .z))))) rfl) rfl ?_ | refine o_store rfl rfl rfl rfl rfl rfl rfl .z ?_ | refine o_store rfl rfl rfl rfl rfl rfl rfl (.s .z) ?_ | refine o_store rfl rfl rfl rfl rfl rfl rfl (.s (.s .z)) ?_ | refine o_store rfl rfl rfl rfl rfl rfl rfl (.s (.s (.s .z))) ?_ | refine o_store rfl rfl rfl rfl rfl rfl rfl (.s (.s (.s (.s .z)))) ?_ | refine o_store rfl rfl rfl rfl rfl rfl rfl (.s (.s (.s (.s (.s .z))))) ?_ | refine o_box rfl rfl (fun _ => ?_) | refine o_box1 rfl rfl rfl (fun _ => ?_) | refine o_alloc rfl rfl (fun _ => ?_))) | refine e_noU rfl rfl rfl ?_ | refine e_noN rfl rfl ?_ | refine s_seq ?_ | refine s_region ?_ | refine s_block ?_ | refine s_end ?_ | refine s_skip ?_ | refine s_exit ?_ | refine s_true rfl ?_ | refine s_false rfl ?_ | refine x_hit ?_ | refine x_code ?_ | refine x_back ?_ | refine x_miss rfl ?_)
  refine s_anyU Try.mixed ?_
  refine a_n 0 rfl (n_load rfl rfl .z rfl) (by decide +kernel) (Ent.refl _) rfl ?_
  refine a_n 2 rfl (n_load rfl rfl .z rfl) (by decide +kernel) (Ent.refl _) rfl ?_
  refine a_1 1 (by decide +kernel) rfl rfl (o_call (check_w _ g) rfl .nil (Can.ro (kGram_mk hG)) rfl ?_)
  rintro v V ⟨rfl, rfl⟩
  refine ⟨(by first | assumption | repeat' (first | exact Ent.refl _ | exact Ent.nil _ | refine Ent.tak .z ?_ | refine Ent.wk ?_)), ?_⟩
  refine a_1 3 (by decide +kernel) rfl rfl (o_call (checkR_w _ g) rfl .nil (Can.ro (kGram_mk hG)) rfl ?_)
  rintro v V ⟨rfl, rfl⟩
  refine ⟨(by first | assumption | repeat' (first | exact Ent.refl _ | exact Ent.nil _ | refine Ent.tak .z ?_ | refine Ent.wk ?_)), ?_⟩
  refine a_n 4 rfl (peval_sound rfl) (by decide +kernel) (by first | assumption | repeat' (first | exact Ent.refl _ | exact Ent.nil _ | refine Ent.tak .z ?_ | refine Ent.wk ?_)) rfl ?_
  simp only [beq_self_eq_true]
  refine a_n 5 rfl (peval_sound rfl) (by decide +kernel) (by first | assumption | repeat' (first | exact Ent.refl _ | exact Ent.nil _ | refine Ent.tak .z ?_ | refine Ent.wk ?_)) rfl ?_
  refine a_1y 6 (by decide +kernel) rfl rfl rfl (o_call works_w rfl .nil Can.tt rfl ?_)
  rintro v V ⟨rfl, rfl⟩
  refine ⟨(by first | assumption | repeat' (first | exact Ent.refl _ | exact Ent.nil _ | refine Ent.tak .z ?_ | refine Ent.wk ?_)), ?_⟩
  refine a_n 7 rfl (peval_sound rfl) (by decide +kernel) (by first | assumption | repeat' (first | exact Ent.refl _ | exact Ent.nil _ | refine Ent.tak .z ?_ | refine Ent.wk ?_)) rfl ?_
  refine a_n 8 rfl (peval_sound rfl) (by decide +kernel) (by first | assumption | repeat' (first | exact Ent.refl _ | exact Ent.nil _ | refine Ent.tak .z ?_ | refine Ent.wk ?_)) rfl ?_
  refine a_done (by decide +kernel) ?_
  repeat' (first | refine e_nil ?_ | ((first | refine e_op ?_ | refine e_yes rfl ?_); (first | refine o_n (peval_sound rfl) rfl ?_ | refine o_n (n_load rfl rfl .z rfl) rfl ?_ | refine o_n (n_load rfl rfl (.s .z) rfl) rfl ?_ | refine o_n (n_load rfl rfl (.s (.s .z)) rfl) rfl ?_ | refine o_n (n_load rfl rfl (.s (.s (.s .z))) rfl) rfl ?_ | refine o_n (n_load rfl rfl (.s (.s (.s (.s .z)))) rfl) rfl ?_ | refine o_n (n_load rfl rfl (.s (.s (.s (.s (.s .z))))) rfl) rfl ?_ | refine o_store rfl rfl rfl rfl rfl rfl rfl .z ?_ | refine o_store rfl rfl rfl rfl rfl rfl rfl (.s .z) ?_ | refine o_store rfl rfl rfl rfl rfl rfl rfl (.s (.s .z)) ?_ | refine o_store rfl rfl rfl rfl rfl rfl rfl (.s (.s (.s .z))) ?_ | refine o_store rfl rfl rfl rfl rfl rfl rfl (.s (.s (.s (.s .z)))) ?_ | refine o_store rfl rfl rfl rfl rfl rfl rfl (.s (.s (.s (.s (.s .z))))) ?_ | refine o_box rfl rfl (fun _ => ?_) | refine o_box1 rfl rfl rfl (fun _ => ?_) | refine o_alloc rfl rfl (fun _ => ?_))) | refine e_noU rfl rfl rfl ?_ | refine e_noN rfl rfl ?_ | refine s_seq ?_ | refine s_region ?_ | refine s_block ?_ | refine s_end ?_ | refine s_skip ?_ | refine s_exit ?_ | refine s_true rfl ?_ | refine s_false rfl ?_ | refine x_hit ?_ | refine x_code ?_ | refine x_back ?_ | refine x_miss rfl ?_)
  exact s_ret ⟨_, _, res1 rfl rfl, ⟨rfl, rfl⟩, Ent.nil _⟩

end Go.Proofs.Ytbfjnldneemmiaa
