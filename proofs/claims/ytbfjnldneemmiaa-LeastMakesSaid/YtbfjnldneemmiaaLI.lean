/-
  Small aids: a copy of numbers.
-/
import Derived.Test.YtbfjnldneemmiaaTab
import Derived.Test.YtbfjnldneemmiaaE13
namespace Go.Proofs.Ytbfjnldneemmiaa
set_option linter.all false
open Go.Proofs.Ytbfjnldneemmiaa.E
attribute [local irreducible] EVX EVO EVL EV1 NEV
set_option maxRecDepth 10000
set_option maxHeartbeats 1000000

theorem copyI_w (A : Option Addr) (n c : Nat) (l : List Int) (hn : n = l.length) : Trip Try.prog 29 [.slice A n c] ((kslice 8 kint).rd [.slice A n c] l) []
    (fun v V => ∃ A' c', v = .slice A' n c' ∧ V = [rdA (kslice 8 kint) [.slice A' n c'] l]) := by
  subst hn
  refine trip Try.tabOk Try.func29 rfl rfl rfl rfl ?_
  intro w SM hR
  obtain ⟨A', c', e, h1, h2, h3⟩ := hR
  cases e
  repeat' (first | refine e_nil ?_ | ((first | refine e_op ?_ | refine e_yes rfl ?_); (first | refine o_n (peval_sound rfl) rfl ?_ | refine o_n (nl rfl rfl tc rfl) rfl ?_ | refine o_storeC rfl rfl rfl rfl tc uc rfl rfl rfl ?_ | refine o_box rfl rfl (fun _ => ?_) | refine o_box1 rfl rfl rfl (fun _ => ?_) | refine o_alloc rfl rfl (fun _ => ?_))) | refine e_noU rfl rfl rfl ?_ | refine e_noN rfl rfl ?_ | refine s_seq ?_ | refine s_region ?_ | refine s_block ?_ | refine s_end ?_ | refine s_skip ?_ | refine s_exit ?_ | refine s_true rfl ?_ | refine s_false rfl ?_ | refine x_hit ?_ | refine x_code ?_ | refine x_back ?_ | refine x_miss rfl ?_)
  refine e_op (o_copy flat_int onec_int rfl rfl rfl rfl rfl (Can.ro ⟨A, c, rfl, h1, h2, h3⟩) rfl rfl h2 rfl rfl rfl (fun A' c' => ?_))
  repeat' (first | refine e_nil ?_ | ((first | refine e_op ?_ | refine e_yes rfl ?_); (first | refine o_n (peval_sound rfl) rfl ?_ | refine o_n (nl rfl rfl tc rfl) rfl ?_ | refine o_storeC rfl rfl rfl rfl tc uc rfl rfl rfl ?_ | refine o_box rfl rfl (fun _ => ?_) | refine o_box1 rfl rfl rfl (fun _ => ?_) | refine o_alloc rfl rfl (fun _ => ?_))) | refine e_noU rfl rfl rfl ?_ | refine e_noN rfl rfl ?_ | refine s_seq ?_ | refine s_region ?_ | refine s_block ?_ | refine s_end ?_ | refine s_skip ?_ | refine s_exit ?_ | refine s_true rfl ?_ | refine s_false rfl ?_ | refine x_hit ?_ | refine x_code ?_ | refine x_back ?_ | refine x_miss rfl ?_)
  exact s_ret ⟨_, _, res1 rfl rfl, ⟨A', c', rfl, rfl⟩, Ent.refl _⟩

end Go.Proofs.Ytbfjnldneemmiaa
