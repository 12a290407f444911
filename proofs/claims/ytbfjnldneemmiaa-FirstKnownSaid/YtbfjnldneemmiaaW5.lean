/-
  The loop of rounds; whether a grammar may be, by the program.
-/
import Derived.Test.YtbfjnldneemmiaaW4
namespace Go.Proofs.Ytbfjnldneemmiaa
set_option linter.all false
open Go.Proofs.Ytbfjnldneemmiaa.E
attribute [local irreducible] EVX EVO EVL EV1 NEV
set_option maxRecDepth 10000

/-- States that follow one another for as long as something is new. -/
inductive Reach {σ : Type} (nxt : σ → σ) (fresh : σ → Bool) : σ → σ → Prop
  | refl (s) : Reach nxt fresh s s
  | step {s t} : Reach nxt fresh s t → fresh t = true → Reach nxt fresh s (nxt t)

theorem grow_w {σ : Type} (f : Nat) (l m : List Value) (R : Rd) (Ms : σ → List Asn) (nxt : σ → σ) (fresh : σ → Bool) (μ : σ → Nat) (Iv : σ → Prop)
    (hF : ∀ s, Iv s → Trip Try.prog f (l ++ [] ++ m) R (Ms s) (fun v V => v = .bool (fresh s) ∧ V = Ms (nxt s))) (hI : ∀ s, Iv s → Iv (nxt s)) (hμ : ∀ s, Iv s → fresh s = true → μ (nxt s) < μ s) (s0 : σ) (h0 : Iv s0) :
    Trip Try.prog 63 [.func (.func f) l.toArray m.toArray] R (Ms s0) (fun v V => v = .tuple #[] ∧ ∃ s, Iv s ∧ Reach nxt fresh s0 s ∧ fresh s = false ∧ V = Ms (nxt s)) := by
  refine trip Try.tabOk Try.func63 rfl rfl rfl rfl ?_
  intro w SM hR
  repeat' (first | refine e_nil ?_ | ((first | refine e_op ?_ | refine e_yes rfl ?_); (first | refine o_n (peval_sound rfl) rfl ?_ | refine o_n (n_load rfl rfl .z rfl) rfl ?_ | refine o_n (n_load rfl rfl (.s .z) rfl) rfl ?_ | refine o_n (n_load rfl rfl (.s (.s .z)) rfl) rfl ?_ | refine o_n (n_load rfl rfl (.s (.s (.s .z))) rfl) rfl ?_ | refine o_n (n_load rfl rfl (.s (.s (.s (.s .z)))) rfl) rfl ?_ | refine o_n (n_load rfl rfl (.s (.s (.s (.s (.s .z))))) rfl) rfl ?_ | refine o_store rfl rfl rfl rfl rfl rfl rfl .z ?_ | refine o_store rfl rfl rfl rfl rfl rfl rfl (.s .z) ?_ | refine o_store rfl rfl rfl rfl rfl rfl rfl (.s (.s .z)) ?_ | refine o_store rfl rfl rfl rfl rfl rfl rfl (.s (.s (.s .z))) ?_ | refine o_store rfl rfl rfl rfl rfl rfl rfl (.s (.s (.s (.s .z)))) ?_ | refine o_store rfl rfl rfl rfl rfl rfl rfl (.s (.s (.s (.s (.s .z))))) ?_ | refine o_box rfl rfl (fun _ => ?_) | refine o_box1 rfl rfl rfl (fun _ => ?_) | refine o_alloc rfl rfl (fun _ => ?_))) | refine e_noU rfl rfl rfl ?_ | refine e_noN rfl rfl ?_ | refine s_seq ?_ | refine s_region ?_ | refine s_block ?_ | refine s_end ?_ | refine s_skip ?_ | refine s_exit ?_ | refine s_true rfl ?_ | refine s_false rfl ?_ | refine x_hit ?_ | refine x_code ?_ | refine x_back ?_ | refine x_miss rfl ?_)
  refine s_loopK (ι := {s : σ // Iv s ∧ Reach nxt fresh s0 s}) [0] rfl ⟨s0, h0, .refl _⟩ (fun _ => []) (fun s => Ms s.1) (fun s => μ s.1) ?_ (Ent.refl _) ?_
  · repeat' (first | exact Sub.nil _ | refine Sub.cons rfl ?_ | refine Sub.consE rfl ?_ ?_)
  rintro ⟨s, hs, hreach⟩
  repeat' (first | refine e_nil ?_ | ((first | refine e_op ?_ | refine e_yes rfl ?_); (first | refine o_n (peval_sound rfl) rfl ?_ | refine o_n (n_load rfl rfl .z rfl) rfl ?_ | refine o_n (n_load rfl rfl (.s .z) rfl) rfl ?_ | refine o_n (n_load rfl rfl (.s (.s .z)) rfl) rfl ?_ | refine o_n (n_load rfl rfl (.s (.s (.s .z))) rfl) rfl ?_ | refine o_n (n_load rfl rfl (.s (.s (.s (.s .z)))) rfl) rfl ?_ | refine o_n (n_load rfl rfl (.s (.s (.s (.s (.s .z))))) rfl) rfl ?_ | refine o_store rfl rfl rfl rfl rfl rfl rfl .z ?_ | refine o_store rfl rfl rfl rfl rfl rfl rfl (.s .z) ?_ | refine o_store rfl rfl rfl rfl rfl rfl rfl (.s (.s .z)) ?_ | refine o_store rfl rfl rfl rfl rfl rfl rfl (.s (.s (.s .z))) ?_ | refine o_store rfl rfl rfl rfl rfl rfl rfl (.s (.s (.s (.s .z)))) ?_ | refine o_store rfl rfl rfl rfl rfl rfl rfl (.s (.s (.s (.s (.s .z))))) ?_ | refine o_box rfl rfl (fun _ => ?_) | refine o_box1 rfl rfl rfl (fun _ => ?_) | refine o_alloc rfl rfl (fun _ => ?_))) | refine e_noU rfl rfl rfl ?_ | refine e_noN rfl rfl ?_ | refine s_seq ?_ | refine s_region ?_ | refine s_block ?_ | refine s_end ?_ | refine s_skip ?_ | refine s_exit ?_ | refine s_true rfl ?_ | refine s_false rfl ?_ | refine x_hit ?_ | refine x_code ?_ | refine x_back ?_ | refine x_miss rfl ?_)
  have hp : ∀ L : List Asn, Pic L L [] := by
    intro L
    induction L with
    | nil => exact .nil
    | cons A L ih => exact .cons .z ih
  refine e_op (o_callv rfl (hF s hs) rfl (hp _) (Can.ro hR) rfl ?_)
  rintro v V ⟨rfl, rfl⟩
  rw [List.append_nil]
  repeat' (first | refine e_nil ?_ | ((first | refine e_op ?_ | refine e_yes rfl ?_); (first | refine o_n (peval_sound rfl) rfl ?_ | refine o_n (n_load rfl rfl .z rfl) rfl ?_ | refine o_n (n_load rfl rfl (.s .z) rfl) rfl ?_ | refine o_n (n_load rfl rfl (.s (.s .z)) rfl) rfl ?_ | refine o_n (n_load rfl rfl (.s (.s (.s .z))) rfl) rfl ?_ | refine o_n (n_load rfl rfl (.s (.s (.s (.s .z)))) rfl) rfl ?_ | refine o_n (n_load rfl rfl (.s (.s (.s (.s (.s .z))))) rfl) rfl ?_ | refine o_store rfl rfl rfl rfl rfl rfl rfl .z ?_ | refine o_store rfl rfl rfl rfl rfl rfl rfl (.s .z) ?_ | refine o_store rfl rfl rfl rfl rfl rfl rfl (.s (.s .z)) ?_ | refine o_store rfl rfl rfl rfl rfl rfl rfl (.s (.s (.s .z))) ?_ | refine o_store rfl rfl rfl rfl rfl rfl rfl (.s (.s (.s (.s .z)))) ?_ | refine o_store rfl rfl rfl rfl rfl rfl rfl (.s (.s (.s (.s (.s .z))))) ?_ | refine o_box rfl rfl (fun _ => ?_) | refine o_box1 rfl rfl rfl (fun _ => ?_) | refine o_alloc rfl rfl (fun _ => ?_))) | refine e_noU rfl rfl rfl ?_ | refine e_noN rfl rfl ?_ | refine s_seq ?_ | refine s_region ?_ | refine s_block ?_ | refine s_end ?_ | refine s_skip ?_ | refine s_exit ?_ | refine s_true rfl ?_ | refine s_false rfl ?_ | refine x_hit ?_ | refine x_code ?_ | refine x_back ?_ | refine x_miss rfl ?_)
  refine s_cond rfl (fun h => ?_) (fun h => ?_)
  · repeat' (first | refine e_nil ?_ | ((first | refine e_op ?_ | refine e_yes rfl ?_); (first | refine o_n (peval_sound rfl) rfl ?_ | refine o_n (n_load rfl rfl .z rfl) rfl ?_ | refine o_n (n_load rfl rfl (.s .z) rfl) rfl ?_ | refine o_n (n_load rfl rfl (.s (.s .z)) rfl) rfl ?_ | refine o_n (n_load rfl rfl (.s (.s (.s .z))) rfl) rfl ?_ | refine o_n (n_load rfl rfl (.s (.s (.s (.s .z)))) rfl) rfl ?_ | refine o_n (n_load rfl rfl (.s (.s (.s (.s (.s .z))))) rfl) rfl ?_ | refine o_store rfl rfl rfl rfl rfl rfl rfl .z ?_ | refine o_store rfl rfl rfl rfl rfl rfl rfl (.s .z) ?_ | refine o_store rfl rfl rfl rfl rfl rfl rfl (.s (.s .z)) ?_ | refine o_store rfl rfl rfl rfl rfl rfl rfl (.s (.s (.s .z))) ?_ | refine o_store rfl rfl rfl rfl rfl rfl rfl (.s (.s (.s (.s .z)))) ?_ | refine o_store rfl rfl rfl rfl rfl rfl rfl (.s (.s (.s (.s (.s .z))))) ?_ | refine o_box rfl rfl (fun _ => ?_) | refine o_box1 rfl rfl rfl (fun _ => ?_) | refine o_alloc rfl rfl (fun _ => ?_))) | refine e_noU rfl rfl rfl ?_ | refine e_noN rfl rfl ?_ | refine s_seq ?_ | refine s_region ?_ | refine s_block ?_ | refine s_end ?_ | refine s_skip ?_ | refine s_exit ?_ | refine s_true rfl ?_ | refine s_false rfl ?_ | refine x_hit ?_ | refine x_code ?_ | refine x_back ?_ | refine x_miss rfl ?_)
    refine s_back ⟨⟨nxt s, hI s hs, .step hreach h⟩, hμ s hs h, ?_, Ent.refl _⟩
    repeat' (first | exact Sub.nil _ | refine Sub.cons rfl ?_ | refine Sub.consE rfl ?_ ?_)
  · repeat' (first | refine e_nil ?_ | ((first | refine e_op ?_ | refine e_yes rfl ?_); (first | refine o_n (peval_sound rfl) rfl ?_ | refine o_n (n_load rfl rfl .z rfl) rfl ?_ | refine o_n (n_load rfl rfl (.s .z) rfl) rfl ?_ | refine o_n (n_load rfl rfl (.s (.s .z)) rfl) rfl ?_ | refine o_n (n_load rfl rfl (.s (.s (.s .z))) rfl) rfl ?_ | refine o_n (n_load rfl rfl (.s (.s (.s (.s .z)))) rfl) rfl ?_ | refine o_n (n_load rfl rfl (.s (.s (.s (.s (.s .z))))) rfl) rfl ?_ | refine o_store rfl rfl rfl rfl rfl rfl rfl .z ?_ | refine o_store rfl rfl rfl rfl rfl rfl rfl (.s .z) ?_ | refine o_store rfl rfl rfl rfl rfl rfl rfl (.s (.s .z)) ?_ | refine o_store rfl rfl rfl rfl rfl rfl rfl (.s (.s (.s .z))) ?_ | refine o_store rfl rfl rfl rfl rfl rfl rfl (.s (.s (.s (.s .z)))) ?_ | refine o_store rfl rfl rfl rfl rfl rfl rfl (.s (.s (.s (.s (.s .z))))) ?_ | refine o_box rfl rfl (fun _ => ?_) | refine o_box1 rfl rfl rfl (fun _ => ?_) | refine o_alloc rfl rfl (fun _ => ?_))) | refine e_noU rfl rfl rfl ?_ | refine e_noN rfl rfl ?_ | refine s_seq ?_ | refine s_region ?_ | refine s_block ?_ | refine s_end ?_ | refine s_skip ?_ | refine s_exit ?_ | refine s_true rfl ?_ | refine s_false rfl ?_ | refine x_hit ?_ | refine x_code ?_ | refine x_back ?_ | refine x_miss rfl ?_)
    refine s_nil ?_
    exact ⟨_, _, res0 rfl, ⟨rfl, s, hs, hreach, h, rfl⟩, Ent.refl _⟩

end Go.Proofs.Ytbfjnldneemmiaa
