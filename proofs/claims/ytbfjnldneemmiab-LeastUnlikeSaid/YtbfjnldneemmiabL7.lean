/-
  The least machine, as the program makes it.
-/
import Derived.Test.YtbfjnldneemmiabP3
import Derived.Test.YtbfjnldneemmiabE20
namespace Go.Proofs.Ytbfjnldneemmiab
set_option linter.all false
open Go.Proofs.Ytbfjnldneemmiab.E


/-- A machine that is handed back, and what it owns. -/
def resD (m : Mach) (A1 A2 : Option Addr) (c1 c2 : Nat) : Value := .agg (dC m.Class [.slice A1 m.Next.length c1, .slice A2 m.Rule.length c2]).toArray
def ownD (m : Mach) (A1 A2 : Option Addr) (c1 c2 : Nat) : List Asn := [orow (Value.int .i64) 24 3 (.slice A1 m.Next.length c1) m.Next.length m.Next, pI A2 m.Rule.length c2 m.Rule]

theorem ent_orow0 {U V : List Asn} (h : Ent U V) : Ent U (orow (Value.int .i64) 24 3 (.slice none 0 0) 0 ([] : List (List Int)) :: V) :=
  Ent.ex ([] : List (Option Addr × Nat)) rfl (Ent.osl0 h)

attribute [local irreducible] EVX EVO EVL EV1 NEV
attribute [local irreducible] own osl exA rdA rdL
set_option maxRecDepth 10000
set_option maxHeartbeats 4000000

theorem leastOf_w (cs : List Value) (m : Mach) : Trip Try.prog 13 [.agg cs.toArray] (kDfa.rd cs m) []
    (fun v V => ∃ (A1 A2 : Option Addr) (c1 c2 : Nat), v = .tuple #[resD (ofM m) A1 A2 c1 c2, .int .i64 (checkM m)] ∧ V = ownD (ofM m) A1 A2 c1 c2) := by
  refine trip Try.tabOk Try.func13 rfl rfl rfl rfl ?_
  intro w SM hR
  obtain ⟨A1, A2, c1, c2, rfl, hD⟩ := kDfa_open hR
  repeat' (first | refine e_nil ?_ | ((first | refine e_op ?_ | refine e_yes rfl ?_); (first | refine o_dNew rfl rfl rfl (fun _ => ?_) | refine o_dNew0 rfl rfl rfl (fun _ => ?_) | refine dAll rfl rfl rfl td uc rfl rfl rfl ?_ | refine dS rfl rfl rfl rfl rfl rfl rfl td uc rfl ?_ | refine o_n (n_b26 rfl rfl) rfl ?_ | refine o_n (n_b26NR rfl rfl rfl rfl rfl) rfl ?_ | refine o_n (n_b26R rfl rfl rfl rfl) rfl ?_ | refine o_n (n_b26CR rfl rfl rfl rfl) rfl ?_ | refine o_n (n_b91 rfl rfl rfl rfl rfl rfl) rfl ?_ | refine o_n (peval_sound rfl) rfl ?_ | refine o_n (nl rfl rfl tc rfl) rfl ?_ | refine o_n (dR rfl rfl td rfl rfl rfl) rfl ?_ | refine o_n (dA rfl rfl td rfl rfl) rfl ?_ | refine o_n (dK rfl rfl td rfl rfl) rfl ?_ | refine o_storeC rfl rfl rfl rfl tc uc rfl rfl rfl ?_ | refine o_box rfl rfl (fun _ => ?_) | refine o_box1 rfl rfl rfl (fun _ => ?_) | refine o_alloc rfl rfl (fun _ => ?_))) | refine e_noU rfl rfl rfl ?_ | refine e_noN rfl rfl ?_ | refine s_seq ?_ | refine s_region ?_ | refine s_block ?_ | refine s_end ?_ | refine s_skip ?_ | refine s_exit ?_ | refine s_true rfl ?_ | refine s_false rfl ?_ | refine x_hit ?_ | refine x_code ?_ | refine x_back ?_ | refine x_miss rfl ?_)
  rename_i b1 b2
  refine e_op (o_call (dcheck_w _ m) rfl .nil (Can.ro hR) rfl ?_)
  rintro v V ⟨rfl, rfl⟩
  simp only [List.nil_append]
  repeat' (first | refine e_nil ?_ | ((first | refine e_op ?_ | refine e_yes rfl ?_); (first | refine o_dNew rfl rfl rfl (fun _ => ?_) | refine o_dNew0 rfl rfl rfl (fun _ => ?_) | refine dAll rfl rfl rfl td uc rfl rfl rfl ?_ | refine dS rfl rfl rfl rfl rfl rfl rfl td uc rfl ?_ | refine o_n (n_b26 rfl rfl) rfl ?_ | refine o_n (n_b26NR rfl rfl rfl rfl rfl) rfl ?_ | refine o_n (n_b26R rfl rfl rfl rfl) rfl ?_ | refine o_n (n_b26CR rfl rfl rfl rfl) rfl ?_ | refine o_n (n_b91 rfl rfl rfl rfl rfl rfl) rfl ?_ | refine o_n (peval_sound rfl) rfl ?_ | refine o_n (nl rfl rfl tc rfl) rfl ?_ | refine o_n (dR rfl rfl td rfl rfl rfl) rfl ?_ | refine o_n (dA rfl rfl td rfl rfl) rfl ?_ | refine o_n (dK rfl rfl td rfl rfl) rfl ?_ | refine o_storeC rfl rfl rfl rfl tc uc rfl rfl rfl ?_ | refine o_box rfl rfl (fun _ => ?_) | refine o_box1 rfl rfl rfl (fun _ => ?_) | refine o_alloc rfl rfl (fun _ => ?_))) | refine e_noU rfl rfl rfl ?_ | refine e_noN rfl rfl ?_ | refine s_seq ?_ | refine s_region ?_ | refine s_block ?_ | refine s_end ?_ | refine s_skip ?_ | refine s_exit ?_ | refine s_true rfl ?_ | refine s_false rfl ?_ | refine x_hit ?_ | refine x_code ?_ | refine x_back ?_ | refine x_miss rfl ?_)
  refine s_cond rfl (fun h => ?_) (fun h => ?_)
  · have hne : checkM m ≠ 0 := by simpa using h
    have e : ofM m = zeroM := by unfold ofM; rw [if_neg hne]
    repeat' (first | refine e_nil ?_ | ((first | refine e_op ?_ | refine e_yes rfl ?_); (first | refine o_dNew rfl rfl rfl (fun _ => ?_) | refine o_dNew0 rfl rfl rfl (fun _ => ?_) | refine dAll rfl rfl rfl td uc rfl rfl rfl ?_ | refine dS rfl rfl rfl rfl rfl rfl rfl td uc rfl ?_ | refine o_n (n_b26 rfl rfl) rfl ?_ | refine o_n (n_b26NR rfl rfl rfl rfl rfl) rfl ?_ | refine o_n (n_b26R rfl rfl rfl rfl) rfl ?_ | refine o_n (n_b26CR rfl rfl rfl rfl) rfl ?_ | refine o_n (n_b91 rfl rfl rfl rfl rfl rfl) rfl ?_ | refine o_n (peval_sound rfl) rfl ?_ | refine o_n (nl rfl rfl tc rfl) rfl ?_ | refine o_n (dR rfl rfl td rfl rfl rfl) rfl ?_ | refine o_n (dA rfl rfl td rfl rfl) rfl ?_ | refine o_n (dK rfl rfl td rfl rfl) rfl ?_ | refine o_storeC rfl rfl rfl rfl tc uc rfl rfl rfl ?_ | refine o_box rfl rfl (fun _ => ?_) | refine o_box1 rfl rfl rfl (fun _ => ?_) | refine o_alloc rfl rfl (fun _ => ?_))) | refine e_noU rfl rfl rfl ?_ | refine e_noN rfl rfl ?_ | refine s_seq ?_ | refine s_region ?_ | refine s_block ?_ | refine s_end ?_ | refine s_skip ?_ | refine s_exit ?_ | refine s_true rfl ?_ | refine s_false rfl ?_ | refine x_hit ?_ | refine x_code ?_ | refine x_back ?_ | refine x_miss rfl ?_)
    refine s_ret ⟨_, _, rescD2 rfl rfl rfl .z rfl rfl rfl, ⟨none, none, 0, 0, ?_, rfl⟩, ?_⟩
    · rw [e]; rfl
    · rw [e]
      exact ent_orow0 (Ent.osl0 (Ent.nil _))
  have he : checkM m = 0 := by simpa using h
  clear h
  have o := check_mok he
  have hn0 := o.n0
  have hn1 := o.n1
  repeat' (first | refine e_nil ?_ | ((first | refine e_op ?_ | refine e_yes rfl ?_); (first | refine o_dNew rfl rfl rfl (fun _ => ?_) | refine o_dNew0 rfl rfl rfl (fun _ => ?_) | refine dAll rfl rfl rfl td uc rfl rfl rfl ?_ | refine dS rfl rfl rfl rfl rfl rfl rfl td uc rfl ?_ | refine o_n (n_b26 rfl rfl) rfl ?_ | refine o_n (n_b26NR rfl rfl rfl rfl rfl) rfl ?_ | refine o_n (n_b26R rfl rfl rfl rfl) rfl ?_ | refine o_n (n_b26CR rfl rfl rfl rfl) rfl ?_ | refine o_n (n_b91 rfl rfl rfl rfl rfl rfl) rfl ?_ | refine o_n (peval_sound rfl) rfl ?_ | refine o_n (nl rfl rfl tc rfl) rfl ?_ | refine o_n (dR rfl rfl td rfl rfl rfl) rfl ?_ | refine o_n (dA rfl rfl td rfl rfl) rfl ?_ | refine o_n (dK rfl rfl td rfl rfl) rfl ?_ | refine o_storeC rfl rfl rfl rfl tc uc rfl rfl rfl ?_ | refine o_box rfl rfl (fun _ => ?_) | refine o_box1 rfl rfl rfl (fun _ => ?_) | refine o_alloc rfl rfl (fun _ => ?_))) | refine e_noU rfl rfl rfl ?_ | refine e_noN rfl rfl ?_ | refine s_seq ?_ | refine s_region ?_ | refine s_block ?_ | refine s_end ?_ | refine s_skip ?_ | refine s_exit ?_ | refine s_true rfl ?_ | refine s_false rfl ?_ | refine x_hit ?_ | refine x_code ?_ | refine x_back ?_ | refine x_miss rfl ?_)
  refine s_anyU Try.mixed ?_
  refine a_join (ι := {x : List Int × Option Addr × Nat × Nat × Nat × Nat // Good m x.1 ∧ (∀ s t, St m s → St m t → (pOf x.1 s = pOf x.1 t ↔ Eqv m s t))})
    (fun x => [(1, .pointer (some ⟨b1, 0, none⟩)), (2, .pointer (some ⟨b2, 0, none⟩)), (5, .pointer (some ⟨x.1.2.2.2.2.2, 0, none⟩))])
    (fun x => [blk x.1.2.2.2.2.2 49 (dC m.Class [.slice A1 m.Next.length c1, .slice A2 m.Rule.length c2, .slice x.1.2.1 (m.Next.length + 1) x.1.2.2.1, .map (some x.1.2.2.2.1), .map (some x.1.2.2.2.2.1), .slice none 0 0]),
      pI x.1.2.1 (m.Next.length + 1) x.1.2.2.1 x.1.1, mapA encI x.1.2.2.2.2.1 ([] : List (Int × Value)), mapA encI x.1.2.2.2.1 ([] : List (Int × Value)), blk b1 26 (dC m.Class [.slice A1 m.Next.length c1, .slice A2 m.Rule.length c2]), blk b2 26 (dC .zero [nilS, nilS])]) ?_ (fun hfin => ?_)
  · rintro ⟨⟨p, Ap, cp, bm1, bm2, b5⟩, hg, hq⟩
    simp only at hg hq ⊢
    have q : IsEq m p := ⟨hg, hq⟩
    repeat' (first | refine e_nil ?_ | ((first | refine e_op ?_ | refine e_yes rfl ?_); (first | refine o_dNew rfl rfl rfl (fun _ => ?_) | refine o_dNew0 rfl rfl rfl (fun _ => ?_) | refine dAll rfl rfl rfl td uc rfl rfl rfl ?_ | refine dS rfl rfl rfl rfl rfl rfl rfl td uc rfl ?_ | refine o_n (n_b26 rfl rfl) rfl ?_ | refine o_n (n_b26NR rfl rfl rfl rfl rfl) rfl ?_ | refine o_n (n_b26R rfl rfl rfl rfl) rfl ?_ | refine o_n (n_b26CR rfl rfl rfl rfl) rfl ?_ | refine o_n (n_b91 rfl rfl rfl rfl rfl rfl) rfl ?_ | refine o_n (peval_sound rfl) rfl ?_ | refine o_n (nl rfl rfl tc rfl) rfl ?_ | refine o_n (dR rfl rfl td rfl rfl rfl) rfl ?_ | refine o_n (dA rfl rfl td rfl rfl) rfl ?_ | refine o_n (dK rfl rfl td rfl rfl) rfl ?_ | refine o_storeC rfl rfl rfl rfl tc uc rfl rfl rfl ?_ | refine o_box rfl rfl (fun _ => ?_) | refine o_box1 rfl rfl rfl (fun _ => ?_) | refine o_alloc rfl rfl (fun _ => ?_))) | refine e_noU rfl rfl rfl ?_ | refine e_noN rfl rfl ?_ | refine s_seq ?_ | refine s_region ?_ | refine s_block ?_ | refine s_end ?_ | refine s_skip ?_ | refine s_exit ?_ | refine s_true rfl ?_ | refine s_false rfl ?_ | refine x_hit ?_ | refine x_code ?_ | refine x_back ?_ | refine x_miss rfl ?_)
    have hpl := hg.len
    have hI : ∀ x ∈ p, I64 x := fun x hx => ⟨by have := (hg.rng x hx).1; omega, by have := (hg.rng x hx).2; omega⟩
    refine s_loopK (ι := {x : Nat × List (Int × Value) // x.1 ≤ m.Next.length ∧ AnyOk m p x.1 x.2}) [1, 2, 5] rfl ⟨(m.Next.length, []), Nat.le_refl _, any_nil m p⟩ (fun x => [(6, .int .i64 ((x.1.1 : Int) - 1))])
      (fun x => [blk b5 49 (dC m.Class [.slice A1 m.Next.length c1, .slice A2 m.Rule.length c2, .slice Ap (m.Next.length + 1) cp, .map (some bm1), .map (some bm2), .slice none 0 0]),
        pI Ap (m.Next.length + 1) cp p, mapA encI bm1 x.1.2, mapA encI bm2 ([] : List (Int × Value)), blk b1 26 (dC m.Class [.slice A1 m.Next.length c1, .slice A2 m.Rule.length c2]), blk b2 26 (dC .zero [nilS, nilS])]) (fun x => x.1.1) ?_ (by repeat' (first | exact Ent.nil _ | refine Ent.tak tk ?_)) ?_
    · repeat' (first | exact Sub.nil _ | refine Sub.cons rfl ?_ | refine Sub.consE rfl ?_ ?_)
      rw [wrap_i64 (by omega) (by omega)]
    rintro ⟨⟨j, l⟩, hj, hany⟩
    simp only at hj hany ⊢
    repeat' (first | refine e_nil ?_ | ((first | refine e_op ?_ | refine e_yes rfl ?_); (first | refine o_dNew rfl rfl rfl (fun _ => ?_) | refine o_dNew0 rfl rfl rfl (fun _ => ?_) | refine dAll rfl rfl rfl td uc rfl rfl rfl ?_ | refine dS rfl rfl rfl rfl rfl rfl rfl td uc rfl ?_ | refine o_n (n_b26 rfl rfl) rfl ?_ | refine o_n (n_b26NR rfl rfl rfl rfl rfl) rfl ?_ | refine o_n (n_b26R rfl rfl rfl rfl) rfl ?_ | refine o_n (n_b26CR rfl rfl rfl rfl) rfl ?_ | refine o_n (n_b91 rfl rfl rfl rfl rfl rfl) rfl ?_ | refine o_n (peval_sound rfl) rfl ?_ | refine o_n (nl rfl rfl tc rfl) rfl ?_ | refine o_n (dR rfl rfl td rfl rfl rfl) rfl ?_ | refine o_n (dA rfl rfl td rfl rfl) rfl ?_ | refine o_n (dK rfl rfl td rfl rfl) rfl ?_ | refine o_storeC rfl rfl rfl rfl tc uc rfl rfl rfl ?_ | refine o_box rfl rfl (fun _ => ?_) | refine o_box1 rfl rfl rfl (fun _ => ?_) | refine o_alloc rfl rfl (fun _ => ?_))) | refine e_noU rfl rfl rfl ?_ | refine e_noN rfl rfl ?_ | refine s_seq ?_ | refine s_region ?_ | refine s_block ?_ | refine s_end ?_ | refine s_skip ?_ | refine s_exit ?_ | refine s_true rfl ?_ | refine s_false rfl ?_ | refine x_hit ?_ | refine x_code ?_ | refine x_back ?_ | refine x_miss rfl ?_)
    refine s_cond rfl (fun h => ?_) (fun h => ?_)
    · have hlt : 0 < j := by have := of_decide_eq_true h; omega
      clear h
      obtain ⟨j, rfl⟩ : ∃ i, j = i + 1 := ⟨j - 1, by omega⟩
      have ej : ((j + 1 : Nat) : Int) - 1 = (j : Nat) := by omega
      rw [ej]
      repeat' (first | refine e_nil ?_ | ((first | refine e_op ?_ | refine e_yes rfl ?_); (first | refine o_dNew rfl rfl rfl (fun _ => ?_) | refine o_dNew0 rfl rfl rfl (fun _ => ?_) | refine dAll rfl rfl rfl td uc rfl rfl rfl ?_ | refine dS rfl rfl rfl rfl rfl rfl rfl td uc rfl ?_ | refine o_n (n_b26 rfl rfl) rfl ?_ | refine o_n (n_b26NR rfl rfl rfl rfl rfl) rfl ?_ | refine o_n (n_b26R rfl rfl rfl rfl) rfl ?_ | refine o_n (n_b26CR rfl rfl rfl rfl) rfl ?_ | refine o_n (n_b91 rfl rfl rfl rfl rfl rfl) rfl ?_ | refine o_n (peval_sound rfl) rfl ?_ | refine o_n (nl rfl rfl tc rfl) rfl ?_ | refine o_n (dR rfl rfl td rfl rfl rfl) rfl ?_ | refine o_n (dA rfl rfl td rfl rfl) rfl ?_ | refine o_n (dK rfl rfl td rfl rfl) rfl ?_ | refine o_storeC rfl rfl rfl rfl tc uc rfl rfl rfl ?_ | refine o_box rfl rfl (fun _ => ?_) | refine o_box1 rfl rfl rfl (fun _ => ?_) | refine o_alloc rfl rfl (fun _ => ?_))) | refine e_noU rfl rfl rfl ?_ | refine e_noN rfl rfl ?_ | refine s_seq ?_ | refine s_region ?_ | refine s_block ?_ | refine s_end ?_ | refine s_skip ?_ | refine s_exit ?_ | refine s_true rfl ?_ | refine s_false rfl ?_ | refine x_hit ?_ | refine x_code ?_ | refine x_back ?_ | refine x_miss rfl ?_)
      refine s_anyT (.s (.s .z)) Try.mixed ?_
      refine a_n 0 rfl (peval_sound rfl) (by decide +kernel) (by (first | exact Ent.refl _ | assumption | repeat' (first | exact Ent.refl _ | exact Ent.nil _ | refine Ent.tak .z ?_ | refine Ent.wk ?_))) rfl ?_
      refine a_n 1 rfl (peval_sound rfl) (by decide +kernel) (by (first | exact Ent.refl _ | assumption | repeat' (first | exact Ent.refl _ | exact Ent.nil _ | refine Ent.tak .z ?_ | refine Ent.wk ?_))) rfl ?_
      refine a_n 2 rfl (peval_sound rfl) (by decide +kernel) (by (first | exact Ent.refl _ | assumption | repeat' (first | exact Ent.refl _ | exact Ent.nil _ | refine Ent.tak .z ?_ | refine Ent.wk ?_))) rfl ?_
      refine a_n 3 rfl (n_dR rfl rfl .z rfl rfl rfl) (by decide +kernel) (by (first | exact Ent.refl _ | assumption | repeat' (first | exact Ent.refl _ | exact Ent.nil _ | refine Ent.tak .z ?_ | refine Ent.wk ?_))) rfl ?_
      refine a_n 4 rfl (peval_sound rfl) (by decide +kernel) (by (first | exact Ent.refl _ | assumption | repeat' (first | exact Ent.refl _ | exact Ent.nil _ | refine Ent.tak .z ?_ | refine Ent.wk ?_))) rfl ?_
      refine a_n 5 rfl (peval_sound rfl) (by decide +kernel) (by (first | exact Ent.refl _ | assumption | repeat' (first | exact Ent.refl _ | exact Ent.nil _ | refine Ent.tak .z ?_ | refine Ent.wk ?_))) rfl ?_
      refine a_n 6 rfl (peval_sound rfl) (by decide +kernel) (by (first | exact Ent.refl _ | assumption | repeat' (first | exact Ent.refl _ | exact Ent.nil _ | refine Ent.tak .z ?_ | refine Ent.wk ?_))) rfl ?_
      refine a_n 7 rfl (n_dR rfl rfl .z rfl rfl rfl) (by decide +kernel) (by (first | exact Ent.refl _ | assumption | repeat' (first | exact Ent.refl _ | exact Ent.nil _ | refine Ent.tak .z ?_ | refine Ent.wk ?_))) rfl ?_
      refine a_n 8 rfl (peval_sound rfl) (by decide +kernel) (by (first | exact Ent.refl _ | assumption | repeat' (first | exact Ent.refl _ | exact Ent.nil _ | refine Ent.tak .z ?_ | refine Ent.wk ?_))) rfl ?_
      refine a_n 10 rfl (peval_sound rfl) (by decide +kernel) (by (first | exact Ent.refl _ | assumption | repeat' (first | exact Ent.refl _ | exact Ent.nil _ | refine Ent.tak .z ?_ | refine Ent.wk ?_))) rfl ?_
      refine a_1 9 (by decide +kernel) rfl rfl (o_call (of_w Ap (m.Next.length + 1) cp p (j : Nat) hpl (.inr ⟨by omega, by omega⟩) (by omega) (by omega)) rfl .nil (can_ints (.s .z) hI (by omega)) rfl ?_)
      rintro v V ⟨rfl, rfl⟩
      refine ⟨(by (first | exact Ent.refl _ | assumption | repeat' (first | exact Ent.refl _ | exact Ent.nil _ | refine Ent.tak .z ?_ | refine Ent.wk ?_))), ?_⟩
      refine a_1 11 (by decide +kernel) rfl rfl (o_mapUpdate (k := pOf p (j : Nat)) rfl mk3 rfl rfl rfl rfl (.s (.s .z)) ⟨(by (first | exact Ent.refl _ | assumption | repeat' (first | exact Ent.refl _ | exact Ent.nil _ | refine Ent.tak .z ?_ | refine Ent.wk ?_))), ?_⟩)
      refine a_done (by decide +kernel) ?_
      repeat' (first | refine e_nil ?_ | ((first | refine e_op ?_ | refine e_yes rfl ?_); (first | refine o_dNew rfl rfl rfl (fun _ => ?_) | refine o_dNew0 rfl rfl rfl (fun _ => ?_) | refine dAll rfl rfl rfl td uc rfl rfl rfl ?_ | refine dS rfl rfl rfl rfl rfl rfl rfl td uc rfl ?_ | refine o_n (n_b26 rfl rfl) rfl ?_ | refine o_n (n_b26NR rfl rfl rfl rfl rfl) rfl ?_ | refine o_n (n_b26R rfl rfl rfl rfl) rfl ?_ | refine o_n (n_b26CR rfl rfl rfl rfl) rfl ?_ | refine o_n (n_b91 rfl rfl rfl rfl rfl rfl) rfl ?_ | refine o_n (peval_sound rfl) rfl ?_ | refine o_n (nl rfl rfl tc rfl) rfl ?_ | refine o_n (dR rfl rfl td rfl rfl rfl) rfl ?_ | refine o_n (dA rfl rfl td rfl rfl) rfl ?_ | refine o_n (dK rfl rfl td rfl rfl) rfl ?_ | refine o_storeC rfl rfl rfl rfl tc uc rfl rfl rfl ?_ | refine o_box rfl rfl (fun _ => ?_) | refine o_box1 rfl rfl rfl (fun _ => ?_) | refine o_alloc rfl rfl (fun _ => ?_))) | refine e_noU rfl rfl rfl ?_ | refine e_noN rfl rfl ?_ | refine s_seq ?_ | refine s_region ?_ | refine s_block ?_ | refine s_end ?_ | refine s_skip ?_ | refine s_exit ?_ | refine s_true rfl ?_ | refine s_false rfl ?_ | refine x_hit ?_ | refine x_code ?_ | refine x_back ?_ | refine x_miss rfl ?_)
      refine s_back ⟨⟨(j, setK (pOf p (j : Nat)) (.int .i64 (j : Nat)) l), by omega, any_step hany (by omega)⟩, by simp only; omega, ?_, Ent.refl _⟩
      repeat' (first | exact Sub.nil _ | refine Sub.cons rfl ?_ | refine Sub.consE rfl ?_ ?_)
      rw [wrap_i64 (by omega) (by omega)]
    have hj0 : j = 0 := by have := of_decide_eq_false h; omega
    subst hj0
    clear h hj
    repeat' (first | refine e_nil ?_ | ((first | refine e_op ?_ | refine e_yes rfl ?_); (first | refine o_dNew rfl rfl rfl (fun _ => ?_) | refine o_dNew0 rfl rfl rfl (fun _ => ?_) | refine dAll rfl rfl rfl td uc rfl rfl rfl ?_ | refine dS rfl rfl rfl rfl rfl rfl rfl td uc rfl ?_ | refine o_n (n_b26 rfl rfl) rfl ?_ | refine o_n (n_b26NR rfl rfl rfl rfl rfl) rfl ?_ | refine o_n (n_b26R rfl rfl rfl rfl) rfl ?_ | refine o_n (n_b26CR rfl rfl rfl rfl) rfl ?_ | refine o_n (n_b91 rfl rfl rfl rfl rfl rfl) rfl ?_ | refine o_n (peval_sound rfl) rfl ?_ | refine o_n (nl rfl rfl tc rfl) rfl ?_ | refine o_n (dR rfl rfl td rfl rfl rfl) rfl ?_ | refine o_n (dA rfl rfl td rfl rfl) rfl ?_ | refine o_n (dK rfl rfl td rfl rfl) rfl ?_ | refine o_storeC rfl rfl rfl rfl tc uc rfl rfl rfl ?_ | refine o_box rfl rfl (fun _ => ?_) | refine o_box1 rfl rfl rfl (fun _ => ?_) | refine o_alloc rfl rfl (fun _ => ?_))) | refine e_noU rfl rfl rfl ?_ | refine e_noN rfl rfl ?_ | refine s_seq ?_ | refine s_region ?_ | refine s_block ?_ | refine s_end ?_ | refine s_skip ?_ | refine s_exit ?_ | refine s_true rfl ?_ | refine s_false rfl ?_ | refine x_hit ?_ | refine x_code ?_ | refine x_back ?_ | refine x_miss rfl ?_)
    refine s_anyU Try.mixed ?_
    refine a_n 0 rfl (peval_sound rfl) (by decide +kernel) (Ent.refl _) rfl ?_
    refine a_n 1 rfl (peval_sound rfl) (by decide +kernel) (Ent.refl _) rfl ?_
    refine a_n 2 rfl (peval_sound rfl) (by decide +kernel) (Ent.refl _) rfl ?_
    refine a_n 3 rfl (n_dR rfl rfl .z rfl rfl rfl) (by decide +kernel) (Ent.refl _) rfl ?_
    refine a_n 5 rfl (peval_sound rfl) (by decide +kernel) (Ent.refl _) rfl ?_
    refine a_n 6 rfl (peval_sound rfl) (by decide +kernel) (Ent.refl _) rfl ?_
    refine a_n 7 rfl (peval_sound rfl) (by decide +kernel) (Ent.refl _) rfl ?_
    refine a_n 8 rfl (n_dR rfl rfl .z rfl rfl rfl) (by decide +kernel) (Ent.refl _) rfl ?_
    refine a_1 4 (by decide +kernel) rfl rfl (o_call (of_w Ap (m.Next.length + 1) cp p 0 hpl (.inr ⟨by omega, by omega⟩) (by omega) (by omega)) rfl .nil (can_ints (.s .z) hI (by omega)) rfl ?_)
    rintro v V ⟨rfl, rfl⟩
    refine ⟨(by (first | exact Ent.refl _ | assumption | repeat' (first | exact Ent.refl _ | exact Ent.nil _ | refine Ent.tak .z ?_ | refine Ent.wk ?_))), ?_⟩
    refine a_1 9 (by decide +kernel) rfl rfl (o_call (of_w Ap (m.Next.length + 1) cp p (-1) hpl (.inl rfl) (by omega) (by omega)) rfl .nil (can_ints (.s .z) hI (by omega)) rfl ?_)
    rintro v V ⟨rfl, rfl⟩
    refine ⟨(by (first | exact Ent.refl _ | assumption | repeat' (first | exact Ent.refl _ | exact Ent.nil _ | refine Ent.tak .z ?_ | refine Ent.wk ?_))), ?_⟩
    simp only [List.nil_append]
    refine a_n 10 rfl (peval_sound rfl) (by decide +kernel) (Ent.refl _) rfl ?_
    refine a_done (by decide +kernel) ?_
    refine s_cond rfl (fun h => ?_) (fun h => ?_)
    · have h1 : pOf p 0 = pOf p (-1) := by simpa using h
      have hd : al m 0 < 0 := (al_neg o (st_nat hn0)).2 ((q.iff _ _ (st_nat hn0) (st_neg m)).1 h1)
      have e : ofM m = ⟨.zero, [[-1]], [-1]⟩ := by unfold ofM; rw [if_pos he, dead_least o hd]
      repeat' (first | refine e_nil ?_ | ((first | refine e_op ?_ | refine e_yes rfl ?_); (first | refine o_dNew rfl rfl rfl (fun _ => ?_) | refine o_dNew0 rfl rfl rfl (fun _ => ?_) | refine dAll rfl rfl rfl td uc rfl rfl rfl ?_ | refine dS rfl rfl rfl rfl rfl rfl rfl td uc rfl ?_ | refine o_n (n_b26 rfl rfl) rfl ?_ | refine o_n (n_b26NR rfl rfl rfl rfl rfl) rfl ?_ | refine o_n (n_b26R rfl rfl rfl rfl) rfl ?_ | refine o_n (n_b26CR rfl rfl rfl rfl) rfl ?_ | refine o_n (n_b91 rfl rfl rfl rfl rfl rfl) rfl ?_ | refine o_n (peval_sound rfl) rfl ?_ | refine o_n (nl rfl rfl tc rfl) rfl ?_ | refine o_n (dR rfl rfl td rfl rfl rfl) rfl ?_ | refine o_n (dA rfl rfl td rfl rfl) rfl ?_ | refine o_n (dK rfl rfl td rfl rfl) rfl ?_ | refine o_storeC rfl rfl rfl rfl tc uc rfl rfl rfl ?_ | refine o_box rfl rfl (fun _ => ?_) | refine o_box1 rfl rfl rfl (fun _ => ?_) | refine o_alloc rfl rfl (fun _ => ?_))) | refine e_noU rfl rfl rfl ?_ | refine e_noN rfl rfl ?_ | refine s_seq ?_ | refine s_region ?_ | refine s_block ?_ | refine s_end ?_ | refine s_skip ?_ | refine s_exit ?_ | refine s_true rfl ?_ | refine s_false rfl ?_ | refine x_hit ?_ | refine x_code ?_ | refine x_back ?_ | refine x_miss rfl ?_)
      refine e_op (o_lit (ps := [(0, .int .i64 (-1))]) (cs := [.int .i64 (-1)]) rfl rfl rfl rfl rfl rfl rfl (fun b7 => ?_))
      refine e_op (o_lit (ps := [(0, .slice (some ⟨b7, 0, none⟩) 1 1)]) (cs := [.slice (some ⟨b7, 0, none⟩) 1 1]) rfl rfl rfl rfl rfl rfl rfl (fun b8 => ?_))
      refine e_op (o_lit (ps := [(0, .int .i64 (-1))]) (cs := [.int .i64 (-1)]) rfl rfl rfl rfl rfl rfl rfl (fun b9 => ?_))
      repeat' (first | refine e_nil ?_ | ((first | refine e_op ?_ | refine e_yes rfl ?_); (first | refine o_dNew rfl rfl rfl (fun _ => ?_) | refine o_dNew0 rfl rfl rfl (fun _ => ?_) | refine dAll rfl rfl rfl td uc rfl rfl rfl ?_ | refine dS rfl rfl rfl rfl rfl rfl rfl td uc rfl ?_ | refine o_n (n_b26 rfl rfl) rfl ?_ | refine o_n (n_b26NR rfl rfl rfl rfl rfl) rfl ?_ | refine o_n (n_b26R rfl rfl rfl rfl) rfl ?_ | refine o_n (n_b26CR rfl rfl rfl rfl) rfl ?_ | refine o_n (n_b91 rfl rfl rfl rfl rfl rfl) rfl ?_ | refine o_n (peval_sound rfl) rfl ?_ | refine o_n (nl rfl rfl tc rfl) rfl ?_ | refine o_n (dR rfl rfl td rfl rfl rfl) rfl ?_ | refine o_n (dA rfl rfl td rfl rfl) rfl ?_ | refine o_n (dK rfl rfl td rfl rfl) rfl ?_ | refine o_storeC rfl rfl rfl rfl tc uc rfl rfl rfl ?_ | refine o_box rfl rfl (fun _ => ?_) | refine o_box1 rfl rfl rfl (fun _ => ?_) | refine o_alloc rfl rfl (fun _ => ?_))) | refine e_noU rfl rfl rfl ?_ | refine e_noN rfl rfl ?_ | refine s_seq ?_ | refine s_region ?_ | refine s_block ?_ | refine s_end ?_ | refine s_skip ?_ | refine s_exit ?_ | refine s_true rfl ?_ | refine s_false rfl ?_ | refine x_hit ?_ | refine x_code ?_ | refine x_back ?_ | refine x_miss rfl ?_)
      refine s_ret ⟨_, _, rescD2 rfl rfl rfl (.s (.s (.s (.s (.s (.s (.s (.s .z)))))))) rfl rfl rfl, ⟨some ⟨b8, 0, none⟩, some ⟨b9, 0, none⟩, 1, 1, ?_, rfl⟩, ?_⟩
      · rw [e, he]; rfl
      · rw [e]
        refine Ent.trans ?_ (Ent.ex [(some ⟨b7, 0, none⟩, 1)] rfl (Ent.refl _))
        exact Ent.tak (.s .z) (Ent.tak (.s .z) (Ent.tak .z (Ent.nil _)))
    have h1 : ¬ pOf p 0 = pOf p (-1) := by simpa using h
    clear h
    have hlive : ¬ Eqv m 0 (-1) := fun h => h1 ((q.iff _ _ (st_nat hn0) (st_neg m)).2 h)
    have hal0 : al m 0 = 0 := by
      obtain ⟨t, h2, h3, _⟩ := al_live o (st_nat hn0) hlive
      have h2' : al m 0 = (t : Int) := h2
      omega
    have hbeg : begM m = 0 := by unfold begM; rw [hal0]; rfl
    repeat' (first | refine e_nil ?_ | ((first | refine e_op ?_ | refine e_yes rfl ?_); (first | refine o_dNew rfl rfl rfl (fun _ => ?_) | refine o_dNew0 rfl rfl rfl (fun _ => ?_) | refine dAll rfl rfl rfl td uc rfl rfl rfl ?_ | refine dS rfl rfl rfl rfl rfl rfl rfl td uc rfl ?_ | refine o_n (n_b26 rfl rfl) rfl ?_ | refine o_n (n_b26NR rfl rfl rfl rfl rfl) rfl ?_ | refine o_n (n_b26R rfl rfl rfl rfl) rfl ?_ | refine o_n (n_b26CR rfl rfl rfl rfl) rfl ?_ | refine o_n (n_b91 rfl rfl rfl rfl rfl rfl) rfl ?_ | refine o_n (peval_sound rfl) rfl ?_ | refine o_n (nl rfl rfl tc rfl) rfl ?_ | refine o_n (dR rfl rfl td rfl rfl rfl) rfl ?_ | refine o_n (dA rfl rfl td rfl rfl) rfl ?_ | refine o_n (dK rfl rfl td rfl rfl) rfl ?_ | refine o_storeC rfl rfl rfl rfl tc uc rfl rfl rfl ?_ | refine o_box rfl rfl (fun _ => ?_) | refine o_box1 rfl rfl rfl (fun _ => ?_) | refine o_alloc rfl rfl (fun _ => ?_))) | refine e_noU rfl rfl rfl ?_ | refine e_noN rfl rfl ?_ | refine s_seq ?_ | refine s_region ?_ | refine s_block ?_ | refine s_end ?_ | refine s_skip ?_ | refine s_exit ?_ | refine s_true rfl ?_ | refine s_false rfl ?_ | refine x_hit ?_ | refine x_code ?_ | refine x_back ?_ | refine x_miss rfl ?_)
    refine s_anyT (.s (.s (.s .z))) Try.mixed ?_
    refine a_n 0 rfl (peval_sound rfl) (by decide +kernel) (by (first | exact Ent.refl _ | assumption | repeat' (first | exact Ent.refl _ | exact Ent.nil _ | refine Ent.tak .z ?_ | refine Ent.wk ?_))) rfl ?_
    refine a_n 1 rfl (peval_sound rfl) (by decide +kernel) (by (first | exact Ent.refl _ | assumption | repeat' (first | exact Ent.refl _ | exact Ent.nil _ | refine Ent.tak .z ?_ | refine Ent.wk ?_))) rfl ?_
    refine a_n 2 rfl (peval_sound rfl) (by decide +kernel) (by (first | exact Ent.refl _ | assumption | repeat' (first | exact Ent.refl _ | exact Ent.nil _ | refine Ent.tak .z ?_ | refine Ent.wk ?_))) rfl ?_
    refine a_n 3 rfl (n_dR rfl rfl .z rfl rfl rfl) (by decide +kernel) (by (first | exact Ent.refl _ | assumption | repeat' (first | exact Ent.refl _ | exact Ent.nil _ | refine Ent.tak .z ?_ | refine Ent.wk ?_))) rfl ?_
    refine a_n 4 rfl (peval_sound rfl) (by decide +kernel) (by (first | exact Ent.refl _ | assumption | repeat' (first | exact Ent.refl _ | exact Ent.nil _ | refine Ent.tak .z ?_ | refine Ent.wk ?_))) rfl ?_
    refine a_n 5 rfl (peval_sound rfl) (by decide +kernel) (by (first | exact Ent.refl _ | assumption | repeat' (first | exact Ent.refl _ | exact Ent.nil _ | refine Ent.tak .z ?_ | refine Ent.wk ?_))) rfl ?_
    refine a_n 6 rfl (peval_sound rfl) (by decide +kernel) (by (first | exact Ent.refl _ | assumption | repeat' (first | exact Ent.refl _ | exact Ent.nil _ | refine Ent.tak .z ?_ | refine Ent.wk ?_))) rfl ?_
    refine a_n 7 rfl (n_dR rfl rfl .z rfl rfl rfl) (by decide +kernel) (by (first | exact Ent.refl _ | assumption | repeat' (first | exact Ent.refl _ | exact Ent.nil _ | refine Ent.tak .z ?_ | refine Ent.wk ?_))) rfl ?_
    refine a_1 8 (by decide +kernel) rfl rfl (o_call (of_w Ap (m.Next.length + 1) cp p 0 hpl (.inr ⟨by omega, by omega⟩) (by omega) (by omega)) rfl .nil (can_ints (.s .z) hI (by omega)) rfl ?_)
    rintro v V ⟨rfl, rfl⟩
    refine ⟨(by (first | exact Ent.refl _ | assumption | repeat' (first | exact Ent.refl _ | exact Ent.nil _ | refine Ent.tak .z ?_ | refine Ent.wk ?_))), ?_⟩
    simp only [List.nil_append]
    refine a_1 9 (by decide +kernel) rfl rfl (o_gup (u := ([] : List Int)) (k := pOf p 0) (by simp) rfl mk3 rfl rfl rfl rfl (.s (.s (.s .z))) ⟨(by (first | exact Ent.refl _ | assumption | repeat' (first | exact Ent.refl _ | exact Ent.nil _ | refine Ent.tak .z ?_ | refine Ent.wk ?_))), ?_⟩)
    refine a_done (by decide +kernel) ?_
    repeat' (first | refine e_nil ?_ | ((first | refine e_op ?_ | refine e_yes rfl ?_); (first | refine o_dNew rfl rfl rfl (fun _ => ?_) | refine o_dNew0 rfl rfl rfl (fun _ => ?_) | refine dAll rfl rfl rfl td uc rfl rfl rfl ?_ | refine dS rfl rfl rfl rfl rfl rfl rfl td uc rfl ?_ | refine o_n (n_b26 rfl rfl) rfl ?_ | refine o_n (n_b26NR rfl rfl rfl rfl rfl) rfl ?_ | refine o_n (n_b26R rfl rfl rfl rfl) rfl ?_ | refine o_n (n_b26CR rfl rfl rfl rfl) rfl ?_ | refine o_n (n_b91 rfl rfl rfl rfl rfl rfl) rfl ?_ | refine o_n (peval_sound rfl) rfl ?_ | refine o_n (nl rfl rfl tc rfl) rfl ?_ | refine o_n (dR rfl rfl td rfl rfl rfl) rfl ?_ | refine o_n (dA rfl rfl td rfl rfl) rfl ?_ | refine o_n (dK rfl rfl td rfl rfl) rfl ?_ | refine o_storeC rfl rfl rfl rfl tc uc rfl rfl rfl ?_ | refine o_box rfl rfl (fun _ => ?_) | refine o_box1 rfl rfl rfl (fun _ => ?_) | refine o_alloc rfl rfl (fun _ => ?_))) | refine e_noU rfl rfl rfl ?_ | refine e_noN rfl rfl ?_ | refine s_seq ?_ | refine s_region ?_ | refine s_block ?_ | refine s_end ?_ | refine s_skip ?_ | refine s_exit ?_ | refine s_true rfl ?_ | refine s_false rfl ?_ | refine x_hit ?_ | refine x_code ?_ | refine x_back ?_ | refine x_miss rfl ?_)
    refine e_op (o_call (of_w Ap (m.Next.length + 1) cp p 0 hpl (.inr ⟨by omega, by omega⟩) (by omega) (by omega)) rfl .nil (can_ints (.s .z) hI (by omega)) rfl ?_)
    rintro v V ⟨rfl, rfl⟩
    simp only [List.nil_append]
    refine e_op (o_lit (ps := [(0, .int .i64 (pOf p 0))]) (cs := [.int .i64 (pOf p 0)]) rfl rfl rfl rfl rfl rfl rfl (fun b7 => ?_))
    repeat' (first | refine e_nil ?_ | ((first | refine e_op ?_ | refine e_yes rfl ?_); (first | refine o_dNew rfl rfl rfl (fun _ => ?_) | refine o_dNew0 rfl rfl rfl (fun _ => ?_) | refine dAll rfl rfl rfl td uc rfl rfl rfl ?_ | refine dS rfl rfl rfl rfl rfl rfl rfl td uc rfl ?_ | refine o_n (n_b26 rfl rfl) rfl ?_ | refine o_n (n_b26NR rfl rfl rfl rfl rfl) rfl ?_ | refine o_n (n_b26R rfl rfl rfl rfl) rfl ?_ | refine o_n (n_b26CR rfl rfl rfl rfl) rfl ?_ | refine o_n (n_b91 rfl rfl rfl rfl rfl rfl) rfl ?_ | refine o_n (peval_sound rfl) rfl ?_ | refine o_n (nl rfl rfl tc rfl) rfl ?_ | refine o_n (dR rfl rfl td rfl rfl rfl) rfl ?_ | refine o_n (dA rfl rfl td rfl rfl) rfl ?_ | refine o_n (dK rfl rfl td rfl rfl) rfl ?_ | refine o_storeC rfl rfl rfl rfl tc uc rfl rfl rfl ?_ | refine o_box rfl rfl (fun _ => ?_) | refine o_box1 rfl rfl rfl (fun _ => ?_) | refine o_alloc rfl rfl (fun _ => ?_))) | refine e_noU rfl rfl rfl ?_ | refine e_noN rfl rfl ?_ | refine s_seq ?_ | refine s_region ?_ | refine s_block ?_ | refine s_end ?_ | refine s_skip ?_ | refine s_exit ?_ | refine s_true rfl ?_ | refine s_false rfl ?_ | refine x_hit ?_ | refine x_code ?_ | refine x_back ?_ | refine x_miss rfl ?_)
    have hfs := fin_sts o
    have hfl := rows_sz o hfs
    generalize hfin0 : finM m = fin at *
    refine s_loopK (ι := {x : Nat × List Int × Option Addr × Nat × Option Addr × Nat // x.1 ≤ x.2.1.length ∧ Reps m x.2.1 ∧ bfs m (m.Next.length + 1 - x.1) x.1 x.2.1 = fin}) [1, 2, 5] rfl
      ⟨(0, [0], some ⟨b7, 0, none⟩, 1, none, 0), by simp, ⟨hbeg ▸ beg_sts o, fun s hs => by rw [List.mem_singleton] at hs; subst hs; exact hal0⟩, by rw [← hfin0]; unfold finM; rw [hbeg]; rfl⟩
      (fun x => [(7, .slice x.1.2.2.2.2.1 x.1.1 x.1.2.2.2.2.2), (8, .int .i64 x.1.1)])
      (fun x => [fndB b5 m A1 A2 Ap x.1.2.2.1 c1 c2 cp x.1.2.2.2.1 bm1 bm2 x.1.2.1, pI Ap (m.Next.length + 1) cp p, mapA encI bm2 (asG (x.1.2.1.map (pOf p))), pI x.1.2.2.1 x.1.2.1.length x.1.2.2.2.1 (x.1.2.1.map (pOf p)), mapA encI bm1 l,
        osl 22 256 (.slice x.1.2.2.2.2.1 x.1.1 x.1.2.2.2.2.2) x.1.1 (((fin.take x.1.1).map (rowC m fin)).flatMap encRow), blk b1 26 (dC m.Class [.slice A1 m.Next.length c1, .slice A2 m.Rule.length c2]), blk b2 26 (dC .zero [nilS, nilS])]) (fun x => m.Next.length + 1 - x.1.1) ?_ ?_ ?_
    · repeat' (first | exact Sub.nil _ | refine Sub.cons rfl ?_ | refine Sub.consE rfl ?_ ?_)
    · refine Ent.tak (.s .z) (Ent.tak (.s .z) (Ent.tak (.s (.s .z)) (Ent.tak .z (Ent.tak .z (Ent.osl0 (Ent.refl _))))))
    rintro ⟨⟨i, st, Ao, co, Ar, cr⟩, hi, hr, hbfs⟩
    simp only at hi hr hbfs ⊢
    have hsl := hr.sts.len
    repeat' (first | refine e_nil ?_ | ((first | refine e_op ?_ | refine e_yes rfl ?_); (first | refine o_dNew rfl rfl rfl (fun _ => ?_) | refine o_dNew0 rfl rfl rfl (fun _ => ?_) | refine dAll rfl rfl rfl td uc rfl rfl rfl ?_ | refine dS rfl rfl rfl rfl rfl rfl rfl td uc rfl ?_ | refine o_n (n_b26 rfl rfl) rfl ?_ | refine o_n (n_b26NR rfl rfl rfl rfl rfl) rfl ?_ | refine o_n (n_b26R rfl rfl rfl rfl) rfl ?_ | refine o_n (n_b26CR rfl rfl rfl rfl) rfl ?_ | refine o_n (n_b91 rfl rfl rfl rfl rfl rfl) rfl ?_ | refine o_n (peval_sound rfl) rfl ?_ | refine o_n (nl rfl rfl tc rfl) rfl ?_ | refine o_n (dR rfl rfl td rfl rfl rfl) rfl ?_ | refine o_n (dA rfl rfl td rfl rfl) rfl ?_ | refine o_n (dK rfl rfl td rfl rfl) rfl ?_ | refine o_storeC rfl rfl rfl rfl tc uc rfl rfl rfl ?_ | refine o_box rfl rfl (fun _ => ?_) | refine o_box1 rfl rfl rfl (fun _ => ?_) | refine o_alloc rfl rfl (fun _ => ?_))) | refine e_noU rfl rfl rfl ?_ | refine e_noN rfl rfl ?_ | refine s_seq ?_ | refine s_region ?_ | refine s_block ?_ | refine s_end ?_ | refine s_skip ?_ | refine s_exit ?_ | refine s_true rfl ?_ | refine s_false rfl ?_ | refine x_hit ?_ | refine x_code ?_ | refine x_back ?_ | refine x_miss rfl ?_)
    refine s_cond rfl (fun h => ?_) (fun h => ?_)
    · have hlt : i < st.length := by have := of_decide_eq_true h; omega
      clear h
      obtain ⟨f, hf⟩ : ∃ f, m.Next.length + 1 - i = f + 1 := ⟨m.Next.length - i, by omega⟩
      rw [hf, bfs_go hlt] at hbfs
      have hsm : st[i] ∈ st := List.getElem_mem hlt
      obtain ⟨s, hs⟩ : ∃ s : Nat, st[i] = (s : Int) := ⟨st[i].toNat, by have := (hr.sts.rng _ hsm).1; omega⟩
      rw [hs] at hbfs hsm
      have hsn : s < m.Next.length := by have := (hr.sts.rng _ hsm).2; omega
      have hsr : al m (s : Int) = s := hr.rep _ hsm
      have hlk := any_rep o q hany hsn hsr
      repeat' (first | refine e_nil ?_ | ((first | refine e_op ?_ | refine e_yes rfl ?_); (first | refine o_dNew rfl rfl rfl (fun _ => ?_) | refine o_dNew0 rfl rfl rfl (fun _ => ?_) | refine dAll rfl rfl rfl td uc rfl rfl rfl ?_ | refine dS rfl rfl rfl rfl rfl rfl rfl td uc rfl ?_ | refine o_n (n_b26 rfl rfl) rfl ?_ | refine o_n (n_b26NR rfl rfl rfl rfl rfl) rfl ?_ | refine o_n (n_b26R rfl rfl rfl rfl) rfl ?_ | refine o_n (n_b26CR rfl rfl rfl rfl) rfl ?_ | refine o_n (n_b91 rfl rfl rfl rfl rfl rfl) rfl ?_ | refine o_n (peval_sound rfl) rfl ?_ | refine o_n (nl rfl rfl tc rfl) rfl ?_ | refine o_n (dR rfl rfl td rfl rfl rfl) rfl ?_ | refine o_n (dA rfl rfl td rfl rfl) rfl ?_ | refine o_n (dK rfl rfl td rfl rfl) rfl ?_ | refine o_storeC rfl rfl rfl rfl tc uc rfl rfl rfl ?_ | refine o_box rfl rfl (fun _ => ?_) | refine o_box1 rfl rfl rfl (fun _ => ?_) | refine o_alloc rfl rfl (fun _ => ?_))) | refine e_noU rfl rfl rfl ?_ | refine e_noN rfl rfl ?_ | refine s_seq ?_ | refine s_region ?_ | refine s_block ?_ | refine s_end ?_ | refine s_skip ?_ | refine s_exit ?_ | refine s_true rfl ?_ | refine s_false rfl ?_ | refine x_hit ?_ | refine x_code ?_ | refine x_back ?_ | refine x_miss rfl ?_)
      rename_i b9
      refine s_loopK (ι := {x : Nat × Option Addr × Nat × C256 // x.1 ≤ 256 ∧ ∀ j, j < x.1 → x.2.2.2.get j = findI fin (go m s j)}) [1, 2, 5, 7, 8, 9] rfl ⟨(0, Ao, co, .zero), by omega, fun j h => by omega⟩ (fun x => [(94, .int .i64 x.1.1)])
        (fun x => [blk b9 22 (dC x.1.2.2.2 []), fndB b5 m A1 A2 Ap x.1.2.1 c1 c2 cp x.1.2.2.1 bm1 bm2 (rowS2 m s st x.1.1), pI Ap (m.Next.length + 1) cp p, mapA encI bm2 (asG ((rowS2 m s st x.1.1).map (pOf p))), pI x.1.2.1 (rowS2 m s st x.1.1).length x.1.2.2.1 ((rowS2 m s st x.1.1).map (pOf p)), mapA encI bm1 l,
          osl 22 256 (.slice Ar i cr) i (((fin.take i).map (rowC m fin)).flatMap encRow), blk b1 26 (dC m.Class [.slice A1 m.Next.length c1, .slice A2 m.Rule.length c2]), blk b2 26 (dC .zero [nilS, nilS])]) (fun x => 256 - x.1.1) ?_ ?_ ?_
      · repeat' (first | exact Sub.nil _ | refine Sub.cons rfl ?_ | refine Sub.consE rfl ?_ ?_)
      · exact Ent.refl _
      rintro ⟨⟨c, Ao2, co2, r⟩, hc, hrow⟩
      simp only at hc hrow ⊢
      repeat' (first | refine e_nil ?_ | ((first | refine e_op ?_ | refine e_yes rfl ?_); (first | refine o_dNew rfl rfl rfl (fun _ => ?_) | refine o_dNew0 rfl rfl rfl (fun _ => ?_) | refine dAll rfl rfl rfl td uc rfl rfl rfl ?_ | refine dS rfl rfl rfl rfl rfl rfl rfl td uc rfl ?_ | refine o_n (n_b26 rfl rfl) rfl ?_ | refine o_n (n_b26NR rfl rfl rfl rfl rfl) rfl ?_ | refine o_n (n_b26R rfl rfl rfl rfl) rfl ?_ | refine o_n (n_b26CR rfl rfl rfl rfl) rfl ?_ | refine o_n (n_b91 rfl rfl rfl rfl rfl rfl) rfl ?_ | refine o_n (peval_sound rfl) rfl ?_ | refine o_n (nl rfl rfl tc rfl) rfl ?_ | refine o_n (dR rfl rfl td rfl rfl rfl) rfl ?_ | refine o_n (dA rfl rfl td rfl rfl) rfl ?_ | refine o_n (dK rfl rfl td rfl rfl) rfl ?_ | refine o_storeC rfl rfl rfl rfl tc uc rfl rfl rfl ?_ | refine o_box rfl rfl (fun _ => ?_) | refine o_box1 rfl rfl rfl (fun _ => ?_) | refine o_alloc rfl rfl (fun _ => ?_))) | refine e_noU rfl rfl rfl ?_ | refine e_noN rfl rfl ?_ | refine s_seq ?_ | refine s_region ?_ | refine s_block ?_ | refine s_end ?_ | refine s_skip ?_ | refine s_exit ?_ | refine s_true rfl ?_ | refine s_false rfl ?_ | refine x_hit ?_ | refine x_code ?_ | refine x_back ?_ | refine x_miss rfl ?_)
      refine s_cond rfl (fun h => ?_) (fun h => ?_)
      · have hlc : c < 256 := by have := of_decide_eq_true h; omega
        clear h
        have hr2 := rowS2_reps o (st_nat hsn) hr c (by omega)
        have hpre := rowS2_pre m s st c
        have hpre2 : rowS2 m s st (c + 1) <+: fin := by
          obtain ⟨d, hd⟩ := Nat.exists_eq_add_of_le (show c + 1 ≤ 256 from hlc)
          have h1 := rowS2_mono m s st (c + 1) d
          rw [← hd] at h1
          rw [← hbfs]
          exact h1.trans (bfs_pre m f (i + 1) _)
        have hfr := findI_row o (st_nat hsn) hr.sts hfs hlc hpre2
        rw [rowS2_succ] at hfr
        have hst2 : (rowS2 m s st c)[i]? = some (s : Int) := by
          obtain ⟨d, hd⟩ := hpre
          rw [← hd, List.getElem?_append_left hlt, List.getElem?_eq_getElem hlt, hs]
        have hi2 : i < (rowS2 m s st c).length := (List.getElem?_eq_some_iff.1 hst2).1
        have hrs := rowS2_succ m s st c
        generalize rowS2 m s st c = st2 at *
        have hld : loadL ⟨.int .i64, 1, 8, [.int .i64 0]⟩ ((st2.map (pOf p)).map (Value.int .i64)) (0 + i * 1) = some (.int .i64 (pOf p s)) := by
          simp [loadL, aggB, hst2]
        repeat' (first | refine e_nil ?_ | ((first | refine e_op ?_ | refine e_yes rfl ?_); (first | refine o_dNew rfl rfl rfl (fun _ => ?_) | refine o_dNew0 rfl rfl rfl (fun _ => ?_) | refine dAll rfl rfl rfl td uc rfl rfl rfl ?_ | refine dS rfl rfl rfl rfl rfl rfl rfl td uc rfl ?_ | refine o_n (n_b26 rfl rfl) rfl ?_ | refine o_n (n_b26NR rfl rfl rfl rfl rfl) rfl ?_ | refine o_n (n_b26R rfl rfl rfl rfl) rfl ?_ | refine o_n (n_b26CR rfl rfl rfl rfl) rfl ?_ | refine o_n (n_b91 rfl rfl rfl rfl rfl rfl) rfl ?_ | refine o_n (peval_sound rfl) rfl ?_ | refine o_n (nl rfl rfl tc rfl) rfl ?_ | refine o_n (dR rfl rfl td rfl rfl rfl) rfl ?_ | refine o_n (dA rfl rfl td rfl rfl) rfl ?_ | refine o_n (dK rfl rfl td rfl rfl) rfl ?_ | refine o_storeC rfl rfl rfl rfl tc uc rfl rfl rfl ?_ | refine o_box rfl rfl (fun _ => ?_) | refine o_box1 rfl rfl rfl (fun _ => ?_) | refine o_alloc rfl rfl (fun _ => ?_))) | refine e_noU rfl rfl rfl ?_ | refine e_noN rfl rfl ?_ | refine s_seq ?_ | refine s_region ?_ | refine s_block ?_ | refine s_end ?_ | refine s_skip ?_ | refine s_exit ?_ | refine s_true rfl ?_ | refine s_false rfl ?_ | refine x_hit ?_ | refine x_code ?_ | refine x_back ?_ | refine x_miss rfl ?_)
        refine s_open (.s (.s (.s (.s .z)))) (by omega) ?_
        rintro bo rfl
        refine s_P Try.mixed (by decide +kernel) ?_
        refine p_mv 0 rfl rfl (by decide +kernel) rfl ?_
        refine p_barU 15 ?_
        refine q_n 1 rfl (peval_sound rfl) (by decide +kernel) (by decide +kernel) (Ent.refl _) rfl ?_
        refine q_n 2 rfl (peval_sound rfl) (by decide +kernel) (by decide +kernel) (Ent.refl _) rfl ?_
        refine q_n 3 rfl (peval_sound rfl) (by decide +kernel) (by decide +kernel) (Ent.refl _) rfl ?_
        refine q_n 4 rfl (peval_sound rfl) (by decide +kernel) (by decide +kernel) (Ent.refl _) rfl ?_
        refine q_n 5 rfl (n_dR rfl rfl (.s .z) rfl rfl rfl) (by decide +kernel) (by decide +kernel) (Ent.refl _) rfl ?_
        refine q_n 6 rfl (peval_sound rfl) (by decide +kernel) (by decide +kernel) (Ent.refl _) rfl ?_
        refine q_n 7 rfl (peval_sound rfl) (by decide +kernel) (by decide +kernel) (Ent.refl _) rfl ?_
        refine q_n 8 rfl (peval_sound rfl) (by decide +kernel) (by decide +kernel) (Ent.refl _) rfl ?_
        refine q_n 9 rfl (n_dR rfl rfl (.s .z) rfl rfl rfl) (by decide +kernel) (by decide +kernel) (Ent.refl _) rfl ?_
        refine q_n 10 rfl (peval_sound rfl) (by decide +kernel) (by decide +kernel) (Ent.refl _) rfl ?_
        refine q_n 11 rfl (n_index rfl rfl rfl rfl i rfl hi2) (by decide +kernel) (by decide +kernel) (Ent.refl _) rfl ?_
        refine q_n 12 rfl (n_load_osl (v := .int .i64 (pOf p s)) rfl rfl (.s (.s (.s (.s .z)))) hld) (by decide +kernel) (by decide +kernel) (Ent.refl _) rfl ?_
        refine q_n 13 rfl (n_look hlk rfl mk3 z3 rfl rfl rfl (.s (.s (.s (.s (.s .z)))))) (by decide +kernel) (by decide +kernel) (Ent.refl _) rfl ?_
        refine q_n 14 rfl (peval_sound rfl) (by decide +kernel) (by decide +kernel) (Ent.refl _) rfl ?_
        refine q_z 15 (by decide +kernel) rfl rfl (o_call (number_w b5 A1 A2 Ap (some ⟨bo, 0, none⟩) c1 c2 cp co2 bm1 bm2 m o p q st2 hr2 s c hsn hsr hlc) rfl (.cons (.s .z) (.cons (.s .z) (.cons (.s .z) (.cons (.s .z) .nil)))) (Can.ro (sl_mk hD.next)) rfl ?_)
        rintro v V ⟨Ao3, co3, rfl, rfl⟩
        simp only [List.cons_append, List.nil_append]
        refine p_1 16 (by decide +kernel) rfl rfl (o_n (n_indexA rfl rfl rfl rfl c rfl hlc) rfl ?_)
        refine p_1 17 (by decide +kernel) rfl rfl (o_dC rfl rfl rfl rfl c hlc (by show 0 + c * 1 = c; omega) (.s (.s (.s (.s .z)))) ?_)
        refine p_done (by decide +kernel) ?_
        repeat' (first | refine e_nil ?_ | ((first | refine e_op ?_ | refine e_yes rfl ?_); (first | refine o_dNew rfl rfl rfl (fun _ => ?_) | refine o_dNew0 rfl rfl rfl (fun _ => ?_) | refine dAll rfl rfl rfl td uc rfl rfl rfl ?_ | refine dS rfl rfl rfl rfl rfl rfl rfl td uc rfl ?_ | refine o_n (n_b26 rfl rfl) rfl ?_ | refine o_n (n_b26NR rfl rfl rfl rfl rfl) rfl ?_ | refine o_n (n_b26R rfl rfl rfl rfl) rfl ?_ | refine o_n (n_b26CR rfl rfl rfl rfl) rfl ?_ | refine o_n (n_b91 rfl rfl rfl rfl rfl rfl) rfl ?_ | refine o_n (peval_sound rfl) rfl ?_ | refine o_n (nl rfl rfl tc rfl) rfl ?_ | refine o_n (dR rfl rfl td rfl rfl rfl) rfl ?_ | refine o_n (dA rfl rfl td rfl rfl) rfl ?_ | refine o_n (dK rfl rfl td rfl rfl) rfl ?_ | refine o_storeC rfl rfl rfl rfl tc uc rfl rfl rfl ?_ | refine o_box rfl rfl (fun _ => ?_) | refine o_box1 rfl rfl rfl (fun _ => ?_) | refine o_alloc rfl rfl (fun _ => ?_))) | refine e_noU rfl rfl rfl ?_ | refine e_noN rfl rfl ?_ | refine s_seq ?_ | refine s_region ?_ | refine s_block ?_ | refine s_end ?_ | refine s_skip ?_ | refine s_exit ?_ | refine s_true rfl ?_ | refine s_false rfl ?_ | refine x_hit ?_ | refine x_code ?_ | refine x_back ?_ | refine x_miss rfl ?_)
        refine s_back ⟨⟨(c + 1, Ao3, co3, r.set c (findI (addS st2 (go m s c)) (go m s c))), by omega, fun j hj => ?_⟩, by simp only; omega, ?_, ?_⟩
        · rw [C256.get_set _ _ _ _ hlc]
          by_cases e : j = c
          · rw [if_pos e, e, hfr]
          · rw [if_neg e]; exact hrow j (by omega)
        · repeat' (first | exact Sub.nil _ | refine Sub.cons rfl ?_ | refine Sub.consE rfl ?_ ?_)
          exact inc (i := c) (by omega)
        · simp only [hrs]
          exact Ent.tak (.s (.s (.s (.s .z)))) (Ent.refl _)
      have hc256 : c = 256 := by have := of_decide_eq_false h; omega
      subst hc256
      clear h hc
      have hrC : r = rowC m fin s := C256.ext_get (fun j hj => by rw [hrow j hj, rowC_get m fin s hj])
      subst hrC
      have hpre := rowS2_pre m s st 256
      have hfi : fin[i]? = some (s : Int) := by
        obtain ⟨d, hd⟩ := hpre.trans (bfs_pre m f (i + 1) (rowS2 m s st 256))
        have e : st ++ d = fin := hd.trans hbfs
        rw [← e, List.getElem?_append_left hlt, List.getElem?_eq_getElem hlt, hs]
      have hfil : i < fin.length := (List.getElem?_eq_some_iff.1 hfi).1
      have hfe : fin[i] = (s : Int) := by rw [List.getElem?_eq_getElem hfil] at hfi; exact Option.some.inj hfi
      repeat' (first | refine e_nil ?_ | ((first | refine e_op ?_ | refine e_yes rfl ?_); (first | refine o_dNew rfl rfl rfl (fun _ => ?_) | refine o_dNew0 rfl rfl rfl (fun _ => ?_) | refine dAll rfl rfl rfl td uc rfl rfl rfl ?_ | refine dS rfl rfl rfl rfl rfl rfl rfl td uc rfl ?_ | refine o_n (n_b26 rfl rfl) rfl ?_ | refine o_n (n_b26NR rfl rfl rfl rfl rfl) rfl ?_ | refine o_n (n_b26R rfl rfl rfl rfl) rfl ?_ | refine o_n (n_b26CR rfl rfl rfl rfl) rfl ?_ | refine o_n (n_b91 rfl rfl rfl rfl rfl rfl) rfl ?_ | refine o_n (peval_sound rfl) rfl ?_ | refine o_n (nl rfl rfl tc rfl) rfl ?_ | refine o_n (dR rfl rfl td rfl rfl rfl) rfl ?_ | refine o_n (dA rfl rfl td rfl rfl) rfl ?_ | refine o_n (dK rfl rfl td rfl rfl) rfl ?_ | refine o_storeC rfl rfl rfl rfl tc uc rfl rfl rfl ?_ | refine o_box rfl rfl (fun _ => ?_) | refine o_box1 rfl rfl rfl (fun _ => ?_) | refine o_alloc rfl rfl (fun _ => ?_))) | refine e_noU rfl rfl rfl ?_ | refine e_noN rfl rfl ?_ | refine s_seq ?_ | refine s_region ?_ | refine s_block ?_ | refine s_end ?_ | refine s_skip ?_ | refine s_exit ?_ | refine s_true rfl ?_ | refine s_false rfl ?_ | refine x_hit ?_ | refine x_code ?_ | refine x_back ?_ | refine x_miss rfl ?_)
      refine e_op (o_lit (ps := [(0, .agg (dC (rowC m fin s) []).toArray)]) (cs := dC (rowC m fin s) []) rfl rfl rfl rfl rfl (lit22 _) rfl (fun b10 => ?_))
      refine e_op (o_append (v := .slice Ar i cr) (n := i) (m := 1) (news := dC (rowC m fin s) []) _ rfl rfl rfl rfl (fun w hm j u hu => ?_) (by rw [dC_len]; rfl) (dC_one _ _ (by simp)) rfl (by omega) (by simp only; omega) (by omega) rfl (fun b c => .s (.s (.s (.s (.s (.s (.s .z))))))) (fun bb cc => ?_))
      · obtain ⟨S1, hP, _⟩ := hm.tak Tak.z
        rw [Nat.zero_add]
        exact osl_cells hP j u hu
      repeat' (first | refine e_nil ?_ | ((first | refine e_op ?_ | refine e_yes rfl ?_); (first | refine o_dNew rfl rfl rfl (fun _ => ?_) | refine o_dNew0 rfl rfl rfl (fun _ => ?_) | refine dAll rfl rfl rfl td uc rfl rfl rfl ?_ | refine dS rfl rfl rfl rfl rfl rfl rfl td uc rfl ?_ | refine o_n (n_b26 rfl rfl) rfl ?_ | refine o_n (n_b26NR rfl rfl rfl rfl rfl) rfl ?_ | refine o_n (n_b26R rfl rfl rfl rfl) rfl ?_ | refine o_n (n_b26CR rfl rfl rfl rfl) rfl ?_ | refine o_n (n_b91 rfl rfl rfl rfl rfl rfl) rfl ?_ | refine o_n (peval_sound rfl) rfl ?_ | refine o_n (nl rfl rfl tc rfl) rfl ?_ | refine o_n (dR rfl rfl td rfl rfl rfl) rfl ?_ | refine o_n (dA rfl rfl td rfl rfl) rfl ?_ | refine o_n (dK rfl rfl td rfl rfl) rfl ?_ | refine o_storeC rfl rfl rfl rfl tc uc rfl rfl rfl ?_ | refine o_box rfl rfl (fun _ => ?_) | refine o_box1 rfl rfl rfl (fun _ => ?_) | refine o_alloc rfl rfl (fun _ => ?_))) | refine e_noU rfl rfl rfl ?_ | refine e_noN rfl rfl ?_ | refine s_seq ?_ | refine s_region ?_ | refine s_block ?_ | refine s_end ?_ | refine s_skip ?_ | refine s_exit ?_ | refine s_true rfl ?_ | refine s_false rfl ?_ | refine x_hit ?_ | refine x_code ?_ | refine x_back ?_ | refine x_miss rfl ?_)
      refine s_back ⟨⟨(i + 1, rowS2 m s st 256, Ao2, co2, some ⟨bb, 0, none⟩, cc), ?_, rowS2_reps o (st_nat hsn) hr 256 (Nat.le_refl _), ?_⟩, by simp only; omega, ?_, ?_⟩
      · have := hpre.length_le; simp only; omega
      · simp only
        rw [show m.Next.length + 1 - (i + 1) = f by omega]
        exact hbfs
      · repeat' (first | exact Sub.nil _ | refine Sub.cons rfl ?_ | refine Sub.consE rfl ?_ ?_)
        exact inc (i := i) (by omega)
      · simp only [List.take_succ_eq_append_getElem hfil, hfe, List.map_append, List.flatMap_append, List.map_cons, List.map_nil, List.flatMap_cons, List.flatMap_nil, List.append_nil]
        exact Ent.wk (Ent.wk (Ent.refl _))
    have hge : i = st.length := by have := of_decide_eq_false h; omega
    subst hge
    clear h hi
    rw [bfs_end (Nat.le_refl _)] at hbfs
    subst hbfs
    repeat' (first | refine e_nil ?_ | ((first | refine e_op ?_ | refine e_yes rfl ?_); (first | refine o_dNew rfl rfl rfl (fun _ => ?_) | refine o_dNew0 rfl rfl rfl (fun _ => ?_) | refine dAll rfl rfl rfl td uc rfl rfl rfl ?_ | refine dS rfl rfl rfl rfl rfl rfl rfl td uc rfl ?_ | refine o_n (n_b26 rfl rfl) rfl ?_ | refine o_n (n_b26NR rfl rfl rfl rfl rfl) rfl ?_ | refine o_n (n_b26R rfl rfl rfl rfl) rfl ?_ | refine o_n (n_b26CR rfl rfl rfl rfl) rfl ?_ | refine o_n (n_b91 rfl rfl rfl rfl rfl rfl) rfl ?_ | refine o_n (peval_sound rfl) rfl ?_ | refine o_n (nl rfl rfl tc rfl) rfl ?_ | refine o_n (dR rfl rfl td rfl rfl rfl) rfl ?_ | refine o_n (dA rfl rfl td rfl rfl) rfl ?_ | refine o_n (dK rfl rfl td rfl rfl) rfl ?_ | refine o_storeC rfl rfl rfl rfl tc uc rfl rfl rfl ?_ | refine o_box rfl rfl (fun _ => ?_) | refine o_box1 rfl rfl rfl (fun _ => ?_) | refine o_alloc rfl rfl (fun _ => ?_))) | refine e_noU rfl rfl rfl ?_ | refine e_noN rfl rfl ?_ | refine s_seq ?_ | refine s_region ?_ | refine s_block ?_ | refine s_end ?_ | refine s_skip ?_ | refine s_exit ?_ | refine s_true rfl ?_ | refine s_false rfl ?_ | refine x_hit ?_ | refine x_code ?_ | refine x_back ?_ | refine x_miss rfl ?_)
    rename_i b11
    rw [List.take_length]
    have hcl : Closed m st := hfin0 ▸ fin_closed o
    have hI2 : ∀ x ∈ st.map (rowC m st), ∀ v ∈ x.l, I64 v := by
      intro x hx v hv
      obtain ⟨s, _, rfl⟩ := List.mem_map.1 hx
      unfold rowC at hv
      obtain ⟨c, _, rfl⟩ := List.mem_map.1 hv
      have := findI_rng hfs (go m s c)
      exact ⟨by omega, by omega⟩
    refine s_loopK (ι := {x : Nat × Option Addr × Nat × C256 // x.1 ≤ 256 ∧ ∀ j, j < x.1 → x.2.2.2.get j = (fk m st j (Lc m st j) : Nat)}) [1, 2, 5, 7, 11] rfl ⟨(0, none, 0, .zero), by omega, fun j h => by omega⟩
      (fun x => [(120, .int .i64 x.1.1), (12, .slice x.1.2.1 (Lc m st x.1.1).length x.1.2.2.1)])
      (fun x => [blk b11 26 (dC x.1.2.2.2 [nilS, nilS]), pI x.1.2.1 (Lc m st x.1.1).length x.1.2.2.1 ((Lc m st x.1.1).map fun (a : Nat) => (a : Int)), rdA kRows [.slice Ar st.length cr] (st.map (rowC m st)), fndB b5 m A1 A2 Ap Ao c1 c2 cp co bm1 bm2 st,
        pI Ao st.length co (st.map (pOf p)), mapA encI bm1 l, blk b1 26 (dC m.Class [.slice A1 m.Next.length c1, .slice A2 m.Rule.length c2]), blk b2 26 (dC .zero [nilS, nilS])]) (fun x => 256 - x.1.1) ?_ ?_ ?_
    · repeat' (first | exact Sub.nil _ | refine Sub.cons rfl ?_ | refine Sub.consE rfl ?_ ?_)
    · have h1 := ent_flat (U := [fndB b5 m A1 A2 Ap Ao c1 c2 cp co bm1 bm2 st, pI Ao st.length co (st.map (pOf p)), mapA encI bm1 l, blk b1 26 (dC m.Class [.slice A1 m.Next.length c1, .slice A2 m.Rule.length c2]), blk b2 26 (dC .zero [nilS, nilS])])
        (kd := kArr) (bytes := 2048) (n := st.length) (c := cr) (e := 22) (A := Ar) (xs := st.map (rowC m st)) encRow (fun w S x hx => ⟨rfl, hI2 x hx⟩) (by rw [List.length_map]) (by omega)
      exact Ent.tak .z (Ent.osl0 ((Ent.tak (.s (.s (.s (.s (.s .z))))) (Ent.tak .z (Ent.wk (Ent.wk (Ent.tak .z (Ent.tak .z (Ent.refl _))))))).trans h1))
    rintro ⟨⟨c, AL, cL, cc⟩, hc, hcls⟩
    simp only at hc hcls ⊢
    have hLl := Lc_len m st c
    have hLlt := Lc_lt m st c
    repeat' (first | refine e_nil ?_ | ((first | refine e_op ?_ | refine e_yes rfl ?_); (first | refine o_dNew rfl rfl rfl (fun _ => ?_) | refine o_dNew0 rfl rfl rfl (fun _ => ?_) | refine dAll rfl rfl rfl td uc rfl rfl rfl ?_ | refine dS rfl rfl rfl rfl rfl rfl rfl td uc rfl ?_ | refine o_n (n_b26 rfl rfl) rfl ?_ | refine o_n (n_b26NR rfl rfl rfl rfl rfl) rfl ?_ | refine o_n (n_b26R rfl rfl rfl rfl) rfl ?_ | refine o_n (n_b26CR rfl rfl rfl rfl) rfl ?_ | refine o_n (n_b91 rfl rfl rfl rfl rfl rfl) rfl ?_ | refine o_n (peval_sound rfl) rfl ?_ | refine o_n (nl rfl rfl tc rfl) rfl ?_ | refine o_n (dR rfl rfl td rfl rfl rfl) rfl ?_ | refine o_n (dA rfl rfl td rfl rfl) rfl ?_ | refine o_n (dK rfl rfl td rfl rfl) rfl ?_ | refine o_storeC rfl rfl rfl rfl tc uc rfl rfl rfl ?_ | refine o_box rfl rfl (fun _ => ?_) | refine o_box1 rfl rfl rfl (fun _ => ?_) | refine o_alloc rfl rfl (fun _ => ?_))) | refine e_noU rfl rfl rfl ?_ | refine e_noN rfl rfl ?_ | refine s_seq ?_ | refine s_region ?_ | refine s_block ?_ | refine s_end ?_ | refine s_skip ?_ | refine s_exit ?_ | refine s_true rfl ?_ | refine s_false rfl ?_ | refine x_hit ?_ | refine x_code ?_ | refine x_back ?_ | refine x_miss rfl ?_)
    refine s_cond rfl (fun h => ?_) (fun h => ?_)
    · have hlc : c < 256 := by have := of_decide_eq_true h; omega
      clear h
      have hLs := Lc_succ m st c
      generalize hL : Lc m st c = L at *
      repeat' (first | refine e_nil ?_ | ((first | refine e_op ?_ | refine e_yes rfl ?_); (first | refine o_dNew rfl rfl rfl (fun _ => ?_) | refine o_dNew0 rfl rfl rfl (fun _ => ?_) | refine dAll rfl rfl rfl td uc rfl rfl rfl ?_ | refine dS rfl rfl rfl rfl rfl rfl rfl td uc rfl ?_ | refine o_n (n_b26 rfl rfl) rfl ?_ | refine o_n (n_b26NR rfl rfl rfl rfl rfl) rfl ?_ | refine o_n (n_b26R rfl rfl rfl rfl) rfl ?_ | refine o_n (n_b26CR rfl rfl rfl rfl) rfl ?_ | refine o_n (n_b91 rfl rfl rfl rfl rfl rfl) rfl ?_ | refine o_n (peval_sound rfl) rfl ?_ | refine o_n (nl rfl rfl tc rfl) rfl ?_ | refine o_n (dR rfl rfl td rfl rfl rfl) rfl ?_ | refine o_n (dA rfl rfl td rfl rfl) rfl ?_ | refine o_n (dK rfl rfl td rfl rfl) rfl ?_ | refine o_storeC rfl rfl rfl rfl tc uc rfl rfl rfl ?_ | refine o_box rfl rfl (fun _ => ?_) | refine o_box1 rfl rfl rfl (fun _ => ?_) | refine o_alloc rfl rfl (fun _ => ?_))) | refine e_noU rfl rfl rfl ?_ | refine e_noN rfl rfl ?_ | refine s_seq ?_ | refine s_region ?_ | refine s_end ?_ | refine s_skip ?_ | refine s_exit ?_ | refine s_true rfl ?_ | refine s_false rfl ?_ | refine x_hit ?_ | refine x_code ?_ | refine x_back ?_ | refine x_miss rfl ?_)
      refine s_block ?_
      repeat' (first | refine e_nil ?_ | ((first | refine e_op ?_ | refine e_yes rfl ?_); (first | refine o_dNew rfl rfl rfl (fun _ => ?_) | refine o_dNew0 rfl rfl rfl (fun _ => ?_) | refine dAll rfl rfl rfl td uc rfl rfl rfl ?_ | refine dS rfl rfl rfl rfl rfl rfl rfl td uc rfl ?_ | refine o_n (n_b26 rfl rfl) rfl ?_ | refine o_n (n_b26NR rfl rfl rfl rfl rfl) rfl ?_ | refine o_n (n_b26R rfl rfl rfl rfl) rfl ?_ | refine o_n (n_b26CR rfl rfl rfl rfl) rfl ?_ | refine o_n (n_b91 rfl rfl rfl rfl rfl rfl) rfl ?_ | refine o_n (peval_sound rfl) rfl ?_ | refine o_n (nl rfl rfl tc rfl) rfl ?_ | refine o_n (dR rfl rfl td rfl rfl rfl) rfl ?_ | refine o_n (dA rfl rfl td rfl rfl) rfl ?_ | refine o_n (dK rfl rfl td rfl rfl) rfl ?_ | refine o_storeC rfl rfl rfl rfl tc uc rfl rfl rfl ?_ | refine o_box rfl rfl (fun _ => ?_) | refine o_box1 rfl rfl rfl (fun _ => ?_) | refine o_alloc rfl rfl (fun _ => ?_))) | refine e_noU rfl rfl rfl ?_ | refine e_noN rfl rfl ?_ | refine s_seq ?_ | refine s_region ?_ | refine s_end ?_ | refine s_skip ?_ | refine s_exit ?_ | refine s_true rfl ?_ | refine s_false rfl ?_ | refine x_hit ?_ | refine x_code ?_ | refine x_back ?_ | refine x_miss rfl ?_)
      refine s_blockJ (ι := Unit) (fun _ => [(14, .int .i64 (fk m st c L : Nat)), (13, .int .i64 c), (120, .int .i64 c), (12, .slice AL L.length cL), (1, .pointer (some ⟨b1, 0, none⟩)), (2, .pointer (some ⟨b2, 0, none⟩)), (5, .pointer (some ⟨b5, 0, none⟩)), (7, .slice Ar st.length cr), (11, .pointer (some ⟨b11, 0, none⟩))]) (fun _ => [blk b11 26 (dC cc [nilS, nilS]), pI AL L.length cL (L.map fun (a : Nat) => (a : Int)), rdA kRows [.slice Ar st.length cr] (st.map (rowC m st)), fndB b5 m A1 A2 Ap Ao c1 c2 cp co bm1 bm2 st,
        pI Ao st.length co (st.map (pOf p)), mapA encI bm1 l, blk b1 26 (dC m.Class [.slice A1 m.Next.length c1, .slice A2 m.Rule.length c2]), blk b2 26 (dC .zero [nilS, nilS])]) (fun hfin => ?_) ?_
      · refine s_loopK (ι := {k : Nat // k ≤ L.length ∧ ∀ j (hj : j < L.length), j < k → sameB m st c L[j] = false}) [13, 120, 12, 1, 2, 5, 7, 11] rfl ⟨0, by omega, fun j _ h => by omega⟩ (fun k => [(14, .int .i64 k.1)])
          (fun _ => [blk b11 26 (dC cc [nilS, nilS]), pI AL L.length cL (L.map fun (a : Nat) => (a : Int)), rdA kRows [.slice Ar st.length cr] (st.map (rowC m st)), fndB b5 m A1 A2 Ap Ao c1 c2 cp co bm1 bm2 st,
        pI Ao st.length co (st.map (pOf p)), mapA encI bm1 l, blk b1 26 (dC m.Class [.slice A1 m.Next.length c1, .slice A2 m.Rule.length c2]), blk b2 26 (dC .zero [nilS, nilS])]) (fun k => L.length - k.1) ?_ (Ent.refl _) ?_
        · repeat' (first | exact Sub.nil _ | refine Sub.cons rfl ?_ | refine Sub.consE rfl ?_ ?_)
        rintro ⟨k, hk, hno⟩
        simp only at hk hno ⊢
        repeat' (first | refine e_nil ?_ | ((first | refine e_op ?_ | refine e_yes rfl ?_); (first | refine o_dNew rfl rfl rfl (fun _ => ?_) | refine o_dNew0 rfl rfl rfl (fun _ => ?_) | refine dAll rfl rfl rfl td uc rfl rfl rfl ?_ | refine dS rfl rfl rfl rfl rfl rfl rfl td uc rfl ?_ | refine o_n (n_b26 rfl rfl) rfl ?_ | refine o_n (n_b26NR rfl rfl rfl rfl rfl) rfl ?_ | refine o_n (n_b26R rfl rfl rfl rfl) rfl ?_ | refine o_n (n_b26CR rfl rfl rfl rfl) rfl ?_ | refine o_n (n_b91 rfl rfl rfl rfl rfl rfl) rfl ?_ | refine o_n (peval_sound rfl) rfl ?_ | refine o_n (nl rfl rfl tc rfl) rfl ?_ | refine o_n (dR rfl rfl td rfl rfl rfl) rfl ?_ | refine o_n (dA rfl rfl td rfl rfl) rfl ?_ | refine o_n (dK rfl rfl td rfl rfl) rfl ?_ | refine o_storeC rfl rfl rfl rfl tc uc rfl rfl rfl ?_ | refine o_box rfl rfl (fun _ => ?_) | refine o_box1 rfl rfl rfl (fun _ => ?_) | refine o_alloc rfl rfl (fun _ => ?_))) | refine e_noU rfl rfl rfl ?_ | refine e_noN rfl rfl ?_ | refine s_seq ?_ | refine s_region ?_ | refine s_end ?_ | refine s_skip ?_ | refine s_exit ?_ | refine s_true rfl ?_ | refine s_false rfl ?_ | refine x_code ?_ | refine x_back ?_ | refine x_miss rfl ?_ | ((fail_if_success (refine e_dec true (by exact rfl) ?_)); (fail_if_success (refine e_dec false (by exact rfl) ?_)); refine e_part rfl rfl (fun h => ?_) (fun h => ?_)) | refine s_cond rfl (fun h => ?_) (fun h => ?_))
        · have hkl : k < L.length := by have := of_decide_eq_true h; omega
          clear h
          have hL256 : L[k] < 256 := by have := hLlt _ (List.getElem_mem hkl); omega
          refine e_open (.s .z) (by omega) ?_
          rintro bL rfl
          refine e_yes rfl (o_n (n_index rfl rfl rfl rfl k rfl hkl) rfl ?_)
          refine e_yes rfl (o_n (n_load_osl (v := .int .i64 (L[k] : Nat)) rfl rfl (.s .z) (by simp [loadL, aggB, hkl])) rfl ?_)
          refine e_yes rfl (o_call (goAlike_w Ar st.length cr (st.map (rowC m st)) (by rw [List.length_map]) c L[k] hlc hL256) rfl .nil (Can.rdA (.s (.s .z))) rfl ?_)
          rintro v V ⟨rfl, rfl⟩
          rw [rowsEq_same o hfs hcl hlc hL256]
          simp only [List.nil_append]
          repeat' (first | refine e_nil ?_ | ((first | refine e_op ?_ | refine e_yes rfl ?_); (first | refine o_dNew rfl rfl rfl (fun _ => ?_) | refine o_dNew0 rfl rfl rfl (fun _ => ?_) | refine dAll rfl rfl rfl td uc rfl rfl rfl ?_ | refine dS rfl rfl rfl rfl rfl rfl rfl td uc rfl ?_ | refine o_n (n_b26 rfl rfl) rfl ?_ | refine o_n (n_b26NR rfl rfl rfl rfl rfl) rfl ?_ | refine o_n (n_b26R rfl rfl rfl rfl) rfl ?_ | refine o_n (n_b26CR rfl rfl rfl rfl) rfl ?_ | refine o_n (n_b91 rfl rfl rfl rfl rfl rfl) rfl ?_ | refine o_n (peval_sound rfl) rfl ?_ | refine o_n (nl rfl rfl tc rfl) rfl ?_ | refine o_n (dR rfl rfl td rfl rfl rfl) rfl ?_ | refine o_n (dA rfl rfl td rfl rfl) rfl ?_ | refine o_n (dK rfl rfl td rfl rfl) rfl ?_ | refine o_storeC rfl rfl rfl rfl tc uc rfl rfl rfl ?_ | refine o_box rfl rfl (fun _ => ?_) | refine o_box1 rfl rfl rfl (fun _ => ?_) | refine o_alloc rfl rfl (fun _ => ?_))) | refine e_noU rfl rfl rfl ?_ | refine e_noN rfl rfl ?_ | refine s_seq ?_ | refine s_region ?_ | refine s_end ?_ | refine s_skip ?_ | refine s_exit ?_ | refine s_true rfl ?_ | refine s_false rfl ?_ | refine x_code ?_ | refine x_back ?_ | refine x_miss rfl ?_)
          refine s_cond rfl (fun h => ?_) (fun h => ?_)
          · have hno2 : sameB m st c L[k] = false := by simpa using h
            repeat' (first | refine e_nil ?_ | ((first | refine e_op ?_ | refine e_yes rfl ?_); (first | refine o_dNew rfl rfl rfl (fun _ => ?_) | refine o_dNew0 rfl rfl rfl (fun _ => ?_) | refine dAll rfl rfl rfl td uc rfl rfl rfl ?_ | refine dS rfl rfl rfl rfl rfl rfl rfl td uc rfl ?_ | refine o_n (n_b26 rfl rfl) rfl ?_ | refine o_n (n_b26NR rfl rfl rfl rfl rfl) rfl ?_ | refine o_n (n_b26R rfl rfl rfl rfl) rfl ?_ | refine o_n (n_b26CR rfl rfl rfl rfl) rfl ?_ | refine o_n (n_b91 rfl rfl rfl rfl rfl rfl) rfl ?_ | refine o_n (peval_sound rfl) rfl ?_ | refine o_n (nl rfl rfl tc rfl) rfl ?_ | refine o_n (dR rfl rfl td rfl rfl rfl) rfl ?_ | refine o_n (dA rfl rfl td rfl rfl) rfl ?_ | refine o_n (dK rfl rfl td rfl rfl) rfl ?_ | refine o_storeC rfl rfl rfl rfl tc uc rfl rfl rfl ?_ | refine o_box rfl rfl (fun _ => ?_) | refine o_box1 rfl rfl rfl (fun _ => ?_) | refine o_alloc rfl rfl (fun _ => ?_))) | refine e_noU rfl rfl rfl ?_ | refine e_noN rfl rfl ?_ | refine s_seq ?_ | refine s_region ?_ | refine s_block ?_ | refine s_end ?_ | refine s_skip ?_ | refine s_exit ?_ | refine s_true rfl ?_ | refine s_false rfl ?_ | refine x_hit ?_ | refine x_code ?_ | refine x_back ?_ | refine x_miss rfl ?_)
            refine s_back ⟨⟨k + 1, by omega, fun j hj hjk => ?_⟩, by simp only; omega, ?_, Ent.refl _⟩
            · by_cases e : j = k
              · subst e; exact hno2
              · exact hno j hj (by omega)
            · repeat' (first | exact Sub.nil _ | refine Sub.cons rfl ?_ | refine Sub.consE rfl ?_ ?_)
              exact inc (i := k) (by omega)
          · have hyes : sameB m st c L[k] = true := by simpa using h
            repeat' (first | refine e_nil ?_ | ((first | refine e_op ?_ | refine e_yes rfl ?_); (first | refine o_dNew rfl rfl rfl (fun _ => ?_) | refine o_dNew0 rfl rfl rfl (fun _ => ?_) | refine dAll rfl rfl rfl td uc rfl rfl rfl ?_ | refine dS rfl rfl rfl rfl rfl rfl rfl td uc rfl ?_ | refine o_n (n_b26 rfl rfl) rfl ?_ | refine o_n (n_b26NR rfl rfl rfl rfl rfl) rfl ?_ | refine o_n (n_b26R rfl rfl rfl rfl) rfl ?_ | refine o_n (n_b26CR rfl rfl rfl rfl) rfl ?_ | refine o_n (n_b91 rfl rfl rfl rfl rfl rfl) rfl ?_ | refine o_n (peval_sound rfl) rfl ?_ | refine o_n (nl rfl rfl tc rfl) rfl ?_ | refine o_n (dR rfl rfl td rfl rfl rfl) rfl ?_ | refine o_n (dA rfl rfl td rfl rfl) rfl ?_ | refine o_n (dK rfl rfl td rfl rfl) rfl ?_ | refine o_storeC rfl rfl rfl rfl tc uc rfl rfl rfl ?_ | refine o_box rfl rfl (fun _ => ?_) | refine o_box1 rfl rfl rfl (fun _ => ?_) | refine o_alloc rfl rfl (fun _ => ?_))) | refine e_noU rfl rfl rfl ?_ | refine e_noN rfl rfl ?_ | refine s_seq ?_ | refine s_region ?_ | refine s_end ?_ | refine s_skip ?_ | refine s_exit ?_ | refine s_true rfl ?_ | refine s_false rfl ?_ | refine x_code ?_ | refine x_back ?_ | refine x_miss rfl ?_)
            refine x_hit (s_weak ?_ (Ent.refl _) (hfin ()))
            rw [fk_at hkl hno hyes]
            repeat' (first | exact Sub.nil _ | refine Sub.cons rfl ?_ | refine Sub.consE rfl ?_ ?_)
        · have hkl : k = L.length := by have := of_decide_eq_false h; omega
          subst hkl
          refine x_hit (s_weak ?_ (Ent.refl _) (hfin ()))
          rw [fk_end (fun j hj => hno j hj hj)]
          repeat' (first | exact Sub.nil _ | refine Sub.cons rfl ?_ | refine Sub.consE rfl ?_ ?_)
      rintro ⟨⟩
      repeat' (first | refine e_nil ?_ | ((first | refine e_op ?_ | refine e_yes rfl ?_); (first | refine o_dNew rfl rfl rfl (fun _ => ?_) | refine o_dNew0 rfl rfl rfl (fun _ => ?_) | refine dAll rfl rfl rfl td uc rfl rfl rfl ?_ | refine dS rfl rfl rfl rfl rfl rfl rfl td uc rfl ?_ | refine o_n (n_b26 rfl rfl) rfl ?_ | refine o_n (n_b26NR rfl rfl rfl rfl rfl) rfl ?_ | refine o_n (n_b26R rfl rfl rfl rfl) rfl ?_ | refine o_n (n_b26CR rfl rfl rfl rfl) rfl ?_ | refine o_n (n_b91 rfl rfl rfl rfl rfl rfl) rfl ?_ | refine o_n (peval_sound rfl) rfl ?_ | refine o_n (nl rfl rfl tc rfl) rfl ?_ | refine o_n (dR rfl rfl td rfl rfl rfl) rfl ?_ | refine o_n (dA rfl rfl td rfl rfl) rfl ?_ | refine o_n (dK rfl rfl td rfl rfl) rfl ?_ | refine o_storeC rfl rfl rfl rfl tc uc rfl rfl rfl ?_ | refine o_box rfl rfl (fun _ => ?_) | refine o_box1 rfl rfl rfl (fun _ => ?_) | refine o_alloc rfl rfl (fun _ => ?_))) | refine e_noU rfl rfl rfl ?_ | refine e_noN rfl rfl ?_ | refine s_seq ?_ | refine s_region ?_ | refine s_block ?_ | refine s_end ?_ | refine s_skip ?_ | refine s_exit ?_ | refine s_true rfl ?_ | refine s_false rfl ?_ | refine x_hit ?_ | refine x_code ?_ | refine x_back ?_ | refine x_miss rfl ?_)
      refine s_cond rfl (fun h => ?_) (fun h => ?_)
      · have hfk : fk m st c L = L.length := by simp only [beq_iff_eq] at h; omega
        have hLs2 : Lc m st (c + 1) = L ++ [c] := by rw [hLs]; unfold lcS; rw [if_pos hfk]
        repeat' (first | refine e_nil ?_ | ((first | refine e_op ?_ | refine e_yes rfl ?_); (first | refine o_dNew rfl rfl rfl (fun _ => ?_) | refine o_dNew0 rfl rfl rfl (fun _ => ?_) | refine dAll rfl rfl rfl td uc rfl rfl rfl ?_ | refine dS rfl rfl rfl rfl rfl rfl rfl td uc rfl ?_ | refine o_n (n_b26 rfl rfl) rfl ?_ | refine o_n (n_b26NR rfl rfl rfl rfl rfl) rfl ?_ | refine o_n (n_b26R rfl rfl rfl rfl) rfl ?_ | refine o_n (n_b26CR rfl rfl rfl rfl) rfl ?_ | refine o_n (n_b91 rfl rfl rfl rfl rfl rfl) rfl ?_ | refine o_n (peval_sound rfl) rfl ?_ | refine o_n (nl rfl rfl tc rfl) rfl ?_ | refine o_n (dR rfl rfl td rfl rfl rfl) rfl ?_ | refine o_n (dA rfl rfl td rfl rfl) rfl ?_ | refine o_n (dK rfl rfl td rfl rfl) rfl ?_ | refine o_storeC rfl rfl rfl rfl tc uc rfl rfl rfl ?_ | refine o_box rfl rfl (fun _ => ?_) | refine o_box1 rfl rfl rfl (fun _ => ?_) | refine o_alloc rfl rfl (fun _ => ?_))) | refine e_noU rfl rfl rfl ?_ | refine e_noN rfl rfl ?_ | refine s_seq ?_ | refine s_region ?_ | refine s_block ?_ | refine s_end ?_ | refine s_skip ?_ | refine s_exit ?_ | refine s_true rfl ?_ | refine s_false rfl ?_ | refine x_hit ?_ | refine x_code ?_ | refine x_back ?_ | refine x_miss rfl ?_)
        refine e_op (o_lit (ps := [(0, .int .i64 c)]) (cs := [.int .i64 c]) rfl rfl rfl rfl rfl rfl rfl (fun b10 => ?_))
        refine e_op (o_append (v := .slice AL L.length cL) (n := L.length) (m := 1) (news := [.int .i64 c]) _ rfl rfl rfl rfl (fun w hm j u hu => ?_) rfl ?_ rfl (by omega) (by simp only; omega) (by omega) rfl (fun b c => .s (.s .z)) (fun bb cb => ?_))
        · obtain ⟨S1, hP, _⟩ := hm.tak Tak.z
          rw [Nat.zero_add]
          exact osl_cells hP j u hu
        · intro u hu
          simp only [List.mem_cons, List.not_mem_nil, or_false] at hu
          subst hu; rfl
        repeat' (first | refine e_nil ?_ | ((first | refine e_op ?_ | refine e_yes rfl ?_); (first | refine o_dNew rfl rfl rfl (fun _ => ?_) | refine o_dNew0 rfl rfl rfl (fun _ => ?_) | refine dAll rfl rfl rfl td uc rfl rfl rfl ?_ | refine dS rfl rfl rfl rfl rfl rfl rfl td uc rfl ?_ | refine o_n (n_b26 rfl rfl) rfl ?_ | refine o_n (n_b26NR rfl rfl rfl rfl rfl) rfl ?_ | refine o_n (n_b26R rfl rfl rfl rfl) rfl ?_ | refine o_n (n_b26CR rfl rfl rfl rfl) rfl ?_ | refine o_n (n_b91 rfl rfl rfl rfl rfl rfl) rfl ?_ | refine o_n (peval_sound rfl) rfl ?_ | refine o_n (nl rfl rfl tc rfl) rfl ?_ | refine o_n (dR rfl rfl td rfl rfl rfl) rfl ?_ | refine o_n (dA rfl rfl td rfl rfl) rfl ?_ | refine o_n (dK rfl rfl td rfl rfl) rfl ?_ | refine o_storeC rfl rfl rfl rfl tc uc rfl rfl rfl ?_ | refine o_box rfl rfl (fun _ => ?_) | refine o_box1 rfl rfl rfl (fun _ => ?_) | refine o_alloc rfl rfl (fun _ => ?_))) | refine e_noU rfl rfl rfl ?_ | refine e_noN rfl rfl ?_ | refine s_seq ?_ | refine s_region ?_ | refine s_block ?_ | refine s_end ?_ | refine s_skip ?_ | refine s_exit ?_ | refine s_true rfl ?_ | refine s_false rfl ?_ | refine x_hit ?_ | refine x_code ?_ | refine x_back ?_ | refine x_miss rfl ?_)
        refine e_op (o_n (n_indexA rfl rfl rfl rfl c rfl hlc) rfl ?_)
        refine e_op (o_dC rfl rfl rfl rfl c hlc (by show 0 + 0 + c * 1 = c; omega) (.s .z) ?_)
        repeat' (first | refine e_nil ?_ | ((first | refine e_op ?_ | refine e_yes rfl ?_); (first | refine o_dNew rfl rfl rfl (fun _ => ?_) | refine o_dNew0 rfl rfl rfl (fun _ => ?_) | refine dAll rfl rfl rfl td uc rfl rfl rfl ?_ | refine dS rfl rfl rfl rfl rfl rfl rfl td uc rfl ?_ | refine o_n (n_b26 rfl rfl) rfl ?_ | refine o_n (n_b26NR rfl rfl rfl rfl rfl) rfl ?_ | refine o_n (n_b26R rfl rfl rfl rfl) rfl ?_ | refine o_n (n_b26CR rfl rfl rfl rfl) rfl ?_ | refine o_n (n_b91 rfl rfl rfl rfl rfl rfl) rfl ?_ | refine o_n (peval_sound rfl) rfl ?_ | refine o_n (nl rfl rfl tc rfl) rfl ?_ | refine o_n (dR rfl rfl td rfl rfl rfl) rfl ?_ | refine o_n (dA rfl rfl td rfl rfl) rfl ?_ | refine o_n (dK rfl rfl td rfl rfl) rfl ?_ | refine o_storeC rfl rfl rfl rfl tc uc rfl rfl rfl ?_ | refine o_box rfl rfl (fun _ => ?_) | refine o_box1 rfl rfl rfl (fun _ => ?_) | refine o_alloc rfl rfl (fun _ => ?_))) | refine e_noU rfl rfl rfl ?_ | refine e_noN rfl rfl ?_ | refine s_seq ?_ | refine s_region ?_ | refine s_block ?_ | refine s_end ?_ | refine s_skip ?_ | refine s_exit ?_ | refine s_true rfl ?_ | refine s_false rfl ?_ | refine x_hit ?_ | refine x_code ?_ | refine x_back ?_ | refine x_miss rfl ?_)
        refine s_back ⟨⟨(c + 1, some ⟨bb, 0, none⟩, cb, cc.set c (fk m st c L : Nat)), by omega, fun j hj => ?_⟩, by simp only; omega, ?_, ?_⟩
        · rw [C256.get_set _ _ _ _ hlc]
          by_cases e : j = c
          · rw [if_pos e, e, hL]
          · rw [if_neg e]; exact hcls j (by omega)
        · simp only [hLs2, List.length_append, List.length_singleton]
          repeat' (first | exact Sub.nil _ | refine Sub.cons rfl ?_ | refine Sub.consE rfl ?_ ?_)
          exact inc (i := c) (by omega)
        · simp only [hLs2, List.length_append, List.length_singleton, List.map_append, List.map_cons, List.map_nil, pI]
          exact Ent.tak (.s .z) (Ent.tak (.s .z) (Ent.wk (Ent.refl _)))
      · have hfk : ¬ fk m st c L = L.length := by simp only [beq_eq_false_iff_ne, ne_eq] at h; omega
        have hLs2 : Lc m st (c + 1) = L := by rw [hLs]; unfold lcS; rw [if_neg hfk]
        repeat' (first | refine e_nil ?_ | ((first | refine e_op ?_ | refine e_yes rfl ?_); (first | refine o_dNew rfl rfl rfl (fun _ => ?_) | refine o_dNew0 rfl rfl rfl (fun _ => ?_) | refine dAll rfl rfl rfl td uc rfl rfl rfl ?_ | refine dS rfl rfl rfl rfl rfl rfl rfl td uc rfl ?_ | refine o_n (n_b26 rfl rfl) rfl ?_ | refine o_n (n_b26NR rfl rfl rfl rfl rfl) rfl ?_ | refine o_n (n_b26R rfl rfl rfl rfl) rfl ?_ | refine o_n (n_b26CR rfl rfl rfl rfl) rfl ?_ | refine o_n (n_b91 rfl rfl rfl rfl rfl rfl) rfl ?_ | refine o_n (peval_sound rfl) rfl ?_ | refine o_n (nl rfl rfl tc rfl) rfl ?_ | refine o_n (dR rfl rfl td rfl rfl rfl) rfl ?_ | refine o_n (dA rfl rfl td rfl rfl) rfl ?_ | refine o_n (dK rfl rfl td rfl rfl) rfl ?_ | refine o_storeC rfl rfl rfl rfl tc uc rfl rfl rfl ?_ | refine o_box rfl rfl (fun _ => ?_) | refine o_box1 rfl rfl rfl (fun _ => ?_) | refine o_alloc rfl rfl (fun _ => ?_))) | refine e_noU rfl rfl rfl ?_ | refine e_noN rfl rfl ?_ | refine s_seq ?_ | refine s_region ?_ | refine s_block ?_ | refine s_end ?_ | refine s_skip ?_ | refine s_exit ?_ | refine s_true rfl ?_ | refine s_false rfl ?_ | refine x_hit ?_ | refine x_code ?_ | refine x_back ?_ | refine x_miss rfl ?_)
        refine e_op (o_n (n_indexA rfl rfl rfl rfl c rfl hlc) rfl ?_)
        refine e_op (o_dC rfl rfl rfl rfl c hlc (by show 0 + 0 + c * 1 = c; omega) .z ?_)
        repeat' (first | refine e_nil ?_ | ((first | refine e_op ?_ | refine e_yes rfl ?_); (first | refine o_dNew rfl rfl rfl (fun _ => ?_) | refine o_dNew0 rfl rfl rfl (fun _ => ?_) | refine dAll rfl rfl rfl td uc rfl rfl rfl ?_ | refine dS rfl rfl rfl rfl rfl rfl rfl td uc rfl ?_ | refine o_n (n_b26 rfl rfl) rfl ?_ | refine o_n (n_b26NR rfl rfl rfl rfl rfl) rfl ?_ | refine o_n (n_b26R rfl rfl rfl rfl) rfl ?_ | refine o_n (n_b26CR rfl rfl rfl rfl) rfl ?_ | refine o_n (n_b91 rfl rfl rfl rfl rfl rfl) rfl ?_ | refine o_n (peval_sound rfl) rfl ?_ | refine o_n (nl rfl rfl tc rfl) rfl ?_ | refine o_n (dR rfl rfl td rfl rfl rfl) rfl ?_ | refine o_n (dA rfl rfl td rfl rfl) rfl ?_ | refine o_n (dK rfl rfl td rfl rfl) rfl ?_ | refine o_storeC rfl rfl rfl rfl tc uc rfl rfl rfl ?_ | refine o_box rfl rfl (fun _ => ?_) | refine o_box1 rfl rfl rfl (fun _ => ?_) | refine o_alloc rfl rfl (fun _ => ?_))) | refine e_noU rfl rfl rfl ?_ | refine e_noN rfl rfl ?_ | refine s_seq ?_ | refine s_region ?_ | refine s_block ?_ | refine s_end ?_ | refine s_skip ?_ | refine s_exit ?_ | refine s_true rfl ?_ | refine s_false rfl ?_ | refine x_hit ?_ | refine x_code ?_ | refine x_back ?_ | refine x_miss rfl ?_)
        refine s_back ⟨⟨(c + 1, AL, cL, cc.set c (fk m st c L : Nat)), by omega, fun j hj => ?_⟩, by simp only; omega, ?_, ?_⟩
        · rw [C256.get_set _ _ _ _ hlc]
          by_cases e : j = c
          · rw [if_pos e, e, hL]
          · rw [if_neg e]; exact hcls j (by omega)
        · simp only [hLs2]
          repeat' (first | exact Sub.nil _ | refine Sub.cons rfl ?_ | refine Sub.consE rfl ?_ ?_)
          exact inc (i := c) (by omega)
        · simp only [hLs2]
          exact Ent.refl _
    have hc256 : c = 256 := by have := of_decide_eq_false h; omega
    subst hc256
    clear h hc
    have hcc : cc = clsL m st := C256.ext_get (fun j hj => by
      rw [hcls j hj, C256.get_eq _ (by rw [C256.h]; exact hj)]
      unfold clsL
      rw [List.getElem_map, List.getElem_range])
    subst hcc
    have hlm : ofM m = ⟨clsL m st, st.map (nRow m st (Lc m st 256)), st.map (rl m)⟩ := by unfold ofM leastM; rw [if_pos he, hfin0]; rfl
    generalize hL : Lc m st 256 = L at *
    repeat' (first | refine e_nil ?_ | ((first | refine e_op ?_ | refine e_yes rfl ?_); (first | refine o_dNew rfl rfl rfl (fun _ => ?_) | refine o_dNew0 rfl rfl rfl (fun _ => ?_) | refine dAll rfl rfl rfl td uc rfl rfl rfl ?_ | refine dS rfl rfl rfl rfl rfl rfl rfl td uc rfl ?_ | refine o_n (n_b26 rfl rfl) rfl ?_ | refine o_n (n_b26NR rfl rfl rfl rfl rfl) rfl ?_ | refine o_n (n_b26R rfl rfl rfl rfl) rfl ?_ | refine o_n (n_b26CR rfl rfl rfl rfl) rfl ?_ | refine o_n (n_b91 rfl rfl rfl rfl rfl rfl) rfl ?_ | refine o_n (peval_sound rfl) rfl ?_ | refine o_n (nl rfl rfl tc rfl) rfl ?_ | refine o_n (dR rfl rfl td rfl rfl rfl) rfl ?_ | refine o_n (dA rfl rfl td rfl rfl) rfl ?_ | refine o_n (dK rfl rfl td rfl rfl) rfl ?_ | refine o_storeC rfl rfl rfl rfl tc uc rfl rfl rfl ?_ | refine o_box rfl rfl (fun _ => ?_) | refine o_box1 rfl rfl rfl (fun _ => ?_) | refine o_alloc rfl rfl (fun _ => ?_))) | refine e_noU rfl rfl rfl ?_ | refine e_noN rfl rfl ?_ | refine s_seq ?_ | refine s_region ?_ | refine s_block ?_ | refine s_end ?_ | refine s_skip ?_ | refine s_exit ?_ | refine s_true rfl ?_ | refine s_false rfl ?_ | refine x_hit ?_ | refine x_code ?_ | refine x_back ?_ | refine x_miss rfl ?_)
    refine s_loopK (ι := {x : Nat × (Option Addr × Nat) × (Option Addr × Nat) × List (Option Addr × Nat) // x.1 ≤ st.length ∧ x.2.2.2.length = x.1}) [1, 2, 5, 7, 11, 12, 152, 153] rfl ⟨(0, (none, 0), (none, 0), []), by simp⟩ (fun x => [(154, .int .i64 x.1.1)])
      (fun x => blk b11 26 (dC (clsL m st) [.slice x.1.2.1.1 x.1.1 x.1.2.1.2, .slice x.1.2.2.1.1 x.1.1 x.1.2.2.1.2]) :: osl 24 1 (.slice x.1.2.1.1 x.1.1 x.1.2.1.2) x.1.1 (E.rowC x.1.2.2.2 ((st.take x.1.1).map (nRow m st L))) :: pI x.1.2.2.1.1 x.1.1 x.1.2.2.1.2 ((st.take x.1.1).map (rl m)) ::
        pI AL L.length cL (L.map fun (a : Nat) => (a : Int)) :: rdA kRows [.slice Ar st.length cr] (st.map (rowC m st)) :: fndB b5 m A1 A2 Ap Ao c1 c2 cp co bm1 bm2 st :: pI Ao st.length co (st.map (pOf p)) :: mapA encI bm1 l :: blk b1 26 (dC m.Class [.slice A1 m.Next.length c1, .slice A2 m.Rule.length c2]) :: blk b2 26 (dC .zero [nilS, nilS]) :: (E.rowL (Value.int .i64) 3 x.1.2.2.2 ((st.take x.1.1).map (nRow m st L)) ++ [])) (fun x => st.length - x.1.1) ?_ ?_ ?_
    · repeat' (first | exact Sub.nil _ | refine Sub.cons rfl ?_ | refine Sub.consE rfl ?_ ?_)
    · exact Ent.tak .z (Ent.osl0 (Ent.osl0 (Ent.refl _)))
    rintro ⟨⟨i, ⟨AN, cN⟩, ⟨AR, cR⟩, acs⟩, hi, hacs⟩
    simp only at hi hacs ⊢
    repeat' (first | refine e_nil ?_ | ((first | refine e_op ?_ | refine e_yes rfl ?_); (first | refine o_dNew rfl rfl rfl (fun _ => ?_) | refine o_dNew0 rfl rfl rfl (fun _ => ?_) | refine dAll rfl rfl rfl td uc rfl rfl rfl ?_ | refine dS rfl rfl rfl rfl rfl rfl rfl td uc rfl ?_ | refine o_n (n_b26 rfl rfl) rfl ?_ | refine o_n (n_b26NR rfl rfl rfl rfl rfl) rfl ?_ | refine o_n (n_b26R rfl rfl rfl rfl) rfl ?_ | refine o_n (n_b26CR rfl rfl rfl rfl) rfl ?_ | refine o_n (n_b91 rfl rfl rfl rfl rfl rfl) rfl ?_ | refine o_n (peval_sound rfl) rfl ?_ | refine o_n (nl rfl rfl tc rfl) rfl ?_ | refine o_n (dR rfl rfl td rfl rfl rfl) rfl ?_ | refine o_n (dA rfl rfl td rfl rfl) rfl ?_ | refine o_n (dK rfl rfl td rfl rfl) rfl ?_ | refine o_storeC rfl rfl rfl rfl tc uc rfl rfl rfl ?_ | refine o_box rfl rfl (fun _ => ?_) | refine o_box1 rfl rfl rfl (fun _ => ?_) | refine o_alloc rfl rfl (fun _ => ?_))) | refine e_noU rfl rfl rfl ?_ | refine e_noN rfl rfl ?_ | refine s_seq ?_ | refine s_region ?_ | refine s_block ?_ | refine s_end ?_ | refine s_skip ?_ | refine s_exit ?_ | refine s_true rfl ?_ | refine s_false rfl ?_ | refine x_hit ?_ | refine x_code ?_ | refine x_back ?_ | refine x_miss rfl ?_)
    refine s_cond rfl (fun h => ?_) (fun h => ?_)
    · have hlt : i < st.length := by have := of_decide_eq_true h; omega
      clear h
      have hsm : st[i] ∈ st := List.getElem_mem hlt
      obtain ⟨s, hs⟩ : ∃ s : Nat, st[i] = (s : Int) := ⟨st[i].toNat, by have := (hr.sts.rng _ hsm).1; omega⟩
      rw [hs] at hsm
      have hsn : s < m.Next.length := by have := (hr.sts.rng _ hsm).2; omega
      have hsr : al m (s : Int) = s := hr.rep _ hsm
      have hlk := any_rep o q hany hsn hsr
      have htk : st.take (i + 1) = st.take i ++ [(s : Int)] := by rw [List.take_succ_eq_append_getElem hlt, hs]
      have hro : (st.map (rowC m st))[i]'(by rw [List.length_map]; exact hlt) = rowC m st s := by rw [List.getElem_map, hs]
      have hsR : s < m.Rule.length := by rw [o.r]; exact hsn
      refine s_openR (.s (.s (.s (.s .z)))) (by rw [List.length_map]; omega) ?_
      rintro br oR rfl
      repeat' (first | refine e_nil ?_ | ((first | refine e_op ?_ | refine e_yes rfl ?_); (first | refine o_dNew rfl rfl rfl (fun _ => ?_) | refine o_dNew0 rfl rfl rfl (fun _ => ?_) | refine dAll rfl rfl rfl td uc rfl rfl rfl ?_ | refine dS rfl rfl rfl rfl rfl rfl rfl td uc rfl ?_ | refine o_n (n_b26 rfl rfl) rfl ?_ | refine o_n (n_b26NR rfl rfl rfl rfl rfl) rfl ?_ | refine o_n (n_b26R rfl rfl rfl rfl) rfl ?_ | refine o_n (n_b26CR rfl rfl rfl rfl) rfl ?_ | refine o_n (n_b91 rfl rfl rfl rfl rfl rfl) rfl ?_ | refine o_n (peval_sound rfl) rfl ?_ | refine o_n (nl rfl rfl tc rfl) rfl ?_ | refine o_n (dR rfl rfl td rfl rfl rfl) rfl ?_ | refine o_n (dA rfl rfl td rfl rfl) rfl ?_ | refine o_n (dK rfl rfl td rfl rfl) rfl ?_ | refine o_storeC rfl rfl rfl rfl tc uc rfl rfl rfl ?_ | refine o_box rfl rfl (fun _ => ?_) | refine o_box1 rfl rfl rfl (fun _ => ?_) | refine o_alloc rfl rfl (fun _ => ?_))) | refine e_noU rfl rfl rfl ?_ | refine e_noN rfl rfl ?_ | refine s_seq ?_ | refine s_region ?_ | refine s_block ?_ | refine s_end ?_ | refine s_skip ?_ | refine s_exit ?_ | refine s_true rfl ?_ | refine s_false rfl ?_ | refine x_hit ?_ | refine x_code ?_ | refine x_back ?_ | refine x_miss rfl ?_)
      refine e_op (o_n (n_index rfl rfl rfl rfl i rfl hlt) rfl ?_)
      refine e_op (o_n (n_load_rdA (kd := kArr) (fun c => dC c []) (fun w S cs x h => h.1) rfl rfl rfl (.s (.s (.s (.s .z)))) i (by rw [List.length_map]; exact hlt) rfl rfl) rfl ?_)
      rw [hro]
      repeat' (first | refine e_nil ?_ | ((first | refine e_op ?_ | refine e_yes rfl ?_); (first | refine o_dNew rfl rfl rfl (fun _ => ?_) | refine o_dNew0 rfl rfl rfl (fun _ => ?_) | refine dAll rfl rfl rfl td uc rfl rfl rfl ?_ | refine dS rfl rfl rfl rfl rfl rfl rfl td uc rfl ?_ | refine o_n (n_b26 rfl rfl) rfl ?_ | refine o_n (n_b26NR rfl rfl rfl rfl rfl) rfl ?_ | refine o_n (n_b26R rfl rfl rfl rfl) rfl ?_ | refine o_n (n_b26CR rfl rfl rfl rfl) rfl ?_ | refine o_n (n_b91 rfl rfl rfl rfl rfl rfl) rfl ?_ | refine o_n (peval_sound rfl) rfl ?_ | refine o_n (nl rfl rfl tc rfl) rfl ?_ | refine o_n (dR rfl rfl td rfl rfl rfl) rfl ?_ | refine o_n (dA rfl rfl td rfl rfl) rfl ?_ | refine o_n (dK rfl rfl td rfl rfl) rfl ?_ | refine o_storeC rfl rfl rfl rfl tc uc rfl rfl rfl ?_ | refine o_box rfl rfl (fun _ => ?_) | refine o_box1 rfl rfl rfl (fun _ => ?_) | refine o_alloc rfl rfl (fun _ => ?_))) | refine e_noU rfl rfl rfl ?_ | refine e_noN rfl rfl ?_ | refine s_seq ?_ | refine s_region ?_ | refine s_block ?_ | refine s_end ?_ | refine s_skip ?_ | refine s_exit ?_ | refine s_true rfl ?_ | refine s_false rfl ?_ | refine x_hit ?_ | refine x_code ?_ | refine x_back ?_ | refine x_miss rfl ?_)
      rename_i b16
      refine e_op (o_make0 rfl rfl rfl rfl L.length rfl (by simp only; omega) (by omega) rfl (fun b17 => ?_))
      repeat' (first | refine e_nil ?_ | ((first | refine e_op ?_ | refine e_yes rfl ?_); (first | refine o_dNew rfl rfl rfl (fun _ => ?_) | refine o_dNew0 rfl rfl rfl (fun _ => ?_) | refine dAll rfl rfl rfl td uc rfl rfl rfl ?_ | refine dS rfl rfl rfl rfl rfl rfl rfl td uc rfl ?_ | refine o_n (n_b26 rfl rfl) rfl ?_ | refine o_n (n_b26NR rfl rfl rfl rfl rfl) rfl ?_ | refine o_n (n_b26R rfl rfl rfl rfl) rfl ?_ | refine o_n (n_b26CR rfl rfl rfl rfl) rfl ?_ | refine o_n (n_b91 rfl rfl rfl rfl rfl rfl) rfl ?_ | refine o_n (peval_sound rfl) rfl ?_ | refine o_n (nl rfl rfl tc rfl) rfl ?_ | refine o_n (dR rfl rfl td rfl rfl rfl) rfl ?_ | refine o_n (dA rfl rfl td rfl rfl) rfl ?_ | refine o_n (dK rfl rfl td rfl rfl) rfl ?_ | refine o_storeC rfl rfl rfl rfl tc uc rfl rfl rfl ?_ | refine o_box rfl rfl (fun _ => ?_) | refine o_box1 rfl rfl rfl (fun _ => ?_) | refine o_alloc rfl rfl (fun _ => ?_))) | refine e_noU rfl rfl rfl ?_ | refine e_noN rfl rfl ?_ | refine s_seq ?_ | refine s_region ?_ | refine s_block ?_ | refine s_end ?_ | refine s_skip ?_ | refine s_exit ?_ | refine s_true rfl ?_ | refine s_false rfl ?_ | refine x_hit ?_ | refine x_code ?_ | refine x_back ?_ | refine x_miss rfl ?_)
      refine s_loopK (ι := {x : Nat × Option Addr × Nat // x.1 ≤ L.length}) [1, 2, 5, 7, 11, 12, 152, 153, 154, 15, 16, 162, 163] rfl ⟨(0, some ⟨b17, 0, none⟩, L.length), by simp⟩ (fun x => [(164, .int .i64 x.1.1), (17, .slice x.1.2.1 x.1.1 x.1.2.2)])
        (fun x => pI x.1.2.1 x.1.1 x.1.2.2 ((L.take x.1.1).map fun c => findI st (go m s c)) :: blk b16 22 (dC (rowC m st s) []) :: blk b11 26 (dC (clsL m st) [.slice AN i cN, .slice AR i cR]) :: osl 24 1 (.slice AN i cN) i (E.rowC acs ((st.take i).map (nRow m st L))) :: pI AR i cR ((st.take i).map (rl m)) ::
          pI AL L.length cL (L.map fun (a : Nat) => (a : Int)) :: rdA kRows [.slice (some ⟨br, oR, none⟩) st.length cr] (st.map (rowC m st)) :: fndB b5 m A1 A2 Ap Ao c1 c2 cp co bm1 bm2 st :: pI Ao st.length co (st.map (pOf p)) :: mapA encI bm1 l :: blk b1 26 (dC m.Class [.slice A1 m.Next.length c1, .slice A2 m.Rule.length c2]) :: blk b2 26 (dC .zero [nilS, nilS]) ::
          (E.rowL (Value.int .i64) 3 acs ((st.take i).map (nRow m st L)) ++ [])) (fun x => L.length - x.1.1) ?_ ?_ ?_
      · repeat' (first | exact Sub.nil _ | refine Sub.cons rfl ?_ | refine Sub.consE rfl ?_ ?_)
      · exact Ent.refl _
      rintro ⟨⟨j, A17, c17⟩, hj⟩
      simp only at hj ⊢
      repeat' (first | refine e_nil ?_ | ((first | refine e_op ?_ | refine e_yes rfl ?_); (first | refine o_dNew rfl rfl rfl (fun _ => ?_) | refine o_dNew0 rfl rfl rfl (fun _ => ?_) | refine dAll rfl rfl rfl td uc rfl rfl rfl ?_ | refine dS rfl rfl rfl rfl rfl rfl rfl td uc rfl ?_ | refine o_n (n_b26 rfl rfl) rfl ?_ | refine o_n (n_b26NR rfl rfl rfl rfl rfl) rfl ?_ | refine o_n (n_b26R rfl rfl rfl rfl) rfl ?_ | refine o_n (n_b26CR rfl rfl rfl rfl) rfl ?_ | refine o_n (n_b91 rfl rfl rfl rfl rfl rfl) rfl ?_ | refine o_n (peval_sound rfl) rfl ?_ | refine o_n (nl rfl rfl tc rfl) rfl ?_ | refine o_n (dR rfl rfl td rfl rfl rfl) rfl ?_ | refine o_n (dA rfl rfl td rfl rfl) rfl ?_ | refine o_n (dK rfl rfl td rfl rfl) rfl ?_ | refine o_storeC rfl rfl rfl rfl tc uc rfl rfl rfl ?_ | refine o_box rfl rfl (fun _ => ?_) | refine o_box1 rfl rfl rfl (fun _ => ?_) | refine o_alloc rfl rfl (fun _ => ?_))) | refine e_noU rfl rfl rfl ?_ | refine e_noN rfl rfl ?_ | refine s_seq ?_ | refine s_region ?_ | refine s_block ?_ | refine s_end ?_ | refine s_skip ?_ | refine s_exit ?_ | refine s_true rfl ?_ | refine s_false rfl ?_ | refine x_hit ?_ | refine x_code ?_ | refine x_back ?_ | refine x_miss rfl ?_)
      refine s_cond rfl (fun h => ?_) (fun h => ?_)
      · have hjl : j < L.length := by have := of_decide_eq_true h; omega
        clear h
        have hL256 : L[j] < 256 := hLlt _ (List.getElem_mem hjl)
        refine s_open (.s (.s (.s (.s (.s .z))))) (by omega) ?_
        rintro bL rfl
        repeat' (first | refine e_nil ?_ | ((first | refine e_op ?_ | refine e_yes rfl ?_); (first | refine o_dNew rfl rfl rfl (fun _ => ?_) | refine o_dNew0 rfl rfl rfl (fun _ => ?_) | refine dAll rfl rfl rfl td uc rfl rfl rfl ?_ | refine dS rfl rfl rfl rfl rfl rfl rfl td uc rfl ?_ | refine o_n (n_b26 rfl rfl) rfl ?_ | refine o_n (n_b26NR rfl rfl rfl rfl rfl) rfl ?_ | refine o_n (n_b26R rfl rfl rfl rfl) rfl ?_ | refine o_n (n_b26CR rfl rfl rfl rfl) rfl ?_ | refine o_n (n_b91 rfl rfl rfl rfl rfl rfl) rfl ?_ | refine o_n (peval_sound rfl) rfl ?_ | refine o_n (nl rfl rfl tc rfl) rfl ?_ | refine o_n (dR rfl rfl td rfl rfl rfl) rfl ?_ | refine o_n (dA rfl rfl td rfl rfl) rfl ?_ | refine o_n (dK rfl rfl td rfl rfl) rfl ?_ | refine o_storeC rfl rfl rfl rfl tc uc rfl rfl rfl ?_ | refine o_box rfl rfl (fun _ => ?_) | refine o_box1 rfl rfl rfl (fun _ => ?_) | refine o_alloc rfl rfl (fun _ => ?_))) | refine e_noU rfl rfl rfl ?_ | refine e_noN rfl rfl ?_ | refine s_seq ?_ | refine s_region ?_ | refine s_block ?_ | refine s_end ?_ | refine s_skip ?_ | refine s_exit ?_ | refine s_true rfl ?_ | refine s_false rfl ?_ | refine x_hit ?_ | refine x_code ?_ | refine x_back ?_ | refine x_miss rfl ?_)
        refine e_op (o_n (n_index rfl rfl rfl rfl j rfl hjl) rfl ?_)
        refine e_op (o_n (n_load_osl (v := .int .i64 (L[j] : Nat)) rfl rfl (.s (.s (.s (.s (.s .z))))) (by simp [loadL, aggB, hjl])) rfl ?_)
        repeat' (first | refine e_nil ?_ | ((first | refine e_op ?_ | refine e_yes rfl ?_); (first | refine o_dNew rfl rfl rfl (fun _ => ?_) | refine o_dNew0 rfl rfl rfl (fun _ => ?_) | refine dAll rfl rfl rfl td uc rfl rfl rfl ?_ | refine dS rfl rfl rfl rfl rfl rfl rfl td uc rfl ?_ | refine o_n (n_b26 rfl rfl) rfl ?_ | refine o_n (n_b26NR rfl rfl rfl rfl rfl) rfl ?_ | refine o_n (n_b26R rfl rfl rfl rfl) rfl ?_ | refine o_n (n_b26CR rfl rfl rfl rfl) rfl ?_ | refine o_n (n_b91 rfl rfl rfl rfl rfl rfl) rfl ?_ | refine o_n (peval_sound rfl) rfl ?_ | refine o_n (nl rfl rfl tc rfl) rfl ?_ | refine o_n (dR rfl rfl td rfl rfl rfl) rfl ?_ | refine o_n (dA rfl rfl td rfl rfl) rfl ?_ | refine o_n (dK rfl rfl td rfl rfl) rfl ?_ | refine o_storeC rfl rfl rfl rfl tc uc rfl rfl rfl ?_ | refine o_box rfl rfl (fun _ => ?_) | refine o_box1 rfl rfl rfl (fun _ => ?_) | refine o_alloc rfl rfl (fun _ => ?_))) | refine e_noU rfl rfl rfl ?_ | refine e_noN rfl rfl ?_ | refine s_seq ?_ | refine s_region ?_ | refine s_block ?_ | refine s_end ?_ | refine s_skip ?_ | refine s_exit ?_ | refine s_true rfl ?_ | refine s_false rfl ?_ | refine x_hit ?_ | refine x_code ?_ | refine x_back ?_ | refine x_miss rfl ?_)
        refine e_op (o_n (n_indexA rfl rfl rfl rfl L[j] rfl hL256) rfl ?_)
        refine e_op (o_n (n_dC rfl rfl (.s .z) rfl L[j] hL256 (by show 0 + L[j] * 1 = L[j]; omega)) rfl ?_)
        rw [rowC_get m st s hL256]
        refine e_op (o_lit (ps := [(0, .int .i64 (findI st (go m s L[j])))]) (cs := [.int .i64 (findI st (go m s L[j]))]) rfl rfl rfl rfl rfl rfl rfl (fun b10 => ?_))
        refine e_op (o_append (v := .slice A17 j c17) (n := j) (m := 1) (news := [.int .i64 (findI st (go m s L[j]))]) _ rfl rfl rfl rfl (fun w hm j u hu => ?_) rfl ?_ rfl (by omega) (by simp only; omega) (by omega) rfl (fun b c => .s .z) (fun bb cb => ?_))
        · obtain ⟨S1, hP, _⟩ := hm.tak Tak.z
          rw [Nat.zero_add]
          exact osl_cells hP j u hu
        · intro u hu
          simp only [List.mem_cons, List.not_mem_nil, or_false] at hu
          subst hu; rfl
        repeat' (first | refine e_nil ?_ | ((first | refine e_op ?_ | refine e_yes rfl ?_); (first | refine o_dNew rfl rfl rfl (fun _ => ?_) | refine o_dNew0 rfl rfl rfl (fun _ => ?_) | refine dAll rfl rfl rfl td uc rfl rfl rfl ?_ | refine dS rfl rfl rfl rfl rfl rfl rfl td uc rfl ?_ | refine o_n (n_b26 rfl rfl) rfl ?_ | refine o_n (n_b26NR rfl rfl rfl rfl rfl) rfl ?_ | refine o_n (n_b26R rfl rfl rfl rfl) rfl ?_ | refine o_n (n_b26CR rfl rfl rfl rfl) rfl ?_ | refine o_n (n_b91 rfl rfl rfl rfl rfl rfl) rfl ?_ | refine o_n (peval_sound rfl) rfl ?_ | refine o_n (nl rfl rfl tc rfl) rfl ?_ | refine o_n (dR rfl rfl td rfl rfl rfl) rfl ?_ | refine o_n (dA rfl rfl td rfl rfl) rfl ?_ | refine o_n (dK rfl rfl td rfl rfl) rfl ?_ | refine o_storeC rfl rfl rfl rfl tc uc rfl rfl rfl ?_ | refine o_box rfl rfl (fun _ => ?_) | refine o_box1 rfl rfl rfl (fun _ => ?_) | refine o_alloc rfl rfl (fun _ => ?_))) | refine e_noU rfl rfl rfl ?_ | refine e_noN rfl rfl ?_ | refine s_seq ?_ | refine s_region ?_ | refine s_block ?_ | refine s_end ?_ | refine s_skip ?_ | refine s_exit ?_ | refine s_true rfl ?_ | refine s_false rfl ?_ | refine x_hit ?_ | refine x_code ?_ | refine x_back ?_ | refine x_miss rfl ?_)
        refine s_back ⟨⟨(j + 1, some ⟨bb, 0, none⟩, cb), by simp only; omega⟩, by simp only; omega, ?_, ?_⟩
        · repeat' (first | exact Sub.nil _ | refine Sub.cons rfl ?_ | refine Sub.consE rfl ?_ ?_)
          exact inc (i := j) (by omega)
        · simp only [List.take_succ_eq_append_getElem hjl, List.map_append, List.map_cons, List.map_nil, pI]
          exact Ent.wk (Ent.refl _)
      have hge : j = L.length := by have := of_decide_eq_false h; omega
      subst hge
      clear h hj
      rw [List.take_length]
      repeat' (first | refine e_nil ?_ | ((first | refine e_op ?_ | refine e_yes rfl ?_); (first | refine o_dNew rfl rfl rfl (fun _ => ?_) | refine o_dNew0 rfl rfl rfl (fun _ => ?_) | refine dAll rfl rfl rfl td uc rfl rfl rfl ?_ | refine dS rfl rfl rfl rfl rfl rfl rfl td uc rfl ?_ | refine o_n (n_b26 rfl rfl) rfl ?_ | refine o_n (n_b26NR rfl rfl rfl rfl rfl) rfl ?_ | refine o_n (n_b26R rfl rfl rfl rfl) rfl ?_ | refine o_n (n_b26CR rfl rfl rfl rfl) rfl ?_ | refine o_n (n_b91 rfl rfl rfl rfl rfl rfl) rfl ?_ | refine o_n (peval_sound rfl) rfl ?_ | refine o_n (nl rfl rfl tc rfl) rfl ?_ | refine o_n (dR rfl rfl td rfl rfl rfl) rfl ?_ | refine o_n (dA rfl rfl td rfl rfl) rfl ?_ | refine o_n (dK rfl rfl td rfl rfl) rfl ?_ | refine o_storeC rfl rfl rfl rfl tc uc rfl rfl rfl ?_ | refine o_box rfl rfl (fun _ => ?_) | refine o_box1 rfl rfl rfl (fun _ => ?_) | refine o_alloc rfl rfl (fun _ => ?_))) | refine e_noU rfl rfl rfl ?_ | refine e_noN rfl rfl ?_ | refine s_seq ?_ | refine s_region ?_ | refine s_block ?_ | refine s_end ?_ | refine s_skip ?_ | refine s_exit ?_ | refine s_true rfl ?_ | refine s_false rfl ?_ | refine x_hit ?_ | refine x_code ?_ | refine x_back ?_ | refine x_miss rfl ?_)
      refine e_op (o_lit (ps := [(0, .slice A17 L.length c17)]) (cs := [.slice A17 L.length c17]) rfl rfl rfl rfl rfl rfl rfl (fun b10 => ?_))
      refine e_op (o_append (v := .slice AN i cN) (n := i) (m := 1) (news := [.slice A17 L.length c17]) _ rfl rfl rfl rfl (fun w hm j u hu => ?_) rfl ?_ rfl (by omega) (by simp only; omega) (by omega) rfl (fun b c => .s (.s (.s (.s .z)))) (fun bN cN2 => ?_))
      · obtain ⟨S1, hP, _⟩ := hm.tak Tak.z
        rw [Nat.zero_add]
        exact osl_cells hP j u hu
      · intro u hu
        simp only [List.mem_cons, List.not_mem_nil, or_false] at hu
        subst hu; rfl
      repeat' (first | refine e_nil ?_ | ((first | refine e_op ?_ | refine e_yes rfl ?_); (first | refine o_dNew rfl rfl rfl (fun _ => ?_) | refine o_dNew0 rfl rfl rfl (fun _ => ?_) | refine dAll rfl rfl rfl td uc rfl rfl rfl ?_ | refine dS rfl rfl rfl rfl rfl rfl rfl td uc rfl ?_ | refine o_n (n_b26 rfl rfl) rfl ?_ | refine o_n (n_b26NR rfl rfl rfl rfl rfl) rfl ?_ | refine o_n (n_b26R rfl rfl rfl rfl) rfl ?_ | refine o_n (n_b26CR rfl rfl rfl rfl) rfl ?_ | refine o_n (n_b91 rfl rfl rfl rfl rfl rfl) rfl ?_ | refine o_n (peval_sound rfl) rfl ?_ | refine o_n (nl rfl rfl tc rfl) rfl ?_ | refine o_n (dR rfl rfl td rfl rfl rfl) rfl ?_ | refine o_n (dA rfl rfl td rfl rfl) rfl ?_ | refine o_n (dK rfl rfl td rfl rfl) rfl ?_ | refine o_storeC rfl rfl rfl rfl tc uc rfl rfl rfl ?_ | refine o_box rfl rfl (fun _ => ?_) | refine o_box1 rfl rfl rfl (fun _ => ?_) | refine o_alloc rfl rfl (fun _ => ?_))) | refine e_noU rfl rfl rfl ?_ | refine e_noN rfl rfl ?_ | refine s_seq ?_ | refine s_region ?_ | refine s_block ?_ | refine s_end ?_ | refine s_skip ?_ | refine s_exit ?_ | refine s_true rfl ?_ | refine s_false rfl ?_ | refine x_hit ?_ | refine x_code ?_ | refine x_back ?_ | refine x_miss rfl ?_)
      refine s_open (.s (.s (.s (.s (.s (.s (.s (.s (.s .z))))))))) (by omega) ?_
      rintro bo rfl
      obtain ⟨b4, o4, es4, rfl, hb4, ⟨rfl, _⟩, hc4⟩ := hD.rule.2.2 s hsR
      have hld : loadL ⟨.int .i64, 1, 8, [.int .i64 0]⟩ ((st.map (pOf p)).map (Value.int .i64)) (0 + i * 1) = some (.int .i64 (pOf p s)) := by
        simp [loadL, aggB, hlt, hs]
      have hrl : rl m (s : Int) = m.Rule[s] := by unfold rl; rw [if_neg (by omega), Int.toNat_natCast, getD_lt hsR]
      refine s_P Try.mixed (by decide +kernel) ?_
      refine p_barU 19 ?_
      refine q_n 0 rfl (peval_sound rfl) (by decide +kernel) (by decide +kernel) (Ent.refl _) rfl ?_
      refine q_n 1 rfl (n_dR rfl rfl (.s (.s (.s .z))) rfl rfl rfl) (by decide +kernel) (by decide +kernel) (Ent.refl _) rfl ?_
      refine q_n 2 rfl (peval_sound rfl) (by decide +kernel) (by decide +kernel) (Ent.refl _) rfl ?_
      refine q_n 3 rfl (n_dR rfl rfl (.s (.s (.s (.s (.s (.s (.s (.s (.s (.s (.s .z))))))))))) rfl rfl rfl) (by decide +kernel) (by decide +kernel) (Ent.refl _) rfl ?_
      refine q_n 4 rfl (peval_sound rfl) (by decide +kernel) (by decide +kernel) (Ent.refl _) rfl ?_
      refine q_n 5 rfl (peval_sound rfl) (by decide +kernel) (by decide +kernel) (Ent.refl _) rfl ?_
      refine q_n 6 rfl (peval_sound rfl) (by decide +kernel) (by decide +kernel) (Ent.refl _) rfl ?_
      refine q_n 7 rfl (n_dR rfl rfl (.s (.s (.s (.s (.s (.s (.s (.s .z)))))))) rfl rfl rfl) (by decide +kernel) (by decide +kernel) (Ent.refl _) rfl ?_
      refine q_n 8 rfl (peval_sound rfl) (by decide +kernel) (by decide +kernel) (Ent.refl _) rfl ?_
      refine q_n 9 rfl (peval_sound rfl) (by decide +kernel) (by decide +kernel) (Ent.refl _) rfl ?_
      refine q_n 10 rfl (peval_sound rfl) (by decide +kernel) (by decide +kernel) (Ent.refl _) rfl ?_
      refine q_n 11 rfl (n_dR rfl rfl (.s (.s (.s (.s (.s (.s (.s (.s .z)))))))) rfl rfl rfl) (by decide +kernel) (by decide +kernel) (Ent.refl _) rfl ?_
      refine q_n 12 rfl (peval_sound rfl) (by decide +kernel) (by decide +kernel) (Ent.refl _) rfl ?_
      refine q_n 13 rfl (n_index rfl rfl rfl rfl i rfl hlt) (by decide +kernel) (by decide +kernel) (Ent.refl _) rfl ?_
      refine q_n 14 rfl (n_load_osl (v := .int .i64 (pOf p s)) rfl rfl (.s (.s (.s (.s (.s (.s (.s (.s (.s .z))))))))) hld) (by decide +kernel) (by decide +kernel) (Ent.refl _) rfl ?_
      refine q_n 15 rfl (n_look hlk rfl mk3 z3 rfl rfl rfl (.s (.s (.s (.s (.s (.s (.s (.s (.s (.s .z))))))))))) (by decide +kernel) (by decide +kernel) (Ent.refl _) rfl ?_
      refine q_n 16 rfl (n_index rfl rfl rfl rfl s rfl hsR) (by decide +kernel) (by decide +kernel) (Ent.refl _) rfl ?_
      refine q_n 17 rfl (n_load_ro rfl rfl hb4 (loads_one rfl (hc4 0 _ rfl))) (by decide +kernel) (by decide +kernel) (Ent.refl _) rfl ?_
      refine q_1 18 (by decide +kernel) rfl rfl rfl (o_lit (ps := [(0, .int .i64 m.Rule[s])]) (cs := [.int .i64 m.Rule[s]]) rfl rfl rfl rfl rfl rfl rfl (fun b12 => ⟨Ent.wk (Ent.refl _), ?_⟩))
      refine q_z 19 (by decide +kernel) rfl rfl (o_append (v := .slice AR i cR) (n := i) (m := 1) (news := [.int .i64 m.Rule[s]]) _ rfl rfl rfl rfl (fun w hm j u hu => ?_) rfl ?_ rfl (by omega) (by simp only; omega) (by omega) rfl (fun b c => (.s (.s (.s (.s (.s (.s .z))))))) (fun bb cb => ?_))
      · obtain ⟨S1, hP, _⟩ := hm.tak Tak.z
        rw [Nat.zero_add]
        exact osl_cells hP j u hu
      · intro u hu
        simp only [List.mem_cons, List.not_mem_nil, or_false] at hu
        subst hu; rfl
      refine p_1 20 (by decide +kernel) rfl rfl (o_n (peval_sound rfl) rfl ?_)
      refine p_1 21 (by decide +kernel) rfl rfl (o_dS rfl rfl rfl rfl rfl rfl rfl rfl (.s (.s (.s (.s .z)))) ?_)
      refine p_done (by decide +kernel) ?_
      repeat' (first | refine e_nil ?_ | ((first | refine e_op ?_ | refine e_yes rfl ?_); (first | refine o_dNew rfl rfl rfl (fun _ => ?_) | refine o_dNew0 rfl rfl rfl (fun _ => ?_) | refine dAll rfl rfl rfl td uc rfl rfl rfl ?_ | refine dS rfl rfl rfl rfl rfl rfl rfl td uc rfl ?_ | refine o_n (n_b26 rfl rfl) rfl ?_ | refine o_n (n_b26NR rfl rfl rfl rfl rfl) rfl ?_ | refine o_n (n_b26R rfl rfl rfl rfl) rfl ?_ | refine o_n (n_b26CR rfl rfl rfl rfl) rfl ?_ | refine o_n (n_b91 rfl rfl rfl rfl rfl rfl) rfl ?_ | refine o_n (peval_sound rfl) rfl ?_ | refine o_n (nl rfl rfl tc rfl) rfl ?_ | refine o_n (dR rfl rfl td rfl rfl rfl) rfl ?_ | refine o_n (dA rfl rfl td rfl rfl) rfl ?_ | refine o_n (dK rfl rfl td rfl rfl) rfl ?_ | refine o_storeC rfl rfl rfl rfl tc uc rfl rfl rfl ?_ | refine o_box rfl rfl (fun _ => ?_) | refine o_box1 rfl rfl rfl (fun _ => ?_) | refine o_alloc rfl rfl (fun _ => ?_))) | refine e_noU rfl rfl rfl ?_ | refine e_noN rfl rfl ?_ | refine s_seq ?_ | refine s_region ?_ | refine s_block ?_ | refine s_end ?_ | refine s_skip ?_ | refine s_exit ?_ | refine s_true rfl ?_ | refine s_false rfl ?_ | refine x_hit ?_ | refine x_code ?_ | refine x_back ?_ | refine x_miss rfl ?_)
      have hla : acs.length = ((st.take i).map (nRow m st L)).length := by rw [List.length_map, List.length_take]; omega
      refine s_back ⟨⟨(i + 1, (some ⟨bN, 0, none⟩, cN2), (some ⟨bb, 0, none⟩, cb), acs ++ [(A17, c17)]), by simp only; omega, by simp [hacs]⟩, by simp only; omega, ?_, ?_⟩
      · repeat' (first | exact Sub.nil _ | refine Sub.cons rfl ?_ | refine Sub.consE rfl ?_ ?_)
        exact inc (i := i) (by omega)
      · simp only [htk, List.map_append, List.map_cons, List.map_nil, rowC_app hla, rowL_app hla, nRow_len, hrl, pI]
        refine Ent.tak (.s (.s (.s (.s .z)))) (Ent.tak (.s (.s (.s (.s .z)))) (Ent.tak (.s (.s (.s (.s .z)))) (Ent.tak (.s (.s (.s (.s .z)))) (Ent.tak (.s (.s (.s (.s .z)))) (Ent.tak (.s (.s (.s (.s .z)))) (Ent.tak (.s (.s (.s (.s .z)))) (Ent.tak (.s (.s (.s (.s .z)))) (Ent.tak (.s (.s (.s (.s .z)))) (Ent.tak (.s (.s (.s (.s .z)))) ?_)))))))))
        rw [List.append_assoc]
        exact Ent.wk (Ent.wk ((Ent.cons (Ent.wk (Ent.refl _))).trans Ent.mid))
    have hge : i = st.length := by have := of_decide_eq_false h; omega
    subst hge
    clear h hi
    rw [List.take_length]
    repeat' (first | refine e_nil ?_ | ((first | refine e_op ?_ | refine e_yes rfl ?_); (first | refine o_dNew rfl rfl rfl (fun _ => ?_) | refine o_dNew0 rfl rfl rfl (fun _ => ?_) | refine dAll rfl rfl rfl td uc rfl rfl rfl ?_ | refine dS rfl rfl rfl rfl rfl rfl rfl td uc rfl ?_ | refine o_n (n_b26 rfl rfl) rfl ?_ | refine o_n (n_b26NR rfl rfl rfl rfl rfl) rfl ?_ | refine o_n (n_b26R rfl rfl rfl rfl) rfl ?_ | refine o_n (n_b26CR rfl rfl rfl rfl) rfl ?_ | refine o_n (n_b91 rfl rfl rfl rfl rfl rfl) rfl ?_ | refine o_n (peval_sound rfl) rfl ?_ | refine o_n (nl rfl rfl tc rfl) rfl ?_ | refine o_n (dR rfl rfl td rfl rfl rfl) rfl ?_ | refine o_n (dA rfl rfl td rfl rfl) rfl ?_ | refine o_n (dK rfl rfl td rfl rfl) rfl ?_ | refine o_storeC rfl rfl rfl rfl tc uc rfl rfl rfl ?_ | refine o_box rfl rfl (fun _ => ?_) | refine o_box1 rfl rfl rfl (fun _ => ?_) | refine o_alloc rfl rfl (fun _ => ?_))) | refine e_noU rfl rfl rfl ?_ | refine e_noN rfl rfl ?_ | refine s_seq ?_ | refine s_region ?_ | refine s_block ?_ | refine s_end ?_ | refine s_skip ?_ | refine s_exit ?_ | refine s_true rfl ?_ | refine s_false rfl ?_ | refine x_hit ?_ | refine x_code ?_ | refine x_back ?_ | refine x_miss rfl ?_)
    refine s_ret ⟨_, _, rescD2 rfl rfl rfl (.s (.s (.s (.s (.s (.s (.s (.s (.s .z))))))))) rfl rfl rfl, ⟨AN, AR, cN, cR, ?_, rfl⟩, ?_⟩
    · rw [hlm, he]
      simp only [resD, List.length_map]
    · rw [hlm]
      simp only [ownD, List.length_map]
      refine Ent.ex acs (by rw [List.length_map]; exact hacs) ?_
      rw [List.cons_append]
      exact Ent.tak (.s .z) (Ent.wk ((Ent.tak .z (Ent.wk (Ent.wk (Ent.wk (Ent.wk (Ent.wk (Ent.wk (Ent.wk (Ent.refl _))))))))).trans Ent.mid))
  · refine a_n 0 rfl (n_dA rfl rfl (.s .z) rfl rfl) (by decide +kernel) (Ent.refl _) rfl ?_
    refine a_n 1 rfl (n_dA rfl rfl (.s .z) rfl rfl) (by decide +kernel) (Ent.refl _) rfl ?_
    refine a_3 2 3 4 (by decide +kernel) rfl rfl rfl rfl rfl rfl (o_call (alike_w _ m o) rfl .nil (Can.ro hR) rfl ?_) (o_newMap encI rfl (fun bm1 => ⟨(by (first | exact Ent.refl _ | assumption | repeat' (first | exact Ent.refl _ | exact Ent.nil _ | refine Ent.tak .z ?_ | refine Ent.wk ?_))), ?_⟩)) (o_newMap encI rfl (fun bm2 => ⟨(by (first | exact Ent.refl _ | assumption | repeat' (first | exact Ent.refl _ | exact Ent.nil _ | refine Ent.tak .z ?_ | refine Ent.wk ?_))), ?_⟩))
    · rintro v V ⟨p, A, c, hg, hq, rfl, rfl⟩
      refine ⟨(by (first | exact Ent.refl _ | assumption | repeat' (first | exact Ent.refl _ | exact Ent.nil _ | refine Ent.tak .z ?_ | refine Ent.wk ?_))), ?_⟩
      refine a_2 3 4 (by decide +kernel) rfl rfl rfl rfl (o_newMap encI rfl (fun bm1 => ⟨(by (first | exact Ent.refl _ | assumption | repeat' (first | exact Ent.refl _ | exact Ent.nil _ | refine Ent.tak .z ?_ | refine Ent.wk ?_))), ?_⟩)) (o_newMap encI rfl (fun bm2 => ⟨(by (first | exact Ent.refl _ | assumption | repeat' (first | exact Ent.refl _ | exact Ent.nil _ | refine Ent.tak .z ?_ | refine Ent.wk ?_))), ?_⟩))
      · skip
        refine a_1 4 (by decide +kernel) rfl rfl (o_newMap encI rfl (fun bm2 => ⟨(by (first | exact Ent.refl _ | assumption | repeat' (first | exact Ent.refl _ | exact Ent.nil _ | refine Ent.tak .z ?_ | refine Ent.wk ?_))), ?_⟩))
        refine a_n 5 rfl (n_b91 rfl rfl rfl rfl rfl rfl) (by decide +kernel) (by (first | exact Ent.refl _ | assumption | repeat' (first | exact Ent.refl _ | exact Ent.nil _ | refine Ent.tak .z ?_ | refine Ent.wk ?_))) rfl ?_
        refine a_1 6 (by decide +kernel) rfl rfl (o_box rfl rfl (fun b5 => ⟨(by (first | exact Ent.refl _ | assumption | repeat' (first | exact Ent.refl _ | exact Ent.nil _ | refine Ent.tak .z ?_ | refine Ent.wk ?_))), ?_⟩))
        refine a_1 7 (by decide +kernel) rfl rfl (o_n (peval_sound rfl) rfl ⟨(by (first | exact Ent.refl _ | assumption | repeat' (first | exact Ent.refl _ | exact Ent.nil _ | refine Ent.tak .z ?_ | refine Ent.wk ?_))), ?_⟩)
        refine a_done (by decide +kernel) (s_weak ?_ ?_ (hfin ⟨(p, A, c, bm1, bm2, b5), ⟨hg, hq⟩⟩))
        · repeat' (first | exact Sub.nil _ | refine Sub.cons rfl ?_ | refine Sub.consE rfl ?_ ?_)
        · repeat' (first | exact Ent.nil _ | refine Ent.tak tk ?_)
      · skip
        refine a_1 3 (by decide +kernel) rfl rfl (o_newMap encI rfl (fun bm1 => ⟨(by (first | exact Ent.refl _ | assumption | repeat' (first | exact Ent.refl _ | exact Ent.nil _ | refine Ent.tak .z ?_ | refine Ent.wk ?_))), ?_⟩))
        refine a_n 5 rfl (n_b91 rfl rfl rfl rfl rfl rfl) (by decide +kernel) (by (first | exact Ent.refl _ | assumption | repeat' (first | exact Ent.refl _ | exact Ent.nil _ | refine Ent.tak .z ?_ | refine Ent.wk ?_))) rfl ?_
        refine a_1 6 (by decide +kernel) rfl rfl (o_box rfl rfl (fun b5 => ⟨(by (first | exact Ent.refl _ | assumption | repeat' (first | exact Ent.refl _ | exact Ent.nil _ | refine Ent.tak .z ?_ | refine Ent.wk ?_))), ?_⟩))
        refine a_1 7 (by decide +kernel) rfl rfl (o_n (peval_sound rfl) rfl ⟨(by (first | exact Ent.refl _ | assumption | repeat' (first | exact Ent.refl _ | exact Ent.nil _ | refine Ent.tak .z ?_ | refine Ent.wk ?_))), ?_⟩)
        refine a_done (by decide +kernel) (s_weak ?_ ?_ (hfin ⟨(p, A, c, bm1, bm2, b5), ⟨hg, hq⟩⟩))
        · repeat' (first | exact Sub.nil _ | refine Sub.cons rfl ?_ | refine Sub.consE rfl ?_ ?_)
        · repeat' (first | exact Ent.nil _ | refine Ent.tak tk ?_)
    · skip
      refine a_2 2 4 (by decide +kernel) rfl rfl rfl rfl (o_call (alike_w _ m o) rfl .nil (Can.ro hR) rfl ?_) (o_newMap encI rfl (fun bm2 => ⟨(by (first | exact Ent.refl _ | assumption | repeat' (first | exact Ent.refl _ | exact Ent.nil _ | refine Ent.tak .z ?_ | refine Ent.wk ?_))), ?_⟩))
      · rintro v V ⟨p, A, c, hg, hq, rfl, rfl⟩
        refine ⟨(by (first | exact Ent.refl _ | assumption | repeat' (first | exact Ent.refl _ | exact Ent.nil _ | refine Ent.tak .z ?_ | refine Ent.wk ?_))), ?_⟩
        refine a_1 4 (by decide +kernel) rfl rfl (o_newMap encI rfl (fun bm2 => ⟨(by (first | exact Ent.refl _ | assumption | repeat' (first | exact Ent.refl _ | exact Ent.nil _ | refine Ent.tak .z ?_ | refine Ent.wk ?_))), ?_⟩))
        refine a_n 5 rfl (n_b91 rfl rfl rfl rfl rfl rfl) (by decide +kernel) (by (first | exact Ent.refl _ | assumption | repeat' (first | exact Ent.refl _ | exact Ent.nil _ | refine Ent.tak .z ?_ | refine Ent.wk ?_))) rfl ?_
        refine a_1 6 (by decide +kernel) rfl rfl (o_box rfl rfl (fun b5 => ⟨(by (first | exact Ent.refl _ | assumption | repeat' (first | exact Ent.refl _ | exact Ent.nil _ | refine Ent.tak .z ?_ | refine Ent.wk ?_))), ?_⟩))
        refine a_1 7 (by decide +kernel) rfl rfl (o_n (peval_sound rfl) rfl ⟨(by (first | exact Ent.refl _ | assumption | repeat' (first | exact Ent.refl _ | exact Ent.nil _ | refine Ent.tak .z ?_ | refine Ent.wk ?_))), ?_⟩)
        refine a_done (by decide +kernel) (s_weak ?_ ?_ (hfin ⟨(p, A, c, bm1, bm2, b5), ⟨hg, hq⟩⟩))
        · repeat' (first | exact Sub.nil _ | refine Sub.cons rfl ?_ | refine Sub.consE rfl ?_ ?_)
        · repeat' (first | exact Ent.nil _ | refine Ent.tak tk ?_)
      · skip
        refine a_1 2 (by decide +kernel) rfl rfl (o_call (alike_w _ m o) rfl .nil (Can.ro hR) rfl ?_)
        rintro v V ⟨p, A, c, hg, hq, rfl, rfl⟩
        refine ⟨(by (first | exact Ent.refl _ | assumption | repeat' (first | exact Ent.refl _ | exact Ent.nil _ | refine Ent.tak .z ?_ | refine Ent.wk ?_))), ?_⟩
        refine a_n 5 rfl (n_b91 rfl rfl rfl rfl rfl rfl) (by decide +kernel) (by (first | exact Ent.refl _ | assumption | repeat' (first | exact Ent.refl _ | exact Ent.nil _ | refine Ent.tak .z ?_ | refine Ent.wk ?_))) rfl ?_
        refine a_1 6 (by decide +kernel) rfl rfl (o_box rfl rfl (fun b5 => ⟨(by (first | exact Ent.refl _ | assumption | repeat' (first | exact Ent.refl _ | exact Ent.nil _ | refine Ent.tak .z ?_ | refine Ent.wk ?_))), ?_⟩))
        refine a_1 7 (by decide +kernel) rfl rfl (o_n (peval_sound rfl) rfl ⟨(by (first | exact Ent.refl _ | assumption | repeat' (first | exact Ent.refl _ | exact Ent.nil _ | refine Ent.tak .z ?_ | refine Ent.wk ?_))), ?_⟩)
        refine a_done (by decide +kernel) (s_weak ?_ ?_ (hfin ⟨(p, A, c, bm1, bm2, b5), ⟨hg, hq⟩⟩))
        · repeat' (first | exact Sub.nil _ | refine Sub.cons rfl ?_ | refine Sub.consE rfl ?_ ?_)
        · repeat' (first | exact Ent.nil _ | refine Ent.tak tk ?_)
    · skip
      refine a_2 2 3 (by decide +kernel) rfl rfl rfl rfl (o_call (alike_w _ m o) rfl .nil (Can.ro hR) rfl ?_) (o_newMap encI rfl (fun bm1 => ⟨(by (first | exact Ent.refl _ | assumption | repeat' (first | exact Ent.refl _ | exact Ent.nil _ | refine Ent.tak .z ?_ | refine Ent.wk ?_))), ?_⟩))
      · rintro v V ⟨p, A, c, hg, hq, rfl, rfl⟩
        refine ⟨(by (first | exact Ent.refl _ | assumption | repeat' (first | exact Ent.refl _ | exact Ent.nil _ | refine Ent.tak .z ?_ | refine Ent.wk ?_))), ?_⟩
        refine a_1 3 (by decide +kernel) rfl rfl (o_newMap encI rfl (fun bm1 => ⟨(by (first | exact Ent.refl _ | assumption | repeat' (first | exact Ent.refl _ | exact Ent.nil _ | refine Ent.tak .z ?_ | refine Ent.wk ?_))), ?_⟩))
        refine a_n 5 rfl (n_b91 rfl rfl rfl rfl rfl rfl) (by decide +kernel) (by (first | exact Ent.refl _ | assumption | repeat' (first | exact Ent.refl _ | exact Ent.nil _ | refine Ent.tak .z ?_ | refine Ent.wk ?_))) rfl ?_
        refine a_1 6 (by decide +kernel) rfl rfl (o_box rfl rfl (fun b5 => ⟨(by (first | exact Ent.refl _ | assumption | repeat' (first | exact Ent.refl _ | exact Ent.nil _ | refine Ent.tak .z ?_ | refine Ent.wk ?_))), ?_⟩))
        refine a_1 7 (by decide +kernel) rfl rfl (o_n (peval_sound rfl) rfl ⟨(by (first | exact Ent.refl _ | assumption | repeat' (first | exact Ent.refl _ | exact Ent.nil _ | refine Ent.tak .z ?_ | refine Ent.wk ?_))), ?_⟩)
        refine a_done (by decide +kernel) (s_weak ?_ ?_ (hfin ⟨(p, A, c, bm1, bm2, b5), ⟨hg, hq⟩⟩))
        · repeat' (first | exact Sub.nil _ | refine Sub.cons rfl ?_ | refine Sub.consE rfl ?_ ?_)
        · repeat' (first | exact Ent.nil _ | refine Ent.tak tk ?_)
      · skip
        refine a_1 2 (by decide +kernel) rfl rfl (o_call (alike_w _ m o) rfl .nil (Can.ro hR) rfl ?_)
        rintro v V ⟨p, A, c, hg, hq, rfl, rfl⟩
        refine ⟨(by (first | exact Ent.refl _ | assumption | repeat' (first | exact Ent.refl _ | exact Ent.nil _ | refine Ent.tak .z ?_ | refine Ent.wk ?_))), ?_⟩
        refine a_n 5 rfl (n_b91 rfl rfl rfl rfl rfl rfl) (by decide +kernel) (by (first | exact Ent.refl _ | assumption | repeat' (first | exact Ent.refl _ | exact Ent.nil _ | refine Ent.tak .z ?_ | refine Ent.wk ?_))) rfl ?_
        refine a_1 6 (by decide +kernel) rfl rfl (o_box rfl rfl (fun b5 => ⟨(by (first | exact Ent.refl _ | assumption | repeat' (first | exact Ent.refl _ | exact Ent.nil _ | refine Ent.tak .z ?_ | refine Ent.wk ?_))), ?_⟩))
        refine a_1 7 (by decide +kernel) rfl rfl (o_n (peval_sound rfl) rfl ⟨(by (first | exact Ent.refl _ | assumption | repeat' (first | exact Ent.refl _ | exact Ent.nil _ | refine Ent.tak .z ?_ | refine Ent.wk ?_))), ?_⟩)
        refine a_done (by decide +kernel) (s_weak ?_ ?_ (hfin ⟨(p, A, c, bm1, bm2, b5), ⟨hg, hq⟩⟩))
        · repeat' (first | exact Sub.nil _ | refine Sub.cons rfl ?_ | refine Sub.consE rfl ?_ ?_)
        · repeat' (first | exact Ent.nil _ | refine Ent.tak tk ?_)


end Go.Proofs.Ytbfjnldneemmiab
