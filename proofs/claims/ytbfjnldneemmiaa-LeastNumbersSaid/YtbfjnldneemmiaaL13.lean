/-
  A machine, copied.
-/
import Derived.Test.YtbfjnldneemmiaaL12
import Derived.Test.YtbfjnldneemmiaaLI
namespace Go.Proofs.Ytbfjnldneemmiaa
set_option linter.all false
open Go.Proofs.Ytbfjnldneemmiaa.E


theorem ent_dfaR {m : Mach} (h : ∀ v ∈ m.Class.l, I64 v) {A1 A2 : Option Addr} {c1 c2 : Nat} {U : List Asn} : Ent (rdA (kslice 24 (kslice 8 kint)) [.slice A1 m.Next.length c1] m.Next :: rdA (kslice 8 kint) [.slice A2 m.Rule.length c2] m.Rule :: U) (rdA kDfa (dfC m A1 A2 c1 c2) m :: U) :=
  Ent.two fun w S1 S2 h1 h2 => by
    obtain ⟨A, c, e, a1, a2, a3⟩ := kNext.mono (S' := fun b => S1 b ∨ S2 b) (fun b h => Or.inl h) h1
    obtain ⟨A', c', e', b1, b2, b3⟩ := (kslice 8 kint).mono (S' := fun b => S1 b ∨ S2 b) (fun b h => Or.inr h) h2
    cases e; cases e'
    exact kDfa_mk ⟨h, ⟨a1, a2, a3⟩, ⟨b1, b2, b3⟩⟩

attribute [local irreducible] EVX EVO EVL EV1 NEV
attribute [local irreducible] own osl exA rdA rdL
set_option maxRecDepth 10000
set_option maxHeartbeats 4000000

theorem copy11_w (cs : List Value) (m : Mach) : Trip Try.prog 19 [.agg cs.toArray] (kDfa.rd cs m) []
    (fun v V => ∃ (A1 A2 : Option Addr) (c1 c2 : Nat), v = .agg (dfC m A1 A2 c1 c2).toArray ∧ V = [rdA kDfa (dfC m A1 A2 c1 c2) m]) := by
  refine trip Try.tabOk Try.func19 rfl rfl rfl rfl ?_
  intro w SM hR
  obtain ⟨A1, A2, c1, c2, rfl, hD⟩ := kDfa_open hR
  repeat' (first | refine e_nil ?_ | ((first | refine e_op ?_ | refine e_yes rfl ?_); (first | refine o_dNew rfl rfl rfl (fun _ => ?_) | refine o_dNew0 rfl rfl rfl (fun _ => ?_) | refine dAll rfl rfl rfl td uc rfl rfl rfl ?_ | refine dS rfl rfl rfl rfl rfl rfl rfl td uc rfl ?_ | refine o_n (n_b26 rfl rfl) rfl ?_ | refine o_n (n_b26NR rfl rfl rfl rfl rfl) rfl ?_ | refine o_n (n_b26R rfl rfl rfl rfl) rfl ?_ | refine o_n (n_b26CR rfl rfl rfl rfl) rfl ?_ | refine o_n (n_b91 rfl rfl rfl rfl rfl rfl) rfl ?_ | refine o_n (peval_sound rfl) rfl ?_ | refine o_n (nl rfl rfl tc rfl) rfl ?_ | refine o_n (dR rfl rfl td rfl rfl rfl) rfl ?_ | refine o_n (dA rfl rfl td rfl rfl) rfl ?_ | refine o_n (dK rfl rfl td rfl rfl) rfl ?_ | refine o_storeC rfl rfl rfl rfl tc uc rfl rfl rfl ?_ | refine o_box rfl rfl (fun _ => ?_) | refine o_box1 rfl rfl rfl (fun _ => ?_) | refine o_alloc rfl rfl (fun _ => ?_))) | refine e_noU rfl rfl rfl ?_ | refine e_noN rfl rfl ?_ | refine s_seq ?_ | refine s_region ?_ | refine s_block ?_ | refine s_end ?_ | refine s_skip ?_ | refine s_exit ?_ | refine s_true rfl ?_ | refine s_false rfl ?_ | refine x_hit ?_ | refine x_code ?_ | refine x_back ?_ | refine x_miss rfl ?_)
  rename_i b1 b2
  refine s_anyU Try.mixed ?_
  refine a_join (ι := Nat × Option Addr × Nat)
    (fun x => [(1, .pointer (some ⟨b1, 0, none⟩)), (2, .pointer (some ⟨b2, 0, none⟩)), (3, .pointer (some ⟨x.1, 0, none⟩))])
    (fun x => [blk x.1 26 (dC m.Class [nilS, .slice x.2.1 m.Rule.length x.2.2]), rdA (kslice 8 kint) [.slice x.2.1 m.Rule.length x.2.2] m.Rule, blk b1 26 (dfC m A1 A2 c1 c2), blk b2 26 (dC .zero [nilS, nilS])]) ?_ (fun hfin => ?_)
  · rintro ⟨b3, AR, cR⟩
    simp only
    repeat' (first | refine e_nil ?_ | ((first | refine e_op ?_ | refine e_yes rfl ?_); (first | refine o_dNew rfl rfl rfl (fun _ => ?_) | refine o_dNew0 rfl rfl rfl (fun _ => ?_) | refine dAll rfl rfl rfl td uc rfl rfl rfl ?_ | refine dS rfl rfl rfl rfl rfl rfl rfl td uc rfl ?_ | refine o_n (n_b26 rfl rfl) rfl ?_ | refine o_n (n_b26NR rfl rfl rfl rfl rfl) rfl ?_ | refine o_n (n_b26R rfl rfl rfl rfl) rfl ?_ | refine o_n (n_b26CR rfl rfl rfl rfl) rfl ?_ | refine o_n (n_b91 rfl rfl rfl rfl rfl rfl) rfl ?_ | refine o_n (peval_sound rfl) rfl ?_ | refine o_n (nl rfl rfl tc rfl) rfl ?_ | refine o_n (dR rfl rfl td rfl rfl rfl) rfl ?_ | refine o_n (dA rfl rfl td rfl rfl) rfl ?_ | refine o_n (dK rfl rfl td rfl rfl) rfl ?_ | refine o_storeC rfl rfl rfl rfl tc uc rfl rfl rfl ?_ | refine o_box rfl rfl (fun _ => ?_) | refine o_box1 rfl rfl rfl (fun _ => ?_) | refine o_alloc rfl rfl (fun _ => ?_))) | refine e_noU rfl rfl rfl ?_ | refine e_noN rfl rfl ?_ | refine s_seq ?_ | refine s_region ?_ | refine s_block ?_ | refine s_end ?_ | refine s_skip ?_ | refine s_exit ?_ | refine s_true rfl ?_ | refine s_false rfl ?_ | refine x_hit ?_ | refine x_code ?_ | refine x_back ?_ | refine x_miss rfl ?_)
    refine s_loopK (ι := {x : Nat × Option Addr × Nat × List (List Value) // x.1 ≤ m.Next.length ∧ x.2.2.2.length = x.1}) [1, 2, 3] rfl ⟨(0, none, 0, []), by simp⟩ (fun x => [(4, .int .i64 x.1.1)])
      (fun x => blk b3 26 (dC m.Class [.slice x.1.2.1 x.1.1 x.1.2.2.1, .slice AR m.Rule.length cR]) :: osl 24 1 (.slice x.1.2.1 x.1.1 x.1.2.2.1) x.1.1 x.1.2.2.2.flatten :: rdL (kslice 8 kint) x.1.2.2.2 (m.Next.take x.1.1) :: rdA (kslice 8 kint) [.slice AR m.Rule.length cR] m.Rule :: blk b1 26 (dfC m A1 A2 c1 c2) :: blk b2 26 (dC .zero [nilS, nilS]) :: []) (fun x => m.Next.length - x.1.1) ?_ ?_ ?_
    · repeat' (first | exact Sub.nil _ | refine Sub.cons rfl ?_ | refine Sub.consE rfl ?_ ?_)
    · refine Ent.tak .z (Ent.osl0 ?_)
      exact ent_nilL
    rintro ⟨⟨i, AN, cN, ess⟩, hi, hess⟩
    simp only at hi hess ⊢
    repeat' (first | refine e_nil ?_ | ((first | refine e_op ?_ | refine e_yes rfl ?_); (first | refine o_dNew rfl rfl rfl (fun _ => ?_) | refine o_dNew0 rfl rfl rfl (fun _ => ?_) | refine dAll rfl rfl rfl td uc rfl rfl rfl ?_ | refine dS rfl rfl rfl rfl rfl rfl rfl td uc rfl ?_ | refine o_n (n_b26 rfl rfl) rfl ?_ | refine o_n (n_b26NR rfl rfl rfl rfl rfl) rfl ?_ | refine o_n (n_b26R rfl rfl rfl rfl) rfl ?_ | refine o_n (n_b26CR rfl rfl rfl rfl) rfl ?_ | refine o_n (n_b91 rfl rfl rfl rfl rfl rfl) rfl ?_ | refine o_n (peval_sound rfl) rfl ?_ | refine o_n (nl rfl rfl tc rfl) rfl ?_ | refine o_n (dR rfl rfl td rfl rfl rfl) rfl ?_ | refine o_n (dA rfl rfl td rfl rfl) rfl ?_ | refine o_n (dK rfl rfl td rfl rfl) rfl ?_ | refine o_storeC rfl rfl rfl rfl tc uc rfl rfl rfl ?_ | refine o_box rfl rfl (fun _ => ?_) | refine o_box1 rfl rfl rfl (fun _ => ?_) | refine o_alloc rfl rfl (fun _ => ?_))) | refine e_noU rfl rfl rfl ?_ | refine e_noN rfl rfl ?_ | refine s_seq ?_ | refine s_region ?_ | refine s_block ?_ | refine s_end ?_ | refine s_skip ?_ | refine s_exit ?_ | refine s_true rfl ?_ | refine s_false rfl ?_ | refine x_hit ?_ | refine x_code ?_ | refine x_back ?_ | refine x_miss rfl ?_)
    refine s_cond rfl (fun h => ?_) (fun h => ?_)
    · have hlt : i < m.Next.length := by simpa using h
      clear h
      have hnb := hD.next.2.1
      obtain ⟨b, o, es, rfl, hb, ⟨Ar, cr, rfl, hr⟩, hc⟩ := hD.next.2.2 i hlt
      repeat' (first | refine e_nil ?_ | ((first | refine e_op ?_ | refine e_yes rfl ?_); (first | refine o_dNew rfl rfl rfl (fun _ => ?_) | refine o_dNew0 rfl rfl rfl (fun _ => ?_) | refine dAll rfl rfl rfl td uc rfl rfl rfl ?_ | refine dS rfl rfl rfl rfl rfl rfl rfl td uc rfl ?_ | refine o_n (n_b26 rfl rfl) rfl ?_ | refine o_n (n_b26NR rfl rfl rfl rfl rfl) rfl ?_ | refine o_n (n_b26R rfl rfl rfl rfl) rfl ?_ | refine o_n (n_b26CR rfl rfl rfl rfl) rfl ?_ | refine o_n (n_b91 rfl rfl rfl rfl rfl rfl) rfl ?_ | refine o_n (peval_sound rfl) rfl ?_ | refine o_n (nl rfl rfl tc rfl) rfl ?_ | refine o_n (dR rfl rfl td rfl rfl rfl) rfl ?_ | refine o_n (dA rfl rfl td rfl rfl) rfl ?_ | refine o_n (dK rfl rfl td rfl rfl) rfl ?_ | refine o_storeC rfl rfl rfl rfl tc uc rfl rfl rfl ?_ | refine o_box rfl rfl (fun _ => ?_) | refine o_box1 rfl rfl rfl (fun _ => ?_) | refine o_alloc rfl rfl (fun _ => ?_))) | refine e_noU rfl rfl rfl ?_ | refine e_noN rfl rfl ?_ | refine s_seq ?_ | refine s_region ?_ | refine s_block ?_ | refine s_end ?_ | refine s_skip ?_ | refine s_exit ?_ | refine s_true rfl ?_ | refine s_false rfl ?_ | refine x_hit ?_ | refine x_code ?_ | refine x_back ?_ | refine x_miss rfl ?_)
      refine s_rdL (.s (.s .z)) (fun _ hesz => ?_)
      refine s_P Try.mixed (by decide +kernel) ?_
      refine p_barU 9 ?_
      refine q_n 0 rfl (peval_sound rfl) (by decide +kernel) (by decide +kernel) (Ent.refl _) rfl ?_
      refine q_n 1 rfl (n_dR rfl rfl .z rfl rfl rfl) (by decide +kernel) (by decide +kernel) (Ent.refl _) rfl ?_
      refine q_n 2 rfl (peval_sound rfl) (by decide +kernel) (by decide +kernel) (Ent.refl _) rfl ?_
      refine q_n 3 rfl (n_dR rfl rfl (.s (.s (.s (.s .z)))) rfl rfl rfl) (by decide +kernel) (by decide +kernel) (Ent.refl _) rfl ?_
      refine q_n 4 rfl (peval_sound rfl) (by decide +kernel) (by decide +kernel) (Ent.refl _) rfl ?_
      refine q_n 5 rfl (n_index rfl rfl rfl rfl i rfl hlt) (by decide +kernel) (by decide +kernel) (Ent.refl _) rfl ?_
      refine q_n 6 rfl (n_load_ro rfl rfl hb (loads_one rfl (hc 0 _ rfl))) (by decide +kernel) (by decide +kernel) (Ent.refl _) rfl ?_
      refine q_1 7 (by decide +kernel) rfl rfl rfl (o_call (copyI_w Ar _ cr m.Next[i] rfl) rfl .nil (Can.ro (sl_mk hr)) rfl ?_)
      rintro v V ⟨A', c', rfl, rfl⟩
      refine ⟨Ent.wk (Ent.refl _), ?_⟩
      simp only [List.cons_append, List.nil_append]
      refine q_1 8 (by decide +kernel) rfl rfl rfl (o_lit (ps := [(0, .slice A' m.Next[i].length c')]) (cs := [.slice A' m.Next[i].length c']) rfl rfl rfl rfl rfl rfl rfl (fun b7 => ⟨Ent.wk (Ent.wk (Ent.refl _)), ?_⟩))
      refine q_z 9 (by decide +kernel) rfl rfl (o_append (v := .slice AN i cN) (n := i) (m := 1) (news := [.slice A' m.Next[i].length c']) _ rfl rfl rfl rfl (fun w hm j u hu => ?_) rfl ?_ rfl (by omega) (by simp only; omega) (by omega) rfl (fun b c => (.s (.s (.s .z)))) (fun bb cb => ?_))
      · obtain ⟨S1, hP, _⟩ := hm.tak Tak.z
        rw [Nat.zero_add]
        exact osl_cells hP j u hu
      · intro u hu
        simp only [List.mem_cons, List.not_mem_nil, or_false] at hu
        subst hu; rfl
      refine p_1 10 (by decide +kernel) rfl rfl (o_n (peval_sound rfl) rfl ?_)
      refine p_1 11 (by decide +kernel) rfl rfl (o_dS rfl rfl rfl rfl rfl rfl rfl rfl (.s (.s .z)) ?_)
      refine p_done (by decide +kernel) ?_
      repeat' (first | refine e_nil ?_ | ((first | refine e_op ?_ | refine e_yes rfl ?_); (first | refine o_dNew rfl rfl rfl (fun _ => ?_) | refine o_dNew0 rfl rfl rfl (fun _ => ?_) | refine dAll rfl rfl rfl td uc rfl rfl rfl ?_ | refine dS rfl rfl rfl rfl rfl rfl rfl td uc rfl ?_ | refine o_n (n_b26 rfl rfl) rfl ?_ | refine o_n (n_b26NR rfl rfl rfl rfl rfl) rfl ?_ | refine o_n (n_b26R rfl rfl rfl rfl) rfl ?_ | refine o_n (n_b26CR rfl rfl rfl rfl) rfl ?_ | refine o_n (n_b91 rfl rfl rfl rfl rfl rfl) rfl ?_ | refine o_n (peval_sound rfl) rfl ?_ | refine o_n (nl rfl rfl tc rfl) rfl ?_ | refine o_n (dR rfl rfl td rfl rfl rfl) rfl ?_ | refine o_n (dA rfl rfl td rfl rfl) rfl ?_ | refine o_n (dK rfl rfl td rfl rfl) rfl ?_ | refine o_storeC rfl rfl rfl rfl tc uc rfl rfl rfl ?_ | refine o_box rfl rfl (fun _ => ?_) | refine o_box1 rfl rfl rfl (fun _ => ?_) | refine o_alloc rfl rfl (fun _ => ?_))) | refine e_noU rfl rfl rfl ?_ | refine e_noN rfl rfl ?_ | refine s_seq ?_ | refine s_region ?_ | refine s_block ?_ | refine s_end ?_ | refine s_skip ?_ | refine s_exit ?_ | refine s_true rfl ?_ | refine s_false rfl ?_ | refine x_hit ?_ | refine x_code ?_ | refine x_back ?_ | refine x_miss rfl ?_)
      refine s_back ⟨⟨(i + 1, some ⟨bb, 0, none⟩, cb, ess ++ [[.slice A' m.Next[i].length c']]), by simp only; omega, by simp [hess]⟩, by simp only; omega, ?_, ?_⟩
      · repeat' (first | exact Sub.nil _ | refine Sub.cons rfl ?_ | refine Sub.consE rfl ?_ ?_)
        exact inc (i := i) (by omega)
      · simp only [List.take_succ_eq_append_getElem hlt, List.flatten_append, List.flatten_cons, List.flatten_nil, List.append_nil]
        refine Ent.wk (Ent.tak (.s .z) (Ent.tak (.s .z) ?_))
        refine Ent.trans ?_ ent_snoc
        exact Ent.tak (.s .z) (Ent.tak .z (Ent.refl _))
    · have hge : i = m.Next.length := by simp at h; omega
      subst hge
      clear h
      rw [List.take_length]
      have hnb := hD.next.2.1
      repeat' (first | refine e_nil ?_ | ((first | refine e_op ?_ | refine e_yes rfl ?_); (first | refine o_dNew rfl rfl rfl (fun _ => ?_) | refine o_dNew0 rfl rfl rfl (fun _ => ?_) | refine dAll rfl rfl rfl td uc rfl rfl rfl ?_ | refine dS rfl rfl rfl rfl rfl rfl rfl td uc rfl ?_ | refine o_n (n_b26 rfl rfl) rfl ?_ | refine o_n (n_b26NR rfl rfl rfl rfl rfl) rfl ?_ | refine o_n (n_b26R rfl rfl rfl rfl) rfl ?_ | refine o_n (n_b26CR rfl rfl rfl rfl) rfl ?_ | refine o_n (n_b91 rfl rfl rfl rfl rfl rfl) rfl ?_ | refine o_n (peval_sound rfl) rfl ?_ | refine o_n (nl rfl rfl tc rfl) rfl ?_ | refine o_n (dR rfl rfl td rfl rfl rfl) rfl ?_ | refine o_n (dA rfl rfl td rfl rfl) rfl ?_ | refine o_n (dK rfl rfl td rfl rfl) rfl ?_ | refine o_storeC rfl rfl rfl rfl tc uc rfl rfl rfl ?_ | refine o_box rfl rfl (fun _ => ?_) | refine o_box1 rfl rfl rfl (fun _ => ?_) | refine o_alloc rfl rfl (fun _ => ?_))) | refine e_noU rfl rfl rfl ?_ | refine e_noN rfl rfl ?_ | refine s_seq ?_ | refine s_region ?_ | refine s_block ?_ | refine s_end ?_ | refine s_skip ?_ | refine s_exit ?_ | refine s_true rfl ?_ | refine s_false rfl ?_ | refine x_hit ?_ | refine x_code ?_ | refine x_back ?_ | refine x_miss rfl ?_)
      refine s_ret ⟨_, _, resc rfl rfl rfl (.s (.s (.s (.s (.s .z))))) (ld_all (n := 258) (by rw [dC_len]; rfl) rfl rfl rfl), ⟨AN, AR, cN, cR, rfl, rfl⟩, ?_⟩
      refine Ent.trans (Ent.wk (Ent.tak .z (Ent.tak .z (Ent.tak .z (Ent.nil _))))) ?_
      refine Ent.trans (ent_slice (k := kslice 8 kint) (bytes := 24) rfl hnb) ?_
      exact ent_dfaR hD.cls
  · refine a_n 0 rfl (peval_sound rfl) (by decide +kernel) (Ent.refl _) rfl ?_
    refine a_n 1 rfl (n_dK rfl rfl (.s .z) rfl rfl) (by decide +kernel) (Ent.refl _) rfl ?_
    refine a_n 2 rfl (peval_sound rfl) (by decide +kernel) (Ent.refl _) rfl ?_
    refine a_n 3 rfl (n_dR rfl rfl (.s .z) rfl rfl rfl) (by decide +kernel) (Ent.refl _) rfl ?_
    refine a_2 4 6 (by decide +kernel) rfl rfl rfl rfl (o_call (copyI_w A2 _ c2 m.Rule rfl) rfl .nil (Can.ro (sl_mk hD.rule)) rfl ?_) (o_dNew rfl rfl rfl (fun b3 => ⟨(by (first | exact Ent.refl _ | assumption | repeat' (first | exact Ent.refl _ | exact Ent.nil _ | refine Ent.tak .z ?_ | refine Ent.wk ?_))), ?_⟩))
    · rintro v V ⟨AR, cR, rfl, rfl⟩
      refine ⟨(by (first | exact Ent.refl _ | assumption | repeat' (first | exact Ent.refl _ | exact Ent.nil _ | refine Ent.tak .z ?_ | refine Ent.wk ?_))), ?_⟩
      refine a_n 5 rfl (n_b26CR rfl rfl rfl rfl) (by decide +kernel) (by (first | exact Ent.refl _ | assumption | repeat' (first | exact Ent.refl _ | exact Ent.nil _ | refine Ent.tak .z ?_ | refine Ent.wk ?_))) rfl ?_
      refine a_1 6 (by decide +kernel) rfl rfl (o_dNew rfl rfl rfl (fun b3 => ⟨(by (first | exact Ent.refl _ | assumption | repeat' (first | exact Ent.refl _ | exact Ent.nil _ | refine Ent.tak .z ?_ | refine Ent.wk ?_))), ?_⟩))
      refine a_1 7 (by decide +kernel) rfl rfl (o_dAll rfl rfl rfl .z rfl rfl rfl ⟨(by (first | exact Ent.refl _ | assumption | repeat' (first | exact Ent.refl _ | exact Ent.nil _ | refine Ent.tak .z ?_ | refine Ent.wk ?_))), ?_⟩)
      refine a_done (by decide +kernel) (s_weak ?_ ?_ (hfin (b3, AR, cR)))
      · repeat' (first | exact Sub.nil _ | refine Sub.cons rfl ?_ | refine Sub.consE rfl ?_ ?_)
      · repeat' (first | exact Ent.nil _ | refine Ent.tak tk ?_)
    · refine a_1 4 (by decide +kernel) rfl rfl (o_call (copyI_w A2 _ c2 m.Rule rfl) rfl .nil (Can.ro (sl_mk hD.rule)) rfl ?_)
      rintro v V ⟨AR, cR, rfl, rfl⟩
      refine ⟨(by (first | exact Ent.refl _ | assumption | repeat' (first | exact Ent.refl _ | exact Ent.nil _ | refine Ent.tak .z ?_ | refine Ent.wk ?_))), ?_⟩
      refine a_n 5 rfl (n_b26CR rfl rfl rfl rfl) (by decide +kernel) (by (first | exact Ent.refl _ | assumption | repeat' (first | exact Ent.refl _ | exact Ent.nil _ | refine Ent.tak .z ?_ | refine Ent.wk ?_))) rfl ?_
      refine a_1 7 (by decide +kernel) rfl rfl (o_dAll rfl rfl rfl (.s .z) rfl rfl rfl ⟨(by (first | exact Ent.refl _ | assumption | repeat' (first | exact Ent.refl _ | exact Ent.nil _ | refine Ent.tak .z ?_ | refine Ent.wk ?_))), ?_⟩)
      refine a_done (by decide +kernel) (s_weak ?_ ?_ (hfin (b3, AR, cR)))
      · repeat' (first | exact Sub.nil _ | refine Sub.cons rfl ?_ | refine Sub.consE rfl ?_ ?_)
      · repeat' (first | exact Ent.nil _ | refine Ent.tak tk ?_)

end Go.Proofs.Ytbfjnldneemmiaa
