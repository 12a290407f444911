/-
  States, parted: first by their rules.
-/
import Derived.Test.YtbfjnldneemmiabL1
import Derived.Test.YtbfjnldneemmiabP1
namespace Go.Proofs.Ytbfjnldneemmiab
set_option linter.all false
open Go.Proofs.Ytbfjnldneemmiab.E

attribute [local irreducible] EVX EVO EVL EV1 NEV
set_option maxRecDepth 10000
set_option maxHeartbeats 2000000

abbrev pI (A : Option Addr) (n c : Nat) (p : List Int) : Asn := osl 3 1 (.slice A n c) n (p.map (Value.int .i64))

theorem mk3 : MKey Try.prog 3 encI := mkey_int Try.underlying3
theorem z3 (w : World) : (zeroValue 3).run Try.prog w = .ok (.int .i64 0) w := by rfl

theorem ruleP {m : Mach} (h : m.Rule.length = m.Next.length) : m.Rule ++ [-1] = ptn m.Next.length (rl m) := by
  apply List.ext_getElem?
  intro i
  by_cases hi : i < m.Next.length
  · rw [List.getElem?_append_left (by omega), ptn_get _ _ (by omega), List.getElem?_eq_getElem (by omega)]
    unfold stOf rl
    rw [if_pos hi, if_neg (by omega), Int.toNat_natCast, getD_lt (by omega)]
  · by_cases h2 : i = m.Next.length
    · subst h2
      rw [List.getElem?_append_right (by omega), ptn_get _ _ (by omega), h, Nat.sub_self]
      unfold stOf; rw [if_neg (by omega)]; rfl
    · rw [List.getElem?_eq_none (by simp; omega), List.getElem?_eq_none (by rw [ptn_len]; omega)]

theorem first_p_w (cs : List Value) (m : Mach) (o : MOk m) : Trip Try.prog 21 [.agg cs.toArray] (kDfa.rd cs m) []
    (fun v V => ∃ (A : Option Addr) (c : Nat), v = .slice A (m.Next.length + 1) c ∧ V = [pI A (m.Next.length + 1) c (firstP m)]) := by
  refine trip Try.tabOk Try.func21 rfl rfl rfl rfl ?_
  intro w SM hR
  obtain ⟨A1, A2, c1, c2, rfl, hD⟩ := kDfa_open hR
  have hn0 := o.n0
  have hn1 := o.n1
  have hrl := o.r
  have hRc := hD.rule.1
  obtain ⟨b, oo, es, rfl, hb, _, _⟩ := hD.rule.2.2 0 (by omega)
  repeat' (first | refine e_nil ?_ | ((first | refine e_op ?_ | refine e_yes rfl ?_); (first | refine o_dNew rfl rfl rfl (fun _ => ?_) | refine o_dNew0 rfl rfl rfl (fun _ => ?_) | refine dAll rfl rfl rfl td uc rfl rfl rfl ?_ | refine dS rfl rfl rfl rfl rfl rfl rfl td uc rfl ?_ | refine o_n (n_b26 rfl rfl) rfl ?_ | refine o_n (n_b26NR rfl rfl rfl rfl rfl) rfl ?_ | refine o_n (n_b26R rfl rfl rfl rfl) rfl ?_ | refine o_n (n_b26CR rfl rfl rfl rfl) rfl ?_ | refine o_n (n_b91 rfl rfl rfl rfl rfl rfl) rfl ?_ | refine o_n (peval_sound rfl) rfl ?_ | refine o_n (nl rfl rfl tc rfl) rfl ?_ | refine o_n (dR rfl rfl td rfl rfl rfl) rfl ?_ | refine o_n (dA rfl rfl td rfl rfl) rfl ?_ | refine o_n (dK rfl rfl td rfl rfl) rfl ?_ | refine o_storeC rfl rfl rfl rfl tc uc rfl rfl rfl ?_ | refine o_box rfl rfl (fun _ => ?_) | refine o_box1 rfl rfl rfl (fun _ => ?_) | refine o_alloc rfl rfl (fun _ => ?_))) | refine e_noU rfl rfl rfl ?_ | refine e_noN rfl rfl ?_ | refine s_seq ?_ | refine s_region ?_ | refine s_block ?_ | refine s_end ?_ | refine s_skip ?_ | refine s_exit ?_ | refine s_true rfl ?_ | refine s_false rfl ?_ | refine x_hit ?_ | refine x_code ?_ | refine x_back ?_ | refine x_miss rfl ?_)
  rename_i b1
  refine e_op (o_newMap encI rfl (fun bm => ?_))
  repeat' (first | refine e_nil ?_ | ((first | refine e_op ?_ | refine e_yes rfl ?_); (first | refine o_dNew rfl rfl rfl (fun _ => ?_) | refine o_dNew0 rfl rfl rfl (fun _ => ?_) | refine dAll rfl rfl rfl td uc rfl rfl rfl ?_ | refine dS rfl rfl rfl rfl rfl rfl rfl td uc rfl ?_ | refine o_n (n_b26 rfl rfl) rfl ?_ | refine o_n (n_b26NR rfl rfl rfl rfl rfl) rfl ?_ | refine o_n (n_b26R rfl rfl rfl rfl) rfl ?_ | refine o_n (n_b26CR rfl rfl rfl rfl) rfl ?_ | refine o_n (n_b91 rfl rfl rfl rfl rfl rfl) rfl ?_ | refine o_n (peval_sound rfl) rfl ?_ | refine o_n (nl rfl rfl tc rfl) rfl ?_ | refine o_n (dR rfl rfl td rfl rfl rfl) rfl ?_ | refine o_n (dA rfl rfl td rfl rfl) rfl ?_ | refine o_n (dK rfl rfl td rfl rfl) rfl ?_ | refine o_storeC rfl rfl rfl rfl tc uc rfl rfl rfl ?_ | refine o_box rfl rfl (fun _ => ?_) | refine o_box1 rfl rfl rfl (fun _ => ?_) | refine o_alloc rfl rfl (fun _ => ?_))) | refine e_noU rfl rfl rfl ?_ | refine e_noN rfl rfl ?_ | refine s_seq ?_ | refine s_region ?_ | refine s_block ?_ | refine s_end ?_ | refine s_skip ?_ | refine s_exit ?_ | refine s_true rfl ?_ | refine s_false rfl ?_ | refine x_hit ?_ | refine x_code ?_ | refine x_back ?_ | refine x_miss rfl ?_)
  refine e_op (o_make0 rfl rfl rfl rfl (m.Rule.length + 1) (by rw [wrap_i64 (by omega) (by omega)]; rfl) (by simp only; omega) (by omega) rfl (fun bp => ?_))
  repeat' (first | refine e_nil ?_ | ((first | refine e_op ?_ | refine e_yes rfl ?_); (first | refine o_dNew rfl rfl rfl (fun _ => ?_) | refine o_dNew0 rfl rfl rfl (fun _ => ?_) | refine dAll rfl rfl rfl td uc rfl rfl rfl ?_ | refine dS rfl rfl rfl rfl rfl rfl rfl td uc rfl ?_ | refine o_n (n_b26 rfl rfl) rfl ?_ | refine o_n (n_b26NR rfl rfl rfl rfl rfl) rfl ?_ | refine o_n (n_b26R rfl rfl rfl rfl) rfl ?_ | refine o_n (n_b26CR rfl rfl rfl rfl) rfl ?_ | refine o_n (n_b91 rfl rfl rfl rfl rfl rfl) rfl ?_ | refine o_n (peval_sound rfl) rfl ?_ | refine o_n (nl rfl rfl tc rfl) rfl ?_ | refine o_n (dR rfl rfl td rfl rfl rfl) rfl ?_ | refine o_n (dA rfl rfl td rfl rfl) rfl ?_ | refine o_n (dK rfl rfl td rfl rfl) rfl ?_ | refine o_storeC rfl rfl rfl rfl tc uc rfl rfl rfl ?_ | refine o_box rfl rfl (fun _ => ?_) | refine o_box1 rfl rfl rfl (fun _ => ?_) | refine o_alloc rfl rfl (fun _ => ?_))) | refine e_noU rfl rfl rfl ?_ | refine e_noN rfl rfl ?_ | refine s_seq ?_ | refine s_region ?_ | refine s_block ?_ | refine s_end ?_ | refine s_skip ?_ | refine s_exit ?_ | refine s_true rfl ?_ | refine s_false rfl ?_ | refine x_hit ?_ | refine x_code ?_ | refine x_back ?_ | refine x_miss rfl ?_)
  refine e_op (o_n (n_full rfl rfl rfl rfl rfl rfl rfl hRc) rfl ?_)
  refine e_op (o_lit (ps := [(0, .int .i64 (-1))]) (cs := [.int .i64 (-1)]) rfl rfl rfl rfl rfl rfl rfl (fun bl => ?_))
  refine e_op (o_appendG (xs := m.Rule.map (Value.int .i64)) (news := [.int .i64 (-1)]) rfl rfl rfl rfl (ro_cells hD.rule.2.2) (by simp) (fun w hw j u hu => ?_) rfl rfl (by omega) (by simp only; omega) (by omega) rfl (fun ba ca => ?_))
  · obtain ⟨S1, hP, _⟩ := hw.tak Tak.z
    rw [Nat.zero_add]
    exact osl_cells hP j u hu
  have hL : m.Rule.map (Value.int .i64) ++ [.int .i64 (-1)] = (ptn m.Next.length (rl m)).map (Value.int .i64) := by rw [← ruleP o.r, List.map_append]; rfl
  rw [hL, hrl]
  generalize hLL : ptn m.Next.length (rl m) = L
  have hll : L.length = m.Next.length + 1 := by rw [← hLL, ptn_len]
  repeat' (first | refine e_nil ?_ | ((first | refine e_op ?_ | refine e_yes rfl ?_); (first | refine o_dNew rfl rfl rfl (fun _ => ?_) | refine o_dNew0 rfl rfl rfl (fun _ => ?_) | refine dAll rfl rfl rfl td uc rfl rfl rfl ?_ | refine dS rfl rfl rfl rfl rfl rfl rfl td uc rfl ?_ | refine o_n (n_b26 rfl rfl) rfl ?_ | refine o_n (n_b26NR rfl rfl rfl rfl rfl) rfl ?_ | refine o_n (n_b26R rfl rfl rfl rfl) rfl ?_ | refine o_n (n_b26CR rfl rfl rfl rfl) rfl ?_ | refine o_n (n_b91 rfl rfl rfl rfl rfl rfl) rfl ?_ | refine o_n (peval_sound rfl) rfl ?_ | refine o_n (nl rfl rfl tc rfl) rfl ?_ | refine o_n (dR rfl rfl td rfl rfl rfl) rfl ?_ | refine o_n (dA rfl rfl td rfl rfl) rfl ?_ | refine o_n (dK rfl rfl td rfl rfl) rfl ?_ | refine o_storeC rfl rfl rfl rfl tc uc rfl rfl rfl ?_ | refine o_box rfl rfl (fun _ => ?_) | refine o_box1 rfl rfl rfl (fun _ => ?_) | refine o_alloc rfl rfl (fun _ => ?_))) | refine e_noU rfl rfl rfl ?_ | refine e_noN rfl rfl ?_ | refine s_seq ?_ | refine s_region ?_ | refine s_block ?_ | refine s_end ?_ | refine s_skip ?_ | refine s_exit ?_ | refine s_true rfl ?_ | refine s_false rfl ?_ | refine x_hit ?_ | refine x_code ?_ | refine x_back ?_ | refine x_miss rfl ?_)
  refine s_loopK (ι := {x : Nat × Option Addr × Nat // x.1 ≤ m.Next.length + 1}) [3, 25, 26] rfl ⟨(0, some ⟨bp, 0, none⟩, m.Next.length + 1), by simp⟩ (fun x => [(27, .int .i64 x.1.1), (4, .slice x.1.2.1 x.1.1 x.1.2.2)])
    (fun x => [pI (some ⟨ba, 0, none⟩) (m.Next.length + 1) ca L, pI x.1.2.1 x.1.1 x.1.2.2 (nmI (L.take x.1.1)), mapA encI bm (asG (uq (L.take x.1.1)))]) (fun x => m.Next.length + 1 - x.1.1) ?_ ?_ ?_
  · repeat' (first | exact Sub.nil _ | refine Sub.cons rfl ?_ | refine Sub.consE rfl ?_ ?_)
  · refine Ent.tak .z (Ent.tak (.s .z) (Ent.tak (.s .z) (Ent.nil _)))
  rintro ⟨⟨i, Ap, cp⟩, hi⟩
  simp only at hi ⊢
  repeat' (first | refine e_nil ?_ | ((first | refine e_op ?_ | refine e_yes rfl ?_); (first | refine o_dNew rfl rfl rfl (fun _ => ?_) | refine o_dNew0 rfl rfl rfl (fun _ => ?_) | refine dAll rfl rfl rfl td uc rfl rfl rfl ?_ | refine dS rfl rfl rfl rfl rfl rfl rfl td uc rfl ?_ | refine o_n (n_b26 rfl rfl) rfl ?_ | refine o_n (n_b26NR rfl rfl rfl rfl rfl) rfl ?_ | refine o_n (n_b26R rfl rfl rfl rfl) rfl ?_ | refine o_n (n_b26CR rfl rfl rfl rfl) rfl ?_ | refine o_n (n_b91 rfl rfl rfl rfl rfl rfl) rfl ?_ | refine o_n (peval_sound rfl) rfl ?_ | refine o_n (nl rfl rfl tc rfl) rfl ?_ | refine o_n (dR rfl rfl td rfl rfl rfl) rfl ?_ | refine o_n (dA rfl rfl td rfl rfl) rfl ?_ | refine o_n (dK rfl rfl td rfl rfl) rfl ?_ | refine o_storeC rfl rfl rfl rfl tc uc rfl rfl rfl ?_ | refine o_box rfl rfl (fun _ => ?_) | refine o_box1 rfl rfl rfl (fun _ => ?_) | refine o_alloc rfl rfl (fun _ => ?_))) | refine e_noU rfl rfl rfl ?_ | refine e_noN rfl rfl ?_ | refine s_seq ?_ | refine s_region ?_ | refine s_block ?_ | refine s_end ?_ | refine s_skip ?_ | refine s_exit ?_ | refine s_true rfl ?_ | refine s_false rfl ?_ | refine x_hit ?_ | refine x_code ?_ | refine x_back ?_ | refine x_miss rfl ?_)
  refine s_cond rfl (fun h => ?_) (fun h => ?_)
  · have hlt : i < m.Next.length + 1 := by have := of_decide_eq_true h; omega
    clear h
    have hil : i < L.length := by omega
    have htk : L.take (i + 1) = L.take i ++ [L[i]] := List.take_succ_eq_append_getElem hil
    have hsz : (uq (L.take i)).length ≤ i := by have := cq_le (L.take i); unfold cq at this; rw [List.length_take] at this; omega
    repeat' (first | refine e_nil ?_ | ((first | refine e_op ?_ | refine e_yes rfl ?_); (first | refine o_dNew rfl rfl rfl (fun _ => ?_) | refine o_dNew0 rfl rfl rfl (fun _ => ?_) | refine dAll rfl rfl rfl td uc rfl rfl rfl ?_ | refine dS rfl rfl rfl rfl rfl rfl rfl td uc rfl ?_ | refine o_n (n_b26 rfl rfl) rfl ?_ | refine o_n (n_b26NR rfl rfl rfl rfl rfl) rfl ?_ | refine o_n (n_b26R rfl rfl rfl rfl) rfl ?_ | refine o_n (n_b26CR rfl rfl rfl rfl) rfl ?_ | refine o_n (n_b91 rfl rfl rfl rfl rfl rfl) rfl ?_ | refine o_n (peval_sound rfl) rfl ?_ | refine o_n (nl rfl rfl tc rfl) rfl ?_ | refine o_n (dR rfl rfl td rfl rfl rfl) rfl ?_ | refine o_n (dA rfl rfl td rfl rfl) rfl ?_ | refine o_n (dK rfl rfl td rfl rfl) rfl ?_ | refine o_storeC rfl rfl rfl rfl tc uc rfl rfl rfl ?_ | refine o_box rfl rfl (fun _ => ?_) | refine o_box1 rfl rfl rfl (fun _ => ?_) | refine o_alloc rfl rfl (fun _ => ?_))) | refine e_noU rfl rfl rfl ?_ | refine e_noN rfl rfl ?_ | refine s_seq ?_ | refine s_region ?_ | refine s_block ?_ | refine s_end ?_ | refine s_skip ?_ | refine s_exit ?_ | refine s_true rfl ?_ | refine s_false rfl ?_ | refine x_hit ?_ | refine x_code ?_ | refine x_back ?_ | refine x_miss rfl ?_)
    refine e_op (o_n (n_index rfl rfl rfl rfl i rfl hlt) rfl ?_)
    refine e_op (o_n (n_load_osl (v := .int .i64 L[i]) rfl rfl .z (by simp [loadL, aggB, hil])) rfl ?_)
    repeat' (first | refine e_nil ?_ | ((first | refine e_op ?_ | refine e_yes rfl ?_); (first | refine o_dNew rfl rfl rfl (fun _ => ?_) | refine o_dNew0 rfl rfl rfl (fun _ => ?_) | refine dAll rfl rfl rfl td uc rfl rfl rfl ?_ | refine dS rfl rfl rfl rfl rfl rfl rfl td uc rfl ?_ | refine o_n (n_b26 rfl rfl) rfl ?_ | refine o_n (n_b26NR rfl rfl rfl rfl rfl) rfl ?_ | refine o_n (n_b26R rfl rfl rfl rfl) rfl ?_ | refine o_n (n_b26CR rfl rfl rfl rfl) rfl ?_ | refine o_n (n_b91 rfl rfl rfl rfl rfl rfl) rfl ?_ | refine o_n (peval_sound rfl) rfl ?_ | refine o_n (nl rfl rfl tc rfl) rfl ?_ | refine o_n (dR rfl rfl td rfl rfl rfl) rfl ?_ | refine o_n (dA rfl rfl td rfl rfl) rfl ?_ | refine o_n (dK rfl rfl td rfl rfl) rfl ?_ | refine o_storeC rfl rfl rfl rfl tc uc rfl rfl rfl ?_ | refine o_box rfl rfl (fun _ => ?_) | refine o_box1 rfl rfl rfl (fun _ => ?_) | refine o_alloc rfl rfl (fun _ => ?_))) | refine e_noU rfl rfl rfl ?_ | refine e_noN rfl rfl ?_ | refine s_seq ?_ | refine s_region ?_ | refine s_block ?_ | refine s_end ?_ | refine s_skip ?_ | refine s_exit ?_ | refine s_true rfl ?_ | refine s_false rfl ?_ | refine x_hit ?_ | refine x_code ?_ | refine x_back ?_ | refine x_miss rfl ?_)
    by_cases hin : L[i] ∈ uq (L.take i)
    · refine e_op (o_n (n_g2_in hin rfl mk3 z3 rfl rfl rfl (.s (.s .z))) rfl ?_)
      repeat' (first | refine e_nil ?_ | ((first | refine e_op ?_ | refine e_yes rfl ?_); (first | refine o_dNew rfl rfl rfl (fun _ => ?_) | refine o_dNew0 rfl rfl rfl (fun _ => ?_) | refine dAll rfl rfl rfl td uc rfl rfl rfl ?_ | refine dS rfl rfl rfl rfl rfl rfl rfl td uc rfl ?_ | refine o_n (n_b26 rfl rfl) rfl ?_ | refine o_n (n_b26NR rfl rfl rfl rfl rfl) rfl ?_ | refine o_n (n_b26R rfl rfl rfl rfl) rfl ?_ | refine o_n (n_b26CR rfl rfl rfl rfl) rfl ?_ | refine o_n (n_b91 rfl rfl rfl rfl rfl rfl) rfl ?_ | refine o_n (peval_sound rfl) rfl ?_ | refine o_n (nl rfl rfl tc rfl) rfl ?_ | refine o_n (dR rfl rfl td rfl rfl rfl) rfl ?_ | refine o_n (dA rfl rfl td rfl rfl) rfl ?_ | refine o_n (dK rfl rfl td rfl rfl) rfl ?_ | refine o_storeC rfl rfl rfl rfl tc uc rfl rfl rfl ?_ | refine o_box rfl rfl (fun _ => ?_) | refine o_box1 rfl rfl rfl (fun _ => ?_) | refine o_alloc rfl rfl (fun _ => ?_))) | refine e_noU rfl rfl rfl ?_ | refine e_noN rfl rfl ?_ | refine s_seq ?_ | refine s_region ?_ | refine s_block ?_ | refine s_end ?_ | refine s_skip ?_ | refine s_exit ?_ | refine s_true rfl ?_ | refine s_false rfl ?_ | refine x_hit ?_ | refine x_code ?_ | refine x_back ?_ | refine x_miss rfl ?_)
      refine e_op (o_n (n_g_in hin rfl mk3 z3 rfl rfl rfl (.s (.s .z))) rfl ?_)
      have hu : uq (L.take (i + 1)) = uq (L.take i) := by rw [htk, uq_snoc]; unfold uqS; rw [if_pos hin]
      have hn : nmI (L.take (i + 1)) = nmI (L.take i) ++ [((ix (uq (L.take i)) L[i] : Nat) : Int)] := by rw [htk, nmI_snoc]; unfold uqS; rw [if_pos hin]
      refine e_op (o_lit (ps := [(0, .int .i64 (ix (uq (L.take i)) L[i] : Nat))]) (cs := [.int .i64 (ix (uq (L.take i)) L[i] : Nat)]) rfl rfl rfl rfl rfl rfl rfl (fun bl2 => ?_))
      refine e_op (o_append (v := .slice Ap i cp) (n := i) (m := 1) (news := [.int .i64 (ix (uq (L.take i)) L[i] : Nat)]) _ rfl rfl rfl rfl (fun w hm j u hu => ?_) rfl ?_ rfl (by omega) (by simp only; omega) (by omega) rfl (fun b c => .s (.s .z)) (fun bb cc => ?_))
      · obtain ⟨S1, hP, _⟩ := hm.tak Tak.z
        rw [Nat.zero_add]
        exact osl_cells hP j u hu
      · intro u hu
        simp only [List.mem_cons, List.not_mem_nil, or_false] at hu
        subst hu; rfl
      repeat' (first | refine e_nil ?_ | ((first | refine e_op ?_ | refine e_yes rfl ?_); (first | refine o_dNew rfl rfl rfl (fun _ => ?_) | refine o_dNew0 rfl rfl rfl (fun _ => ?_) | refine dAll rfl rfl rfl td uc rfl rfl rfl ?_ | refine dS rfl rfl rfl rfl rfl rfl rfl td uc rfl ?_ | refine o_n (n_b26 rfl rfl) rfl ?_ | refine o_n (n_b26NR rfl rfl rfl rfl rfl) rfl ?_ | refine o_n (n_b26R rfl rfl rfl rfl) rfl ?_ | refine o_n (n_b26CR rfl rfl rfl rfl) rfl ?_ | refine o_n (n_b91 rfl rfl rfl rfl rfl rfl) rfl ?_ | refine o_n (peval_sound rfl) rfl ?_ | refine o_n (nl rfl rfl tc rfl) rfl ?_ | refine o_n (dR rfl rfl td rfl rfl rfl) rfl ?_ | refine o_n (dA rfl rfl td rfl rfl) rfl ?_ | refine o_n (dK rfl rfl td rfl rfl) rfl ?_ | refine o_storeC rfl rfl rfl rfl tc uc rfl rfl rfl ?_ | refine o_box rfl rfl (fun _ => ?_) | refine o_box1 rfl rfl rfl (fun _ => ?_) | refine o_alloc rfl rfl (fun _ => ?_))) | refine e_noU rfl rfl rfl ?_ | refine e_noN rfl rfl ?_ | refine s_seq ?_ | refine s_region ?_ | refine s_block ?_ | refine s_end ?_ | refine s_skip ?_ | refine s_exit ?_ | refine s_true rfl ?_ | refine s_false rfl ?_ | refine x_hit ?_ | refine x_code ?_ | refine x_back ?_ | refine x_miss rfl ?_)
      refine s_back ⟨⟨(i + 1, some ⟨bb, 0, none⟩, cc), by simp only; omega⟩, by simp only; omega, ?_, ?_⟩
      · repeat' (first | exact Sub.nil _ | refine Sub.cons rfl ?_ | refine Sub.consE rfl ?_ ?_)
        exact inc (i := i) (by omega)
      · simp only [hu, hn, pI, List.map_append, List.map_cons, List.map_nil]
        exact Ent.wk (Ent.refl _)
    · refine e_op (o_n (n_g2_out hin rfl mk3 z3 rfl rfl rfl (.s (.s .z))) rfl ?_)
      repeat' (first | refine e_nil ?_ | ((first | refine e_op ?_ | refine e_yes rfl ?_); (first | refine o_dNew rfl rfl rfl (fun _ => ?_) | refine o_dNew0 rfl rfl rfl (fun _ => ?_) | refine dAll rfl rfl rfl td uc rfl rfl rfl ?_ | refine dS rfl rfl rfl rfl rfl rfl rfl td uc rfl ?_ | refine o_n (n_b26 rfl rfl) rfl ?_ | refine o_n (n_b26NR rfl rfl rfl rfl rfl) rfl ?_ | refine o_n (n_b26R rfl rfl rfl rfl) rfl ?_ | refine o_n (n_b26CR rfl rfl rfl rfl) rfl ?_ | refine o_n (n_b91 rfl rfl rfl rfl rfl rfl) rfl ?_ | refine o_n (peval_sound rfl) rfl ?_ | refine o_n (nl rfl rfl tc rfl) rfl ?_ | refine o_n (dR rfl rfl td rfl rfl rfl) rfl ?_ | refine o_n (dA rfl rfl td rfl rfl) rfl ?_ | refine o_n (dK rfl rfl td rfl rfl) rfl ?_ | refine o_storeC rfl rfl rfl rfl tc uc rfl rfl rfl ?_ | refine o_box rfl rfl (fun _ => ?_) | refine o_box1 rfl rfl rfl (fun _ => ?_) | refine o_alloc rfl rfl (fun _ => ?_))) | refine e_noU rfl rfl rfl ?_ | refine e_noN rfl rfl ?_ | refine s_seq ?_ | refine s_region ?_ | refine s_block ?_ | refine s_end ?_ | refine s_skip ?_ | refine s_exit ?_ | refine s_true rfl ?_ | refine s_false rfl ?_ | refine x_hit ?_ | refine x_code ?_ | refine x_back ?_ | refine x_miss rfl ?_)
      refine e_op (o_n (n_glen rfl rfl (.s (.s .z))) rfl ?_)
      refine e_op (o_gup (k := L[i]) hin rfl mk3 rfl rfl rfl rfl (.s (.s .z)) ?_)
      repeat' (first | refine e_nil ?_ | ((first | refine e_op ?_ | refine e_yes rfl ?_); (first | refine o_dNew rfl rfl rfl (fun _ => ?_) | refine o_dNew0 rfl rfl rfl (fun _ => ?_) | refine dAll rfl rfl rfl td uc rfl rfl rfl ?_ | refine dS rfl rfl rfl rfl rfl rfl rfl td uc rfl ?_ | refine o_n (n_b26 rfl rfl) rfl ?_ | refine o_n (n_b26NR rfl rfl rfl rfl rfl) rfl ?_ | refine o_n (n_b26R rfl rfl rfl rfl) rfl ?_ | refine o_n (n_b26CR rfl rfl rfl rfl) rfl ?_ | refine o_n (n_b91 rfl rfl rfl rfl rfl rfl) rfl ?_ | refine o_n (peval_sound rfl) rfl ?_ | refine o_n (nl rfl rfl tc rfl) rfl ?_ | refine o_n (dR rfl rfl td rfl rfl rfl) rfl ?_ | refine o_n (dA rfl rfl td rfl rfl) rfl ?_ | refine o_n (dK rfl rfl td rfl rfl) rfl ?_ | refine o_storeC rfl rfl rfl rfl tc uc rfl rfl rfl ?_ | refine o_box rfl rfl (fun _ => ?_) | refine o_box1 rfl rfl rfl (fun _ => ?_) | refine o_alloc rfl rfl (fun _ => ?_))) | refine e_noU rfl rfl rfl ?_ | refine e_noN rfl rfl ?_ | refine s_seq ?_ | refine s_region ?_ | refine s_block ?_ | refine s_end ?_ | refine s_skip ?_ | refine s_exit ?_ | refine s_true rfl ?_ | refine s_false rfl ?_ | refine x_hit ?_ | refine x_code ?_ | refine x_back ?_ | refine x_miss rfl ?_)
      have hin2 : L[i] ∈ uq (L.take i) ++ [L[i]] := by simp
      refine e_op (o_n (n_g_in hin2 rfl mk3 z3 rfl rfl rfl (.s (.s .z))) rfl ?_)
      have hu : uq (L.take (i + 1)) = uq (L.take i) ++ [L[i]] := by rw [htk, uq_snoc]; unfold uqS; rw [if_neg hin]
      have hn : nmI (L.take (i + 1)) = nmI (L.take i) ++ [((ix (uq (L.take i) ++ [L[i]]) L[i] : Nat) : Int)] := by rw [htk, nmI_snoc]; unfold uqS; rw [if_neg hin]
      refine e_op (o_lit (ps := [(0, .int .i64 (ix (uq (L.take i) ++ [L[i]]) L[i] : Nat))]) (cs := [.int .i64 (ix (uq (L.take i) ++ [L[i]]) L[i] : Nat)]) rfl rfl rfl rfl rfl rfl rfl (fun bl2 => ?_))
      refine e_op (o_append (v := .slice Ap i cp) (n := i) (m := 1) (news := [.int .i64 (ix (uq (L.take i) ++ [L[i]]) L[i] : Nat)]) _ rfl rfl rfl rfl (fun w hm j u hu => ?_) rfl ?_ rfl (by omega) (by simp only; omega) (by omega) rfl (fun b c => .s (.s .z)) (fun bb cc => ?_))
      · obtain ⟨S1, hP, _⟩ := hm.tak Tak.z
        rw [Nat.zero_add]
        exact osl_cells hP j u hu
      · intro u hu
        simp only [List.mem_cons, List.not_mem_nil, or_false] at hu
        subst hu; rfl
      repeat' (first | refine e_nil ?_ | ((first | refine e_op ?_ | refine e_yes rfl ?_); (first | refine o_dNew rfl rfl rfl (fun _ => ?_) | refine o_dNew0 rfl rfl rfl (fun _ => ?_) | refine dAll rfl rfl rfl td uc rfl rfl rfl ?_ | refine dS rfl rfl rfl rfl rfl rfl rfl td uc rfl ?_ | refine o_n (n_b26 rfl rfl) rfl ?_ | refine o_n (n_b26NR rfl rfl rfl rfl rfl) rfl ?_ | refine o_n (n_b26R rfl rfl rfl rfl) rfl ?_ | refine o_n (n_b26CR rfl rfl rfl rfl) rfl ?_ | refine o_n (n_b91 rfl rfl rfl rfl rfl rfl) rfl ?_ | refine o_n (peval_sound rfl) rfl ?_ | refine o_n (nl rfl rfl tc rfl) rfl ?_ | refine o_n (dR rfl rfl td rfl rfl rfl) rfl ?_ | refine o_n (dA rfl rfl td rfl rfl) rfl ?_ | refine o_n (dK rfl rfl td rfl rfl) rfl ?_ | refine o_storeC rfl rfl rfl rfl tc uc rfl rfl rfl ?_ | refine o_box rfl rfl (fun _ => ?_) | refine o_box1 rfl rfl rfl (fun _ => ?_) | refine o_alloc rfl rfl (fun _ => ?_))) | refine e_noU rfl rfl rfl ?_ | refine e_noN rfl rfl ?_ | refine s_seq ?_ | refine s_region ?_ | refine s_block ?_ | refine s_end ?_ | refine s_skip ?_ | refine s_exit ?_ | refine s_true rfl ?_ | refine s_false rfl ?_ | refine x_hit ?_ | refine x_code ?_ | refine x_back ?_ | refine x_miss rfl ?_)
      refine s_back ⟨⟨(i + 1, some ⟨bb, 0, none⟩, cc), by simp only; omega⟩, by simp only; omega, ?_, ?_⟩
      · repeat' (first | exact Sub.nil _ | refine Sub.cons rfl ?_ | refine Sub.consE rfl ?_ ?_)
        exact inc (i := i) (by omega)
      · simp only [hu, hn, pI, List.map_append, List.map_cons, List.map_nil]
        exact Ent.wk (Ent.refl _)
  have hge : i = m.Next.length + 1 := by have := of_decide_eq_false h; omega
  subst hge
  clear h
  repeat' (first | refine e_nil ?_ | ((first | refine e_op ?_ | refine e_yes rfl ?_); (first | refine o_dNew rfl rfl rfl (fun _ => ?_) | refine o_dNew0 rfl rfl rfl (fun _ => ?_) | refine dAll rfl rfl rfl td uc rfl rfl rfl ?_ | refine dS rfl rfl rfl rfl rfl rfl rfl td uc rfl ?_ | refine o_n (n_b26 rfl rfl) rfl ?_ | refine o_n (n_b26NR rfl rfl rfl rfl rfl) rfl ?_ | refine o_n (n_b26R rfl rfl rfl rfl) rfl ?_ | refine o_n (n_b26CR rfl rfl rfl rfl) rfl ?_ | refine o_n (n_b91 rfl rfl rfl rfl rfl rfl) rfl ?_ | refine o_n (peval_sound rfl) rfl ?_ | refine o_n (nl rfl rfl tc rfl) rfl ?_ | refine o_n (dR rfl rfl td rfl rfl rfl) rfl ?_ | refine o_n (dA rfl rfl td rfl rfl) rfl ?_ | refine o_n (dK rfl rfl td rfl rfl) rfl ?_ | refine o_storeC rfl rfl rfl rfl tc uc rfl rfl rfl ?_ | refine o_box rfl rfl (fun _ => ?_) | refine o_box1 rfl rfl rfl (fun _ => ?_) | refine o_alloc rfl rfl (fun _ => ?_))) | refine e_noU rfl rfl rfl ?_ | refine e_noN rfl rfl ?_ | refine s_seq ?_ | refine s_region ?_ | refine s_block ?_ | refine s_end ?_ | refine s_skip ?_ | refine s_exit ?_ | refine s_true rfl ?_ | refine s_false rfl ?_ | refine x_hit ?_ | refine x_code ?_ | refine x_back ?_ | refine x_miss rfl ?_)
  refine s_ret ⟨_, _, res1 rfl rfl, ⟨_, _, rfl, rfl⟩, ?_⟩
  have e : firstP m = nmI (L.take (m.Next.length + 1)) := by unfold firstP; rw [hLL, List.take_of_length_le (by omega)]
  rw [e]
  exact Ent.tak (.s .z) (Ent.nil _)

theorem of_w (A : Option Addr) (n c : Nat) (p : List Int) (s : Int) (hl : p.length = n) (hs : s = -1 ∨ (0 ≤ s ∧ s < n)) (hn : 0 < n) (hn2 : n < 9223372036854775807) :
    Trip Try.prog 17 [.slice A n c, .int .i64 s] ((kslice 8 kint).rd [.slice A n c] p) [] (fun v V => v = .int .i64 (pOf p s) ∧ V = []) := by
  subst hl
  refine trip Try.tabOk Try.func17 rfl rfl rfl rfl ?_
  rintro w SM ⟨A', c', e, h1, h2, h3⟩
  cases e
  repeat' (first | refine e_nil ?_ | ((first | refine e_op ?_ | refine e_yes rfl ?_); (first | refine o_dNew rfl rfl rfl (fun _ => ?_) | refine o_dNew0 rfl rfl rfl (fun _ => ?_) | refine dAll rfl rfl rfl td uc rfl rfl rfl ?_ | refine dS rfl rfl rfl rfl rfl rfl rfl td uc rfl ?_ | refine o_n (n_b26 rfl rfl) rfl ?_ | refine o_n (n_b26NR rfl rfl rfl rfl rfl) rfl ?_ | refine o_n (n_b26R rfl rfl rfl rfl) rfl ?_ | refine o_n (n_b26CR rfl rfl rfl rfl) rfl ?_ | refine o_n (n_b91 rfl rfl rfl rfl rfl rfl) rfl ?_ | refine o_n (peval_sound rfl) rfl ?_ | refine o_n (nl rfl rfl tc rfl) rfl ?_ | refine o_n (dR rfl rfl td rfl rfl rfl) rfl ?_ | refine o_n (dA rfl rfl td rfl rfl) rfl ?_ | refine o_n (dK rfl rfl td rfl rfl) rfl ?_ | refine o_storeC rfl rfl rfl rfl tc uc rfl rfl rfl ?_ | refine o_box rfl rfl (fun _ => ?_) | refine o_box1 rfl rfl rfl (fun _ => ?_) | refine o_alloc rfl rfl (fun _ => ?_))) | refine e_noU rfl rfl rfl ?_ | refine e_noN rfl rfl ?_ | refine s_seq ?_ | refine s_region ?_ | refine s_block ?_ | refine s_end ?_ | refine s_skip ?_ | refine s_exit ?_ | refine s_true rfl ?_ | refine s_false rfl ?_ | refine x_hit ?_ | refine x_code ?_ | refine x_back ?_ | refine x_miss rfl ?_)
  refine s_cond rfl (fun h => ?_) (fun h => ?_)
  · have hs1 : s = -1 := by simpa using h
    obtain ⟨b, o, es, rfl, hb, ⟨rfl, _⟩, hc⟩ := h3 (p.length - 1) (by omega)
    repeat' (first | refine e_nil ?_ | ((first | refine e_op ?_ | refine e_yes rfl ?_); (first | refine o_dNew rfl rfl rfl (fun _ => ?_) | refine o_dNew0 rfl rfl rfl (fun _ => ?_) | refine dAll rfl rfl rfl td uc rfl rfl rfl ?_ | refine dS rfl rfl rfl rfl rfl rfl rfl td uc rfl ?_ | refine o_n (n_b26 rfl rfl) rfl ?_ | refine o_n (n_b26NR rfl rfl rfl rfl rfl) rfl ?_ | refine o_n (n_b26R rfl rfl rfl rfl) rfl ?_ | refine o_n (n_b26CR rfl rfl rfl rfl) rfl ?_ | refine o_n (n_b91 rfl rfl rfl rfl rfl rfl) rfl ?_ | refine o_n (peval_sound rfl) rfl ?_ | refine o_n (nl rfl rfl tc rfl) rfl ?_ | refine o_n (dR rfl rfl td rfl rfl rfl) rfl ?_ | refine o_n (dA rfl rfl td rfl rfl) rfl ?_ | refine o_n (dK rfl rfl td rfl rfl) rfl ?_ | refine o_storeC rfl rfl rfl rfl tc uc rfl rfl rfl ?_ | refine o_box rfl rfl (fun _ => ?_) | refine o_box1 rfl rfl rfl (fun _ => ?_) | refine o_alloc rfl rfl (fun _ => ?_))) | refine e_noU rfl rfl rfl ?_ | refine e_noN rfl rfl ?_ | refine s_seq ?_ | refine s_region ?_ | refine s_block ?_ | refine s_end ?_ | refine s_skip ?_ | refine s_exit ?_ | refine s_true rfl ?_ | refine s_false rfl ?_ | refine x_hit ?_ | refine x_code ?_ | refine x_back ?_ | refine x_miss rfl ?_)
    refine e_op (o_n (n_index rfl rfl rfl rfl (p.length - 1) (by rw [wrap_i64 (by omega) (by omega)]; omega) (by omega)) rfl ?_)
    refine e_op (o_n (n_load_ro rfl rfl hb (loads_one rfl (hc 0 _ rfl))) rfl ?_)
    repeat' (first | refine e_nil ?_ | ((first | refine e_op ?_ | refine e_yes rfl ?_); (first | refine o_dNew rfl rfl rfl (fun _ => ?_) | refine o_dNew0 rfl rfl rfl (fun _ => ?_) | refine dAll rfl rfl rfl td uc rfl rfl rfl ?_ | refine dS rfl rfl rfl rfl rfl rfl rfl td uc rfl ?_ | refine o_n (n_b26 rfl rfl) rfl ?_ | refine o_n (n_b26NR rfl rfl rfl rfl rfl) rfl ?_ | refine o_n (n_b26R rfl rfl rfl rfl) rfl ?_ | refine o_n (n_b26CR rfl rfl rfl rfl) rfl ?_ | refine o_n (n_b91 rfl rfl rfl rfl rfl rfl) rfl ?_ | refine o_n (peval_sound rfl) rfl ?_ | refine o_n (nl rfl rfl tc rfl) rfl ?_ | refine o_n (dR rfl rfl td rfl rfl rfl) rfl ?_ | refine o_n (dA rfl rfl td rfl rfl) rfl ?_ | refine o_n (dK rfl rfl td rfl rfl) rfl ?_ | refine o_storeC rfl rfl rfl rfl tc uc rfl rfl rfl ?_ | refine o_box rfl rfl (fun _ => ?_) | refine o_box1 rfl rfl rfl (fun _ => ?_) | refine o_alloc rfl rfl (fun _ => ?_))) | refine e_noU rfl rfl rfl ?_ | refine e_noN rfl rfl ?_ | refine s_seq ?_ | refine s_region ?_ | refine s_block ?_ | refine s_end ?_ | refine s_skip ?_ | refine s_exit ?_ | refine s_true rfl ?_ | refine s_false rfl ?_ | refine x_hit ?_ | refine x_code ?_ | refine x_back ?_ | refine x_miss rfl ?_)
    refine s_ret ⟨_, _, res1 rfl rfl, ⟨?_, rfl⟩, Ent.nil _⟩
    unfold pOf; rw [if_pos hs1, getD_lt (by omega)]
  · have hs1 : ¬ s = -1 := by simpa using h
    have hs2 := hs.resolve_left hs1
    obtain ⟨b, o, es, rfl, hb, ⟨rfl, _⟩, hc⟩ := h3 s.toNat (by omega)
    repeat' (first | refine e_nil ?_ | ((first | refine e_op ?_ | refine e_yes rfl ?_); (first | refine o_dNew rfl rfl rfl (fun _ => ?_) | refine o_dNew0 rfl rfl rfl (fun _ => ?_) | refine dAll rfl rfl rfl td uc rfl rfl rfl ?_ | refine dS rfl rfl rfl rfl rfl rfl rfl td uc rfl ?_ | refine o_n (n_b26 rfl rfl) rfl ?_ | refine o_n (n_b26NR rfl rfl rfl rfl rfl) rfl ?_ | refine o_n (n_b26R rfl rfl rfl rfl) rfl ?_ | refine o_n (n_b26CR rfl rfl rfl rfl) rfl ?_ | refine o_n (n_b91 rfl rfl rfl rfl rfl rfl) rfl ?_ | refine o_n (peval_sound rfl) rfl ?_ | refine o_n (nl rfl rfl tc rfl) rfl ?_ | refine o_n (dR rfl rfl td rfl rfl rfl) rfl ?_ | refine o_n (dA rfl rfl td rfl rfl) rfl ?_ | refine o_n (dK rfl rfl td rfl rfl) rfl ?_ | refine o_storeC rfl rfl rfl rfl tc uc rfl rfl rfl ?_ | refine o_box rfl rfl (fun _ => ?_) | refine o_box1 rfl rfl rfl (fun _ => ?_) | refine o_alloc rfl rfl (fun _ => ?_))) | refine e_noU rfl rfl rfl ?_ | refine e_noN rfl rfl ?_ | refine s_seq ?_ | refine s_region ?_ | refine s_block ?_ | refine s_end ?_ | refine s_skip ?_ | refine s_exit ?_ | refine s_true rfl ?_ | refine s_false rfl ?_ | refine x_hit ?_ | refine x_code ?_ | refine x_back ?_ | refine x_miss rfl ?_)
    refine e_op (o_n (n_index rfl rfl rfl rfl s.toNat (by omega) (by omega)) rfl ?_)
    refine e_op (o_n (n_load_ro rfl rfl hb (loads_one rfl (hc 0 _ rfl))) rfl ?_)
    repeat' (first | refine e_nil ?_ | ((first | refine e_op ?_ | refine e_yes rfl ?_); (first | refine o_dNew rfl rfl rfl (fun _ => ?_) | refine o_dNew0 rfl rfl rfl (fun _ => ?_) | refine dAll rfl rfl rfl td uc rfl rfl rfl ?_ | refine dS rfl rfl rfl rfl rfl rfl rfl td uc rfl ?_ | refine o_n (n_b26 rfl rfl) rfl ?_ | refine o_n (n_b26NR rfl rfl rfl rfl rfl) rfl ?_ | refine o_n (n_b26R rfl rfl rfl rfl) rfl ?_ | refine o_n (n_b26CR rfl rfl rfl rfl) rfl ?_ | refine o_n (n_b91 rfl rfl rfl rfl rfl rfl) rfl ?_ | refine o_n (peval_sound rfl) rfl ?_ | refine o_n (nl rfl rfl tc rfl) rfl ?_ | refine o_n (dR rfl rfl td rfl rfl rfl) rfl ?_ | refine o_n (dA rfl rfl td rfl rfl) rfl ?_ | refine o_n (dK rfl rfl td rfl rfl) rfl ?_ | refine o_storeC rfl rfl rfl rfl tc uc rfl rfl rfl ?_ | refine o_box rfl rfl (fun _ => ?_) | refine o_box1 rfl rfl rfl (fun _ => ?_) | refine o_alloc rfl rfl (fun _ => ?_))) | refine e_noU rfl rfl rfl ?_ | refine e_noN rfl rfl ?_ | refine s_seq ?_ | refine s_region ?_ | refine s_block ?_ | refine s_end ?_ | refine s_skip ?_ | refine s_exit ?_ | refine s_true rfl ?_ | refine s_false rfl ?_ | refine x_hit ?_ | refine x_code ?_ | refine x_back ?_ | refine x_miss rfl ?_)
    refine s_ret ⟨_, _, res1 rfl rfl, ⟨?_, rfl⟩, Ent.nil _⟩
    unfold pOf; rw [if_neg hs1, getD_lt (by omega)]

end Go.Proofs.Ytbfjnldneemmiab
