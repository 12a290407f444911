/-
  The least machine, as the document makes it.
-/
import Derived.Test.YtbfjnldneemmiaaL9
import Derived.Test.YtbfjnldneemmiaaL7
import Derived.Test.YtbfjnldneemmiaaL2
namespace Go.Proofs.Ytbfjnldneemmiaa
set_option linter.all false
open Go.Proofs.Ytbfjnldneemmiaa.E

attribute [local irreducible] EVX EVO EVL EV1 NEV
attribute [local irreducible] own osl exA rdA rdL
set_option maxRecDepth 10000
set_option maxHeartbeats 4000000

theorem C256.set_set (c : C256) (j : Nat) (v w : Int) : (c.set j v).set j w = c.set j w := C256.ext (by simp [C256.set])

theorem refOf_w (cs : List Value) (m : Mach) : Trip Try.prog 20 [.agg cs.toArray] (kDfa.rd cs m) []
    (fun v V => ∃ (A1 A2 : Option Addr) (c1 c2 : Nat), v = .tuple #[resD (ofM m) A1 A2 c1 c2, .int .i64 (checkM m)] ∧ V = ownD (ofM m) A1 A2 c1 c2) := by
  refine trip Try.tabOk Try.func20 rfl rfl rfl rfl ?_
  intro w SM hR
  have hR0 := hR
  obtain ⟨A1, A2, c1, c2, rfl, hD⟩ := kDfa_open hR
  repeat' (first | refine e_nil ?_ | ((first | refine e_op ?_ | refine e_yes rfl ?_); (first | refine o_dNew rfl rfl rfl (fun _ => ?_) | refine o_dNew0 rfl rfl rfl (fun _ => ?_) | refine dAll rfl rfl rfl td uc rfl rfl rfl ?_ | refine dS rfl rfl rfl rfl rfl rfl rfl td uc rfl ?_ | refine o_n (n_b26 rfl rfl) rfl ?_ | refine o_n (n_b26NR rfl rfl rfl rfl rfl) rfl ?_ | refine o_n (n_b26R rfl rfl rfl rfl) rfl ?_ | refine o_n (n_b26CR rfl rfl rfl rfl) rfl ?_ | refine o_n (n_b91 rfl rfl rfl rfl rfl rfl) rfl ?_ | refine o_n (peval_sound rfl) rfl ?_ | refine o_n (nl rfl rfl tc rfl) rfl ?_ | refine o_n (dR rfl rfl td rfl rfl rfl) rfl ?_ | refine o_n (dA rfl rfl td rfl rfl) rfl ?_ | refine o_n (dK rfl rfl td rfl rfl) rfl ?_ | refine o_storeC rfl rfl rfl rfl tc uc rfl rfl rfl ?_ | refine o_box rfl rfl (fun _ => ?_) | refine o_box1 rfl rfl rfl (fun _ => ?_) | refine o_alloc rfl rfl (fun _ => ?_))) | refine e_noU rfl rfl rfl ?_ | refine e_noN rfl rfl ?_ | refine s_seq ?_ | refine s_region ?_ | refine s_block ?_ | refine s_end ?_ | refine s_skip ?_ | refine s_exit ?_ | refine s_true rfl ?_ | refine s_false rfl ?_ | refine x_hit ?_ | refine x_code ?_ | refine x_back ?_ | refine x_miss rfl ?_)
  rename_i b1 b2
  refine e_op (o_call (checkR11_w _ m) rfl .nil (Can.ro hR) rfl ?_)
  rintro v V ⟨rfl, rfl⟩
  simp only [List.nil_append]
  repeat' (first | refine e_nil ?_ | ((first | refine e_op ?_ | refine e_yes rfl ?_); (first | refine o_dNew rfl rfl rfl (fun _ => ?_) | refine o_dNew0 rfl rfl rfl (fun _ => ?_) | refine dAll rfl rfl rfl td uc rfl rfl rfl ?_ | refine dS rfl rfl rfl rfl rfl rfl rfl td uc rfl ?_ | refine o_n (n_b26 rfl rfl) rfl ?_ | refine o_n (n_b26NR rfl rfl rfl rfl rfl) rfl ?_ | refine o_n (n_b26R rfl rfl rfl rfl) rfl ?_ | refine o_n (n_b26CR rfl rfl rfl rfl) rfl ?_ | refine o_n (n_b91 rfl rfl rfl rfl rfl rfl) rfl ?_ | refine o_n (peval_sound rfl) rfl ?_ | refine o_n (nl rfl rfl tc rfl) rfl ?_ | refine o_n (dR rfl rfl td rfl rfl rfl) rfl ?_ | refine o_n (dA rfl rfl td rfl rfl) rfl ?_ | refine o_n (dK rfl rfl td rfl rfl) rfl ?_ | refine o_storeC rfl rfl rfl rfl tc uc rfl rfl rfl ?_ | refine o_box rfl rfl (fun _ => ?_) | refine o_box1 rfl rfl rfl (fun _ => ?_) | refine o_alloc rfl rfl (fun _ => ?_))) | refine e_noU rfl rfl rfl ?_ | refine e_noN rfl rfl ?_ | refine s_seq ?_ | refine s_region ?_ | refine s_block ?_ | refine s_end ?_ | refine s_skip ?_ | refine s_exit ?_ | refine s_true rfl ?_ | refine s_false rfl ?_ | refine x_hit ?_ | refine x_code ?_ | refine x_back ?_ | refine x_miss rfl ?_)
  refine s_cond rfl (fun h => ?_) (fun h => ?_)
  · have hne : checkM m ≠ 0 := by simpa using h
    have e : ofM m = zeroM := by unfold ofM; rw [if_neg hne]
    repeat' (first | refine e_nil ?_ | ((first | refine e_op ?_ | refine e_yes rfl ?_); (first | refine o_dNew rfl rfl rfl (fun _ => ?_) | refine o_dNew0 rfl rfl rfl (fun _ => ?_) | refine dAll rfl rfl rfl td uc rfl rfl rfl ?_ | refine dS rfl rfl rfl rfl rfl rfl rfl td uc rfl ?_ | refine o_n (n_b26 rfl rfl) rfl ?_ | refine o_n (n_b26NR rfl rfl rfl rfl rfl) rfl ?_ | refine o_n (n_b26R rfl rfl rfl rfl) rfl ?_ | refine o_n (n_b26CR rfl rfl rfl rfl) rfl ?_ | refine o_n (n_b91 rfl rfl rfl rfl rfl rfl) rfl ?_ | refine o_n (peval_sound rfl) rfl ?_ | refine o_n (nl rfl rfl tc rfl) rfl ?_ | refine o_n (dR rfl rfl td rfl rfl rfl) rfl ?_ | refine o_n (dA rfl rfl td rfl rfl) rfl ?_ | refine o_n (dK rfl rfl td rfl rfl) rfl ?_ | refine o_storeC rfl rfl rfl rfl tc uc rfl rfl rfl ?_ | refine o_box rfl rfl (fun _ => ?_) | refine o_box1 rfl rfl rfl (fun _ => ?_) | refine o_alloc rfl rfl (fun _ => ?_))) | refine e_noU rfl rfl rfl ?_ | refine e_noN rfl rfl ?_ | refine s_seq ?_ | refine s_region ?_ | refine s_block ?_ | refine s_end ?_ | refine s_skip ?_ | refine s_exit ?_ | refine s_true rfl ?_ | refine s_false rfl ?_ | refine x_hit ?_ | refine x_code ?_ | refine x_back ?_ | refine x_miss rfl ?_)
    refine s_ret ⟨_, _, rescD2 rfl rfl rfl .z rfl rfl rfl, ⟨none, none, 0, 0, ?_, rfl⟩, ?_⟩
    · rw [e]; rfl
    · rw [e]
      exact ent_orow0 (Ent.osl0 (Ent.nil _))
  have he : checkM m = 0 := by simpa using h
  clear h
  have o := check_mok he
  have hn0 := o.n0
  have hn1 := o.n1
  have hal := alM_len m
  repeat' (first | refine e_nil ?_ | ((first | refine e_op ?_ | refine e_yes rfl ?_); (first | refine o_dNew rfl rfl rfl (fun _ => ?_) | refine o_dNew0 rfl rfl rfl (fun _ => ?_) | refine dAll rfl rfl rfl td uc rfl rfl rfl ?_ | refine dS rfl rfl rfl rfl rfl rfl rfl td uc rfl ?_ | refine o_n (n_b26 rfl rfl) rfl ?_ | refine o_n (n_b26NR rfl rfl rfl rfl rfl) rfl ?_ | refine o_n (n_b26R rfl rfl rfl rfl) rfl ?_ | refine o_n (n_b26CR rfl rfl rfl rfl) rfl ?_ | refine o_n (n_b91 rfl rfl rfl rfl rfl rfl) rfl ?_ | refine o_n (peval_sound rfl) rfl ?_ | refine o_n (nl rfl rfl tc rfl) rfl ?_ | refine o_n (dR rfl rfl td rfl rfl rfl) rfl ?_ | refine o_n (dA rfl rfl td rfl rfl) rfl ?_ | refine o_n (dK rfl rfl td rfl rfl) rfl ?_ | refine o_storeC rfl rfl rfl rfl tc uc rfl rfl rfl ?_ | refine o_box rfl rfl (fun _ => ?_) | refine o_box1 rfl rfl rfl (fun _ => ?_) | refine o_alloc rfl rfl (fun _ => ?_))) | refine e_noU rfl rfl rfl ?_ | refine e_noN rfl rfl ?_ | refine s_seq ?_ | refine s_region ?_ | refine s_block ?_ | refine s_end ?_ | refine s_skip ?_ | refine s_exit ?_ | refine s_true rfl ?_ | refine s_false rfl ?_ | refine x_hit ?_ | refine x_code ?_ | refine x_back ?_ | refine x_miss rfl ?_)
  refine e_op (o_call (first_w12 _ m o) rfl .nil (Can.ro hR) rfl ?_)
  rintro v V ⟨Aa, ca, rfl, rfl⟩
  simp only [List.cons_append, List.nil_append]
  have hIa : ∀ x ∈ alM m, I64 x := fun x hx => by
    unfold alM at hx
    obtain ⟨s, hs, rfl⟩ := List.mem_map.1 hx
    have := al_st o (st_nat (List.mem_range.1 hs))
    exact ⟨by have := this.1; omega, by have := this.2; omega⟩
  have hld0 : loadL ⟨.int .i64, 1, 8, [.int .i64 0]⟩ ((alM m).map (Value.int .i64)) (0 + 0 * 1) = some (.int .i64 (al m 0)) := by
    have := alM_get m hn0
    simp [loadL, aggB, this]
  repeat' (first | refine e_nil ?_ | ((first | refine e_op ?_ | refine e_yes rfl ?_); (first | refine o_dNew rfl rfl rfl (fun _ => ?_) | refine o_dNew0 rfl rfl rfl (fun _ => ?_) | refine dAll rfl rfl rfl td uc rfl rfl rfl ?_ | refine dS rfl rfl rfl rfl rfl rfl rfl td uc rfl ?_ | refine o_n (n_b26 rfl rfl) rfl ?_ | refine o_n (n_b26NR rfl rfl rfl rfl rfl) rfl ?_ | refine o_n (n_b26R rfl rfl rfl rfl) rfl ?_ | refine o_n (n_b26CR rfl rfl rfl rfl) rfl ?_ | refine o_n (n_b91 rfl rfl rfl rfl rfl rfl) rfl ?_ | refine o_n (peval_sound rfl) rfl ?_ | refine o_n (nl rfl rfl tc rfl) rfl ?_ | refine o_n (dR rfl rfl td rfl rfl rfl) rfl ?_ | refine o_n (dA rfl rfl td rfl rfl) rfl ?_ | refine o_n (dK rfl rfl td rfl rfl) rfl ?_ | refine o_storeC rfl rfl rfl rfl tc uc rfl rfl rfl ?_ | refine o_box rfl rfl (fun _ => ?_) | refine o_box1 rfl rfl rfl (fun _ => ?_) | refine o_alloc rfl rfl (fun _ => ?_))) | refine e_noU rfl rfl rfl ?_ | refine e_noN rfl rfl ?_ | refine s_seq ?_ | refine s_region ?_ | refine s_block ?_ | refine s_end ?_ | refine s_skip ?_ | refine s_exit ?_ | refine s_true rfl ?_ | refine s_false rfl ?_ | refine x_hit ?_ | refine x_code ?_ | refine x_back ?_ | refine x_miss rfl ?_)
  refine e_open .z hn0 ?_
  rintro ba rfl
  refine e_op (o_n (n_index rfl rfl rfl rfl 0 rfl hn0) rfl ?_)
  refine e_op (o_n (n_load_osl (v := .int .i64 (al m 0)) rfl rfl .z hld0) rfl ?_)
  repeat' (first | refine e_nil ?_ | ((first | refine e_op ?_ | refine e_yes rfl ?_); (first | refine o_dNew rfl rfl rfl (fun _ => ?_) | refine o_dNew0 rfl rfl rfl (fun _ => ?_) | refine dAll rfl rfl rfl td uc rfl rfl rfl ?_ | refine dS rfl rfl rfl rfl rfl rfl rfl td uc rfl ?_ | refine o_n (n_b26 rfl rfl) rfl ?_ | refine o_n (n_b26NR rfl rfl rfl rfl rfl) rfl ?_ | refine o_n (n_b26R rfl rfl rfl rfl) rfl ?_ | refine o_n (n_b26CR rfl rfl rfl rfl) rfl ?_ | refine o_n (n_b91 rfl rfl rfl rfl rfl rfl) rfl ?_ | refine o_n (peval_sound rfl) rfl ?_ | refine o_n (nl rfl rfl tc rfl) rfl ?_ | refine o_n (dR rfl rfl td rfl rfl rfl) rfl ?_ | refine o_n (dA rfl rfl td rfl rfl) rfl ?_ | refine o_n (dK rfl rfl td rfl rfl) rfl ?_ | refine o_storeC rfl rfl rfl rfl tc uc rfl rfl rfl ?_ | refine o_box rfl rfl (fun _ => ?_) | refine o_box1 rfl rfl rfl (fun _ => ?_) | refine o_alloc rfl rfl (fun _ => ?_))) | refine e_noU rfl rfl rfl ?_ | refine e_noN rfl rfl ?_ | refine s_seq ?_ | refine s_region ?_ | refine s_block ?_ | refine s_end ?_ | refine s_skip ?_ | refine s_exit ?_ | refine s_true rfl ?_ | refine s_false rfl ?_ | refine x_hit ?_ | refine x_code ?_ | refine x_back ?_ | refine x_miss rfl ?_)
  refine s_condJ (ι := Unit) (fun _ => [(6, .int .i64 (begM m)), (1, .pointer (some ⟨b1, 0, none⟩)), (2, .pointer (some ⟨b2, 0, none⟩)), (5, .slice (some ⟨ba, 0, none⟩) m.Next.length ca)]) (fun _ => pI (some ⟨ba, 0, none⟩) m.Next.length ca (alM m) :: blk b1 26 (dC m.Class [.slice A1 m.Next.length c1, .slice A2 m.Rule.length c2]) :: blk b2 26 (dC .zero [nilS, nilS]) :: []) rfl (fun h hfin => ?_) (fun h hfin => ?_) ?_
  · have h0 := of_decide_eq_true h
    have hb : begM m = al m 0 := by unfold begM; rw [if_pos h0]
    repeat' (first | refine e_nil ?_ | ((first | refine e_op ?_ | refine e_yes rfl ?_); (first | refine o_dNew rfl rfl rfl (fun _ => ?_) | refine o_dNew0 rfl rfl rfl (fun _ => ?_) | refine dAll rfl rfl rfl td uc rfl rfl rfl ?_ | refine dS rfl rfl rfl rfl rfl rfl rfl td uc rfl ?_ | refine o_n (n_b26 rfl rfl) rfl ?_ | refine o_n (n_b26NR rfl rfl rfl rfl rfl) rfl ?_ | refine o_n (n_b26R rfl rfl rfl rfl) rfl ?_ | refine o_n (n_b26CR rfl rfl rfl rfl) rfl ?_ | refine o_n (n_b91 rfl rfl rfl rfl rfl rfl) rfl ?_ | refine o_n (peval_sound rfl) rfl ?_ | refine o_n (nl rfl rfl tc rfl) rfl ?_ | refine o_n (dR rfl rfl td rfl rfl rfl) rfl ?_ | refine o_n (dA rfl rfl td rfl rfl) rfl ?_ | refine o_n (dK rfl rfl td rfl rfl) rfl ?_ | refine o_storeC rfl rfl rfl rfl tc uc rfl rfl rfl ?_ | refine o_box rfl rfl (fun _ => ?_) | refine o_box1 rfl rfl rfl (fun _ => ?_) | refine o_alloc rfl rfl (fun _ => ?_))) | refine e_noU rfl rfl rfl ?_ | refine e_noN rfl rfl ?_ | refine s_seq ?_ | refine s_region ?_ | refine s_block ?_ | refine s_end ?_ | refine s_skip ?_ | refine s_exit ?_ | refine s_true rfl ?_ | refine s_false rfl ?_ | refine x_hit ?_ | refine x_code ?_ | refine x_back ?_ | refine x_miss rfl ?_)
    refine e_op (o_n (n_index rfl rfl rfl rfl 0 rfl hn0) rfl ?_)
    refine e_op (o_n (n_load_osl (v := .int .i64 (al m 0)) rfl rfl .z hld0) rfl ?_)
    repeat' (first | ((first | refine e_op ?_ | refine e_yes rfl ?_); (first | refine o_dNew rfl rfl rfl (fun _ => ?_) | refine o_dNew0 rfl rfl rfl (fun _ => ?_) | refine dAll rfl rfl rfl td uc rfl rfl rfl ?_ | refine dS rfl rfl rfl rfl rfl rfl rfl td uc rfl ?_ | refine o_n (n_b26 rfl rfl) rfl ?_ | refine o_n (n_b26NR rfl rfl rfl rfl rfl) rfl ?_ | refine o_n (n_b26R rfl rfl rfl rfl) rfl ?_ | refine o_n (n_b26CR rfl rfl rfl rfl) rfl ?_ | refine o_n (n_b91 rfl rfl rfl rfl rfl rfl) rfl ?_ | refine o_n (peval_sound rfl) rfl ?_ | refine o_n (nl rfl rfl tc rfl) rfl ?_ | refine o_n (dR rfl rfl td rfl rfl rfl) rfl ?_ | refine o_n (dA rfl rfl td rfl rfl) rfl ?_ | refine o_n (dK rfl rfl td rfl rfl) rfl ?_ | refine o_storeC rfl rfl rfl rfl tc uc rfl rfl rfl ?_ | refine o_box rfl rfl (fun _ => ?_) | refine o_box1 rfl rfl rfl (fun _ => ?_) | refine o_alloc rfl rfl (fun _ => ?_))) | refine e_noU rfl rfl rfl ?_ | refine e_noN rfl rfl ?_)
    refine e_nil (s_weak ?_ ?_ (hfin ()))
    · rw [hb]; repeat' (first | exact Sub.nil _ | refine Sub.cons rfl ?_ | refine Sub.consE rfl ?_ ?_)
    · exact Ent.tak .z (Ent.tak (.s .z) (Ent.tak .z (Ent.nil _)))
  · have h0 := of_decide_eq_false h
    have hb : begM m = 0 := by unfold begM; rw [if_neg h0]
    refine s_skip (s_weak ?_ ?_ (hfin ()))
    · rw [hb]; repeat' (first | exact Sub.nil _ | refine Sub.cons rfl ?_ | refine Sub.consE rfl ?_ ?_)
    · exact Ent.tak .z (Ent.tak (.s .z) (Ent.tak .z (Ent.nil _)))
  rintro ⟨⟩
  have hfs := fin_sts o
  have hfl := rows_sz o hfs
  have hbs := beg_sts o
  repeat' (first | refine e_nil ?_ | ((first | refine e_op ?_ | refine e_yes rfl ?_); (first | refine o_dNew rfl rfl rfl (fun _ => ?_) | refine o_dNew0 rfl rfl rfl (fun _ => ?_) | refine dAll rfl rfl rfl td uc rfl rfl rfl ?_ | refine dS rfl rfl rfl rfl rfl rfl rfl td uc rfl ?_ | refine o_n (n_b26 rfl rfl) rfl ?_ | refine o_n (n_b26NR rfl rfl rfl rfl rfl) rfl ?_ | refine o_n (n_b26R rfl rfl rfl rfl) rfl ?_ | refine o_n (n_b26CR rfl rfl rfl rfl) rfl ?_ | refine o_n (n_b91 rfl rfl rfl rfl rfl rfl) rfl ?_ | refine o_n (peval_sound rfl) rfl ?_ | refine o_n (nl rfl rfl tc rfl) rfl ?_ | refine o_n (dR rfl rfl td rfl rfl rfl) rfl ?_ | refine o_n (dA rfl rfl td rfl rfl) rfl ?_ | refine o_n (dK rfl rfl td rfl rfl) rfl ?_ | refine o_storeC rfl rfl rfl rfl tc uc rfl rfl rfl ?_ | refine o_box rfl rfl (fun _ => ?_) | refine o_box1 rfl rfl rfl (fun _ => ?_) | refine o_alloc rfl rfl (fun _ => ?_))) | refine e_noU rfl rfl rfl ?_ | refine e_noN rfl rfl ?_ | refine s_seq ?_ | refine s_region ?_ | refine s_block ?_ | refine s_end ?_ | refine s_skip ?_ | refine s_exit ?_ | refine s_true rfl ?_ | refine s_false rfl ?_ | refine x_hit ?_ | refine x_code ?_ | refine x_back ?_ | refine x_miss rfl ?_)
  refine e_op (o_lit (ps := [(0, .int .i64 (begM m))]) (cs := [.int .i64 (begM m)]) rfl rfl rfl rfl rfl rfl rfl (fun b7 => ?_))
  repeat' (first | refine e_nil ?_ | ((first | refine e_op ?_ | refine e_yes rfl ?_); (first | refine o_dNew rfl rfl rfl (fun _ => ?_) | refine o_dNew0 rfl rfl rfl (fun _ => ?_) | refine dAll rfl rfl rfl td uc rfl rfl rfl ?_ | refine dS rfl rfl rfl rfl rfl rfl rfl td uc rfl ?_ | refine o_n (n_b26 rfl rfl) rfl ?_ | refine o_n (n_b26NR rfl rfl rfl rfl rfl) rfl ?_ | refine o_n (n_b26R rfl rfl rfl rfl) rfl ?_ | refine o_n (n_b26CR rfl rfl rfl rfl) rfl ?_ | refine o_n (n_b91 rfl rfl rfl rfl rfl rfl) rfl ?_ | refine o_n (peval_sound rfl) rfl ?_ | refine o_n (nl rfl rfl tc rfl) rfl ?_ | refine o_n (dR rfl rfl td rfl rfl rfl) rfl ?_ | refine o_n (dA rfl rfl td rfl rfl) rfl ?_ | refine o_n (dK rfl rfl td rfl rfl) rfl ?_ | refine o_storeC rfl rfl rfl rfl tc uc rfl rfl rfl ?_ | refine o_box rfl rfl (fun _ => ?_) | refine o_box1 rfl rfl rfl (fun _ => ?_) | refine o_alloc rfl rfl (fun _ => ?_))) | refine e_noU rfl rfl rfl ?_ | refine e_noN rfl rfl ?_ | refine s_seq ?_ | refine s_region ?_ | refine s_block ?_ | refine s_end ?_ | refine s_skip ?_ | refine s_exit ?_ | refine s_true rfl ?_ | refine s_false rfl ?_ | refine x_hit ?_ | refine x_code ?_ | refine x_back ?_ | refine x_miss rfl ?_)
  generalize hfin0 : finM m = fin at *
  refine s_loopK (ι := {x : Nat × List Int × Option Addr × Nat // x.1 ≤ x.2.1.length ∧ Sts m x.2.1 ∧ bfs m (m.Next.length + 1 - x.1) x.1 x.2.1 = fin}) [1, 2, 5] rfl
    ⟨(0, [begM m], some ⟨b7, 0, none⟩, 1), by simp, hbs, by rw [← hfin0]; rfl⟩
    (fun x => [(7, .slice x.1.2.2.1 x.1.2.1.length x.1.2.2.2), (8, .int .i64 x.1.1)])
    (fun x => pI x.1.2.2.1 x.1.2.1.length x.1.2.2.2 x.1.2.1 :: pI (some ⟨ba, 0, none⟩) m.Next.length ca (alM m) :: blk b1 26 (dC m.Class [.slice A1 m.Next.length c1, .slice A2 m.Rule.length c2]) :: blk b2 26 (dC .zero [nilS, nilS]) :: []) (fun x => m.Next.length + 1 - x.1.1) ?_ ?_ ?_
  · repeat' (first | exact Sub.nil _ | refine Sub.cons rfl ?_ | refine Sub.consE rfl ?_ ?_)
  · exact Ent.refl _
  rintro ⟨⟨i, st, As, cs⟩, hi, hst, hbfs⟩
  simp only at hi hst hbfs ⊢
  have hsl := hst.len
  repeat' (first | refine e_nil ?_ | ((first | refine e_op ?_ | refine e_yes rfl ?_); (first | refine o_dNew rfl rfl rfl (fun _ => ?_) | refine o_dNew0 rfl rfl rfl (fun _ => ?_) | refine dAll rfl rfl rfl td uc rfl rfl rfl ?_ | refine dS rfl rfl rfl rfl rfl rfl rfl td uc rfl ?_ | refine o_n (n_b26 rfl rfl) rfl ?_ | refine o_n (n_b26NR rfl rfl rfl rfl rfl) rfl ?_ | refine o_n (n_b26R rfl rfl rfl rfl) rfl ?_ | refine o_n (n_b26CR rfl rfl rfl rfl) rfl ?_ | refine o_n (n_b91 rfl rfl rfl rfl rfl rfl) rfl ?_ | refine o_n (peval_sound rfl) rfl ?_ | refine o_n (nl rfl rfl tc rfl) rfl ?_ | refine o_n (dR rfl rfl td rfl rfl rfl) rfl ?_ | refine o_n (dA rfl rfl td rfl rfl) rfl ?_ | refine o_n (dK rfl rfl td rfl rfl) rfl ?_ | refine o_storeC rfl rfl rfl rfl tc uc rfl rfl rfl ?_ | refine o_box rfl rfl (fun _ => ?_) | refine o_box1 rfl rfl rfl (fun _ => ?_) | refine o_alloc rfl rfl (fun _ => ?_))) | refine e_noU rfl rfl rfl ?_ | refine e_noN rfl rfl ?_ | refine s_seq ?_ | refine s_region ?_ | refine s_block ?_ | refine s_end ?_ | refine s_skip ?_ | refine s_exit ?_ | refine s_true rfl ?_ | refine s_false rfl ?_ | refine x_hit ?_ | refine x_code ?_ | refine x_back ?_ | refine x_miss rfl ?_)
  refine s_cond rfl (fun h => ?_) (fun h => ?_)
  · have hlt : i < st.length := by have := of_decide_eq_true h; omega
    clear h
    obtain ⟨f, hf⟩ : ∃ f, m.Next.length + 1 - i = f + 1 := ⟨m.Next.length - i, by omega⟩
    rw [hf, bfs_go hlt] at hbfs
    have hsm : st[i] ∈ st := List.getElem_mem hlt
    obtain ⟨s, hs⟩ : ∃ s : Nat, st[i] = (s : Int) := ⟨st[i].toNat, by have := (hst.rng _ hsm).1; omega⟩
    rw [hs] at hbfs hsm
    have hsn : s < m.Next.length := by have := (hst.rng _ hsm).2; omega
    repeat' (first | refine e_nil ?_ | ((first | refine e_op ?_ | refine e_yes rfl ?_); (first | refine o_dNew rfl rfl rfl (fun _ => ?_) | refine o_dNew0 rfl rfl rfl (fun _ => ?_) | refine dAll rfl rfl rfl td uc rfl rfl rfl ?_ | refine dS rfl rfl rfl rfl rfl rfl rfl td uc rfl ?_ | refine o_n (n_b26 rfl rfl) rfl ?_ | refine o_n (n_b26NR rfl rfl rfl rfl rfl) rfl ?_ | refine o_n (n_b26R rfl rfl rfl rfl) rfl ?_ | refine o_n (n_b26CR rfl rfl rfl rfl) rfl ?_ | refine o_n (n_b91 rfl rfl rfl rfl rfl rfl) rfl ?_ | refine o_n (peval_sound rfl) rfl ?_ | refine o_n (nl rfl rfl tc rfl) rfl ?_ | refine o_n (dR rfl rfl td rfl rfl rfl) rfl ?_ | refine o_n (dA rfl rfl td rfl rfl) rfl ?_ | refine o_n (dK rfl rfl td rfl rfl) rfl ?_ | refine o_storeC rfl rfl rfl rfl tc uc rfl rfl rfl ?_ | refine o_box rfl rfl (fun _ => ?_) | refine o_box1 rfl rfl rfl (fun _ => ?_) | refine o_alloc rfl rfl (fun _ => ?_))) | refine e_noU rfl rfl rfl ?_ | refine e_noN rfl rfl ?_ | refine s_seq ?_ | refine s_region ?_ | refine s_block ?_ | refine s_end ?_ | refine s_skip ?_ | refine s_exit ?_ | refine s_true rfl ?_ | refine s_false rfl ?_ | refine x_hit ?_ | refine x_code ?_ | refine x_back ?_ | refine x_miss rfl ?_)
    refine s_loopK (ι := {x : Nat × Option Addr × Nat // x.1 ≤ 256}) [1, 2, 5, 8] rfl ⟨(0, As, cs), by omega⟩ (fun x => [(9, .int .i64 x.1.1), (7, .slice x.1.2.1 (rowS2 m s st x.1.1).length x.1.2.2)])
      (fun x => pI x.1.2.1 (rowS2 m s st x.1.1).length x.1.2.2 (rowS2 m s st x.1.1) :: pI (some ⟨ba, 0, none⟩) m.Next.length ca (alM m) :: blk b1 26 (dC m.Class [.slice A1 m.Next.length c1, .slice A2 m.Rule.length c2]) :: blk b2 26 (dC .zero [nilS, nilS]) :: []) (fun x => 256 - x.1.1) ?_ ?_ ?_
    · repeat' (first | exact Sub.nil _ | refine Sub.cons rfl ?_ | refine Sub.consE rfl ?_ ?_)
    · exact Ent.refl _
    rintro ⟨⟨c, As, cs⟩, hc⟩
    simp only at hc ⊢
    repeat' (first | refine e_nil ?_ | ((first | refine e_op ?_ | refine e_yes rfl ?_); (first | refine o_dNew rfl rfl rfl (fun _ => ?_) | refine o_dNew0 rfl rfl rfl (fun _ => ?_) | refine dAll rfl rfl rfl td uc rfl rfl rfl ?_ | refine dS rfl rfl rfl rfl rfl rfl rfl td uc rfl ?_ | refine o_n (n_b26 rfl rfl) rfl ?_ | refine o_n (n_b26NR rfl rfl rfl rfl rfl) rfl ?_ | refine o_n (n_b26R rfl rfl rfl rfl) rfl ?_ | refine o_n (n_b26CR rfl rfl rfl rfl) rfl ?_ | refine o_n (n_b91 rfl rfl rfl rfl rfl rfl) rfl ?_ | refine o_n (peval_sound rfl) rfl ?_ | refine o_n (nl rfl rfl tc rfl) rfl ?_ | refine o_n (dR rfl rfl td rfl rfl rfl) rfl ?_ | refine o_n (dA rfl rfl td rfl rfl) rfl ?_ | refine o_n (dK rfl rfl td rfl rfl) rfl ?_ | refine o_storeC rfl rfl rfl rfl tc uc rfl rfl rfl ?_ | refine o_box rfl rfl (fun _ => ?_) | refine o_box1 rfl rfl rfl (fun _ => ?_) | refine o_alloc rfl rfl (fun _ => ?_))) | refine e_noU rfl rfl rfl ?_ | refine e_noN rfl rfl ?_ | refine s_seq ?_ | refine s_region ?_ | refine s_block ?_ | refine s_end ?_ | refine s_skip ?_ | refine s_exit ?_ | refine s_true rfl ?_ | refine s_false rfl ?_ | refine x_hit ?_ | refine x_code ?_ | refine x_back ?_ | refine x_miss rfl ?_)
    refine s_cond rfl (fun h => ?_) (fun h => ?_)
    · have hlc : c < 256 := by have := of_decide_eq_true h; omega
      clear h
      have hpre := rowS2_pre m s st c
      have hss := rowS2_sts o (st_nat hsn) hst c (by omega)
      have hgs := go_st o (st_nat hsn) hlc
      have hst2 : (rowS2 m s st c)[i]? = some (s : Int) := by
        obtain ⟨d, hd⟩ := hpre
        rw [← hd, List.getElem?_append_left hlt, List.getElem?_eq_getElem hlt, hs]
      have hi2 : i < (rowS2 m s st c).length := (List.getElem?_eq_some_iff.1 hst2).1
      have hrs := rowS2_succ m s st c
      generalize rowS2 m s st c = st2 at *
      have hsl2 := hss.len
      have hld : loadL ⟨.int .i64, 1, 8, [.int .i64 0]⟩ (st2.map (Value.int .i64)) (0 + i * 1) = some (.int .i64 s) := by
        simp [loadL, aggB, hst2]
      have hI2 : ∀ x ∈ st2, I64 x := fun x hx => by have := hss.rng x hx; exact ⟨by omega, by omega⟩
      repeat' (first | refine e_nil ?_ | ((first | refine e_op ?_ | refine e_yes rfl ?_); (first | refine o_dNew rfl rfl rfl (fun _ => ?_) | refine o_dNew0 rfl rfl rfl (fun _ => ?_) | refine dAll rfl rfl rfl td uc rfl rfl rfl ?_ | refine dS rfl rfl rfl rfl rfl rfl rfl td uc rfl ?_ | refine o_n (n_b26 rfl rfl) rfl ?_ | refine o_n (n_b26NR rfl rfl rfl rfl rfl) rfl ?_ | refine o_n (n_b26R rfl rfl rfl rfl) rfl ?_ | refine o_n (n_b26CR rfl rfl rfl rfl) rfl ?_ | refine o_n (n_b91 rfl rfl rfl rfl rfl rfl) rfl ?_ | refine o_n (peval_sound rfl) rfl ?_ | refine o_n (nl rfl rfl tc rfl) rfl ?_ | refine o_n (dR rfl rfl td rfl rfl rfl) rfl ?_ | refine o_n (dA rfl rfl td rfl rfl) rfl ?_ | refine o_n (dK rfl rfl td rfl rfl) rfl ?_ | refine o_storeC rfl rfl rfl rfl tc uc rfl rfl rfl ?_ | refine o_box rfl rfl (fun _ => ?_) | refine o_box1 rfl rfl rfl (fun _ => ?_) | refine o_alloc rfl rfl (fun _ => ?_))) | refine e_noU rfl rfl rfl ?_ | refine e_noN rfl rfl ?_ | refine s_seq ?_ | refine s_region ?_ | refine s_block ?_ | refine s_end ?_ | refine s_skip ?_ | refine s_exit ?_ | refine s_true rfl ?_ | refine s_false rfl ?_ | refine x_hit ?_ | refine x_code ?_ | refine x_back ?_ | refine x_miss rfl ?_)
      refine s_open .z (by omega) ?_
      rintro bs rfl
      refine s_drawU [7] Try.mixed (by decide +kernel) ?_
      repeat' (first | refine l_nil ?_ | ((first | refine l_no rfl rfl rfl ?_ rfl ?_ | refine l_noN rfl rfl ?_ rfl ?_ | refine l_n (n_b26 rfl rfl) rfl ?_ rfl ?_ | refine l_n (n_b26NR rfl rfl rfl rfl rfl) rfl ?_ rfl ?_ | refine l_n (n_b26R rfl rfl rfl rfl) rfl ?_ rfl ?_ | refine l_n (n_b26CR rfl rfl rfl rfl) rfl ?_ rfl ?_ | refine l_n (n_b91 rfl rfl rfl rfl rfl rfl) rfl ?_ rfl ?_ | refine l_n (peval_sound rfl) rfl ?_ rfl ?_ | refine l_n (nl rfl rfl tc rfl) rfl ?_ rfl ?_ | refine l_n (dR rfl rfl td rfl rfl rfl) rfl ?_ rfl ?_ | refine l_n (dA rfl rfl td rfl rfl) rfl ?_ rfl ?_ | refine l_n (dK rfl rfl td rfl rfl) rfl ?_ rfl ?_ | refine l_ny rfl (n_b26 rfl rfl) rfl ?_ rfl ?_ | refine l_ny rfl (n_b26NR rfl rfl rfl rfl rfl) rfl ?_ rfl ?_ | refine l_ny rfl (n_b26R rfl rfl rfl rfl) rfl ?_ rfl ?_ | refine l_ny rfl (n_b26CR rfl rfl rfl rfl) rfl ?_ rfl ?_ | refine l_ny rfl (n_b91 rfl rfl rfl rfl rfl rfl) rfl ?_ rfl ?_ | refine l_ny rfl (peval_sound rfl) rfl ?_ rfl ?_ | refine l_ny rfl (nl rfl rfl tc rfl) rfl ?_ rfl ?_ | refine l_ny rfl (dR rfl rfl td rfl rfl rfl) rfl ?_ rfl ?_ | refine l_ny rfl (dA rfl rfl td rfl rfl) rfl ?_ rfl ?_ | refine l_ny rfl (dK rfl rfl td rfl rfl) rfl ?_ rfl ?_); · (first | exact Ent.refl _ | assumption | repeat' (first | exact Ent.refl _ | exact Ent.nil _ | refine Ent.tak .z ?_ | refine Ent.wk ?_))))
      refine l_n (n_index rfl rfl rfl rfl i rfl hi2) rfl (Ent.refl _) rfl ?_
      refine l_n (n_load_osl (v := .int .i64 s) rfl rfl .z hld) rfl (Ent.refl _) rfl ?_
      repeat' (first | refine l_nil ?_ | ((first | refine l_no rfl rfl rfl ?_ rfl ?_ | refine l_noN rfl rfl ?_ rfl ?_ | refine l_n (n_b26 rfl rfl) rfl ?_ rfl ?_ | refine l_n (n_b26NR rfl rfl rfl rfl rfl) rfl ?_ rfl ?_ | refine l_n (n_b26R rfl rfl rfl rfl) rfl ?_ rfl ?_ | refine l_n (n_b26CR rfl rfl rfl rfl) rfl ?_ rfl ?_ | refine l_n (n_b91 rfl rfl rfl rfl rfl rfl) rfl ?_ rfl ?_ | refine l_n (peval_sound rfl) rfl ?_ rfl ?_ | refine l_n (nl rfl rfl tc rfl) rfl ?_ rfl ?_ | refine l_n (dR rfl rfl td rfl rfl rfl) rfl ?_ rfl ?_ | refine l_n (dA rfl rfl td rfl rfl) rfl ?_ rfl ?_ | refine l_n (dK rfl rfl td rfl rfl) rfl ?_ rfl ?_ | refine l_ny rfl (n_b26 rfl rfl) rfl ?_ rfl ?_ | refine l_ny rfl (n_b26NR rfl rfl rfl rfl rfl) rfl ?_ rfl ?_ | refine l_ny rfl (n_b26R rfl rfl rfl rfl) rfl ?_ rfl ?_ | refine l_ny rfl (n_b26CR rfl rfl rfl rfl) rfl ?_ rfl ?_ | refine l_ny rfl (n_b91 rfl rfl rfl rfl rfl rfl) rfl ?_ rfl ?_ | refine l_ny rfl (peval_sound rfl) rfl ?_ rfl ?_ | refine l_ny rfl (nl rfl rfl tc rfl) rfl ?_ rfl ?_ | refine l_ny rfl (dR rfl rfl td rfl rfl rfl) rfl ?_ rfl ?_ | refine l_ny rfl (dA rfl rfl td rfl rfl) rfl ?_ rfl ?_ | refine l_ny rfl (dK rfl rfl td rfl rfl) rfl ?_ rfl ?_); · (first | exact Ent.refl _ | assumption | repeat' (first | exact Ent.refl _ | exact Ent.nil _ | refine Ent.tak .z ?_ | refine Ent.wk ?_))))
      refine l_e rfl (o_call (goes_w _ m o (some ⟨ba, 0, none⟩) m.Next.length ca rfl s c hsn hlc) rfl .nil (Can.and (Can.ro hR) (can_ints (.s .z) hIa (by omega))) rfl ?_)
      rintro v V ⟨rfl, rfl⟩
      refine ⟨Ent.refl _, ?_⟩
      simp only [List.nil_append]
      repeat' (first | refine l_nil ?_ | ((first | refine l_no rfl rfl rfl ?_ rfl ?_ | refine l_noN rfl rfl ?_ rfl ?_ | refine l_n (n_b26 rfl rfl) rfl ?_ rfl ?_ | refine l_n (n_b26NR rfl rfl rfl rfl rfl) rfl ?_ rfl ?_ | refine l_n (n_b26R rfl rfl rfl rfl) rfl ?_ rfl ?_ | refine l_n (n_b26CR rfl rfl rfl rfl) rfl ?_ rfl ?_ | refine l_n (n_b91 rfl rfl rfl rfl rfl rfl) rfl ?_ rfl ?_ | refine l_n (peval_sound rfl) rfl ?_ rfl ?_ | refine l_n (nl rfl rfl tc rfl) rfl ?_ rfl ?_ | refine l_n (dR rfl rfl td rfl rfl rfl) rfl ?_ rfl ?_ | refine l_n (dA rfl rfl td rfl rfl) rfl ?_ rfl ?_ | refine l_n (dK rfl rfl td rfl rfl) rfl ?_ rfl ?_ | refine l_ny rfl (n_b26 rfl rfl) rfl ?_ rfl ?_ | refine l_ny rfl (n_b26NR rfl rfl rfl rfl rfl) rfl ?_ rfl ?_ | refine l_ny rfl (n_b26R rfl rfl rfl rfl) rfl ?_ rfl ?_ | refine l_ny rfl (n_b26CR rfl rfl rfl rfl) rfl ?_ rfl ?_ | refine l_ny rfl (n_b91 rfl rfl rfl rfl rfl rfl) rfl ?_ rfl ?_ | refine l_ny rfl (peval_sound rfl) rfl ?_ rfl ?_ | refine l_ny rfl (nl rfl rfl tc rfl) rfl ?_ rfl ?_ | refine l_ny rfl (dR rfl rfl td rfl rfl rfl) rfl ?_ rfl ?_ | refine l_ny rfl (dA rfl rfl td rfl rfl) rfl ?_ rfl ?_ | refine l_ny rfl (dK rfl rfl td rfl rfl) rfl ?_ rfl ?_); · (first | exact Ent.refl _ | assumption | repeat' (first | exact Ent.refl _ | exact Ent.nil _ | refine Ent.tak .z ?_ | refine Ent.wk ?_))))
      generalize go m s c = t at *
      have ht0 := hgs.1
      have ht1 := hgs.2
      repeat' (first | refine e_nil ?_ | ((first | refine e_op ?_ | refine e_yes rfl ?_); (first | refine o_dNew rfl rfl rfl (fun _ => ?_) | refine o_dNew0 rfl rfl rfl (fun _ => ?_) | refine dAll rfl rfl rfl td uc rfl rfl rfl ?_ | refine dS rfl rfl rfl rfl rfl rfl rfl td uc rfl ?_ | refine o_n (n_b26 rfl rfl) rfl ?_ | refine o_n (n_b26NR rfl rfl rfl rfl rfl) rfl ?_ | refine o_n (n_b26R rfl rfl rfl rfl) rfl ?_ | refine o_n (n_b26CR rfl rfl rfl rfl) rfl ?_ | refine o_n (n_b91 rfl rfl rfl rfl rfl rfl) rfl ?_ | refine o_n (peval_sound rfl) rfl ?_ | refine o_n (nl rfl rfl tc rfl) rfl ?_ | refine o_n (dR rfl rfl td rfl rfl rfl) rfl ?_ | refine o_n (dA rfl rfl td rfl rfl) rfl ?_ | refine o_n (dK rfl rfl td rfl rfl) rfl ?_ | refine o_storeC rfl rfl rfl rfl tc uc rfl rfl rfl ?_ | refine o_box rfl rfl (fun _ => ?_) | refine o_box1 rfl rfl rfl (fun _ => ?_) | refine o_alloc rfl rfl (fun _ => ?_))) | refine e_noU rfl rfl rfl ?_ | refine e_noN rfl rfl ?_ | refine s_seq ?_ | refine s_region ?_ | refine s_block ?_ | refine s_end ?_ | refine s_skip ?_ | refine s_exit ?_ | refine s_true rfl ?_ | refine s_false rfl ?_ | refine x_hit ?_ | refine x_code ?_ | refine x_back ?_ | refine x_miss rfl ?_ | ((fail_if_success (refine e_dec true (by exact rfl) ?_)); (fail_if_success (refine e_dec false (by exact rfl) ?_)); refine e_part rfl rfl (fun h => ?_) (fun h => ?_)) | refine s_cond rfl (fun h => ?_) (fun h => ?_))
      · have h0 : 0 ≤ t := of_decide_eq_true h
        refine e_yes rfl (o_call (find_w (some ⟨bs, 0, none⟩) st2.length cs st2 rfl t) rfl .nil (can_ints .z hI2 (by omega)) rfl ?_)
        rintro v V ⟨rfl, rfl⟩
        simp only [List.nil_append]
        by_cases hm : t ∈ st2
        · have hadd : addS st2 t = st2 := by unfold addS; rw [if_neg (fun h => h.2 hm)]
          rw [findI_in hm]
          repeat' (first | refine e_nil ?_ | ((first | refine e_op ?_ | refine e_yes rfl ?_); (first | refine o_dNew rfl rfl rfl (fun _ => ?_) | refine o_dNew0 rfl rfl rfl (fun _ => ?_) | refine dAll rfl rfl rfl td uc rfl rfl rfl ?_ | refine dS rfl rfl rfl rfl rfl rfl rfl td uc rfl ?_ | refine o_n (n_b26 rfl rfl) rfl ?_ | refine o_n (n_b26NR rfl rfl rfl rfl rfl) rfl ?_ | refine o_n (n_b26R rfl rfl rfl rfl) rfl ?_ | refine o_n (n_b26CR rfl rfl rfl rfl) rfl ?_ | refine o_n (n_b91 rfl rfl rfl rfl rfl rfl) rfl ?_ | refine o_n (peval_sound rfl) rfl ?_ | refine o_n (nl rfl rfl tc rfl) rfl ?_ | refine o_n (dR rfl rfl td rfl rfl rfl) rfl ?_ | refine o_n (dA rfl rfl td rfl rfl) rfl ?_ | refine o_n (dK rfl rfl td rfl rfl) rfl ?_ | refine o_storeC rfl rfl rfl rfl tc uc rfl rfl rfl ?_ | refine o_box rfl rfl (fun _ => ?_) | refine o_box1 rfl rfl rfl (fun _ => ?_) | refine o_alloc rfl rfl (fun _ => ?_))) | refine e_noU rfl rfl rfl ?_ | refine e_noN rfl rfl ?_ | refine s_seq ?_ | refine s_region ?_ | refine s_block ?_ | refine s_end ?_ | refine s_skip ?_ | refine s_exit ?_ | refine s_true rfl ?_ | refine s_false rfl ?_ | refine x_hit ?_ | refine x_code ?_ | refine x_back ?_ | refine x_miss rfl ?_)
          refine s_back ⟨⟨(c + 1, some ⟨bs, 0, none⟩, cs), by omega⟩, by simp only; omega, ?_, ?_⟩
          · simp only [hrs, hadd]
            repeat' (first | exact Sub.nil _ | refine Sub.cons rfl ?_ | refine Sub.consE rfl ?_ ?_)
            exact inc (i := c) (by omega)
          · simp only [hrs, hadd]
            exact Ent.refl _
        · have hadd : addS st2 t = st2 ++ [t] := by unfold addS; rw [if_pos ⟨h0, hm⟩]
          rw [findI_out hm]
          repeat' (first | refine e_nil ?_ | ((first | refine e_op ?_ | refine e_yes rfl ?_); (first | refine o_dNew rfl rfl rfl (fun _ => ?_) | refine o_dNew0 rfl rfl rfl (fun _ => ?_) | refine dAll rfl rfl rfl td uc rfl rfl rfl ?_ | refine dS rfl rfl rfl rfl rfl rfl rfl td uc rfl ?_ | refine o_n (n_b26 rfl rfl) rfl ?_ | refine o_n (n_b26NR rfl rfl rfl rfl rfl) rfl ?_ | refine o_n (n_b26R rfl rfl rfl rfl) rfl ?_ | refine o_n (n_b26CR rfl rfl rfl rfl) rfl ?_ | refine o_n (n_b91 rfl rfl rfl rfl rfl rfl) rfl ?_ | refine o_n (peval_sound rfl) rfl ?_ | refine o_n (nl rfl rfl tc rfl) rfl ?_ | refine o_n (dR rfl rfl td rfl rfl rfl) rfl ?_ | refine o_n (dA rfl rfl td rfl rfl) rfl ?_ | refine o_n (dK rfl rfl td rfl rfl) rfl ?_ | refine o_storeC rfl rfl rfl rfl tc uc rfl rfl rfl ?_ | refine o_box rfl rfl (fun _ => ?_) | refine o_box1 rfl rfl rfl (fun _ => ?_) | refine o_alloc rfl rfl (fun _ => ?_))) | refine e_noU rfl rfl rfl ?_ | refine e_noN rfl rfl ?_ | refine s_seq ?_ | refine s_region ?_ | refine s_block ?_ | refine s_end ?_ | refine s_skip ?_ | refine s_exit ?_ | refine s_true rfl ?_ | refine s_false rfl ?_ | refine x_hit ?_ | refine x_code ?_ | refine x_back ?_ | refine x_miss rfl ?_)
          refine e_op (o_lit (ps := [(0, .int .i64 t)]) (cs := [.int .i64 t]) rfl rfl rfl rfl rfl rfl rfl (fun b10 => ?_))
          refine e_op (o_append (v := .slice (some ⟨bs, 0, none⟩) st2.length cs) (n := st2.length) (m := 1) (news := [.int .i64 t]) _ rfl rfl rfl rfl (fun w hm j u hu => ?_) rfl ?_ rfl (by omega) (by simp only; omega) (by omega) rfl (fun b c => .s .z) (fun bb cb => ?_))
          · obtain ⟨S1, hP, _⟩ := hm.tak Tak.z
            rw [Nat.zero_add]
            exact osl_cells hP j u hu
          · intro u hu
            simp only [List.mem_cons, List.not_mem_nil, or_false] at hu
            subst hu; rfl
          repeat' (first | refine e_nil ?_ | ((first | refine e_op ?_ | refine e_yes rfl ?_); (first | refine o_dNew rfl rfl rfl (fun _ => ?_) | refine o_dNew0 rfl rfl rfl (fun _ => ?_) | refine dAll rfl rfl rfl td uc rfl rfl rfl ?_ | refine dS rfl rfl rfl rfl rfl rfl rfl td uc rfl ?_ | refine o_n (n_b26 rfl rfl) rfl ?_ | refine o_n (n_b26NR rfl rfl rfl rfl rfl) rfl ?_ | refine o_n (n_b26R rfl rfl rfl rfl) rfl ?_ | refine o_n (n_b26CR rfl rfl rfl rfl) rfl ?_ | refine o_n (n_b91 rfl rfl rfl rfl rfl rfl) rfl ?_ | refine o_n (peval_sound rfl) rfl ?_ | refine o_n (nl rfl rfl tc rfl) rfl ?_ | refine o_n (dR rfl rfl td rfl rfl rfl) rfl ?_ | refine o_n (dA rfl rfl td rfl rfl) rfl ?_ | refine o_n (dK rfl rfl td rfl rfl) rfl ?_ | refine o_storeC rfl rfl rfl rfl tc uc rfl rfl rfl ?_ | refine o_box rfl rfl (fun _ => ?_) | refine o_box1 rfl rfl rfl (fun _ => ?_) | refine o_alloc rfl rfl (fun _ => ?_))) | refine e_noU rfl rfl rfl ?_ | refine e_noN rfl rfl ?_ | refine s_seq ?_ | refine s_region ?_ | refine s_block ?_ | refine s_end ?_ | refine s_skip ?_ | refine s_exit ?_ | refine s_true rfl ?_ | refine s_false rfl ?_ | refine x_hit ?_ | refine x_code ?_ | refine x_back ?_ | refine x_miss rfl ?_)
          refine s_back ⟨⟨(c + 1, some ⟨bb, 0, none⟩, cb), by omega⟩, by simp only; omega, ?_, ?_⟩
          · simp only [hrs, hadd, List.length_append, List.length_singleton]
            repeat' (first | exact Sub.nil _ | refine Sub.cons rfl ?_ | refine Sub.consE rfl ?_ ?_)
            exact inc (i := c) (by omega)
          · simp only [hrs, hadd, List.length_append, List.length_singleton, List.map_append, List.map_cons, List.map_nil, pI]
            exact Ent.wk (Ent.refl _)
      · have h0 : ¬ 0 ≤ t := of_decide_eq_false h
        have hadd : addS st2 t = st2 := by unfold addS; rw [if_neg (fun h => h0 h.1)]
        refine s_back ⟨⟨(c + 1, some ⟨bs, 0, none⟩, cs), by omega⟩, by simp only; omega, ?_, ?_⟩
        · simp only [hrs, hadd]
          repeat' (first | exact Sub.nil _ | refine Sub.cons rfl ?_ | refine Sub.consE rfl ?_ ?_)
          exact inc (i := c) (by omega)
        · simp only [hrs, hadd]
          exact Ent.refl _
    · have hc256 : c = 256 := by have := of_decide_eq_false h; omega
      subst hc256
      clear h hc
      have hpre := rowS2_pre m s st 256
      repeat' (first | refine e_nil ?_ | ((first | refine e_op ?_ | refine e_yes rfl ?_); (first | refine o_dNew rfl rfl rfl (fun _ => ?_) | refine o_dNew0 rfl rfl rfl (fun _ => ?_) | refine dAll rfl rfl rfl td uc rfl rfl rfl ?_ | refine dS rfl rfl rfl rfl rfl rfl rfl td uc rfl ?_ | refine o_n (n_b26 rfl rfl) rfl ?_ | refine o_n (n_b26NR rfl rfl rfl rfl rfl) rfl ?_ | refine o_n (n_b26R rfl rfl rfl rfl) rfl ?_ | refine o_n (n_b26CR rfl rfl rfl rfl) rfl ?_ | refine o_n (n_b91 rfl rfl rfl rfl rfl rfl) rfl ?_ | refine o_n (peval_sound rfl) rfl ?_ | refine o_n (nl rfl rfl tc rfl) rfl ?_ | refine o_n (dR rfl rfl td rfl rfl rfl) rfl ?_ | refine o_n (dA rfl rfl td rfl rfl) rfl ?_ | refine o_n (dK rfl rfl td rfl rfl) rfl ?_ | refine o_storeC rfl rfl rfl rfl tc uc rfl rfl rfl ?_ | refine o_box rfl rfl (fun _ => ?_) | refine o_box1 rfl rfl rfl (fun _ => ?_) | refine o_alloc rfl rfl (fun _ => ?_))) | refine e_noU rfl rfl rfl ?_ | refine e_noN rfl rfl ?_ | refine s_seq ?_ | refine s_region ?_ | refine s_block ?_ | refine s_end ?_ | refine s_skip ?_ | refine s_exit ?_ | refine s_true rfl ?_ | refine s_false rfl ?_ | refine x_hit ?_ | refine x_code ?_ | refine x_back ?_ | refine x_miss rfl ?_)
      refine s_back ⟨⟨(i + 1, rowS2 m s st 256, As, cs), ?_, rowS2_sts o (st_nat hsn) hst 256 (Nat.le_refl _), ?_⟩, by simp only; omega, ?_, Ent.refl _⟩
      · have := hpre.length_le; simp only; omega
      · simp only
        rw [show m.Next.length + 1 - (i + 1) = f by omega]
        exact hbfs
      · repeat' (first | exact Sub.nil _ | refine Sub.cons rfl ?_ | refine Sub.consE rfl ?_ ?_)
        exact inc (i := i) (by omega)
  have hge : i = st.length := by have := of_decide_eq_false h; omega
  subst hge
  clear h hi
  rw [bfs_end (Nat.le_refl _)] at hbfs
  subst hbfs
  repeat' (first | refine e_nil ?_ | ((first | refine e_op ?_ | refine e_yes rfl ?_); (first | refine o_dNew rfl rfl rfl (fun _ => ?_) | refine o_dNew0 rfl rfl rfl (fun _ => ?_) | refine dAll rfl rfl rfl td uc rfl rfl rfl ?_ | refine dS rfl rfl rfl rfl rfl rfl rfl td uc rfl ?_ | refine o_n (n_b26 rfl rfl) rfl ?_ | refine o_n (n_b26NR rfl rfl rfl rfl rfl) rfl ?_ | refine o_n (n_b26R rfl rfl rfl rfl) rfl ?_ | refine o_n (n_b26CR rfl rfl rfl rfl) rfl ?_ | refine o_n (n_b91 rfl rfl rfl rfl rfl rfl) rfl ?_ | refine o_n (peval_sound rfl) rfl ?_ | refine o_n (nl rfl rfl tc rfl) rfl ?_ | refine o_n (dR rfl rfl td rfl rfl rfl) rfl ?_ | refine o_n (dA rfl rfl td rfl rfl) rfl ?_ | refine o_n (dK rfl rfl td rfl rfl) rfl ?_ | refine o_storeC rfl rfl rfl rfl tc uc rfl rfl rfl ?_ | refine o_box rfl rfl (fun _ => ?_) | refine o_box1 rfl rfl rfl (fun _ => ?_) | refine o_alloc rfl rfl (fun _ => ?_))) | refine e_noU rfl rfl rfl ?_ | refine e_noN rfl rfl ?_ | refine s_seq ?_ | refine s_region ?_ | refine s_block ?_ | refine s_end ?_ | refine s_skip ?_ | refine s_exit ?_ | refine s_true rfl ?_ | refine s_false rfl ?_ | refine x_hit ?_ | refine x_code ?_ | refine x_back ?_ | refine x_miss rfl ?_)
  rename_i b11
  have hIs : ∀ x ∈ st, I64 x := fun x hx => by have := hst.rng x hx; exact ⟨by omega, by omega⟩
  refine s_loopK (ι := {x : Nat × Option Addr × Nat × C256 // x.1 ≤ 256 ∧ ∀ j, j < x.1 → x.2.2.2.get j = (fk m st j (Lc m st j) : Nat)}) [1, 2, 5, 7, 11] rfl ⟨(0, none, 0, .zero), by omega, fun j h => by omega⟩
    (fun x => [(13, .int .i64 x.1.1), (12, .slice x.1.2.1 (Lc m st x.1.1).length x.1.2.2.1)])
    (fun x => blk b11 26 (dC x.1.2.2.2 [nilS, nilS]) :: pI x.1.2.1 (Lc m st x.1.1).length x.1.2.2.1 ((Lc m st x.1.1).map fun (a : Nat) => (a : Int)) :: pI As st.length cs st :: pI (some ⟨ba, 0, none⟩) m.Next.length ca (alM m) :: blk b1 26 (dC m.Class [.slice A1 m.Next.length c1, .slice A2 m.Rule.length c2]) :: blk b2 26 (dC .zero [nilS, nilS]) :: []) (fun x => 256 - x.1.1) ?_ ?_ ?_
  · repeat' (first | exact Sub.nil _ | refine Sub.cons rfl ?_ | refine Sub.consE rfl ?_ ?_)
  · exact Ent.tak .z (Ent.osl0 (Ent.refl _))
  rintro ⟨⟨c, AL, cL, cc⟩, hc, hcls⟩
  simp only at hc hcls ⊢
  have hLl := Lc_len m st c
  have hLlt := Lc_lt m st c
  repeat' (first | refine e_nil ?_ | ((first | refine e_op ?_ | refine e_yes rfl ?_); (first | refine o_dNew rfl rfl rfl (fun _ => ?_) | refine o_dNew0 rfl rfl rfl (fun _ => ?_) | refine dAll rfl rfl rfl td uc rfl rfl rfl ?_ | refine dS rfl rfl rfl rfl rfl rfl rfl td uc rfl ?_ | refine o_n (n_b26 rfl rfl) rfl ?_ | refine o_n (n_b26NR rfl rfl rfl rfl rfl) rfl ?_ | refine o_n (n_b26R rfl rfl rfl rfl) rfl ?_ | refine o_n (n_b26CR rfl rfl rfl rfl) rfl ?_ | refine o_n (n_b91 rfl rfl rfl rfl rfl rfl) rfl ?_ | refine o_n (peval_sound rfl) rfl ?_ | refine o_n (nl rfl rfl tc rfl) rfl ?_ | refine o_n (dR rfl rfl td rfl rfl rfl) rfl ?_ | refine o_n (dA rfl rfl td rfl rfl) rfl ?_ | refine o_n (dK rfl rfl td rfl rfl) rfl ?_ | refine o_storeC rfl rfl rfl rfl tc uc rfl rfl rfl ?_ | refine o_box rfl rfl (fun _ => ?_) | refine o_box1 rfl rfl rfl (fun _ => ?_) | refine o_alloc rfl rfl (fun _ => ?_))) | refine e_noU rfl rfl rfl ?_ | refine e_noN rfl rfl ?_ | refine s_seq ?_ | refine s_region ?_ | refine s_block ?_ | refine s_end ?_ | refine s_skip ?_ | refine s_exit ?_ | refine s_true rfl ?_ | refine s_false rfl ?_ | refine x_hit ?_ | refine x_code ?_ | refine x_back ?_ | refine x_miss rfl ?_)
  refine s_cond rfl (fun h => ?_) (fun h => ?_)
  · have hlc : c < 256 := by have := of_decide_eq_true h; omega
    clear h
    have hLs := Lc_succ m st c
    have hfkl := fk_le m st c (Lc m st c)
    generalize hL : Lc m st c = L at *
    have hIL : ∀ x ∈ L.map (fun (a : Nat) => (a : Int)), I64 x := fun x hx => by
      obtain ⟨a, ha, rfl⟩ := List.mem_map.1 hx
      have := hLlt a ha
      exact ⟨by omega, by omega⟩
    repeat' (first | refine e_nil ?_ | ((first | refine e_op ?_ | refine e_yes rfl ?_); (first | refine o_dNew rfl rfl rfl (fun _ => ?_) | refine o_dNew0 rfl rfl rfl (fun _ => ?_) | refine dAll rfl rfl rfl td uc rfl rfl rfl ?_ | refine dS rfl rfl rfl rfl rfl rfl rfl td uc rfl ?_ | refine o_n (n_b26 rfl rfl) rfl ?_ | refine o_n (n_b26NR rfl rfl rfl rfl rfl) rfl ?_ | refine o_n (n_b26R rfl rfl rfl rfl) rfl ?_ | refine o_n (n_b26CR rfl rfl rfl rfl) rfl ?_ | refine o_n (n_b91 rfl rfl rfl rfl rfl rfl) rfl ?_ | refine o_n (peval_sound rfl) rfl ?_ | refine o_n (nl rfl rfl tc rfl) rfl ?_ | refine o_n (dR rfl rfl td rfl rfl rfl) rfl ?_ | refine o_n (dA rfl rfl td rfl rfl) rfl ?_ | refine o_n (dK rfl rfl td rfl rfl) rfl ?_ | refine o_storeC rfl rfl rfl rfl tc uc rfl rfl rfl ?_ | refine o_box rfl rfl (fun _ => ?_) | refine o_box1 rfl rfl rfl (fun _ => ?_) | refine o_alloc rfl rfl (fun _ => ?_))) | refine e_noU rfl rfl rfl ?_ | refine e_noN rfl rfl ?_ | refine s_seq ?_ | refine s_region ?_ | refine s_end ?_ | refine s_skip ?_ | refine s_exit ?_ | refine s_true rfl ?_ | refine s_false rfl ?_ | refine x_hit ?_ | refine x_code ?_ | refine x_back ?_ | refine x_miss rfl ?_)
    refine s_block ?_
    repeat' (first | refine e_nil ?_ | ((first | refine e_op ?_ | refine e_yes rfl ?_); (first | refine o_dNew rfl rfl rfl (fun _ => ?_) | refine o_dNew0 rfl rfl rfl (fun _ => ?_) | refine dAll rfl rfl rfl td uc rfl rfl rfl ?_ | refine dS rfl rfl rfl rfl rfl rfl rfl td uc rfl ?_ | refine o_n (n_b26 rfl rfl) rfl ?_ | refine o_n (n_b26NR rfl rfl rfl rfl rfl) rfl ?_ | refine o_n (n_b26R rfl rfl rfl rfl) rfl ?_ | refine o_n (n_b26CR rfl rfl rfl rfl) rfl ?_ | refine o_n (n_b91 rfl rfl rfl rfl rfl rfl) rfl ?_ | refine o_n (peval_sound rfl) rfl ?_ | refine o_n (nl rfl rfl tc rfl) rfl ?_ | refine o_n (dR rfl rfl td rfl rfl rfl) rfl ?_ | refine o_n (dA rfl rfl td rfl rfl) rfl ?_ | refine o_n (dK rfl rfl td rfl rfl) rfl ?_ | refine o_storeC rfl rfl rfl rfl tc uc rfl rfl rfl ?_ | refine o_box rfl rfl (fun _ => ?_) | refine o_box1 rfl rfl rfl (fun _ => ?_) | refine o_alloc rfl rfl (fun _ => ?_))) | refine e_noU rfl rfl rfl ?_ | refine e_noN rfl rfl ?_ | refine s_seq ?_ | refine s_region ?_ | refine s_end ?_ | refine s_skip ?_ | refine s_exit ?_ | refine s_true rfl ?_ | refine s_false rfl ?_ | refine x_hit ?_ | refine x_code ?_ | refine x_back ?_ | refine x_miss rfl ?_)
    refine e_op (o_n (n_indexA rfl rfl rfl rfl c rfl hlc) rfl ?_)
    refine e_op (o_dC rfl rfl rfl rfl c hlc (by show 0 + 0 + c * 1 = c; omega) .z ?_)
    repeat' (first | refine e_nil ?_ | ((first | refine e_op ?_ | refine e_yes rfl ?_); (first | refine o_dNew rfl rfl rfl (fun _ => ?_) | refine o_dNew0 rfl rfl rfl (fun _ => ?_) | refine dAll rfl rfl rfl td uc rfl rfl rfl ?_ | refine dS rfl rfl rfl rfl rfl rfl rfl td uc rfl ?_ | refine o_n (n_b26 rfl rfl) rfl ?_ | refine o_n (n_b26NR rfl rfl rfl rfl rfl) rfl ?_ | refine o_n (n_b26R rfl rfl rfl rfl) rfl ?_ | refine o_n (n_b26CR rfl rfl rfl rfl) rfl ?_ | refine o_n (n_b91 rfl rfl rfl rfl rfl rfl) rfl ?_ | refine o_n (peval_sound rfl) rfl ?_ | refine o_n (nl rfl rfl tc rfl) rfl ?_ | refine o_n (dR rfl rfl td rfl rfl rfl) rfl ?_ | refine o_n (dA rfl rfl td rfl rfl) rfl ?_ | refine o_n (dK rfl rfl td rfl rfl) rfl ?_ | refine o_storeC rfl rfl rfl rfl tc uc rfl rfl rfl ?_ | refine o_box rfl rfl (fun _ => ?_) | refine o_box1 rfl rfl rfl (fun _ => ?_) | refine o_alloc rfl rfl (fun _ => ?_))) | refine e_noU rfl rfl rfl ?_ | refine e_noN rfl rfl ?_ | refine s_seq ?_ | refine s_region ?_ | refine s_end ?_ | refine s_skip ?_ | refine s_exit ?_ | refine s_true rfl ?_ | refine s_false rfl ?_ | refine x_hit ?_ | refine x_code ?_ | refine x_back ?_ | refine x_miss rfl ?_)
    refine s_blockJ (ι := {v : Int // (v = -1 ∧ fk m st c L = L.length) ∨ (v = (fk m st c L : Nat) ∧ fk m st c L < L.length)}) (fun _ => [(13, .int .i64 c), (12, .slice AL L.length cL), (1, .pointer (some ⟨b1, 0, none⟩)), (2, .pointer (some ⟨b2, 0, none⟩)), (5, .slice (some ⟨ba, 0, none⟩) m.Next.length ca), (7, .slice As st.length cs), (11, .pointer (some ⟨b11, 0, none⟩))])
      (fun v => blk b11 26 (dC (cc.set c v.1) [nilS, nilS]) :: pI AL L.length cL (L.map fun (a : Nat) => (a : Int)) :: pI As st.length cs st :: pI (some ⟨ba, 0, none⟩) m.Next.length ca (alM m) :: blk b1 26 (dC m.Class [.slice A1 m.Next.length c1, .slice A2 m.Rule.length c2]) :: blk b2 26 (dC .zero [nilS, nilS]) :: []) (fun hfin => ?_) ?_
    · refine s_loopK (ι := {x : Nat × Int // x.1 ≤ L.length ∧ ((x.2 = -1 ∧ ∀ j (hj : j < L.length), j < x.1 → sameB m st c L[j] = false) ∨ (x.2 = (fk m st c L : Nat) ∧ fk m st c L < L.length))}) [13, 12, 1, 2, 5, 7, 11] rfl ⟨(0, -1), by omega, .inl ⟨rfl, fun j _ h => by omega⟩⟩ (fun k => [(14, .int .i64 k.1.1)])
        (fun x => blk b11 26 (dC (cc.set c x.1.2) [nilS, nilS]) :: pI AL L.length cL (L.map fun (a : Nat) => (a : Int)) :: pI As st.length cs st :: pI (some ⟨ba, 0, none⟩) m.Next.length ca (alM m) :: blk b1 26 (dC m.Class [.slice A1 m.Next.length c1, .slice A2 m.Rule.length c2]) :: blk b2 26 (dC .zero [nilS, nilS]) :: []) (fun k => L.length - k.1.1) ?_ (Ent.refl _) ?_
      · repeat' (first | exact Sub.nil _ | refine Sub.cons rfl ?_ | refine Sub.consE rfl ?_ ?_)
      rintro ⟨⟨k, v⟩, hk, hv⟩
      simp only at hk hv ⊢
      have hget : (cc.set c v).get c = v := by rw [C256.get_set _ _ _ _ hlc, if_pos rfl]
      repeat' (first | refine e_nil ?_ | ((first | refine e_op ?_ | refine e_yes rfl ?_); (first | refine o_dNew rfl rfl rfl (fun _ => ?_) | refine o_dNew0 rfl rfl rfl (fun _ => ?_) | refine dAll rfl rfl rfl td uc rfl rfl rfl ?_ | refine dS rfl rfl rfl rfl rfl rfl rfl td uc rfl ?_ | refine o_n (n_b26 rfl rfl) rfl ?_ | refine o_n (n_b26NR rfl rfl rfl rfl rfl) rfl ?_ | refine o_n (n_b26R rfl rfl rfl rfl) rfl ?_ | refine o_n (n_b26CR rfl rfl rfl rfl) rfl ?_ | refine o_n (n_b91 rfl rfl rfl rfl rfl rfl) rfl ?_ | refine o_n (peval_sound rfl) rfl ?_ | refine o_n (nl rfl rfl tc rfl) rfl ?_ | refine o_n (dR rfl rfl td rfl rfl rfl) rfl ?_ | refine o_n (dA rfl rfl td rfl rfl) rfl ?_ | refine o_n (dK rfl rfl td rfl rfl) rfl ?_ | refine o_storeC rfl rfl rfl rfl tc uc rfl rfl rfl ?_ | refine o_box rfl rfl (fun _ => ?_) | refine o_box1 rfl rfl rfl (fun _ => ?_) | refine o_alloc rfl rfl (fun _ => ?_))) | refine e_noU rfl rfl rfl ?_ | refine e_noN rfl rfl ?_ | refine s_seq ?_ | refine s_region ?_ | refine s_end ?_ | refine s_skip ?_ | refine s_exit ?_ | refine s_true rfl ?_ | refine s_false rfl ?_ | refine x_code ?_ | refine x_back ?_ | refine x_miss rfl ?_ | ((fail_if_success (refine e_dec true (by exact rfl) ?_)); (fail_if_success (refine e_dec false (by exact rfl) ?_)); refine e_part rfl rfl (fun h => ?_) (fun h => ?_)) | refine s_cond rfl (fun h => ?_) (fun h => ?_))
      · have hkl : k < L.length := by have := of_decide_eq_true h; omega
        clear h
        have hL256 : L[k] < 256 := by have := hLlt _ (List.getElem_mem hkl); omega
        refine e_yes rfl (o_n (n_indexA rfl rfl rfl rfl c rfl hlc) rfl ?_)
        refine e_yes rfl (o_n (n_dC rfl rfl .z rfl c hlc (by show 0 + 0 + c * 1 = c; omega)) rfl ?_)
        rw [hget]
        repeat' (first | refine e_nil ?_ | ((first | refine e_op ?_ | refine e_yes rfl ?_); (first | refine o_dNew rfl rfl rfl (fun _ => ?_) | refine o_dNew0 rfl rfl rfl (fun _ => ?_) | refine dAll rfl rfl rfl td uc rfl rfl rfl ?_ | refine dS rfl rfl rfl rfl rfl rfl rfl td uc rfl ?_ | refine o_n (n_b26 rfl rfl) rfl ?_ | refine o_n (n_b26NR rfl rfl rfl rfl rfl) rfl ?_ | refine o_n (n_b26R rfl rfl rfl rfl) rfl ?_ | refine o_n (n_b26CR rfl rfl rfl rfl) rfl ?_ | refine o_n (n_b91 rfl rfl rfl rfl rfl rfl) rfl ?_ | refine o_n (peval_sound rfl) rfl ?_ | refine o_n (nl rfl rfl tc rfl) rfl ?_ | refine o_n (dR rfl rfl td rfl rfl rfl) rfl ?_ | refine o_n (dA rfl rfl td rfl rfl) rfl ?_ | refine o_n (dK rfl rfl td rfl rfl) rfl ?_ | refine o_storeC rfl rfl rfl rfl tc uc rfl rfl rfl ?_ | refine o_box rfl rfl (fun _ => ?_) | refine o_box1 rfl rfl rfl (fun _ => ?_) | refine o_alloc rfl rfl (fun _ => ?_))) | refine e_noU rfl rfl rfl ?_ | refine e_noN rfl rfl ?_ | refine s_seq ?_ | refine s_region ?_ | refine s_end ?_ | refine s_skip ?_ | refine s_exit ?_ | refine s_true rfl ?_ | refine s_false rfl ?_ | refine x_code ?_ | refine x_back ?_ | refine x_miss rfl ?_)
        refine s_cond rfl (fun h => ?_) (fun h => ?_)
        · have hneg := of_decide_eq_true h
          have hno : v = -1 ∧ ∀ j (hj : j < L.length), j < k → sameB m st c L[j] = false := by rcases hv with h | h; exact h; omega
          obtain ⟨rfl, hno⟩ := hno
          repeat' (first | refine e_nil ?_ | ((first | refine e_op ?_ | refine e_yes rfl ?_); (first | refine o_dNew rfl rfl rfl (fun _ => ?_) | refine o_dNew0 rfl rfl rfl (fun _ => ?_) | refine dAll rfl rfl rfl td uc rfl rfl rfl ?_ | refine dS rfl rfl rfl rfl rfl rfl rfl td uc rfl ?_ | refine o_n (n_b26 rfl rfl) rfl ?_ | refine o_n (n_b26NR rfl rfl rfl rfl rfl) rfl ?_ | refine o_n (n_b26R rfl rfl rfl rfl) rfl ?_ | refine o_n (n_b26CR rfl rfl rfl rfl) rfl ?_ | refine o_n (n_b91 rfl rfl rfl rfl rfl rfl) rfl ?_ | refine o_n (peval_sound rfl) rfl ?_ | refine o_n (nl rfl rfl tc rfl) rfl ?_ | refine o_n (dR rfl rfl td rfl rfl rfl) rfl ?_ | refine o_n (dA rfl rfl td rfl rfl) rfl ?_ | refine o_n (dK rfl rfl td rfl rfl) rfl ?_ | refine o_storeC rfl rfl rfl rfl tc uc rfl rfl rfl ?_ | refine o_box rfl rfl (fun _ => ?_) | refine o_box1 rfl rfl rfl (fun _ => ?_) | refine o_alloc rfl rfl (fun _ => ?_))) | refine e_noU rfl rfl rfl ?_ | refine e_noN rfl rfl ?_ | refine s_seq ?_ | refine s_region ?_ | refine s_block ?_ | refine s_end ?_ | refine s_skip ?_ | refine s_exit ?_ | refine s_true rfl ?_ | refine s_false rfl ?_ | refine x_hit ?_ | refine x_code ?_ | refine x_back ?_ | refine x_miss rfl ?_)
          refine s_open (.s .z) (by omega) ?_
          rintro bL rfl
          refine s_drawU [8] Try.mixed (by decide +kernel) ?_
          repeat' (first | refine l_nil ?_ | ((first | refine l_no rfl rfl rfl ?_ rfl ?_ | refine l_noN rfl rfl ?_ rfl ?_ | refine l_n (n_b26 rfl rfl) rfl ?_ rfl ?_ | refine l_n (n_b26NR rfl rfl rfl rfl rfl) rfl ?_ rfl ?_ | refine l_n (n_b26R rfl rfl rfl rfl) rfl ?_ rfl ?_ | refine l_n (n_b26CR rfl rfl rfl rfl) rfl ?_ rfl ?_ | refine l_n (n_b91 rfl rfl rfl rfl rfl rfl) rfl ?_ rfl ?_ | refine l_n (peval_sound rfl) rfl ?_ rfl ?_ | refine l_n (nl rfl rfl tc rfl) rfl ?_ rfl ?_ | refine l_n (dR rfl rfl td rfl rfl rfl) rfl ?_ rfl ?_ | refine l_n (dA rfl rfl td rfl rfl) rfl ?_ rfl ?_ | refine l_n (dK rfl rfl td rfl rfl) rfl ?_ rfl ?_ | refine l_ny rfl (n_b26 rfl rfl) rfl ?_ rfl ?_ | refine l_ny rfl (n_b26NR rfl rfl rfl rfl rfl) rfl ?_ rfl ?_ | refine l_ny rfl (n_b26R rfl rfl rfl rfl) rfl ?_ rfl ?_ | refine l_ny rfl (n_b26CR rfl rfl rfl rfl) rfl ?_ rfl ?_ | refine l_ny rfl (n_b91 rfl rfl rfl rfl rfl rfl) rfl ?_ rfl ?_ | refine l_ny rfl (peval_sound rfl) rfl ?_ rfl ?_ | refine l_ny rfl (nl rfl rfl tc rfl) rfl ?_ rfl ?_ | refine l_ny rfl (dR rfl rfl td rfl rfl rfl) rfl ?_ rfl ?_ | refine l_ny rfl (dA rfl rfl td rfl rfl) rfl ?_ rfl ?_ | refine l_ny rfl (dK rfl rfl td rfl rfl) rfl ?_ rfl ?_); · (first | exact Ent.refl _ | assumption | repeat' (first | exact Ent.refl _ | exact Ent.nil _ | refine Ent.tak .z ?_ | refine Ent.wk ?_))))
          refine l_n (n_index rfl rfl rfl rfl k rfl hkl) rfl (Ent.refl _) rfl ?_
          refine l_n (n_load_osl (v := .int .i64 (L[k] : Nat)) rfl rfl (.s .z) (by simp [loadL, aggB, hkl])) rfl (Ent.refl _) rfl ?_
          refine l_e rfl (o_call (same_b_w _ m o (some ⟨ba, 0, none⟩) As m.Next.length ca st.length cs rfl st hst rfl c L[k] hlc hL256) rfl .nil (Can.and (Can.ro hR) (Can.and (can_ints (.s (.s (.s .z))) hIa (by omega)) (can_ints (.s (.s .z)) hIs (by omega)))) rfl ?_)
          rintro v V ⟨rfl, rfl⟩
          refine ⟨Ent.refl _, ?_⟩
          simp only [List.nil_append]
          repeat' (first | refine l_nil ?_ | ((first | refine l_no rfl rfl rfl ?_ rfl ?_ | refine l_noN rfl rfl ?_ rfl ?_ | refine l_n (n_b26 rfl rfl) rfl ?_ rfl ?_ | refine l_n (n_b26NR rfl rfl rfl rfl rfl) rfl ?_ rfl ?_ | refine l_n (n_b26R rfl rfl rfl rfl) rfl ?_ rfl ?_ | refine l_n (n_b26CR rfl rfl rfl rfl) rfl ?_ rfl ?_ | refine l_n (n_b91 rfl rfl rfl rfl rfl rfl) rfl ?_ rfl ?_ | refine l_n (peval_sound rfl) rfl ?_ rfl ?_ | refine l_n (nl rfl rfl tc rfl) rfl ?_ rfl ?_ | refine l_n (dR rfl rfl td rfl rfl rfl) rfl ?_ rfl ?_ | refine l_n (dA rfl rfl td rfl rfl) rfl ?_ rfl ?_ | refine l_n (dK rfl rfl td rfl rfl) rfl ?_ rfl ?_ | refine l_ny rfl (n_b26 rfl rfl) rfl ?_ rfl ?_ | refine l_ny rfl (n_b26NR rfl rfl rfl rfl rfl) rfl ?_ rfl ?_ | refine l_ny rfl (n_b26R rfl rfl rfl rfl) rfl ?_ rfl ?_ | refine l_ny rfl (n_b26CR rfl rfl rfl rfl) rfl ?_ rfl ?_ | refine l_ny rfl (n_b91 rfl rfl rfl rfl rfl rfl) rfl ?_ rfl ?_ | refine l_ny rfl (peval_sound rfl) rfl ?_ rfl ?_ | refine l_ny rfl (nl rfl rfl tc rfl) rfl ?_ rfl ?_ | refine l_ny rfl (dR rfl rfl td rfl rfl rfl) rfl ?_ rfl ?_ | refine l_ny rfl (dA rfl rfl td rfl rfl) rfl ?_ rfl ?_ | refine l_ny rfl (dK rfl rfl td rfl rfl) rfl ?_ rfl ?_); · (first | exact Ent.refl _ | assumption | repeat' (first | exact Ent.refl _ | exact Ent.nil _ | refine Ent.tak .z ?_ | refine Ent.wk ?_))))
          refine s_cond rfl (fun h => ?_) (fun h => ?_)
          · have hfk := fk_at hkl hno h
            repeat' (first | refine e_nil ?_ | ((first | refine e_op ?_ | refine e_yes rfl ?_); (first | refine o_dNew rfl rfl rfl (fun _ => ?_) | refine o_dNew0 rfl rfl rfl (fun _ => ?_) | refine dAll rfl rfl rfl td uc rfl rfl rfl ?_ | refine dS rfl rfl rfl rfl rfl rfl rfl td uc rfl ?_ | refine o_n (n_b26 rfl rfl) rfl ?_ | refine o_n (n_b26NR rfl rfl rfl rfl rfl) rfl ?_ | refine o_n (n_b26R rfl rfl rfl rfl) rfl ?_ | refine o_n (n_b26CR rfl rfl rfl rfl) rfl ?_ | refine o_n (n_b91 rfl rfl rfl rfl rfl rfl) rfl ?_ | refine o_n (peval_sound rfl) rfl ?_ | refine o_n (nl rfl rfl tc rfl) rfl ?_ | refine o_n (dR rfl rfl td rfl rfl rfl) rfl ?_ | refine o_n (dA rfl rfl td rfl rfl) rfl ?_ | refine o_n (dK rfl rfl td rfl rfl) rfl ?_ | refine o_storeC rfl rfl rfl rfl tc uc rfl rfl rfl ?_ | refine o_box rfl rfl (fun _ => ?_) | refine o_box1 rfl rfl rfl (fun _ => ?_) | refine o_alloc rfl rfl (fun _ => ?_))) | refine e_noU rfl rfl rfl ?_ | refine e_noN rfl rfl ?_ | refine s_seq ?_ | refine s_region ?_ | refine s_block ?_ | refine s_end ?_ | refine s_skip ?_ | refine s_exit ?_ | refine s_true rfl ?_ | refine s_false rfl ?_ | refine x_hit ?_ | refine x_code ?_ | refine x_back ?_ | refine x_miss rfl ?_)
            refine e_op (o_n (n_indexA rfl rfl rfl rfl c rfl hlc) rfl ?_)
            refine e_op (o_dC rfl rfl rfl rfl c hlc (by show 0 + 0 + c * 1 = c; omega) .z ?_)
            repeat' (first | refine e_nil ?_ | ((first | refine e_op ?_ | refine e_yes rfl ?_); (first | refine o_dNew rfl rfl rfl (fun _ => ?_) | refine o_dNew0 rfl rfl rfl (fun _ => ?_) | refine dAll rfl rfl rfl td uc rfl rfl rfl ?_ | refine dS rfl rfl rfl rfl rfl rfl rfl td uc rfl ?_ | refine o_n (n_b26 rfl rfl) rfl ?_ | refine o_n (n_b26NR rfl rfl rfl rfl rfl) rfl ?_ | refine o_n (n_b26R rfl rfl rfl rfl) rfl ?_ | refine o_n (n_b26CR rfl rfl rfl rfl) rfl ?_ | refine o_n (n_b91 rfl rfl rfl rfl rfl rfl) rfl ?_ | refine o_n (peval_sound rfl) rfl ?_ | refine o_n (nl rfl rfl tc rfl) rfl ?_ | refine o_n (dR rfl rfl td rfl rfl rfl) rfl ?_ | refine o_n (dA rfl rfl td rfl rfl) rfl ?_ | refine o_n (dK rfl rfl td rfl rfl) rfl ?_ | refine o_storeC rfl rfl rfl rfl tc uc rfl rfl rfl ?_ | refine o_box rfl rfl (fun _ => ?_) | refine o_box1 rfl rfl rfl (fun _ => ?_) | refine o_alloc rfl rfl (fun _ => ?_))) | refine e_noU rfl rfl rfl ?_ | refine e_noN rfl rfl ?_ | refine s_seq ?_ | refine s_region ?_ | refine s_block ?_ | refine s_end ?_ | refine s_skip ?_ | refine s_exit ?_ | refine s_true rfl ?_ | refine s_false rfl ?_ | refine x_hit ?_ | refine x_code ?_ | refine x_back ?_ | refine x_miss rfl ?_)
            refine s_back ⟨⟨(k + 1, (k : Int)), by simp only; omega, .inr ⟨by rw [hfk], by rw [hfk]; exact hkl⟩⟩, by simp only; omega, ?_, ?_⟩
            · repeat' (first | exact Sub.nil _ | refine Sub.cons rfl ?_ | refine Sub.consE rfl ?_ ?_)
              exact inc (i := k) (by omega)
            · rw [C256.set_set]; exact Ent.refl _
          · repeat' (first | refine e_nil ?_ | ((first | refine e_op ?_ | refine e_yes rfl ?_); (first | refine o_dNew rfl rfl rfl (fun _ => ?_) | refine o_dNew0 rfl rfl rfl (fun _ => ?_) | refine dAll rfl rfl rfl td uc rfl rfl rfl ?_ | refine dS rfl rfl rfl rfl rfl rfl rfl td uc rfl ?_ | refine o_n (n_b26 rfl rfl) rfl ?_ | refine o_n (n_b26NR rfl rfl rfl rfl rfl) rfl ?_ | refine o_n (n_b26R rfl rfl rfl rfl) rfl ?_ | refine o_n (n_b26CR rfl rfl rfl rfl) rfl ?_ | refine o_n (n_b91 rfl rfl rfl rfl rfl rfl) rfl ?_ | refine o_n (peval_sound rfl) rfl ?_ | refine o_n (nl rfl rfl tc rfl) rfl ?_ | refine o_n (dR rfl rfl td rfl rfl rfl) rfl ?_ | refine o_n (dA rfl rfl td rfl rfl) rfl ?_ | refine o_n (dK rfl rfl td rfl rfl) rfl ?_ | refine o_storeC rfl rfl rfl rfl tc uc rfl rfl rfl ?_ | refine o_box rfl rfl (fun _ => ?_) | refine o_box1 rfl rfl rfl (fun _ => ?_) | refine o_alloc rfl rfl (fun _ => ?_))) | refine e_noU rfl rfl rfl ?_ | refine e_noN rfl rfl ?_ | refine s_seq ?_ | refine s_region ?_ | refine s_block ?_ | refine s_end ?_ | refine s_skip ?_ | refine s_exit ?_ | refine s_true rfl ?_ | refine s_false rfl ?_ | refine x_hit ?_ | refine x_code ?_ | refine x_back ?_ | refine x_miss rfl ?_)
            refine s_back ⟨⟨(k + 1, (-1 : Int)), by simp only; omega, .inl ⟨rfl, fun j hj hjk => ?_⟩⟩, by simp only; omega, ?_, Ent.refl _⟩
            · by_cases e : j = k
              · subst e; exact h
              · exact hno j hj (by simp only at hjk; omega)
            · repeat' (first | exact Sub.nil _ | refine Sub.cons rfl ?_ | refine Sub.consE rfl ?_ ?_)
              exact inc (i := k) (by omega)
        · have hneg := of_decide_eq_false h
          have hyes : v = (fk m st c L : Nat) ∧ fk m st c L < L.length := by rcases hv with h | h; omega; exact h
          repeat' (first | refine e_nil ?_ | ((first | refine e_op ?_ | refine e_yes rfl ?_); (first | refine o_dNew rfl rfl rfl (fun _ => ?_) | refine o_dNew0 rfl rfl rfl (fun _ => ?_) | refine dAll rfl rfl rfl td uc rfl rfl rfl ?_ | refine dS rfl rfl rfl rfl rfl rfl rfl td uc rfl ?_ | refine o_n (n_b26 rfl rfl) rfl ?_ | refine o_n (n_b26NR rfl rfl rfl rfl rfl) rfl ?_ | refine o_n (n_b26R rfl rfl rfl rfl) rfl ?_ | refine o_n (n_b26CR rfl rfl rfl rfl) rfl ?_ | refine o_n (n_b91 rfl rfl rfl rfl rfl rfl) rfl ?_ | refine o_n (peval_sound rfl) rfl ?_ | refine o_n (nl rfl rfl tc rfl) rfl ?_ | refine o_n (dR rfl rfl td rfl rfl rfl) rfl ?_ | refine o_n (dA rfl rfl td rfl rfl) rfl ?_ | refine o_n (dK rfl rfl td rfl rfl) rfl ?_ | refine o_storeC rfl rfl rfl rfl tc uc rfl rfl rfl ?_ | refine o_box rfl rfl (fun _ => ?_) | refine o_box1 rfl rfl rfl (fun _ => ?_) | refine o_alloc rfl rfl (fun _ => ?_))) | refine e_noU rfl rfl rfl ?_ | refine e_noN rfl rfl ?_ | refine s_seq ?_ | refine s_region ?_ | refine s_end ?_ | refine s_skip ?_ | refine s_exit ?_ | refine s_true rfl ?_ | refine s_false rfl ?_ | refine x_code ?_ | refine x_back ?_ | refine x_miss rfl ?_)
          refine x_hit (s_weak ?_ (Ent.refl _) (hfin ⟨v, .inr hyes⟩))
          repeat' (first | exact Sub.nil _ | refine Sub.cons rfl ?_ | refine Sub.consE rfl ?_ ?_)
      · have hkl : k = L.length := by have := of_decide_eq_false h; omega
        subst hkl
        have hyes : (v = -1 ∧ fk m st c L = L.length) ∨ (v = (fk m st c L : Nat) ∧ fk m st c L < L.length) := by
          rcases hv with h | h
          · exact .inl ⟨h.1, fk_end (fun j hj => h.2 j hj hj)⟩
          · exact .inr h
        refine x_hit (s_weak ?_ (Ent.refl _) (hfin ⟨v, hyes⟩))
        repeat' (first | exact Sub.nil _ | refine Sub.cons rfl ?_ | refine Sub.consE rfl ?_ ?_)
    rintro ⟨v, hv⟩
    simp only
    have hget : (cc.set c v).get c = v := by rw [C256.get_set _ _ _ _ hlc, if_pos rfl]
    repeat' (first | refine e_nil ?_ | ((first | refine e_op ?_ | refine e_yes rfl ?_); (first | refine o_dNew rfl rfl rfl (fun _ => ?_) | refine o_dNew0 rfl rfl rfl (fun _ => ?_) | refine dAll rfl rfl rfl td uc rfl rfl rfl ?_ | refine dS rfl rfl rfl rfl rfl rfl rfl td uc rfl ?_ | refine o_n (n_b26 rfl rfl) rfl ?_ | refine o_n (n_b26NR rfl rfl rfl rfl rfl) rfl ?_ | refine o_n (n_b26R rfl rfl rfl rfl) rfl ?_ | refine o_n (n_b26CR rfl rfl rfl rfl) rfl ?_ | refine o_n (n_b91 rfl rfl rfl rfl rfl rfl) rfl ?_ | refine o_n (peval_sound rfl) rfl ?_ | refine o_n (nl rfl rfl tc rfl) rfl ?_ | refine o_n (dR rfl rfl td rfl rfl rfl) rfl ?_ | refine o_n (dA rfl rfl td rfl rfl) rfl ?_ | refine o_n (dK rfl rfl td rfl rfl) rfl ?_ | refine o_storeC rfl rfl rfl rfl tc uc rfl rfl rfl ?_ | refine o_box rfl rfl (fun _ => ?_) | refine o_box1 rfl rfl rfl (fun _ => ?_) | refine o_alloc rfl rfl (fun _ => ?_))) | refine e_noU rfl rfl rfl ?_ | refine e_noN rfl rfl ?_ | refine s_seq ?_ | refine s_region ?_ | refine s_block ?_ | refine s_end ?_ | refine s_skip ?_ | refine s_exit ?_ | refine s_true rfl ?_ | refine s_false rfl ?_ | refine x_hit ?_ | refine x_code ?_ | refine x_back ?_ | refine x_miss rfl ?_)
    refine e_op (o_n (n_indexA rfl rfl rfl rfl c rfl hlc) rfl ?_)
    refine e_op (o_n (n_dC rfl rfl .z rfl c hlc (by show 0 + 0 + c * 1 = c; omega)) rfl ?_)
    rw [hget]
    repeat' (first | refine e_nil ?_ | ((first | refine e_op ?_ | refine e_yes rfl ?_); (first | refine o_dNew rfl rfl rfl (fun _ => ?_) | refine o_dNew0 rfl rfl rfl (fun _ => ?_) | refine dAll rfl rfl rfl td uc rfl rfl rfl ?_ | refine dS rfl rfl rfl rfl rfl rfl rfl td uc rfl ?_ | refine o_n (n_b26 rfl rfl) rfl ?_ | refine o_n (n_b26NR rfl rfl rfl rfl rfl) rfl ?_ | refine o_n (n_b26R rfl rfl rfl rfl) rfl ?_ | refine o_n (n_b26CR rfl rfl rfl rfl) rfl ?_ | refine o_n (n_b91 rfl rfl rfl rfl rfl rfl) rfl ?_ | refine o_n (peval_sound rfl) rfl ?_ | refine o_n (nl rfl rfl tc rfl) rfl ?_ | refine o_n (dR rfl rfl td rfl rfl rfl) rfl ?_ | refine o_n (dA rfl rfl td rfl rfl) rfl ?_ | refine o_n (dK rfl rfl td rfl rfl) rfl ?_ | refine o_storeC rfl rfl rfl rfl tc uc rfl rfl rfl ?_ | refine o_box rfl rfl (fun _ => ?_) | refine o_box1 rfl rfl rfl (fun _ => ?_) | refine o_alloc rfl rfl (fun _ => ?_))) | refine e_noU rfl rfl rfl ?_ | refine e_noN rfl rfl ?_ | refine s_seq ?_ | refine s_region ?_ | refine s_block ?_ | refine s_end ?_ | refine s_skip ?_ | refine s_exit ?_ | refine s_true rfl ?_ | refine s_false rfl ?_ | refine x_hit ?_ | refine x_code ?_ | refine x_back ?_ | refine x_miss rfl ?_)
    refine s_cond rfl (fun h => ?_) (fun h => ?_)
    · have hneg := of_decide_eq_true h
      have hfk : v = -1 ∧ fk m st c L = L.length := by rcases hv with h | h; exact h; omega
      obtain ⟨rfl, hfk⟩ := hfk
      have hLs2 : Lc m st (c + 1) = L ++ [c] := by rw [hLs]; unfold lcS; rw [if_pos hfk]
      repeat' (first | refine e_nil ?_ | ((first | refine e_op ?_ | refine e_yes rfl ?_); (first | refine o_dNew rfl rfl rfl (fun _ => ?_) | refine o_dNew0 rfl rfl rfl (fun _ => ?_) | refine dAll rfl rfl rfl td uc rfl rfl rfl ?_ | refine dS rfl rfl rfl rfl rfl rfl rfl td uc rfl ?_ | refine o_n (n_b26 rfl rfl) rfl ?_ | refine o_n (n_b26NR rfl rfl rfl rfl rfl) rfl ?_ | refine o_n (n_b26R rfl rfl rfl rfl) rfl ?_ | refine o_n (n_b26CR rfl rfl rfl rfl) rfl ?_ | refine o_n (n_b91 rfl rfl rfl rfl rfl rfl) rfl ?_ | refine o_n (peval_sound rfl) rfl ?_ | refine o_n (nl rfl rfl tc rfl) rfl ?_ | refine o_n (dR rfl rfl td rfl rfl rfl) rfl ?_ | refine o_n (dA rfl rfl td rfl rfl) rfl ?_ | refine o_n (dK rfl rfl td rfl rfl) rfl ?_ | refine o_storeC rfl rfl rfl rfl tc uc rfl rfl rfl ?_ | refine o_box rfl rfl (fun _ => ?_) | refine o_box1 rfl rfl rfl (fun _ => ?_) | refine o_alloc rfl rfl (fun _ => ?_))) | refine e_noU rfl rfl rfl ?_ | refine e_noN rfl rfl ?_ | refine s_seq ?_ | refine s_region ?_ | refine s_block ?_ | refine s_end ?_ | refine s_skip ?_ | refine s_exit ?_ | refine s_true rfl ?_ | refine s_false rfl ?_ | refine x_hit ?_ | refine x_code ?_ | refine x_back ?_ | refine x_miss rfl ?_)
      refine e_op (o_n (n_indexA rfl rfl rfl rfl c rfl hlc) rfl ?_)
      refine e_op (o_dC rfl rfl rfl rfl c hlc (by show 0 + 0 + c * 1 = c; omega) .z ?_)
      rw [C256.set_set]
      repeat' (first | refine e_nil ?_ | ((first | refine e_op ?_ | refine e_yes rfl ?_); (first | refine o_dNew rfl rfl rfl (fun _ => ?_) | refine o_dNew0 rfl rfl rfl (fun _ => ?_) | refine dAll rfl rfl rfl td uc rfl rfl rfl ?_ | refine dS rfl rfl rfl rfl rfl rfl rfl td uc rfl ?_ | refine o_n (n_b26 rfl rfl) rfl ?_ | refine o_n (n_b26NR rfl rfl rfl rfl rfl) rfl ?_ | refine o_n (n_b26R rfl rfl rfl rfl) rfl ?_ | refine o_n (n_b26CR rfl rfl rfl rfl) rfl ?_ | refine o_n (n_b91 rfl rfl rfl rfl rfl rfl) rfl ?_ | refine o_n (peval_sound rfl) rfl ?_ | refine o_n (nl rfl rfl tc rfl) rfl ?_ | refine o_n (dR rfl rfl td rfl rfl rfl) rfl ?_ | refine o_n (dA rfl rfl td rfl rfl) rfl ?_ | refine o_n (dK rfl rfl td rfl rfl) rfl ?_ | refine o_storeC rfl rfl rfl rfl tc uc rfl rfl rfl ?_ | refine o_box rfl rfl (fun _ => ?_) | refine o_box1 rfl rfl rfl (fun _ => ?_) | refine o_alloc rfl rfl (fun _ => ?_))) | refine e_noU rfl rfl rfl ?_ | refine e_noN rfl rfl ?_ | refine s_seq ?_ | refine s_region ?_ | refine s_block ?_ | refine s_end ?_ | refine s_skip ?_ | refine s_exit ?_ | refine s_true rfl ?_ | refine s_false rfl ?_ | refine x_hit ?_ | refine x_code ?_ | refine x_back ?_ | refine x_miss rfl ?_)
      refine e_op (o_lit (ps := [(0, .int .i64 c)]) (cs := [.int .i64 c]) rfl rfl rfl rfl rfl rfl rfl (fun b10 => ?_))
      refine e_op (o_append (v := .slice AL L.length cL) (n := L.length) (m := 1) (news := [.int .i64 c]) _ rfl rfl rfl rfl (fun w hm j u hu => ?_) rfl ?_ rfl (by omega) (by simp only; omega) (by omega) rfl (fun b c => .s (.s .z)) (fun bb cb => ?_))
      · obtain ⟨S1, hP, _⟩ := hm.tak Tak.z
        rw [Nat.zero_add]
        exact osl_cells hP j u hu
      · intro u hu
        simp only [List.mem_cons, List.not_mem_nil, or_false] at hu
        subst hu; rfl
      repeat' (first | refine e_nil ?_ | ((first | refine e_op ?_ | refine e_yes rfl ?_); (first | refine o_dNew rfl rfl rfl (fun _ => ?_) | refine o_dNew0 rfl rfl rfl (fun _ => ?_) | refine dAll rfl rfl rfl td uc rfl rfl rfl ?_ | refine dS rfl rfl rfl rfl rfl rfl rfl td uc rfl ?_ | refine o_n (n_b26 rfl rfl) rfl ?_ | refine o_n (n_b26NR rfl rfl rfl rfl rfl) rfl ?_ | refine o_n (n_b26R rfl rfl rfl rfl) rfl ?_ | refine o_n (n_b26CR rfl rfl rfl rfl) rfl ?_ | refine o_n (n_b91 rfl rfl rfl rfl rfl rfl) rfl ?_ | refine o_n (peval_sound rfl) rfl ?_ | refine o_n (nl rfl rfl tc rfl) rfl ?_ | refine o_n (dR rfl rfl td rfl rfl rfl) rfl ?_ | refine o_n (dA rfl rfl td rfl rfl) rfl ?_ | refine o_n (dK rfl rfl td rfl rfl) rfl ?_ | refine o_storeC rfl rfl rfl rfl tc uc rfl rfl rfl ?_ | refine o_box rfl rfl (fun _ => ?_) | refine o_box1 rfl rfl rfl (fun _ => ?_) | refine o_alloc rfl rfl (fun _ => ?_))) | refine e_noU rfl rfl rfl ?_ | refine e_noN rfl rfl ?_ | refine s_seq ?_ | refine s_region ?_ | refine s_block ?_ | refine s_end ?_ | refine s_skip ?_ | refine s_exit ?_ | refine s_true rfl ?_ | refine s_false rfl ?_ | refine x_hit ?_ | refine x_code ?_ | refine x_back ?_ | refine x_miss rfl ?_)
      refine s_back ⟨⟨(c + 1, some ⟨bb, 0, none⟩, cb, cc.set c (L.length : Nat)), by omega, fun j hj => ?_⟩, by simp only; omega, ?_, ?_⟩
      · simp only
        rw [C256.get_set _ _ _ _ hlc]
        by_cases e : j = c
        · rw [if_pos e, e, hL, hfk]
        · rw [if_neg e]; exact hcls j (by simp only at hj; omega)
      · simp only [hLs2, List.length_append, List.length_singleton]
        repeat' (first | exact Sub.nil _ | refine Sub.cons rfl ?_ | refine Sub.consE rfl ?_ ?_)
        exact inc (i := c) (by omega)
      · simp only [hLs2, List.length_append, List.length_singleton, List.map_append, List.map_cons, List.map_nil, pI]
        exact Ent.wk (Ent.refl _)
    · have hneg := of_decide_eq_false h
      have hfk : v = (fk m st c L : Nat) ∧ fk m st c L < L.length := by rcases hv with h | h; omega; exact h
      have hLs2 : Lc m st (c + 1) = L := by rw [hLs]; unfold lcS; rw [if_neg (by omega)]
      repeat' (first | refine e_nil ?_ | ((first | refine e_op ?_ | refine e_yes rfl ?_); (first | refine o_dNew rfl rfl rfl (fun _ => ?_) | refine o_dNew0 rfl rfl rfl (fun _ => ?_) | refine dAll rfl rfl rfl td uc rfl rfl rfl ?_ | refine dS rfl rfl rfl rfl rfl rfl rfl td uc rfl ?_ | refine o_n (n_b26 rfl rfl) rfl ?_ | refine o_n (n_b26NR rfl rfl rfl rfl rfl) rfl ?_ | refine o_n (n_b26R rfl rfl rfl rfl) rfl ?_ | refine o_n (n_b26CR rfl rfl rfl rfl) rfl ?_ | refine o_n (n_b91 rfl rfl rfl rfl rfl rfl) rfl ?_ | refine o_n (peval_sound rfl) rfl ?_ | refine o_n (nl rfl rfl tc rfl) rfl ?_ | refine o_n (dR rfl rfl td rfl rfl rfl) rfl ?_ | refine o_n (dA rfl rfl td rfl rfl) rfl ?_ | refine o_n (dK rfl rfl td rfl rfl) rfl ?_ | refine o_storeC rfl rfl rfl rfl tc uc rfl rfl rfl ?_ | refine o_box rfl rfl (fun _ => ?_) | refine o_box1 rfl rfl rfl (fun _ => ?_) | refine o_alloc rfl rfl (fun _ => ?_))) | refine e_noU rfl rfl rfl ?_ | refine e_noN rfl rfl ?_ | refine s_seq ?_ | refine s_region ?_ | refine s_block ?_ | refine s_end ?_ | refine s_skip ?_ | refine s_exit ?_ | refine s_true rfl ?_ | refine s_false rfl ?_ | refine x_hit ?_ | refine x_code ?_ | refine x_back ?_ | refine x_miss rfl ?_)
      refine s_back ⟨⟨(c + 1, AL, cL, cc.set c v), by omega, fun j hj => ?_⟩, by simp only; omega, ?_, ?_⟩
      · simp only
        rw [C256.get_set _ _ _ _ hlc]
        by_cases e : j = c
        · rw [if_pos e, e, hL]; exact hfk.1
        · rw [if_neg e]; exact hcls j (by simp only at hj; omega)
      · simp only [hLs2]
        repeat' (first | exact Sub.nil _ | refine Sub.cons rfl ?_ | refine Sub.consE rfl ?_ ?_)
        exact inc (i := c) (by omega)
      · simp only [hLs2]
        exact Ent.refl _
  have hc256 : c = 256 := by have := of_decide_eq_false h; omega
  subst hc256
  clear h hc
  have hcc : cc = clsL m st := C256.ext_get (fun j hj => by
    rw [hcls j hj, C256.get_eq _ (by rw [C256.h]; exact hj)]
    unfold clsL
    rw [List.getElem_map, List.getElem_range])
  subst hcc
  have hlm : ofM m = ⟨clsL m st, st.map (nRow m st (Lc m st 256)), st.map (rl m)⟩ := by unfold ofM leastM; rw [if_pos he, hfin0]; rfl
  generalize hL : Lc m st 256 = L at *
  repeat' (first | refine e_nil ?_ | ((first | refine e_op ?_ | refine e_yes rfl ?_); (first | refine o_dNew rfl rfl rfl (fun _ => ?_) | refine o_dNew0 rfl rfl rfl (fun _ => ?_) | refine dAll rfl rfl rfl td uc rfl rfl rfl ?_ | refine dS rfl rfl rfl rfl rfl rfl rfl td uc rfl ?_ | refine o_n (n_b26 rfl rfl) rfl ?_ | refine o_n (n_b26NR rfl rfl rfl rfl rfl) rfl ?_ | refine o_n (n_b26R rfl rfl rfl rfl) rfl ?_ | refine o_n (n_b26CR rfl rfl rfl rfl) rfl ?_ | refine o_n (n_b91 rfl rfl rfl rfl rfl rfl) rfl ?_ | refine o_n (peval_sound rfl) rfl ?_ | refine o_n (nl rfl rfl tc rfl) rfl ?_ | refine o_n (dR rfl rfl td rfl rfl rfl) rfl ?_ | refine o_n (dA rfl rfl td rfl rfl) rfl ?_ | refine o_n (dK rfl rfl td rfl rfl) rfl ?_ | refine o_storeC rfl rfl rfl rfl tc uc rfl rfl rfl ?_ | refine o_box rfl rfl (fun _ => ?_) | refine o_box1 rfl rfl rfl (fun _ => ?_) | refine o_alloc rfl rfl (fun _ => ?_))) | refine e_noU rfl rfl rfl ?_ | refine e_noN rfl rfl ?_ | refine s_seq ?_ | refine s_region ?_ | refine s_block ?_ | refine s_end ?_ | refine s_skip ?_ | refine s_exit ?_ | refine s_true rfl ?_ | refine s_false rfl ?_ | refine x_hit ?_ | refine x_code ?_ | refine x_back ?_ | refine x_miss rfl ?_)
  refine s_loopK (ι := {x : Nat × (Option Addr × Nat) × (Option Addr × Nat) × List (Option Addr × Nat) // x.1 ≤ st.length ∧ x.2.2.2.length = x.1}) [1, 2, 5, 7, 11, 12] rfl ⟨(0, (none, 0), (none, 0), []), by simp⟩ (fun x => [(15, .int .i64 x.1.1)])
    (fun x => blk b11 26 (dC (clsL m st) [.slice x.1.2.1.1 x.1.1 x.1.2.1.2, .slice x.1.2.2.1.1 x.1.1 x.1.2.2.1.2]) :: osl 24 1 (.slice x.1.2.1.1 x.1.1 x.1.2.1.2) x.1.1 (E.rowC x.1.2.2.2 ((st.take x.1.1).map (nRow m st L))) :: pI x.1.2.2.1.1 x.1.1 x.1.2.2.1.2 ((st.take x.1.1).map (rl m)) :: pI AL L.length cL (L.map fun (a : Nat) => (a : Int)) :: pI As st.length cs st :: pI (some ⟨ba, 0, none⟩) m.Next.length ca (alM m) :: blk b1 26 (dC m.Class [.slice A1 m.Next.length c1, .slice A2 m.Rule.length c2]) :: blk b2 26 (dC .zero [nilS, nilS]) :: (E.rowL (Value.int .i64) 3 x.1.2.2.2 ((st.take x.1.1).map (nRow m st L)) ++ [])) (fun x => st.length - x.1.1) ?_ ?_ ?_
  · repeat' (first | exact Sub.nil _ | refine Sub.cons rfl ?_ | refine Sub.consE rfl ?_ ?_)
  · exact Ent.tak .z (Ent.osl0 (Ent.osl0 (Ent.refl _)))
  rintro ⟨⟨i, ⟨AN, cN⟩, ⟨AR, cR⟩, acs⟩, hi, hacs⟩
  simp only at hi hacs ⊢
  repeat' (first | refine e_nil ?_ | ((first | refine e_op ?_ | refine e_yes rfl ?_); (first | refine o_dNew rfl rfl rfl (fun _ => ?_) | refine o_dNew0 rfl rfl rfl (fun _ => ?_) | refine dAll rfl rfl rfl td uc rfl rfl rfl ?_ | refine dS rfl rfl rfl rfl rfl rfl rfl td uc rfl ?_ | refine o_n (n_b26 rfl rfl) rfl ?_ | refine o_n (n_b26NR rfl rfl rfl rfl rfl) rfl ?_ | refine o_n (n_b26R rfl rfl rfl rfl) rfl ?_ | refine o_n (n_b26CR rfl rfl rfl rfl) rfl ?_ | refine o_n (n_b91 rfl rfl rfl rfl rfl rfl) rfl ?_ | refine o_n (peval_sound rfl) rfl ?_ | refine o_n (nl rfl rfl tc rfl) rfl ?_ | refine o_n (dR rfl rfl td rfl rfl rfl) rfl ?_ | refine o_n (dA rfl rfl td rfl rfl) rfl ?_ | refine o_n (dK rfl rfl td rfl rfl) rfl ?_ | refine o_storeC rfl rfl rfl rfl tc uc rfl rfl rfl ?_ | refine o_box rfl rfl (fun _ => ?_) | refine o_box1 rfl rfl rfl (fun _ => ?_) | refine o_alloc rfl rfl (fun _ => ?_))) | refine e_noU rfl rfl rfl ?_ | refine e_noN rfl rfl ?_ | refine s_seq ?_ | refine s_region ?_ | refine s_block ?_ | refine s_end ?_ | refine s_skip ?_ | refine s_exit ?_ | refine s_true rfl ?_ | refine s_false rfl ?_ | refine x_hit ?_ | refine x_code ?_ | refine x_back ?_ | refine x_miss rfl ?_)
  refine s_cond rfl (fun h => ?_) (fun h => ?_)
  · have hlt : i < st.length := by have := of_decide_eq_true h; omega
    clear h
    have hsm : st[i] ∈ st := List.getElem_mem hlt
    obtain ⟨s, hs⟩ : ∃ s : Nat, st[i] = (s : Int) := ⟨st[i].toNat, by have := (hst.rng _ hsm).1; omega⟩
    rw [hs] at hsm
    have hsn : s < m.Next.length := by have := (hst.rng _ hsm).2; omega
    have htk : st.take (i + 1) = st.take i ++ [(s : Int)] := by rw [List.take_succ_eq_append_getElem hlt, hs]
    have hsR : s < m.Rule.length := by rw [o.r]; exact hsn
    have hld : loadL ⟨.int .i64, 1, 8, [.int .i64 0]⟩ (st.map (Value.int .i64)) (0 + i * 1) = some (.int .i64 s) := by
      simp [loadL, aggB, hlt, hs]
    repeat' (first | refine e_nil ?_ | ((first | refine e_op ?_ | refine e_yes rfl ?_); (first | refine o_dNew rfl rfl rfl (fun _ => ?_) | refine o_dNew0 rfl rfl rfl (fun _ => ?_) | refine dAll rfl rfl rfl td uc rfl rfl rfl ?_ | refine dS rfl rfl rfl rfl rfl rfl rfl td uc rfl ?_ | refine o_n (n_b26 rfl rfl) rfl ?_ | refine o_n (n_b26NR rfl rfl rfl rfl rfl) rfl ?_ | refine o_n (n_b26R rfl rfl rfl rfl) rfl ?_ | refine o_n (n_b26CR rfl rfl rfl rfl) rfl ?_ | refine o_n (n_b91 rfl rfl rfl rfl rfl rfl) rfl ?_ | refine o_n (peval_sound rfl) rfl ?_ | refine o_n (nl rfl rfl tc rfl) rfl ?_ | refine o_n (dR rfl rfl td rfl rfl rfl) rfl ?_ | refine o_n (dA rfl rfl td rfl rfl) rfl ?_ | refine o_n (dK rfl rfl td rfl rfl) rfl ?_ | refine o_storeC rfl rfl rfl rfl tc uc rfl rfl rfl ?_ | refine o_box rfl rfl (fun _ => ?_) | refine o_box1 rfl rfl rfl (fun _ => ?_) | refine o_alloc rfl rfl (fun _ => ?_))) | refine e_noU rfl rfl rfl ?_ | refine e_noN rfl rfl ?_ | refine s_seq ?_ | refine s_region ?_ | refine s_block ?_ | refine s_end ?_ | refine s_skip ?_ | refine s_exit ?_ | refine s_true rfl ?_ | refine s_false rfl ?_ | refine x_hit ?_ | refine x_code ?_ | refine x_back ?_ | refine x_miss rfl ?_)
    refine s_loopK (ι := {y : Nat × Option Addr × Nat // y.1 ≤ L.length}) [1, 2, 5, 7, 11, 12, 15] rfl ⟨(0, none, 0), by simp⟩ (fun x => [(17, .int .i64 x.1.1), (16, .slice x.1.2.1 x.1.1 x.1.2.2)])
      (fun y => pI y.1.2.1 y.1.1 y.1.2.2 ((L.take y.1.1).map fun c => findI st (go m s c)) :: blk b11 26 (dC (clsL m st) [.slice AN i cN, .slice AR i cR]) :: osl 24 1 (.slice AN i cN) i (E.rowC acs ((st.take i).map (nRow m st L))) :: pI AR i cR ((st.take i).map (rl m)) :: pI AL L.length cL (L.map fun (a : Nat) => (a : Int)) :: pI As st.length cs st :: pI (some ⟨ba, 0, none⟩) m.Next.length ca (alM m) :: blk b1 26 (dC m.Class [.slice A1 m.Next.length c1, .slice A2 m.Rule.length c2]) :: blk b2 26 (dC .zero [nilS, nilS]) :: (E.rowL (Value.int .i64) 3 acs ((st.take i).map (nRow m st L)) ++ [])) (fun x => L.length - x.1.1) ?_ ?_ ?_
    · repeat' (first | exact Sub.nil _ | refine Sub.cons rfl ?_ | refine Sub.consE rfl ?_ ?_)
    · exact Ent.osl0 (Ent.refl _)
    rintro ⟨⟨j, A17, c17⟩, hj⟩
    simp only at hj ⊢
    repeat' (first | refine e_nil ?_ | ((first | refine e_op ?_ | refine e_yes rfl ?_); (first | refine o_dNew rfl rfl rfl (fun _ => ?_) | refine o_dNew0 rfl rfl rfl (fun _ => ?_) | refine dAll rfl rfl rfl td uc rfl rfl rfl ?_ | refine dS rfl rfl rfl rfl rfl rfl rfl td uc rfl ?_ | refine o_n (n_b26 rfl rfl) rfl ?_ | refine o_n (n_b26NR rfl rfl rfl rfl rfl) rfl ?_ | refine o_n (n_b26R rfl rfl rfl rfl) rfl ?_ | refine o_n (n_b26CR rfl rfl rfl rfl) rfl ?_ | refine o_n (n_b91 rfl rfl rfl rfl rfl rfl) rfl ?_ | refine o_n (peval_sound rfl) rfl ?_ | refine o_n (nl rfl rfl tc rfl) rfl ?_ | refine o_n (dR rfl rfl td rfl rfl rfl) rfl ?_ | refine o_n (dA rfl rfl td rfl rfl) rfl ?_ | refine o_n (dK rfl rfl td rfl rfl) rfl ?_ | refine o_storeC rfl rfl rfl rfl tc uc rfl rfl rfl ?_ | refine o_box rfl rfl (fun _ => ?_) | refine o_box1 rfl rfl rfl (fun _ => ?_) | refine o_alloc rfl rfl (fun _ => ?_))) | refine e_noU rfl rfl rfl ?_ | refine e_noN rfl rfl ?_ | refine s_seq ?_ | refine s_region ?_ | refine s_block ?_ | refine s_end ?_ | refine s_skip ?_ | refine s_exit ?_ | refine s_true rfl ?_ | refine s_false rfl ?_ | refine x_hit ?_ | refine x_code ?_ | refine x_back ?_ | refine x_miss rfl ?_)
    refine s_cond rfl (fun h => ?_) (fun h => ?_)
    · have hjl : j < L.length := by have := of_decide_eq_true h; omega
      clear h
      have hL256 : L[j] < 256 := hLlt _ (List.getElem_mem hjl)
      have hldL : loadL ⟨.int .i64, 1, 8, [.int .i64 0]⟩ ((L.map fun (a : Nat) => (a : Int)).map (Value.int .i64)) (0 + j * 1) = some (.int .i64 (L[j] : Nat)) := by simp [loadL, aggB, hjl]
      refine s_open (.s (.s (.s (.s .z)))) (by omega) ?_
      rintro bL rfl
      repeat' (first | refine e_nil ?_ | ((first | refine e_op ?_ | refine e_yes rfl ?_); (first | refine o_dNew rfl rfl rfl (fun _ => ?_) | refine o_dNew0 rfl rfl rfl (fun _ => ?_) | refine dAll rfl rfl rfl td uc rfl rfl rfl ?_ | refine dS rfl rfl rfl rfl rfl rfl rfl td uc rfl ?_ | refine o_n (n_b26 rfl rfl) rfl ?_ | refine o_n (n_b26NR rfl rfl rfl rfl rfl) rfl ?_ | refine o_n (n_b26R rfl rfl rfl rfl) rfl ?_ | refine o_n (n_b26CR rfl rfl rfl rfl) rfl ?_ | refine o_n (n_b91 rfl rfl rfl rfl rfl rfl) rfl ?_ | refine o_n (peval_sound rfl) rfl ?_ | refine o_n (nl rfl rfl tc rfl) rfl ?_ | refine o_n (dR rfl rfl td rfl rfl rfl) rfl ?_ | refine o_n (dA rfl rfl td rfl rfl) rfl ?_ | refine o_n (dK rfl rfl td rfl rfl) rfl ?_ | refine o_storeC rfl rfl rfl rfl tc uc rfl rfl rfl ?_ | refine o_box rfl rfl (fun _ => ?_) | refine o_box1 rfl rfl rfl (fun _ => ?_) | refine o_alloc rfl rfl (fun _ => ?_))) | refine e_noU rfl rfl rfl ?_ | refine e_noN rfl rfl ?_ | refine s_seq ?_ | refine s_region ?_ | refine s_block ?_ | refine s_end ?_ | refine s_skip ?_ | refine s_exit ?_ | refine s_true rfl ?_ | refine s_false rfl ?_ | refine x_hit ?_ | refine x_code ?_ | refine x_back ?_ | refine x_miss rfl ?_)
      refine s_open (.s (.s (.s (.s (.s .z))))) (by omega) ?_
      rintro bs rfl
      refine s_drawT [12, 13, 14, 15] .z Try.mixed (by decide +kernel) ?_
      repeat' (first | refine l_nil ?_ | ((first | refine l_no rfl rfl rfl ?_ rfl ?_ | refine l_noN rfl rfl ?_ rfl ?_ | refine l_n (n_b26 rfl rfl) rfl ?_ rfl ?_ | refine l_n (n_b26NR rfl rfl rfl rfl rfl) rfl ?_ rfl ?_ | refine l_n (n_b26R rfl rfl rfl rfl) rfl ?_ rfl ?_ | refine l_n (n_b26CR rfl rfl rfl rfl) rfl ?_ rfl ?_ | refine l_n (n_b91 rfl rfl rfl rfl rfl rfl) rfl ?_ rfl ?_ | refine l_n (peval_sound rfl) rfl ?_ rfl ?_ | refine l_n (nl rfl rfl tc rfl) rfl ?_ rfl ?_ | refine l_n (dR rfl rfl td rfl rfl rfl) rfl ?_ rfl ?_ | refine l_n (dA rfl rfl td rfl rfl) rfl ?_ rfl ?_ | refine l_n (dK rfl rfl td rfl rfl) rfl ?_ rfl ?_ | refine l_ny rfl (n_b26 rfl rfl) rfl ?_ rfl ?_ | refine l_ny rfl (n_b26NR rfl rfl rfl rfl rfl) rfl ?_ rfl ?_ | refine l_ny rfl (n_b26R rfl rfl rfl rfl) rfl ?_ rfl ?_ | refine l_ny rfl (n_b26CR rfl rfl rfl rfl) rfl ?_ rfl ?_ | refine l_ny rfl (n_b91 rfl rfl rfl rfl rfl rfl) rfl ?_ rfl ?_ | refine l_ny rfl (peval_sound rfl) rfl ?_ rfl ?_ | refine l_ny rfl (nl rfl rfl tc rfl) rfl ?_ rfl ?_ | refine l_ny rfl (dR rfl rfl td rfl rfl rfl) rfl ?_ rfl ?_ | refine l_ny rfl (dA rfl rfl td rfl rfl) rfl ?_ rfl ?_ | refine l_ny rfl (dK rfl rfl td rfl rfl) rfl ?_ rfl ?_); · (first | exact Ent.refl _ | assumption | repeat' (first | exact Ent.refl _ | exact Ent.nil _ | refine Ent.tak .z ?_ | refine Ent.wk ?_))))
      refine l_n (n_index rfl rfl rfl rfl i rfl hlt) rfl (Ent.wk (Ent.refl _)) rfl ?_
      refine l_n (n_load_osl (v := .int .i64 s) rfl rfl (.s (.s (.s (.s .z)))) hld) rfl (Ent.wk (Ent.refl _)) rfl ?_
      repeat' (first | refine l_nil ?_ | ((first | refine l_no rfl rfl rfl ?_ rfl ?_ | refine l_noN rfl rfl ?_ rfl ?_ | refine l_n (n_b26 rfl rfl) rfl ?_ rfl ?_ | refine l_n (n_b26NR rfl rfl rfl rfl rfl) rfl ?_ rfl ?_ | refine l_n (n_b26R rfl rfl rfl rfl) rfl ?_ rfl ?_ | refine l_n (n_b26CR rfl rfl rfl rfl) rfl ?_ rfl ?_ | refine l_n (n_b91 rfl rfl rfl rfl rfl rfl) rfl ?_ rfl ?_ | refine l_n (peval_sound rfl) rfl ?_ rfl ?_ | refine l_n (nl rfl rfl tc rfl) rfl ?_ rfl ?_ | refine l_n (dR rfl rfl td rfl rfl rfl) rfl ?_ rfl ?_ | refine l_n (dA rfl rfl td rfl rfl) rfl ?_ rfl ?_ | refine l_n (dK rfl rfl td rfl rfl) rfl ?_ rfl ?_ | refine l_ny rfl (n_b26 rfl rfl) rfl ?_ rfl ?_ | refine l_ny rfl (n_b26NR rfl rfl rfl rfl rfl) rfl ?_ rfl ?_ | refine l_ny rfl (n_b26R rfl rfl rfl rfl) rfl ?_ rfl ?_ | refine l_ny rfl (n_b26CR rfl rfl rfl rfl) rfl ?_ rfl ?_ | refine l_ny rfl (n_b91 rfl rfl rfl rfl rfl rfl) rfl ?_ rfl ?_ | refine l_ny rfl (peval_sound rfl) rfl ?_ rfl ?_ | refine l_ny rfl (nl rfl rfl tc rfl) rfl ?_ rfl ?_ | refine l_ny rfl (dR rfl rfl td rfl rfl rfl) rfl ?_ rfl ?_ | refine l_ny rfl (dA rfl rfl td rfl rfl) rfl ?_ rfl ?_ | refine l_ny rfl (dK rfl rfl td rfl rfl) rfl ?_ rfl ?_); · (first | exact Ent.refl _ | assumption | repeat' (first | exact Ent.refl _ | exact Ent.nil _ | refine Ent.tak .z ?_ | refine Ent.wk ?_))))
      refine l_n (n_index rfl rfl rfl rfl j rfl hjl) rfl (Ent.wk (Ent.refl _)) rfl ?_
      refine l_n (n_load_osl (v := .int .i64 (L[j] : Nat)) rfl rfl (.s (.s (.s .z))) hldL) rfl (Ent.wk (Ent.refl _)) rfl ?_
      refine l_e rfl (o_call (goes_w _ m o (some ⟨ba, 0, none⟩) m.Next.length ca rfl s L[j] hsn hL256) rfl .nil (Can.and (Can.ro hR) (can_ints (.s (.s (.s (.s (.s (.s .z)))))) hIa (by omega))) rfl ?_)
      rintro v V ⟨rfl, rfl⟩
      refine ⟨(Ent.wk (Ent.refl _)), ?_⟩
      simp only [List.nil_append]
      refine l_e rfl (o_call (find_w (some ⟨bs, 0, none⟩) st.length cs st rfl (go m s L[j])) rfl .nil (can_ints (.s (.s (.s (.s (.s .z))))) hIs (by omega)) rfl ?_)
      rintro v V ⟨rfl, rfl⟩
      refine ⟨(Ent.wk (Ent.refl _)), ?_⟩
      simp only [List.nil_append]
      refine l_e rfl (o_lit (ps := [(0, .int .i64 (findI st (go m s L[j])))]) (cs := [.int .i64 (findI st (go m s L[j]))]) rfl rfl rfl rfl rfl rfl rfl (fun b10 => ⟨Ent.wk (Ent.wk (Ent.refl _)), ?_⟩))
      refine l_e rfl (o_append (v := .slice A17 j c17) (n := j) (m := 1) (news := [.int .i64 (findI st (go m s L[j]))]) _ rfl rfl rfl rfl (fun w hm j u hu => ?_) rfl ?_ rfl (by omega) (by simp only; omega) (by omega) rfl (fun b c => .s .z) (fun bb cb => ⟨Ent.wk (Ent.wk (Ent.refl _)), ?_⟩))
      · obtain ⟨S1, hP, _⟩ := hm.tak Tak.z
        rw [Nat.zero_add]
        exact osl_cells hP j u hu
      · intro u hu
        simp only [List.mem_cons, List.not_mem_nil, or_false] at hu
        subst hu; rfl
      repeat' (first | refine l_nil ?_ | ((first | refine l_no rfl rfl rfl ?_ rfl ?_ | refine l_noN rfl rfl ?_ rfl ?_ | refine l_n (n_b26 rfl rfl) rfl ?_ rfl ?_ | refine l_n (n_b26NR rfl rfl rfl rfl rfl) rfl ?_ rfl ?_ | refine l_n (n_b26R rfl rfl rfl rfl) rfl ?_ rfl ?_ | refine l_n (n_b26CR rfl rfl rfl rfl) rfl ?_ rfl ?_ | refine l_n (n_b91 rfl rfl rfl rfl rfl rfl) rfl ?_ rfl ?_ | refine l_n (peval_sound rfl) rfl ?_ rfl ?_ | refine l_n (nl rfl rfl tc rfl) rfl ?_ rfl ?_ | refine l_n (dR rfl rfl td rfl rfl rfl) rfl ?_ rfl ?_ | refine l_n (dA rfl rfl td rfl rfl) rfl ?_ rfl ?_ | refine l_n (dK rfl rfl td rfl rfl) rfl ?_ rfl ?_ | refine l_ny rfl (n_b26 rfl rfl) rfl ?_ rfl ?_ | refine l_ny rfl (n_b26NR rfl rfl rfl rfl rfl) rfl ?_ rfl ?_ | refine l_ny rfl (n_b26R rfl rfl rfl rfl) rfl ?_ rfl ?_ | refine l_ny rfl (n_b26CR rfl rfl rfl rfl) rfl ?_ rfl ?_ | refine l_ny rfl (n_b91 rfl rfl rfl rfl rfl rfl) rfl ?_ rfl ?_ | refine l_ny rfl (peval_sound rfl) rfl ?_ rfl ?_ | refine l_ny rfl (nl rfl rfl tc rfl) rfl ?_ rfl ?_ | refine l_ny rfl (dR rfl rfl td rfl rfl rfl) rfl ?_ rfl ?_ | refine l_ny rfl (dA rfl rfl td rfl rfl) rfl ?_ rfl ?_ | refine l_ny rfl (dK rfl rfl td rfl rfl) rfl ?_ rfl ?_); · (first | exact Ent.refl _ | assumption | repeat' (first | exact Ent.refl _ | exact Ent.nil _ | refine Ent.tak .z ?_ | refine Ent.wk ?_))))
      repeat' (first | refine e_nil ?_ | ((first | refine e_op ?_ | refine e_yes rfl ?_); (first | refine o_dNew rfl rfl rfl (fun _ => ?_) | refine o_dNew0 rfl rfl rfl (fun _ => ?_) | refine dAll rfl rfl rfl td uc rfl rfl rfl ?_ | refine dS rfl rfl rfl rfl rfl rfl rfl td uc rfl ?_ | refine o_n (n_b26 rfl rfl) rfl ?_ | refine o_n (n_b26NR rfl rfl rfl rfl rfl) rfl ?_ | refine o_n (n_b26R rfl rfl rfl rfl) rfl ?_ | refine o_n (n_b26CR rfl rfl rfl rfl) rfl ?_ | refine o_n (n_b91 rfl rfl rfl rfl rfl rfl) rfl ?_ | refine o_n (peval_sound rfl) rfl ?_ | refine o_n (nl rfl rfl tc rfl) rfl ?_ | refine o_n (dR rfl rfl td rfl rfl rfl) rfl ?_ | refine o_n (dA rfl rfl td rfl rfl) rfl ?_ | refine o_n (dK rfl rfl td rfl rfl) rfl ?_ | refine o_storeC rfl rfl rfl rfl tc uc rfl rfl rfl ?_ | refine o_box rfl rfl (fun _ => ?_) | refine o_box1 rfl rfl rfl (fun _ => ?_) | refine o_alloc rfl rfl (fun _ => ?_))) | refine e_noU rfl rfl rfl ?_ | refine e_noN rfl rfl ?_ | refine s_seq ?_ | refine s_region ?_ | refine s_block ?_ | refine s_end ?_ | refine s_skip ?_ | refine s_exit ?_ | refine s_true rfl ?_ | refine s_false rfl ?_ | refine x_hit ?_ | refine x_code ?_ | refine x_back ?_ | refine x_miss rfl ?_)
      refine s_back ⟨⟨(j + 1, some ⟨bb, 0, none⟩, cb), by simp only; omega⟩, by simp only; omega, ?_, ?_⟩
      · repeat' (first | exact Sub.nil _ | refine Sub.cons rfl ?_ | refine Sub.consE rfl ?_ ?_)
        exact inc (i := j) (by omega)
      · simp only [List.take_succ_eq_append_getElem hjl, List.map_append, List.map_cons, List.map_nil, pI]
        exact Ent.wk (Ent.refl _)
    have hge : j = L.length := by have := of_decide_eq_false h; omega
    subst hge
    clear h hj
    rw [List.take_length]
    repeat' (first | refine e_nil ?_ | ((first | refine e_op ?_ | refine e_yes rfl ?_); (first | refine o_dNew rfl rfl rfl (fun _ => ?_) | refine o_dNew0 rfl rfl rfl (fun _ => ?_) | refine dAll rfl rfl rfl td uc rfl rfl rfl ?_ | refine dS rfl rfl rfl rfl rfl rfl rfl td uc rfl ?_ | refine o_n (n_b26 rfl rfl) rfl ?_ | refine o_n (n_b26NR rfl rfl rfl rfl rfl) rfl ?_ | refine o_n (n_b26R rfl rfl rfl rfl) rfl ?_ | refine o_n (n_b26CR rfl rfl rfl rfl) rfl ?_ | refine o_n (n_b91 rfl rfl rfl rfl rfl rfl) rfl ?_ | refine o_n (peval_sound rfl) rfl ?_ | refine o_n (nl rfl rfl tc rfl) rfl ?_ | refine o_n (dR rfl rfl td rfl rfl rfl) rfl ?_ | refine o_n (dA rfl rfl td rfl rfl) rfl ?_ | refine o_n (dK rfl rfl td rfl rfl) rfl ?_ | refine o_storeC rfl rfl rfl rfl tc uc rfl rfl rfl ?_ | refine o_box rfl rfl (fun _ => ?_) | refine o_box1 rfl rfl rfl (fun _ => ?_) | refine o_alloc rfl rfl (fun _ => ?_))) | refine e_noU rfl rfl rfl ?_ | refine e_noN rfl rfl ?_ | refine s_seq ?_ | refine s_region ?_ | refine s_block ?_ | refine s_end ?_ | refine s_skip ?_ | refine s_exit ?_ | refine s_true rfl ?_ | refine s_false rfl ?_ | refine x_hit ?_ | refine x_code ?_ | refine x_back ?_ | refine x_miss rfl ?_)
    refine e_op (o_lit (ps := [(0, .slice A17 L.length c17)]) (cs := [.slice A17 L.length c17]) rfl rfl rfl rfl rfl rfl rfl (fun b10 => ?_))
    refine e_op (o_append (v := .slice AN i cN) (n := i) (m := 1) (news := [.slice A17 L.length c17]) _ rfl rfl rfl rfl (fun w hm j u hu => ?_) rfl ?_ rfl (by omega) (by simp only; omega) (by omega) rfl (fun b c => (.s (.s (.s .z)))) (fun bN cN2 => ?_))
    · obtain ⟨S1, hP, _⟩ := hm.tak Tak.z
      rw [Nat.zero_add]
      exact osl_cells hP j u hu
    · intro u hu
      simp only [List.mem_cons, List.not_mem_nil, or_false] at hu
      subst hu; rfl
    repeat' (first | refine e_nil ?_ | ((first | refine e_op ?_ | refine e_yes rfl ?_); (first | refine o_dNew rfl rfl rfl (fun _ => ?_) | refine o_dNew0 rfl rfl rfl (fun _ => ?_) | refine dAll rfl rfl rfl td uc rfl rfl rfl ?_ | refine dS rfl rfl rfl rfl rfl rfl rfl td uc rfl ?_ | refine o_n (n_b26 rfl rfl) rfl ?_ | refine o_n (n_b26NR rfl rfl rfl rfl rfl) rfl ?_ | refine o_n (n_b26R rfl rfl rfl rfl) rfl ?_ | refine o_n (n_b26CR rfl rfl rfl rfl) rfl ?_ | refine o_n (n_b91 rfl rfl rfl rfl rfl rfl) rfl ?_ | refine o_n (peval_sound rfl) rfl ?_ | refine o_n (nl rfl rfl tc rfl) rfl ?_ | refine o_n (dR rfl rfl td rfl rfl rfl) rfl ?_ | refine o_n (dA rfl rfl td rfl rfl) rfl ?_ | refine o_n (dK rfl rfl td rfl rfl) rfl ?_ | refine o_storeC rfl rfl rfl rfl tc uc rfl rfl rfl ?_ | refine o_box rfl rfl (fun _ => ?_) | refine o_box1 rfl rfl rfl (fun _ => ?_) | refine o_alloc rfl rfl (fun _ => ?_))) | refine e_noU rfl rfl rfl ?_ | refine e_noN rfl rfl ?_ | refine s_seq ?_ | refine s_region ?_ | refine s_block ?_ | refine s_end ?_ | refine s_skip ?_ | refine s_exit ?_ | refine s_true rfl ?_ | refine s_false rfl ?_ | refine x_hit ?_ | refine x_code ?_ | refine x_back ?_ | refine x_miss rfl ?_)
    refine s_open (.s (.s (.s (.s (.s (.s .z)))))) (by omega) ?_
    rintro bs rfl
    obtain ⟨b4, o4, es4, rfl, hb4, ⟨rfl, _⟩, hc4⟩ := hD.rule.2.2 s hsR
    have hrl : rl m (s : Int) = m.Rule[s] := by unfold rl; rw [if_neg (by omega), Int.toNat_natCast, getD_lt hsR]
    refine s_P Try.mixed (by decide +kernel) ?_
    refine p_barU 11 ?_
    refine q_n 0 rfl (peval_sound rfl) (by decide +kernel) (by decide +kernel) (Ent.refl _) rfl ?_
    refine q_n 1 rfl (n_dR rfl rfl (.s (.s .z)) rfl rfl rfl) (by decide +kernel) (by decide +kernel) (Ent.refl _) rfl ?_
    refine q_n 2 rfl (peval_sound rfl) (by decide +kernel) (by decide +kernel) (Ent.refl _) rfl ?_
    refine q_n 3 rfl (n_dR rfl rfl (.s (.s (.s (.s (.s (.s (.s (.s .z)))))))) rfl rfl rfl) (by decide +kernel) (by decide +kernel) (Ent.refl _) rfl ?_
    refine q_n 4 rfl (peval_sound rfl) (by decide +kernel) (by decide +kernel) (Ent.refl _) rfl ?_
    refine q_n 5 rfl (peval_sound rfl) (by decide +kernel) (by decide +kernel) (Ent.refl _) rfl ?_
    refine q_n 6 rfl (n_index rfl rfl rfl rfl i rfl hlt) (by decide +kernel) (by decide +kernel) (Ent.refl _) rfl ?_
    refine q_n 7 rfl (n_load_osl (v := .int .i64 s) rfl rfl (.s (.s (.s (.s (.s (.s .z)))))) hld) (by decide +kernel) (by decide +kernel) (Ent.refl _) rfl ?_
    refine q_n 8 rfl (n_index rfl rfl rfl rfl s rfl hsR) (by decide +kernel) (by decide +kernel) (Ent.refl _) rfl ?_
    refine q_n 9 rfl (n_load_ro rfl rfl hb4 (loads_one rfl (hc4 0 _ rfl))) (by decide +kernel) (by decide +kernel) (Ent.refl _) rfl ?_
    refine q_1 10 (by decide +kernel) rfl rfl rfl (o_lit (ps := [(0, .int .i64 m.Rule[s])]) (cs := [.int .i64 m.Rule[s]]) rfl rfl rfl rfl rfl rfl rfl (fun b12 => ⟨Ent.wk (Ent.refl _), ?_⟩))
    refine q_z 11 (by decide +kernel) rfl rfl (o_append (v := .slice AR i cR) (n := i) (m := 1) (news := [.int .i64 m.Rule[s]]) _ rfl rfl rfl rfl (fun w hm j u hu => ?_) rfl ?_ rfl (by omega) (by simp only; omega) (by omega) rfl (fun b c => (.s (.s (.s (.s (.s .z)))))) (fun bb cb => ?_))
    · obtain ⟨S1, hP, _⟩ := hm.tak Tak.z
      rw [Nat.zero_add]
      exact osl_cells hP j u hu
    · intro u hu
      simp only [List.mem_cons, List.not_mem_nil, or_false] at hu
      subst hu; rfl
    refine p_1 12 (by decide +kernel) rfl rfl (o_n (peval_sound rfl) rfl ?_)
    refine p_1 13 (by decide +kernel) rfl rfl (o_dS rfl rfl rfl rfl rfl rfl rfl rfl (.s (.s (.s .z))) ?_)
    refine p_done (by decide +kernel) ?_
    repeat' (first | refine e_nil ?_ | ((first | refine e_op ?_ | refine e_yes rfl ?_); (first | refine o_dNew rfl rfl rfl (fun _ => ?_) | refine o_dNew0 rfl rfl rfl (fun _ => ?_) | refine dAll rfl rfl rfl td uc rfl rfl rfl ?_ | refine dS rfl rfl rfl rfl rfl rfl rfl td uc rfl ?_ | refine o_n (n_b26 rfl rfl) rfl ?_ | refine o_n (n_b26NR rfl rfl rfl rfl rfl) rfl ?_ | refine o_n (n_b26R rfl rfl rfl rfl) rfl ?_ | refine o_n (n_b26CR rfl rfl rfl rfl) rfl ?_ | refine o_n (n_b91 rfl rfl rfl rfl rfl rfl) rfl ?_ | refine o_n (peval_sound rfl) rfl ?_ | refine o_n (nl rfl rfl tc rfl) rfl ?_ | refine o_n (dR rfl rfl td rfl rfl rfl) rfl ?_ | refine o_n (dA rfl rfl td rfl rfl) rfl ?_ | refine o_n (dK rfl rfl td rfl rfl) rfl ?_ | refine o_storeC rfl rfl rfl rfl tc uc rfl rfl rfl ?_ | refine o_box rfl rfl (fun _ => ?_) | refine o_box1 rfl rfl rfl (fun _ => ?_) | refine o_alloc rfl rfl (fun _ => ?_))) | refine e_noU rfl rfl rfl ?_ | refine e_noN rfl rfl ?_ | refine s_seq ?_ | refine s_region ?_ | refine s_block ?_ | refine s_end ?_ | refine s_skip ?_ | refine s_exit ?_ | refine s_true rfl ?_ | refine s_false rfl ?_ | refine x_hit ?_ | refine x_code ?_ | refine x_back ?_ | refine x_miss rfl ?_)
    have hla : acs.length = ((st.take i).map (nRow m st L)).length := by rw [List.length_map, List.length_take]; omega
    refine s_back ⟨⟨(i + 1, (some ⟨bN, 0, none⟩, cN2), (some ⟨bb, 0, none⟩, cb), acs ++ [(A17, c17)]), by simp only; omega, by simp [hacs]⟩, by simp only; omega, ?_, ?_⟩
    · repeat' (first | exact Sub.nil _ | refine Sub.cons rfl ?_ | refine Sub.consE rfl ?_ ?_)
      exact inc (i := i) (by omega)
    · simp only [htk, List.map_append, List.map_cons, List.map_nil, rowC_app hla, rowL_app hla, nRow_len, hrl, pI]
      refine Ent.tak (.s (.s (.s .z))) (Ent.tak (.s (.s (.s .z))) (Ent.tak (.s (.s (.s .z))) (Ent.tak (.s (.s (.s .z))) (Ent.tak (.s (.s (.s .z))) (Ent.tak (.s (.s (.s .z))) (Ent.tak (.s (.s (.s .z))) (Ent.tak (.s (.s (.s .z))) (?_))))))))
      rw [List.append_assoc]
      exact Ent.wk (Ent.wk ((Ent.cons (Ent.refl _)).trans Ent.mid))
  have hge : i = st.length := by have := of_decide_eq_false h; omega
  subst hge
  clear h hi
  rw [List.take_length]
  repeat' (first | refine e_nil ?_ | ((first | refine e_op ?_ | refine e_yes rfl ?_); (first | refine o_dNew rfl rfl rfl (fun _ => ?_) | refine o_dNew0 rfl rfl rfl (fun _ => ?_) | refine dAll rfl rfl rfl td uc rfl rfl rfl ?_ | refine dS rfl rfl rfl rfl rfl rfl rfl td uc rfl ?_ | refine o_n (n_b26 rfl rfl) rfl ?_ | refine o_n (n_b26NR rfl rfl rfl rfl rfl) rfl ?_ | refine o_n (n_b26R rfl rfl rfl rfl) rfl ?_ | refine o_n (n_b26CR rfl rfl rfl rfl) rfl ?_ | refine o_n (n_b91 rfl rfl rfl rfl rfl rfl) rfl ?_ | refine o_n (peval_sound rfl) rfl ?_ | refine o_n (nl rfl rfl tc rfl) rfl ?_ | refine o_n (dR rfl rfl td rfl rfl rfl) rfl ?_ | refine o_n (dA rfl rfl td rfl rfl) rfl ?_ | refine o_n (dK rfl rfl td rfl rfl) rfl ?_ | refine o_storeC rfl rfl rfl rfl tc uc rfl rfl rfl ?_ | refine o_box rfl rfl (fun _ => ?_) | refine o_box1 rfl rfl rfl (fun _ => ?_) | refine o_alloc rfl rfl (fun _ => ?_))) | refine e_noU rfl rfl rfl ?_ | refine e_noN rfl rfl ?_ | refine s_seq ?_ | refine s_region ?_ | refine s_block ?_ | refine s_end ?_ | refine s_skip ?_ | refine s_exit ?_ | refine s_true rfl ?_ | refine s_false rfl ?_ | refine x_hit ?_ | refine x_code ?_ | refine x_back ?_ | refine x_miss rfl ?_)
  refine s_ret ⟨_, _, rescD2 rfl rfl rfl (.s (.s (.s (.s (.s (.s (.s .z))))))) rfl rfl rfl, ⟨AN, AR, cN, cR, ?_, rfl⟩, ?_⟩
  · rw [hlm, he]
    simp only [resD, List.length_map]
  · rw [hlm]
    simp only [ownD, List.length_map]
    refine Ent.ex acs (by rw [List.length_map]; exact hacs) ?_
    rw [List.cons_append]
    refine Ent.tak (.s .z) (Ent.wk ((Ent.tak .z (Ent.wk (Ent.wk (Ent.wk (Ent.wk (Ent.wk (Ent.refl _))))))).trans Ent.mid))

end Go.Proofs.Ytbfjnldneemmiaa
