/-
  Machines of one class; the chapter's examples.
-/
import Derived.Test.YtbfjnldneemmiabL11
namespace Go.Proofs.Ytbfjnldneemmiab
set_option linter.all false
open Go.Proofs.Ytbfjnldneemmiab.E

attribute [local irreducible] EVX EVO EVL EV1 NEV
attribute [local irreducible] own osl exA rdA rdL
set_option maxRecDepth 10000
set_option maxHeartbeats 4000000

def oneM (l r : List Int) : Mach := ⟨.zero, l.map fun x => [x], r⟩

theorem one_w (A B : Option Addr) (c m d : Nat) (l : List Int) (hl : l.length ≤ 100) : Trip Try.prog 10 [.slice A l.length c, .slice B m d] ((kslice 8 kint).rd [.slice A l.length c] l) []
    (fun v V => ∃ (A1 : Option Addr) (c1 : Nat), v = .agg (dC .zero [.slice A1 l.length c1, .slice B m d]).toArray ∧ V = [orow (Value.int .i64) 24 3 (.slice A1 l.length c1) l.length (l.map fun x => [x])]) := by
  refine trip Try.tabOk Try.func10 rfl rfl rfl rfl ?_
  rintro w SM ⟨A', c', e, h1, h2, h3⟩
  cases e
  repeat' (first | refine e_nil ?_ | ((first | refine e_op ?_ | refine e_yes rfl ?_); (first | refine o_dNew rfl rfl rfl (fun _ => ?_) | refine o_dNew0 rfl rfl rfl (fun _ => ?_) | refine dAll rfl rfl rfl td uc rfl rfl rfl ?_ | refine dS rfl rfl rfl rfl rfl rfl rfl td uc rfl ?_ | refine o_n (n_b26 rfl rfl) rfl ?_ | refine o_n (n_b26NR rfl rfl rfl rfl rfl) rfl ?_ | refine o_n (n_b26R rfl rfl rfl rfl) rfl ?_ | refine o_n (n_b26CR rfl rfl rfl rfl) rfl ?_ | refine o_n (n_b91 rfl rfl rfl rfl rfl rfl) rfl ?_ | refine o_n (peval_sound rfl) rfl ?_ | refine o_n (nl rfl rfl tc rfl) rfl ?_ | refine o_n (dR rfl rfl td rfl rfl rfl) rfl ?_ | refine o_n (dA rfl rfl td rfl rfl) rfl ?_ | refine o_n (dK rfl rfl td rfl rfl) rfl ?_ | refine o_storeC rfl rfl rfl rfl tc uc rfl rfl rfl ?_ | refine o_box rfl rfl (fun _ => ?_) | refine o_box1 rfl rfl rfl (fun _ => ?_) | refine o_alloc rfl rfl (fun _ => ?_))) | refine e_noU rfl rfl rfl ?_ | refine e_noN rfl rfl ?_ | refine s_seq ?_ | refine s_region ?_ | refine s_block ?_ | refine s_end ?_ | refine s_skip ?_ | refine s_exit ?_ | refine s_true rfl ?_ | refine s_false rfl ?_ | refine x_hit ?_ | refine x_code ?_ | refine x_back ?_ | refine x_miss rfl ?_)
  rename_i b4 b5
  refine s_loopK (ι := {x : Nat × (Option Addr × Nat) × List (Option Addr × Nat) // x.1 ≤ l.length ∧ x.2.2.length = x.1}) [0, 4, 5] rfl ⟨(0, (none, 0), []), by simp⟩ (fun x => [(6, .int .i64 x.1.1)])
    (fun x => blk b5 26 (dC .zero [.slice x.1.2.1.1 x.1.1 x.1.2.1.2, .slice B m d]) :: osl 24 1 (.slice x.1.2.1.1 x.1.1 x.1.2.1.2) x.1.1 (E.rowC x.1.2.2 ((l.take x.1.1).map fun x => [x])) :: blk b4 26 (dC .zero [nilS, nilS]) :: (E.rowL (Value.int .i64) 3 x.1.2.2 ((l.take x.1.1).map fun x => [x]) ++ [])) (fun x => l.length - x.1.1) ?_ ?_ ?_
  · repeat' (first | exact Sub.nil _ | refine Sub.cons rfl ?_ | refine Sub.consE rfl ?_ ?_)
  · exact Ent.tak .z (Ent.osl0 (Ent.refl _))
  rintro ⟨⟨i, ⟨AN, cN⟩, acs⟩, hi, hacs⟩
  simp only at hi hacs ⊢
  repeat' (first | refine e_nil ?_ | ((first | refine e_op ?_ | refine e_yes rfl ?_); (first | refine o_dNew rfl rfl rfl (fun _ => ?_) | refine o_dNew0 rfl rfl rfl (fun _ => ?_) | refine dAll rfl rfl rfl td uc rfl rfl rfl ?_ | refine dS rfl rfl rfl rfl rfl rfl rfl td uc rfl ?_ | refine o_n (n_b26 rfl rfl) rfl ?_ | refine o_n (n_b26NR rfl rfl rfl rfl rfl) rfl ?_ | refine o_n (n_b26R rfl rfl rfl rfl) rfl ?_ | refine o_n (n_b26CR rfl rfl rfl rfl) rfl ?_ | refine o_n (n_b91 rfl rfl rfl rfl rfl rfl) rfl ?_ | refine o_n (peval_sound rfl) rfl ?_ | refine o_n (nl rfl rfl tc rfl) rfl ?_ | refine o_n (dR rfl rfl td rfl rfl rfl) rfl ?_ | refine o_n (dA rfl rfl td rfl rfl) rfl ?_ | refine o_n (dK rfl rfl td rfl rfl) rfl ?_ | refine o_storeC rfl rfl rfl rfl tc uc rfl rfl rfl ?_ | refine o_box rfl rfl (fun _ => ?_) | refine o_box1 rfl rfl rfl (fun _ => ?_) | refine o_alloc rfl rfl (fun _ => ?_))) | refine e_noU rfl rfl rfl ?_ | refine e_noN rfl rfl ?_ | refine s_seq ?_ | refine s_region ?_ | refine s_block ?_ | refine s_end ?_ | refine s_skip ?_ | refine s_exit ?_ | refine s_true rfl ?_ | refine s_false rfl ?_ | refine x_hit ?_ | refine x_code ?_ | refine x_back ?_ | refine x_miss rfl ?_)
  refine s_cond rfl (fun h => ?_) (fun h => ?_)
  · have hlt : i < l.length := by have := of_decide_eq_true h; omega
    clear h
    obtain ⟨b, o, es, rfl, hb, ⟨rfl, _⟩, hc⟩ := h3 i hlt
    repeat' (first | refine e_nil ?_ | ((first | refine e_op ?_ | refine e_yes rfl ?_); (first | refine o_dNew rfl rfl rfl (fun _ => ?_) | refine o_dNew0 rfl rfl rfl (fun _ => ?_) | refine dAll rfl rfl rfl td uc rfl rfl rfl ?_ | refine dS rfl rfl rfl rfl rfl rfl rfl td uc rfl ?_ | refine o_n (n_b26 rfl rfl) rfl ?_ | refine o_n (n_b26NR rfl rfl rfl rfl rfl) rfl ?_ | refine o_n (n_b26R rfl rfl rfl rfl) rfl ?_ | refine o_n (n_b26CR rfl rfl rfl rfl) rfl ?_ | refine o_n (n_b91 rfl rfl rfl rfl rfl rfl) rfl ?_ | refine o_n (peval_sound rfl) rfl ?_ | refine o_n (nl rfl rfl tc rfl) rfl ?_ | refine o_n (dR rfl rfl td rfl rfl rfl) rfl ?_ | refine o_n (dA rfl rfl td rfl rfl) rfl ?_ | refine o_n (dK rfl rfl td rfl rfl) rfl ?_ | refine o_storeC rfl rfl rfl rfl tc uc rfl rfl rfl ?_ | refine o_box rfl rfl (fun _ => ?_) | refine o_box1 rfl rfl rfl (fun _ => ?_) | refine o_alloc rfl rfl (fun _ => ?_))) | refine e_noU rfl rfl rfl ?_ | refine e_noN rfl rfl ?_ | refine s_seq ?_ | refine s_region ?_ | refine s_block ?_ | refine s_end ?_ | refine s_skip ?_ | refine s_exit ?_ | refine s_true rfl ?_ | refine s_false rfl ?_ | refine x_hit ?_ | refine x_code ?_ | refine x_back ?_ | refine x_miss rfl ?_)
    refine s_P Try.mixed (by decide +kernel) ?_
    refine p_barU 8 ?_
    refine q_n 0 rfl (peval_sound rfl) (by decide +kernel) (by decide +kernel) (Ent.refl _) rfl ?_
    refine q_n 1 rfl (n_dR rfl rfl .z rfl rfl rfl) (by decide +kernel) (by decide +kernel) (Ent.refl _) rfl ?_
    refine q_n 2 rfl (peval_sound rfl) (by decide +kernel) (by decide +kernel) (Ent.refl _) rfl ?_
    refine q_n 3 rfl (peval_sound rfl) (by decide +kernel) (by decide +kernel) (Ent.refl _) rfl ?_
    refine q_n 4 rfl (n_index rfl rfl rfl rfl i rfl hlt) (by decide +kernel) (by decide +kernel) (Ent.refl _) rfl ?_
    refine q_n 5 rfl (n_load_ro rfl rfl hb (loads_one rfl (hc 0 _ rfl))) (by decide +kernel) (by decide +kernel) (Ent.refl _) rfl ?_
    refine q_1 6 (by decide +kernel) rfl rfl rfl (o_lit (ps := [(0, .int .i64 l[i])]) (cs := [.int .i64 l[i]]) rfl rfl rfl rfl rfl rfl rfl (fun b6 => ⟨Ent.wk (Ent.refl _), ?_⟩))
    refine q_1 7 (by decide +kernel) rfl rfl rfl (o_lit (ps := [(0, .slice (some ⟨b6, 0, none⟩) 1 1)]) (cs := [.slice (some ⟨b6, 0, none⟩) 1 1]) rfl rfl rfl rfl rfl rfl rfl (fun b7 => ⟨Ent.wk (Ent.wk (Ent.refl _)), ?_⟩))
    refine q_z 8 (by decide +kernel) rfl rfl (o_append (v := .slice AN i cN) (n := i) (m := 1) (news := [.slice (some ⟨b6, 0, none⟩) 1 1]) _ rfl rfl rfl rfl (fun w hm j u hu => ?_) rfl ?_ rfl (by omega) (by simp only; omega) (by omega) rfl (fun b c => (.s (.s (.s .z)))) (fun bb cb => ?_))
    · obtain ⟨S1, hP, _⟩ := hm.tak Tak.z
      rw [Nat.zero_add]
      exact osl_cells hP j u hu
    · intro u hu
      simp only [List.mem_cons, List.not_mem_nil, or_false] at hu
      subst hu; rfl
    refine p_1 9 (by decide +kernel) rfl rfl (o_n (peval_sound rfl) rfl ?_)
    refine p_1 10 (by decide +kernel) rfl rfl (o_dS rfl rfl rfl rfl rfl rfl rfl rfl (.s (.s .z)) ?_)
    refine p_done (by decide +kernel) ?_
    repeat' (first | refine e_nil ?_ | ((first | refine e_op ?_ | refine e_yes rfl ?_); (first | refine o_dNew rfl rfl rfl (fun _ => ?_) | refine o_dNew0 rfl rfl rfl (fun _ => ?_) | refine dAll rfl rfl rfl td uc rfl rfl rfl ?_ | refine dS rfl rfl rfl rfl rfl rfl rfl td uc rfl ?_ | refine o_n (n_b26 rfl rfl) rfl ?_ | refine o_n (n_b26NR rfl rfl rfl rfl rfl) rfl ?_ | refine o_n (n_b26R rfl rfl rfl rfl) rfl ?_ | refine o_n (n_b26CR rfl rfl rfl rfl) rfl ?_ | refine o_n (n_b91 rfl rfl rfl rfl rfl rfl) rfl ?_ | refine o_n (peval_sound rfl) rfl ?_ | refine o_n (nl rfl rfl tc rfl) rfl ?_ | refine o_n (dR rfl rfl td rfl rfl rfl) rfl ?_ | refine o_n (dA rfl rfl td rfl rfl) rfl ?_ | refine o_n (dK rfl rfl td rfl rfl) rfl ?_ | refine o_storeC rfl rfl rfl rfl tc uc rfl rfl rfl ?_ | refine o_box rfl rfl (fun _ => ?_) | refine o_box1 rfl rfl rfl (fun _ => ?_) | refine o_alloc rfl rfl (fun _ => ?_))) | refine e_noU rfl rfl rfl ?_ | refine e_noN rfl rfl ?_ | refine s_seq ?_ | refine s_region ?_ | refine s_block ?_ | refine s_end ?_ | refine s_skip ?_ | refine s_exit ?_ | refine s_true rfl ?_ | refine s_false rfl ?_ | refine x_hit ?_ | refine x_code ?_ | refine x_back ?_ | refine x_miss rfl ?_)
    have hla : acs.length = ((l.take i).map fun x => [x]).length := by rw [List.length_map, List.length_take]; omega
    have htk : l.take (i + 1) = l.take i ++ [l[i]] := List.take_succ_eq_append_getElem hlt
    refine s_back ⟨⟨(i + 1, (some ⟨bb, 0, none⟩, cb), acs ++ [(some ⟨b6, 0, none⟩, 1)]), by simp only; omega, by simp [hacs]⟩, by simp only; omega, ?_, ?_⟩
    · repeat' (first | exact Sub.nil _ | refine Sub.cons rfl ?_ | refine Sub.consE rfl ?_ ?_)
      exact inc (i := i) (by omega)
    · simp only [htk, List.map_append, List.map_cons, List.map_nil, rowC_app hla, rowL_app hla, List.length_cons, List.length_nil]
      refine Ent.tak (.s (.s .z)) (Ent.tak (.s (.s .z)) (Ent.tak (.s (.s .z)) ?_))
      rw [List.append_assoc]
      exact Ent.wk ((Ent.cons (Ent.refl _)).trans Ent.mid)
  have hge : i = l.length := by have := of_decide_eq_false h; omega
  subst hge
  clear h hi
  rw [List.take_length]
  repeat' (first | refine e_nil ?_ | ((first | refine e_op ?_ | refine e_yes rfl ?_); (first | refine o_dNew rfl rfl rfl (fun _ => ?_) | refine o_dNew0 rfl rfl rfl (fun _ => ?_) | refine dAll rfl rfl rfl td uc rfl rfl rfl ?_ | refine dS rfl rfl rfl rfl rfl rfl rfl td uc rfl ?_ | refine o_n (n_b26 rfl rfl) rfl ?_ | refine o_n (n_b26NR rfl rfl rfl rfl rfl) rfl ?_ | refine o_n (n_b26R rfl rfl rfl rfl) rfl ?_ | refine o_n (n_b26CR rfl rfl rfl rfl) rfl ?_ | refine o_n (n_b91 rfl rfl rfl rfl rfl rfl) rfl ?_ | refine o_n (peval_sound rfl) rfl ?_ | refine o_n (nl rfl rfl tc rfl) rfl ?_ | refine o_n (dR rfl rfl td rfl rfl rfl) rfl ?_ | refine o_n (dA rfl rfl td rfl rfl) rfl ?_ | refine o_n (dK rfl rfl td rfl rfl) rfl ?_ | refine o_storeC rfl rfl rfl rfl tc uc rfl rfl rfl ?_ | refine o_box rfl rfl (fun _ => ?_) | refine o_box1 rfl rfl rfl (fun _ => ?_) | refine o_alloc rfl rfl (fun _ => ?_))) | refine e_noU rfl rfl rfl ?_ | refine e_noN rfl rfl ?_ | refine s_seq ?_ | refine s_region ?_ | refine s_block ?_ | refine s_end ?_ | refine s_skip ?_ | refine s_exit ?_ | refine s_true rfl ?_ | refine s_false rfl ?_ | refine x_hit ?_ | refine x_code ?_ | refine x_back ?_ | refine x_miss rfl ?_)
  refine s_ret ⟨_, _, resc rfl rfl rfl (.s (.s .z)) (ld_all (n := 258) (by rw [dC_len]; rfl) rfl rfl rfl), ⟨AN, cN, rfl, rfl⟩, ?_⟩
  refine Ent.ex acs (by rw [List.length_map]; exact hacs) ?_
  rw [List.cons_append]
  exact Ent.tak (.s .z) (Ent.wk (Ent.wk (Ent.refl _)))

theorem rl_rng {m : Mach} (o : MOk m) (s : Int) (h0 : 0 ≤ s) (h1 : s < m.Next.length) : -1 ≤ rl m s ∧ rl m s < 64 := by
  have hr : s.toNat < m.Rule.length := by rw [o.r]; omega
  unfold rl
  rw [if_neg (by omega), getD_lt hr]
  exact o.rul _ (List.getElem_mem hr)

theorem least_mi {m : Mach} (o : MOk m) : MI (leastM m) where
  cls v hv := by
    unfold leastM clsL at hv
    obtain ⟨c, hc, rfl⟩ := List.mem_map.1 hv
    have hc := List.mem_range.1 hc
    have h1 := fk_le m (finM m) c (Lc m (finM m) c)
    have h2 := Lc_len m (finM m) c
    exact ⟨by omega, by omega⟩
  next r hr x hx := by
    unfold leastM at hr
    obtain ⟨s, hs, rfl⟩ := List.mem_map.1 hr
    obtain ⟨c, hc, rfl⟩ := List.mem_map.1 hx
    have h1 := findI_rng (fin_sts o) (go m s c)
    have h2 := rows_sz o (fin_sts o)
    exact ⟨by omega, by omega⟩
  rule x hx := by
    unfold leastM at hx
    obtain ⟨s, hs, rfl⟩ := List.mem_map.1 hx
    have h1 := (fin_sts o).rng s hs
    have h2 := rl_rng o s h1.1 h1.2
    exact ⟨by omega, by omega⟩
  nb := by
    have h2 := rows_sz o (fin_sts o)
    unfold leastM; rw [List.length_map]; omega
  rb r hr := by
    unfold leastM at hr
    obtain ⟨s, hs, rfl⟩ := List.mem_map.1 hr
    have h2 := Lc_len m (finM m) 256
    rw [List.length_map]; omega
  ub := by
    have h2 := rows_sz o (fin_sts o)
    unfold leastM; rw [List.length_map]; omega

/-- The least machine, to be read. -/
theorem leastOf_mi (m : Mach) : MI (ofM m) := by
  unfold ofM
  by_cases h : checkM m = 0
  · rw [if_pos h]; exact least_mi (check_mok h)
  · rw [if_neg h]; exact zero_mi

theorem leastOf_r (cs : List Value) (m : Mach) : Trip Try.prog 13 [.agg cs.toArray] (kDfa.rd cs m) []
    (fun v V => ∃ (A1 A2 : Option Addr) (c1 c2 : Nat), v = .tuple #[resD (ofM m) A1 A2 c1 c2, .int .i64 (checkM m)] ∧ V = [rdA kDfa (dfC (ofM m) A1 A2 c1 c2) (ofM m)]) :=
  (leastOf_w cs m).monoE fun v V ⟨A1, A2, c1, c2, h1, h2⟩ => ⟨_, ⟨A1, A2, c1, c2, h1, rfl⟩, h2 ▸ ((Ent.eq (by rw [List.append_nil])).trans (ent_dfa (U := []) (leastOf_mi m)))⟩

theorem is_w (cs ds : List Value) (a b : Mach) : Trip Try.prog 9 [.agg cs.toArray, .agg ds.toArray] ((kDfa.rd cs a).and (kDfa.rd ds b)) [] (fun v V => v = .bool (decide (checkM a = 0) && (ofM a).eqB b) ∧ V = []) := by
  refine trip Try.tabOk Try.func9 rfl rfl rfl rfl ?_
  rintro w SM ⟨hR, hR2⟩
  obtain ⟨A1, A2, c1, c2, rfl, hD⟩ := kDfa_open hR
  obtain ⟨B1, B2, d1, d2, rfl, hE⟩ := kDfa_open hR2
  repeat' (first | refine e_nil ?_ | ((first | refine e_op ?_ | refine e_yes rfl ?_); (first | refine o_dNew rfl rfl rfl (fun _ => ?_) | refine o_dNew0 rfl rfl rfl (fun _ => ?_) | refine dAll rfl rfl rfl td uc rfl rfl rfl ?_ | refine dS rfl rfl rfl rfl rfl rfl rfl td uc rfl ?_ | refine o_n (n_b26 rfl rfl) rfl ?_ | refine o_n (n_b26NR rfl rfl rfl rfl rfl) rfl ?_ | refine o_n (n_b26R rfl rfl rfl rfl) rfl ?_ | refine o_n (n_b26CR rfl rfl rfl rfl) rfl ?_ | refine o_n (n_b91 rfl rfl rfl rfl rfl rfl) rfl ?_ | refine o_n (peval_sound rfl) rfl ?_ | refine o_n (nl rfl rfl tc rfl) rfl ?_ | refine o_n (dR rfl rfl td rfl rfl rfl) rfl ?_ | refine o_n (dA rfl rfl td rfl rfl) rfl ?_ | refine o_n (dK rfl rfl td rfl rfl) rfl ?_ | refine o_storeC rfl rfl rfl rfl tc uc rfl rfl rfl ?_ | refine o_box rfl rfl (fun _ => ?_) | refine o_box1 rfl rfl rfl (fun _ => ?_) | refine o_alloc rfl rfl (fun _ => ?_))) | refine e_noU rfl rfl rfl ?_ | refine e_noN rfl rfl ?_ | refine s_seq ?_ | refine s_region ?_ | refine s_block ?_ | refine s_end ?_ | refine s_skip ?_ | refine s_exit ?_ | refine s_true rfl ?_ | refine s_false rfl ?_ | refine x_hit ?_ | refine x_code ?_ | refine x_back ?_ | refine x_miss rfl ?_)
  refine e_op (o_call (leastOf_r _ a) rfl .nil (Can.ro hR) rfl ?_)
  rintro v V ⟨C1, C2, e1, e2, rfl, rfl⟩
  simp only [List.cons_append, List.nil_append]
  repeat' (first | refine e_nil ?_ | ((first | refine e_op ?_ | refine e_yes rfl ?_); (first | refine o_dNew rfl rfl rfl (fun _ => ?_) | refine o_dNew0 rfl rfl rfl (fun _ => ?_) | refine dAll rfl rfl rfl td uc rfl rfl rfl ?_ | refine dS rfl rfl rfl rfl rfl rfl rfl td uc rfl ?_ | refine o_n (n_b26 rfl rfl) rfl ?_ | refine o_n (n_b26NR rfl rfl rfl rfl rfl) rfl ?_ | refine o_n (n_b26R rfl rfl rfl rfl) rfl ?_ | refine o_n (n_b26CR rfl rfl rfl rfl) rfl ?_ | refine o_n (n_b91 rfl rfl rfl rfl rfl rfl) rfl ?_ | refine o_n (peval_sound rfl) rfl ?_ | refine o_n (nl rfl rfl tc rfl) rfl ?_ | refine o_n (dR rfl rfl td rfl rfl rfl) rfl ?_ | refine o_n (dA rfl rfl td rfl rfl) rfl ?_ | refine o_n (dK rfl rfl td rfl rfl) rfl ?_ | refine o_storeC rfl rfl rfl rfl tc uc rfl rfl rfl ?_ | refine o_box rfl rfl (fun _ => ?_) | refine o_box1 rfl rfl rfl (fun _ => ?_) | refine o_alloc rfl rfl (fun _ => ?_))) | refine e_noU rfl rfl rfl ?_ | refine e_noN rfl rfl ?_ | refine s_seq ?_ | refine s_region ?_ | refine s_block ?_ | refine s_end ?_ | refine s_skip ?_ | refine s_exit ?_ | refine s_true rfl ?_ | refine s_false rfl ?_ | refine x_hit ?_ | refine x_code ?_ | refine x_back ?_ | refine x_miss rfl ?_)
  cases hc : checkM a == 0 with
  | false =>
    have hc' : ¬ checkM a = 0 := by simpa using hc
    repeat' (first | refine e_nil ?_ | ((first | refine e_op ?_ | refine e_yes rfl ?_); (first | refine o_dNew rfl rfl rfl (fun _ => ?_) | refine o_dNew0 rfl rfl rfl (fun _ => ?_) | refine dAll rfl rfl rfl td uc rfl rfl rfl ?_ | refine dS rfl rfl rfl rfl rfl rfl rfl td uc rfl ?_ | refine o_n (n_b26 rfl rfl) rfl ?_ | refine o_n (n_b26NR rfl rfl rfl rfl rfl) rfl ?_ | refine o_n (n_b26R rfl rfl rfl rfl) rfl ?_ | refine o_n (n_b26CR rfl rfl rfl rfl) rfl ?_ | refine o_n (n_b91 rfl rfl rfl rfl rfl rfl) rfl ?_ | refine o_n (peval_sound rfl) rfl ?_ | refine o_n (nl rfl rfl tc rfl) rfl ?_ | refine o_n (dR rfl rfl td rfl rfl rfl) rfl ?_ | refine o_n (dA rfl rfl td rfl rfl) rfl ?_ | refine o_n (dK rfl rfl td rfl rfl) rfl ?_ | refine o_storeC rfl rfl rfl rfl tc uc rfl rfl rfl ?_ | refine o_box rfl rfl (fun _ => ?_) | refine o_box1 rfl rfl rfl (fun _ => ?_) | refine o_alloc rfl rfl (fun _ => ?_))) | refine e_noU rfl rfl rfl ?_ | refine e_noN rfl rfl ?_ | refine s_seq ?_ | refine s_region ?_ | refine s_block ?_ | refine s_end ?_ | refine s_skip ?_ | refine s_exit ?_ | refine s_true rfl ?_ | refine s_false rfl ?_ | refine x_hit ?_ | refine x_code ?_ | refine x_back ?_ | refine x_miss rfl ?_)
    refine s_ret ⟨_, _, res1 rfl rfl, ⟨?_, rfl⟩, Ent.nil _⟩
    rw [decide_eq_false hc', Bool.false_and]
  | true =>
    have hc' : checkM a = 0 := by simpa using hc
    repeat' (first | refine e_nil ?_ | ((first | refine e_op ?_ | refine e_yes rfl ?_); (first | refine o_dNew rfl rfl rfl (fun _ => ?_) | refine o_dNew0 rfl rfl rfl (fun _ => ?_) | refine dAll rfl rfl rfl td uc rfl rfl rfl ?_ | refine dS rfl rfl rfl rfl rfl rfl rfl td uc rfl ?_ | refine o_n (n_b26 rfl rfl) rfl ?_ | refine o_n (n_b26NR rfl rfl rfl rfl rfl) rfl ?_ | refine o_n (n_b26R rfl rfl rfl rfl) rfl ?_ | refine o_n (n_b26CR rfl rfl rfl rfl) rfl ?_ | refine o_n (n_b91 rfl rfl rfl rfl rfl rfl) rfl ?_ | refine o_n (peval_sound rfl) rfl ?_ | refine o_n (nl rfl rfl tc rfl) rfl ?_ | refine o_n (dR rfl rfl td rfl rfl rfl) rfl ?_ | refine o_n (dA rfl rfl td rfl rfl) rfl ?_ | refine o_n (dK rfl rfl td rfl rfl) rfl ?_ | refine o_storeC rfl rfl rfl rfl tc uc rfl rfl rfl ?_ | refine o_box rfl rfl (fun _ => ?_) | refine o_box1 rfl rfl rfl (fun _ => ?_) | refine o_alloc rfl rfl (fun _ => ?_))) | refine e_noU rfl rfl rfl ?_ | refine e_noN rfl rfl ?_ | refine s_seq ?_ | refine s_region ?_ | refine s_block ?_ | refine s_end ?_ | refine s_skip ?_ | refine s_exit ?_ | refine s_true rfl ?_ | refine s_false rfl ?_ | refine x_hit ?_ | refine x_code ?_ | refine x_back ?_ | refine x_miss rfl ?_)
    refine e_yes rfl (o_call (same11_w _ _ (ofM a) b) rfl .nil (Can.and (Can.rdA (.s .z)) (Can.ro hR2)) rfl ?_)
    rintro v V ⟨rfl, rfl⟩
    simp only [List.nil_append]
    repeat' (first | refine e_nil ?_ | ((first | refine e_op ?_ | refine e_yes rfl ?_); (first | refine o_dNew rfl rfl rfl (fun _ => ?_) | refine o_dNew0 rfl rfl rfl (fun _ => ?_) | refine dAll rfl rfl rfl td uc rfl rfl rfl ?_ | refine dS rfl rfl rfl rfl rfl rfl rfl td uc rfl ?_ | refine o_n (n_b26 rfl rfl) rfl ?_ | refine o_n (n_b26NR rfl rfl rfl rfl rfl) rfl ?_ | refine o_n (n_b26R rfl rfl rfl rfl) rfl ?_ | refine o_n (n_b26CR rfl rfl rfl rfl) rfl ?_ | refine o_n (n_b91 rfl rfl rfl rfl rfl rfl) rfl ?_ | refine o_n (peval_sound rfl) rfl ?_ | refine o_n (nl rfl rfl tc rfl) rfl ?_ | refine o_n (dR rfl rfl td rfl rfl rfl) rfl ?_ | refine o_n (dA rfl rfl td rfl rfl) rfl ?_ | refine o_n (dK rfl rfl td rfl rfl) rfl ?_ | refine o_storeC rfl rfl rfl rfl tc uc rfl rfl rfl ?_ | refine o_box rfl rfl (fun _ => ?_) | refine o_box1 rfl rfl rfl (fun _ => ?_) | refine o_alloc rfl rfl (fun _ => ?_))) | refine e_noU rfl rfl rfl ?_ | refine e_noN rfl rfl ?_ | refine s_seq ?_ | refine s_region ?_ | refine s_block ?_ | refine s_end ?_ | refine s_skip ?_ | refine s_exit ?_ | refine s_true rfl ?_ | refine s_false rfl ?_ | refine x_hit ?_ | refine x_code ?_ | refine x_back ?_ | refine x_miss rfl ?_)
    refine s_ret ⟨_, _, res1 rfl rfl, ⟨?_, rfl⟩, Ent.nil _⟩
    rw [decide_eq_true hc', Bool.true_and]

/-- A machine that is built, to be read. -/
theorem ent_one {l r : List Int} {A1 B : Option Addr} {n c1 d : Nat} {U : List Asn} (hn : n = r.length) (hl : ∀ x ∈ l, I64 x) (hr : ∀ x ∈ r, I64 x) (h1 : l.length ≤ 100) (h2 : r.length ≤ 100) :
    Ent (orow (Value.int .i64) 24 3 (.slice A1 l.length c1) l.length (l.map fun x => [x]) :: pI B n d r :: U) (rdA kDfa (dC .zero [.slice A1 l.length c1, .slice B n d]) (oneM l r) :: U) := by
  subst hn
  have i : MI (oneM l r) := ⟨zero_mi.cls, fun r hr x hx => by
      obtain ⟨y, hy, rfl⟩ := List.mem_map.1 hr
      rw [List.mem_singleton] at hx; subst hx; exact hl _ hy, hr, by unfold oneM; rw [List.length_map]; omega, fun r hr => by
      obtain ⟨y, hy, rfl⟩ := List.mem_map.1 hr
      simp, by unfold oneM; simp only; omega⟩
  have h := ent_dfa (U := U) i (A1 := A1) (A2 := B) (c1 := c1) (c2 := d)
  have e : (oneM l r).Next.length = l.length := by unfold oneM; rw [List.length_map]
  unfold ownD dfC at h
  rw [e] at h
  exact h

instance decI64' (x : Int) : Decidable (I64 x) := inferInstanceAs (Decidable (_ ∧ _))

theorem ex1 : (decide (checkM (oneM [1, 2, 1] [0, 0, 0]) = 0) && (ofM (oneM [1, 2, 1] [0, 0, 0])).eqB (oneM [0] [0])) = true := by decide +kernel
theorem ex2 : (decide (checkM (oneM [1, 1] [0, -1]) = 0) && (ofM (oneM [1, 1] [0, -1])).eqB (oneM [-1] [0])) = true := by decide +kernel
theorem ex3 : (decide (checkM (oneM [0] [-1]) = 0) && (ofM (oneM [0] [-1])).eqB (oneM [-1] [-1])) = true := by decide +kernel

theorem works_w : Trip Try.prog 4 [] Rd.tt [] (fun v V => v = .bool true ∧ V = []) := by
  refine trip Try.tabOk Try.func4 rfl rfl rfl rfl ?_
  rintro w SM hW
  clear hW
  repeat' (first | refine e_nil ?_ | ((first | refine e_op ?_ | refine e_yes rfl ?_); (first | refine o_dNew rfl rfl rfl (fun _ => ?_) | refine o_dNew0 rfl rfl rfl (fun _ => ?_) | refine dAll rfl rfl rfl td uc rfl rfl rfl ?_ | refine dS rfl rfl rfl rfl rfl rfl rfl td uc rfl ?_ | refine o_n (n_b26 rfl rfl) rfl ?_ | refine o_n (n_b26NR rfl rfl rfl rfl rfl) rfl ?_ | refine o_n (n_b26R rfl rfl rfl rfl) rfl ?_ | refine o_n (n_b26CR rfl rfl rfl rfl) rfl ?_ | refine o_n (n_b91 rfl rfl rfl rfl rfl rfl) rfl ?_ | refine o_n (peval_sound rfl) rfl ?_ | refine o_n (nl rfl rfl tc rfl) rfl ?_ | refine o_n (dR rfl rfl td rfl rfl rfl) rfl ?_ | refine o_n (dA rfl rfl td rfl rfl) rfl ?_ | refine o_n (dK rfl rfl td rfl rfl) rfl ?_ | refine o_storeC rfl rfl rfl rfl tc uc rfl rfl rfl ?_ | refine o_box rfl rfl (fun _ => ?_) | refine o_box1 rfl rfl rfl (fun _ => ?_) | refine o_alloc rfl rfl (fun _ => ?_))) | refine e_noU rfl rfl rfl ?_ | refine e_noN rfl rfl ?_ | refine s_seq ?_ | refine s_region ?_ | refine s_block ?_ | refine s_end ?_ | refine s_skip ?_ | refine s_exit ?_ | refine s_true rfl ?_ | refine s_false rfl ?_ | refine x_hit ?_ | refine x_code ?_ | refine x_back ?_ | refine x_miss rfl ?_)
  refine e_op (o_lit (ps := [(0, .int .i64 1), (1, .int .i64 2), (2, .int .i64 1)]) (cs := [.int .i64 1, .int .i64 2, .int .i64 1]) rfl rfl rfl rfl rfl rfl rfl (fun b0a => ?_))
  refine e_op (o_lit (ps := [(0, .int .i64 0), (1, .int .i64 0), (2, .int .i64 0)]) (cs := [.int .i64 0, .int .i64 0, .int .i64 0]) rfl rfl rfl rfl rfl rfl rfl (fun b0b => ?_))
  refine e_op (o_call (one_w (some ⟨b0a, 0, none⟩) (some ⟨b0b, 0, none⟩) 3 3 3 [1, 2, 1] (by decide)) rfl .nil (can_ints (.s .z) (by decide) (by decide)) rfl ?_)
  rintro v V ⟨A0, c0, rfl, rfl⟩
  refine e_ent (ent_one (l := [1, 2, 1]) (r := [0, 0, 0]) rfl (by decide) (by decide) (by decide) (by decide)) ?_
  refine e_op (o_lit (ps := [(0, .int .i64 0)]) (cs := [.int .i64 0]) rfl rfl rfl rfl rfl rfl rfl (fun b1a => ?_))
  refine e_op (o_lit (ps := [(0, .int .i64 0)]) (cs := [.int .i64 0]) rfl rfl rfl rfl rfl rfl rfl (fun b1b => ?_))
  refine e_op (o_call (one_w (some ⟨b1a, 0, none⟩) (some ⟨b1b, 0, none⟩) 1 1 1 [0] (by decide)) rfl .nil (can_ints (.s .z) (by decide) (by decide)) rfl ?_)
  rintro v V ⟨A1, c1, rfl, rfl⟩
  refine e_ent (ent_one (l := [0]) (r := [0]) rfl (by decide) (by decide) (by decide) (by decide)) ?_
  refine e_op (o_call (is_w _ _ (oneM [1, 2, 1] [0, 0, 0]) (oneM [0] [0])) rfl .nil (Can.and (Can.rdA (.s (.s .z))) (Can.rdA .z)) rfl ?_)
  rintro v V ⟨rfl, rfl⟩
  rw [ex1]
  refine e_ent (Ent.nil _) ?_
  repeat' (first | refine e_nil ?_ | ((first | refine e_op ?_ | refine e_yes rfl ?_); (first | refine o_dNew rfl rfl rfl (fun _ => ?_) | refine o_dNew0 rfl rfl rfl (fun _ => ?_) | refine dAll rfl rfl rfl td uc rfl rfl rfl ?_ | refine dS rfl rfl rfl rfl rfl rfl rfl td uc rfl ?_ | refine o_n (n_b26 rfl rfl) rfl ?_ | refine o_n (n_b26NR rfl rfl rfl rfl rfl) rfl ?_ | refine o_n (n_b26R rfl rfl rfl rfl) rfl ?_ | refine o_n (n_b26CR rfl rfl rfl rfl) rfl ?_ | refine o_n (n_b91 rfl rfl rfl rfl rfl rfl) rfl ?_ | refine o_n (peval_sound rfl) rfl ?_ | refine o_n (nl rfl rfl tc rfl) rfl ?_ | refine o_n (dR rfl rfl td rfl rfl rfl) rfl ?_ | refine o_n (dA rfl rfl td rfl rfl) rfl ?_ | refine o_n (dK rfl rfl td rfl rfl) rfl ?_ | refine o_storeC rfl rfl rfl rfl tc uc rfl rfl rfl ?_ | refine o_box rfl rfl (fun _ => ?_) | refine o_box1 rfl rfl rfl (fun _ => ?_) | refine o_alloc rfl rfl (fun _ => ?_))) | refine e_noU rfl rfl rfl ?_ | refine e_noN rfl rfl ?_ | refine s_seq ?_ | refine s_region ?_ | refine s_block ?_ | refine s_end ?_ | refine s_skip ?_ | refine s_exit ?_ | refine s_true rfl ?_ | refine s_false rfl ?_ | refine x_hit ?_ | refine x_code ?_ | refine x_back ?_ | refine x_miss rfl ?_)
  refine e_yes rfl (o_lit (ps := [(0, .int .i64 1), (1, .int .i64 1)]) (cs := [.int .i64 1, .int .i64 1]) rfl rfl rfl rfl rfl rfl rfl (fun b2a => ?_))
  refine e_yes rfl (o_lit (ps := [(0, .int .i64 0), (1, .int .i64 (-1))]) (cs := [.int .i64 0, .int .i64 (-1)]) rfl rfl rfl rfl rfl rfl rfl (fun b2b => ?_))
  refine e_yes rfl (o_call (one_w (some ⟨b2a, 0, none⟩) (some ⟨b2b, 0, none⟩) 2 2 2 [1, 1] (by decide)) rfl .nil (can_ints (.s .z) (by decide) (by decide)) rfl ?_)
  rintro v V ⟨A2, c2, rfl, rfl⟩
  refine e_ent (ent_one (l := [1, 1]) (r := [0, -1]) rfl (by decide) (by decide) (by decide) (by decide)) ?_
  refine e_yes rfl (o_lit (ps := [(0, .int .i64 (-1))]) (cs := [.int .i64 (-1)]) rfl rfl rfl rfl rfl rfl rfl (fun b3a => ?_))
  refine e_yes rfl (o_lit (ps := [(0, .int .i64 0)]) (cs := [.int .i64 0]) rfl rfl rfl rfl rfl rfl rfl (fun b3b => ?_))
  refine e_yes rfl (o_call (one_w (some ⟨b3a, 0, none⟩) (some ⟨b3b, 0, none⟩) 1 1 1 [-1] (by decide)) rfl .nil (can_ints (.s .z) (by decide) (by decide)) rfl ?_)
  rintro v V ⟨A3, c3, rfl, rfl⟩
  refine e_ent (ent_one (l := [-1]) (r := [0]) rfl (by decide) (by decide) (by decide) (by decide)) ?_
  refine e_yes rfl (o_call (is_w _ _ (oneM [1, 1] [0, -1]) (oneM [-1] [0])) rfl .nil (Can.and (Can.rdA (.s (.s .z))) (Can.rdA .z)) rfl ?_)
  rintro v V ⟨rfl, rfl⟩
  rw [ex2]
  refine e_ent (Ent.nil _) ?_
  repeat' (first | refine e_nil ?_ | ((first | refine e_op ?_ | refine e_yes rfl ?_); (first | refine o_dNew rfl rfl rfl (fun _ => ?_) | refine o_dNew0 rfl rfl rfl (fun _ => ?_) | refine dAll rfl rfl rfl td uc rfl rfl rfl ?_ | refine dS rfl rfl rfl rfl rfl rfl rfl td uc rfl ?_ | refine o_n (n_b26 rfl rfl) rfl ?_ | refine o_n (n_b26NR rfl rfl rfl rfl rfl) rfl ?_ | refine o_n (n_b26R rfl rfl rfl rfl) rfl ?_ | refine o_n (n_b26CR rfl rfl rfl rfl) rfl ?_ | refine o_n (n_b91 rfl rfl rfl rfl rfl rfl) rfl ?_ | refine o_n (peval_sound rfl) rfl ?_ | refine o_n (nl rfl rfl tc rfl) rfl ?_ | refine o_n (dR rfl rfl td rfl rfl rfl) rfl ?_ | refine o_n (dA rfl rfl td rfl rfl) rfl ?_ | refine o_n (dK rfl rfl td rfl rfl) rfl ?_ | refine o_storeC rfl rfl rfl rfl tc uc rfl rfl rfl ?_ | refine o_box rfl rfl (fun _ => ?_) | refine o_box1 rfl rfl rfl (fun _ => ?_) | refine o_alloc rfl rfl (fun _ => ?_))) | refine e_noU rfl rfl rfl ?_ | refine e_noN rfl rfl ?_ | refine s_seq ?_ | refine s_region ?_ | refine s_block ?_ | refine s_end ?_ | refine s_skip ?_ | refine s_exit ?_ | refine s_true rfl ?_ | refine s_false rfl ?_ | refine x_hit ?_ | refine x_code ?_ | refine x_back ?_ | refine x_miss rfl ?_)
  refine e_yes rfl (o_lit (ps := [(0, .int .i64 0)]) (cs := [.int .i64 0]) rfl rfl rfl rfl rfl rfl rfl (fun b4a => ?_))
  refine e_yes rfl (o_lit (ps := [(0, .int .i64 (-1))]) (cs := [.int .i64 (-1)]) rfl rfl rfl rfl rfl rfl rfl (fun b4b => ?_))
  refine e_yes rfl (o_call (one_w (some ⟨b4a, 0, none⟩) (some ⟨b4b, 0, none⟩) 1 1 1 [0] (by decide)) rfl .nil (can_ints (.s .z) (by decide) (by decide)) rfl ?_)
  rintro v V ⟨A4, c4, rfl, rfl⟩
  refine e_ent (ent_one (l := [0]) (r := [-1]) rfl (by decide) (by decide) (by decide) (by decide)) ?_
  refine e_yes rfl (o_lit (ps := [(0, .int .i64 (-1))]) (cs := [.int .i64 (-1)]) rfl rfl rfl rfl rfl rfl rfl (fun b5a => ?_))
  refine e_yes rfl (o_lit (ps := [(0, .int .i64 (-1))]) (cs := [.int .i64 (-1)]) rfl rfl rfl rfl rfl rfl rfl (fun b5b => ?_))
  refine e_yes rfl (o_call (one_w (some ⟨b5a, 0, none⟩) (some ⟨b5b, 0, none⟩) 1 1 1 [-1] (by decide)) rfl .nil (can_ints (.s .z) (by decide) (by decide)) rfl ?_)
  rintro v V ⟨A5, c5, rfl, rfl⟩
  refine e_ent (ent_one (l := [-1]) (r := [-1]) rfl (by decide) (by decide) (by decide) (by decide)) ?_
  refine e_yes rfl (o_call (is_w _ _ (oneM [0] [-1]) (oneM [-1] [-1])) rfl .nil (Can.and (Can.rdA (.s (.s .z))) (Can.rdA .z)) rfl ?_)
  rintro v V ⟨rfl, rfl⟩
  rw [ex3]
  refine e_ent (Ent.nil _) ?_
  repeat' (first | refine e_nil ?_ | ((first | refine e_op ?_ | refine e_yes rfl ?_); (first | refine o_dNew rfl rfl rfl (fun _ => ?_) | refine o_dNew0 rfl rfl rfl (fun _ => ?_) | refine dAll rfl rfl rfl td uc rfl rfl rfl ?_ | refine dS rfl rfl rfl rfl rfl rfl rfl td uc rfl ?_ | refine o_n (n_b26 rfl rfl) rfl ?_ | refine o_n (n_b26NR rfl rfl rfl rfl rfl) rfl ?_ | refine o_n (n_b26R rfl rfl rfl rfl) rfl ?_ | refine o_n (n_b26CR rfl rfl rfl rfl) rfl ?_ | refine o_n (n_b91 rfl rfl rfl rfl rfl rfl) rfl ?_ | refine o_n (peval_sound rfl) rfl ?_ | refine o_n (nl rfl rfl tc rfl) rfl ?_ | refine o_n (dR rfl rfl td rfl rfl rfl) rfl ?_ | refine o_n (dA rfl rfl td rfl rfl) rfl ?_ | refine o_n (dK rfl rfl td rfl rfl) rfl ?_ | refine o_storeC rfl rfl rfl rfl tc uc rfl rfl rfl ?_ | refine o_box rfl rfl (fun _ => ?_) | refine o_box1 rfl rfl rfl (fun _ => ?_) | refine o_alloc rfl rfl (fun _ => ?_))) | refine e_noU rfl rfl rfl ?_ | refine e_noN rfl rfl ?_ | refine s_seq ?_ | refine s_region ?_ | refine s_block ?_ | refine s_end ?_ | refine s_skip ?_ | refine s_exit ?_ | refine s_true rfl ?_ | refine s_false rfl ?_ | refine x_hit ?_ | refine x_code ?_ | refine x_back ?_ | refine x_miss rfl ?_)
  refine s_ret ⟨_, _, res1 rfl rfl, ⟨rfl, rfl⟩, Ent.nil _⟩

end Go.Proofs.Ytbfjnldneemmiab
