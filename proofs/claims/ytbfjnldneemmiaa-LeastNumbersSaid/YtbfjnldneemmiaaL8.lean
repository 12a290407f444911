/-
  The table of states that some text tells apart, as the document makes it.
-/
import Derived.Test.YtbfjnldneemmiaaP4
import Derived.Test.YtbfjnldneemmiaaL1
import Derived.Test.YtbfjnldneemmiaaE20
namespace Go.Proofs.Ytbfjnldneemmiaa
set_option linter.all false
open Go.Proofs.Ytbfjnldneemmiaa.E


/-- The rows' heads; the rows. -/
def hdr (N : Nat) (bcs : List (Nat × Nat)) : List Value := bcs.map fun bc => Value.slice (some ⟨bc.1, 0, none⟩) N bc.2
def tbL (N : Nat) (bcs : List (Nat × Nat)) (rows : List (List Bool)) : List Asn := List.zipWith (fun bc (r : List Bool) => osl 4 1 (.slice (some ⟨bc.1, 0, none⟩) N bc.2) N (r.map Value.bool)) bcs rows

theorem hdr_get {N : Nat} {bcs : List (Nat × Nat)} {i : Nat} (h : i < bcs.length) : (hdr N bcs)[i]? = some (.slice (some ⟨bcs[i].1, 0, none⟩) N bcs[i].2) := by
  unfold hdr; rw [List.getElem?_map, List.getElem?_eq_getElem h]; rfl
theorem hdr_snoc (N : Nat) (bcs : List (Nat × Nat)) (bc : Nat × Nat) : hdr N (bcs ++ [bc]) = hdr N bcs ++ [.slice (some ⟨bc.1, 0, none⟩) N bc.2] := by
  unfold hdr; rw [List.map_append]; rfl
theorem tbL_get {N : Nat} {bcs : List (Nat × Nat)} {rows : List (List Bool)} {i : Nat} (h : i < bcs.length) (h2 : i < rows.length) : (tbL N bcs rows)[i]? = some (osl 4 1 (.slice (some ⟨bcs[i].1, 0, none⟩) N bcs[i].2) N (rows[i].map Value.bool)) := by
  unfold tbL; rw [List.getElem?_zipWith, List.getElem?_eq_getElem h, List.getElem?_eq_getElem h2]
theorem tbL_set {N : Nat} {bcs : List (Nat × Nat)} {rows : List (List Bool)} {i : Nat} (h : i < bcs.length) (r : List Bool) : (tbL N bcs rows).set i (osl 4 1 (.slice (some ⟨bcs[i].1, 0, none⟩) N bcs[i].2) N (r.map Value.bool)) = tbL N bcs (rows.set i r) := by
  unfold tbL
  exact zipWith_set _ bcs rows i bcs[i] r (List.getElem?_eq_getElem h)
theorem tbL_snoc {N : Nat} {bcs : List (Nat × Nat)} {rows : List (List Bool)} (h : bcs.length = rows.length) (bc : Nat × Nat) (r : List Bool) : tbL N (bcs ++ [bc]) (rows ++ [r]) = tbL N bcs rows ++ [osl 4 1 (.slice (some ⟨bc.1, 0, none⟩) N bc.2) N (r.map Value.bool)] := by
  unfold tbL; rw [List.zipWith_append h]; rfl

theorem fill_v {l : List Value} {n i : Nat} {v z : Value} (hl : l.length = i) (h : i < n) : setMany (l ++ List.replicate (n - i) z) (0 + i * 1) [v] = (l ++ [v]) ++ List.replicate (n - (i + 1)) z := by
  have e : n - i = (n - (i + 1)) + 1 := by omega
  subst hl
  simp only [setMany]
  rw [Nat.zero_add, Nat.mul_one, e, List.replicate_succ, List.set_append_right _ _ (Nat.le_refl _), Nat.sub_self, List.set_cons_zero, List.append_assoc]; rfl

theorem row0_get (m : Mach) (i : Nat) {j : Nat} (h : j < m.Next.length + 1) : (row0 m i)[j]? = some (!decide (rl m ((i : Int) - 1) = rl m ((j : Int) - 1))) := by
  unfold row0; rw [List.getElem?_map, List.getElem?_range h]; rfl
theorem row0_len (m : Mach) (i : Nat) : (row0 m i).length = m.Next.length + 1 := by unfold row0; rw [List.length_map, List.length_range]
theorem tab0_len (m : Mach) : (tab0 m).length = m.Next.length + 1 := by unfold tab0; rw [List.length_map, List.length_range]
theorem tab0_at (m : Mach) {i : Nat} (h : i < m.Next.length + 1) : (tab0 m)[i]? = some (row0 m i) := by unfold tab0; rw [List.getElem?_map, List.getElem?_range h]; rfl

attribute [local irreducible] EVX EVO EVL EV1 NEV
attribute [local irreducible] own osl exA rdA rdL
set_option maxRecDepth 10000
set_option maxHeartbeats 4000000

theorem apart_w (cs : List Value) (m : Mach) (o : MOk m) : Trip Try.prog 75 [.agg cs.toArray] (kDfa.rd cs m) []
    (fun v V => ∃ (rows : List (List Bool)) (bo : Nat) (bcs : List (Nat × Nat)), TInv m rows ∧ (∀ i j, i < m.Next.length + 1 → j < m.Next.length + 1 → ClT m rows i j) ∧ bcs.length = m.Next.length + 1 ∧
      v = .slice (some ⟨bo, 0, none⟩) (m.Next.length + 1) (m.Next.length + 1) ∧ V = osl 49 1 (.slice (some ⟨bo, 0, none⟩) (m.Next.length + 1) (m.Next.length + 1)) (m.Next.length + 1) (hdr (m.Next.length + 1) bcs) :: tbL (m.Next.length + 1) bcs rows) := by
  refine trip Try.tabOk Try.func75 rfl rfl rfl rfl ?_
  rintro w SM hR
  obtain ⟨A1, A2, c1, c2, rfl, hD⟩ := kDfa_open hR
  have hn0 := o.n0
  have hn1 := o.n1
  have hNe : IntKind.i64.wrap ((m.Next.length : Int) + 1) = ((m.Next.length + 1 : Nat) : Int) := by rw [wrap_i64 (by omega) (by omega)]; rfl
  generalize hN : m.Next.length + 1 = N at *
  repeat' (first | refine e_nil ?_ | ((first | refine e_op ?_ | refine e_yes rfl ?_); (first | refine o_dNew rfl rfl rfl (fun _ => ?_) | refine o_dNew0 rfl rfl rfl (fun _ => ?_) | refine dAll rfl rfl rfl td uc rfl rfl rfl ?_ | refine dS rfl rfl rfl rfl rfl rfl rfl td uc rfl ?_ | refine o_n (n_b26 rfl rfl) rfl ?_ | refine o_n (n_b26NR rfl rfl rfl rfl rfl) rfl ?_ | refine o_n (n_b26R rfl rfl rfl rfl) rfl ?_ | refine o_n (n_b26CR rfl rfl rfl rfl) rfl ?_ | refine o_n (n_b91 rfl rfl rfl rfl rfl rfl) rfl ?_ | refine o_n (peval_sound rfl) rfl ?_ | refine o_n (nl rfl rfl tc rfl) rfl ?_ | refine o_n (dR rfl rfl td rfl rfl rfl) rfl ?_ | refine o_n (dA rfl rfl td rfl rfl) rfl ?_ | refine o_n (dK rfl rfl td rfl rfl) rfl ?_ | refine o_storeC rfl rfl rfl rfl tc uc rfl rfl rfl ?_ | refine o_box rfl rfl (fun _ => ?_) | refine o_box1 rfl rfl rfl (fun _ => ?_) | refine o_alloc rfl rfl (fun _ => ?_))) | refine e_noU rfl rfl rfl ?_ | refine e_noN rfl rfl ?_ | refine s_seq ?_ | refine s_region ?_ | refine s_block ?_ | refine s_end ?_ | refine s_skip ?_ | refine s_exit ?_ | refine s_true rfl ?_ | refine s_false rfl ?_ | refine x_hit ?_ | refine x_code ?_ | refine x_back ?_ | refine x_miss rfl ?_)
  rename_i b1
  rw [hNe]
  repeat' (first | refine e_nil ?_ | ((first | refine e_op ?_ | refine e_yes rfl ?_); (first | refine o_dNew rfl rfl rfl (fun _ => ?_) | refine o_dNew0 rfl rfl rfl (fun _ => ?_) | refine dAll rfl rfl rfl td uc rfl rfl rfl ?_ | refine dS rfl rfl rfl rfl rfl rfl rfl td uc rfl ?_ | refine o_n (n_b26 rfl rfl) rfl ?_ | refine o_n (n_b26NR rfl rfl rfl rfl rfl) rfl ?_ | refine o_n (n_b26R rfl rfl rfl rfl) rfl ?_ | refine o_n (n_b26CR rfl rfl rfl rfl) rfl ?_ | refine o_n (n_b91 rfl rfl rfl rfl rfl rfl) rfl ?_ | refine o_n (peval_sound rfl) rfl ?_ | refine o_n (nl rfl rfl tc rfl) rfl ?_ | refine o_n (dR rfl rfl td rfl rfl rfl) rfl ?_ | refine o_n (dA rfl rfl td rfl rfl) rfl ?_ | refine o_n (dK rfl rfl td rfl rfl) rfl ?_ | refine o_storeC rfl rfl rfl rfl tc uc rfl rfl rfl ?_ | refine o_box rfl rfl (fun _ => ?_) | refine o_box1 rfl rfl rfl (fun _ => ?_) | refine o_alloc rfl rfl (fun _ => ?_))) | refine e_noU rfl rfl rfl ?_ | refine e_noN rfl rfl ?_ | refine s_seq ?_ | refine s_region ?_ | refine s_block ?_ | refine s_end ?_ | refine s_skip ?_ | refine s_exit ?_ | refine s_true rfl ?_ | refine s_false rfl ?_ | refine x_hit ?_ | refine x_code ?_ | refine x_back ?_ | refine x_miss rfl ?_)
  refine e_op (o_make rfl rfl rfl rfl N rfl rfl (by omega) (by omega) rfl (fun bo => ?_))
  repeat' (first | refine e_nil ?_ | ((first | refine e_op ?_ | refine e_yes rfl ?_); (first | refine o_dNew rfl rfl rfl (fun _ => ?_) | refine o_dNew0 rfl rfl rfl (fun _ => ?_) | refine dAll rfl rfl rfl td uc rfl rfl rfl ?_ | refine dS rfl rfl rfl rfl rfl rfl rfl td uc rfl ?_ | refine o_n (n_b26 rfl rfl) rfl ?_ | refine o_n (n_b26NR rfl rfl rfl rfl rfl) rfl ?_ | refine o_n (n_b26R rfl rfl rfl rfl) rfl ?_ | refine o_n (n_b26CR rfl rfl rfl rfl) rfl ?_ | refine o_n (n_b91 rfl rfl rfl rfl rfl rfl) rfl ?_ | refine o_n (peval_sound rfl) rfl ?_ | refine o_n (nl rfl rfl tc rfl) rfl ?_ | refine o_n (dR rfl rfl td rfl rfl rfl) rfl ?_ | refine o_n (dA rfl rfl td rfl rfl) rfl ?_ | refine o_n (dK rfl rfl td rfl rfl) rfl ?_ | refine o_storeC rfl rfl rfl rfl tc uc rfl rfl rfl ?_ | refine o_box rfl rfl (fun _ => ?_) | refine o_box1 rfl rfl rfl (fun _ => ?_) | refine o_alloc rfl rfl (fun _ => ?_))) | refine e_noU rfl rfl rfl ?_ | refine e_noN rfl rfl ?_ | refine s_seq ?_ | refine s_region ?_ | refine s_block ?_ | refine s_end ?_ | refine s_skip ?_ | refine s_exit ?_ | refine s_true rfl ?_ | refine s_false rfl ?_ | refine x_hit ?_ | refine x_code ?_ | refine x_back ?_ | refine x_miss rfl ?_)
  refine s_loopK (ι := {x : Nat × List (Nat × Nat) // x.1 ≤ N ∧ x.2.length = x.1}) [1, 3, 4] rfl ⟨(0, []), by simp⟩ (fun x => [(5, .int .i64 x.1.1)])
    (fun x => osl 49 1 (.slice (some ⟨bo, 0, none⟩) N N) N (hdr N x.1.2 ++ List.replicate (N - x.1.1) (.slice none 0 0)) :: blk b1 26 (dC m.Class [.slice A1 m.Next.length c1, .slice A2 m.Rule.length c2]) :: (tbL N x.1.2 ((tab0 m).take x.1.1) ++ [])) (fun x => N - x.1.1) ?_ ?_ ?_
  · repeat' (first | exact Sub.nil _ | refine Sub.cons rfl ?_ | refine Sub.consE rfl ?_ ?_)
  · exact Ent.refl _
  · rintro ⟨⟨s, bcs⟩, hs, hbcs⟩
    simp only at hs hbcs ⊢
    repeat' (first | refine e_nil ?_ | ((first | refine e_op ?_ | refine e_yes rfl ?_); (first | refine o_dNew rfl rfl rfl (fun _ => ?_) | refine o_dNew0 rfl rfl rfl (fun _ => ?_) | refine dAll rfl rfl rfl td uc rfl rfl rfl ?_ | refine dS rfl rfl rfl rfl rfl rfl rfl td uc rfl ?_ | refine o_n (n_b26 rfl rfl) rfl ?_ | refine o_n (n_b26NR rfl rfl rfl rfl rfl) rfl ?_ | refine o_n (n_b26R rfl rfl rfl rfl) rfl ?_ | refine o_n (n_b26CR rfl rfl rfl rfl) rfl ?_ | refine o_n (n_b91 rfl rfl rfl rfl rfl rfl) rfl ?_ | refine o_n (peval_sound rfl) rfl ?_ | refine o_n (nl rfl rfl tc rfl) rfl ?_ | refine o_n (dR rfl rfl td rfl rfl rfl) rfl ?_ | refine o_n (dA rfl rfl td rfl rfl) rfl ?_ | refine o_n (dK rfl rfl td rfl rfl) rfl ?_ | refine o_storeC rfl rfl rfl rfl tc uc rfl rfl rfl ?_ | refine o_box rfl rfl (fun _ => ?_) | refine o_box1 rfl rfl rfl (fun _ => ?_) | refine o_alloc rfl rfl (fun _ => ?_))) | refine e_noU rfl rfl rfl ?_ | refine e_noN rfl rfl ?_ | refine s_seq ?_ | refine s_region ?_ | refine s_block ?_ | refine s_end ?_ | refine s_skip ?_ | refine s_exit ?_ | refine s_true rfl ?_ | refine s_false rfl ?_ | refine x_hit ?_ | refine x_code ?_ | refine x_back ?_ | refine x_miss rfl ?_)
    refine s_cond rfl (fun h => ?_) (fun h => ?_)
    · have hlt : s < N := by have := of_decide_eq_true h; omega
      clear h
      repeat' (first | refine e_nil ?_ | ((first | refine e_op ?_ | refine e_yes rfl ?_); (first | refine o_dNew rfl rfl rfl (fun _ => ?_) | refine o_dNew0 rfl rfl rfl (fun _ => ?_) | refine dAll rfl rfl rfl td uc rfl rfl rfl ?_ | refine dS rfl rfl rfl rfl rfl rfl rfl td uc rfl ?_ | refine o_n (n_b26 rfl rfl) rfl ?_ | refine o_n (n_b26NR rfl rfl rfl rfl rfl) rfl ?_ | refine o_n (n_b26R rfl rfl rfl rfl) rfl ?_ | refine o_n (n_b26CR rfl rfl rfl rfl) rfl ?_ | refine o_n (n_b91 rfl rfl rfl rfl rfl rfl) rfl ?_ | refine o_n (peval_sound rfl) rfl ?_ | refine o_n (nl rfl rfl tc rfl) rfl ?_ | refine o_n (dR rfl rfl td rfl rfl rfl) rfl ?_ | refine o_n (dA rfl rfl td rfl rfl) rfl ?_ | refine o_n (dK rfl rfl td rfl rfl) rfl ?_ | refine o_storeC rfl rfl rfl rfl tc uc rfl rfl rfl ?_ | refine o_box rfl rfl (fun _ => ?_) | refine o_box1 rfl rfl rfl (fun _ => ?_) | refine o_alloc rfl rfl (fun _ => ?_))) | refine e_noU rfl rfl rfl ?_ | refine e_noN rfl rfl ?_ | refine s_seq ?_ | refine s_region ?_ | refine s_block ?_ | refine s_end ?_ | refine s_skip ?_ | refine s_exit ?_ | refine s_true rfl ?_ | refine s_false rfl ?_ | refine x_hit ?_ | refine x_code ?_ | refine x_back ?_ | refine x_miss rfl ?_)
      refine e_op (o_make rfl rfl rfl rfl N rfl rfl (by omega) (by omega) rfl (fun br => ?_))
      refine e_op (o_n (n_index rfl rfl rfl rfl s rfl hlt) rfl ?_)
      refine e_op (o_store_osl (vs := [.slice (some ⟨br, 0, none⟩) N N]) rfl rfl rfl rfl rfl rfl (by simp [hdr]; omega) (.s .z) ?_)
      have hhl : (hdr N bcs).length = s := by unfold hdr; rw [List.length_map]; exact hbcs
      rw [show setMany (hdr N bcs ++ List.replicate (N - s) (.slice none 0 0)) (0 + s * _) [Value.slice (some ⟨br, 0, none⟩) N N] = hdr N (bcs ++ [(br, N)]) ++ List.replicate (N - (s + 1)) (.slice none 0 0) from by rw [hdr_snoc]; exact fill_v hhl hlt]
      repeat' (first | refine e_nil ?_ | ((first | refine e_op ?_ | refine e_yes rfl ?_); (first | refine o_dNew rfl rfl rfl (fun _ => ?_) | refine o_dNew0 rfl rfl rfl (fun _ => ?_) | refine dAll rfl rfl rfl td uc rfl rfl rfl ?_ | refine dS rfl rfl rfl rfl rfl rfl rfl td uc rfl ?_ | refine o_n (n_b26 rfl rfl) rfl ?_ | refine o_n (n_b26NR rfl rfl rfl rfl rfl) rfl ?_ | refine o_n (n_b26R rfl rfl rfl rfl) rfl ?_ | refine o_n (n_b26CR rfl rfl rfl rfl) rfl ?_ | refine o_n (n_b91 rfl rfl rfl rfl rfl rfl) rfl ?_ | refine o_n (peval_sound rfl) rfl ?_ | refine o_n (nl rfl rfl tc rfl) rfl ?_ | refine o_n (dR rfl rfl td rfl rfl rfl) rfl ?_ | refine o_n (dA rfl rfl td rfl rfl) rfl ?_ | refine o_n (dK rfl rfl td rfl rfl) rfl ?_ | refine o_storeC rfl rfl rfl rfl tc uc rfl rfl rfl ?_ | refine o_box rfl rfl (fun _ => ?_) | refine o_box1 rfl rfl rfl (fun _ => ?_) | refine o_alloc rfl rfl (fun _ => ?_))) | refine e_noU rfl rfl rfl ?_ | refine e_noN rfl rfl ?_ | refine s_seq ?_ | refine s_region ?_ | refine s_block ?_ | refine s_end ?_ | refine s_skip ?_ | refine s_exit ?_ | refine s_true rfl ?_ | refine s_false rfl ?_ | refine x_hit ?_ | refine x_code ?_ | refine x_back ?_ | refine x_miss rfl ?_)
      refine s_loopK (ι := {t : Nat // t ≤ N}) [1, 3, 4, 5] rfl ⟨0, by omega⟩ (fun t => [(6, .int .i64 t.1)])
        (fun t => osl 4 1 (.slice (some ⟨br, 0, none⟩) N N) N (((row0 m s).take t.1).map Value.bool ++ List.replicate (N - t.1) (.bool false)) :: osl 49 1 (.slice (some ⟨bo, 0, none⟩) N N) N (hdr N (bcs ++ [(br, N)]) ++ List.replicate (N - (s + 1)) (.slice none 0 0)) ::
          blk b1 26 (dC m.Class [.slice A1 m.Next.length c1, .slice A2 m.Rule.length c2]) :: (tbL N bcs ((tab0 m).take s) ++ [])) (fun t => N - t.1) ?_ ?_ ?_
      · repeat' (first | exact Sub.nil _ | refine Sub.cons rfl ?_ | refine Sub.consE rfl ?_ ?_)
      · exact Ent.refl _
      rintro ⟨t, ht⟩
      simp only at ht ⊢
      repeat' (first | refine e_nil ?_ | ((first | refine e_op ?_ | refine e_yes rfl ?_); (first | refine o_dNew rfl rfl rfl (fun _ => ?_) | refine o_dNew0 rfl rfl rfl (fun _ => ?_) | refine dAll rfl rfl rfl td uc rfl rfl rfl ?_ | refine dS rfl rfl rfl rfl rfl rfl rfl td uc rfl ?_ | refine o_n (n_b26 rfl rfl) rfl ?_ | refine o_n (n_b26NR rfl rfl rfl rfl rfl) rfl ?_ | refine o_n (n_b26R rfl rfl rfl rfl) rfl ?_ | refine o_n (n_b26CR rfl rfl rfl rfl) rfl ?_ | refine o_n (n_b91 rfl rfl rfl rfl rfl rfl) rfl ?_ | refine o_n (peval_sound rfl) rfl ?_ | refine o_n (nl rfl rfl tc rfl) rfl ?_ | refine o_n (dR rfl rfl td rfl rfl rfl) rfl ?_ | refine o_n (dA rfl rfl td rfl rfl) rfl ?_ | refine o_n (dK rfl rfl td rfl rfl) rfl ?_ | refine o_storeC rfl rfl rfl rfl tc uc rfl rfl rfl ?_ | refine o_box rfl rfl (fun _ => ?_) | refine o_box1 rfl rfl rfl (fun _ => ?_) | refine o_alloc rfl rfl (fun _ => ?_))) | refine e_noU rfl rfl rfl ?_ | refine e_noN rfl rfl ?_ | refine s_seq ?_ | refine s_region ?_ | refine s_block ?_ | refine s_end ?_ | refine s_skip ?_ | refine s_exit ?_ | refine s_true rfl ?_ | refine s_false rfl ?_ | refine x_hit ?_ | refine x_code ?_ | refine x_back ?_ | refine x_miss rfl ?_)
      refine s_cond rfl (fun h => ?_) (fun h => ?_)
      · have htl : t < N := by have := of_decide_eq_true h; omega
        clear h
        have hsv : ∀ i : Nat, i < N → ((i : Int) - 1) < 0 ∨ ∃ j : Nat, ((i : Int) - 1) = j ∧ j < m.Rule.length := fun i hi => by
          by_cases e : i = 0
          · exact .inl (by omega)
          · exact .inr ⟨i - 1, by omega, by rw [o.r]; omega⟩
        have hbl : s < (bcs ++ [(br, N)]).length := by rw [List.length_append, hbcs]; simp
        have hh : loadL ⟨.slice 4, 1, 24, [.slice none 0 0]⟩ (hdr N (bcs ++ [(br, N)]) ++ List.replicate (N - (s + 1)) (.slice none 0 0)) (0 + s * 1) = some (.slice (some ⟨br, 0, none⟩) N N) := by
          unfold loadL
          simp only [aggB, cond_false]
          rw [Nat.zero_add, Nat.mul_one, List.getElem?_append_left (by unfold hdr; rw [List.length_map]; exact hbl), hdr_get hbl]
          have e : (bcs ++ [(br, N)])[s] = (br, N) := by
            have : (bcs ++ [(br, N)])[s]? = some (br, N) := by rw [List.getElem?_append_right (by omega), hbcs, Nat.sub_self]; rfl
            rw [List.getElem?_eq_getElem hbl] at this
            exact Option.some.inj this
          rw [e]
        have hrl : ((row0 m s).take t).length = t := by rw [List.length_take, row0_len, hN]; omega
        repeat' (first | refine e_nil ?_ | ((first | refine e_op ?_ | refine e_yes rfl ?_); (first | refine o_dNew rfl rfl rfl (fun _ => ?_) | refine o_dNew0 rfl rfl rfl (fun _ => ?_) | refine dAll rfl rfl rfl td uc rfl rfl rfl ?_ | refine dS rfl rfl rfl rfl rfl rfl rfl td uc rfl ?_ | refine o_n (n_b26 rfl rfl) rfl ?_ | refine o_n (n_b26NR rfl rfl rfl rfl rfl) rfl ?_ | refine o_n (n_b26R rfl rfl rfl rfl) rfl ?_ | refine o_n (n_b26CR rfl rfl rfl rfl) rfl ?_ | refine o_n (n_b91 rfl rfl rfl rfl rfl rfl) rfl ?_ | refine o_n (peval_sound rfl) rfl ?_ | refine o_n (nl rfl rfl tc rfl) rfl ?_ | refine o_n (dR rfl rfl td rfl rfl rfl) rfl ?_ | refine o_n (dA rfl rfl td rfl rfl) rfl ?_ | refine o_n (dK rfl rfl td rfl rfl) rfl ?_ | refine o_storeC rfl rfl rfl rfl tc uc rfl rfl rfl ?_ | refine o_box rfl rfl (fun _ => ?_) | refine o_box1 rfl rfl rfl (fun _ => ?_) | refine o_alloc rfl rfl (fun _ => ?_))) | refine e_noU rfl rfl rfl ?_ | refine e_noN rfl rfl ?_ | refine s_seq ?_ | refine s_region ?_ | refine s_block ?_ | refine s_end ?_ | refine s_skip ?_ | refine s_exit ?_ | refine s_true rfl ?_ | refine s_false rfl ?_ | refine x_hit ?_ | refine x_code ?_ | refine x_back ?_ | refine x_miss rfl ?_)
        refine s_anyT .z Try.mixed ?_
        refine a_n 0 rfl (peval_sound rfl) (by decide +kernel) (Ent.wk (Ent.refl _)) rfl ?_
        refine a_n 1 rfl (peval_sound rfl) (by decide +kernel) (Ent.wk (Ent.refl _)) rfl ?_
        refine a_n 2 rfl (n_index rfl rfl rfl rfl s rfl hlt) (by decide +kernel) (Ent.wk (Ent.refl _)) rfl ?_
        refine a_n 3 rfl (n_load_osl (v := .slice (some ⟨br, 0, none⟩) N N) rfl rfl .z hh) (by decide +kernel) (Ent.wk (Ent.refl _)) rfl ?_
        refine a_n 4 rfl (peval_sound rfl) (by decide +kernel) (Ent.wk (Ent.refl _)) rfl ?_
        refine a_n 5 rfl (n_dA rfl rfl (.s .z) rfl rfl) (by decide +kernel) (Ent.wk (Ent.refl _)) rfl ?_
        refine a_n 6 rfl (peval_sound rfl) (by decide +kernel) (Ent.wk (Ent.refl _)) rfl ?_
        refine a_n 7 rfl (n_subI rfl rfl (by omega) (by omega)) (by decide +kernel) (Ent.wk (Ent.refl _)) rfl ?_
        refine a_n 9 rfl (n_dA rfl rfl (.s .z) rfl rfl) (by decide +kernel) (Ent.wk (Ent.refl _)) rfl ?_
        refine a_n 10 rfl (peval_sound rfl) (by decide +kernel) (Ent.wk (Ent.refl _)) rfl ?_
        refine a_n 11 rfl (n_subI rfl rfl (by omega) (by omega)) (by decide +kernel) (Ent.wk (Ent.refl _)) rfl ?_
        refine a_1 8 (by decide +kernel) rfl rfl (o_call (ruleR_w _ m ((s : Int) - 1) (hsv s hlt)) rfl .nil (Can.ro hR) rfl ?_)
        rintro v V ⟨rfl, rfl⟩
        refine ⟨Ent.wk (Ent.refl _), ?_⟩
        refine a_1 12 (by decide +kernel) rfl rfl (o_call (ruleR_w _ m ((t : Int) - 1) (hsv t htl)) rfl .nil (Can.ro hR) rfl ?_)
        rintro v V ⟨rfl, rfl⟩
        refine ⟨Ent.wk (Ent.refl _), ?_⟩
        simp only [List.nil_append]
        refine a_n 13 rfl (peval_sound rfl) (by decide +kernel) (Ent.wk (Ent.refl _)) rfl ?_
        refine a_n 14 rfl (n_index rfl rfl rfl rfl t rfl htl) (by decide +kernel) (Ent.wk (Ent.refl _)) rfl ?_
        refine a_1 15 (by decide +kernel) rfl rfl (o_store_osl (vs := [.bool (rl m ((s : Int) - 1) != rl m ((t : Int) - 1))]) rfl rfl rfl rfl rfl rfl (by simp [row0_len]; omega) .z ⟨Ent.wk (Ent.refl _), ?_⟩)
        refine a_done (by decide +kernel) ?_
        repeat' (first | refine e_nil ?_ | ((first | refine e_op ?_ | refine e_yes rfl ?_); (first | refine o_dNew rfl rfl rfl (fun _ => ?_) | refine o_dNew0 rfl rfl rfl (fun _ => ?_) | refine dAll rfl rfl rfl td uc rfl rfl rfl ?_ | refine dS rfl rfl rfl rfl rfl rfl rfl td uc rfl ?_ | refine o_n (n_b26 rfl rfl) rfl ?_ | refine o_n (n_b26NR rfl rfl rfl rfl rfl) rfl ?_ | refine o_n (n_b26R rfl rfl rfl rfl) rfl ?_ | refine o_n (n_b26CR rfl rfl rfl rfl) rfl ?_ | refine o_n (n_b91 rfl rfl rfl rfl rfl rfl) rfl ?_ | refine o_n (peval_sound rfl) rfl ?_ | refine o_n (nl rfl rfl tc rfl) rfl ?_ | refine o_n (dR rfl rfl td rfl rfl rfl) rfl ?_ | refine o_n (dA rfl rfl td rfl rfl) rfl ?_ | refine o_n (dK rfl rfl td rfl rfl) rfl ?_ | refine o_storeC rfl rfl rfl rfl tc uc rfl rfl rfl ?_ | refine o_box rfl rfl (fun _ => ?_) | refine o_box1 rfl rfl rfl (fun _ => ?_) | refine o_alloc rfl rfl (fun _ => ?_))) | refine e_noU rfl rfl rfl ?_ | refine e_noN rfl rfl ?_ | refine s_seq ?_ | refine s_region ?_ | refine s_block ?_ | refine s_end ?_ | refine s_skip ?_ | refine s_exit ?_ | refine s_true rfl ?_ | refine s_false rfl ?_ | refine x_hit ?_ | refine x_code ?_ | refine x_back ?_ | refine x_miss rfl ?_)
        refine s_back ⟨⟨t + 1, by omega⟩, by simp only; omega, ?_, ?_⟩
        · repeat' (first | exact Sub.nil _ | refine Sub.cons rfl ?_ | refine Sub.consE rfl ?_ ?_)
          exact inc (i := t) (by omega)
        · have e1 : (row0 m s).take (t + 1) = (row0 m s).take t ++ [!decide (rl m ((s : Int) - 1) = rl m ((t : Int) - 1))] := by
            rw [List.take_succ, row0_get m s (by omega)]; rfl
          have e2 : (rl m ((s : Int) - 1) != rl m ((t : Int) - 1)) = !decide (rl m ((s : Int) - 1) = rl m ((t : Int) - 1)) := rfl
          simp only [e1, e2, List.map_append, List.map_cons, List.map_nil]
          have e3 := fill_v (l := ((row0 m s).take t).map Value.bool) (n := N) (i := t) (v := .bool (!decide (rl m ((s : Int) - 1) = rl m ((t : Int) - 1)))) (z := .bool false) (by rw [List.length_map]; exact hrl) htl
          rw [← e3]
          exact Ent.refl _
      have hge : t = N := by have := of_decide_eq_false h; omega
      subst hge
      clear h ht
      repeat' (first | refine e_nil ?_ | ((first | refine e_op ?_ | refine e_yes rfl ?_); (first | refine o_dNew rfl rfl rfl (fun _ => ?_) | refine o_dNew0 rfl rfl rfl (fun _ => ?_) | refine dAll rfl rfl rfl td uc rfl rfl rfl ?_ | refine dS rfl rfl rfl rfl rfl rfl rfl td uc rfl ?_ | refine o_n (n_b26 rfl rfl) rfl ?_ | refine o_n (n_b26NR rfl rfl rfl rfl rfl) rfl ?_ | refine o_n (n_b26R rfl rfl rfl rfl) rfl ?_ | refine o_n (n_b26CR rfl rfl rfl rfl) rfl ?_ | refine o_n (n_b91 rfl rfl rfl rfl rfl rfl) rfl ?_ | refine o_n (peval_sound rfl) rfl ?_ | refine o_n (nl rfl rfl tc rfl) rfl ?_ | refine o_n (dR rfl rfl td rfl rfl rfl) rfl ?_ | refine o_n (dA rfl rfl td rfl rfl) rfl ?_ | refine o_n (dK rfl rfl td rfl rfl) rfl ?_ | refine o_storeC rfl rfl rfl rfl tc uc rfl rfl rfl ?_ | refine o_box rfl rfl (fun _ => ?_) | refine o_box1 rfl rfl rfl (fun _ => ?_) | refine o_alloc rfl rfl (fun _ => ?_))) | refine e_noU rfl rfl rfl ?_ | refine e_noN rfl rfl ?_ | refine s_seq ?_ | refine s_region ?_ | refine s_block ?_ | refine s_end ?_ | refine s_skip ?_ | refine s_exit ?_ | refine s_true rfl ?_ | refine s_false rfl ?_ | refine x_hit ?_ | refine x_code ?_ | refine x_back ?_ | refine x_miss rfl ?_)
      have htk : (tab0 m).take (s + 1) = (tab0 m).take s ++ [row0 m s] := by rw [List.take_succ, tab0_at m (by omega)]; rfl
      refine s_back ⟨⟨(s + 1, bcs ++ [(br, t)]), by simp only; omega, by simp [hbcs]⟩, by simp only; omega, ?_, ?_⟩
      · repeat' (first | exact Sub.nil _ | refine Sub.cons rfl ?_ | refine Sub.consE rfl ?_ ?_)
        exact inc (i := s) (by omega)
      · have e1 : ((row0 m s).take t).map Value.bool ++ List.replicate (t - t) (.bool false) = (row0 m s).map Value.bool := by
          rw [List.take_of_length_le (by rw [row0_len]; omega), Nat.sub_self, List.replicate_zero, List.append_nil]
        simp only [htk, e1]
        rw [tbL_snoc (by rw [List.length_take, tab0_len]; omega), List.append_assoc]
        exact Ent.tak (.s .z) (Ent.tak (.s .z) Ent.mid)
    have hge : s = N := by have := of_decide_eq_false h; omega
    subst hge
    clear h hs
    have e0 : (tab0 m).take s = tab0 m := List.take_of_length_le (by rw [tab0_len]; omega)
    rw [e0, Nat.sub_self, List.replicate_zero, List.append_nil]
    repeat' (first | refine e_nil ?_ | ((first | refine e_op ?_ | refine e_yes rfl ?_); (first | refine o_dNew rfl rfl rfl (fun _ => ?_) | refine o_dNew0 rfl rfl rfl (fun _ => ?_) | refine dAll rfl rfl rfl td uc rfl rfl rfl ?_ | refine dS rfl rfl rfl rfl rfl rfl rfl td uc rfl ?_ | refine o_n (n_b26 rfl rfl) rfl ?_ | refine o_n (n_b26NR rfl rfl rfl rfl rfl) rfl ?_ | refine o_n (n_b26R rfl rfl rfl rfl) rfl ?_ | refine o_n (n_b26CR rfl rfl rfl rfl) rfl ?_ | refine o_n (n_b91 rfl rfl rfl rfl rfl rfl) rfl ?_ | refine o_n (peval_sound rfl) rfl ?_ | refine o_n (nl rfl rfl tc rfl) rfl ?_ | refine o_n (dR rfl rfl td rfl rfl rfl) rfl ?_ | refine o_n (dA rfl rfl td rfl rfl) rfl ?_ | refine o_n (dK rfl rfl td rfl rfl) rfl ?_ | refine o_storeC rfl rfl rfl rfl tc uc rfl rfl rfl ?_ | refine o_box rfl rfl (fun _ => ?_) | refine o_box1 rfl rfl rfl (fun _ => ?_) | refine o_alloc rfl rfl (fun _ => ?_))) | refine e_noU rfl rfl rfl ?_ | refine e_noN rfl rfl ?_ | refine s_seq ?_ | refine s_region ?_ | refine s_block ?_ | refine s_end ?_ | refine s_skip ?_ | refine s_exit ?_ | refine s_true rfl ?_ | refine s_false rfl ?_ | refine x_hit ?_ | refine x_code ?_ | refine x_back ?_ | refine x_miss rfl ?_)
    refine s_loopK (ι := {x : List (List Bool) × Bool // TInv m x.1 ∧ (x.2 = false → ∀ i j, i < s → j < s → ClT m x.1 i j)}) [1, 3, 4] rfl ⟨(tab0 m, true), tab0_inv m, fun h => by cases h⟩ (fun x => [(7, .bool x.1.2)])
      (fun x => osl 49 1 (.slice (some ⟨bo, 0, none⟩) s s) s (hdr s bcs) :: blk b1 26 (dC m.Class [.slice A1 m.Next.length c1, .slice A2 m.Rule.length c2]) :: (tbL s bcs x.1.1 ++ [])) (fun x => if x.1.2 then s * s - cntF x.1.1 + 1 else 0) ?_ ?_ ?_
    · repeat' (first | exact Sub.nil _ | refine Sub.cons rfl ?_ | refine Sub.consE rfl ?_ ?_)
    · exact Ent.refl _
    rintro ⟨⟨rows0, more⟩, hT0, hfix⟩
    simp only at hT0 hfix ⊢
    repeat' (first | refine e_nil ?_ | ((first | refine e_op ?_ | refine e_yes rfl ?_); (first | refine o_dNew rfl rfl rfl (fun _ => ?_) | refine o_dNew0 rfl rfl rfl (fun _ => ?_) | refine dAll rfl rfl rfl td uc rfl rfl rfl ?_ | refine dS rfl rfl rfl rfl rfl rfl rfl td uc rfl ?_ | refine o_n (n_b26 rfl rfl) rfl ?_ | refine o_n (n_b26NR rfl rfl rfl rfl rfl) rfl ?_ | refine o_n (n_b26R rfl rfl rfl rfl) rfl ?_ | refine o_n (n_b26CR rfl rfl rfl rfl) rfl ?_ | refine o_n (n_b91 rfl rfl rfl rfl rfl rfl) rfl ?_ | refine o_n (peval_sound rfl) rfl ?_ | refine o_n (nl rfl rfl tc rfl) rfl ?_ | refine o_n (dR rfl rfl td rfl rfl rfl) rfl ?_ | refine o_n (dA rfl rfl td rfl rfl) rfl ?_ | refine o_n (dK rfl rfl td rfl rfl) rfl ?_ | refine o_storeC rfl rfl rfl rfl tc uc rfl rfl rfl ?_ | refine o_box rfl rfl (fun _ => ?_) | refine o_box1 rfl rfl rfl (fun _ => ?_) | refine o_alloc rfl rfl (fun _ => ?_))) | refine e_noU rfl rfl rfl ?_ | refine e_noN rfl rfl ?_ | refine s_seq ?_ | refine s_region ?_ | refine s_block ?_ | refine s_end ?_ | refine s_skip ?_ | refine s_exit ?_ | refine s_true rfl ?_ | refine s_false rfl ?_ | refine x_hit ?_ | refine x_code ?_ | refine x_back ?_ | refine x_miss rfl ?_)
    refine s_cond rfl (fun h => ?_) (fun h => ?_)
    · subst h
      clear hfix
      repeat' (first | refine e_nil ?_ | ((first | refine e_op ?_ | refine e_yes rfl ?_); (first | refine o_dNew rfl rfl rfl (fun _ => ?_) | refine o_dNew0 rfl rfl rfl (fun _ => ?_) | refine dAll rfl rfl rfl td uc rfl rfl rfl ?_ | refine dS rfl rfl rfl rfl rfl rfl rfl td uc rfl ?_ | refine o_n (n_b26 rfl rfl) rfl ?_ | refine o_n (n_b26NR rfl rfl rfl rfl rfl) rfl ?_ | refine o_n (n_b26R rfl rfl rfl rfl) rfl ?_ | refine o_n (n_b26CR rfl rfl rfl rfl) rfl ?_ | refine o_n (n_b91 rfl rfl rfl rfl rfl rfl) rfl ?_ | refine o_n (peval_sound rfl) rfl ?_ | refine o_n (nl rfl rfl tc rfl) rfl ?_ | refine o_n (dR rfl rfl td rfl rfl rfl) rfl ?_ | refine o_n (dA rfl rfl td rfl rfl) rfl ?_ | refine o_n (dK rfl rfl td rfl rfl) rfl ?_ | refine o_storeC rfl rfl rfl rfl tc uc rfl rfl rfl ?_ | refine o_box rfl rfl (fun _ => ?_) | refine o_box1 rfl rfl rfl (fun _ => ?_) | refine o_alloc rfl rfl (fun _ => ?_))) | refine e_noU rfl rfl rfl ?_ | refine e_noN rfl rfl ?_ | refine s_seq ?_ | refine s_region ?_ | refine s_block ?_ | refine s_end ?_ | refine s_skip ?_ | refine s_exit ?_ | refine s_true rfl ?_ | refine s_false rfl ?_ | refine x_hit ?_ | refine x_code ?_ | refine x_back ?_ | refine x_miss rfl ?_)
      refine s_loopK (ι := {x : Nat × List (List Bool) × Bool // x.1 ≤ s ∧ Pass m rows0 x.2.1 x.2.2 (fun i j => i < x.1 ∧ j < s)}) [1, 3, 4] rfl ⟨(0, rows0, false), Nat.zero_le _, (Pass.begin hT0).mono (fun i j h => by omega)⟩ (fun x => [(8, .int .i64 x.1.1), (7, .bool x.1.2.2)])
        (fun x => osl 49 1 (.slice (some ⟨bo, 0, none⟩) s s) s (hdr s bcs) :: blk b1 26 (dC m.Class [.slice A1 m.Next.length c1, .slice A2 m.Rule.length c2]) :: (tbL s bcs x.1.2.1 ++ [])) (fun x => s - x.1.1) ?_ ?_ ?_
      · repeat' (first | exact Sub.nil _ | refine Sub.cons rfl ?_ | refine Sub.consE rfl ?_ ?_)
      · exact Ent.refl _
      rintro ⟨⟨p, rows, more⟩, hp, hpass⟩
      simp only at hp hpass ⊢
      repeat' (first | refine e_nil ?_ | ((first | refine e_op ?_ | refine e_yes rfl ?_); (first | refine o_dNew rfl rfl rfl (fun _ => ?_) | refine o_dNew0 rfl rfl rfl (fun _ => ?_) | refine dAll rfl rfl rfl td uc rfl rfl rfl ?_ | refine dS rfl rfl rfl rfl rfl rfl rfl td uc rfl ?_ | refine o_n (n_b26 rfl rfl) rfl ?_ | refine o_n (n_b26NR rfl rfl rfl rfl rfl) rfl ?_ | refine o_n (n_b26R rfl rfl rfl rfl) rfl ?_ | refine o_n (n_b26CR rfl rfl rfl rfl) rfl ?_ | refine o_n (n_b91 rfl rfl rfl rfl rfl rfl) rfl ?_ | refine o_n (peval_sound rfl) rfl ?_ | refine o_n (nl rfl rfl tc rfl) rfl ?_ | refine o_n (dR rfl rfl td rfl rfl rfl) rfl ?_ | refine o_n (dA rfl rfl td rfl rfl) rfl ?_ | refine o_n (dK rfl rfl td rfl rfl) rfl ?_ | refine o_storeC rfl rfl rfl rfl tc uc rfl rfl rfl ?_ | refine o_box rfl rfl (fun _ => ?_) | refine o_box1 rfl rfl rfl (fun _ => ?_) | refine o_alloc rfl rfl (fun _ => ?_))) | refine e_noU rfl rfl rfl ?_ | refine e_noN rfl rfl ?_ | refine s_seq ?_ | refine s_region ?_ | refine s_block ?_ | refine s_end ?_ | refine s_skip ?_ | refine s_exit ?_ | refine s_true rfl ?_ | refine s_false rfl ?_ | refine x_hit ?_ | refine x_code ?_ | refine x_back ?_ | refine x_miss rfl ?_)
      refine s_cond rfl (fun h => ?_) (fun h => ?_)
      · have hps : p < s := by have := of_decide_eq_true h; omega
        clear h
        repeat' (first | refine e_nil ?_ | ((first | refine e_op ?_ | refine e_yes rfl ?_); (first | refine o_dNew rfl rfl rfl (fun _ => ?_) | refine o_dNew0 rfl rfl rfl (fun _ => ?_) | refine dAll rfl rfl rfl td uc rfl rfl rfl ?_ | refine dS rfl rfl rfl rfl rfl rfl rfl td uc rfl ?_ | refine o_n (n_b26 rfl rfl) rfl ?_ | refine o_n (n_b26NR rfl rfl rfl rfl rfl) rfl ?_ | refine o_n (n_b26R rfl rfl rfl rfl) rfl ?_ | refine o_n (n_b26CR rfl rfl rfl rfl) rfl ?_ | refine o_n (n_b91 rfl rfl rfl rfl rfl rfl) rfl ?_ | refine o_n (peval_sound rfl) rfl ?_ | refine o_n (nl rfl rfl tc rfl) rfl ?_ | refine o_n (dR rfl rfl td rfl rfl rfl) rfl ?_ | refine o_n (dA rfl rfl td rfl rfl) rfl ?_ | refine o_n (dK rfl rfl td rfl rfl) rfl ?_ | refine o_storeC rfl rfl rfl rfl tc uc rfl rfl rfl ?_ | refine o_box rfl rfl (fun _ => ?_) | refine o_box1 rfl rfl rfl (fun _ => ?_) | refine o_alloc rfl rfl (fun _ => ?_))) | refine e_noU rfl rfl rfl ?_ | refine e_noN rfl rfl ?_ | refine s_seq ?_ | refine s_region ?_ | refine s_block ?_ | refine s_end ?_ | refine s_skip ?_ | refine s_exit ?_ | refine s_true rfl ?_ | refine s_false rfl ?_ | refine x_hit ?_ | refine x_code ?_ | refine x_back ?_ | refine x_miss rfl ?_)
        refine s_loopK (ι := {x : Nat × List (List Bool) × Bool // x.1 ≤ s ∧ Pass m rows0 x.2.1 x.2.2 (fun i j => (i < p ∧ j < s) ∨ (i = p ∧ j < x.1))}) [1, 3, 4, 8] rfl ⟨(0, rows, more), Nat.zero_le _, hpass.mono (fun i j h => .inl (by omega))⟩ (fun x => [(9, .int .i64 x.1.1), (7, .bool x.1.2.2)])
          (fun x => osl 49 1 (.slice (some ⟨bo, 0, none⟩) s s) s (hdr s bcs) :: blk b1 26 (dC m.Class [.slice A1 m.Next.length c1, .slice A2 m.Rule.length c2]) :: (tbL s bcs x.1.2.1 ++ [])) (fun x => s - x.1.1) ?_ ?_ ?_
        · repeat' (first | exact Sub.nil _ | refine Sub.cons rfl ?_ | refine Sub.consE rfl ?_ ?_)
        · exact Ent.refl _
        clear hpass
        rintro ⟨⟨q, rows, more⟩, hq, hpass⟩
        simp only at hq hpass ⊢
        repeat' (first | refine e_nil ?_ | ((first | refine e_op ?_ | refine e_yes rfl ?_); (first | refine o_dNew rfl rfl rfl (fun _ => ?_) | refine o_dNew0 rfl rfl rfl (fun _ => ?_) | refine dAll rfl rfl rfl td uc rfl rfl rfl ?_ | refine dS rfl rfl rfl rfl rfl rfl rfl td uc rfl ?_ | refine o_n (n_b26 rfl rfl) rfl ?_ | refine o_n (n_b26NR rfl rfl rfl rfl rfl) rfl ?_ | refine o_n (n_b26R rfl rfl rfl rfl) rfl ?_ | refine o_n (n_b26CR rfl rfl rfl rfl) rfl ?_ | refine o_n (n_b91 rfl rfl rfl rfl rfl rfl) rfl ?_ | refine o_n (peval_sound rfl) rfl ?_ | refine o_n (nl rfl rfl tc rfl) rfl ?_ | refine o_n (dR rfl rfl td rfl rfl rfl) rfl ?_ | refine o_n (dA rfl rfl td rfl rfl) rfl ?_ | refine o_n (dK rfl rfl td rfl rfl) rfl ?_ | refine o_storeC rfl rfl rfl rfl tc uc rfl rfl rfl ?_ | refine o_box rfl rfl (fun _ => ?_) | refine o_box1 rfl rfl rfl (fun _ => ?_) | refine o_alloc rfl rfl (fun _ => ?_))) | refine e_noU rfl rfl rfl ?_ | refine e_noN rfl rfl ?_ | refine s_seq ?_ | refine s_region ?_ | refine s_block ?_ | refine s_end ?_ | refine s_skip ?_ | refine s_exit ?_ | refine s_true rfl ?_ | refine s_false rfl ?_ | refine x_hit ?_ | refine x_code ?_ | refine x_back ?_ | refine x_miss rfl ?_)
        refine s_cond rfl (fun h => ?_) (fun h => ?_)
        · have hqs : q < s := by have := of_decide_eq_true h; omega
          clear h
          repeat' (first | refine e_nil ?_ | ((first | refine e_op ?_ | refine e_yes rfl ?_); (first | refine o_dNew rfl rfl rfl (fun _ => ?_) | refine o_dNew0 rfl rfl rfl (fun _ => ?_) | refine dAll rfl rfl rfl td uc rfl rfl rfl ?_ | refine dS rfl rfl rfl rfl rfl rfl rfl td uc rfl ?_ | refine o_n (n_b26 rfl rfl) rfl ?_ | refine o_n (n_b26NR rfl rfl rfl rfl rfl) rfl ?_ | refine o_n (n_b26R rfl rfl rfl rfl) rfl ?_ | refine o_n (n_b26CR rfl rfl rfl rfl) rfl ?_ | refine o_n (n_b91 rfl rfl rfl rfl rfl rfl) rfl ?_ | refine o_n (peval_sound rfl) rfl ?_ | refine o_n (nl rfl rfl tc rfl) rfl ?_ | refine o_n (dR rfl rfl td rfl rfl rfl) rfl ?_ | refine o_n (dA rfl rfl td rfl rfl) rfl ?_ | refine o_n (dK rfl rfl td rfl rfl) rfl ?_ | refine o_storeC rfl rfl rfl rfl tc uc rfl rfl rfl ?_ | refine o_box rfl rfl (fun _ => ?_) | refine o_box1 rfl rfl rfl (fun _ => ?_) | refine o_alloc rfl rfl (fun _ => ?_))) | refine e_noU rfl rfl rfl ?_ | refine e_noN rfl rfl ?_ | refine s_seq ?_ | refine s_region ?_ | refine s_block ?_ | refine s_end ?_ | refine s_skip ?_ | refine s_exit ?_ | refine s_true rfl ?_ | refine s_false rfl ?_ | refine x_hit ?_ | refine x_code ?_ | refine x_back ?_ | refine x_miss rfl ?_)
          refine s_loopK (ι := {x : Nat × List (List Bool) × Bool // x.1 ≤ kM m ∧ Pass m rows0 x.2.1 x.2.2 (fun i j => (i < p ∧ j < s) ∨ (i = p ∧ j < q)) ∧ (x.2.2 = false → ∀ k, k < x.1 → tb rows0 (pl (nx m ((p : Int) - 1) k)) (pl (nx m ((q : Int) - 1) k)) = true → tb rows0 p q = true)}) [1, 3, 4, 8, 9] rfl
            ⟨(0, rows, more), Nat.zero_le _, hpass, fun _ k h => absurd h (Nat.not_lt_zero k)⟩ (fun x => [(10, .int .i64 x.1.1), (7, .bool x.1.2.2)]) (fun x => osl 49 1 (.slice (some ⟨bo, 0, none⟩) s s) s (hdr s bcs) :: blk b1 26 (dC m.Class [.slice A1 m.Next.length c1, .slice A2 m.Rule.length c2]) :: (tbL s bcs x.1.2.1 ++ [])) (fun x => kM m - x.1.1) ?_ ?_ ?_
          · repeat' (first | exact Sub.nil _ | refine Sub.cons rfl ?_ | refine Sub.consE rfl ?_ ?_)
          · exact Ent.refl _
          clear hpass
          rintro ⟨⟨k, rows, more⟩, hk, hpass, hks⟩
          simp only at hk hpass hks ⊢
          have hsh := hpass.inv.shape
          rw [hN] at hsh
          have hlen := hsh.len
          have hpb : p < bcs.length := by omega
          have hpr : p < rows.length := by omega
          have hrp : rows[p].length = s := hsh.row _ (List.getElem_mem hpr)
          have htb : tb rows p q = rows[p][q]'(by omega) := by
            unfold tb
            rw [getD_lt hpr, getD_lt (by omega)]
          obtain ⟨b, oo, es, rfl, hb, ⟨Ar, cr, rfl, hr⟩, hc⟩ := hD.next.2.2 0 hn0
          have hkM : m.Next[0].length = kM m := o.row 0 hn0
          rw [hkM] at hc
          have hh : ∀ (i : Nat) (hi : i < bcs.length), loadL ⟨.slice 4, 1, 24, [.slice none 0 0]⟩ (hdr s bcs) (0 + i * 1) = some (.slice (some ⟨bcs[i].1, 0, none⟩) s bcs[i].2) := fun i hi => by
            unfold loadL
            simp only [aggB, cond_false]
            rw [Nat.zero_add, Nat.mul_one, hdr_get hi]
          repeat' (first | refine e_nil ?_ | ((first | refine e_op ?_ | refine e_yes rfl ?_); (first | refine o_dNew rfl rfl rfl (fun _ => ?_) | refine o_dNew0 rfl rfl rfl (fun _ => ?_) | refine dAll rfl rfl rfl td uc rfl rfl rfl ?_ | refine dS rfl rfl rfl rfl rfl rfl rfl td uc rfl ?_ | refine o_n (n_b26 rfl rfl) rfl ?_ | refine o_n (n_b26NR rfl rfl rfl rfl rfl) rfl ?_ | refine o_n (n_b26R rfl rfl rfl rfl) rfl ?_ | refine o_n (n_b26CR rfl rfl rfl rfl) rfl ?_ | refine o_n (n_b91 rfl rfl rfl rfl rfl rfl) rfl ?_ | refine o_n (peval_sound rfl) rfl ?_ | refine o_n (nl rfl rfl tc rfl) rfl ?_ | refine o_n (dR rfl rfl td rfl rfl rfl) rfl ?_ | refine o_n (dA rfl rfl td rfl rfl) rfl ?_ | refine o_n (dK rfl rfl td rfl rfl) rfl ?_ | refine o_storeC rfl rfl rfl rfl tc uc rfl rfl rfl ?_ | refine o_box rfl rfl (fun _ => ?_) | refine o_box1 rfl rfl rfl (fun _ => ?_) | refine o_alloc rfl rfl (fun _ => ?_))) | refine e_noU rfl rfl rfl ?_ | refine e_noN rfl rfl ?_ | refine s_seq ?_ | refine s_region ?_ | refine s_block ?_ | refine s_end ?_ | refine s_skip ?_ | refine s_exit ?_ | refine s_true rfl ?_ | refine s_false rfl ?_ | refine x_hit ?_ | refine x_code ?_ | refine x_back ?_ | refine x_miss rfl ?_)
          refine e_op (o_n (n_index rfl rfl rfl rfl 0 rfl hn0) rfl ?_)
          refine e_op (o_n (n_load_ro rfl rfl hb (loads_one rfl (hc 0 _ rfl))) rfl ?_)
          repeat' (first | refine e_nil ?_ | ((first | refine e_op ?_ | refine e_yes rfl ?_); (first | refine o_dNew rfl rfl rfl (fun _ => ?_) | refine o_dNew0 rfl rfl rfl (fun _ => ?_) | refine dAll rfl rfl rfl td uc rfl rfl rfl ?_ | refine dS rfl rfl rfl rfl rfl rfl rfl td uc rfl ?_ | refine o_n (n_b26 rfl rfl) rfl ?_ | refine o_n (n_b26NR rfl rfl rfl rfl rfl) rfl ?_ | refine o_n (n_b26R rfl rfl rfl rfl) rfl ?_ | refine o_n (n_b26CR rfl rfl rfl rfl) rfl ?_ | refine o_n (n_b91 rfl rfl rfl rfl rfl rfl) rfl ?_ | refine o_n (peval_sound rfl) rfl ?_ | refine o_n (nl rfl rfl tc rfl) rfl ?_ | refine o_n (dR rfl rfl td rfl rfl rfl) rfl ?_ | refine o_n (dA rfl rfl td rfl rfl) rfl ?_ | refine o_n (dK rfl rfl td rfl rfl) rfl ?_ | refine o_storeC rfl rfl rfl rfl tc uc rfl rfl rfl ?_ | refine o_box rfl rfl (fun _ => ?_) | refine o_box1 rfl rfl rfl (fun _ => ?_) | refine o_alloc rfl rfl (fun _ => ?_))) | refine e_noU rfl rfl rfl ?_ | refine e_noN rfl rfl ?_ | refine s_seq ?_ | refine s_region ?_ | refine s_block ?_ | refine s_end ?_ | refine s_skip ?_ | refine s_exit ?_ | refine s_true rfl ?_ | refine s_false rfl ?_ | refine x_hit ?_ | refine x_code ?_ | refine x_back ?_ | refine x_miss rfl ?_ | ((fail_if_success (refine e_dec true (by exact rfl) ?_)); (fail_if_success (refine e_dec false (by exact rfl) ?_)); refine e_part rfl rfl (fun h => ?_) (fun h => ?_)) | refine s_cond rfl (fun h => ?_) (fun h => ?_))
          · have hkl : k < kM m := by have := of_decide_eq_true h; omega
            clear h
            have hld : ∀ (i j : Nat) (hi : i < rows.length) (hj : j < rows[i].length), loadL ⟨.bool, 1, 1, [.bool false]⟩ (rows[i].map Value.bool) (0 + j * 1) = some (.bool rows[i][j]) := fun i j hi hj => by simp [loadL, aggB, hj]
            refine e_yes rfl (o_n (n_index rfl rfl rfl rfl p rfl hps) rfl ?_)
            refine e_yes rfl (o_n (n_load_osl (v := .slice (some ⟨bcs[p].1, 0, none⟩) s bcs[p].2) rfl rfl .z (hh p hpb)) rfl ?_)
            repeat' (first | refine e_nil ?_ | ((first | refine e_op ?_ | refine e_yes rfl ?_); (first | refine o_dNew rfl rfl rfl (fun _ => ?_) | refine o_dNew0 rfl rfl rfl (fun _ => ?_) | refine dAll rfl rfl rfl td uc rfl rfl rfl ?_ | refine dS rfl rfl rfl rfl rfl rfl rfl td uc rfl ?_ | refine o_n (n_b26 rfl rfl) rfl ?_ | refine o_n (n_b26NR rfl rfl rfl rfl rfl) rfl ?_ | refine o_n (n_b26R rfl rfl rfl rfl) rfl ?_ | refine o_n (n_b26CR rfl rfl rfl rfl) rfl ?_ | refine o_n (n_b91 rfl rfl rfl rfl rfl rfl) rfl ?_ | refine o_n (peval_sound rfl) rfl ?_ | refine o_n (nl rfl rfl tc rfl) rfl ?_ | refine o_n (dR rfl rfl td rfl rfl rfl) rfl ?_ | refine o_n (dA rfl rfl td rfl rfl) rfl ?_ | refine o_n (dK rfl rfl td rfl rfl) rfl ?_ | refine o_storeC rfl rfl rfl rfl tc uc rfl rfl rfl ?_ | refine o_box rfl rfl (fun _ => ?_) | refine o_box1 rfl rfl rfl (fun _ => ?_) | refine o_alloc rfl rfl (fun _ => ?_))) | refine e_noU rfl rfl rfl ?_ | refine e_noN rfl rfl ?_ | refine s_seq ?_ | refine s_region ?_ | refine s_block ?_ | refine s_end ?_ | refine s_skip ?_ | refine s_exit ?_ | refine s_true rfl ?_ | refine s_false rfl ?_ | refine x_hit ?_ | refine x_code ?_ | refine x_back ?_ | refine x_miss rfl ?_)
            refine e_yes rfl (o_n (n_index rfl rfl rfl rfl q rfl hqs) rfl ?_)
            refine e_yes rfl (o_n (n_load_osl (v := .bool (rows[p][q]'(by omega))) rfl rfl (.s (.s (tak_get (tbL_get hpb hpr)))) (hld p q hpr (by omega))) rfl ?_)
            repeat' (first | refine e_nil ?_ | ((first | refine e_op ?_ | refine e_yes rfl ?_); (first | refine o_dNew rfl rfl rfl (fun _ => ?_) | refine o_dNew0 rfl rfl rfl (fun _ => ?_) | refine dAll rfl rfl rfl td uc rfl rfl rfl ?_ | refine dS rfl rfl rfl rfl rfl rfl rfl td uc rfl ?_ | refine o_n (n_b26 rfl rfl) rfl ?_ | refine o_n (n_b26NR rfl rfl rfl rfl rfl) rfl ?_ | refine o_n (n_b26R rfl rfl rfl rfl) rfl ?_ | refine o_n (n_b26CR rfl rfl rfl rfl) rfl ?_ | refine o_n (n_b91 rfl rfl rfl rfl rfl rfl) rfl ?_ | refine o_n (peval_sound rfl) rfl ?_ | refine o_n (nl rfl rfl tc rfl) rfl ?_ | refine o_n (dR rfl rfl td rfl rfl rfl) rfl ?_ | refine o_n (dA rfl rfl td rfl rfl) rfl ?_ | refine o_n (dK rfl rfl td rfl rfl) rfl ?_ | refine o_storeC rfl rfl rfl rfl tc uc rfl rfl rfl ?_ | refine o_box rfl rfl (fun _ => ?_) | refine o_box1 rfl rfl rfl (fun _ => ?_) | refine o_alloc rfl rfl (fun _ => ?_))) | refine e_noU rfl rfl rfl ?_ | refine e_noN rfl rfl ?_ | refine s_seq ?_ | refine s_region ?_ | refine s_block ?_ | refine s_end ?_ | refine s_skip ?_ | refine s_exit ?_ | refine s_true rfl ?_ | refine s_false rfl ?_ | refine x_hit ?_ | refine x_code ?_ | refine x_back ?_ | refine x_miss rfl ?_)
            refine s_cond rfl (fun h => ?_) (fun h => ?_)
            · have hf : tb rows p q = false := by rw [htb]; simpa using h
              clear h
              have hSp : St m ((p : Int) - 1) := st_at (by omega)
              have hSq : St m ((q : Int) - 1) := st_at (by omega)
              have hNp := nx_st o hSp hkl
              have hNq := nx_st o hSq hkl
              have hap := pl_lt hNp
              have haq := pl_lt hNq
              have hnv : ∀ i : Nat, i < s → ((i : Int) - 1) < 0 ∨ ∃ (a b : Nat) (hi : a < m.Next.length), ((i : Int) - 1) = a ∧ (k : Int) = b ∧ b < m.Next[a].length := fun i hi => by
                by_cases e : i = 0
                · exact .inl (by omega)
                · exact .inr ⟨i - 1, k, by omega, by omega, rfl, by rw [o.row (i - 1) (by omega)]; exact hkl⟩
              have hbp := hNp.1
              have hbq := hNq.1
              have hbp2 := hNp.2
              have hbq2 := hNq.2
              have hcall : ∀ i : Nat, i < s → Trip Try.prog 86 [.agg (dC m.Class [.slice (some ⟨b, oo, none⟩) m.Next.length c1, .slice A2 m.Rule.length c2]).toArray, .int .i64 ((i : Int) - 1), .int .i64 k] (kDfa.rd (dC m.Class [.slice (some ⟨b, oo, none⟩) m.Next.length c1, .slice A2 m.Rule.length c2]) m) []
                  (fun v V => v = .int .i64 (nx m ((i : Int) - 1) k) ∧ V = []) := fun i hi =>
                (nextR_w _ m ((i : Int) - 1) k (hnv i hi)).mono (fun _ _ h => h) (fun v V h => by rw [Int.toNat_natCast] at h; exact h)
              generalize hx : nx m ((p : Int) - 1) k = x at *
              generalize hy : nx m ((q : Int) - 1) k = y at *
              have hxb : pl x < bcs.length := by omega
              have hyr : pl y < s := by omega
              have hxr : pl x < rows.length := by omega
              have hrx : rows[pl x].length = s := hsh.row _ (List.getElem_mem hxr)
              have htx : tb rows (pl x) (pl y) = rows[pl x][pl y]'(by omega) := by unfold tb; rw [getD_lt hxr, getD_lt (by omega)]
              repeat' (first | refine e_nil ?_ | ((first | refine e_op ?_ | refine e_yes rfl ?_); (first | refine o_dNew rfl rfl rfl (fun _ => ?_) | refine o_dNew0 rfl rfl rfl (fun _ => ?_) | refine dAll rfl rfl rfl td uc rfl rfl rfl ?_ | refine dS rfl rfl rfl rfl rfl rfl rfl td uc rfl ?_ | refine o_n (n_b26 rfl rfl) rfl ?_ | refine o_n (n_b26NR rfl rfl rfl rfl rfl) rfl ?_ | refine o_n (n_b26R rfl rfl rfl rfl) rfl ?_ | refine o_n (n_b26CR rfl rfl rfl rfl) rfl ?_ | refine o_n (n_b91 rfl rfl rfl rfl rfl rfl) rfl ?_ | refine o_n (peval_sound rfl) rfl ?_ | refine o_n (nl rfl rfl tc rfl) rfl ?_ | refine o_n (dR rfl rfl td rfl rfl rfl) rfl ?_ | refine o_n (dA rfl rfl td rfl rfl) rfl ?_ | refine o_n (dK rfl rfl td rfl rfl) rfl ?_ | refine o_storeC rfl rfl rfl rfl tc uc rfl rfl rfl ?_ | refine o_box rfl rfl (fun _ => ?_) | refine o_box1 rfl rfl rfl (fun _ => ?_) | refine o_alloc rfl rfl (fun _ => ?_))) | refine e_noU rfl rfl rfl ?_ | refine e_noN rfl rfl ?_ | refine s_seq ?_ | refine s_region ?_ | refine s_block ?_ | refine s_end ?_ | refine s_skip ?_ | refine s_exit ?_ | refine s_true rfl ?_ | refine s_false rfl ?_ | refine x_hit ?_ | refine x_code ?_ | refine x_back ?_ | refine x_miss rfl ?_)
              refine s_anyU Try.mixed ?_
              refine a_n 0 rfl (peval_sound rfl) (by decide +kernel) (Ent.refl _) rfl ?_
              refine a_n 1 rfl (n_dA rfl rfl (.s .z) rfl rfl) (by decide +kernel) (Ent.refl _) rfl ?_
              refine a_n 2 rfl (peval_sound rfl) (by decide +kernel) (Ent.refl _) rfl ?_
              refine a_n 3 rfl (n_subI rfl rfl (by omega) (by omega)) (by decide +kernel) (Ent.refl _) rfl ?_
              refine a_n 4 rfl (peval_sound rfl) (by decide +kernel) (Ent.refl _) rfl ?_
              refine a_n 9 rfl (n_dA rfl rfl (.s .z) rfl rfl) (by decide +kernel) (Ent.refl _) rfl ?_
              refine a_n 10 rfl (peval_sound rfl) (by decide +kernel) (Ent.refl _) rfl ?_
              refine a_n 11 rfl (n_subI rfl rfl (by omega) (by omega)) (by decide +kernel) (Ent.refl _) rfl ?_
              refine a_n 12 rfl (peval_sound rfl) (by decide +kernel) (Ent.refl _) rfl ?_
              refine a_1 5 (by decide +kernel) rfl rfl (o_call (hcall p hps) rfl .nil (Can.ro hR) rfl ?_)
              rintro v V ⟨rfl, rfl⟩
              refine ⟨Ent.refl _, ?_⟩
              rw [hx]
              simp only [List.nil_append]
              refine a_n 6 rfl (n_addI rfl rfl (by omega) (by omega)) (by decide +kernel) (Ent.refl _) rfl ?_
              refine a_n 7 rfl (n_index rfl rfl rfl rfl (pl x) (by unfold pl; omega) (by omega)) (by decide +kernel) (Ent.refl _) rfl ?_
              refine a_n 8 rfl (n_load_osl (v := .slice (some ⟨bcs[pl x].1, 0, none⟩) s bcs[pl x].2) rfl rfl .z (hh (pl x) hxb)) (by decide +kernel) (Ent.refl _) rfl ?_
              refine a_1 13 (by decide +kernel) rfl rfl (o_call (hcall q hqs) rfl .nil (Can.ro hR) rfl ?_)
              rintro v V ⟨rfl, rfl⟩
              refine ⟨Ent.refl _, ?_⟩
              rw [hy]
              simp only [List.nil_append]
              refine a_n 14 rfl (n_addI rfl rfl (by omega) (by omega)) (by decide +kernel) (Ent.refl _) rfl ?_
              refine a_n 15 rfl (n_index rfl rfl rfl rfl (pl y) (by unfold pl; omega) hyr) (by decide +kernel) (Ent.refl _) rfl ?_
              refine a_n 16 rfl (n_load_osl (v := .bool (rows[pl x][pl y]'(by omega))) rfl rfl (.s (.s (tak_get (tbL_get hxb hxr)))) (hld (pl x) (pl y) hxr (by omega))) (by decide +kernel) (Ent.refl _) rfl ?_
              refine a_done (by decide +kernel) ?_
              rw [← htx]
              refine s_cond rfl (fun h => ?_) (fun h => ?_)
              · have e : setMany (rows[p].map Value.bool) (0 + q * 1) [.bool true] = (rows[p].set q true).map Value.bool := by
                  simp only [setMany]; rw [Nat.zero_add, Nat.mul_one, List.map_set]
                have e2 : (tbL s bcs rows).set p (osl 4 1 (.slice (some ⟨bcs[p].1, 0, none⟩) s bcs[p].2) s (setMany (rows[p].map Value.bool) (0 + q * 1) [.bool true])) = tbL s bcs (tset rows p q) := by
                  rw [e, tbL_set hpb]; unfold tset; rw [getD_lt hpr]
                have hpass2 := hpass.set o (s := p) (t := q) (by omega) (by omega) hkl hf (by rw [hx, hy]; exact h)
                repeat' (first | refine e_nil ?_ | ((first | refine e_op ?_ | refine e_yes rfl ?_); (first | refine o_dNew rfl rfl rfl (fun _ => ?_) | refine o_dNew0 rfl rfl rfl (fun _ => ?_) | refine dAll rfl rfl rfl td uc rfl rfl rfl ?_ | refine dS rfl rfl rfl rfl rfl rfl rfl td uc rfl ?_ | refine o_n (n_b26 rfl rfl) rfl ?_ | refine o_n (n_b26NR rfl rfl rfl rfl rfl) rfl ?_ | refine o_n (n_b26R rfl rfl rfl rfl) rfl ?_ | refine o_n (n_b26CR rfl rfl rfl rfl) rfl ?_ | refine o_n (n_b91 rfl rfl rfl rfl rfl rfl) rfl ?_ | refine o_n (peval_sound rfl) rfl ?_ | refine o_n (nl rfl rfl tc rfl) rfl ?_ | refine o_n (dR rfl rfl td rfl rfl rfl) rfl ?_ | refine o_n (dA rfl rfl td rfl rfl) rfl ?_ | refine o_n (dK rfl rfl td rfl rfl) rfl ?_ | refine o_storeC rfl rfl rfl rfl tc uc rfl rfl rfl ?_ | refine o_box rfl rfl (fun _ => ?_) | refine o_box1 rfl rfl rfl (fun _ => ?_) | refine o_alloc rfl rfl (fun _ => ?_))) | refine e_noU rfl rfl rfl ?_ | refine e_noN rfl rfl ?_ | refine s_seq ?_ | refine s_region ?_ | refine s_block ?_ | refine s_end ?_ | refine s_skip ?_ | refine s_exit ?_ | refine s_true rfl ?_ | refine s_false rfl ?_ | refine x_hit ?_ | refine x_code ?_ | refine x_back ?_ | refine x_miss rfl ?_)
                refine e_op (o_n (n_index rfl rfl rfl rfl p rfl hps) rfl ?_)
                refine e_op (o_n (n_load_osl (v := .slice (some ⟨bcs[p].1, 0, none⟩) s bcs[p].2) rfl rfl .z (hh p hpb)) rfl ?_)
                repeat' (first | refine e_nil ?_ | ((first | refine e_op ?_ | refine e_yes rfl ?_); (first | refine o_dNew rfl rfl rfl (fun _ => ?_) | refine o_dNew0 rfl rfl rfl (fun _ => ?_) | refine dAll rfl rfl rfl td uc rfl rfl rfl ?_ | refine dS rfl rfl rfl rfl rfl rfl rfl td uc rfl ?_ | refine o_n (n_b26 rfl rfl) rfl ?_ | refine o_n (n_b26NR rfl rfl rfl rfl rfl) rfl ?_ | refine o_n (n_b26R rfl rfl rfl rfl) rfl ?_ | refine o_n (n_b26CR rfl rfl rfl rfl) rfl ?_ | refine o_n (n_b91 rfl rfl rfl rfl rfl rfl) rfl ?_ | refine o_n (peval_sound rfl) rfl ?_ | refine o_n (nl rfl rfl tc rfl) rfl ?_ | refine o_n (dR rfl rfl td rfl rfl rfl) rfl ?_ | refine o_n (dA rfl rfl td rfl rfl) rfl ?_ | refine o_n (dK rfl rfl td rfl rfl) rfl ?_ | refine o_storeC rfl rfl rfl rfl tc uc rfl rfl rfl ?_ | refine o_box rfl rfl (fun _ => ?_) | refine o_box1 rfl rfl rfl (fun _ => ?_) | refine o_alloc rfl rfl (fun _ => ?_))) | refine e_noU rfl rfl rfl ?_ | refine e_noN rfl rfl ?_ | refine s_seq ?_ | refine s_region ?_ | refine s_block ?_ | refine s_end ?_ | refine s_skip ?_ | refine s_exit ?_ | refine s_true rfl ?_ | refine s_false rfl ?_ | refine x_hit ?_ | refine x_code ?_ | refine x_back ?_ | refine x_miss rfl ?_)
                refine e_op (o_n (n_index rfl rfl rfl rfl q rfl hqs) rfl ?_)
                refine e_op (o_store_osl (vs := [.bool true]) rfl rfl rfl rfl rfl rfl (by simp; omega) (.s (.s (upd_get (tbL_get hpb hpr)))) ?_)
                rw [e2]
                repeat' (first | refine e_nil ?_ | ((first | refine e_op ?_ | refine e_yes rfl ?_); (first | refine o_dNew rfl rfl rfl (fun _ => ?_) | refine o_dNew0 rfl rfl rfl (fun _ => ?_) | refine dAll rfl rfl rfl td uc rfl rfl rfl ?_ | refine dS rfl rfl rfl rfl rfl rfl rfl td uc rfl ?_ | refine o_n (n_b26 rfl rfl) rfl ?_ | refine o_n (n_b26NR rfl rfl rfl rfl rfl) rfl ?_ | refine o_n (n_b26R rfl rfl rfl rfl) rfl ?_ | refine o_n (n_b26CR rfl rfl rfl rfl) rfl ?_ | refine o_n (n_b91 rfl rfl rfl rfl rfl rfl) rfl ?_ | refine o_n (peval_sound rfl) rfl ?_ | refine o_n (nl rfl rfl tc rfl) rfl ?_ | refine o_n (dR rfl rfl td rfl rfl rfl) rfl ?_ | refine o_n (dA rfl rfl td rfl rfl) rfl ?_ | refine o_n (dK rfl rfl td rfl rfl) rfl ?_ | refine o_storeC rfl rfl rfl rfl tc uc rfl rfl rfl ?_ | refine o_box rfl rfl (fun _ => ?_) | refine o_box1 rfl rfl rfl (fun _ => ?_) | refine o_alloc rfl rfl (fun _ => ?_))) | refine e_noU rfl rfl rfl ?_ | refine e_noN rfl rfl ?_ | refine s_seq ?_ | refine s_region ?_ | refine s_block ?_ | refine s_end ?_ | refine s_skip ?_ | refine s_exit ?_ | refine s_true rfl ?_ | refine s_false rfl ?_ | refine x_hit ?_ | refine x_code ?_ | refine x_back ?_ | refine x_miss rfl ?_)
                refine s_back ⟨⟨(k + 1, tset rows p q, true), by omega, hpass2, fun h => by cases h⟩, by simp only; omega, ?_, Ent.refl _⟩
                repeat' (first | exact Sub.nil _ | refine Sub.cons rfl ?_ | refine Sub.consE rfl ?_ ?_)
                exact inc (i := k) (by have := o.k1; omega)
              · repeat' (first | refine e_nil ?_ | ((first | refine e_op ?_ | refine e_yes rfl ?_); (first | refine o_dNew rfl rfl rfl (fun _ => ?_) | refine o_dNew0 rfl rfl rfl (fun _ => ?_) | refine dAll rfl rfl rfl td uc rfl rfl rfl ?_ | refine dS rfl rfl rfl rfl rfl rfl rfl td uc rfl ?_ | refine o_n (n_b26 rfl rfl) rfl ?_ | refine o_n (n_b26NR rfl rfl rfl rfl rfl) rfl ?_ | refine o_n (n_b26R rfl rfl rfl rfl) rfl ?_ | refine o_n (n_b26CR rfl rfl rfl rfl) rfl ?_ | refine o_n (n_b91 rfl rfl rfl rfl rfl rfl) rfl ?_ | refine o_n (peval_sound rfl) rfl ?_ | refine o_n (nl rfl rfl tc rfl) rfl ?_ | refine o_n (dR rfl rfl td rfl rfl rfl) rfl ?_ | refine o_n (dA rfl rfl td rfl rfl) rfl ?_ | refine o_n (dK rfl rfl td rfl rfl) rfl ?_ | refine o_storeC rfl rfl rfl rfl tc uc rfl rfl rfl ?_ | refine o_box rfl rfl (fun _ => ?_) | refine o_box1 rfl rfl rfl (fun _ => ?_) | refine o_alloc rfl rfl (fun _ => ?_))) | refine e_noU rfl rfl rfl ?_ | refine e_noN rfl rfl ?_ | refine s_seq ?_ | refine s_region ?_ | refine s_block ?_ | refine s_end ?_ | refine s_skip ?_ | refine s_exit ?_ | refine s_true rfl ?_ | refine s_false rfl ?_ | refine x_hit ?_ | refine x_code ?_ | refine x_back ?_ | refine x_miss rfl ?_)
                refine s_back ⟨⟨(k + 1, rows, more), by omega, hpass, fun hm k2 hk2 hb2 => ?_⟩, by simp only; omega, ?_, Ent.refl _⟩
                · by_cases e : k2 = k
                  · subst e
                    rw [hx, hy, ← (hpass.same hm).1, h] at hb2
                    cases hb2
                  · exact hks hm k2 (by omega) hb2
                · repeat' (first | exact Sub.nil _ | refine Sub.cons rfl ?_ | refine Sub.consE rfl ?_ ?_)
                  exact inc (i := k) (by have := o.k1; omega)
            · have hf : tb rows p q = true := by rw [htb]; simpa using h
              repeat' (first | refine e_nil ?_ | ((first | refine e_op ?_ | refine e_yes rfl ?_); (first | refine o_dNew rfl rfl rfl (fun _ => ?_) | refine o_dNew0 rfl rfl rfl (fun _ => ?_) | refine dAll rfl rfl rfl td uc rfl rfl rfl ?_ | refine dS rfl rfl rfl rfl rfl rfl rfl td uc rfl ?_ | refine o_n (n_b26 rfl rfl) rfl ?_ | refine o_n (n_b26NR rfl rfl rfl rfl rfl) rfl ?_ | refine o_n (n_b26R rfl rfl rfl rfl) rfl ?_ | refine o_n (n_b26CR rfl rfl rfl rfl) rfl ?_ | refine o_n (n_b91 rfl rfl rfl rfl rfl rfl) rfl ?_ | refine o_n (peval_sound rfl) rfl ?_ | refine o_n (nl rfl rfl tc rfl) rfl ?_ | refine o_n (dR rfl rfl td rfl rfl rfl) rfl ?_ | refine o_n (dA rfl rfl td rfl rfl) rfl ?_ | refine o_n (dK rfl rfl td rfl rfl) rfl ?_ | refine o_storeC rfl rfl rfl rfl tc uc rfl rfl rfl ?_ | refine o_box rfl rfl (fun _ => ?_) | refine o_box1 rfl rfl rfl (fun _ => ?_) | refine o_alloc rfl rfl (fun _ => ?_))) | refine e_noU rfl rfl rfl ?_ | refine e_noN rfl rfl ?_ | refine s_seq ?_ | refine s_region ?_ | refine s_block ?_ | refine s_end ?_ | refine s_skip ?_ | refine s_exit ?_ | refine s_true rfl ?_ | refine s_false rfl ?_ | refine x_hit ?_ | refine x_code ?_ | refine x_back ?_ | refine x_miss rfl ?_)
              refine s_back ⟨⟨(q + 1, rows, more), by omega, hpass.mono (fun i j h => ?_)⟩, by simp only; omega, ?_, Ent.refl _⟩
              · by_cases e : i = p ∧ j = q
                · refine .inr (fun hm => ?_)
                  rw [e.1, e.2]
                  intro k2 _ _
                  rw [← (hpass.same hm).1]; exact hf
                · refine .inl ?_
                  simp only at h
                  omega
              · repeat' (first | exact Sub.nil _ | refine Sub.cons rfl ?_ | refine Sub.consE rfl ?_ ?_)
                exact inc (i := q) (by omega)
          · have hkl : k = kM m := by have := of_decide_eq_false h; omega
            subst hkl
            refine s_back ⟨⟨(q + 1, rows, more), by omega, hpass.mono (fun i j h => ?_)⟩, by simp only; omega, ?_, Ent.refl _⟩
            · by_cases e : i = p ∧ j = q
              · refine .inr (fun hm => ?_)
                rw [e.1, e.2]
                intro k2 hk2
                exact hks hm k2 hk2
              · refine .inl ?_
                simp only at h
                omega
            · repeat' (first | exact Sub.nil _ | refine Sub.cons rfl ?_ | refine Sub.consE rfl ?_ ?_)
              exact inc (i := q) (by omega)
        have hge : q = s := by have := of_decide_eq_false h; omega
        subst hge
        clear h hq
        repeat' (first | refine e_nil ?_ | ((first | refine e_op ?_ | refine e_yes rfl ?_); (first | refine o_dNew rfl rfl rfl (fun _ => ?_) | refine o_dNew0 rfl rfl rfl (fun _ => ?_) | refine dAll rfl rfl rfl td uc rfl rfl rfl ?_ | refine dS rfl rfl rfl rfl rfl rfl rfl td uc rfl ?_ | refine o_n (n_b26 rfl rfl) rfl ?_ | refine o_n (n_b26NR rfl rfl rfl rfl rfl) rfl ?_ | refine o_n (n_b26R rfl rfl rfl rfl) rfl ?_ | refine o_n (n_b26CR rfl rfl rfl rfl) rfl ?_ | refine o_n (n_b91 rfl rfl rfl rfl rfl rfl) rfl ?_ | refine o_n (peval_sound rfl) rfl ?_ | refine o_n (nl rfl rfl tc rfl) rfl ?_ | refine o_n (dR rfl rfl td rfl rfl rfl) rfl ?_ | refine o_n (dA rfl rfl td rfl rfl) rfl ?_ | refine o_n (dK rfl rfl td rfl rfl) rfl ?_ | refine o_storeC rfl rfl rfl rfl tc uc rfl rfl rfl ?_ | refine o_box rfl rfl (fun _ => ?_) | refine o_box1 rfl rfl rfl (fun _ => ?_) | refine o_alloc rfl rfl (fun _ => ?_))) | refine e_noU rfl rfl rfl ?_ | refine e_noN rfl rfl ?_ | refine s_seq ?_ | refine s_region ?_ | refine s_block ?_ | refine s_end ?_ | refine s_skip ?_ | refine s_exit ?_ | refine s_true rfl ?_ | refine s_false rfl ?_ | refine x_hit ?_ | refine x_code ?_ | refine x_back ?_ | refine x_miss rfl ?_)
        refine s_back ⟨⟨(p + 1, rows, more), by omega, hpass.mono (fun i j h => .inl (by simp only at h; omega))⟩, by simp only; omega, ?_, Ent.refl _⟩
        repeat' (first | exact Sub.nil _ | refine Sub.cons rfl ?_ | refine Sub.consE rfl ?_ ?_)
        exact inc (i := p) (by omega)
      have hge : p = s := by have := of_decide_eq_false h; omega
      subst hge
      clear h hp
      have hcm := cnt_max hpass.inv.shape
      rw [hN] at hcm
      repeat' (first | refine e_nil ?_ | ((first | refine e_op ?_ | refine e_yes rfl ?_); (first | refine o_dNew rfl rfl rfl (fun _ => ?_) | refine o_dNew0 rfl rfl rfl (fun _ => ?_) | refine dAll rfl rfl rfl td uc rfl rfl rfl ?_ | refine dS rfl rfl rfl rfl rfl rfl rfl td uc rfl ?_ | refine o_n (n_b26 rfl rfl) rfl ?_ | refine o_n (n_b26NR rfl rfl rfl rfl rfl) rfl ?_ | refine o_n (n_b26R rfl rfl rfl rfl) rfl ?_ | refine o_n (n_b26CR rfl rfl rfl rfl) rfl ?_ | refine o_n (n_b91 rfl rfl rfl rfl rfl rfl) rfl ?_ | refine o_n (peval_sound rfl) rfl ?_ | refine o_n (nl rfl rfl tc rfl) rfl ?_ | refine o_n (dR rfl rfl td rfl rfl rfl) rfl ?_ | refine o_n (dA rfl rfl td rfl rfl) rfl ?_ | refine o_n (dK rfl rfl td rfl rfl) rfl ?_ | refine o_storeC rfl rfl rfl rfl tc uc rfl rfl rfl ?_ | refine o_box rfl rfl (fun _ => ?_) | refine o_box1 rfl rfl rfl (fun _ => ?_) | refine o_alloc rfl rfl (fun _ => ?_))) | refine e_noU rfl rfl rfl ?_ | refine e_noN rfl rfl ?_ | refine s_seq ?_ | refine s_region ?_ | refine s_block ?_ | refine s_end ?_ | refine s_skip ?_ | refine s_exit ?_ | refine s_true rfl ?_ | refine s_false rfl ?_ | refine x_hit ?_ | refine x_code ?_ | refine x_back ?_ | refine x_miss rfl ?_)
      refine s_back ⟨⟨(rows, more), hpass.inv, fun hm i j hi hj => ?_⟩, ?_, ?_, Ent.refl _⟩
      · rw [(hpass.same hm).1]
        exact (hpass.same hm).2 i j ⟨hi, hj⟩
      · simp only
        cases more with
        | true => have := hpass.grew rfl; simp only [if_true]; omega
        | false => simp only [if_true, Bool.false_eq_true, if_false]; omega
      · repeat' (first | exact Sub.nil _ | refine Sub.cons rfl ?_ | refine Sub.consE rfl ?_ ?_)
    · subst h
      repeat' (first | refine e_nil ?_ | ((first | refine e_op ?_ | refine e_yes rfl ?_); (first | refine o_dNew rfl rfl rfl (fun _ => ?_) | refine o_dNew0 rfl rfl rfl (fun _ => ?_) | refine dAll rfl rfl rfl td uc rfl rfl rfl ?_ | refine dS rfl rfl rfl rfl rfl rfl rfl td uc rfl ?_ | refine o_n (n_b26 rfl rfl) rfl ?_ | refine o_n (n_b26NR rfl rfl rfl rfl rfl) rfl ?_ | refine o_n (n_b26R rfl rfl rfl rfl) rfl ?_ | refine o_n (n_b26CR rfl rfl rfl rfl) rfl ?_ | refine o_n (n_b91 rfl rfl rfl rfl rfl rfl) rfl ?_ | refine o_n (peval_sound rfl) rfl ?_ | refine o_n (nl rfl rfl tc rfl) rfl ?_ | refine o_n (dR rfl rfl td rfl rfl rfl) rfl ?_ | refine o_n (dA rfl rfl td rfl rfl) rfl ?_ | refine o_n (dK rfl rfl td rfl rfl) rfl ?_ | refine o_storeC rfl rfl rfl rfl tc uc rfl rfl rfl ?_ | refine o_box rfl rfl (fun _ => ?_) | refine o_box1 rfl rfl rfl (fun _ => ?_) | refine o_alloc rfl rfl (fun _ => ?_))) | refine e_noU rfl rfl rfl ?_ | refine e_noN rfl rfl ?_ | refine s_seq ?_ | refine s_region ?_ | refine s_block ?_ | refine s_end ?_ | refine s_skip ?_ | refine s_exit ?_ | refine s_true rfl ?_ | refine s_false rfl ?_ | refine x_hit ?_ | refine x_code ?_ | refine x_back ?_ | refine x_miss rfl ?_)
      refine s_ret ⟨_, _, res1 rfl rfl, ⟨rows0, bo, bcs, hT0, hfix rfl, hbcs, rfl, rfl⟩, ?_⟩
      refine Ent.tak .z (Ent.wk ?_)
      rw [List.append_nil]; exact Ent.refl _

end Go.Proofs.Ytbfjnldneemmiaa
