/-
  Canonical items in order, and one more, walked.
-/
import Derived.Test.YtcbaebkkdkdaaaaDoorCQD2
import Derived.Test.YtcbaebkkdkdaaaaDoorAhBase1

namespace Go.Proofs.YtcbaebkkdkdaaaaDoor
set_option linter.all false
open Go.Proofs.YtcbaebkkdkdaaaaDoor.E

attribute [local irreducible] EVX EVO EVL EV1 NEV
attribute [local irreducible] own osl exA rdA rdL
set_option maxRecDepth 10000
set_option maxHeartbeats 4000000

theorem putO_w (A : Option Addr) (c : Nat) (l : List On) (x : On) (hsz : l.length ≤ 100000) : Trip Tryd.prog 63 [.slice A l.length c, .agg (encO x).toArray] Rd.tt [pO A l.length c l]
    (fun v V => ∃ (A' : Option Addr) (c' : Nat), v = .slice A' (putO l x).length c' ∧ V = [pO A' (putO l x).length c' (putO l x)]) := by
  refine trip Tryd.tabOk Tryd.func63 rfl rfl rfl rfl ?_
  rintro w SM hW
  clear hW
  repeat' (first | refine e_nil ?_ | ((refine e_op ?_); (first | refine o_n (peval_sound rfl) rfl ?_ | refine o_box rfl rfl (fun _ => ?_))) | refine s_seq ?_ | refine s_region ?_)
  rename_i b3
  refine s_blockJ (ι := {n : Nat // n ≤ l.length ∧ (∀ i (h : i < l.length), i < n → ltO l[i] x = true) ∧ (∀ h : n < l.length, ltO l[n] x = false)}) (fun n => [(5, .int .i64 n.1), (0, .slice A l.length c), (3, .pointer (some ⟨b3, 0, none⟩))]) (fun _ => [blk b3 75 (encO x), pO A l.length c l]) (fun hfin => ?_) ?_
  · refine s_loopK (ι := {n : Nat // n ≤ l.length ∧ (∀ i (h : i < l.length), i < n → ltO l[i] x = true)}) [0, 3] rfl ⟨0, by omega, fun i _ h => absurd h (Nat.not_lt_zero _)⟩ (fun n => [(5, .int .i64 n.1)]) (fun _ => [blk b3 75 (encO x), pO A l.length c l]) (fun n => l.length - n.1) ?_ (Ent.refl _) ?_
    · repeat' (first | exact Sub.nil _ | refine Sub.cons rfl ?_)
    rintro ⟨n, hn, hlt⟩
    simp only at hn hlt ⊢
    repeat' (refine s_seq ?_)
    refine s_join (ι := Unit) (fun _ => [(68, .bool (decide (n < l.length) && ltO (l.getD n ⟨⟨0, 0⟩, 0⟩) x)), (5, .int .i64 n), (0, .slice A l.length c), (3, .pointer (some ⟨b3, 0, none⟩))]) (fun _ => [blk b3 75 (encO x), pO A l.length c l]) (fun hj => ?_) ?_
    · by_cases hnl : n < l.length
      · have hd : decide ((n : Int) < (l.length : Int)) = true := decide_eq_true (by omega)
        have hgd : l.getD n ⟨⟨0, 0⟩, 0⟩ = l[n] := by rw [List.getD_eq_getElem?_getD, List.getElem?_eq_getElem hnl]; rfl
        rw [hgd, decide_eq_true hnl, Bool.true_and] at hj
        refine s_open (.s .z) (by omega) ?_
        rintro bl rfl
        refine s_drawU [] Tryd.mixed (by decide +kernel) ?_
        repeat' (((refine l_n (peval_sound rfl) rfl ?_ rfl ?_); · (exact Ent.refl _)))
        rw [hd]
        repeat' (first | refine l_nil ?_ | ((first | refine l_no rfl rfl rfl ?_ rfl ?_ | refine l_noN rfl rfl ?_ rfl ?_ | refine l_n (peval_sound rfl) rfl ?_ rfl ?_ | refine l_ny rfl (peval_sound rfl) rfl ?_ rfl ?_ | refine l_ny rfl (nl rfl rfl tc rfl) rfl ?_ rfl ?_ | refine l_ny rfl (n_index rfl rfl rfl rfl n rfl hnl) rfl ?_ rfl ?_ | refine l_ny rfl (n_load_osl rfl rfl (.s .z) (encO_ldP hnl (by simp only; omega))) rfl ?_ rfl ?_ | refine l_ny rfl (n_load_osl rfl rfl (.s .z) (encO_ldD hnl (by simp only; omega))) rfl ?_ rfl ?_ | refine l_ny rfl (n_load_osl rfl rfl (.s .z) (encO_ldT hnl (by simp only; omega))) rfl ?_ rfl ?_); · (exact Ent.refl _)) | ((fail_if_success (refine l_dec true (by exact rfl) ?_)); (fail_if_success (refine l_dec false (by exact rfl) ?_)); refine l_part rfl rfl (fun h => ?_) (fun h => ?_)))
        all_goals (refine s_weak ?_ (Ent.refl _) (hj ()); clear hj hfin hlt; refine Sub.consE rfl ?_ (by repeat' (first | exact Sub.nil _ | refine Sub.cons rfl ?_)); congr 1; unfold ltO; simp_all)
      · have hd : decide ((n : Int) < (l.length : Int)) = false := decide_eq_false (by omega)
        rw [decide_eq_false hnl, Bool.false_and] at hj
        refine s_drawU [] Tryd.mixed (by decide +kernel) ?_
        repeat' (((refine l_n (peval_sound rfl) rfl ?_ rfl ?_); · (exact Ent.refl _)))
        rw [hd]
        repeat' (first | refine l_nil ?_ | ((first | refine l_no rfl rfl rfl ?_ rfl ?_ | refine l_noN rfl rfl ?_ rfl ?_ | refine l_n (peval_sound rfl) rfl ?_ rfl ?_); · (exact Ent.refl _)))
        refine s_weak ?_ (Ent.refl _) (hj ())
        repeat' (first | exact Sub.nil _ | refine Sub.cons rfl ?_)
    rintro ⟨⟩
    skip
    refine s_cond rfl (fun h => ?_) (fun h => ?_)
    · simp only [Bool.and_eq_true, decide_eq_true_eq] at h
      obtain ⟨h1, h2⟩ := h
      have hgd : l.getD n ⟨⟨0, 0⟩, 0⟩ = l[n]'h1 := by rw [List.getD_eq_getElem?_getD, List.getElem?_eq_getElem h1]; rfl
      repeat' (first | refine e_nil ?_ | ((refine e_op ?_); (refine o_n (peval_sound rfl) rfl ?_)) | refine s_region ?_ | refine s_block ?_ | refine s_end ?_ | refine s_skip ?_)
      refine s_back ⟨⟨n + 1, by omega, fun i hi hin => ?_⟩, by simp only; omega, ?_, Ent.refl _⟩
      · by_cases e : i = n
        · subst e; rw [← hgd]; exact h2
        · exact hlt i hi (by omega)
      · repeat' (first | exact Sub.nil _ | refine Sub.cons rfl ?_ | refine Sub.consE rfl ?_ ?_)
        exact inc (i := n) (by omega)
    · repeat' (first | refine s_exit ?_ | refine x_code ?_ | refine x_back ?_)
      refine x_hit (s_weak ?_ (Ent.refl _) (hfin ⟨n, hn, hlt, fun h1 => ?_⟩))
      · repeat' (first | exact Sub.nil _ | refine Sub.cons rfl ?_)
      · have hgd : l.getD n ⟨⟨0, 0⟩, 0⟩ = l[n] := by rw [List.getD_eq_getElem?_getD, List.getElem?_eq_getElem h1]; rfl
        rw [hgd, decide_eq_true h1, Bool.true_and] at h
        exact h
  · rintro ⟨n, hn, hlt, hge⟩
    simp only
    have hw := putO_at (l := l) (x := x) hn hlt hge
    have hfin : ∀ (hne : l[n]? ≠ some x), putO l x = l.take n ++ x :: l.drop n := fun hne => by rw [hw, if_neg hne]
    have hlen : ∀ (hne : l[n]? ≠ some x), (putO l x).length = n + 1 + (l.length - n) := fun hne => by rw [hfin hne, List.length_append, List.length_cons, List.length_take, List.length_drop]; omega
    repeat' (refine s_seq ?_)
    refine s_join (ι := PLift (l[n]? ≠ some x)) (fun _ => [(82, .bool false), (5, .int .i64 n), (0, .slice A l.length c), (3, .pointer (some ⟨b3, 0, none⟩))]) (fun _ => [blk b3 75 (encO x), pO A l.length c l]) (fun hj => ?_) ?_
    · by_cases hnl : n < l.length
      · have hd : decide ((n : Int) < (l.length : Int)) = true := decide_eq_true (by omega)
        refine s_open (.s .z) (by omega) ?_
        rintro bl rfl
        refine s_drawU [] Tryd.mixed (by decide +kernel) ?_
        repeat' (((refine l_n (peval_sound rfl) rfl ?_ rfl ?_); · (exact Ent.refl _)))
        rw [hd]
        repeat' (((first | refine l_ny rfl (peval_sound rfl) rfl ?_ rfl ?_ | refine l_ny rfl (n_index rfl rfl rfl rfl n rfl hnl) rfl ?_ rfl ?_); · (exact Ent.refl _)))
        refine l_ny rfl (n_load_osl rfl rfl (.s .z) (encO_load hnl)) rfl (Ent.refl _) rfl ?_
        repeat' (((refine l_ny rfl (nl rfl rfl tc rfl) rfl ?_ rfl ?_); · (exact Ent.refl _)))
        refine l_ny rfl (n_eqlO rfl rfl) rfl (Ent.refl _) rfl ?_
        repeat' (first | refine l_nil ?_ | ((refine l_n (peval_sound rfl) rfl ?_ rfl ?_); · (exact Ent.refl _)))
        cases he : decide (l[n] = x) with
        | true =>
          have he := of_decide_eq_true he
          have hw2 : putO l x = l := by rw [hw, if_pos (by rw [List.getElem?_eq_getElem hnl, he])]
          repeat' (first | refine e_nil ?_ | ((refine e_op ?_); (refine o_n (peval_sound rfl) rfl ?_)) | refine s_seq ?_ | refine s_region ?_ | refine s_true rfl ?_)
          refine s_ret ⟨_, _, res1 rfl rfl, ⟨some ⟨bl, 0, none⟩, c, by rw [hw2], rfl⟩, ?_⟩
          rw [hw2]
          exact Ent.wk (Ent.refl _)
        | false =>
          have he := of_decide_eq_false he
          have hne : l[n]? ≠ some x := by rw [List.getElem?_eq_getElem hnl]; exact fun h => he (Option.some.inj h)
          skip
          refine s_weak ?_ (Ent.refl _) (hj ⟨hne⟩)
          repeat' (first | exact Sub.nil _ | refine Sub.cons rfl ?_)
      · have hd : decide ((n : Int) < (l.length : Int)) = false := decide_eq_false (by omega)
        have hne : l[n]? ≠ some x := by rw [List.getElem?_eq_none (by omega)]; simp
        refine s_drawU [] Tryd.mixed (by decide +kernel) ?_
        repeat' (((refine l_n (peval_sound rfl) rfl ?_ rfl ?_); · (exact Ent.refl _)))
        rw [hd]
        repeat' (first | refine l_nil ?_ | ((first | refine l_no rfl rfl rfl ?_ rfl ?_ | refine l_n (peval_sound rfl) rfl ?_ rfl ?_); · (exact Ent.refl _)))
        refine s_weak ?_ (Ent.refl _) (hj ⟨hne⟩)
        repeat' (first | exact Sub.nil _ | refine Sub.cons rfl ?_)

    · rintro ⟨hne⟩
      have hwl := hfin hne
      have hll := hlen hne
      refine s_cap (.s .z) (fun hc => ?_)
      refine s_openP (.s .z) (fun hA => ?_)
      repeat' (first | ((refine e_op ?_); (refine o_n (peval_sound rfl) rfl ?_)) | refine s_seq ?_ | refine s_region ?_ | refine s_skip ?_ | refine s_false rfl ?_)
      refine e_op (o_n (n_headV n rfl rfl rfl rfl rfl (by omega)) rfl ?_)
      skip
      refine e_ent (Ent.osl0 (e := 75) (sz := 3) (Ent.refl _)) ?_
      refine e_op (o_appendS (xs := []) (ys := (l.take n).flatMap encO) _ rfl rfl rfl rfl (by rw [encO_len, List.length_take, Nat.min_eq_left hn]) (fun h0 => ?_) (encO_one _) rfl (by simp only; omega) (by omega) rfl (fun A' c' => .z) (fun A1 c1 => ?_))
      · obtain ⟨b, rfl⟩ := hA (by omega)
        refine ⟨b, 0, rfl, fun w hm j u hu => ?_⟩
        obtain ⟨S1, hP, _⟩ := hm.tak (.s (.s .z))
        rw [Nat.zero_add]
        refine osl_cells hP j u ?_
        rw [← hu, encO_take, List.getElem?_take_of_lt]
        have := (List.getElem?_eq_some_iff.1 hu).1
        rw [encO_len, List.length_take, Nat.min_eq_left hn] at this
        omega
      simp only [List.nil_append, Nat.zero_add]
      repeat' (first | refine e_nil ?_ | ((refine e_op ?_); (first | refine o_n (peval_sound rfl) rfl ?_ | refine o_n (nl rfl rfl tc rfl) rfl ?_)) | refine s_seq ?_ | refine s_region ?_)
      refine e_op (o_lit (cs := encO x) rfl rfl rfl rfl rfl rfl rfl (fun b4 => ?_))
      skip
      refine e_op (o_append (v := .slice A1 n c1) (n := n) (m := 1) (xs := (l.take n).flatMap encO) (news := encO x) _ rfl rfl rfl rfl (fun w hm j u hu => ?_) rfl ?_ rfl (by omega) (by simp only; omega) (by omega) rfl (fun b c => .s .z) (fun ba ca => ?_))
      · obtain ⟨S1, hP, _⟩ := hm.tak .z
        rw [Nat.zero_add]
        exact osl_cells hP j u hu
      · simp [encO, oneB]
      repeat' (first | refine e_nil ?_ | ((refine e_op ?_); (refine o_n (peval_sound rfl) rfl ?_)) | refine s_seq ?_ | refine s_region ?_)
      refine e_op (o_n (n_fromV n rfl rfl rfl rfl rfl hn) rfl ?_)
      skip
      refine e_op (o_appendS (n := n + 1) (xs := (l.take n).flatMap encO ++ encO x) (ys := (l.drop n).flatMap encO) _ rfl rfl rfl rfl (by rw [encO_len, List.length_drop]) (fun h0 => ?_) (encO_one _) rfl (by simp only; omega) (by omega) rfl (fun A' c' => .s .z) (fun A5 c5 => ?_))
      · obtain ⟨b, rfl⟩ := hA (by omega)
        refine ⟨b, n * 3, by rw [if_neg (by omega)]; simp only [Option.map_some, Addr.add, Nat.zero_add]; by_cases h2 : n * 3 = 0 <;> simp [h2], fun w hm j u hu => ?_⟩
        obtain ⟨S1, hP, _⟩ := hm.tak (.s (.s (.s .z)))
        refine osl_cells hP (n * 3 + j) u ?_
        rw [← hu, encO_drop, List.getElem?_drop]
      repeat' (first | refine e_nil ?_ | ((refine e_op ?_); (refine o_n (peval_sound rfl) rfl ?_)))
      refine s_ret ⟨_, _, res1 rfl rfl, ⟨A5, c5, by rw [hll], rfl⟩, ?_⟩
      have h5 : ((l.take n) ++ x :: l.drop n).flatMap encO = (l.take n).flatMap encO ++ encO x ++ (l.drop n).flatMap encO := by rw [List.flatMap_append, List.flatMap_cons, ← List.append_assoc]
      rw [hll, hwl]
      unfold pO
      rw [h5]
      exact Ent.wk (Ent.tak .z (Ent.nil _))

end Go.Proofs.YtcbaebkkdkdaaaaDoor
