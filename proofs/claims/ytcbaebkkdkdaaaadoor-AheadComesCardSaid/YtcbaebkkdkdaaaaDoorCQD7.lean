/-
  Wide grammars; states that are known: walked.
-/
import Derived.Test.YtcbaebkkdkdaaaaDoorCQD5

namespace Go.Proofs.YtcbaebkkdkdaaaaDoor
set_option linter.all false
open Go.Proofs.YtcbaebkkdkdaaaaDoor.E

attribute [local irreducible] EVX EVO EVL EV1 NEV
attribute [local irreducible] own osl exA rdA rdL
attribute [local irreducible] bldA mapA bun mapS
set_option maxRecDepth 10000
set_option maxHeartbeats 4000000

theorem wide20_w (cs : List Value) (g : Gram) : Trip Tryd.prog 35 [.agg cs.toArray] (kGram.rd cs g) [] (fun v V => (∃ b : Bool, v = .bool b ∧ (b = false → ∀ p ∈ g.Prods, p.Right.length ≤ 5)) ∧ V = []) := by
  refine trip Tryd.tabOk Tryd.func35 rfl rfl rfl rfl ?_
  rintro w SM hG0
  obtain ⟨A0, A1, A2, A3, A4, c0, c1, c2, c3, c4, rfl, hG⟩ := kGram_open hG0
  have hPl := hG.prods.2.1
  repeat' (first | refine e_nil ?_ | ((refine e_op ?_); (first | refine o_n (peval_sound rfl) rfl ?_ | refine o_box rfl rfl (fun _ => ?_))) | refine s_seq ?_ | refine s_region ?_ | refine s_block ?_)
  rename_i bg
  refine s_loopK (ι := {k : Nat // k ≤ g.Prods.length ∧ ∀ (j : Nat) (h : j < g.Prods.length), j < k → g.Prods[j].Right.length ≤ 5}) [1] rfl ⟨0, by omega, fun j _ h => by omega⟩ (fun k => [(3, .int .i64 k.1)]) (fun _ => [blk bg 27 [.slice A0 g.Terms.length c0, .slice A1 g.Levels.length c1, .slice A2 g.Pats.length c2, .slice A3 g.Nons.length c3, .slice A4 g.Prods.length c4]]) (fun k => g.Prods.length - k.1) ?_ (Ent.refl _) ?_
  · repeat' (first | exact Sub.nil _ | refine Sub.cons rfl ?_)
  rintro ⟨k, hk, hall⟩
  simp only at hk hall ⊢
  repeat' (first | refine e_nil ?_ | ((refine e_op ?_); (first | refine o_n (peval_sound rfl) rfl ?_ | refine o_n (nl rfl rfl tc rfl) rfl ?_)) | refine s_seq ?_ | refine s_region ?_)
  by_cases hkl : k < g.Prods.length
  · rw [decide_eq_true (p := (k : Int) < (g.Prods.length : Int)) (by omega)]
    obtain ⟨b9, o9, es9, rfl, hb9, he9, hc9⟩ := hG.prods.2.2 k hkl
    obtain ⟨Ar, cr, rfl, hl9, hlN, hlK, hri⟩ := kPrd_open he9
    repeat' (first | ((refine e_op ?_); (first | refine o_n (peval_sound rfl) rfl ?_ | refine o_n (nl rfl rfl tc rfl) rfl ?_)) | refine s_seq ?_ | refine s_region ?_ | refine s_block ?_ | refine s_skip ?_ | refine s_true rfl ?_)
    refine e_op (o_n (n_index rfl rfl rfl rfl k rfl hkl) rfl ?_)
    repeat' (((refine e_op ?_); (refine o_n (peval_sound rfl) rfl ?_)))
    refine e_op (o_n (n_load_ro rfl rfl hb9 (loads_one rfl (hc9 1 _ rfl))) rfl ?_)
    repeat' (first | refine e_nil ?_ | ((refine e_op ?_); (refine o_n (peval_sound rfl) rfl ?_)))
    by_cases h5 : g.Prods[k].Right.length ≤ 5
    · rw [decide_eq_false (p := (g.Prods[k].Right.length : Int) > 5) (by omega)]
      repeat' (first | refine e_nil ?_ | ((refine e_op ?_); (refine o_n (peval_sound rfl) rfl ?_)) | refine s_region ?_ | refine s_end ?_ | refine s_skip ?_ | refine s_false rfl ?_)
      refine s_back ⟨⟨k + 1, by omega, fun j hj hjk => ?_⟩, by simp only; omega, ?_, Ent.refl _⟩
      · by_cases e : j = k
        · subst e; exact h5
        · exact hall j hj (by omega)
      · repeat' (first | exact Sub.nil _ | refine Sub.cons rfl ?_ | refine Sub.consE rfl ?_ ?_)
        exact inc (i := k) (by omega)
    · rw [decide_eq_true (p := (g.Prods[k].Right.length : Int) > 5) (by omega)]
      repeat' (first | refine e_nil ?_ | ((refine e_op ?_); (refine o_n (peval_sound rfl) rfl ?_)) | refine s_seq ?_ | refine s_region ?_ | refine s_true rfl ?_)
      refine s_ret ⟨_, _, res1 rfl rfl, ⟨⟨true, rfl, fun h => by cases h⟩, rfl⟩, Ent.nil _⟩
  · rw [decide_eq_false (p := (k : Int) < (g.Prods.length : Int)) (by omega)]
    repeat' (first | refine e_nil ?_ | ((refine e_op ?_); (refine o_n (peval_sound rfl) rfl ?_)) | refine s_seq ?_ | refine s_region ?_ | refine s_exit ?_ | refine s_false rfl ?_ | refine x_hit ?_ | refine x_code ?_ | refine x_back ?_)
    refine s_ret ⟨_, _, res1 rfl rfl, ⟨⟨false, rfl, fun _ p hp => ?_⟩, rfl⟩, Ent.nil _⟩
    obtain ⟨j, hj, rfl⟩ := List.getElem_of_mem hp
    exact hall j hj (by omega)

theorem knownO_w (A B : Option Addr) (c d : Nat) (L : List (List On)) (s : List On) :
    Trip Tryd.prog 38 [.slice A L.length c, .slice B s.length d] (((kslice 24 (kslice 24 kOn)).rd [.slice A L.length c] L).and ((kslice 24 kOn).rd [.slice B s.length d] s)) []
      (fun v V => v = .bool (decide (s ∈ L)) ∧ V = []) := by
  refine trip Tryd.tabOk Tryd.func38 rfl rfl rfl rfl ?_
  rintro w SM ⟨⟨A', c', e1, h1⟩, B', d', e2, h2⟩
  cases e1; cases e2
  have hLl := h1.2.1
  have hsl := h2.2.1
  repeat' (first | refine e_nil ?_ | ((refine e_op ?_); (refine o_n (peval_sound rfl) rfl ?_)) | refine s_seq ?_ | refine s_region ?_ | refine s_block ?_)
  refine s_loopK (ι := {i : Nat // i ≤ L.length ∧ s ∉ L.take i}) [0, 1] rfl ⟨0, by omega, by simp⟩ (fun i => [(5, .int .i64 i.1)]) (fun _ => []) (fun i => L.length - i.1) ?_ (Ent.nil _) ?_
  · repeat' (first | exact Sub.nil _ | refine Sub.cons rfl ?_)
  rintro ⟨i, hi, hno⟩
  simp only at hi hno ⊢
  repeat' (first | refine e_nil ?_ | ((refine e_op ?_); (refine o_n (peval_sound rfl) rfl ?_)) | refine s_seq ?_ | refine s_region ?_)
  by_cases hil : i < L.length
  · rw [decide_eq_true (p := (i : Int) < (L.length : Int)) (by omega)]
    obtain ⟨b, o, es, rfl, hb, ⟨Ai, ci, rfl, hi1, hi2, hi3⟩, hc⟩ := h1.2.2 i hil
    have htk : s ∉ L.take (i + 1) ↔ L[i] ≠ s := by
      rw [List.take_succ_eq_append_getElem hil, List.mem_append, List.mem_singleton]
      exact ⟨fun h e => h (.inr e.symm), fun h => by rintro (h1 | h1); exact hno h1; exact h h1.symm⟩
    have hmem : L[i] = s → s ∈ L := fun e => e ▸ List.getElem_mem hil
    repeat' (first | ((refine e_op ?_); (refine o_n (peval_sound rfl) rfl ?_)) | refine s_seq ?_ | refine s_region ?_ | refine s_block ?_ | refine s_skip ?_ | refine s_true rfl ?_)
    refine e_op (o_n (n_index rfl rfl rfl rfl i rfl hil) rfl ?_)
    refine e_op (o_n (n_load_ro rfl rfl hb (loads_one rfl (hc 0 _ rfl))) rfl ?_)
    repeat' (first | refine e_nil ?_ | ((refine e_op ?_); (refine o_n (peval_sound rfl) rfl ?_)) | refine s_seq ?_ | refine s_region ?_ | refine s_block ?_)
    generalize L[i] = R at hi1 hi2 hi3 hc htk hmem ⊢
    refine s_loopK (ι := {x : Nat × Bool // x.1 ≤ s.length ∧ (x.2 = true → R.length = s.length ∧ R.take x.1 = s.take x.1) ∧ (x.2 = false → R ≠ s)}) [0, 1, 5] rfl ⟨(0, (R.length : Int) == (s.length : Int)), by simp, fun h => ⟨by simp at h; omega, by simp⟩, fun h e => by subst e; simp at h⟩ (fun x => [(7, .int .i64 x.1.1), (6, .bool x.1.2)]) (fun _ => []) (fun x => s.length - x.1.1) ?_ (Ent.nil _) ?_
    · repeat' (first | exact Sub.nil _ | refine Sub.cons rfl ?_)
    rintro ⟨⟨k, is⟩, hk, hyes, hnot⟩
    simp only at hk hyes hnot ⊢
    repeat' (first | ((refine e_op ?_); (refine o_n (peval_sound rfl) rfl ?_)) | refine s_seq ?_ | refine s_region ?_)
    by_cases hks : k < s.length
    · rw [decide_eq_true (p := (k : Int) < (s.length : Int)) (by omega)]
      cases is with
      | false =>
        repeat' (first | refine e_nil ?_ | ((first | refine e_op ?_ | refine e_yes rfl ?_); (refine o_n (peval_sound rfl) rfl ?_)) | refine s_seq ?_ | refine s_region ?_ | refine s_end ?_ | refine s_skip ?_ | refine s_exit ?_ | refine s_false rfl ?_ | refine x_hit ?_ | refine x_code ?_ | refine x_back ?_)
        refine s_back ⟨⟨i + 1, by omega, htk.2 (hnot rfl)⟩, by simp only; omega, ?_, Ent.nil _⟩
        repeat' (first | exact Sub.nil _ | refine Sub.cons rfl ?_ | refine Sub.consE rfl ?_ ?_)
        exact inc (i := i) (by omega)
      | true =>
        obtain ⟨hlen, htake⟩ := hyes rfl
        have hkR : k < R.length := by omega
        obtain ⟨b1, o1, es1, rfl, hb1, he1, hc1⟩ := hi3 k hkR
        obtain ⟨b2, o2, es2, rfl, hb2, he2, hc2⟩ := h2.2.2 k hks
        obtain ⟨rfl, _⟩ := kOn_open he1
        obtain ⟨rfl, _⟩ := kOn_open he2
        repeat' (first | refine e_nil ?_ | ((first | refine e_op ?_ | refine e_yes rfl ?_); (refine o_n (peval_sound rfl) rfl ?_)) | refine s_seq ?_ | refine s_block ?_ | refine s_skip ?_ | refine s_true rfl ?_)
        refine s_drawU [] Tryd.mixed (by decide +kernel) ?_
        repeat' (((refine l_n (peval_sound rfl) rfl ?_ rfl ?_); · (exact Ent.refl _)))
        refine l_n (n_index rfl rfl rfl rfl i rfl hil) rfl (Ent.refl _) rfl ?_
        refine l_n (n_load_ro rfl rfl hb (loads_one rfl (hc 0 _ rfl))) rfl (Ent.refl _) rfl ?_
        repeat' (((refine l_n (peval_sound rfl) rfl ?_ rfl ?_); · (exact Ent.refl _)))
        refine l_n (n_index rfl rfl rfl rfl k rfl hkR) rfl (Ent.refl _) rfl ?_
        refine l_n (n_load_ro rfl rfl hb1 (loads_agg rfl rfl hc1)) rfl (Ent.refl _) rfl ?_
        repeat' (((refine l_n (peval_sound rfl) rfl ?_ rfl ?_); · (exact Ent.refl _)))
        refine l_n (n_index rfl rfl rfl rfl k rfl hks) rfl (Ent.refl _) rfl ?_
        refine l_n (n_load_ro rfl rfl hb2 (loads_agg rfl rfl hc2)) rfl (Ent.refl _) rfl ?_
        refine l_n (n_eqlO rfl rfl) rfl (Ent.refl _) rfl ?_
        repeat' (first | refine l_nil ?_ | ((refine l_n (peval_sound rfl) rfl ?_ rfl ?_); · (exact Ent.refl _)))
        repeat' (first | refine e_nil ?_ | ((refine e_op ?_); (refine o_n (peval_sound rfl) rfl ?_)) | refine s_region ?_ | refine s_end ?_)
        refine s_back ⟨⟨(k + 1, decide (R[k] = s[k])), by simp only; omega, fun h => ⟨hlen, ?_⟩, fun h e => ?_⟩, by simp only; omega, ?_, Ent.nil _⟩
        · rw [List.take_succ_eq_append_getElem hkR, List.take_succ_eq_append_getElem hks, htake, of_decide_eq_true h]
        · subst e; simp at h
        · repeat' (first | exact Sub.nil _ | refine Sub.cons rfl ?_ | refine Sub.consE rfl ?_ ?_)
          exact inc (i := k) (by omega)
    · rw [decide_eq_false (p := (k : Int) < (s.length : Int)) (by omega)]
      obtain rfl : k = s.length := by omega
      repeat' (first | refine e_nil ?_ | ((refine e_op ?_); (refine o_n (peval_sound rfl) rfl ?_)) | refine e_noU rfl rfl rfl ?_ | refine s_seq ?_ | refine s_region ?_ | refine s_exit ?_ | refine s_false rfl ?_ | refine x_hit ?_ | refine x_code ?_ | refine x_back ?_)
      cases is with
      | false =>
        repeat' (first | refine e_nil ?_ | ((refine e_op ?_); (refine o_n (peval_sound rfl) rfl ?_)) | refine s_region ?_ | refine s_end ?_ | refine s_skip ?_ | refine s_false rfl ?_)
        refine s_back ⟨⟨i + 1, by omega, htk.2 (hnot rfl)⟩, by simp only; omega, ?_, Ent.nil _⟩
        repeat' (first | exact Sub.nil _ | refine Sub.cons rfl ?_ | refine Sub.consE rfl ?_ ?_)
        exact inc (i := i) (by omega)
      | true =>
        obtain ⟨hlen, htake⟩ := hyes rfl
        rw [← hlen, List.take_length, hlen, List.take_length] at htake
        repeat' (first | refine e_nil ?_ | ((refine e_op ?_); (refine o_n (peval_sound rfl) rfl ?_)) | refine s_seq ?_ | refine s_region ?_ | refine s_true rfl ?_)
        refine s_ret ⟨_, _, res1 rfl rfl, ⟨?_, rfl⟩, Ent.nil _⟩
        rw [decide_eq_true (hmem htake)]
  · rw [decide_eq_false (p := (i : Int) < (L.length : Int)) (by omega)]
    obtain rfl : i = L.length := by omega
    repeat' (first | refine e_nil ?_ | ((refine e_op ?_); (refine o_n (peval_sound rfl) rfl ?_)) | refine s_seq ?_ | refine s_region ?_ | refine s_exit ?_ | refine s_false rfl ?_ | refine x_hit ?_ | refine x_code ?_ | refine x_back ?_)
    refine s_ret ⟨_, _, res1 rfl rfl, ⟨?_, rfl⟩, Ent.nil _⟩
    rw [List.take_length] at hno
    rw [decide_eq_false hno]

end Go.Proofs.YtcbaebkkdkdaaaaDoor
