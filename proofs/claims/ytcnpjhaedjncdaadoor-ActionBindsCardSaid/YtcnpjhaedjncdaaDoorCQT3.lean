/-
  Parsers, read; two parsers that are the same.
-/
import Derived.Test.YtcnpjhaedjncdaaDoorAcBase4
import Derived.Test.YtcnpjhaedjncdaaDoorAcBase5
import Derived.Test.YtcnpjhaedjncdaaDoorAcBase3
import Derived.Test.YtcnpjhaedjncdaaDoorCE29

namespace Go.Proofs.YtcnpjhaedjncdaaDoor
set_option linter.all false
open Go.Proofs.YtcnpjhaedjncdaaDoor.E

/-- A number, whatever it is. -/
def kiw : Kd Int where
  sz := 1
  R := fun _ _ cs x => cs = [.int .i64 x]
  len := by rintro w S cs x rfl; rfl
  fr := fun _ h => h
  mono := fun _ h => h
def kAct : Kd Acn := kiso (kpair kiw kiw) (fun x => (x.k, x.n))
def kCla : Kd (Nat × Nat) := kiso (kpair kiw kiw) (fun x => ((x.1 : Int), (x.2 : Int)))
abbrev Par := List (List Acn) × List (List Int) × List (Nat × Nat) × Nat
def kPar : Kd Par := kiso (kpair (kslice 24 (kslice 16 kAct)) (kpair (kslice 24 (kslice 8 kiw)) (kpair (kslice 16 kCla) kiw))) (fun x => (x.1, x.2.1, x.2.2.1, ((x.2.2.2 : Nat) : Int)))
theorem kAct_is {w : World} {S : BSet} {cs : List Value} {x : Acn} (h : kAct.R w S cs x) : cs = encA x := by
  obtain ⟨c1, c2, rfl, rfl, rfl⟩ := h; rfl
theorem kCla_is {w : World} {S : BSet} {cs : List Value} {x : Nat × Nat} (h : kCla.R w S cs x) : cs = encCl x := by
  obtain ⟨c1, c2, rfl, rfl, rfl⟩ := h; rfl
/-- Lengths that fit. -/
structure ParN (R : List (List Acn)) (G : List (List Int)) (C : List (Nat × Nat)) : Prop where
  r : R.length ≤ 1000000
  g : G.length ≤ 1000000
  c : C.length ≤ 1000000
  rr : ∀ x ∈ R, x.length ≤ 1000000
  gg : ∀ x ∈ G, x.length ≤ 1000000

theorem par_rd {AA AG AC : Option Addr} {cA cG cC : Nat} {acs bcs : AcL} {R : List (List Acn)} {G : List (List Int)} {C : List (Nat × Nat)} {d : Nat} (la : acs.length = R.length) (lg : bcs.length = G.length) (hN : ParN R G C) {w : World} {S : BSet}
    (h : star [actS AA R.length cA acs R, actB acs R, gotS AG G.length cG bcs G, gotB bcs G, claS AC C.length cC C] w S) : kPar.R w S [.slice AA R.length cA, .slice AG G.length cG, .slice AC C.length cC, .int .i64 d] (R, G, C, d) := by
  obtain ⟨_, h0, i0⟩ := star_mem (i := 0) rfl h
  obtain ⟨_, h1, i1⟩ := star_mem (i := 1) rfl h
  obtain ⟨_, h2, i2⟩ := star_mem (i := 2) rfl h
  obtain ⟨_, h3, i3⟩ := star_mem (i := 3) rfl h
  obtain ⟨_, h4, i4⟩ := star_mem (i := 4) rfl h
  have hr := hN.r
  have hg := hN.g
  have hc := hN.c
  have a1 := els_rows (β := Nat) (kd := kAct) (bi := 16) la rfl h0 i0 h1 i1 (fun i hi S3 hS => by
    have hS2 : (osl 51 kAct.sz (.slice (acs[i]'(la ▸ hi)).1 R[i].length (acs[i]'(la ▸ hi)).2) R[i].length (R[i].map encA).flatten).P w S3 := by
      rw [← List.flatMap_def]; exact hS
    obtain ⟨e, e2⟩ := osl_elsG (kd := kAct) hS2 (fun _ h => h) (by simp) rfl (fun j g1 g2 => by rw [List.getElem_map]; exact ⟨[_], [_], rfl, rfl, rfl⟩)
    exact ⟨_, _, rfl, e2, by have := hN.rr _ (List.getElem_mem hi); omega, e⟩)
  have a2 := els_rows (β := Nat) (kd := kiw) (bi := 8) lg rfl h2 i2 h3 i3 (fun i hi S3 hS => by
    obtain ⟨e, _, e2⟩ := osl_els (k := kiw) (Value.int .i64) rfl (fun _ _ _ => rfl) hS
    exact ⟨_, _, rfl, e2, by have := hN.gg _ (List.getElem_mem hi); omega, e⟩)
  have h4' := h4
  unfold claS encCs at h4'
  rw [List.flatMap_def] at h4'
  obtain ⟨e3, e4⟩ := osl_elsG (kd := kCla) h4' i4 (by simp) rfl (fun j g1 g2 => by rw [List.getElem_map]; exact ⟨[_], [_], rfl, rfl, rfl⟩)
  exact ⟨[_], [_, _, _], rfl, ⟨_, _, rfl, a1.2, by simp only; omega, a1.1⟩, [_], [_, _], rfl, ⟨_, _, rfl, a2.2, by simp only; omega, a2.1⟩, [_], [_], rfl, ⟨_, _, rfl, e4, by simp only; omega, e3⟩, rfl⟩
theorem can_par {E0 : Go.Proofs.YtcnpjhaedjncdaaDoor.E.Env} {U W : List Asn} {AA AG AC : Option Addr} {cA cG cC : Nat} {acs bcs : AcL} {R : List (List Acn)} {G : List (List Int)} {C : List (Nat × Nat)} {d : Nat} (la : acs.length = R.length) (lg : bcs.length = G.length) (hN : ParN R G C)
    (he : Ent U ([actS AA R.length cA acs R, actB acs R, gotS AG G.length cG bcs G, gotB bcs G, claS AC C.length cC C] ++ W)) : Go.Proofs.YtcnpjhaedjncdaaDoor.E.Can E0 U (kPar.rd [.slice AA R.length cA, .slice AG G.length cG, .slice AC C.length cC, .int .i64 d] (R, G, C, d)) := Can.of fun w S hs => by
  obtain ⟨S1, S2, h1, _, _, i1, _⟩ := star_split (he w S hs)
  exact kPar.mono i1 (par_rd la lg hN h1)
theorem kPar_open {w : World} {S : BSet} {cs : List Value} {x : Par} (h : kPar.R w S cs x) : ∃ AA AG AC cA cG cC, cs = [.slice AA x.1.length cA, .slice AG x.2.1.length cG, .slice AC x.2.2.1.length cC, .int .i64 (x.2.2.2 : Nat)] ∧
    Els (kslice 16 kAct) w S AA x.1 ∧ Els (kslice 8 kiw) w S AG x.2.1 ∧ Els kCla w S AC x.2.2.1 ∧ x.1.length * 24 ≤ 140737488355328 ∧ x.2.1.length * 24 ≤ 140737488355328 ∧ x.2.2.1.length * 16 ≤ 140737488355328 := by
  obtain ⟨c1, c2, rfl, ⟨A, c, rfl, h1, h2, h3⟩, c3, c4, rfl, ⟨A', c', rfl, h4, h5, h6⟩, c5, c6, rfl, ⟨A2, c7, rfl, h7, h8, h9⟩, rfl⟩ := h
  exact ⟨A, A', A2, c, c', c7, rfl, h3, h6, h9, h2, h5, h8⟩

theorem actA_len' (g : Gram) : (actA g).length = (lrKs g).length := by unfold actA; simp
theorem pAct_n (g : Gram) : ParN (pAct g) (pGot g) (pCla g) := by
  by_cases h0 : lrE g = 0
  · have hF := goF h0
    have hT := hF.lim.t
    have hNn := hF.lim.n
    have hn := hF.n
    have hg := hF.gk
    have h1 := actA_len' g
    have h2 : (gotA g).length = (lrGs g).length := by unfold gotA; simp
    have h3 := claTo_le g (lrKs g).length 0
    have h4 : (lrKs g).length * g.Terms.length ≤ 512 * 48 := Nat.mul_le_mul hn hT
    have h5 : (claA g).length ≤ 512 * 48 := by have : claA g = claTo g (lrKs g).length 0 := rfl; rw [this]; omega
    have h6 : ∀ x ∈ actA g, x.length ≤ 1000000 := fun x hx => by
      unfold actA at hx
      obtain ⟨s, _, rfl⟩ := List.mem_map.1 hx
      unfold actRow; simp; omega
    have h7 : ∀ x ∈ gotA g, x.length ≤ 1000000 := fun x hx => by
      unfold gotA at hx
      obtain ⟨r, hr, rfl⟩ := List.mem_map.1 hx
      obtain ⟨i, hi, rfl⟩ := List.getElem_of_mem hr
      have := hF.row i hi
      rw [List.length_drop]; omega
    refine ⟨?_, ?_, ?_, ?_, ?_⟩
    · unfold pAct; split
      · omega
      · simp
    · unfold pGot; split
      · omega
      · simp
    · unfold pCla; rw [if_pos h0]; omega
    · unfold pAct; split
      · exact h6
      · simp
    · unfold pGot; split
      · exact h7
      · simp
  · have ha : actE g ≠ 0 := by unfold actE; rw [if_pos h0]; exact h0
    unfold pAct pGot pCla
    rw [if_neg ha, if_neg ha, if_neg h0]
    exact ⟨by simp, by simp, by simp, by simp, by simp⟩

attribute [local irreducible] EVX EVO EVL EV1 NEV
attribute [local irreducible] own osl exA rdA rdL
attribute [local irreducible] bldA mapA bun mapS
set_option maxRecDepth 10000
set_option maxHeartbeats 4000000

theorem sameActs_w (A B : Option Addr) (c d : Nat) (l : List Acn) : Trip Tryd.prog 38 [.slice A l.length c, .slice B l.length d] (((kslice 16 kAct).rd [.slice A l.length c] l).and ((kslice 16 kAct).rd [.slice B l.length d] l)) [] (fun v V => v = .bool true ∧ V = []) := by
  refine trip Tryd.tabOk Tryd.func38 rfl rfl rfl rfl ?_
  rintro w SM ⟨⟨A', c', e1, h1, h2, h3⟩, B', d', e2, h4, h5, h6⟩
  cases e1; cases e2
  repeat' (first | refine e_nil ?_ | ((refine e_op ?_); (refine o_n (peval_sound rfl) rfl ?_)) | refine s_seq ?_ | refine s_region ?_)
  simp only [bne_self_eq_false]
  repeat' (first | refine e_nil ?_ | ((refine e_op ?_); (refine o_n (peval_sound rfl) rfl ?_)) | refine s_seq ?_ | refine s_region ?_ | refine s_block ?_ | refine s_skip ?_ | refine s_false rfl ?_)
  refine s_loopK (ι := {i : Nat // i ≤ l.length}) [0, 1] rfl ⟨0, by omega⟩ (fun i => [(5, .int .i64 i.1)]) (fun _ => []) (fun i => l.length - i.1) ?_ (Ent.refl _) ?_
  · repeat' (first | exact Sub.nil _ | refine Sub.cons rfl ?_)
  rintro ⟨i, hi⟩
  simp only at hi ⊢
  repeat' (first | refine e_nil ?_ | ((refine e_op ?_); (refine o_n (peval_sound rfl) rfl ?_)) | refine s_seq ?_ | refine s_region ?_)
  by_cases hlt : i < l.length
  · rw [decide_eq_true (p := (i : Int) < (l.length : Int)) (by omega)]
    obtain ⟨b1, o1, es1, rfl, hb1, hR1, hc1⟩ := h3 i hlt
    obtain ⟨b2, o2, es2, rfl, hb2, hR2, hc2⟩ := h6 i hlt
    obtain rfl := kAct_is hR1
    obtain rfl := kAct_is hR2
    repeat' (first | refine s_seq ?_ | refine s_block ?_ | refine s_skip ?_ | refine s_true rfl ?_)
    refine s_drawU [] Tryd.mixed (by decide +kernel) ?_
    repeat' (((refine l_n (peval_sound rfl) rfl ?_ rfl ?_); · (exact Ent.refl _)))
    refine l_n (n_index rfl rfl rfl rfl i rfl hlt) rfl (Ent.refl _) rfl ?_
    refine l_n (n_load_ro rfl rfl hb1 (loads_agg rfl rfl hc1)) rfl (Ent.refl _) rfl ?_
    repeat' (((refine l_n (peval_sound rfl) rfl ?_ rfl ?_); · (exact Ent.refl _)))
    refine l_n (n_index rfl rfl rfl rfl i rfl hlt) rfl (Ent.refl _) rfl ?_
    refine l_n (n_load_ro rfl rfl hb2 (loads_agg rfl rfl hc2)) rfl (Ent.refl _) rfl ?_
    refine l_n (n_neq51 (a := l[i]) (b := l[i]) rfl rfl) rfl (Ent.refl _) rfl ?_
    rw [decide_eq_true (rfl : l[i] = l[i])]
    repeat' (refine l_nil ?_)
    repeat' (first | refine e_nil ?_ | ((refine e_op ?_); (refine o_n (peval_sound rfl) rfl ?_)) | refine s_region ?_ | refine s_end ?_ | refine s_skip ?_ | refine s_false rfl ?_)
    refine s_back ⟨⟨i + 1, by omega⟩, by simp only; omega, ?_, Ent.nil _⟩
    repeat' (first | exact Sub.nil _ | refine Sub.cons rfl ?_ | refine Sub.consE rfl ?_ ?_)
    exact inc (i := i) (by omega)
  · rw [decide_eq_false (p := (i : Int) < (l.length : Int)) (by omega)]
    repeat' (first | refine e_nil ?_ | ((refine e_op ?_); (refine o_n (peval_sound rfl) rfl ?_)) | refine s_seq ?_ | refine s_region ?_ | refine s_exit ?_ | refine s_false rfl ?_ | refine x_hit ?_ | refine x_code ?_ | refine x_back ?_)
    refine s_ret ⟨_, _, res1 rfl rfl, ⟨rfl, rfl⟩, Ent.nil _⟩

theorem parser21_w (A B C : Option Addr) (n1 n2 n3 c1 c2 c3 : Nat) (d : Int) : Trip Tryd.prog 18 [.agg #[.slice A n1 c1, .slice B n2 c2, .slice C n3 c3, .int .i64 d]] Rd.tt [] (fun v V => v = .agg #[.slice A n1 c1, .slice B n2 c2, .slice C n3 c3, .int .i64 d] ∧ V = []) := by
  refine trip Tryd.tabOk Tryd.func18 rfl rfl rfl rfl ?_
  intro w SM _
  repeat' (first | refine e_nil ?_ | ((refine e_op ?_); (first | refine o_n (peval_sound rfl) rfl ?_ | refine o_n (nl rfl rfl tc rfl) rfl ?_ | refine o_storeC rfl rfl rfl rfl tc uc rfl rfl rfl ?_ | refine o_box rfl rfl (fun _ => ?_) | refine o_alloc rfl rfl (fun _ => ?_))) | refine s_seq ?_ | refine s_region ?_)
  refine s_ret ⟨_, _, resc rfl rfl rfl TakC.tak rfl, ⟨rfl, rfl⟩, Ent.nil _⟩

theorem same21_w (c1 c2 : List Value) (x : Par) : Trip Tryd.prog 17 [.agg c1.toArray, .agg c2.toArray] ((kPar.rd c1 x).and (kPar.rd c2 x)) [] (fun v V => v = .bool true ∧ V = []) := by
  refine trip Tryd.tabOk Tryd.func17 rfl rfl rfl rfl ?_
  rintro w SM ⟨hx, hy⟩
  obtain ⟨AA, AG, AC, cA, cG, cC, rfl, x1, x2, x3, nA, nG, nC⟩ := kPar_open hx
  obtain ⟨BA, BG, BC, dA, dG, dC, rfl, y1, y2, y3, _, _, _⟩ := kPar_open hy
  repeat' (first | refine e_nil ?_ | ((refine e_op ?_); (first | refine o_n (peval_sound rfl) rfl ?_ | refine o_n (nl rfl rfl tc rfl) rfl ?_ | refine o_box rfl rfl (fun _ => ?_))) | refine s_seq ?_ | refine s_region ?_)
  rename_i ba bb
  simp only [bne_self_eq_false]
  repeat' (((first | refine e_op ?_ | refine e_yes rfl ?_); (first | refine o_n (peval_sound rfl) rfl ?_ | refine o_n (nl rfl rfl tc rfl) rfl ?_)))
  simp only [bne_self_eq_false]
  repeat' (((first | refine e_op ?_ | refine e_yes rfl ?_); (first | refine o_n (peval_sound rfl) rfl ?_ | refine o_n (nl rfl rfl tc rfl) rfl ?_)))
  simp only [bne_self_eq_false]
  repeat' (first | refine e_nil ?_ | ((first | refine e_op ?_ | refine e_yes rfl ?_); (first | refine o_n (peval_sound rfl) rfl ?_ | refine o_n (nl rfl rfl tc rfl) rfl ?_)))
  simp only [bne_self_eq_false]
  repeat' (first | refine e_nil ?_ | ((refine e_op ?_); (refine o_n (peval_sound rfl) rfl ?_)) | refine s_seq ?_ | refine s_region ?_ | refine s_block ?_ | refine s_skip ?_ | refine s_false rfl ?_)
  refine s_loopK (ι := {i : Nat // i ≤ x.1.length}) [2, 3] rfl ⟨0, by omega⟩ (fun i => [(5, .int .i64 i.1)]) (fun _ => [blk bb 63 [.slice BA x.1.length dA, .slice BG x.2.1.length dG, .slice BC x.2.2.1.length dC, .int .i64 (x.2.2.2 : Nat)], blk ba 63 [.slice AA x.1.length cA, .slice AG x.2.1.length cG, .slice AC x.2.2.1.length cC, .int .i64 (x.2.2.2 : Nat)]]) (fun i => x.1.length - i.1) ?_ ?_ ?_
  · repeat' (first | exact Sub.nil _ | refine Sub.cons rfl ?_)
  · repeat' (first | exact Ent.nil _ | refine Ent.tak tk ?_)
  rintro ⟨i, hi⟩
  simp only at hi ⊢
  repeat' (first | refine e_nil ?_ | ((refine e_op ?_); (first | refine o_n (peval_sound rfl) rfl ?_ | refine o_n (nl rfl rfl tc rfl) rfl ?_)) | refine s_seq ?_ | refine s_region ?_)
  by_cases hlt : i < x.1.length
  · rw [decide_eq_true (p := (i : Int) < (x.1.length : Int)) (by omega)]
    obtain ⟨b1, o1, es1, rfl, hb1, hR1, hc1⟩ := x1 i hlt
    obtain ⟨b2, o2, es2, rfl, hb2, hR2, hc2⟩ := y1 i hlt
    have hS1 := hR1
    have hS2 := hR2
    obtain ⟨A1, e1, rfl, _⟩ := hR1
    obtain ⟨A2, e2, rfl, _⟩ := hR2
    repeat' (first | refine s_seq ?_ | refine s_block ?_ | refine s_skip ?_ | refine s_true rfl ?_)
    refine s_drawU [10] Tryd.mixed (by decide +kernel) ?_
    repeat' (((first | refine l_n (peval_sound rfl) rfl ?_ rfl ?_ | refine l_n (nl rfl rfl tc rfl) rfl ?_ rfl ?_); · (exact Ent.refl _)))
    refine l_n (n_index rfl rfl rfl rfl i rfl hlt) rfl (Ent.refl _) rfl ?_
    refine l_n (n_load_ro rfl rfl hb1 (loads_one rfl (hc1 0 _ rfl))) rfl (Ent.refl _) rfl ?_
    repeat' (((first | refine l_n (peval_sound rfl) rfl ?_ rfl ?_ | refine l_n (nl rfl rfl tc rfl) rfl ?_ rfl ?_); · (exact Ent.refl _)))
    refine l_n (n_index rfl rfl rfl rfl i rfl hlt) rfl (Ent.refl _) rfl ?_
    refine l_n (n_load_ro rfl rfl hb2 (loads_one rfl (hc2 0 _ rfl))) rfl (Ent.refl _) rfl ?_
    refine l_e rfl (o_call (sameActs_w _ _ _ _ x.1[i]) rfl .nil (Can.and (Can.ro hS1) (Can.ro hS2)) rfl ?_)
    rintro v V ⟨rfl, rfl⟩
    refine ⟨Ent.refl _, ?_⟩
    simp only [List.nil_append]
    repeat' (first | refine l_nil ?_ | ((refine l_n (peval_sound rfl) rfl ?_ rfl ?_); · (exact Ent.refl _)))
    repeat' (first | refine e_nil ?_ | ((refine e_op ?_); (refine o_n (peval_sound rfl) rfl ?_)) | refine s_region ?_ | refine s_end ?_ | refine s_skip ?_ | refine s_false rfl ?_)
    refine s_back ⟨⟨i + 1, by omega⟩, by simp only; omega, ?_, Ent.refl _⟩
    repeat' (first | exact Sub.nil _ | refine Sub.cons rfl ?_ | refine Sub.consE rfl ?_ ?_)
    exact inc (i := i) (by omega)
  rw [decide_eq_false (p := (i : Int) < (x.1.length : Int)) (by omega)]
  repeat' (first | refine e_nil ?_ | ((refine e_op ?_); (refine o_n (peval_sound rfl) rfl ?_)) | refine s_seq ?_ | refine s_region ?_ | refine s_block ?_ | refine s_exit ?_ | refine s_false rfl ?_ | refine x_hit ?_ | refine x_code ?_ | refine x_back ?_)
  refine s_loopK (ι := {i : Nat // i ≤ x.2.1.length}) [2, 3] rfl ⟨0, by omega⟩ (fun i => [(6, .int .i64 i.1)]) (fun _ => [blk bb 63 [.slice BA x.1.length dA, .slice BG x.2.1.length dG, .slice BC x.2.2.1.length dC, .int .i64 (x.2.2.2 : Nat)], blk ba 63 [.slice AA x.1.length cA, .slice AG x.2.1.length cG, .slice AC x.2.2.1.length cC, .int .i64 (x.2.2.2 : Nat)]]) (fun i => x.2.1.length - i.1) ?_ ?_ ?_
  · repeat' (first | exact Sub.nil _ | refine Sub.cons rfl ?_)
  · repeat' (first | exact Ent.nil _ | refine Ent.tak tk ?_)
  rintro ⟨i, hi⟩
  simp only at hi ⊢
  repeat' (first | refine e_nil ?_ | ((refine e_op ?_); (first | refine o_n (peval_sound rfl) rfl ?_ | refine o_n (nl rfl rfl tc rfl) rfl ?_)) | refine s_seq ?_ | refine s_region ?_)
  by_cases hlt : i < x.2.1.length
  · rw [decide_eq_true (p := (i : Int) < (x.2.1.length : Int)) (by omega)]
    obtain ⟨b1, o1, es1, rfl, hb1, hR1, hc1⟩ := x2 i hlt
    obtain ⟨b2, o2, es2, rfl, hb2, hR2, hc2⟩ := y2 i hlt
    obtain ⟨A1, e1, rfl, q1, q2, q3⟩ := hR1
    obtain ⟨A2, e2, rfl, _, _, q4⟩ := hR2
    repeat' (first | refine s_seq ?_ | refine s_block ?_ | refine s_skip ?_ | refine s_true rfl ?_)
    refine s_drawU [] Tryd.mixed (by decide +kernel) ?_
    repeat' (((first | refine l_n (peval_sound rfl) rfl ?_ rfl ?_ | refine l_n (nl rfl rfl tc rfl) rfl ?_ rfl ?_); · (exact Ent.refl _)))
    refine l_n (n_index rfl rfl rfl rfl i rfl hlt) rfl (Ent.refl _) rfl ?_
    refine l_n (n_load_ro rfl rfl hb1 (loads_one rfl (hc1 0 _ rfl))) rfl (Ent.refl _) rfl ?_
    repeat' (((first | refine l_n (peval_sound rfl) rfl ?_ rfl ?_ | refine l_n (nl rfl rfl tc rfl) rfl ?_ rfl ?_); · (exact Ent.refl _)))
    refine l_n (n_index rfl rfl rfl rfl i rfl hlt) rfl (Ent.refl _) rfl ?_
    refine l_n (n_load_ro rfl rfl hb2 (loads_one rfl (hc2 0 _ rfl))) rfl (Ent.refl _) rfl ?_
    repeat' (first | refine l_nil ?_ | ((refine l_n (peval_sound rfl) rfl ?_ rfl ?_); · (exact Ent.refl _)))
    simp only [bne_self_eq_false]
    repeat' (first | refine e_nil ?_ | ((refine e_op ?_); (refine o_n (peval_sound rfl) rfl ?_)) | refine s_seq ?_ | refine s_region ?_ | refine s_block ?_ | refine s_skip ?_ | refine s_false rfl ?_)
    refine s_loopK (ι := {k : Nat // k ≤ x.2.1[i].length}) [2, 3, 6] rfl ⟨0, by omega⟩ (fun k => [(7, .int .i64 k.1)]) (fun _ => [blk bb 63 [.slice BA x.1.length dA, .slice (some ⟨b2, o2, none⟩) x.2.1.length dG, .slice BC x.2.2.1.length dC, .int .i64 (x.2.2.2 : Nat)], blk ba 63 [.slice AA x.1.length cA, .slice (some ⟨b1, o1, none⟩) x.2.1.length cG, .slice AC x.2.2.1.length cC, .int .i64 (x.2.2.2 : Nat)]]) (fun k => x.2.1[i].length - k.1) ?_ (Ent.refl _) ?_
    · repeat' (first | exact Sub.nil _ | refine Sub.cons rfl ?_)
    rintro ⟨k, hk⟩
    simp only at hk ⊢
    repeat' (first | ((refine e_op ?_); (first | refine o_n (peval_sound rfl) rfl ?_ | refine o_n (nl rfl rfl tc rfl) rfl ?_)) | refine s_seq ?_ | refine s_region ?_)
    refine e_op (o_n (n_index rfl rfl rfl rfl i rfl hlt) rfl ?_)
    refine e_op (o_n (n_load_ro rfl rfl hb1 (loads_one rfl (hc1 0 _ rfl))) rfl ?_)
    repeat' (first | refine e_nil ?_ | ((refine e_op ?_); (refine o_n (peval_sound rfl) rfl ?_)))
    by_cases hkl : k < x.2.1[i].length
    · rw [decide_eq_true (p := (k : Int) < (x.2.1[i].length : Int)) (by omega)]
      obtain ⟨b3, o3, es3, rfl, hb3, rfl, hc3⟩ := q3 k hkl
      obtain ⟨b4, o4, es4, rfl, hb4, rfl, hc4⟩ := q4 k hkl
      repeat' (first | refine s_seq ?_ | refine s_block ?_ | refine s_skip ?_ | refine s_true rfl ?_)
      refine s_drawU [] Tryd.mixed (by decide +kernel) ?_
      repeat' (((first | refine l_n (peval_sound rfl) rfl ?_ rfl ?_ | refine l_n (nl rfl rfl tc rfl) rfl ?_ rfl ?_); · (exact Ent.refl _)))
      refine l_n (n_index rfl rfl rfl rfl i rfl hlt) rfl (Ent.refl _) rfl ?_
      refine l_n (n_load_ro rfl rfl hb1 (loads_one rfl (hc1 0 _ rfl))) rfl (Ent.refl _) rfl ?_
      repeat' (((refine l_n (peval_sound rfl) rfl ?_ rfl ?_); · (exact Ent.refl _)))
      refine l_n (n_index rfl rfl rfl rfl k rfl hkl) rfl (Ent.refl _) rfl ?_
      refine l_n (n_load_ro rfl rfl hb3 (loads_one rfl (hc3 0 _ rfl))) rfl (Ent.refl _) rfl ?_
      repeat' (((first | refine l_n (peval_sound rfl) rfl ?_ rfl ?_ | refine l_n (nl rfl rfl tc rfl) rfl ?_ rfl ?_); · (exact Ent.refl _)))
      refine l_n (n_index rfl rfl rfl rfl i rfl hlt) rfl (Ent.refl _) rfl ?_
      refine l_n (n_load_ro rfl rfl hb2 (loads_one rfl (hc2 0 _ rfl))) rfl (Ent.refl _) rfl ?_
      repeat' (((refine l_n (peval_sound rfl) rfl ?_ rfl ?_); · (exact Ent.refl _)))
      refine l_n (n_index rfl rfl rfl rfl k rfl hkl) rfl (Ent.refl _) rfl ?_
      refine l_n (n_load_ro rfl rfl hb4 (loads_one rfl (hc4 0 _ rfl))) rfl (Ent.refl _) rfl ?_
      repeat' (first | refine l_nil ?_ | ((refine l_n (peval_sound rfl) rfl ?_ rfl ?_); · (exact Ent.refl _)))
      simp only [bne_self_eq_false]
      repeat' (first | refine e_nil ?_ | ((refine e_op ?_); (refine o_n (peval_sound rfl) rfl ?_)) | refine s_region ?_ | refine s_end ?_ | refine s_skip ?_ | refine s_false rfl ?_)
      refine s_back ⟨⟨k + 1, by omega⟩, by simp only; omega, ?_, Ent.refl _⟩
      repeat' (first | exact Sub.nil _ | refine Sub.cons rfl ?_ | refine Sub.consE rfl ?_ ?_)
      exact inc (i := k) (by omega)
    · rw [decide_eq_false (p := (k : Int) < (x.2.1[i].length : Int)) (by omega)]
      repeat' (first | refine e_nil ?_ | ((refine e_op ?_); (refine o_n (peval_sound rfl) rfl ?_)) | refine s_region ?_ | refine s_end ?_ | refine s_exit ?_ | refine s_false rfl ?_ | refine x_hit ?_ | refine x_code ?_ | refine x_back ?_)
      refine s_back ⟨⟨i + 1, by omega⟩, by simp only; omega, ?_, Ent.refl _⟩
      repeat' (first | exact Sub.nil _ | refine Sub.cons rfl ?_ | refine Sub.consE rfl ?_ ?_)
      exact inc (i := i) (by omega)
  rw [decide_eq_false (p := (i : Int) < (x.2.1.length : Int)) (by omega)]
  repeat' (first | refine e_nil ?_ | ((refine e_op ?_); (refine o_n (peval_sound rfl) rfl ?_)) | refine s_seq ?_ | refine s_region ?_ | refine s_block ?_ | refine s_exit ?_ | refine s_false rfl ?_ | refine x_hit ?_ | refine x_code ?_ | refine x_back ?_)
  refine s_loopK (ι := {i : Nat // i ≤ x.2.2.1.length}) [2, 3] rfl ⟨0, by omega⟩ (fun i => [(8, .int .i64 i.1)]) (fun _ => [blk bb 63 [.slice BA x.1.length dA, .slice BG x.2.1.length dG, .slice BC x.2.2.1.length dC, .int .i64 (x.2.2.2 : Nat)], blk ba 63 [.slice AA x.1.length cA, .slice AG x.2.1.length cG, .slice AC x.2.2.1.length cC, .int .i64 (x.2.2.2 : Nat)]]) (fun i => x.2.2.1.length - i.1) ?_ (Ent.refl _) ?_
  · repeat' (first | exact Sub.nil _ | refine Sub.cons rfl ?_)
  rintro ⟨i, hi⟩
  simp only at hi ⊢
  repeat' (first | refine e_nil ?_ | ((refine e_op ?_); (first | refine o_n (peval_sound rfl) rfl ?_ | refine o_n (nl rfl rfl tc rfl) rfl ?_)) | refine s_seq ?_ | refine s_region ?_)
  by_cases hlt : i < x.2.2.1.length
  · rw [decide_eq_true (p := (i : Int) < (x.2.2.1.length : Int)) (by omega)]
    obtain ⟨b1, o1, es1, rfl, hb1, hR1, hc1⟩ := x3 i hlt
    obtain ⟨b2, o2, es2, rfl, hb2, hR2, hc2⟩ := y3 i hlt
    obtain rfl := kCla_is hR1
    obtain rfl := kCla_is hR2
    repeat' (first | refine s_seq ?_ | refine s_block ?_ | refine s_skip ?_ | refine s_true rfl ?_)
    refine s_drawU [] Tryd.mixed (by decide +kernel) ?_
    repeat' (((first | refine l_n (peval_sound rfl) rfl ?_ rfl ?_ | refine l_n (nl rfl rfl tc rfl) rfl ?_ rfl ?_); · (exact Ent.refl _)))
    refine l_n (n_index rfl rfl rfl rfl i rfl hlt) rfl (Ent.refl _) rfl ?_
    refine l_n (n_load_ro rfl rfl hb1 (loads_agg rfl rfl hc1)) rfl (Ent.refl _) rfl ?_
    repeat' (((first | refine l_n (peval_sound rfl) rfl ?_ rfl ?_ | refine l_n (nl rfl rfl tc rfl) rfl ?_ rfl ?_); · (exact Ent.refl _)))
    refine l_n (n_index rfl rfl rfl rfl i rfl hlt) rfl (Ent.refl _) rfl ?_
    refine l_n (n_load_ro rfl rfl hb2 (loads_agg rfl rfl hc2)) rfl (Ent.refl _) rfl ?_
    refine l_n (n_neq67 (a := x.2.2.1[i]) (b := x.2.2.1[i]) rfl rfl) rfl (Ent.refl _) rfl ?_
    rw [decide_eq_true (rfl : x.2.2.1[i] = x.2.2.1[i])]
    repeat' (refine l_nil ?_)
    repeat' (first | refine e_nil ?_ | ((refine e_op ?_); (refine o_n (peval_sound rfl) rfl ?_)) | refine s_region ?_ | refine s_end ?_ | refine s_skip ?_ | refine s_false rfl ?_)
    refine s_back ⟨⟨i + 1, by omega⟩, by simp only; omega, ?_, Ent.refl _⟩
    repeat' (first | exact Sub.nil _ | refine Sub.cons rfl ?_ | refine Sub.consE rfl ?_ ?_)
    exact inc (i := i) (by omega)
  · rw [decide_eq_false (p := (i : Int) < (x.2.2.1.length : Int)) (by omega)]
    repeat' (first | refine e_nil ?_ | ((refine e_op ?_); (refine o_n (peval_sound rfl) rfl ?_)) | refine s_seq ?_ | refine s_region ?_ | refine s_exit ?_ | refine s_false rfl ?_ | refine x_hit ?_ | refine x_code ?_ | refine x_back ?_)
    refine s_ret ⟨_, _, res1 rfl rfl, ⟨rfl, rfl⟩, Ent.nil _⟩

end Go.Proofs.YtcnpjhaedjncdaaDoor
