/-
  The statement ActionBinds, walked.
-/
import Derived.Test.YtcnpjhaedjncdaaDoorCQT1
import Derived.Test.YtcnpjhaedjncdaaDoorCQT3
import Derived.Test.YtcnpjhaedjncdaaDoorAcBase5

namespace Go.Proofs.YtcnpjhaedjncdaaDoor
set_option linter.all false
open Go.Proofs.YtcnpjhaedjncdaaDoor.E

/-! ### some elements turned -/
def mtL {α : Type} (f : α → α) (i : Nat) (l : List α) : List α := (l.take i).map f ++ l.drop i
theorem mtL_zero {α : Type} (f : α → α) (l : List α) : mtL f 0 l = l := by unfold mtL; simp
theorem mtL_all {α : Type} (f : α → α) {i : Nat} {l : List α} (h : l.length ≤ i) : mtL f i l = l.map f := by unfold mtL; rw [List.take_of_length_le h, List.drop_eq_nil_of_le h, List.append_nil]
theorem mtL_len {α : Type} (f : α → α) (i : Nat) (l : List α) : (mtL f i l).length = l.length := by unfold mtL; rw [List.length_append, List.length_map, List.length_take, List.length_drop]; omega
theorem mtL_get {α : Type} (f : α → α) {i : Nat} {l : List α} (h : i < l.length) (h2 : i < (mtL f i l).length) : (mtL f i l)[i] = l[i] := by
  have : (mtL f i l)[i]? = l[i]? := by
    unfold mtL
    rw [List.getElem?_append_right (by rw [List.length_map, List.length_take]; omega), List.getElem?_drop, List.length_map, List.length_take]
    congr 1
    omega
  rw [List.getElem?_eq_getElem h2, List.getElem?_eq_getElem h] at this
  exact Option.some.inj this
theorem mtL_set {α : Type} (f : α → α) {i : Nat} {l : List α} (h : i < l.length) : (mtL f i l).set i (f l[i]) = mtL f (i + 1) l := by
  unfold mtL
  rw [List.set_append_right _ _ (by rw [List.length_map, List.length_take]; omega), List.take_succ_eq_append_getElem h, List.map_append, List.append_assoc]
  have : i - ((l.take i).map f).length = 0 := by rw [List.length_map, List.length_take]; omega
  rw [this, List.drop_eq_getElem_cons h, List.set_cons_zero]; rfl
def onL (f : Lev → Lev) (p : Prd) : Prd := { p with L := f p.L }

theorem encZ_len (l : List Lev) : (l.flatMap encZ).length = l.length * 2 := by
  induction l with
  | nil => rfl
  | cons x l ih => rw [List.flatMap_cons, List.length_append, ih]; simp only [encZ, List.length_cons, List.length_nil]; omega
theorem encZ_setN : ∀ {l : List Lev} {i : Nat} (h : i < l.length) (v : Int), setMany (l.flatMap encZ) (i * 2) [.int .i64 v] = (l.set i ⟨v, l[i].Kind⟩).flatMap encZ
  | a :: l, 0, _, v => rfl
  | a :: l, i + 1, h, v => by
    have h2 : i < l.length := by simpa using h
    rw [List.set_cons_succ, show (i + 1) * 2 = i * 2 + 1 + 1 by omega]
    show setMany (_ :: _ :: l.flatMap encZ) _ _ = _ :: _ :: (l.set i ⟨v, l[i].Kind⟩).flatMap encZ
    rw [setMany_cons, setMany_cons, encZ_setN h2]
theorem encZ_set2 : ∀ {l : List Lev} {i : Nat} (_ : i < l.length) (x : Lev), setMany (l.flatMap encZ) (i * 2) (encZ x) = (l.set i x).flatMap encZ
  | a :: l, 0, _, x => rfl
  | a :: l, i + 1, h, x => by
    have h2 : i < l.length := by simpa using h
    rw [List.set_cons_succ, show (i + 1) * 2 = i * 2 + 1 + 1 by omega]
    show setMany (_ :: _ :: l.flatMap encZ) _ _ = _ :: _ :: (l.set i x).flatMap encZ
    rw [setMany_cons, setMany_cons, encZ_set2 h2]
theorem prC_setN : ∀ {acs : List (Option Addr × Nat)} {ps : List Prd} (_ : acs.length = ps.length) {j : Nat} (h : j < ps.length) (v : Int), setMany (prC acs ps) (j * 4 + 2) [.int .i64 v] = prC acs (ps.set j { ps[j] with L := ⟨v, ps[j].L.Kind⟩ })
  | [], [], _, _, h, _ => absurd h (Nat.not_lt_zero _)
  | [], _ :: _, h, _, _, _ => by simp at h
  | _ :: _, [], h, _, _, _ => by simp at h
  | a :: acs, q :: ps, _, 0, _, v => rfl
  | a :: acs, q :: ps, hl, j + 1, h, v => by
    have h2 : j < ps.length := by simpa using h
    have ih := prC_setN (acs := acs) (ps := ps) (by simpa using hl) h2 v
    rw [List.set_cons_succ, show (j + 1) * 4 + 2 = j * 4 + 2 + 1 + 1 + 1 + 1 by omega]
    show setMany (_ :: _ :: _ :: _ :: prC acs ps) _ _ = _ :: _ :: _ :: _ :: prC acs (ps.set j _)
    rw [setMany_cons, setMany_cons, setMany_cons, setMany_cons, ih]; rfl
theorem prC_set2 : ∀ {acs : List (Option Addr × Nat)} {ps : List Prd} (_ : acs.length = ps.length) {j : Nat} (h : j < ps.length) (x : Lev), setMany (prC acs ps) (j * 4 + 2) (encZ x) = prC acs (ps.set j { ps[j] with L := x })
  | [], [], _, _, h, _ => absurd h (Nat.not_lt_zero _)
  | [], _ :: _, h, _, _, _ => by simp at h
  | _ :: _, [], h, _, _, _ => by simp at h
  | a :: acs, q :: ps, _, 0, _, v => rfl
  | a :: acs, q :: ps, hl, j + 1, h, v => by
    have h2 : j < ps.length := by simpa using h
    have ih := prC_set2 (acs := acs) (ps := ps) (by simpa using hl) h2 v
    rw [List.set_cons_succ, show (j + 1) * 4 + 2 = j * 4 + 2 + 1 + 1 + 1 + 1 by omega]
    show setMany (_ :: _ :: _ :: _ :: prC acs ps) _ _ = _ :: _ :: _ :: _ :: prC acs (ps.set j _)
    rw [setMany_cons, setMany_cons, setMany_cons, setMany_cons, ih]; rfl
theorem prB_onL (f : Lev → Lev) (acs : List (Option Addr × Nat)) (i : Nat) (ps : List Prd) : prB acs (mtL (onL f) i ps) = prB acs ps := by
  have : (mtL (onL f) i ps).map (·.Right) = ps.map (·.Right) := by
    unfold mtL
    rw [List.map_append, List.map_map, show ((fun p : Prd => p.Right) ∘ onL f) = (fun p : Prd => p.Right) from rfl, ← List.map_append, List.take_append_drop]
  unfold prB
  rw [this]

/-! ### what comes of other levels -/
theorem levG_num {f : Lev → Lev} {g : Gram} (h : GrN g) (hl : ∀ l ∈ g.Levels, I64 (f l).N ∧ I64 (f l).Kind) (hp : ∀ p ∈ g.Prods, I64 (f p.L).N ∧ I64 (f p.L).Kind) : GrN (levG f g) := by
  refine ⟨fun p hpm => ?_, fun l hlm => ?_, h.t, h.nT, by unfold levG; simp; exact h.nL, h.nP, h.nN, by unfold levG; simp; exact h.nR⟩
  · unfold levG at hpm
    obtain ⟨q, hq, rfl⟩ := List.mem_map.1 hpm
    have := h.p q hq
    exact ⟨this.1, (hp q hq).1, (hp q hq).2, this.2.2.2.1, this.2.2.2.2⟩
  · unfold levG at hlm
    obtain ⟨q, hq, rfl⟩ := List.mem_map.1 hlm
    exact hl q hq
theorem more_p {g : Gram} (H : Sim g (moreG g) id id) (hl : ∀ t, 0 ≤ (lvl g t).N) (hp : ∀ k, 0 ≤ (prd g k).L.N) :
    actE (moreG g) = actE g ∧ pAct (moreG g) = pAct g ∧ pGot (moreG g) = pGot g ∧ pCla (moreG g) = pCla g ∧ pDec (moreG g) = pDec g := by
  obtain ⟨hE, h2⟩ := more_same H hl hp
  have hr := H.ere
  by_cases h0 : lrE g = 0
  · obtain ⟨e1, e2, e3, e4⟩ := h2 h0
    unfold pDec pCla pAct pGot
    rw [hE, hr, e1, e2, e3, e4]
    exact ⟨rfl, rfl, rfl, rfl, rfl⟩
  · have hg : actE g ≠ 0 := by unfold actE; rw [if_pos h0]; exact h0
    unfold pDec pCla pAct pGot
    rw [hE, hr, if_neg hg, if_neg h0, if_neg hg, if_neg hg, if_neg h0, if_neg hg, if_neg hg, if_neg hg]
    exact ⟨rfl, rfl, rfl, rfl, rfl⟩
theorem none_p {g : Gram} (H : Sim g (noneG g) id id) :
    (actE g ≠ 0 → actE (noneG g) = actE g ∧ (pCla g).length ≤ (pCla (noneG g)).length) ∧
    (actE g = 0 → (decN g = 0 → actE (noneG g) = 0 ∧ pAct (noneG g) = pAct g ∧ pGot (noneG g) = pGot g ∧ pCla (noneG g) = pCla g ∧ pDec (noneG g) = pDec g) ∧ (decN g ≠ 0 → actE (noneG g) = 210 ∧ (pCla (noneG g)).length = decN g)) := by
  have hr := H.ere
  by_cases h0 : lrE g = 0
  · have h0n : lrE (noneG g) = 0 := by rw [hr]; exact h0
    obtain ⟨hk, hd, hle, h2⟩ := none_same H h0
    have hpc : pCla g = claA g := by unfold pCla; rw [if_pos h0]
    have hpn : pCla (noneG g) = claA (noneG g) := by unfold pCla; rw [if_pos h0n]
    refine ⟨fun hE => ?_, fun hE => ⟨fun hz => ?_, fun hz => ?_⟩⟩
    · have hc : claA g ≠ [] := fun hc => hE (by unfold actE; rw [if_neg (by rw [h0]; simp), if_neg (by rw [hc]; simp)])
      have hcn : claA (noneG g) ≠ [] := fun e => by
        rw [e] at hle
        exact hc (List.eq_nil_of_length_eq_zero (by simpa using hle))
      have e1 : actE g = 210 := by unfold actE; rw [if_neg (by rw [h0]; simp), if_pos hc]
      have e2 : actE (noneG g) = 210 := by unfold actE; rw [if_neg (by rw [h0n]; simp), if_pos hcn]
      rw [e1, e2, hpc, hpn]
      exact ⟨rfl, hle⟩
    · have hc : claA g = [] := Classical.byContradiction fun hc => by
        have : actE g = 210 := by unfold actE; rw [if_neg (by rw [h0]; simp), if_pos hc]
        rw [this] at hE; cases hE
      obtain ⟨h3, h4⟩ := h2 hc
      obtain ⟨h5, h6⟩ := h4 hz
      have hcn : claA (noneG g) = [] := List.eq_nil_of_length_eq_zero (by rw [h3, hz])
      have e2 : actE (noneG g) = 0 := by unfold actE; rw [if_neg (by rw [h0n]; simp), if_neg (by rw [hcn]; simp)]
      rw [hpc, hpn, hc, hcn]
      unfold pAct pGot pDec
      rw [hE, e2, h5, h6, hd, hz]
      exact ⟨rfl, rfl, rfl, rfl, rfl⟩
    · have hc : claA g = [] := Classical.byContradiction fun hc => by
        have : actE g = 210 := by unfold actE; rw [if_neg (by rw [h0]; simp), if_pos hc]
        rw [this] at hE; cases hE
      obtain ⟨h3, _⟩ := h2 hc
      have hcn : claA (noneG g) ≠ [] := fun e => by rw [e] at h3; exact hz h3.symm
      have e2 : actE (noneG g) = 210 := by unfold actE; rw [if_neg (by rw [h0n]; simp), if_pos hcn]
      rw [hpn]
      exact ⟨e2, h3⟩
  · have e1 : actE g = lrE g := by unfold actE; rw [if_pos h0]
    have e2 : actE (noneG g) = lrE g := by unfold actE; rw [if_pos (by rw [hr]; exact h0), hr]
    refine ⟨fun _ => ?_, fun hE => absurd (by rw [← e1]; exact hE) h0⟩
    unfold pCla
    rw [e1, e2, if_neg h0, if_neg (by rw [hr]; exact h0)]
    exact ⟨rfl, Nat.le_refl _⟩

theorem mb_rng {n k : Int} (h : mayBind n k = true) : 0 ≤ n ∧ n ≤ 128 ∧ 0 ≤ k ∧ k ≤ 3 := by
  unfold mayBind at h
  simp only [Bool.and_eq_true, decide_eq_true_eq] at h
  omega
theorem mb_dbl {x : Lev} (h : mayBind x.N x.Kind = true) (h6 : x.N ≤ 60) : mayBind (dblL x).N (dblL x).Kind = true := by
  have h1 := mb_rng h
  unfold mayBind at h ⊢
  unfold dblL
  simp only [Bool.and_eq_true, decide_eq_true_eq, beq_iff_eq] at h ⊢
  have e : ((2 * x.N == 0) : Bool) = (x.N == 0) := by
    rw [Bool.eq_iff_iff, beq_iff_eq, beq_iff_eq]; omega
  rw [e]
  exact ⟨h.1, h.2.1, by omega, by omega, h.2.2.2.2⟩
theorem gSl_lev {f : Lev → Lev} {g : Gram} {a0 a1 a2 a3 a4 : Option Addr} {d0 d1 d2 d3 d4 : Nat} : gSl (levG f g) a0 a1 a2 a3 a4 d0 d1 d2 d3 d4 = gSl g a0 a1 a2 a3 a4 d0 d1 d2 d3 d4 := by
  unfold gSl levG; simp only [List.length_map]
structure OwnW where
  a0 : Option Addr
  a1 : Option Addr
  a2 : Option Addr
  a3 : Option Addr
  a4 : Option Addr
  d0 : Nat
  d1 : Nat
  d2 : Nat
  d3 : Nat
  d4 : Nat
  cs : List (Option Addr × Nat)
abbrev gSw (g : Gram) (x : OwnW) : List Value := gSl g x.a0 x.a1 x.a2 x.a3 x.a4 x.d0 x.d1 x.d2 x.d3 x.d4
def ownL (g : Gram) (x : OwnW) : List Asn := [prS x.a4 x.d4 x.cs g.Prods, ogT x.a0 x.d0 g.Terms, ogL x.a1 x.d1 g.Levels, ogP x.a2 x.d2 g.Pats, ogT x.a3 x.d3 g.Nons, prB x.cs g.Prods]

attribute [local irreducible] EVX EVO EVL EV1 NEV
attribute [local irreducible] own osl exA rdA rdL
attribute [local irreducible] bldA mapA bun mapS
set_option maxRecDepth 10000
set_option maxHeartbeats 4000000

theorem actionBinds_w (cs : List Value) (g : Gram) : Trip Tryd.prog 5 [.agg cs.toArray] (kGram.rd cs g) [] (fun v V => v = .bool true ∧ V = []) := by
  refine trip Tryd.tabOk Tryd.func5 rfl rfl rfl rfl ?_
  rintro w SM hG0
  obtain ⟨A0, A1, A2, A3, A4, c0, c1, c2, c3, c4, rfl, hG⟩ := kGram_open hG0
  repeat' (first | refine e_nil ?_ | ((refine e_op ?_); (first | refine o_n (peval_sound rfl) rfl ?_ | refine o_box rfl rfl (fun _ => ?_))) | refine s_seq ?_ | refine s_region ?_)
  rename_i bg
  refine e_op (o_call works21_w rfl .nil Can.tt rfl ?_)
  rintro v V ⟨rfl, rfl⟩
  simp only [List.nil_append]
  repeat' (first | refine e_nil ?_ | ((refine e_op ?_); (first | refine o_n (peval_sound rfl) rfl ?_ | refine o_n (nl rfl rfl tc rfl) rfl ?_)) | refine s_seq ?_ | refine s_region ?_ | refine s_skip ?_ | refine s_false rfl ?_)
  refine e_op (o_call (check_w _ g) rfl .nil (Can.ro hG0) rfl ?_)
  rintro v V ⟨rfl, rfl⟩
  simp only [List.nil_append]
  repeat' (((refine e_op ?_); (refine o_n (peval_sound rfl) rfl ?_)))
  by_cases he : checkE g ≠ 0
  · rw [show (checkE g != 0) = true by simpa using he]
    repeat' (first | refine e_nil ?_ | ((refine e_op ?_); (refine o_n (peval_sound rfl) rfl ?_)) | refine e_noU rfl rfl rfl ?_ | refine s_seq ?_ | refine s_region ?_ | refine s_true rfl ?_)
    refine s_ret ⟨_, _, res1 rfl rfl, ⟨rfl, rfl⟩, Ent.nil _⟩
  replace he : checkE g = 0 := Classical.not_not.1 he
  rw [show (checkE g != 0) = false by simpa using he]
  repeat' (((refine e_yes rfl ?_); (refine o_n (nl rfl rfl tc rfl) rfl ?_)))
  refine e_yes rfl (o_call (few21_w _ g) rfl .nil (Can.ro hG0) rfl ?_)
  rintro v V ⟨rfl, rfl⟩
  simp only [List.nil_append]
  repeat' (first | refine e_nil ?_ | ((first | refine e_op ?_ | refine e_yes rfl ?_); (refine o_n (peval_sound rfl) rfl ?_)))
  by_cases hfew : ¬ (g.Prods.length : Int) ≤ 30
  · rw [decide_eq_false hfew]
    repeat' (first | refine e_nil ?_ | ((refine e_op ?_); (refine o_n (peval_sound rfl) rfl ?_)) | refine s_seq ?_ | refine s_region ?_ | refine s_true rfl ?_)
    refine s_ret ⟨_, _, res1 rfl rfl, ⟨rfl, rfl⟩, Ent.nil _⟩
  replace hfew := Classical.not_not.1 hfew
  rw [decide_eq_true hfew]
  repeat' (first | refine s_seq ?_ | refine s_skip ?_ | refine s_false rfl ?_)
  refine s_anyU Tryd.mixed ?_
  refine a_join (ι := {y : Nat × Nat × OwnW × OwnW // y.2.2.1.cs.length = g.Prods.length ∧ y.2.2.2.cs.length = g.Prods.length}) (fun y => [(1, ptrN bg), (3, ptrN y.1.1), (4, ptrN y.1.2.1)])
    (fun y => blk y.1.1 27 (gSw g y.1.2.2.1) :: blk y.1.2.1 27 (gSw g y.1.2.2.2) :: blk bg 27 [.slice A0 g.Terms.length c0, .slice A1 g.Levels.length c1, .slice A2 g.Pats.length c2, .slice A3 g.Nons.length c3, .slice A4 g.Prods.length c4] :: (ownL g y.1.2.2.1 ++ ownL g y.1.2.2.2)) ?_ (fun hfin => ?_)
  · rintro ⟨⟨b3, b4, ⟨p0, p1, p2, p3, p4, pd0, pd1, pd2, pd3, pd4, pcs⟩, ⟨q0, q1, q2, q3, q4, qd0, qd1, qd2, qd3, qd4, qcs⟩⟩, phl, qhl⟩
    simp only at phl qhl ⊢
    unfold ownL
    simp only [List.cons_append, List.nil_append]
    have hN := gr_num hG he
    obtain ⟨hlm, hwf⟩ := checkE_ok he
    have hL := lims hlm
    have hlev := hwf.lev
    have hT := hL.t
    repeat' (first | refine e_nil ?_ | ((refine e_op ?_); (refine o_n (peval_sound rfl) rfl ?_)) | refine s_seq ?_ | refine s_region ?_ | refine s_block ?_)
    refine s_loopK (ι := {i : Nat // i ≤ g.Levels.length ∧ ∀ x ∈ g.Levels.take i, x.N ≤ 60}) [1, 3, 4] rfl ⟨0, by simp⟩ (fun i => [(5, .int .i64 i.1)]) (fun i => [ogL p1 pd1 (mtL dblL i.1 g.Levels), ogL q1 qd1 (mtL nilL i.1 g.Levels), prS p4 pd4 pcs g.Prods, prB pcs g.Prods, ogT p0 pd0 g.Terms, ogP p2 pd2 g.Pats, ogT p3 pd3 g.Nons, prS q4 qd4 qcs g.Prods, prB qcs g.Prods, ogT q0 qd0 g.Terms, ogP q2 qd2 g.Pats, ogT q3 qd3 g.Nons, blk b3 27 (gSl g p0 p1 p2 p3 p4 pd0 pd1 pd2 pd3 pd4), blk b4 27 (gSl g q0 q1 q2 q3 q4 qd0 qd1 qd2 qd3 qd4), blk bg 27 [.slice A0 g.Terms.length c0, .slice A1 g.Levels.length c1, .slice A2 g.Pats.length c2, .slice A3 g.Nons.length c3, .slice A4 g.Prods.length c4]]) (fun i => g.Levels.length - i.1) ?_ ?_ ?_
    · repeat' (first | exact Sub.nil _ | refine Sub.cons rfl ?_)
    · simp only [mtL_zero]
      repeat' (first | exact Ent.nil _ | refine Ent.tak tk ?_)
    rintro ⟨i, hi, h6⟩
    simp only at hi h6 ⊢
    repeat' (first | refine e_nil ?_ | ((refine e_op ?_); (first | refine o_n (peval_sound rfl) rfl ?_ | refine o_n (nl rfl rfl tc rfl) rfl ?_)) | refine s_seq ?_ | refine s_region ?_)
    by_cases hlt : i < g.Levels.length
    · rw [decide_eq_true (p := (i : Int) < (g.Levels.length : Int)) (by omega)]
      obtain ⟨bl, ol, el, rfl, hbl, hel, hcl⟩ := hG.levels.2.2 i hlt
      obtain ⟨rfl, hlN, hlK⟩ := kLev_open hel
      have hmb := mb_rng (hwf.bind _ (List.getElem_mem hlt))
      have hw2 : IntKind.i64.wrap (2 * g.Levels[i].N) = 2 * g.Levels[i].N := by rw [wrap_i64] <;> omega
      repeat' (first | ((refine e_op ?_); (first | refine o_n (peval_sound rfl) rfl ?_ | refine o_n (nl rfl rfl tc rfl) rfl ?_)) | refine s_seq ?_ | refine s_region ?_ | refine s_block ?_ | refine s_skip ?_ | refine s_true rfl ?_)
      refine e_op (o_n (n_index rfl rfl rfl rfl i rfl hlt) rfl ?_)
      repeat' (((refine e_op ?_); (refine o_n (peval_sound rfl) rfl ?_)))
      refine e_op (o_n (n_load_ro rfl rfl hbl (loads_one rfl (hcl 0 _ rfl))) rfl ?_)
      repeat' (first | refine e_nil ?_ | ((refine e_op ?_); (refine o_n (peval_sound rfl) rfl ?_)))
      by_cases h60 : g.Levels[i].N > 60
      · rw [decide_eq_true h60]
        repeat' (first | refine e_nil ?_ | ((refine e_op ?_); (refine o_n (peval_sound rfl) rfl ?_)) | refine s_seq ?_ | refine s_region ?_ | refine s_true rfl ?_)
        refine s_ret ⟨_, _, res1 rfl rfl, ⟨rfl, rfl⟩, Ent.nil _⟩
      rw [decide_eq_false h60]
      repeat' (first | refine s_seq ?_ | refine s_skip ?_ | refine s_false rfl ?_)
      refine s_open (TakA.tak (A := ogL p1 pd1 (mtL dblL i g.Levels))) (by rw [mtL_len]; omega) ?_
      rintro bp rfl
      refine s_open (TakA.tak (A := ogL q1 qd1 (mtL nilL i g.Levels))) (by rw [mtL_len]; omega) ?_
      rintro bq rfl
      refine s_P Tryd.mixed (by decide +kernel) ?_
      refine p_barU 12 ?_
      refine q_n 0 rfl (peval_sound rfl) (by decide +kernel) (by decide +kernel) (Ent.refl _) rfl ?_
      refine q_n 1 rfl (nl rfl rfl tc rfl) (by decide +kernel) (by decide +kernel) (Ent.refl _) rfl ?_
      refine q_n 2 rfl (peval_sound rfl) (by decide +kernel) (by decide +kernel) (Ent.refl _) rfl ?_
      refine q_n 3 rfl (peval_sound rfl) (by decide +kernel) (by decide +kernel) (Ent.refl _) rfl ?_
      refine q_n 4 rfl (nl rfl rfl tc rfl) (by decide +kernel) (by decide +kernel) (Ent.refl _) rfl ?_
      refine q_n 5 rfl (peval_sound rfl) (by decide +kernel) (by decide +kernel) (Ent.refl _) rfl ?_
      refine q_n 6 rfl (n_index rfl rfl rfl rfl i rfl hlt) (by decide +kernel) (by decide +kernel) (Ent.refl _) rfl ?_
      refine q_n 7 rfl (peval_sound rfl) (by decide +kernel) (by decide +kernel) (Ent.refl _) rfl ?_
      refine q_n 8 rfl (n_load_ro rfl rfl hbl (loads_one rfl (hcl 0 _ rfl))) (by decide +kernel) (by decide +kernel) (Ent.refl _) rfl ?_
      refine q_n 9 rfl (peval_sound rfl) (by decide +kernel) (by decide +kernel) (Ent.refl _) rfl ?_
      rw [hw2]
      refine q_n 10 rfl (n_index rfl rfl rfl rfl i rfl hlt) (by decide +kernel) (by decide +kernel) (Ent.refl _) rfl ?_
      refine q_n 11 rfl (peval_sound rfl) (by decide +kernel) (by decide +kernel) (Ent.refl _) rfl ?_
      refine q_z 12 (by decide +kernel) rfl rfl (o_storeO (vs := [.int .i64 (2 * g.Levels[i].N)]) rfl rfl rfl rfl to uc rfl rfl (by rw [encZ_len, mtL_len]; simp only; omega) ?_)
      refine p_done (by decide +kernel) ?_
      repeat' (first | ((refine e_op ?_); (first | refine o_n (peval_sound rfl) rfl ?_ | refine o_n (nl rfl rfl tc rfl) rfl ?_)) | refine s_region ?_)
      refine e_op (o_n (n_index rfl rfl rfl rfl i rfl hlt) rfl ?_)
      refine e_op (o_storeO (vs := encZ ⟨0, 0⟩) rfl rfl rfl rfl to uc rfl rfl (by rw [encZ_len, mtL_len]; simp only; omega) ?_)
      repeat' (first | refine e_nil ?_ | ((refine e_op ?_); (refine o_n (peval_sound rfl) rfl ?_)) | refine s_region ?_ | refine s_end ?_)
      refine s_back ⟨⟨i + 1, by omega, fun x hx => ?_⟩, by simp only; omega, ?_, ?_⟩
      · rw [List.take_succ_eq_append_getElem hlt] at hx
        rcases List.mem_append.1 hx with hx | hx
        · exact h6 x hx
        · rw [List.mem_singleton] at hx; subst hx; omega
      · repeat' (first | exact Sub.nil _ | refine Sub.cons rfl ?_ | refine Sub.consE rfl ?_ ?_)
        exact inc (i := i) (by omega)
      · have s1 : setMany ((mtL dblL i g.Levels).flatMap encZ) (0 + i * 2 + 0) [.int .i64 (2 * g.Levels[i].N)] = (mtL dblL (i + 1) g.Levels).flatMap encZ := by
          rw [Nat.zero_add, Nat.add_zero, encZ_setN (by rw [mtL_len]; exact hlt), mtL_get dblL hlt, ← mtL_set dblL hlt]; rfl
        have s2 : setMany ((mtL nilL i g.Levels).flatMap encZ) (0 + i * 2) (encZ ⟨0, 0⟩) = (mtL nilL (i + 1) g.Levels).flatMap encZ := by
          rw [Nat.zero_add, encZ_set2 (by rw [mtL_len]; exact hlt), ← mtL_set nilL hlt]; rfl
        simp only
        unfold ogL
        rw [s1, s2]
        simp only [mtL_len]
        repeat' (first | exact Ent.nil _ | refine Ent.tak tk ?_)
    rw [decide_eq_false (p := (i : Int) < (g.Levels.length : Int)) (by omega)]
    obtain rfl : i = g.Levels.length := by omega
    rw [List.take_length] at h6
    rw [mtL_all dblL (Nat.le_refl _), mtL_all nilL (Nat.le_refl _)]
    repeat' (first | refine e_nil ?_ | ((refine e_op ?_); (refine o_n (peval_sound rfl) rfl ?_)) | refine s_seq ?_ | refine s_region ?_ | refine s_block ?_ | refine s_exit ?_ | refine s_false rfl ?_ | refine x_hit ?_ | refine x_code ?_ | refine x_back ?_)
    refine s_loopK (ι := {i : Nat // i ≤ g.Prods.length ∧ ∀ x ∈ g.Prods.take i, x.L.N ≤ 60}) [1, 3, 4] rfl ⟨0, by simp⟩ (fun i => [(6, .int .i64 i.1)]) (fun i => [prS p4 pd4 pcs (mtL (onL dblL) i.1 g.Prods), prB pcs (mtL (onL dblL) i.1 g.Prods), prS q4 qd4 qcs (mtL (onL nilL) i.1 g.Prods), prB qcs (mtL (onL nilL) i.1 g.Prods), ogL p1 pd1 (g.Levels.map dblL), ogL q1 qd1 (g.Levels.map nilL), ogT p0 pd0 g.Terms, ogP p2 pd2 g.Pats, ogT p3 pd3 g.Nons, ogT q0 qd0 g.Terms, ogP q2 qd2 g.Pats, ogT q3 qd3 g.Nons, blk b3 27 (gSl g p0 p1 p2 p3 p4 pd0 pd1 pd2 pd3 pd4), blk b4 27 (gSl g q0 q1 q2 q3 q4 qd0 qd1 qd2 qd3 qd4), blk bg 27 [.slice A0 g.Terms.length c0, .slice A1 g.Levels.length c1, .slice A2 g.Pats.length c2, .slice A3 g.Nons.length c3, .slice A4 g.Prods.length c4]]) (fun i => g.Prods.length - i.1) ?_ ?_ ?_
    · repeat' (first | exact Sub.nil _ | refine Sub.cons rfl ?_)
    · simp only [mtL_zero]
      repeat' (first | exact Ent.nil _ | refine Ent.tak tk ?_)
    rintro ⟨i, hi, h7⟩
    simp only at hi h7 ⊢
    repeat' (first | refine e_nil ?_ | ((refine e_op ?_); (first | refine o_n (peval_sound rfl) rfl ?_ | refine o_n (nl rfl rfl tc rfl) rfl ?_)) | refine s_seq ?_ | refine s_region ?_)
    by_cases hlt : i < g.Prods.length
    · rw [decide_eq_true (p := (i : Int) < (g.Prods.length : Int)) (by omega)]
      obtain ⟨bl, ol, el, rfl, hbl, hel, hcl⟩ := hG.prods.2.2 i hlt
      obtain ⟨Ar, cr, rfl, _, hlN, hlK, _⟩ := kPrd_open hel
      have hmb : mayBind g.Prods[i].L.N g.Prods[i].L.Kind = true := by
        have h5 := hwf.prod _ hlt
        unfold prodOk at h5
        simp only [Bool.and_eq_true] at h5
        exact h5.2.2.2.1
      replace hmb := mb_rng hmb
      have hw2 : IntKind.i64.wrap (2 * g.Prods[i].L.N) = 2 * g.Prods[i].L.N := by rw [wrap_i64] <;> omega
      repeat' (first | ((refine e_op ?_); (first | refine o_n (peval_sound rfl) rfl ?_ | refine o_n (nl rfl rfl tc rfl) rfl ?_)) | refine s_seq ?_ | refine s_region ?_ | refine s_block ?_ | refine s_skip ?_ | refine s_true rfl ?_)
      refine e_op (o_n (n_index rfl rfl rfl rfl i rfl hlt) rfl ?_)
      repeat' (((refine e_op ?_); (refine o_n (peval_sound rfl) rfl ?_)))
      refine e_op (o_n (n_load_ro rfl rfl hbl (loads_one rfl (hcl 2 _ rfl))) rfl ?_)
      repeat' (first | refine e_nil ?_ | ((refine e_op ?_); (refine o_n (peval_sound rfl) rfl ?_)))
      by_cases h60 : g.Prods[i].L.N > 60
      · rw [decide_eq_true h60]
        repeat' (first | refine e_nil ?_ | ((refine e_op ?_); (refine o_n (peval_sound rfl) rfl ?_)) | refine s_seq ?_ | refine s_region ?_ | refine s_true rfl ?_)
        refine s_ret ⟨_, _, res1 rfl rfl, ⟨rfl, rfl⟩, Ent.nil _⟩
      rw [decide_eq_false h60]
      repeat' (first | refine s_seq ?_ | refine s_skip ?_ | refine s_false rfl ?_)
      refine s_open (TakA.tak (A := prS p4 pd4 pcs (mtL (onL dblL) i g.Prods))) (by rw [mtL_len]; omega) ?_
      rintro bp rfl
      refine s_open (TakA.tak (A := prS q4 qd4 qcs (mtL (onL nilL) i g.Prods))) (by rw [mtL_len]; omega) ?_
      rintro bq rfl
      have phm : pcs.length = (mtL (onL dblL) i g.Prods).length := by rw [mtL_len]; exact phl
      have qhm : qcs.length = (mtL (onL nilL) i g.Prods).length := by rw [mtL_len]; exact qhl
      refine s_P Tryd.mixed (by decide +kernel) ?_
      refine p_barU 14 ?_
      refine q_n 0 rfl (peval_sound rfl) (by decide +kernel) (by decide +kernel) (Ent.refl _) rfl ?_
      refine q_n 1 rfl (nl rfl rfl tc rfl) (by decide +kernel) (by decide +kernel) (Ent.refl _) rfl ?_
      refine q_n 2 rfl (peval_sound rfl) (by decide +kernel) (by decide +kernel) (Ent.refl _) rfl ?_
      refine q_n 3 rfl (peval_sound rfl) (by decide +kernel) (by decide +kernel) (Ent.refl _) rfl ?_
      refine q_n 4 rfl (nl rfl rfl tc rfl) (by decide +kernel) (by decide +kernel) (Ent.refl _) rfl ?_
      refine q_n 5 rfl (peval_sound rfl) (by decide +kernel) (by decide +kernel) (Ent.refl _) rfl ?_
      refine q_n 6 rfl (n_index rfl rfl rfl rfl i rfl hlt) (by decide +kernel) (by decide +kernel) (Ent.refl _) rfl ?_
      refine q_n 7 rfl (peval_sound rfl) (by decide +kernel) (by decide +kernel) (Ent.refl _) rfl ?_
      refine q_n 8 rfl (peval_sound rfl) (by decide +kernel) (by decide +kernel) (Ent.refl _) rfl ?_
      refine q_n 9 rfl (n_load_ro rfl rfl hbl (loads_one rfl (hcl 2 _ rfl))) (by decide +kernel) (by decide +kernel) (Ent.refl _) rfl ?_
      refine q_n 10 rfl (peval_sound rfl) (by decide +kernel) (by decide +kernel) (Ent.refl _) rfl ?_
      rw [hw2]
      refine q_n 11 rfl (n_index rfl rfl rfl rfl i rfl hlt) (by decide +kernel) (by decide +kernel) (Ent.refl _) rfl ?_
      refine q_n 12 rfl (peval_sound rfl) (by decide +kernel) (by decide +kernel) (Ent.refl _) rfl ?_
      refine q_n 13 rfl (peval_sound rfl) (by decide +kernel) (by decide +kernel) (Ent.refl _) rfl ?_
      refine q_z 14 (by decide +kernel) rfl rfl (o_storeO (vs := [.int .i64 (2 * g.Prods[i].L.N)]) rfl rfl rfl rfl to uc rfl rfl (by rw [prC_len phm, mtL_len]; simp only; omega) ?_)
      refine p_done (by decide +kernel) ?_
      repeat' (first | ((refine e_op ?_); (first | refine o_n (peval_sound rfl) rfl ?_ | refine o_n (nl rfl rfl tc rfl) rfl ?_)) | refine s_region ?_)
      refine e_op (o_n (n_index rfl rfl rfl rfl i rfl hlt) rfl ?_)
      repeat' (((refine e_op ?_); (refine o_n (peval_sound rfl) rfl ?_)))
      refine e_op (o_storeO (vs := encZ ⟨0, 0⟩) rfl rfl rfl rfl to uc rfl rfl (by rw [prC_len qhm, mtL_len]; simp only; omega) ?_)
      repeat' (first | refine e_nil ?_ | ((refine e_op ?_); (refine o_n (peval_sound rfl) rfl ?_)) | refine s_region ?_ | refine s_end ?_)
      refine s_back ⟨⟨i + 1, by omega, fun x hx => ?_⟩, by simp only; omega, ?_, ?_⟩
      · rw [List.take_succ_eq_append_getElem hlt] at hx
        rcases List.mem_append.1 hx with hx | hx
        · exact h7 x hx
        · rw [List.mem_singleton] at hx; subst hx; omega
      · repeat' (first | exact Sub.nil _ | refine Sub.cons rfl ?_ | refine Sub.consE rfl ?_ ?_)
        exact inc (i := i) (by omega)
      · have s1 : setMany (prC pcs (mtL (onL dblL) i g.Prods)) (0 + i * 4 + 2 + 0) [.int .i64 (2 * g.Prods[i].L.N)] = prC pcs (mtL (onL dblL) (i + 1) g.Prods) := by
          rw [Nat.zero_add, Nat.add_zero, prC_setN phm (by rw [mtL_len]; exact hlt), mtL_get (onL dblL) hlt, ← mtL_set (onL dblL) hlt]; rfl
        have s2 : setMany (prC qcs (mtL (onL nilL) i g.Prods)) (0 + i * 4 + 2) (encZ ⟨0, 0⟩) = prC qcs (mtL (onL nilL) (i + 1) g.Prods) := by
          rw [Nat.zero_add, prC_set2 qhm (by rw [mtL_len]; exact hlt), mtL_get (onL nilL) hlt, ← mtL_set (onL nilL) hlt]; rfl
        simp only
        unfold prS
        rw [s1, s2, prB_onL, prB_onL, prB_onL, prB_onL]
        simp only [mtL_len]
        repeat' (first | exact Ent.nil _ | refine Ent.tak tk ?_)
    rw [decide_eq_false (p := (i : Int) < (g.Prods.length : Int)) (by omega)]
    obtain rfl : i = g.Prods.length := by omega
    rw [List.take_length] at h7
    rw [mtL_all (onL dblL) (Nat.le_refl _), mtL_all (onL nilL) (Nat.le_refl _)]
    have hm : Sim g (moreG g) id id := levG_sim rfl he (fun x hx => mb_dbl (hwf.bind x hx) (h6 x hx)) (fun p hp => by
      obtain ⟨k, hk, rfl⟩ := List.getElem_of_mem hp
      have h5 := hwf.prod _ hk
      unfold prodOk at h5
      simp only [Bool.and_eq_true] at h5
      exact mb_dbl h5.2.2.2.1 (h7 _ hp))
    have hn : Sim g (noneG g) id id := levG_sim rfl he (fun x hx => rfl) (fun p hp => rfl)
    have hl0 : ∀ t, 0 ≤ (lvl g t).N := fun t => by
      unfold lvl
      rw [List.getD_eq_getElem?_getD]
      by_cases ht : t < g.Levels.length
      · rw [List.getElem?_eq_getElem ht]; exact (mb_rng (hwf.bind _ (List.getElem_mem ht))).1
      · rw [List.getElem?_eq_none (by omega)]; exact Int.le_refl 0
    have hp0 : ∀ k, 0 ≤ (prd g k).L.N := fun k => by
      unfold prd
      rw [List.getD_eq_getElem?_getD]
      by_cases hk : k.toNat < g.Prods.length
      · rw [List.getElem?_eq_getElem hk]
        have h5 := hwf.prod _ hk
        unfold prodOk at h5
        simp only [Bool.and_eq_true] at h5
        exact (mb_rng h5.2.2.2.1).1
      · rw [List.getElem?_eq_none (by omega)]; exact Int.le_refl 0
    obtain ⟨mE, mA, mG, mC, mD⟩ := more_p hm hl0 hp0
    obtain ⟨n1, n2⟩ := none_p hn
    have hNm : GrN (moreG g) := levG_num hN (fun l hl => by
      have := mb_rng (hwf.bind l hl)
      unfold dblL I64; simp only; omega) (fun p hp => by
      obtain ⟨k, hk, rfl⟩ := List.getElem_of_mem hp
      have h5 := hwf.prod _ hk
      unfold prodOk at h5
      simp only [Bool.and_eq_true] at h5
      have := mb_rng h5.2.2.2.1
      unfold dblL I64; simp only; omega)
    have hNn : GrN (noneG g) := levG_num hN (fun l hl => by unfold nilL I64; simp only; omega) (fun p hp => by unfold nilL I64; simp only; omega)
    have hmP : (moreG g).Prods.length = g.Prods.length := by unfold moreG levG; simp
    have hnP : (noneG g).Prods.length = g.Prods.length := by unfold noneG levG; simp
    repeat' (first | ((refine e_op ?_); (refine o_n (nl rfl rfl tc rfl) rfl ?_)) | refine s_seq ?_ | refine s_region ?_ | refine s_exit ?_ | refine s_false rfl ?_ | refine x_hit ?_ | refine x_code ?_ | refine x_back ?_)
    refine e_op (o_call (actOf_w _ g (fun _ => by omega)) rfl .nil (Can.ro hG0) rfl ?_)
    rintro v V ⟨x, AA, cA, acs, AG, cG, bcs, AC, cC, rfl, ⟨la, lg, rfl, rfl⟩⟩
    simp only [List.cons_append, List.nil_append]
    repeat' (first | refine e_nil ?_ | ((refine e_op ?_); (first | refine o_n (peval_sound rfl) rfl ?_ | refine o_n (nl rfl rfl tc rfl) rfl ?_ | refine o_storeC rfl rfl rfl rfl tc uc rfl rfl rfl ?_ | refine o_alloc rfl rfl (fun _ => ?_))) | refine s_seq ?_ | refine s_region ?_)
    refine e_op (o_call (actOf_w (gSl g p0 p1 p2 p3 p4 pd0 pd1 pd2 pd3 pd4) (moreG g) (fun _ => by rw [hmP]; omega)) rfl .nil ?_ rfl ?_)
    · rw [← gSl_lev (f := dblL) (a0 := p0) (a1 := p1) (d0 := pd0)]
      refine can_ownG (W := []) (acs := pcs) (by rw [hmP]; exact phl) hNm ?_
      rw [List.append_nil]
      refine Ent.trans ?_ (Ent.eq (show [prS p4 pd4 pcs (g.Prods.map (onL dblL)), ogT p0 pd0 g.Terms, ogL p1 pd1 (g.Levels.map dblL), ogP p2 pd2 g.Pats, ogT p3 pd3 g.Nons, prB pcs (g.Prods.map (onL dblL))] = _ from rfl))
      repeat' (first | exact Ent.nil _ | refine Ent.tak tk ?_)
    rintro v V ⟨x, BA, dA, ecs, BG, dG, fcs, BC, dC, rfl, ⟨lb, lh, rfl, rfl⟩⟩
    rw [mA] at lb
    rw [mG] at lh
    rw [mE, mA, mG, mC, mD]
    simp only [List.cons_append, List.nil_append]
    repeat' (first | refine e_nil ?_ | ((refine e_op ?_); (first | refine o_n (peval_sound rfl) rfl ?_ | refine o_n (nl rfl rfl tc rfl) rfl ?_ | refine o_storeC rfl rfl rfl rfl tc uc rfl rfl rfl ?_ | refine o_alloc rfl rfl (fun _ => ?_))) | refine s_seq ?_ | refine s_region ?_)
    refine e_op (o_call (actOf_w (gSl g q0 q1 q2 q3 q4 qd0 qd1 qd2 qd3 qd4) (noneG g) (fun _ => by rw [hnP]; omega)) rfl .nil ?_ rfl ?_)
    · rw [← gSl_lev (f := nilL) (a0 := q0) (a1 := q1) (d0 := qd0)]
      refine can_ownG (W := []) (acs := qcs) (by rw [hnP]; exact qhl) hNn ?_
      rw [List.append_nil]
      refine Ent.trans ?_ (Ent.eq (show [prS q4 qd4 qcs (g.Prods.map (onL nilL)), ogT q0 qd0 g.Terms, ogL q1 qd1 (g.Levels.map nilL), ogP q2 qd2 g.Pats, ogT q3 qd3 g.Nons, prB qcs (g.Prods.map (onL nilL))] = _ from rfl))
      repeat' (first | exact Ent.nil _ | refine Ent.tak tk ?_)
    rintro v V ⟨x, DA, iA, jcs, DG, iG, kcs, DC, iC, rfl, ⟨lc, li, rfl, rfl⟩⟩
    simp only [List.cons_append, List.nil_append]
    repeat' (first | refine e_nil ?_ | ((refine e_op ?_); (first | refine o_n (peval_sound rfl) rfl ?_ | refine o_storeC rfl rfl rfl rfl tc uc rfl rfl rfl ?_ | refine o_alloc rfl rfl (fun _ => ?_))) | refine s_seq ?_)
    rename_i b7 b9 b11
    refine s_anyU Tryd.mixed ?_
    refine a_n 0 rfl (peval_sound rfl) (by decide +kernel) (by (exact Ent.refl _)) rfl ?_
    refine a_n 1 rfl (peval_sound rfl) (by decide +kernel) (by (exact Ent.refl _)) rfl ?_
    refine a_n 2 rfl (peval_sound rfl) (by decide +kernel) (by (exact Ent.refl _)) rfl ?_
    simp only [bne_self_eq_false]
    refine a_n 3 rfl (peval_sound rfl) (by decide +kernel) (by (exact Ent.refl _)) rfl ?_
    refine a_ny 4 rfl rfl (nl rfl rfl tc rfl) (by decide +kernel) (by (exact Ent.refl _)) rfl ?_
    refine a_ny 6 rfl rfl (nl rfl rfl tc rfl) (by decide +kernel) (by (exact Ent.refl _)) rfl ?_
    refine a_1y 5 (by decide +kernel) rfl rfl rfl (o_call (parser21_w AA AG AC (pAct g).length (pGot g).length (pCla g).length cA cG cC (pDec g : Nat)) rfl .nil Can.tt rfl ?_)
    rintro v V ⟨rfl, rfl⟩
    refine ⟨(by (exact Ent.refl _)), ?_⟩
    simp only [List.nil_append]
    refine a_1y 7 (by decide +kernel) rfl rfl rfl (o_call (parser21_w BA BG BC (pAct g).length (pGot g).length (pCla g).length dA dG dC (pDec g : Nat)) rfl .nil Can.tt rfl ?_)
    rintro v V ⟨rfl, rfl⟩
    refine ⟨(by (exact Ent.refl _)), ?_⟩
    simp only [List.nil_append]
    refine a_1y 8 (by decide +kernel) rfl rfl rfl (o_call (same21_w [.slice AA (pAct g).length cA, .slice AG (pGot g).length cG, .slice AC (pCla g).length cC, .int .i64 (pDec g : Nat)] [.slice BA (pAct g).length dA, .slice BG (pGot g).length dG, .slice BC (pCla g).length dC, .int .i64 (pDec g : Nat)] (pAct g, pGot g, pCla g, pDec g)) rfl .nil (Can.and (can_par (W := []) la lg (pAct_n g) (by simp only [List.cons_append, List.nil_append]; repeat' (first | exact Ent.nil _ | refine Ent.tak tk ?_))) (can_par (W := []) lb lh (pAct_n g) (by simp only [List.cons_append, List.nil_append]; repeat' (first | exact Ent.nil _ | refine Ent.tak tk ?_)))) rfl ?_)
    rintro v V ⟨rfl, rfl⟩
    refine ⟨(by (exact Ent.refl _)), ?_⟩
    simp only [List.nil_append]
    refine a_ny 9 rfl rfl (peval_sound rfl) (by decide +kernel) (by (exact Ent.refl _)) rfl ?_
    refine a_n 10 rfl (peval_sound rfl) (by decide +kernel) (by (exact Ent.refl _)) rfl ?_
    refine a_done (by decide +kernel) ?_
    repeat' (first | refine e_nil ?_ | ((refine e_op ?_); (refine o_n (peval_sound rfl) rfl ?_)) | refine s_seq ?_ | refine s_region ?_ | refine s_skip ?_ | refine s_false rfl ?_)
    by_cases hE : actE g ≠ 0
    · obtain ⟨k1, k2⟩ := n1 hE
      rw [show (actE g != 0) = true by simpa using hE, k1]
      repeat' (first | ((refine e_op ?_); (refine o_n (peval_sound rfl) rfl ?_)) | refine s_seq ?_ | refine s_region ?_ | refine s_true rfl ?_)
      simp only [beq_self_eq_true]
      repeat' (first | refine e_nil ?_ | ((first | refine e_op ?_ | refine e_yes rfl ?_); (first | refine o_n (peval_sound rfl) rfl ?_ | refine o_n (nl rfl rfl tc rfl) rfl ?_)))
      rw [decide_eq_true (p := ((pCla (noneG g)).length : Int) ≥ ((pCla g).length : Int)) (by omega)]
      skip
      refine s_ret ⟨_, _, res1 rfl rfl, ⟨rfl, rfl⟩, Ent.nil _⟩
    replace hE : actE g = 0 := Classical.not_not.1 hE
    have hpd : pDec g = decN g := by unfold pDec; rw [if_pos hE]
    obtain ⟨k1, k2⟩ := n2 hE
    rw [show (actE g != 0) = false by simpa using hE]
    repeat' (first | refine s_seq ?_ | refine s_skip ?_ | refine s_false rfl ?_)
    by_cases hd0 : decN g = 0
    · obtain ⟨j1, j2, j3, j4, j5⟩ := k1 hd0
      rw [j2] at lc
      rw [j3] at li
      rw [j1, j2, j3, j4, j5]
      refine s_anyU Tryd.mixed ?_
      refine a_n 0 rfl (peval_sound rfl) (by decide +kernel) (by (exact Ent.refl _)) rfl ?_
      refine a_n 1 rfl (nl rfl rfl tc rfl) (by decide +kernel) (by (exact Ent.refl _)) rfl ?_
      refine a_n 2 rfl (peval_sound rfl) (by decide +kernel) (by (exact Ent.refl _)) rfl ?_
      rw [show (((pDec g : Nat) : Int) == 0) = true by rw [beq_iff_eq]; omega]
      refine a_n 3 rfl (peval_sound rfl) (by decide +kernel) (by (exact Ent.refl _)) rfl ?_
      refine a_ny 4 rfl rfl (peval_sound rfl) (by decide +kernel) (by (exact Ent.refl _)) rfl ?_
      refine a_ny 5 rfl rfl (peval_sound rfl) (by decide +kernel) (by (exact Ent.refl _)) rfl ?_
      refine a_n 6 rfl (peval_sound rfl) (by decide +kernel) (by (exact Ent.refl _)) rfl ?_
      refine a_n 7 rfl (peval_sound rfl) (by decide +kernel) (by (exact Ent.refl _)) rfl ?_
      refine a_ny 8 rfl rfl (nl rfl rfl tc rfl) (by decide +kernel) (by (exact Ent.refl _)) rfl ?_
      refine a_ny 10 rfl rfl (nl rfl rfl tc rfl) (by decide +kernel) (by (exact Ent.refl _)) rfl ?_
      refine a_1y 9 (by decide +kernel) rfl rfl rfl (o_call (parser21_w AA AG AC (pAct g).length (pGot g).length (pCla g).length cA cG cC (pDec g : Nat)) rfl .nil Can.tt rfl ?_)
      rintro v V ⟨rfl, rfl⟩
      refine ⟨(by (exact Ent.refl _)), ?_⟩
      simp only [List.nil_append]
      refine a_1y 11 (by decide +kernel) rfl rfl rfl (o_call (parser21_w DA DG DC (pAct g).length (pGot g).length (pCla g).length iA iG iC (pDec g : Nat)) rfl .nil Can.tt rfl ?_)
      rintro v V ⟨rfl, rfl⟩
      refine ⟨(by (exact Ent.refl _)), ?_⟩
      simp only [List.nil_append]
      refine a_1y 12 (by decide +kernel) rfl rfl rfl (o_call (same21_w [.slice AA (pAct g).length cA, .slice AG (pGot g).length cG, .slice AC (pCla g).length cC, .int .i64 (pDec g : Nat)] [.slice DA (pAct g).length iA, .slice DG (pGot g).length iG, .slice DC (pCla g).length iC, .int .i64 (pDec g : Nat)] (pAct g, pGot g, pCla g, pDec g)) rfl .nil (Can.and (can_par (W := []) la lg (pAct_n g) (by simp only [List.cons_append, List.nil_append]; repeat' (first | exact Ent.nil _ | refine Ent.tak tk ?_))) (can_par (W := []) lc li (pAct_n g) (by simp only [List.cons_append, List.nil_append]; repeat' (first | exact Ent.nil _ | refine Ent.tak tk ?_)))) rfl ?_)
      rintro v V ⟨rfl, rfl⟩
      refine ⟨(by (exact Ent.refl _)), ?_⟩
      simp only [List.nil_append]
      refine a_n 13 rfl (peval_sound rfl) (by decide +kernel) (by (exact Ent.refl _)) rfl ?_
      refine a_n 14 rfl (peval_sound rfl) (by decide +kernel) (by (exact Ent.refl _)) rfl ?_
      refine a_no 15 rfl rfl rfl (by decide +kernel) (by (exact Ent.refl _)) rfl ?_
      refine a_no 16 rfl rfl rfl (by decide +kernel) (by (exact Ent.refl _)) rfl ?_
      refine a_no 17 rfl rfl rfl (by decide +kernel) (by (exact Ent.refl _)) rfl ?_
      refine a_no 18 rfl rfl rfl (by decide +kernel) (by (exact Ent.refl _)) rfl ?_
      refine a_noN 19 rfl rfl (by decide +kernel) (by (exact Ent.refl _)) rfl ?_
      refine a_noN 20 rfl rfl (by decide +kernel) (by (exact Ent.refl _)) rfl ?_
      refine a_no 21 rfl rfl rfl (by decide +kernel) (by (exact Ent.refl _)) rfl ?_
      refine a_no 22 rfl rfl rfl (by decide +kernel) (by (exact Ent.refl _)) rfl ?_
      refine a_noN 23 rfl rfl (by decide +kernel) (by (exact Ent.refl _)) rfl ?_
      refine a_noN 24 rfl rfl (by decide +kernel) (by (exact Ent.refl _)) rfl ?_
      refine a_noN 25 rfl rfl (by decide +kernel) (by (exact Ent.refl _)) rfl ?_
      refine a_noN 26 rfl rfl (by decide +kernel) (by (exact Ent.refl _)) rfl ?_
      refine a_noN 27 rfl rfl (by decide +kernel) (by (exact Ent.refl _)) rfl ?_
      refine a_noN 28 rfl rfl (by decide +kernel) (by (exact Ent.refl _)) rfl ?_
      refine a_no 29 rfl rfl rfl (by decide +kernel) (by (exact Ent.refl _)) rfl ?_
      refine a_n 30 rfl (peval_sound rfl) (by decide +kernel) (by (exact Ent.refl _)) rfl ?_
      refine a_n 31 rfl (peval_sound rfl) (by decide +kernel) (by (exact Ent.refl _)) rfl ?_
      refine a_done (by decide +kernel) ?_
      skip
      refine s_ret ⟨_, _, res1 rfl rfl, ⟨rfl, rfl⟩, Ent.nil _⟩
    · obtain ⟨j1, j2⟩ := k2 hd0
      refine s_anyU Tryd.mixed ?_
      refine a_n 0 rfl (peval_sound rfl) (by decide +kernel) (by (exact Ent.refl _)) rfl ?_
      refine a_n 1 rfl (nl rfl rfl tc rfl) (by decide +kernel) (by (exact Ent.refl _)) rfl ?_
      refine a_n 2 rfl (peval_sound rfl) (by decide +kernel) (by (exact Ent.refl _)) rfl ?_
      rw [show (((pDec g : Nat) : Int) == 0) = false by rw [beq_eq_false_iff_ne]; omega]
      refine a_n 3 rfl (peval_sound rfl) (by decide +kernel) (by (exact Ent.refl _)) rfl ?_
      refine a_no 4 rfl rfl rfl (by decide +kernel) (by (exact Ent.refl _)) rfl ?_
      refine a_no 5 rfl rfl rfl (by decide +kernel) (by (exact Ent.refl _)) rfl ?_
      refine a_n 6 rfl (peval_sound rfl) (by decide +kernel) (by (exact Ent.refl _)) rfl ?_
      refine a_n 7 rfl (peval_sound rfl) (by decide +kernel) (by (exact Ent.refl _)) rfl ?_
      refine a_no 8 rfl rfl rfl (by decide +kernel) (by (exact Ent.refl _)) rfl ?_
      refine a_no 10 rfl rfl rfl (by decide +kernel) (by (exact Ent.refl _)) rfl ?_
      refine a_1no 9 (by decide +kernel) rfl rfl rfl (by (exact Ent.refl _)) rfl ?_
      refine a_1no 11 (by decide +kernel) rfl rfl rfl (by (exact Ent.refl _)) rfl ?_
      refine a_1no 12 (by decide +kernel) rfl rfl rfl (by (exact Ent.refl _)) rfl ?_
      refine a_n 13 rfl (peval_sound rfl) (by decide +kernel) (by (exact Ent.refl _)) rfl ?_
      refine a_n 14 rfl (peval_sound rfl) (by decide +kernel) (by (exact Ent.refl _)) rfl ?_
      refine a_ny 15 rfl rfl (peval_sound rfl) (by decide +kernel) (by (exact Ent.refl _)) rfl ?_
      refine a_ny 16 rfl rfl (nl rfl rfl tc rfl) (by decide +kernel) (by (exact Ent.refl _)) rfl ?_
      refine a_ny 17 rfl rfl (peval_sound rfl) (by decide +kernel) (by (exact Ent.refl _)) rfl ?_
      rw [decide_eq_true (p := ((pDec g : Nat) : Int) > 0) (by omega)]
      refine a_ny 18 rfl rfl (peval_sound rfl) (by decide +kernel) (by (exact Ent.refl _)) rfl ?_
      refine a_ny 19 rfl rfl (peval_sound rfl) (by decide +kernel) (by (exact Ent.refl _)) rfl ?_
      rw [j1]
      refine a_ny 20 rfl rfl (peval_sound rfl) (by decide +kernel) (by (exact Ent.refl _)) rfl ?_
      refine a_ny 21 rfl rfl (peval_sound rfl) (by decide +kernel) (by (exact Ent.refl _)) rfl ?_
      refine a_ny 22 rfl rfl (peval_sound rfl) (by decide +kernel) (by (exact Ent.refl _)) rfl ?_
      refine a_ny 23 rfl rfl (peval_sound rfl) (by decide +kernel) (by (exact Ent.refl _)) rfl ?_
      refine a_ny 24 rfl rfl (nl rfl rfl tc rfl) (by decide +kernel) (by (exact Ent.refl _)) rfl ?_
      refine a_ny 25 rfl rfl (peval_sound rfl) (by decide +kernel) (by (exact Ent.refl _)) rfl ?_
      refine a_ny 26 rfl rfl (peval_sound rfl) (by decide +kernel) (by (exact Ent.refl _)) rfl ?_
      refine a_ny 27 rfl rfl (nl rfl rfl tc rfl) (by decide +kernel) (by (exact Ent.refl _)) rfl ?_
      refine a_ny 28 rfl rfl (peval_sound rfl) (by decide +kernel) (by (exact Ent.refl _)) rfl ?_
      rw [j2, hpd]
      simp only [beq_self_eq_true]
      refine a_ny 29 rfl rfl (peval_sound rfl) (by decide +kernel) (by (exact Ent.refl _)) rfl ?_
      refine a_n 30 rfl (peval_sound rfl) (by decide +kernel) (by (exact Ent.refl _)) rfl ?_
      refine a_n 31 rfl (peval_sound rfl) (by decide +kernel) (by (exact Ent.refl _)) rfl ?_
      refine a_done (by decide +kernel) ?_
      skip
      refine s_ret ⟨_, _, res1 rfl rfl, ⟨rfl, rfl⟩, Ent.nil _⟩
  refine a_n 0 rfl (nl rfl rfl tc rfl) (by decide +kernel) (by (exact Ent.refl _)) rfl ?_
  refine a_n 2 rfl (nl rfl rfl tc rfl) (by decide +kernel) (by (exact Ent.refl _)) rfl ?_
  refine a_3 1 4 5 (by decide +kernel) rfl rfl rfl rfl rfl rfl (o_call (copyG_w _ g) rfl .nil (Can.ro hG0) rfl ?_) (o_alloc rfl rfl (fun b3 => ⟨(by (repeat' (first | exact Ent.refl _ | refine Ent.wk ?_))), ?_⟩)) (o_alloc rfl rfl (fun b4 => ⟨(by (repeat' (first | exact Ent.refl _ | refine Ent.wk ?_))), ?_⟩))
  · rintro v V ⟨p0, p1, p2, p3, p4, pd0, pd1, pd2, pd3, pd4, pcs, phl, rfl, rfl⟩
    refine ⟨Ent.trans ent_dropL (by (exact Ent.refl _)), ?_⟩
    unfold ownG
    simp only [List.cons_append, List.nil_append]
    refine a_3 3 4 5 (by decide +kernel) rfl rfl rfl rfl rfl rfl (o_call (copyG_w _ g) rfl .nil (Can.ro hG0) rfl ?_) (o_alloc rfl rfl (fun b3 => ⟨(by (repeat' (first | exact Ent.refl _ | refine Ent.wk ?_))), ?_⟩)) (o_alloc rfl rfl (fun b4 => ⟨(by (repeat' (first | exact Ent.refl _ | refine Ent.wk ?_))), ?_⟩))
    · rintro v V ⟨q0, q1, q2, q3, q4, qd0, qd1, qd2, qd3, qd4, qcs, qhl, rfl, rfl⟩
      refine ⟨Ent.trans ent_dropL (by (repeat' (first | exact Ent.refl _ | refine Ent.wk ?_))), ?_⟩
      unfold ownG
      simp only [List.cons_append, List.nil_append]
      refine a_2 4 5 (by decide +kernel) rfl rfl rfl rfl (o_alloc rfl rfl (fun b3 => ⟨(by (repeat' (first | exact Ent.refl _ | refine Ent.wk ?_))), ?_⟩)) (o_alloc rfl rfl (fun b4 => ⟨(by (repeat' (first | exact Ent.refl _ | refine Ent.wk ?_))), ?_⟩))
      · refine a_1 5 (by decide +kernel) rfl rfl (o_alloc rfl rfl (fun b4 => ⟨(by (repeat' (first | exact Ent.refl _ | refine Ent.wk ?_))), ?_⟩))
        refine a_1 6 (by decide +kernel) rfl rfl (o_storeC rfl rfl rfl rfl tc uc rfl rfl rfl ⟨(by (repeat' (first | exact Ent.refl _ | refine Ent.wk ?_))), ?_⟩)
        refine a_1 7 (by decide +kernel) rfl rfl (o_storeC rfl rfl rfl rfl tc uc rfl rfl rfl ⟨(by (repeat' (first | exact Ent.refl _ | refine Ent.wk ?_))), ?_⟩)
        refine a_done (by decide +kernel) ?_
        refine s_weak ?_ ?_ (hfin ⟨(b3, b4, ⟨p0, p1, p2, p3, p4, pd0, pd1, pd2, pd3, pd4, pcs⟩, ⟨q0, q1, q2, q3, q4, qd0, qd1, qd2, qd3, qd4, qcs⟩), phl, qhl⟩)
        · repeat' (first | exact Sub.nil _ | refine Sub.cons rfl ?_)
        · unfold ownL
          repeat' (first | exact Ent.nil _ | refine Ent.tak tk ?_ | refine Ent.blkC tc rfl ?_)
      · refine a_1 4 (by decide +kernel) rfl rfl (o_alloc rfl rfl (fun b3 => ⟨(by (repeat' (first | exact Ent.refl _ | refine Ent.wk ?_))), ?_⟩))
        refine a_1 6 (by decide +kernel) rfl rfl (o_storeC rfl rfl rfl rfl tc uc rfl rfl rfl ⟨(by (repeat' (first | exact Ent.refl _ | refine Ent.wk ?_))), ?_⟩)
        refine a_1 7 (by decide +kernel) rfl rfl (o_storeC rfl rfl rfl rfl tc uc rfl rfl rfl ⟨(by (repeat' (first | exact Ent.refl _ | refine Ent.wk ?_))), ?_⟩)
        refine a_done (by decide +kernel) ?_
        refine s_weak ?_ ?_ (hfin ⟨(b3, b4, ⟨p0, p1, p2, p3, p4, pd0, pd1, pd2, pd3, pd4, pcs⟩, ⟨q0, q1, q2, q3, q4, qd0, qd1, qd2, qd3, qd4, qcs⟩), phl, qhl⟩)
        · repeat' (first | exact Sub.nil _ | refine Sub.cons rfl ?_)
        · unfold ownL
          repeat' (first | exact Ent.nil _ | refine Ent.tak tk ?_ | refine Ent.blkC tc rfl ?_)
    · refine a_2 3 5 (by decide +kernel) rfl rfl rfl rfl (o_call (copyG_w _ g) rfl .nil (Can.ro hG0) rfl ?_) (o_alloc rfl rfl (fun b4 => ⟨(by (repeat' (first | exact Ent.refl _ | refine Ent.wk ?_))), ?_⟩))
      · rintro v V ⟨q0, q1, q2, q3, q4, qd0, qd1, qd2, qd3, qd4, qcs, qhl, rfl, rfl⟩
        refine ⟨Ent.trans ent_dropL (by (repeat' (first | exact Ent.refl _ | refine Ent.wk ?_))), ?_⟩
        unfold ownG
        simp only [List.cons_append, List.nil_append]
        refine a_1 5 (by decide +kernel) rfl rfl (o_alloc rfl rfl (fun b4 => ⟨(by (repeat' (first | exact Ent.refl _ | refine Ent.wk ?_))), ?_⟩))
        refine a_1 6 (by decide +kernel) rfl rfl (o_storeC rfl rfl rfl rfl tc uc rfl rfl rfl ⟨(by (repeat' (first | exact Ent.refl _ | refine Ent.wk ?_))), ?_⟩)
        refine a_1 7 (by decide +kernel) rfl rfl (o_storeC rfl rfl rfl rfl tc uc rfl rfl rfl ⟨(by (repeat' (first | exact Ent.refl _ | refine Ent.wk ?_))), ?_⟩)
        refine a_done (by decide +kernel) ?_
        refine s_weak ?_ ?_ (hfin ⟨(b3, b4, ⟨p0, p1, p2, p3, p4, pd0, pd1, pd2, pd3, pd4, pcs⟩, ⟨q0, q1, q2, q3, q4, qd0, qd1, qd2, qd3, qd4, qcs⟩), phl, qhl⟩)
        · repeat' (first | exact Sub.nil _ | refine Sub.cons rfl ?_)
        · unfold ownL
          repeat' (first | exact Ent.nil _ | refine Ent.tak tk ?_ | refine Ent.blkC tc rfl ?_)
      · refine a_1 3 (by decide +kernel) rfl rfl (o_call (copyG_w _ g) rfl .nil (Can.ro hG0) rfl ?_)
        rintro v V ⟨q0, q1, q2, q3, q4, qd0, qd1, qd2, qd3, qd4, qcs, qhl, rfl, rfl⟩
        refine ⟨Ent.trans ent_dropL (by (repeat' (first | exact Ent.refl _ | refine Ent.wk ?_))), ?_⟩
        unfold ownG
        simp only [List.cons_append, List.nil_append]
        refine a_1 6 (by decide +kernel) rfl rfl (o_storeC rfl rfl rfl rfl tc uc rfl rfl rfl ⟨(by (repeat' (first | exact Ent.refl _ | refine Ent.wk ?_))), ?_⟩)
        refine a_1 7 (by decide +kernel) rfl rfl (o_storeC rfl rfl rfl rfl tc uc rfl rfl rfl ⟨(by (repeat' (first | exact Ent.refl _ | refine Ent.wk ?_))), ?_⟩)
        refine a_done (by decide +kernel) ?_
        refine s_weak ?_ ?_ (hfin ⟨(b3, b4, ⟨p0, p1, p2, p3, p4, pd0, pd1, pd2, pd3, pd4, pcs⟩, ⟨q0, q1, q2, q3, q4, qd0, qd1, qd2, qd3, qd4, qcs⟩), phl, qhl⟩)
        · repeat' (first | exact Sub.nil _ | refine Sub.cons rfl ?_)
        · unfold ownL
          repeat' (first | exact Ent.nil _ | refine Ent.tak tk ?_ | refine Ent.blkC tc rfl ?_)
    · refine a_2 3 4 (by decide +kernel) rfl rfl rfl rfl (o_call (copyG_w _ g) rfl .nil (Can.ro hG0) rfl ?_) (o_alloc rfl rfl (fun b3 => ⟨(by (repeat' (first | exact Ent.refl _ | refine Ent.wk ?_))), ?_⟩))
      · rintro v V ⟨q0, q1, q2, q3, q4, qd0, qd1, qd2, qd3, qd4, qcs, qhl, rfl, rfl⟩
        refine ⟨Ent.trans ent_dropL (by (repeat' (first | exact Ent.refl _ | refine Ent.wk ?_))), ?_⟩
        unfold ownG
        simp only [List.cons_append, List.nil_append]
        refine a_1 4 (by decide +kernel) rfl rfl (o_alloc rfl rfl (fun b3 => ⟨(by (repeat' (first | exact Ent.refl _ | refine Ent.wk ?_))), ?_⟩))
        refine a_1 6 (by decide +kernel) rfl rfl (o_storeC rfl rfl rfl rfl tc uc rfl rfl rfl ⟨(by (repeat' (first | exact Ent.refl _ | refine Ent.wk ?_))), ?_⟩)
        refine a_1 7 (by decide +kernel) rfl rfl (o_storeC rfl rfl rfl rfl tc uc rfl rfl rfl ⟨(by (repeat' (first | exact Ent.refl _ | refine Ent.wk ?_))), ?_⟩)
        refine a_done (by decide +kernel) ?_
        refine s_weak ?_ ?_ (hfin ⟨(b3, b4, ⟨p0, p1, p2, p3, p4, pd0, pd1, pd2, pd3, pd4, pcs⟩, ⟨q0, q1, q2, q3, q4, qd0, qd1, qd2, qd3, qd4, qcs⟩), phl, qhl⟩)
        · repeat' (first | exact Sub.nil _ | refine Sub.cons rfl ?_)
        · unfold ownL
          repeat' (first | exact Ent.nil _ | refine Ent.tak tk ?_ | refine Ent.blkC tc rfl ?_)
      · refine a_1 3 (by decide +kernel) rfl rfl (o_call (copyG_w _ g) rfl .nil (Can.ro hG0) rfl ?_)
        rintro v V ⟨q0, q1, q2, q3, q4, qd0, qd1, qd2, qd3, qd4, qcs, qhl, rfl, rfl⟩
        refine ⟨Ent.trans ent_dropL (by (repeat' (first | exact Ent.refl _ | refine Ent.wk ?_))), ?_⟩
        unfold ownG
        simp only [List.cons_append, List.nil_append]
        refine a_1 6 (by decide +kernel) rfl rfl (o_storeC rfl rfl rfl rfl tc uc rfl rfl rfl ⟨(by (repeat' (first | exact Ent.refl _ | refine Ent.wk ?_))), ?_⟩)
        refine a_1 7 (by decide +kernel) rfl rfl (o_storeC rfl rfl rfl rfl tc uc rfl rfl rfl ⟨(by (repeat' (first | exact Ent.refl _ | refine Ent.wk ?_))), ?_⟩)
        refine a_done (by decide +kernel) ?_
        refine s_weak ?_ ?_ (hfin ⟨(b3, b4, ⟨p0, p1, p2, p3, p4, pd0, pd1, pd2, pd3, pd4, pcs⟩, ⟨q0, q1, q2, q3, q4, qd0, qd1, qd2, qd3, qd4, qcs⟩), phl, qhl⟩)
        · repeat' (first | exact Sub.nil _ | refine Sub.cons rfl ?_)
        · unfold ownL
          repeat' (first | exact Ent.nil _ | refine Ent.tak tk ?_ | refine Ent.blkC tc rfl ?_)
  · refine a_2 1 5 (by decide +kernel) rfl rfl rfl rfl (o_call (copyG_w _ g) rfl .nil (Can.ro hG0) rfl ?_) (o_alloc rfl rfl (fun b4 => ⟨(by (repeat' (first | exact Ent.refl _ | refine Ent.wk ?_))), ?_⟩))
    · rintro v V ⟨p0, p1, p2, p3, p4, pd0, pd1, pd2, pd3, pd4, pcs, phl, rfl, rfl⟩
      refine ⟨Ent.trans ent_dropL (by (repeat' (first | exact Ent.refl _ | refine Ent.wk ?_))), ?_⟩
      unfold ownG
      simp only [List.cons_append, List.nil_append]
      refine a_2 3 5 (by decide +kernel) rfl rfl rfl rfl (o_call (copyG_w _ g) rfl .nil (Can.ro hG0) rfl ?_) (o_alloc rfl rfl (fun b4 => ⟨(by (repeat' (first | exact Ent.refl _ | refine Ent.wk ?_))), ?_⟩))
      · rintro v V ⟨q0, q1, q2, q3, q4, qd0, qd1, qd2, qd3, qd4, qcs, qhl, rfl, rfl⟩
        refine ⟨Ent.trans ent_dropL (by (repeat' (first | exact Ent.refl _ | refine Ent.wk ?_))), ?_⟩
        unfold ownG
        simp only [List.cons_append, List.nil_append]
        refine a_1 5 (by decide +kernel) rfl rfl (o_alloc rfl rfl (fun b4 => ⟨(by (repeat' (first | exact Ent.refl _ | refine Ent.wk ?_))), ?_⟩))
        refine a_1 6 (by decide +kernel) rfl rfl (o_storeC rfl rfl rfl rfl tc uc rfl rfl rfl ⟨(by (repeat' (first | exact Ent.refl _ | refine Ent.wk ?_))), ?_⟩)
        refine a_1 7 (by decide +kernel) rfl rfl (o_storeC rfl rfl rfl rfl tc uc rfl rfl rfl ⟨(by (repeat' (first | exact Ent.refl _ | refine Ent.wk ?_))), ?_⟩)
        refine a_done (by decide +kernel) ?_
        refine s_weak ?_ ?_ (hfin ⟨(b3, b4, ⟨p0, p1, p2, p3, p4, pd0, pd1, pd2, pd3, pd4, pcs⟩, ⟨q0, q1, q2, q3, q4, qd0, qd1, qd2, qd3, qd4, qcs⟩), phl, qhl⟩)
        · repeat' (first | exact Sub.nil _ | refine Sub.cons rfl ?_)
        · unfold ownL
          repeat' (first | exact Ent.nil _ | refine Ent.tak tk ?_ | refine Ent.blkC tc rfl ?_)
      · refine a_1 3 (by decide +kernel) rfl rfl (o_call (copyG_w _ g) rfl .nil (Can.ro hG0) rfl ?_)
        rintro v V ⟨q0, q1, q2, q3, q4, qd0, qd1, qd2, qd3, qd4, qcs, qhl, rfl, rfl⟩
        refine ⟨Ent.trans ent_dropL (by (repeat' (first | exact Ent.refl _ | refine Ent.wk ?_))), ?_⟩
        unfold ownG
        simp only [List.cons_append, List.nil_append]
        refine a_1 6 (by decide +kernel) rfl rfl (o_storeC rfl rfl rfl rfl tc uc rfl rfl rfl ⟨(by (repeat' (first | exact Ent.refl _ | refine Ent.wk ?_))), ?_⟩)
        refine a_1 7 (by decide +kernel) rfl rfl (o_storeC rfl rfl rfl rfl tc uc rfl rfl rfl ⟨(by (repeat' (first | exact Ent.refl _ | refine Ent.wk ?_))), ?_⟩)
        refine a_done (by decide +kernel) ?_
        refine s_weak ?_ ?_ (hfin ⟨(b3, b4, ⟨p0, p1, p2, p3, p4, pd0, pd1, pd2, pd3, pd4, pcs⟩, ⟨q0, q1, q2, q3, q4, qd0, qd1, qd2, qd3, qd4, qcs⟩), phl, qhl⟩)
        · repeat' (first | exact Sub.nil _ | refine Sub.cons rfl ?_)
        · unfold ownL
          repeat' (first | exact Ent.nil _ | refine Ent.tak tk ?_ | refine Ent.blkC tc rfl ?_)
    · refine a_1 1 (by decide +kernel) rfl rfl (o_call (copyG_w _ g) rfl .nil (Can.ro hG0) rfl ?_)
      rintro v V ⟨p0, p1, p2, p3, p4, pd0, pd1, pd2, pd3, pd4, pcs, phl, rfl, rfl⟩
      refine ⟨Ent.trans ent_dropL (by (repeat' (first | exact Ent.refl _ | refine Ent.wk ?_))), ?_⟩
      unfold ownG
      simp only [List.cons_append, List.nil_append]
      refine a_1 3 (by decide +kernel) rfl rfl (o_call (copyG_w _ g) rfl .nil (Can.ro hG0) rfl ?_)
      rintro v V ⟨q0, q1, q2, q3, q4, qd0, qd1, qd2, qd3, qd4, qcs, qhl, rfl, rfl⟩
      refine ⟨Ent.trans ent_dropL (by (repeat' (first | exact Ent.refl _ | refine Ent.wk ?_))), ?_⟩
      unfold ownG
      simp only [List.cons_append, List.nil_append]
      refine a_1 6 (by decide +kernel) rfl rfl (o_storeC rfl rfl rfl rfl tc uc rfl rfl rfl ⟨(by (repeat' (first | exact Ent.refl _ | refine Ent.wk ?_))), ?_⟩)
      refine a_1 7 (by decide +kernel) rfl rfl (o_storeC rfl rfl rfl rfl tc uc rfl rfl rfl ⟨(by (repeat' (first | exact Ent.refl _ | refine Ent.wk ?_))), ?_⟩)
      refine a_done (by decide +kernel) ?_
      refine s_weak ?_ ?_ (hfin ⟨(b3, b4, ⟨p0, p1, p2, p3, p4, pd0, pd1, pd2, pd3, pd4, pcs⟩, ⟨q0, q1, q2, q3, q4, qd0, qd1, qd2, qd3, qd4, qcs⟩), phl, qhl⟩)
      · repeat' (first | exact Sub.nil _ | refine Sub.cons rfl ?_)
      · unfold ownL
        repeat' (first | exact Ent.nil _ | refine Ent.tak tk ?_ | refine Ent.blkC tc rfl ?_)
  · refine a_2 1 4 (by decide +kernel) rfl rfl rfl rfl (o_call (copyG_w _ g) rfl .nil (Can.ro hG0) rfl ?_) (o_alloc rfl rfl (fun b3 => ⟨(by (repeat' (first | exact Ent.refl _ | refine Ent.wk ?_))), ?_⟩))
    · rintro v V ⟨p0, p1, p2, p3, p4, pd0, pd1, pd2, pd3, pd4, pcs, phl, rfl, rfl⟩
      refine ⟨Ent.trans ent_dropL (by (repeat' (first | exact Ent.refl _ | refine Ent.wk ?_))), ?_⟩
      unfold ownG
      simp only [List.cons_append, List.nil_append]
      refine a_2 3 4 (by decide +kernel) rfl rfl rfl rfl (o_call (copyG_w _ g) rfl .nil (Can.ro hG0) rfl ?_) (o_alloc rfl rfl (fun b3 => ⟨(by (repeat' (first | exact Ent.refl _ | refine Ent.wk ?_))), ?_⟩))
      · rintro v V ⟨q0, q1, q2, q3, q4, qd0, qd1, qd2, qd3, qd4, qcs, qhl, rfl, rfl⟩
        refine ⟨Ent.trans ent_dropL (by (repeat' (first | exact Ent.refl _ | refine Ent.wk ?_))), ?_⟩
        unfold ownG
        simp only [List.cons_append, List.nil_append]
        refine a_1 4 (by decide +kernel) rfl rfl (o_alloc rfl rfl (fun b3 => ⟨(by (repeat' (first | exact Ent.refl _ | refine Ent.wk ?_))), ?_⟩))
        refine a_1 6 (by decide +kernel) rfl rfl (o_storeC rfl rfl rfl rfl tc uc rfl rfl rfl ⟨(by (repeat' (first | exact Ent.refl _ | refine Ent.wk ?_))), ?_⟩)
        refine a_1 7 (by decide +kernel) rfl rfl (o_storeC rfl rfl rfl rfl tc uc rfl rfl rfl ⟨(by (repeat' (first | exact Ent.refl _ | refine Ent.wk ?_))), ?_⟩)
        refine a_done (by decide +kernel) ?_
        refine s_weak ?_ ?_ (hfin ⟨(b3, b4, ⟨p0, p1, p2, p3, p4, pd0, pd1, pd2, pd3, pd4, pcs⟩, ⟨q0, q1, q2, q3, q4, qd0, qd1, qd2, qd3, qd4, qcs⟩), phl, qhl⟩)
        · repeat' (first | exact Sub.nil _ | refine Sub.cons rfl ?_)
        · unfold ownL
          repeat' (first | exact Ent.nil _ | refine Ent.tak tk ?_ | refine Ent.blkC tc rfl ?_)
      · refine a_1 3 (by decide +kernel) rfl rfl (o_call (copyG_w _ g) rfl .nil (Can.ro hG0) rfl ?_)
        rintro v V ⟨q0, q1, q2, q3, q4, qd0, qd1, qd2, qd3, qd4, qcs, qhl, rfl, rfl⟩
        refine ⟨Ent.trans ent_dropL (by (repeat' (first | exact Ent.refl _ | refine Ent.wk ?_))), ?_⟩
        unfold ownG
        simp only [List.cons_append, List.nil_append]
        refine a_1 6 (by decide +kernel) rfl rfl (o_storeC rfl rfl rfl rfl tc uc rfl rfl rfl ⟨(by (repeat' (first | exact Ent.refl _ | refine Ent.wk ?_))), ?_⟩)
        refine a_1 7 (by decide +kernel) rfl rfl (o_storeC rfl rfl rfl rfl tc uc rfl rfl rfl ⟨(by (repeat' (first | exact Ent.refl _ | refine Ent.wk ?_))), ?_⟩)
        refine a_done (by decide +kernel) ?_
        refine s_weak ?_ ?_ (hfin ⟨(b3, b4, ⟨p0, p1, p2, p3, p4, pd0, pd1, pd2, pd3, pd4, pcs⟩, ⟨q0, q1, q2, q3, q4, qd0, qd1, qd2, qd3, qd4, qcs⟩), phl, qhl⟩)
        · repeat' (first | exact Sub.nil _ | refine Sub.cons rfl ?_)
        · unfold ownL
          repeat' (first | exact Ent.nil _ | refine Ent.tak tk ?_ | refine Ent.blkC tc rfl ?_)
    · refine a_1 1 (by decide +kernel) rfl rfl (o_call (copyG_w _ g) rfl .nil (Can.ro hG0) rfl ?_)
      rintro v V ⟨p0, p1, p2, p3, p4, pd0, pd1, pd2, pd3, pd4, pcs, phl, rfl, rfl⟩
      refine ⟨Ent.trans ent_dropL (by (repeat' (first | exact Ent.refl _ | refine Ent.wk ?_))), ?_⟩
      unfold ownG
      simp only [List.cons_append, List.nil_append]
      refine a_1 3 (by decide +kernel) rfl rfl (o_call (copyG_w _ g) rfl .nil (Can.ro hG0) rfl ?_)
      rintro v V ⟨q0, q1, q2, q3, q4, qd0, qd1, qd2, qd3, qd4, qcs, qhl, rfl, rfl⟩
      refine ⟨Ent.trans ent_dropL (by (repeat' (first | exact Ent.refl _ | refine Ent.wk ?_))), ?_⟩
      unfold ownG
      simp only [List.cons_append, List.nil_append]
      refine a_1 6 (by decide +kernel) rfl rfl (o_storeC rfl rfl rfl rfl tc uc rfl rfl rfl ⟨(by (repeat' (first | exact Ent.refl _ | refine Ent.wk ?_))), ?_⟩)
      refine a_1 7 (by decide +kernel) rfl rfl (o_storeC rfl rfl rfl rfl tc uc rfl rfl rfl ⟨(by (repeat' (first | exact Ent.refl _ | refine Ent.wk ?_))), ?_⟩)
      refine a_done (by decide +kernel) ?_
      refine s_weak ?_ ?_ (hfin ⟨(b3, b4, ⟨p0, p1, p2, p3, p4, pd0, pd1, pd2, pd3, pd4, pcs⟩, ⟨q0, q1, q2, q3, q4, qd0, qd1, qd2, qd3, qd4, qcs⟩), phl, qhl⟩)
      · repeat' (first | exact Sub.nil _ | refine Sub.cons rfl ?_)
      · unfold ownL
        repeat' (first | exact Ent.nil _ | refine Ent.tak tk ?_ | refine Ent.blkC tc rfl ?_)

end Go.Proofs.YtcnpjhaedjncdaaDoor
