/-
  Canonical items, closed: walked.
-/
import Derived.Test.YtcbaebkkdkdaaaaDoorCQD3
import Derived.Test.YtcbaebkkdkdaaaaDoorCQD4
import Derived.Test.YtcbaebkkdkdaaaaDoorAhBase4

namespace Go.Proofs.YtcbaebkkdkdaaaaDoor
set_option linter.all false
open Go.Proofs.YtcbaebkkdkdaaaaDoor.E

def kOn : Kd On := kiso (kpair kItm kint) (fun o => (o.x, o.t))
theorem kOn_open {w : World} {S : BSet} {cs : List Value} {o : On} (h : kOn.R w S cs o) : cs = encO o ∧ I64 o.x.Prod ∧ I64 o.x.Dot ∧ I64 o.t := by
  obtain ⟨c1, c2, rfl, h1, rfl, h2⟩ := h
  obtain ⟨rfl, h3, h4⟩ := kItm_open h1
  exact ⟨rfl, h3, h4, h2⟩
theorem kOn_mk {w : World} {S : BSet} {o : On} (h1 : I64 o.x.Prod) (h2 : I64 o.x.Dot) (h3 : I64 o.t) : kOn.R w S (encO o) o := ⟨encX o.x, [.int .i64 o.t], rfl, kItm_mk h1 h2, rfl, h3⟩
theorem kOn_is (w : World) (S : BSet) (cs : List Value) (o : On) (h : kOn.R w S cs o) : cs = encO o := (kOn_open h).1
theorem onec_on : OneC kOn := by
  intro w S cs o h u hu
  obtain ⟨rfl, _⟩ := kOn_open h
  simp [encO] at hu
  rcases hu with rfl | rfl | rfl <;> rfl

theorem on_len {g : Gram} (hL : Lims g) {l : List On} (hs : SortO l) (h : ∀ o ∈ l, OnOk g o) : l.length ≤ 79872 := by
  have hk : ∀ o ∈ l, 0 ≤ o.x.Prod ∧ o.x.Prod < 128 ∧ 0 ≤ o.x.Dot ∧ o.x.Dot ≤ 12 ∧ 0 ≤ o.t ∧ o.t < 48 := fun o ho => by
    have h1 := h o ho
    have h2 := inG_dot hL h1.x
    have h3 := h1.t0; have h4 := h1.t; have := hL.t
    omega
  have h1 : (l.map fun o => (o.x.Prod * 13 + o.x.Dot) * 48 + o.t).Nodup := by
    unfold List.Nodup
    rw [List.pairwise_map]
    unfold SortO at hs
    refine (List.Pairwise.and_mem.1 hs).imp fun {a b} ⟨ha, hb, hab⟩ => ?_
    rw [ltO_iff] at hab
    have := hk a ha
    have := hk b hb
    omega
  have h2 := nodup_rng_len 79872 _ 0 h1 (fun s hs => by
    obtain ⟨o, ho, rfl⟩ := List.mem_map.1 hs
    have := hk o ho
    omega)
  simpa using h2

theorem measC_le (g : Gram) (st : Cst) : measC g st ≤ 2 * (g.Prods.length * g.Terms.length) + st.todo.length := by
  unfold measC missC
  have := List.countP_le_length (p := fun o => decide (o ∉ st.out)) (l := univC g)
  rw [univC_len] at this
  omega

attribute [local irreducible] EVX EVO EVL EV1 NEV
attribute [local irreducible] own osl exA rdA rdL
attribute [local irreducible] bldA mapA bun mapS
set_option maxRecDepth 10000
set_option maxHeartbeats 4000000

theorem closedO_w (cs : List Value) (g : Gram) (hce : checkE g = 0) (Al : Option Addr) (cl : Nat) (l : List On) (hll : l.length ≤ 90000) (hlo : ∀ o ∈ l, OnOk g o) :
    Trip Tryd.prog 36 [.agg cs.toArray, .slice Al l.length cl] ((kGram.rd cs g).and ((kslice 24 kOn).rd [.slice Al l.length cl] l)) []
      (fun v V => ∃ (R : List On) (A : Option Addr) (c : Nat), v = .slice A R.length c ∧ V = [pO A R.length c R] ∧ SortO R ∧ (∀ o ∈ R, OnOk g o) ∧ ∀ o, o ∈ R ↔ C1 g l o) := by
  refine trip Tryd.tabOk Tryd.func36 rfl rfl rfl rfl ?_
  rintro w SM ⟨hG0, hR0⟩
  obtain ⟨A0, A1, A2, A3, A4, c0, c1, c2, c3, c4, rfl, hG⟩ := kGram_open hG0
  have hR1 := hR0
  obtain ⟨Al', cl', e, hl1, hl2, hl3⟩ := hR0
  simp only [List.cons.injEq, Value.slice.injEq, and_true, true_and] at e
  obtain ⟨rfl, rfl⟩ := e
  obtain ⟨hlm, hwf⟩ := checkE_ok hce
  have hL := lims hlm
  have hT := hL.t
  have hNo := hL.n
  have hPr := hL.p
  repeat' (first | refine e_nil ?_ | ((refine e_op ?_); (first | refine o_n (peval_sound rfl) rfl ?_ | refine o_box rfl rfl (fun _ => ?_))) | refine s_seq ?_ | refine s_region ?_)
  refine e_op (o_copyO (k := kOn) (bytes := 24) encO kOn_is onec_on rfl rfl rfl rfl rfl (Can.ro hR1) rfl rfl (by omega) rfl rfl rfl (fun At ct => ?_))
  repeat' (first | refine e_nil ?_ | ((refine e_op ?_); (refine o_n (peval_sound rfl) rfl ?_)) | refine s_seq ?_ | refine s_region ?_ | refine s_block ?_)
  refine s_ent (Ent.osl0 (e := 75) (sz := 3) (Ent.refl _)) ?_
  rename_i bg
  refine s_loopK (ι := {x : Nat × Option Addr × Nat // x.1 ≤ l.length}) [1, 2, 6] rfl ⟨(0, none, 0), by omega⟩ (fun x => [(7, .int .i64 x.1.1), (5, .slice x.1.2.1 (outC l x.1.1).length x.1.2.2)])
    (fun x => [pO x.1.2.1 (outC l x.1.1).length x.1.2.2 (outC l x.1.1), pO At l.length ct l, blk bg 27 [.slice A0 g.Terms.length c0, .slice A1 g.Levels.length c1, .slice A2 g.Pats.length c2, .slice A3 g.Nons.length c3, .slice A4 g.Prods.length c4]]) (fun x => l.length - x.1.1) ?_ (Ent.refl _) ?_
  · repeat' (first | exact Sub.nil _ | refine Sub.cons rfl ?_)
  rintro ⟨⟨m, Ao, co⟩, hm⟩
  simp only at hm ⊢
  repeat' (first | refine e_nil ?_ | ((refine e_op ?_); (refine o_n (peval_sound rfl) rfl ?_)) | refine s_seq ?_ | refine s_region ?_)
  by_cases hml : m < l.length
  · rw [decide_eq_true (p := (m : Int) < (l.length : Int)) (by omega)]
    obtain ⟨bl, ol, es, rfl, hbl, he, hcl⟩ := hl3 m hml
    obtain ⟨rfl, _⟩ := kOn_open he
    have hsu := outC_succ hml
    have hol := outC_len l m
    repeat' (first | ((refine e_op ?_); (refine o_n (peval_sound rfl) rfl ?_)) | refine s_seq ?_ | refine s_region ?_ | refine s_block ?_ | refine s_skip ?_ | refine s_true rfl ?_)
    refine e_op (o_n (n_index rfl rfl rfl rfl m rfl hml) rfl ?_)
    refine e_op (o_n (n_load_ro rfl rfl hbl (loads_agg rfl rfl hcl)) rfl ?_)
    refine e_op (o_call (putO_w Ao co (outC l m) l[m] (by omega)) rfl (.cons .z .nil) Can.tt rfl ?_)
    rintro v V ⟨A', c', rfl, rfl⟩
    simp only [List.cons_append, List.nil_append]
    rw [← hsu]
    repeat' (first | refine e_nil ?_ | ((refine e_op ?_); (refine o_n (peval_sound rfl) rfl ?_)) | refine s_region ?_ | refine s_end ?_)
    refine s_back ⟨⟨(m + 1, A', c'), by simp only; omega⟩, by simp only; omega, ?_, Ent.refl _⟩
    repeat' (first | exact Sub.nil _ | refine Sub.cons rfl ?_ | refine Sub.consE rfl ?_ ?_)
    exact inc (i := m) (by omega)
  rw [decide_eq_false (p := (m : Int) < (l.length : Int)) (by omega)]
  obtain rfl : m = l.length := by omega
  repeat' (first | refine s_seq ?_ | refine s_block ?_ | refine s_exit ?_ | refine s_false rfl ?_ | refine x_hit ?_ | refine x_code ?_ | refine x_back ?_)
  refine s_loopK (ι := {x : Cst × (Option Addr × Nat) × (Option Addr × Nat) // CW g l x.1 ∧ measC g x.1 ≤ 2 * (g.Prods.length * g.Terms.length) + l.length}) [2] rfl ⟨(⟨outC l l.length, l⟩, (Ao, co), (At, ct)), CW.start hlo, measC_le g _⟩ (fun x => [(5, .slice x.1.2.1.1 x.1.1.out.length x.1.2.1.2), (6, .slice x.1.2.2.1 x.1.1.todo.length x.1.2.2.2)])
    (fun x => [pO x.1.2.1.1 x.1.1.out.length x.1.2.1.2 x.1.1.out, pO x.1.2.2.1 x.1.1.todo.length x.1.2.2.2 x.1.1.todo, blk bg 27 [.slice A0 g.Terms.length c0, .slice A1 g.Levels.length c1, .slice A2 g.Pats.length c2, .slice A3 g.Nons.length c3, .slice A4 g.Prods.length c4]]) (fun x => measC g x.1.1) ?_ (Ent.refl _) ?_
  · repeat' (first | exact Sub.nil _ | refine Sub.cons rfl ?_)
  rintro ⟨⟨st, ⟨Ao, co⟩, ⟨At, ct⟩⟩, hw, hme⟩
  simp only at hw hme ⊢
  have hPT : g.Prods.length * g.Terms.length ≤ 128 * 48 := Nat.mul_le_mul hPr hT
  have htl : st.todo.length ≤ 120000 := by
    have : st.todo.length ≤ measC g st := by unfold measC; omega
    omega
  have hol := on_len hL hw.sort hw.ok
  refine s_cap (.s .z) (fun hcap => ?_)
  repeat' (first | refine e_nil ?_ | ((refine e_op ?_); (refine o_n (peval_sound rfl) rfl ?_)) | refine s_seq ?_ | refine s_region ?_)
  by_cases htd : st.todo.length = 0
  · have htd0 := List.eq_nil_of_length_eq_zero htd
    rw [decide_eq_false (p := (st.todo.length : Int) > 0) (by omega)]
    repeat' (first | refine e_nil ?_ | ((refine e_op ?_); (refine o_n (peval_sound rfl) rfl ?_)) | refine s_seq ?_ | refine s_region ?_ | refine s_exit ?_ | refine s_false rfl ?_ | refine x_hit ?_ | refine x_code ?_ | refine x_back ?_)
    refine s_ret ⟨_, _, res1 rfl rfl, ⟨st.out, Ao, co, rfl, rfl, hw.sort, hw.ok, hw.done htd0⟩, ?_⟩
    exact Ent.cons (Ent.nil _)
  have htp : st.todo.length - 1 < st.todo.length := by omega
  have hne : st.todo ≠ [] := fun e => htd (by rw [e]; rfl)
  rw [decide_eq_true (p := (st.todo.length : Int) > 0) (by omega)]
  repeat' (first | ((refine e_op ?_); (refine o_n (peval_sound rfl) rfl ?_)) | refine s_seq ?_ | refine s_region ?_ | refine s_block ?_ | refine s_skip ?_ | refine s_true rfl ?_)
  refine e_open (.s .z) (by omega) ?_
  rintro bt rfl
  have hw1 : IntKind.i64.wrap ((st.todo.length : Int) - 1) = ((st.todo.length - 1 : Nat) : Int) := by rw [wrap_i64] <;> omega
  rw [hw1]
  refine e_op (o_n (n_index rfl rfl rfl rfl (st.todo.length - 1) rfl htp) rfl ?_)
  refine e_op (o_n (n_load_osl rfl rfl (.s .z) (encO_load htp)) rfl ?_)
  generalize hp : st.todo[st.todo.length - 1] = p
  have hpt : p ∈ st.todo := by rw [← hp]; exact List.getElem_mem htp
  have hpk := hw.sub p hpt
  have hpo := hw.ok p hpk
  have hpc := hw.sound p hpk
  have hlast : st.todo.getLast? = some p := by rw [List.getLast?_eq_getElem?, List.getElem?_eq_getElem htp, hp]
  have hH := hw.pop hlast
  have hdl : st.todo.dropLast.length = st.todo.length - 1 := by simp
  have hdf : (st.todo.flatMap encO).take ((st.todo.length - 1) * 3) = st.todo.dropLast.flatMap encO := by rw [List.dropLast_eq_take, encO_take]
  have hme1 : measC g ⟨st.out, st.todo.dropLast⟩ + 1 = measC g st := by unfold measC; simp only [hdl]; omega
  repeat' (first | refine e_nil ?_ | ((refine e_op ?_); (first | refine o_n (peval_sound rfl) rfl ?_ | refine o_storeC rfl rfl rfl rfl tc uc rfl rfl rfl ?_ | refine o_alloc rfl rfl (fun _ => ?_))) | refine s_seq ?_ | refine s_region ?_)
  rw [hw1]
  refine e_op (o_n (n_headV (st.todo.length - 1) rfl rfl rfl rfl rfl (by omega)) rfl ?_)
  repeat' (((refine e_op ?_); (refine o_n (peval_sound rfl) rfl ?_)))
  refine e_nil ?_
  rename_i bp
  have hshr : ∀ V, Ent (pO (some ⟨bt, 0, none⟩) st.todo.length ct st.todo :: V) (pO (some ⟨bt, 0, none⟩) (st.todo.length - 1) ct st.todo.dropLast :: V) := fun V => by
    have h := ent_oslTake (e := 75) (sz := 3) (n := st.todo.length) (c := ct) (m := st.todo.length - 1) (A := some ⟨bt, 0, none⟩) (xs := st.todo.flatMap encO) (V := V) (by omega)
    rw [hdf] at h
    exact h
  refine s_weak (fr' := [(8, .pointer (some ⟨bp, 0, none⟩)), (6, .slice (some ⟨bt, 0, none⟩) (st.todo.length - 1) ct), (5, .slice Ao st.out.length co), (2, .pointer (some ⟨bg, 0, none⟩))]) (V := [blk bp 75 (encO p), pO Ao st.out.length co st.out, pO (some ⟨bt, 0, none⟩) (st.todo.length - 1) ct st.todo.dropLast, blk bg 27 [.slice A0 g.Terms.length c0, .slice A1 g.Levels.length c1, .slice A2 g.Pats.length c2, .slice A3 g.Nons.length c3, .slice A4 g.Prods.length c4]]) ?_ ?_ ?_
  · repeat' (first | exact Sub.nil _ | refine Sub.cons rfl ?_)
  · exact Ent.cons (Ent.cons (hshr _))
  clear hp hpt hlast hdf hshr hw htp htd hw1
  have hin := hpo.x
  have hin2 := hin
  unfold inG at hin2
  simp only [Bool.and_eq_true, decide_eq_true_eq] at hin2
  have htn0 := hpo.t0
  have htn1 := hpo.t
  obtain ⟨⟨xp, xd⟩, xt⟩ := p
  simp only at hin2 htn0 htn1
  obtain ⟨q, rfl⟩ : ∃ q : Nat, xp = (q : Int) := ⟨xp.toNat, by omega⟩
  obtain ⟨d, rfl⟩ : ∃ d : Nat, xd = (d : Int) := ⟨xd.toNat, by omega⟩
  obtain ⟨u, rfl⟩ : ∃ u : Nat, xt = (u : Int) := ⟨xt.toNat, by omega⟩
  have hep : encO ⟨⟨(q : Int), (d : Int)⟩, (u : Int)⟩ = [.int .i64 q, .int .i64 d, .int .i64 u] := rfl
  rw [hep]
  have hql : q < g.Prods.length := by omega
  have hpi : prd g (q : Int) = g.Prods[q] := prd_at hql
  rw [hpi] at hin2
  have hr12 := hL.r _ (List.getElem_mem hql)
  have hpr := prod_ok hwf hql
  obtain ⟨b9, o9, es9, rfl, hb9, he9, hc9⟩ := hG.prods.2.2 q hql
  obtain ⟨Ar, cr, rfl, hl9, hlN, hlK, hri⟩ := kPrd_open he9
  rw [← hdl]
  obtain ⟨st1, hst1⟩ : ∃ s : Cst, s = ⟨st.out, st.todo.dropLast⟩ := ⟨_, rfl⟩
  have q1 : st.out = st1.out := by rw [hst1]
  have q2 : st.todo.dropLast = st1.todo := by rw [hst1]
  rw [← hst1] at hH hme1
  rw [q1, q2]
  repeat' (first | ((refine e_op ?_); (first | refine o_n (peval_sound rfl) rfl ?_ | refine o_n (nl rfl rfl tc rfl) rfl ?_)) | refine s_seq ?_ | refine s_region ?_)
  refine e_op (o_n (n_index rfl rfl rfl rfl q rfl hql) rfl ?_)
  repeat' (((refine e_op ?_); (refine o_n (peval_sound rfl) rfl ?_)))
  refine e_op (o_n (n_load_ro rfl rfl hb9 (loads_one rfl (hc9 1 _ rfl))) rfl ?_)
  repeat' (first | refine e_nil ?_ | ((refine e_op ?_); (refine o_n (peval_sound rfl) rfl ?_)) | refine s_seq ?_)
  by_cases hdd : g.Prods[q].Right.length ≤ d
  · refine s_drawU [] Tryd.mixed (by decide +kernel) ?_
    repeat' (((first | refine l_n (peval_sound rfl) rfl ?_ rfl ?_ | refine l_n (nl rfl rfl tc rfl) rfl ?_ rfl ?_); · (exact Ent.refl _)))
    rw [decide_eq_true (p := (d : Int) ≥ (g.Prods[q].Right.length : Int)) (by omega)]
    repeat' (first | refine l_nil ?_ | ((first | refine l_no rfl rfl rfl ?_ rfl ?_ | refine l_n (peval_sound rfl) rfl ?_ rfl ?_); · (exact Ent.refl _)))
    repeat' (first | refine s_exit ?_ | refine s_true rfl ?_ | refine x_hit ?_ | refine x_code ?_)
    refine s_back ⟨⟨(st1, (Ao, co), (some ⟨bt, 0, none⟩, ct)), .of hH (fun o' hn => ?_), by simp only; omega⟩, by simp only; omega, ?_, Ent.wk (Ent.refl _)⟩
    · obtain ⟨k, u', _, _, _, h4, _⟩ := hn
      exact absurd (by simp only [hpi]; omega) h4
    · repeat' (first | exact Sub.nil _ | refine Sub.cons rfl ?_)
  have hd2 : d < g.Prods[q].Right.length := by omega
  obtain ⟨bk, ok, ek, rfl, hbk, ⟨rfl, hIk⟩, hck⟩ := hri.2.2 d hd2
  have hsy := hpr.2.2 _ (List.getElem_mem hd2)
  have hbeh : beh g ⟨(q : Int), (d : Int)⟩ = g.Prods[q].Right[d] := by
    unfold beh; rw [hpi, if_pos (by simp only; omega)]; simp only [Int.toNat_natCast]; rw [List.getD_eq_getElem?_getD, List.getElem?_eq_getElem hd2]; rfl
  generalize hsv : g.Prods[q].Right[d] = sy at *
  by_cases hst : sy < g.Terms.length
  · refine s_drawU [] Tryd.mixed (by decide +kernel) ?_
    repeat' (((first | refine l_n (peval_sound rfl) rfl ?_ rfl ?_ | refine l_n (nl rfl rfl tc rfl) rfl ?_ rfl ?_); · (exact Ent.refl _)))
    rw [decide_eq_false (p := (d : Int) ≥ (g.Prods[q].Right.length : Int)) (by omega)]
    repeat' (((first | refine l_ny rfl (peval_sound rfl) rfl ?_ rfl ?_ | refine l_ny rfl (nl rfl rfl tc rfl) rfl ?_ rfl ?_); · (exact Ent.refl _)))
    refine l_ny rfl (n_index rfl rfl rfl rfl d rfl hd2) rfl (Ent.refl _) rfl ?_
    refine l_ny rfl (n_load_ro rfl rfl hbk (loads_one rfl (hck 0 _ rfl))) rfl (Ent.refl _) rfl ?_
    repeat' (first | refine l_nil ?_ | ((first | refine l_n (peval_sound rfl) rfl ?_ rfl ?_ | refine l_ny rfl (peval_sound rfl) rfl ?_ rfl ?_ | refine l_ny rfl (nl rfl rfl tc rfl) rfl ?_ rfl ?_); · (exact Ent.refl _)))
    rw [decide_eq_true hst]
    skip
    repeat' (first | refine s_exit ?_ | refine s_true rfl ?_ | refine x_hit ?_ | refine x_code ?_)
    refine s_back ⟨⟨(st1, (Ao, co), (some ⟨bt, 0, none⟩, ct)), .of hH (fun o' hn => ?_), by simp only; omega⟩, by simp only; omega, ?_, Ent.wk (Ent.refl _)⟩
    · obtain ⟨k, u', _, _, _, _, h5, _⟩ := hn
      exact absurd (by simp only [hbeh]; exact hst) h5
    · repeat' (first | exact Sub.nil _ | refine Sub.cons rfl ?_)
  refine s_drawU [] Tryd.mixed (by decide +kernel) ?_
  repeat' (((first | refine l_n (peval_sound rfl) rfl ?_ rfl ?_ | refine l_n (nl rfl rfl tc rfl) rfl ?_ rfl ?_); · (exact Ent.refl _)))
  rw [decide_eq_false (p := (d : Int) ≥ (g.Prods[q].Right.length : Int)) (by omega)]
  repeat' (((first | refine l_ny rfl (peval_sound rfl) rfl ?_ rfl ?_ | refine l_ny rfl (nl rfl rfl tc rfl) rfl ?_ rfl ?_); · (exact Ent.refl _)))
  refine l_ny rfl (n_index rfl rfl rfl rfl d rfl hd2) rfl (Ent.refl _) rfl ?_
  refine l_ny rfl (n_load_ro rfl rfl hbk (loads_one rfl (hck 0 _ rfl))) rfl (Ent.refl _) rfl ?_
  repeat' (first | refine l_nil ?_ | ((first | refine l_n (peval_sound rfl) rfl ?_ rfl ?_ | refine l_ny rfl (peval_sound rfl) rfl ?_ rfl ?_ | refine l_ny rfl (nl rfl rfl tc rfl) rfl ?_ rfl ?_); · (exact Ent.refl _)))
  rw [decide_eq_false hst]
  skip
  repeat' (first | refine s_seq ?_ | refine s_skip ?_ | refine s_false rfl ?_)
  have hwk : IntKind.i64.wrap ((d : Int) + 1) = ((d + 1 : Nat) : Int) := by rw [wrap_i64] <;> omega
  have hdr := els_drop (q := d + 1) hri.2.2 hri.1
  have hof := ofE_rest hce hin
  have hrl2 : restL g ⟨(q : Int), (d : Int)⟩ = g.Prods[q].Right.drop (d + 1) := by unfold restL; simp only [hpi, Int.toNat_natCast]
  rw [hrl2] at hof
  refine s_drawU [7] Tryd.mixed (by decide +kernel) ?_
  repeat' (((first | refine l_n (peval_sound rfl) rfl ?_ rfl ?_ | refine l_n (nl rfl rfl tc rfl) rfl ?_ rfl ?_); · (exact Ent.refl _)))
  rw [hwk]
  refine l_n (n_fromV (d + 1) rfl rfl rfl rfl rfl (by omega)) rfl (Ent.refl _) rfl ?_
  skip
  refine l_e rfl (o_call (of_w _ g _ (g.Prods[q].Right.length - (d + 1)) (cr - (d + 1)) (g.Prods[q].Right.drop (d + 1)) (by rw [List.length_drop])) rfl .nil (Can.and (Can.ro hG0) (Can.ro ⟨_, _, by rw [List.length_drop]; rfl, by rw [List.length_drop]; have := hri.1; omega, by rw [List.length_drop]; have := hri.2.1; omega, hdr⟩)) rfl ?_)
  rintro v V (⟨hne2, _⟩ | ⟨_, bu, rfl, rfl⟩)
  · exact absurd hof hne2
  have hbl : (rowT g.Terms.length (bFix g) (g.Prods[q].Right.drop (d + 1))).1.length = g.Terms.length := rowT_len ..
  have hbs : ∀ a : Nat, a < g.Terms.length → (restB g ⟨(q : Int), (d : Int)⟩).getD a false = (rowT g.Terms.length (bFix g) (g.Prods[q].Right.drop (d + 1))).1.getD a false := fun a ha => by
    unfold restB
    rw [hrl2, List.getD_eq_getElem?_getD, List.getElem?_append_left (by rw [hbl]; exact ha), ← List.getD_eq_getElem?_getD]
  have hbn : restN g ⟨(q : Int), (d : Int)⟩ = (rowT g.Terms.length (bFix g) (g.Prods[q].Right.drop (d + 1))).2 := by unfold restN; rw [hrl2]
  generalize rowT g.Terms.length (bFix g) (g.Prods[q].Right.drop (d + 1)) = bn at hbl hbs hbn ⊢
  obtain ⟨bb, nz⟩ := bn
  simp only at hbl hbs hbn ⊢
  refine ⟨Ent.wk (Ent.refl _), ?_⟩
  simp only [List.cons_append, List.nil_append]
  repeat' (first | refine l_nil ?_ | ((refine l_n (peval_sound rfl) rfl ?_ rfl ?_); · (repeat' (first | exact Ent.refl _ | refine Ent.wk ?_))))
  repeat' (first | refine e_nil ?_ | ((first | refine e_op ?_ | refine e_yes rfl ?_); (first | refine o_n (peval_sound rfl) rfl ?_ | refine o_n (nl rfl rfl tc rfl) rfl ?_)) | refine s_seq ?_ | refine s_region ?_)
  rw [show ((g.Terms.length : Int) != (g.Terms.length : Int)) = false by simp]
  repeat' (first | refine s_seq ?_ | refine s_skip ?_ | refine s_false rfl ?_)
  have hut : u < g.Terms.length := by omega
  have hv0 := loadB (r := bb) (j := u) (o := 0 + u * 1) (by rw [hbl]; exact hut) (by omega) (bytes := 1) (z := [.bool false])
  refine s_join (ι := Unit) (fun _ => [(11, .bool nz), (10, .slice (some ⟨bu, 0, none⟩) g.Terms.length g.Terms.length), (9, .slice (some ⟨bk, ok, none⟩) g.Prods[q].Right.length cr), (8, .pointer (some ⟨bp, 0, none⟩)), (6, .slice (some ⟨bt, 0, none⟩) st1.todo.length ct), (5, .slice Ao st1.out.length co), (2, .pointer (some ⟨bg, 0, none⟩))])
    (fun _ => [osl 4 1 (.slice (some ⟨bu, 0, none⟩) g.Terms.length g.Terms.length) g.Terms.length (cB (bb.set u (bb.getD u false || nz))), blk bp 75 [.int .i64 q, .int .i64 d, .int .i64 u], pO Ao st1.out.length co st1.out, pO (some ⟨bt, 0, none⟩) st1.todo.length ct st1.todo, blk bg 27 [.slice A0 g.Terms.length c0, .slice A1 g.Levels.length c1, .slice A2 g.Pats.length c2, .slice A3 g.Nons.length c3, .slice (some ⟨b9, o9, none⟩) g.Prods.length c4]]) (fun hj => ?_) ?_
  · refine s_drawZ [12] Tryd.mixed (by decide +kernel) ?_
    repeat' (first | refine z_n (peval_sound rfl) rfl rfl ?_ | refine z_n (nl rfl rfl tc rfl) rfl rfl ?_)
    refine z_n (n_index rfl rfl rfl rfl u rfl hut) rfl rfl ?_
    refine z_n (n_load_osl rfl rfl .z hv0) rfl rfl ?_
    repeat' (refine z_n (peval_sound rfl) rfl rfl ?_)
    cases hbv : bb.getD u false with
    | true =>
      rw [hbv] at hj
      simp only [Bool.true_or] at hj
      repeat' (first | refine z_no rfl rfl rfl rfl ?_ | refine z_n (peval_sound rfl) rfl rfl ?_)
      refine z_n (n_index rfl rfl rfl rfl u rfl hut) rfl rfl ?_
      refine z_e rfl (o_store_osl (vs := [.bool true]) rfl rfl rfl rfl rfl rfl (by rw [cB_len, hbl]; simp only; omega) .z ?_)
      repeat' (refine z_nil ?_)
      have e5 : setMany (cB bb) (0 + u * 1) [.bool true] = cB (bb.set u true) := by simp only [setMany]; unfold cB; rw [List.map_set, Nat.zero_add, Nat.mul_one]
      rw [e5]
      refine s_weak ?_ (Ent.refl _) (hj ())
      repeat' (first | exact Sub.nil _ | refine Sub.cons rfl ?_)
    | false =>
      rw [hbv] at hj
      simp only [Bool.false_or] at hj
      repeat' (first | refine z_n (peval_sound rfl) rfl rfl ?_ | refine z_ny rfl (peval_sound rfl) rfl rfl ?_)
      refine z_n (n_index rfl rfl rfl rfl u rfl hut) rfl rfl ?_
      refine z_e rfl (o_store_osl (vs := [.bool nz]) rfl rfl rfl rfl rfl rfl (by rw [cB_len, hbl]; simp only; omega) .z ?_)
      repeat' (refine z_nil ?_)
      have e5 : setMany (cB bb) (0 + u * 1) [.bool nz] = cB (bb.set u nz) := by simp only [setMany]; unfold cB; rw [List.map_set, Nat.zero_add, Nat.mul_one]
      rw [e5]
      refine s_weak ?_ (Ent.refl _) (hj ())
      repeat' (first | exact Sub.nil _ | refine Sub.cons rfl ?_)
  rintro ⟨⟩
  have hb2l : (bb.set u (bb.getD u false || nz)).length = g.Terms.length := by rw [List.length_set, hbl]
  have hb2 : ∀ a : Nat, a < g.Terms.length → ((bb.set u (bb.getD u false || nz)).getD a false = true ↔ (restB g ⟨(q : Int), (d : Int)⟩).getD a false = true ∨ (restN g ⟨(q : Int), (d : Int)⟩ = true ∧ (a : Int) = (u : Int))) := fun a ha => by
    rw [hbs a ha, hbn]
    by_cases e : a = u
    · subst e
      rw [List.getD_eq_getElem?_getD, List.getElem?_set_self (by rw [hbl]; exact ha)]
      simp
    · rw [List.getD_eq_getElem?_getD, List.getElem?_set_ne (Ne.symm e), ← List.getD_eq_getElem?_getD]
      have : ¬ ((a : Int) = (u : Int)) := by omega
      simp [this]
  generalize bb.set u (bb.getD u false || nz) = b2 at hb2l hb2 ⊢
  have hc1 : ∀ k a : Nat, k < g.Prods.length → a < g.Terms.length → (prd g k).Left = sy - g.Terms.length → b2.getD a false = true → C1 g l ⟨⟨k, 0⟩, a⟩ := fun k a hk ha hle hb =>
    .step hpc ⟨k, a, rfl, hk, ha, by simp only [hpi]; omega, by simp only [hbeh]; exact hst, by simp only [hbeh]; exact hle, (hb2 a ha).1 hb⟩
  have hKK := fun m hm => stKC_ok (b := b2) hc1 hH m hm
  repeat' (first | refine e_nil ?_ | ((refine e_op ?_); (refine o_n (peval_sound rfl) rfl ?_)) | refine s_seq ?_ | refine s_region ?_ | refine s_block ?_)
  refine s_loopK (ι := {x : Nat × (Option Addr × Nat) × (Option Addr × Nat) // x.1 ≤ g.Prods.length}) [2, 8, 9, 10] rfl ⟨(0, (Ao, co), (some ⟨bt, 0, none⟩, ct)), by omega⟩ (fun x => [(13, .int .i64 x.1.1), (5, .slice x.1.2.1.1 (stKC g sy b2 st1 x.1.1).out.length x.1.2.1.2), (6, .slice x.1.2.2.1 (stKC g sy b2 st1 x.1.1).todo.length x.1.2.2.2)])
    (fun x => [osl 4 1 (.slice (some ⟨bu, 0, none⟩) g.Terms.length g.Terms.length) g.Terms.length (cB b2), blk bp 75 [.int .i64 q, .int .i64 d, .int .i64 u], pO x.1.2.1.1 (stKC g sy b2 st1 x.1.1).out.length x.1.2.1.2 (stKC g sy b2 st1 x.1.1).out, pO x.1.2.2.1 (stKC g sy b2 st1 x.1.1).todo.length x.1.2.2.2 (stKC g sy b2 st1 x.1.1).todo, blk bg 27 [.slice A0 g.Terms.length c0, .slice A1 g.Levels.length c1, .slice A2 g.Pats.length c2, .slice A3 g.Nons.length c3, .slice (some ⟨b9, o9, none⟩) g.Prods.length c4]]) (fun x => g.Prods.length - x.1.1) ?_ (Ent.refl _) ?_
  · repeat' (first | exact Sub.nil _ | refine Sub.cons rfl ?_)
  rintro ⟨⟨k, ⟨Ao, co⟩, ⟨At, ct⟩⟩, hk⟩
  simp only at hk ⊢
  obtain ⟨hk1, hk2, hk3, hk4⟩ := hKK k hk
  have hKs := stKC_succ g sy b2 st1 k
  generalize hst2 : stKC g sy b2 st1 k = st2 at hk1 hk2 hk3 hk4 hKs ⊢
  repeat' (first | refine e_nil ?_ | ((refine e_op ?_); (first | refine o_n (peval_sound rfl) rfl ?_ | refine o_n (nl rfl rfl tc rfl) rfl ?_)) | refine s_seq ?_ | refine s_region ?_)
  by_cases hkl : k < g.Prods.length
  · rw [decide_eq_true (p := (k : Int) < (g.Prods.length : Int)) (by omega)]
    repeat' (first | refine e_nil ?_ | ((refine e_op ?_); (refine o_n (peval_sound rfl) rfl ?_)) | refine s_seq ?_ | refine s_region ?_ | refine s_block ?_ | refine s_skip ?_ | refine s_true rfl ?_)
    obtain ⟨b7, o7, es7, e7, hb7, he7, hc7⟩ := hG.prods.2.2 k hkl
    cases e7
    obtain ⟨Ak, ck, rfl, _, _, _, _⟩ := kPrd_open he7
    have hpk2 : prd g (k : Int) = g.Prods[k] := prd_at hkl
    rw [hpk2] at hKs
    have hwT : IntKind.i64.wrap (sy - (g.Terms.length : Int)) = sy - (g.Terms.length : Int) := by rw [wrap_i64] <;> omega
    have hTT := fun (hle : g.Prods[k].Left = sy - g.Terms.length) m hm => stepT_ok (b := b2) hkl (fun a ha hb => hc1 k a hkl ha (by rw [hpk2]; exact hle) hb) hk1 m hm
    refine s_loopK (ι := {y : Nat × (Option Addr × Nat) × (Option Addr × Nat) // y.1 ≤ g.Terms.length ∧ (g.Prods[k].Left = sy - g.Terms.length ∨ y.1 = 0)}) [2, 8, 9, 10, 13] rfl ⟨(0, (Ao, co), (At, ct)), by omega, .inr rfl⟩ (fun y => [(14, .int .i64 y.1.1), (5, .slice y.1.2.1.1 (stepT b2 k st2 y.1.1).out.length y.1.2.1.2), (6, .slice y.1.2.2.1 (stepT b2 k st2 y.1.1).todo.length y.1.2.2.2)])
      (fun y => [osl 4 1 (.slice (some ⟨bu, 0, none⟩) g.Terms.length g.Terms.length) g.Terms.length (cB b2), blk bp 75 [.int .i64 q, .int .i64 d, .int .i64 u], pO y.1.2.1.1 (stepT b2 k st2 y.1.1).out.length y.1.2.1.2 (stepT b2 k st2 y.1.1).out, pO y.1.2.2.1 (stepT b2 k st2 y.1.1).todo.length y.1.2.2.2 (stepT b2 k st2 y.1.1).todo, blk bg 27 [.slice A0 g.Terms.length c0, .slice A1 g.Levels.length c1, .slice A2 g.Pats.length c2, .slice A3 g.Nons.length c3, .slice (some ⟨b9, o9, none⟩) g.Prods.length c4]]) (fun y => g.Terms.length - y.1.1) ?_ (Ent.refl _) ?_
    · repeat' (first | exact Sub.nil _ | refine Sub.cons rfl ?_)
    rintro ⟨⟨a, ⟨Ao, co⟩, ⟨At, ct⟩⟩, ha, hla⟩
    simp only at ha hla ⊢
    by_cases hle : g.Prods[k].Left = sy - g.Terms.length
    · obtain ⟨ha1, ha2, ha3, ha4⟩ := hTT hle a ha
      have hTs := stepT_succ b2 k st2 a
      rw [if_pos hle] at hKs
      have hol3 := on_len hL ha1.sort ha1.ok
      generalize hst3 : stepT b2 k st2 a = st3 at ha1 ha2 ha3 ha4 hTs hol3 ⊢
      have htl3 : st3.todo.length ≤ 120000 := by
        have : st3.todo.length ≤ measC g st3 := by unfold measC; omega
        omega
      repeat' (refine s_seq ?_)
      by_cases haT : a < g.Terms.length
      · refine s_drawU [] Tryd.mixed (by decide +kernel) ?_
        repeat' (((refine l_n (peval_sound rfl) rfl ?_ rfl ?_); · (exact Ent.refl _)))
        rw [decide_eq_true (p := (a : Int) < (g.Terms.length : Int)) (by omega)]
        repeat' (((first | refine l_ny rfl (peval_sound rfl) rfl ?_ rfl ?_ | refine l_ny rfl (nl rfl rfl tc rfl) rfl ?_ rfl ?_); · (exact Ent.refl _)))
        refine l_ny rfl (n_index rfl rfl rfl rfl k rfl hkl) rfl (Ent.refl _) rfl ?_
        repeat' (((refine l_ny rfl (peval_sound rfl) rfl ?_ rfl ?_); · (exact Ent.refl _)))
        refine l_ny rfl (n_load_ro rfl rfl hb7 (loads_one rfl (hc7 0 _ rfl))) rfl (Ent.refl _) rfl ?_
        repeat' (((first | refine l_ny rfl (peval_sound rfl) rfl ?_ rfl ?_ | refine l_ny rfl (nl rfl rfl tc rfl) rfl ?_ rfl ?_); · (exact Ent.refl _)))
        refine l_ny rfl (n_index rfl rfl rfl rfl d rfl hd2) rfl (Ent.refl _) rfl ?_
        refine l_ny rfl (n_load_ro rfl rfl hbk (loads_one rfl (hck 0 _ rfl))) rfl (Ent.refl _) rfl ?_
        repeat' (first | refine l_nil ?_ | ((first | refine l_n (peval_sound rfl) rfl ?_ rfl ?_ | refine l_ny rfl (peval_sound rfl) rfl ?_ rfl ?_ | refine l_ny rfl (nl rfl rfl tc rfl) rfl ?_ rfl ?_); · (exact Ent.refl _)))
        rw [hwT]
        skip
        rw [show (g.Prods[k].Left == sy - (g.Terms.length : Int)) = true by simpa using hle]
        skip
        repeat' (first | ((refine e_op ?_); (refine o_n (peval_sound rfl) rfl ?_)) | refine s_seq ?_ | refine s_region ?_ | refine s_block ?_ | refine s_skip ?_ | refine s_true rfl ?_)
        have hva := loadB (r := b2) (j := a) (o := 0 + a * 1) (by rw [hb2l]; exact haT) (by omega) (bytes := 1) (z := [.bool false])
        refine e_op (o_n (n_index rfl rfl rfl rfl a rfl haT) rfl ?_)
        refine e_op (o_n (n_load_osl rfl rfl .z hva) rfl ?_)
        cases hba : b2.getD a false with
        | false =>
          rw [if_neg (by rw [hba]; simp)] at hTs
          repeat' (first | refine e_nil ?_ | ((refine e_op ?_); (refine o_n (peval_sound rfl) rfl ?_)) | refine s_region ?_ | refine s_exit ?_ | refine s_true rfl ?_ | refine x_hit ?_ | refine x_code ?_)
          refine s_back ⟨⟨(a + 1, (Ao, co), (At, ct)), by simp only; omega, .inl hle⟩, by simp only; omega, ?_, ?_⟩
          · simp only [hTs]
            repeat' (first | exact Sub.nil _ | refine Sub.cons rfl ?_ | refine Sub.consE rfl ?_ ?_)
            exact inc (i := a) (by omega)
          · simp only [hTs]
            exact Ent.refl _
        | true =>
          rw [if_pos hba] at hTs
          repeat' (first | refine e_nil ?_ | ((refine e_op ?_); (refine o_n (peval_sound rfl) rfl ?_)) | refine s_seq ?_ | refine s_region ?_ | refine s_skip ?_ | refine s_false rfl ?_)
          refine e_op (o_call (putO_w Ao co st3.out ⟨⟨(k : Int), 0⟩, (a : Int)⟩ (by omega)) rfl (.cons (.s (.s .z)) .nil) Can.tt rfl ?_)
          rintro v V ⟨A', c', rfl, rfl⟩
          simp only [List.cons_append, List.nil_append]
          repeat' (first | refine e_nil ?_ | ((refine e_op ?_); (refine o_n (peval_sound rfl) rfl ?_)) | refine s_seq ?_ | refine s_region ?_)
          by_cases hoi : (⟨⟨(k : Int), 0⟩, (a : Int)⟩ : On) ∈ st3.out
          · have ho2 := putO_old ha1.sort hoi
            have hAC : addC st3 ⟨⟨(k : Int), 0⟩, (a : Int)⟩ = st3 := by unfold addC; rw [ho2, if_pos hoi]
            rw [hAC] at hTs
            rw [ho2]
            rw [decide_eq_false (p := (st3.out.length : Int) > (st3.out.length : Int)) (by omega)]
            repeat' (first | refine e_nil ?_ | ((refine e_op ?_); (refine o_n (peval_sound rfl) rfl ?_)) | refine s_region ?_ | refine s_end ?_ | refine s_skip ?_ | refine s_false rfl ?_)
            refine s_back ⟨⟨(a + 1, (A', c'), (At, ct)), by simp only; omega, .inl hle⟩, by simp only; omega, ?_, ?_⟩
            · simp only [hTs]
              repeat' (first | exact Sub.nil _ | refine Sub.cons rfl ?_ | refine Sub.consE rfl ?_ ?_)
              exact inc (i := a) (by omega)
            · simp only [hTs]
              exact Ent.tak (.s .z) (Ent.tak (.s .z) (Ent.refl _))
          · have ho2 := putO_new hoi
            have hAC : addC st3 ⟨⟨(k : Int), 0⟩, (a : Int)⟩ = ⟨putO st3.out ⟨⟨(k : Int), 0⟩, (a : Int)⟩, st3.todo ++ [⟨⟨(k : Int), 0⟩, (a : Int)⟩]⟩ := by unfold addC; rw [if_neg hoi]
            rw [hAC] at hTs
            rw [decide_eq_true (p := ((putO st3.out ⟨⟨(k : Int), 0⟩, (a : Int)⟩).length : Int) > (st3.out.length : Int)) (by omega)]
            repeat' (first | ((refine e_op ?_); (refine o_n (peval_sound rfl) rfl ?_)) | refine s_region ?_ | refine s_true rfl ?_)
            refine e_op (o_lit (ps := [(0, .agg (encO ⟨⟨(k : Int), 0⟩, (a : Int)⟩).toArray)]) (cs := encO ⟨⟨(k : Int), 0⟩, (a : Int)⟩) rfl rfl rfl rfl rfl rfl rfl (fun bl => ?_))
            skip
            refine e_op (o_append (v := .slice At st3.todo.length ct) (n := st3.todo.length) (m := 1) (xs := st3.todo.flatMap encO) (news := encO ⟨⟨(k : Int), 0⟩, (a : Int)⟩) _ rfl rfl rfl rfl (fun w hm q u hu => ?_) rfl ?_ rfl (by omega) (by simp only; omega) (by omega) rfl (fun b c => .s (.s (.s (.s .z)))) (fun ba ca => ?_))
            · obtain ⟨S1, hP, _⟩ := hm.tak .z
              rw [Nat.zero_add]
              exact osl_cells hP q u hu
            · simp [encO, oneB]
            have hfl : st3.todo.flatMap encO ++ encO ⟨⟨(k : Int), 0⟩, (a : Int)⟩ = (st3.todo ++ [(⟨⟨(k : Int), 0⟩, (a : Int)⟩ : On)]).flatMap encO := by rw [List.flatMap_append]; simp
            have hfn : st3.todo.length + 1 = (st3.todo ++ [(⟨⟨(k : Int), 0⟩, (a : Int)⟩ : On)]).length := by simp
            rw [hfl, hfn]
            repeat' (first | refine e_nil ?_ | ((refine e_op ?_); (refine o_n (peval_sound rfl) rfl ?_)) | refine s_region ?_ | refine s_end ?_)
            refine s_back ⟨⟨(a + 1, (A', c'), (some ⟨ba, 0, none⟩, ca)), by simp only; omega, .inl hle⟩, by simp only; omega, ?_, ?_⟩
            · simp only [hTs]
              repeat' (first | exact Sub.nil _ | refine Sub.cons rfl ?_ | refine Sub.consE rfl ?_ ?_)
              exact inc (i := a) (by omega)
            · simp only [hTs]
              exact Ent.wk (Ent.tak (.s .z) (Ent.tak (.s .z) (Ent.refl _)))
      · obtain rfl : a = g.Terms.length := by omega
        refine s_drawU [] Tryd.mixed (by decide +kernel) ?_
        repeat' (((refine l_n (peval_sound rfl) rfl ?_ rfl ?_); · (exact Ent.refl _)))
        rw [decide_eq_false (p := (g.Terms.length : Int) < (g.Terms.length : Int)) (by omega)]
        repeat' (first | refine l_nil ?_ | ((first | refine l_no rfl rfl rfl ?_ rfl ?_ | refine l_n (peval_sound rfl) rfl ?_ rfl ?_); · (exact Ent.refl _)))
        repeat' (first | refine e_nil ?_ | ((refine e_op ?_); (refine o_n (peval_sound rfl) rfl ?_)) | refine s_region ?_ | refine s_end ?_ | refine s_exit ?_ | refine s_false rfl ?_ | refine x_hit ?_ | refine x_code ?_ | refine x_back ?_)
        rw [hst3] at hKs
        refine s_back ⟨⟨(k + 1, (Ao, co), (At, ct)), by simp only; omega⟩, by simp only; omega, ?_, ?_⟩
        · simp only [hKs]
          repeat' (first | exact Sub.nil _ | refine Sub.cons rfl ?_ | refine Sub.consE rfl ?_ ?_)
          exact inc (i := k) (by omega)
        · simp only [hKs]
          exact Ent.refl _
    · obtain rfl : a = 0 := hla.resolve_left hle
      rw [if_neg hle] at hKs
      rw [show stepT b2 k st2 0 = st2 from rfl]
      have hT0 : 0 < g.Terms.length := by omega
      repeat' (refine s_seq ?_)
      refine s_drawU [] Tryd.mixed (by decide +kernel) ?_
      repeat' (((refine l_n (peval_sound rfl) rfl ?_ rfl ?_); · (exact Ent.refl _)))
      rw [decide_eq_true (p := ((0 : Nat) : Int) < (g.Terms.length : Int)) (by omega)]
      repeat' (((first | refine l_ny rfl (peval_sound rfl) rfl ?_ rfl ?_ | refine l_ny rfl (nl rfl rfl tc rfl) rfl ?_ rfl ?_); · (exact Ent.refl _)))
      refine l_ny rfl (n_index rfl rfl rfl rfl k rfl hkl) rfl (Ent.refl _) rfl ?_
      repeat' (((refine l_ny rfl (peval_sound rfl) rfl ?_ rfl ?_); · (exact Ent.refl _)))
      refine l_ny rfl (n_load_ro rfl rfl hb7 (loads_one rfl (hc7 0 _ rfl))) rfl (Ent.refl _) rfl ?_
      repeat' (((first | refine l_ny rfl (peval_sound rfl) rfl ?_ rfl ?_ | refine l_ny rfl (nl rfl rfl tc rfl) rfl ?_ rfl ?_); · (exact Ent.refl _)))
      refine l_ny rfl (n_index rfl rfl rfl rfl d rfl hd2) rfl (Ent.refl _) rfl ?_
      refine l_ny rfl (n_load_ro rfl rfl hbk (loads_one rfl (hck 0 _ rfl))) rfl (Ent.refl _) rfl ?_
      repeat' (first | refine l_nil ?_ | ((first | refine l_n (peval_sound rfl) rfl ?_ rfl ?_ | refine l_ny rfl (peval_sound rfl) rfl ?_ rfl ?_ | refine l_ny rfl (nl rfl rfl tc rfl) rfl ?_ rfl ?_); · (exact Ent.refl _)))
      rw [hwT]
      skip
      rw [show (g.Prods[k].Left == sy - (g.Terms.length : Int)) = false by simpa using hle]
      skip
      repeat' (first | refine e_nil ?_ | ((refine e_op ?_); (refine o_n (peval_sound rfl) rfl ?_)) | refine s_region ?_ | refine s_end ?_ | refine s_exit ?_ | refine s_false rfl ?_ | refine x_hit ?_ | refine x_code ?_ | refine x_back ?_)
      refine s_back ⟨⟨(k + 1, (Ao, co), (At, ct)), by simp only; omega⟩, by simp only; omega, ?_, ?_⟩
      · simp only [hKs]
        repeat' (first | exact Sub.nil _ | refine Sub.cons rfl ?_ | refine Sub.consE rfl ?_ ?_)
        exact inc (i := k) (by omega)
      · simp only [hKs]
        exact Ent.refl _
  · rw [decide_eq_false (p := (k : Int) < (g.Prods.length : Int)) (by omega)]
    obtain rfl : k = g.Prods.length := by omega
    repeat' (first | refine s_end ?_ | refine s_exit ?_ | refine s_false rfl ?_ | refine x_hit ?_ | refine x_code ?_ | refine x_back ?_)
    refine s_back ⟨⟨(st2, (Ao, co), (At, ct)), .of hk1 (fun o' hn => ?_), by simp only; omega⟩, by simp only; omega, ?_, Ent.wk (Ent.wk (Ent.refl _))⟩
    · obtain ⟨k', u', rfl, h1, h2, _, _, h5, h6⟩ := hn
      exact hk4 k' u' h1 h2 (by rw [hbeh] at h5; exact h5) ((hb2 u' h2).2 h6)
    · repeat' (first | exact Sub.nil _ | refine Sub.cons rfl ?_)

end Go.Proofs.YtcbaebkkdkdaaaaDoor
