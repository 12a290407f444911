/-
  Canonical items gone on to; wide grammars: walked.
-/
import Derived.Test.YtcbaebkkdkdaaaaDoorCQD5

namespace Go.Proofs.YtcbaebkkdkdaaaaDoor
set_option linter.all false
open Go.Proofs.YtcbaebkkdkdaaaaDoor.E

attribute [local irreducible] EVX EVO EVL EV1 NEV
attribute [local irreducible] own osl exA rdA rdL
attribute [local irreducible] bldA mapA bun mapS
set_option maxRecDepth 10000
set_option maxHeartbeats 4000000

theorem goesO_w (cs : List Value) (g : Gram) (hce : checkE g = 0) (Al : Option Addr) (cl : Nat) (l : List On) (hll : l.length ≤ 90000) (hlo : ∀ o ∈ l, OnOk g o) (s : Int) (hs : 0 ≤ s) :
    Trip Tryd.prog 37 [.agg cs.toArray, .slice Al l.length cl, .int .i64 s] ((kGram.rd cs g).and ((kslice 24 kOn).rd [.slice Al l.length cl] l)) []
      (fun v V => ∃ (A : Option Addr) (c : Nat), v = .slice A (goesO g l s).length c ∧ V = [pO A (goesO g l s).length c (goesO g l s)]) := by
  refine trip Tryd.tabOk Tryd.func37 rfl rfl rfl rfl ?_
  rintro w SM ⟨hG0, hR0⟩
  obtain ⟨A0, A1, A2, A3, A4, c0, c1, c2, c3, c4, rfl, hG⟩ := kGram_open hG0
  obtain ⟨Al', cl', e, hl1, hl2, hl3⟩ := hR0
  simp only [List.cons.injEq, Value.slice.injEq, and_true, true_and] at e
  obtain ⟨rfl, rfl⟩ := e
  obtain ⟨hlm, hwf⟩ := checkE_ok hce
  have hL := lims hlm
  repeat' (first | refine e_nil ?_ | ((refine e_op ?_); (first | refine o_n (peval_sound rfl) rfl ?_ | refine o_box rfl rfl (fun _ => ?_))) | refine s_seq ?_ | refine s_region ?_ | refine s_block ?_)
  rename_i bg
  refine s_ent (Ent.osl0 (e := 75) (sz := 3) (Ent.refl _)) ?_
  refine s_loopK (ι := {x : Nat × Option Addr × Nat // x.1 ≤ l.length}) [1, 2, 3] rfl ⟨(0, none, 0), by omega⟩ (fun x => [(8, .int .i64 x.1.1), (7, .slice x.1.2.1 (goesT g l s x.1.1).length x.1.2.2)])
    (fun x => [pO x.1.2.1 (goesT g l s x.1.1).length x.1.2.2 (goesT g l s x.1.1), blk bg 27 [.slice A0 g.Terms.length c0, .slice A1 g.Levels.length c1, .slice A2 g.Pats.length c2, .slice A3 g.Nons.length c3, .slice A4 g.Prods.length c4]]) (fun x => l.length - x.1.1) ?_ (Ent.refl _) ?_
  · repeat' (first | exact Sub.nil _ | refine Sub.cons rfl ?_)
  rintro ⟨⟨m, Ao, co⟩, hm⟩
  simp only at hm ⊢
  repeat' (first | refine e_nil ?_ | ((refine e_op ?_); (refine o_n (peval_sound rfl) rfl ?_)) | refine s_seq ?_ | refine s_region ?_)
  by_cases hml : m < l.length
  · rw [decide_eq_true (p := (m : Int) < (l.length : Int)) (by omega)]
    obtain ⟨bl, ol, es, rfl, hbl, he, hcl⟩ := hl3 m hml
    obtain ⟨rfl, _⟩ := kOn_open he
    have hsu := goesT_succ (g := g) (l := l) (s := s) hml
    have hgl := (goesT_all (g := g) (l := l) (s := s) m (by omega)).2.1
    generalize goesT g l s m = acc at hsu hgl ⊢
    have hok := hlo _ (List.getElem_mem hml)
    generalize l[m] = p at hcl hsu hok
    have hin := hok.x
    unfold inG at hin
    simp only [Bool.and_eq_true, decide_eq_true_eq] at hin
    have htn0 := hok.t0
    obtain ⟨⟨xp, xd⟩, xt⟩ := p
    simp only at hin htn0
    obtain ⟨q, rfl⟩ : ∃ q : Nat, xp = (q : Int) := ⟨xp.toNat, by omega⟩
    obtain ⟨d, rfl⟩ : ∃ d : Nat, xd = (d : Int) := ⟨xd.toNat, by omega⟩
    have hql : q < g.Prods.length := by omega
    have hpi : prd g (q : Int) = g.Prods[q] := prd_at hql
    rw [hpi] at hin
    have hr12 := hL.r _ (List.getElem_mem hql)
    have hpr := prod_ok hwf hql
    obtain ⟨b9, o9, es9, rfl, hb9, he9, hc9⟩ := hG.prods.2.2 q hql
    obtain ⟨Ar, cr, rfl, hl9, hlN, hlK, hri⟩ := kPrd_open he9
    repeat' (first | refine s_seq ?_ | refine s_block ?_ | refine s_skip ?_ | refine s_true rfl ?_)
    refine s_drawU [] Tryd.mixed (by decide +kernel) ?_
    repeat' (((first | refine l_n (peval_sound rfl) rfl ?_ rfl ?_ | refine l_n (nl rfl rfl tc rfl) rfl ?_ rfl ?_); · (exact Ent.refl _)))
    refine l_n (n_index rfl rfl rfl rfl m rfl hml) rfl (Ent.refl _) rfl ?_
    repeat' (((refine l_n (peval_sound rfl) rfl ?_ rfl ?_); · (exact Ent.refl _)))
    refine l_n (n_load_ro rfl rfl hbl (loads_one rfl (hcl 0 _ rfl))) rfl (Ent.refl _) rfl ?_
    refine l_n (n_index rfl rfl rfl rfl q rfl hql) rfl (Ent.refl _) rfl ?_
    repeat' (((refine l_n (peval_sound rfl) rfl ?_ rfl ?_); · (exact Ent.refl _)))
    refine l_n (n_load_ro rfl rfl hb9 (loads_one rfl (hc9 1 _ rfl))) rfl (Ent.refl _) rfl ?_
    repeat' (first | refine l_nil ?_ | ((refine l_n (peval_sound rfl) rfl ?_ rfl ?_); · (exact Ent.refl _)))
    repeat' (first | ((refine e_op ?_); (refine o_n (peval_sound rfl) rfl ?_)) | refine s_seq ?_ | refine s_region ?_)
    refine e_op (o_n (n_index rfl rfl rfl rfl m rfl hml) rfl ?_)
    repeat' (((refine e_op ?_); (refine o_n (peval_sound rfl) rfl ?_)))
    refine e_op (o_n (n_load_ro rfl rfl hbl (loads_one rfl (hcl 1 _ rfl))) rfl ?_)
    repeat' (((refine e_op ?_); (refine o_n (peval_sound rfl) rfl ?_)))
    by_cases hdd : d < g.Prods[q].Right.length
    · obtain ⟨bk, ok, ek, rfl, hbk, ⟨rfl, hIk⟩, hck⟩ := hri.2.2 d hdd
      have hbeh : beh g ⟨(q : Int), (d : Int)⟩ = g.Prods[q].Right[d] := by
        unfold beh; rw [hpi, if_pos (by simp only; omega)]; simp only [Int.toNat_natCast]; rw [List.getD_eq_getElem?_getD, List.getElem?_eq_getElem hdd]; rfl
      generalize hsv : g.Prods[q].Right[d] = sy at *
      rw [decide_eq_true (p := (d : Int) < (g.Prods[q].Right.length : Int)) (by omega)]
      repeat' (((refine e_yes rfl ?_); (refine o_n (peval_sound rfl) rfl ?_)))
      refine e_yes rfl (o_n (n_index rfl rfl rfl rfl m rfl hml) rfl ?_)
      repeat' (((refine e_yes rfl ?_); (refine o_n (peval_sound rfl) rfl ?_)))
      refine e_yes rfl (o_n (n_load_ro rfl rfl hbl (loads_one rfl (hcl 1 _ rfl))) rfl ?_)
      refine e_yes rfl (o_n (n_index rfl rfl rfl rfl d rfl hdd) rfl ?_)
      refine e_yes rfl (o_n (n_load_ro rfl rfl hbk (loads_one rfl (hck 0 _ rfl))) rfl ?_)
      repeat' (first | refine e_nil ?_ | ((first | refine e_op ?_ | refine e_yes rfl ?_); (refine o_n (peval_sound rfl) rfl ?_)))
      by_cases hss : sy = s
      · rw [if_pos (by simp only [hbeh]; exact hss)] at hsu
        rw [show (sy == s) = true by simpa using hss]
        have hwd : IntKind.i64.wrap ((d : Int) + 1) = ((d + 1 : Nat) : Int) := by rw [wrap_i64] <;> omega
        repeat' (refine s_true rfl ?_)
        refine s_drawT [21] .z Tryd.mixed (by decide +kernel) ?_
        repeat' (((refine l_n (peval_sound rfl) rfl ?_ rfl ?_); · (repeat' (first | exact Ent.refl _ | refine Ent.wk ?_))))
        refine l_n (n_index rfl rfl rfl rfl m rfl hml) rfl (Ent.wk (Ent.refl _)) rfl ?_
        repeat' (((refine l_n (peval_sound rfl) rfl ?_ rfl ?_); · (repeat' (first | exact Ent.refl _ | refine Ent.wk ?_))))
        refine l_n (n_load_ro rfl rfl hbl (loads_one rfl (hcl 0 _ rfl))) rfl (Ent.wk (Ent.refl _)) rfl ?_
        repeat' (((refine l_n (peval_sound rfl) rfl ?_ rfl ?_); · (repeat' (first | exact Ent.refl _ | refine Ent.wk ?_))))
        refine l_n (n_index rfl rfl rfl rfl m rfl hml) rfl (Ent.wk (Ent.refl _)) rfl ?_
        repeat' (((refine l_n (peval_sound rfl) rfl ?_ rfl ?_); · (repeat' (first | exact Ent.refl _ | refine Ent.wk ?_))))
        refine l_n (n_load_ro rfl rfl hbl (loads_one rfl (hcl 1 _ rfl))) rfl (Ent.wk (Ent.refl _)) rfl ?_
        repeat' (((refine l_n (peval_sound rfl) rfl ?_ rfl ?_); · (repeat' (first | exact Ent.refl _ | refine Ent.wk ?_))))
        rw [hwd]
        refine l_n (n_index rfl rfl rfl rfl m rfl hml) rfl (Ent.wk (Ent.refl _)) rfl ?_
        repeat' (((refine l_n (peval_sound rfl) rfl ?_ rfl ?_); · (repeat' (first | exact Ent.refl _ | refine Ent.wk ?_))))
        refine l_n (n_load_ro rfl rfl hbl (loads_one rfl (hcl 2 _ rfl))) rfl (Ent.wk (Ent.refl _)) rfl ?_
        repeat' (((refine l_n (peval_sound rfl) rfl ?_ rfl ?_); · (repeat' (first | exact Ent.refl _ | refine Ent.wk ?_))))
        refine l_e rfl (o_call (putO_w Ao co acc ⟨⟨(q : Int), ((d + 1 : Nat) : Int)⟩, xt⟩ (by omega)) rfl (.cons .z .nil) Can.tt rfl ?_)
        rintro v V ⟨A', c', rfl, rfl⟩
        refine ⟨Ent.wk (Ent.refl _), ?_⟩
        simp only [List.cons_append, List.nil_append]
        repeat' (first | refine l_nil ?_ | ((refine l_n (peval_sound rfl) rfl ?_ rfl ?_); · (repeat' (first | exact Ent.refl _ | refine Ent.wk ?_))))
        repeat' (first | refine e_nil ?_ | ((refine e_op ?_); (refine o_n (peval_sound rfl) rfl ?_)) | refine s_region ?_ | refine s_end ?_)
        refine s_back ⟨⟨(m + 1, A', c'), by simp only; omega⟩, by simp only; omega, ?_, ?_⟩
        · simp only [hsu]
          repeat' (first | exact Sub.nil _ | refine Sub.cons rfl ?_ | refine Sub.consE rfl ?_ ?_)
          exact inc (i := m) (by omega)
        · simp only [hsu]
          exact Ent.refl _
      · rw [if_neg (by simp only [hbeh]; exact hss)] at hsu
        rw [show (sy == s) = false by simpa using hss]
        repeat' (first | refine e_nil ?_ | ((refine e_op ?_); (refine o_n (peval_sound rfl) rfl ?_)) | refine s_region ?_ | refine s_end ?_ | refine s_skip ?_ | refine s_false rfl ?_)
        refine s_back ⟨⟨(m + 1, Ao, co), by simp only; omega⟩, by simp only; omega, ?_, ?_⟩
        · simp only [hsu]
          repeat' (first | exact Sub.nil _ | refine Sub.cons rfl ?_ | refine Sub.consE rfl ?_ ?_)
          exact inc (i := m) (by omega)
        · simp only [hsu]
          exact Ent.refl _
    · have hbeh : beh g ⟨(q : Int), (d : Int)⟩ = -1 := by
        unfold beh; rw [hpi, if_neg (by simp only; omega)]
      rw [if_neg (by simp only [hbeh]; omega)] at hsu
      rw [decide_eq_false (p := (d : Int) < (g.Prods[q].Right.length : Int)) (by omega)]
      repeat' (first | refine e_nil ?_ | ((refine e_op ?_); (refine o_n (peval_sound rfl) rfl ?_)) | refine e_noU rfl rfl rfl ?_ | refine s_region ?_ | refine s_end ?_ | refine s_skip ?_ | refine s_false rfl ?_)
      refine s_back ⟨⟨(m + 1, Ao, co), by simp only; omega⟩, by simp only; omega, ?_, ?_⟩
      · simp only [hsu]
        repeat' (first | exact Sub.nil _ | refine Sub.cons rfl ?_ | refine Sub.consE rfl ?_ ?_)
        exact inc (i := m) (by omega)
      · simp only [hsu]
        exact Ent.refl _
  · rw [decide_eq_false (p := (m : Int) < (l.length : Int)) (by omega)]
    obtain rfl : m = l.length := by omega
    repeat' (first | refine e_nil ?_ | ((refine e_op ?_); (refine o_n (peval_sound rfl) rfl ?_)) | refine s_seq ?_ | refine s_region ?_ | refine s_exit ?_ | refine s_false rfl ?_ | refine x_hit ?_ | refine x_code ?_ | refine x_back ?_)
    refine s_ret ⟨_, _, res1 rfl rfl, ⟨Ao, co, rfl, rfl⟩, ?_⟩
    exact Ent.cons (Ent.nil _)

end Go.Proofs.YtcbaebkkdkdaaaaDoor
