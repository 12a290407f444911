/-
  Part 5 of what the law's walk stands on: lemmas and contracts, each proved here without a condition but those that it names.
-/
import Derived.Test.YtcbaebkkdkdaaaaDoorLrBase4
import Derived.Laws.StructEq
import Derived.ChangeKeysEq
import Derived.Test.YtcbaebkkdkdaaaaDoorRows

namespace Go.Proofs.YtcbaebkkdkdaaaaDoor
set_option linter.all false
open Go.Proofs.YtcbaebkkdkdaaaaDoor.E

theorem can_kerR {E0 : Go.Proofs.YtcbaebkkdkdaaaaDoor.E.Env} {U U' : List Asn} {g : Gram} (hL : Lims g) {acs : List (Option Addr × Nat)} {ks : List (List Itm)} (hl : acs.length = ks.length) (ht : Tak (kerB acs ks) U U') (hks : ∀ a ∈ ks, ∀ x ∈ a, inG g x = true) {i : Nat} (hi : i < ks.length) (hb : ks[i].length ≤ 100000) :
    Go.Proofs.YtcbaebkkdkdaaaaDoor.E.Can E0 U ((kslice 16 kItm).rd [.slice (acs[i]'(hl ▸ hi)).1 ks[i].length (acs[i]'(hl ▸ hi)).2] ks[i]) :=
  can_brow hl ht hi fun E => can_items .z (fun x hx => by have := inG_dot hL (hks _ (List.getElem_mem hi) x hx); exact ⟨⟨by omega, by omega⟩, ⟨by omega, by omega⟩⟩) hb

theorem ix_first {κ : Type} [DecidableEq κ] {k : κ} : ∀ {u : List κ} {m : Nat} (h : m < u.length), u[m] = k → (∀ j (hj : j < u.length), j < m → u[j] ≠ k) → ix u k = m
  | [], m, h, _, _ => absurd h (Nat.not_lt_zero _)
  | x :: u, 0, h, e, _ => by
    have e : x = k := e
    show (if x = k then 0 else _) = 0
    rw [if_pos e]
  | x :: u, m + 1, h, e, hn => by
    have h0 : ¬ x = k := hn 0 (by simp) (by omega)
    rw [ix_cons h0, ix_first (u := u) (m := m) (by simpa using h) (by simpa using e) (fun j hj hjm => by have := hn (j + 1) (by simpa using hj) (by omega); simpa using this)]

attribute [local irreducible] EVX EVO EVL EV1 NEV
attribute [local irreducible] own osl exA rdA rdL
attribute [local irreducible] bldA mapA bun
set_option maxRecDepth 10000
set_option maxHeartbeats 4000000

theorem ofR19_w (cs : List Value) (g : Gram) : Trip Tryd.prog 18 [.agg cs.toArray] (kGram.rd cs g) []
    (fun v V => ∃ x, v = .tuple #[x, .int .i64 (lrE g)] ∧ LrV x V (lrKs g) (lrGs g)) := by
  refine trip Tryd.tabOk Tryd.func18 rfl rfl rfl rfl ?_
  rintro w SM hG0
  obtain ⟨A0, A1, A2, A3, A4, c0, c1, c2, c3, c4, rfl, hG⟩ := kGram_open hG0
  repeat' (first | refine e_nil ?_ | ((first | refine e_op ?_ | refine e_yes rfl ?_); (first | refine o_n (peval_sound rfl) rfl ?_ | refine o_n (nl rfl rfl tc rfl) rfl ?_ | refine o_storeC rfl rfl rfl rfl tc uc rfl rfl rfl ?_ | refine o_box rfl rfl (fun _ => ?_) | refine o_box1 rfl rfl rfl (fun _ => ?_) | refine o_alloc rfl rfl (fun _ => ?_))) | refine e_noU rfl rfl rfl ?_ | refine e_noN rfl rfl ?_ | refine s_seq ?_ | refine s_region ?_ | refine s_end ?_ | refine s_skip ?_ | refine s_exit ?_ | refine s_true rfl ?_ | refine s_false rfl ?_ | refine x_hit ?_ | refine x_code ?_ | refine x_back ?_ | refine x_miss rfl ?_)
  rename_i bg br
  refine e_op (o_call (checkR_w _ g) rfl .nil (Can.ro hG0) rfl ?_)
  rintro v V ⟨rfl, rfl⟩
  simp only [List.nil_append]
  repeat' (first | refine e_nil ?_ | ((first | refine e_op ?_ | refine e_yes rfl ?_); (first | refine o_n (peval_sound rfl) rfl ?_ | refine o_n (nl rfl rfl tc rfl) rfl ?_ | refine o_storeC rfl rfl rfl rfl tc uc rfl rfl rfl ?_ | refine o_box rfl rfl (fun _ => ?_) | refine o_box1 rfl rfl rfl (fun _ => ?_) | refine o_alloc rfl rfl (fun _ => ?_))) | refine e_noU rfl rfl rfl ?_ | refine e_noN rfl rfl ?_ | refine s_seq ?_ | refine s_region ?_ | refine s_block ?_ | refine s_end ?_ | refine s_skip ?_ | refine s_exit ?_ | refine s_true rfl ?_ | refine s_false rfl ?_ | refine x_hit ?_ | refine x_code ?_ | refine x_back ?_ | refine x_miss rfl ?_)
  refine s_cond rfl (fun h => ?_) (fun h => ?_)
  · have he : checkE g ≠ 0 := by simpa using h
    have hce : lrE g = checkE g := by unfold lrE; rw [if_pos he]
    obtain ⟨h1, h2⟩ := lr_bad (by rw [hce]; exact he)
    rw [h1, h2, hce]
    repeat' (first | refine e_nil ?_ | ((first | refine e_op ?_ | refine e_yes rfl ?_); (first | refine o_n (peval_sound rfl) rfl ?_ | refine o_n (nl rfl rfl tc rfl) rfl ?_ | refine o_storeC rfl rfl rfl rfl tc uc rfl rfl rfl ?_ | refine o_box rfl rfl (fun _ => ?_) | refine o_box1 rfl rfl rfl (fun _ => ?_) | refine o_alloc rfl rfl (fun _ => ?_))) | refine e_noU rfl rfl rfl ?_ | refine e_noN rfl rfl ?_ | refine s_seq ?_ | refine s_region ?_ | refine s_block ?_ | refine s_end ?_ | refine s_skip ?_ | refine s_exit ?_ | refine s_true rfl ?_ | refine s_false rfl ?_ | refine x_hit ?_ | refine x_code ?_ | refine x_back ?_ | refine x_miss rfl ?_)
    refine s_ret ⟨_, _, resc2 rfl rfl rfl .z (ld_all (n := 2) rfl rfl rfl rfl) rfl, ⟨_, rfl, none, 0, [], none, 0, [], rfl, rfl, rfl, rfl⟩, ent_lr0⟩
  have he : checkE g = 0 := by simpa using h
  obtain ⟨hlm, hwf⟩ := checkE_ok he
  have hL := lims hlm
  have o := GOk.of hwf
  repeat' (first | refine e_nil ?_ | ((first | refine e_op ?_ | refine e_yes rfl ?_); (first | refine o_n (peval_sound rfl) rfl ?_ | refine o_n (nl rfl rfl tc rfl) rfl ?_ | refine o_storeC rfl rfl rfl rfl tc uc rfl rfl rfl ?_ | refine o_box rfl rfl (fun _ => ?_) | refine o_box1 rfl rfl rfl (fun _ => ?_) | refine o_alloc rfl rfl (fun _ => ?_))) | refine e_noU rfl rfl rfl ?_ | refine e_noN rfl rfl ?_ | refine s_seq ?_ | refine s_region ?_ | refine s_block ?_ | refine s_end ?_ | refine s_skip ?_ | refine s_exit ?_ | refine s_true rfl ?_ | refine s_false rfl ?_ | refine x_hit ?_ | refine x_code ?_ | refine x_back ?_ | refine x_miss rfl ?_)
  refine e_op (o_lit (cs := encX ⟨0, 0⟩) rfl rfl rfl rfl rfl rfl rfl (fun bk => ?_))
  refine e_op (o_lit (ps := [(0, .slice (some ⟨bk, 0, none⟩) 1 1)]) (cs := [.slice (some ⟨bk, 0, none⟩) 1 1]) rfl rfl rfl rfl rfl rfl rfl (fun bq => ?_))
  repeat' (first | refine e_nil ?_ | ((first | refine e_op ?_ | refine e_yes rfl ?_); (first | refine o_n (peval_sound rfl) rfl ?_ | refine o_n (nl rfl rfl tc rfl) rfl ?_ | refine o_storeC rfl rfl rfl rfl tc uc rfl rfl rfl ?_ | refine o_box rfl rfl (fun _ => ?_) | refine o_box1 rfl rfl rfl (fun _ => ?_) | refine o_alloc rfl rfl (fun _ => ?_))) | refine e_noU rfl rfl rfl ?_ | refine e_noN rfl rfl ?_ | refine s_seq ?_ | refine s_region ?_ | refine s_block ?_ | refine s_end ?_ | refine s_skip ?_ | refine s_exit ?_ | refine s_true rfl ?_ | refine s_false rfl ?_ | refine x_hit ?_ | refine x_code ?_ | refine x_back ?_ | refine x_miss rfl ?_)
  rename_i b5
  refine s_loopK (ι := {x : LrSt // LrStOk g x}) [1, 2, 5] rfl ⟨⟨0, some ⟨bq, 0, none⟩, 1, [(some ⟨bk, 0, none⟩, 1)], [[⟨0, 0⟩]], none, 0, [], []⟩, ⟨LrI.begin o, rfl, rfl, rfl, fun fin _ => by simp⟩⟩ (fun x => [(6, .int .i64 x.1.i)])
    (fun x => [blk b5 35 [.slice x.1.AK x.1.ks.length x.1.cK, .slice x.1.AG x.1.gs.length x.1.cG], kerS x.1.AK x.1.ks.length x.1.cK x.1.acs x.1.ks, kerB x.1.acs x.1.ks, gotS x.1.AG x.1.gs.length x.1.cG x.1.bcs x.1.gs, gotB x.1.bcs x.1.gs, blk br 35 [.slice none 0 0, .slice none 0 0], blk bg 27 [.slice A0 g.Terms.length c0, .slice A1 g.Levels.length c1, .slice A2 g.Pats.length c2, .slice A3 g.Nons.length c3, .slice A4 g.Prods.length c4]])
    (fun x => 514 - x.1.i) ?_ ?_ ?_
  · repeat' (first | exact Sub.nil _ | refine Sub.cons rfl ?_ | refine Sub.consE rfl ?_ ?_)
  · refine Ent.tak .z (Ent.tak .z ?_)
    exact (ent_bun (L := [rowA (fun l : List Itm => l.flatMap encX) 2 42 (some ⟨bk, 0, none⟩, 1) [⟨0, 0⟩]])).trans (Ent.cons (Ent.osl0 ent_bnil0))
  rintro ⟨⟨i, AK, cK, acs, ks, AG, cG, bcs, gs⟩, hI⟩
  obtain ⟨hI, hl, hb, hgl, hgs⟩ := hI
  simp only at hI hl hb hgl hgs ⊢
  repeat' (first | refine e_nil ?_ | ((first | refine e_op ?_ | refine e_yes rfl ?_); (first | refine o_n (peval_sound rfl) rfl ?_ | refine o_n (nl rfl rfl tc rfl) rfl ?_ | refine o_storeC rfl rfl rfl rfl tc uc rfl rfl rfl ?_ | refine o_box rfl rfl (fun _ => ?_) | refine o_box1 rfl rfl rfl (fun _ => ?_) | refine o_alloc rfl rfl (fun _ => ?_))) | refine e_noU rfl rfl rfl ?_ | refine e_noN rfl rfl ?_ | refine s_seq ?_ | refine s_region ?_ | refine s_block ?_ | refine s_end ?_ | refine s_skip ?_ | refine s_exit ?_ | refine s_true rfl ?_ | refine s_false rfl ?_ | refine x_hit ?_ | refine x_code ?_ | refine x_back ?_ | refine x_miss rfl ?_)
  refine s_cond rfl (fun h => ?_) (fun h => ?_)
  · have hlt : i < ks.length := by simpa using h
    have hTN : g.Terms.length + g.Nons.length ≤ 96 := by have := hL.t; have := hL.n; omega
    have hwr : IntKind.i64.wrap ((g.Terms.length : Int) + (g.Nons.length : Int)) = ((g.Terms.length + g.Nons.length : Nat) : Int) := by rw [wrap_i64] <;> omega
    have hK := hI.ok
    have hki := hK.ok _ (List.getElem_mem hlt)
    have hlen : ∀ a ∈ ks, a.length ≤ 1664 := fun a ha => sort_len hL (hK.ok a ha).sort (hK.ok a ha).inG
    have hklen := hlen _ (List.getElem_mem hlt)
    obtain ⟨hcs, hcm⟩ := closedP_spec o.beh o.left hki.inG
    have hcin : ∀ x ∈ closedP g ks[i], inG g x = true := fun x hx => ((hcm x).1 hx).inG hki.inG
    have hclen := sort_len hL hcs hcin
    refine s_open (.s .z) (by omega) ?_
    rintro b6 rfl
    repeat' (first | refine e_nil ?_ | ((first | refine e_op ?_ | refine e_yes rfl ?_); (first | refine o_n (peval_sound rfl) rfl ?_ | refine o_n (nl rfl rfl tc rfl) rfl ?_ | refine o_storeC rfl rfl rfl rfl tc uc rfl rfl rfl ?_ | refine o_box rfl rfl (fun _ => ?_) | refine o_box1 rfl rfl rfl (fun _ => ?_) | refine o_alloc rfl rfl (fun _ => ?_))) | refine e_noU rfl rfl rfl ?_ | refine e_noN rfl rfl ?_ | refine s_seq ?_ | refine s_region ?_ | refine s_block ?_ | refine s_end ?_ | refine s_skip ?_ | refine s_exit ?_ | refine s_true rfl ?_ | refine s_false rfl ?_ | refine x_hit ?_ | refine x_code ?_ | refine x_back ?_ | refine x_miss rfl ?_)
    refine s_drawU [6] Tryd.mixed (by decide +kernel) ?_
    repeat' (first | refine l_nil ?_ | ((first | refine l_no rfl rfl rfl ?_ rfl ?_ | refine l_noN rfl rfl ?_ rfl ?_ | refine l_n (peval_sound rfl) rfl ?_ rfl ?_ | refine l_n (nl rfl rfl tc rfl) rfl ?_ rfl ?_ | refine l_ny rfl (peval_sound rfl) rfl ?_ rfl ?_ | refine l_ny rfl (nl rfl rfl tc rfl) rfl ?_ rfl ?_); · (first | exact Ent.refl _ | assumption | repeat' (first | exact Ent.refl _ | exact Ent.nil _ | refine Ent.tak .z ?_ | refine Ent.wk ?_))))
    refine l_n (n_index rfl rfl rfl rfl i rfl hlt) rfl (Ent.refl _) rfl ?_
    refine l_n (n_load_osl rfl rfl (.s .z) (rowC_load hl hlt)) rfl (Ent.refl _) rfl ?_
    refine l_e rfl (o_call (closed_w _ g o (acs[i]'(hl ▸ hlt)).1 (acs[i]'(hl ▸ hlt)).2 ks[i] (by omega) (by have := hL.p; omega) (by omega) (by omega) hki.inG) rfl .nil (Can.and (Can.ro hG0) (can_kerR hL hl (.s (.s .z)) (fun a ha => (hK.ok a ha).inG) hlt (by omega))) rfl ?_)
    rintro v V ⟨Ac, cc, rfl, rfl⟩
    refine ⟨Ent.wk (Ent.refl _), ?_⟩
    obtain ⟨n, hn⟩ : ∃ n, n = g.Terms.length + g.Nons.length := ⟨_, rfl⟩
    rw [← hn] at hTN hwr
    generalize hcl : closedP g ks[i] = cl at hcs hcm hcin hclen ⊢
    simp only [List.cons_append, List.nil_append]
    repeat' (first | refine l_nil ?_ | ((first | refine l_no rfl rfl rfl ?_ rfl ?_ | refine l_noN rfl rfl ?_ rfl ?_ | refine l_n (peval_sound rfl) rfl ?_ rfl ?_ | refine l_n (nl rfl rfl tc rfl) rfl ?_ rfl ?_ | refine l_ny rfl (peval_sound rfl) rfl ?_ rfl ?_ | refine l_ny rfl (nl rfl rfl tc rfl) rfl ?_ rfl ?_); · (first | exact Ent.refl _ | assumption | repeat' (first | exact Ent.refl _ | exact Ent.nil _ | refine Ent.tak .z ?_ | refine Ent.wk ?_))))
    refine s_ent (Ent.osl0 (e := 3) (sz := 1) (Ent.refl _)) ?_
    repeat' (first | refine e_nil ?_ | ((first | refine e_op ?_ | refine e_yes rfl ?_); (first | refine o_n (peval_sound rfl) rfl ?_ | refine o_n (nl rfl rfl tc rfl) rfl ?_ | refine o_storeC rfl rfl rfl rfl tc uc rfl rfl rfl ?_ | refine o_box rfl rfl (fun _ => ?_) | refine o_box1 rfl rfl rfl (fun _ => ?_) | refine o_alloc rfl rfl (fun _ => ?_))) | refine e_noU rfl rfl rfl ?_ | refine e_noN rfl rfl ?_ | refine s_seq ?_ | refine s_region ?_ | refine s_block ?_ | refine s_end ?_ | refine s_skip ?_ | refine s_exit ?_ | refine s_true rfl ?_ | refine s_false rfl ?_ | refine x_hit ?_ | refine x_code ?_ | refine x_back ?_ | refine x_miss rfl ?_)
    refine s_loopK (ι := {z : Nat × Option Addr × Nat × Option Addr × Nat × List (Option Addr × Nat) // z.1 ≤ n ∧ z.2.2.2.2.2.length = (symK g cl ks z.1).length ∧ (symK g cl ks z.1).length ≤ 512}) [1, 2, 5, 6, 7] rfl ⟨(0, none, 0, some ⟨b6, 0, none⟩, cK, acs), by omega, hl, hI.n⟩ (fun z => [(9, .int .i64 z.1.1), (8, .slice z.1.2.1 z.1.1 z.1.2.2.1)])
      (fun z => [osl 3 1 (.slice z.1.2.1 z.1.1 z.1.2.2.1) z.1.1 ((rowN g cl ks z.1.1).map (Value.int .i64)), pX Ac cl.length cc cl, blk b5 35 [.slice z.1.2.2.2.1 (symK g cl ks z.1.1).length z.1.2.2.2.2.1, .slice AG gs.length cG], kerS z.1.2.2.2.1 (symK g cl ks z.1.1).length z.1.2.2.2.2.1 z.1.2.2.2.2.2 (symK g cl ks z.1.1), kerB z.1.2.2.2.2.2 (symK g cl ks z.1.1), gotS AG gs.length cG bcs gs, gotB bcs gs, blk br 35 [.slice none 0 0, .slice none 0 0], blk bg 27 [.slice A0 g.Terms.length c0, .slice A1 g.Levels.length c1, .slice A2 g.Pats.length c2, .slice A3 g.Nons.length c3, .slice A4 g.Prods.length c4]])
      (fun z => n - z.1.1) ?_ ?_ ?_
    · repeat' (first | exact Sub.nil _ | refine Sub.cons rfl ?_ | refine Sub.consE rfl ?_ ?_)
    · exact Ent.refl _
    rintro ⟨⟨s, AR, cR, AK', cK', acs'⟩, hsn, hal, hks⟩
    simp only at hsn hal hks ⊢
    repeat' (first | refine e_nil ?_ | ((first | refine e_op ?_ | refine e_yes rfl ?_); (first | refine o_n (peval_sound rfl) rfl ?_ | refine o_n (nl rfl rfl tc rfl) rfl ?_ | refine o_storeC rfl rfl rfl rfl tc uc rfl rfl rfl ?_ | refine o_box rfl rfl (fun _ => ?_) | refine o_box1 rfl rfl rfl (fun _ => ?_) | refine o_alloc rfl rfl (fun _ => ?_))) | refine e_noU rfl rfl rfl ?_ | refine e_noN rfl rfl ?_ | refine s_seq ?_ | refine s_region ?_ | refine s_block ?_ | refine s_end ?_ | refine s_skip ?_ | refine s_exit ?_ | refine s_true rfl ?_ | refine s_false rfl ?_ | refine x_hit ?_ | refine x_code ?_ | refine x_back ?_ | refine x_miss rfl ?_)
    rw [hwr]
    refine s_cond rfl (fun h => ?_) (fun h => ?_)
    · have hs : s < n := by have h := of_decide_eq_true h; omega
      have hKs : KsOk g (symK g cl ks s) := by rw [← hcl]; exact symK_ok o hK hki s
      have hsy := symK_succ g cl ks s
      have hgle : (goI g cl s).length ≤ 1664 := Nat.le_trans goI_le hclen
      have hci : ∀ x ∈ cl, I64 x.Prod ∧ I64 x.Dot := fun x hx => by have := inG_dot hL (hcin x hx); exact ⟨⟨by omega, by omega⟩, ⟨by omega, by omega⟩⟩
      have hgi : ∀ x ∈ goI g cl s, I64 x.Prod ∧ I64 x.Dot := fun x hx => by
        unfold goI at hx
        obtain ⟨y, hy, rfl⟩ := List.mem_map.1 hx
        have := inG_dot hL (hcin y (List.mem_filter.1 hy).1)
        exact ⟨⟨by simp only; omega, by simp only; omega⟩, ⟨by simp only; omega, by simp only; omega⟩⟩
      repeat' (first | refine e_nil ?_ | ((first | refine e_op ?_ | refine e_yes rfl ?_); (first | refine o_n (peval_sound rfl) rfl ?_ | refine o_n (nl rfl rfl tc rfl) rfl ?_ | refine o_storeC rfl rfl rfl rfl tc uc rfl rfl rfl ?_ | refine o_box rfl rfl (fun _ => ?_) | refine o_box1 rfl rfl rfl (fun _ => ?_) | refine o_alloc rfl rfl (fun _ => ?_))) | refine e_noU rfl rfl rfl ?_ | refine e_noN rfl rfl ?_ | refine s_seq ?_ | refine s_region ?_ | refine s_block ?_ | refine s_end ?_ | refine s_skip ?_ | refine s_exit ?_ | refine s_true rfl ?_ | refine s_false rfl ?_ | refine x_hit ?_ | refine x_code ?_ | refine x_back ?_ | refine x_miss rfl ?_)
      refine e_op (o_call (goes_w _ g Ac cc cl s (by omega) hcs hcin (fun x hx => by have := inG_dot hL (hcin x hx); omega)) rfl .nil (Can.and (Can.ro hG0) (can_items (.s .z) hci (by omega))) rfl ?_)
      rintro v V ⟨Aq, cq, rfl, rfl⟩
      simp only [List.cons_append, List.nil_append]
      generalize hks' : symK g cl ks s = ks' at hal hks hKs hsy ⊢
      generalize hk : goI g cl s = k at hgle hgi hsy ⊢
      repeat' (first | refine e_nil ?_ | ((first | refine e_op ?_ | refine e_yes rfl ?_); (first | refine o_n (peval_sound rfl) rfl ?_ | refine o_n (nl rfl rfl tc rfl) rfl ?_ | refine o_storeC rfl rfl rfl rfl tc uc rfl rfl rfl ?_ | refine o_box rfl rfl (fun _ => ?_) | refine o_box1 rfl rfl rfl (fun _ => ?_) | refine o_alloc rfl rfl (fun _ => ?_))) | refine e_noU rfl rfl rfl ?_ | refine e_noN rfl rfl ?_ | refine s_seq ?_ | refine s_region ?_ | refine s_end ?_ | refine s_skip ?_ | refine s_exit ?_ | refine s_true rfl ?_ | refine s_false rfl ?_ | refine x_hit ?_ | refine x_code ?_ | refine x_back ?_ | refine x_miss rfl ?_)
      refine s_blockJ (ι := {a : Int // (a = -1 ∧ (k = [] ∨ k ∉ ks')) ∨ (k ≠ [] ∧ k ∈ ks' ∧ a = (ix ks' k : Nat))}) (fun a => [(11, .int .i64 a.1), (10, .slice Aq k.length cq), (9, .int .i64 s), (8, .slice AR s cR), (1, .pointer (some ⟨bg, 0, none⟩)), (2, .pointer (some ⟨br, 0, none⟩)), (5, .pointer (some ⟨b5, 0, none⟩)), (6, .int .i64 i), (7, .slice Ac cl.length cc)])
        (fun _ => [pX Aq k.length cq k, osl 3 1 (.slice AR s cR) s ((rowN g cl ks s).map (Value.int .i64)), pX Ac cl.length cc cl, blk b5 35 [.slice AK' ks'.length cK', .slice AG gs.length cG], kerS AK' ks'.length cK' acs' ks', kerB acs' ks', gotS AG gs.length cG bcs gs, gotB bcs gs, blk br 35 [.slice none 0 0, .slice none 0 0], blk bg 27 [.slice A0 g.Terms.length c0, .slice A1 g.Levels.length c1, .slice A2 g.Pats.length c2, .slice A3 g.Nons.length c3, .slice A4 g.Prods.length c4]]) (fun hfin => ?_) ?_
      · refine s_loopK (ι := {x : Nat × Int // x.1 ≤ ks'.length ∧ ((x.2 = -1 ∧ ∀ m (h : m < ks'.length), m < x.1 → ks'[m] ≠ k) ∨ (k ≠ [] ∧ k ∈ ks' ∧ x.2 = (ix ks' k : Nat)))}) [1, 2, 5, 6, 7, 8, 9, 10] rfl ⟨(0, -1), by omega, .inl ⟨rfl, fun m _ h => absurd h (Nat.not_lt_zero _)⟩⟩ (fun x => [(12, .int .i64 x.1.1), (11, .int .i64 x.1.2)])
          (fun _ => [pX Aq k.length cq k, osl 3 1 (.slice AR s cR) s ((rowN g cl ks s).map (Value.int .i64)), pX Ac cl.length cc cl, blk b5 35 [.slice AK' ks'.length cK', .slice AG gs.length cG], kerS AK' ks'.length cK' acs' ks', kerB acs' ks', gotS AG gs.length cG bcs gs, gotB bcs gs, blk br 35 [.slice none 0 0, .slice none 0 0], blk bg 27 [.slice A0 g.Terms.length c0, .slice A1 g.Levels.length c1, .slice A2 g.Pats.length c2, .slice A3 g.Nons.length c3, .slice A4 g.Prods.length c4]]) (fun x => ks'.length - x.1.1) ?_ (Ent.refl _) ?_
        · repeat' (first | exact Sub.nil _ | refine Sub.cons rfl ?_ | refine Sub.consE rfl ?_ ?_)
        rintro ⟨⟨m, a⟩, hm, hx⟩
        simp only at hm hx ⊢
        repeat' (first | refine e_nil ?_ | ((first | refine e_op ?_ | refine e_yes rfl ?_); (first | refine o_n (peval_sound rfl) rfl ?_ | refine o_n (nl rfl rfl tc rfl) rfl ?_ | refine o_storeC rfl rfl rfl rfl tc uc rfl rfl rfl ?_ | refine o_box rfl rfl (fun _ => ?_) | refine o_box1 rfl rfl rfl (fun _ => ?_) | refine o_alloc rfl rfl (fun _ => ?_))) | refine e_noU rfl rfl rfl ?_ | refine e_noN rfl rfl ?_ | refine s_seq ?_ | refine s_region ?_ | refine s_end ?_ | refine s_skip ?_ | refine s_exit ?_ | refine s_true rfl ?_ | refine s_false rfl ?_ | refine x_code ?_ | refine x_back ?_ | refine x_miss rfl ?_)
        by_cases hml : m < ks'.length
        · rw [decide_eq_true (p := ((m : Int) < (ks'.length : Int))) (by omega)]
          repeat' (first | refine e_nil ?_ | ((first | refine e_op ?_ | refine e_yes rfl ?_); (first | refine o_n (peval_sound rfl) rfl ?_ | refine o_n (nl rfl rfl tc rfl) rfl ?_ | refine o_storeC rfl rfl rfl rfl tc uc rfl rfl rfl ?_ | refine o_box rfl rfl (fun _ => ?_) | refine o_box1 rfl rfl rfl (fun _ => ?_) | refine o_alloc rfl rfl (fun _ => ?_))) | refine e_noU rfl rfl rfl ?_ | refine e_noN rfl rfl ?_ | refine s_seq ?_ | refine s_region ?_ | refine s_end ?_ | refine s_skip ?_ | refine s_exit ?_ | refine s_true rfl ?_ | refine s_false rfl ?_ | refine x_code ?_ | refine x_back ?_ | refine x_miss rfl ?_)
          by_cases hk0 : k = []
          · rw [decide_eq_false (p := ((k.length : Int) > 0)) (by rw [hk0]; simp)]
            repeat' (first | refine e_nil ?_ | ((first | refine e_op ?_ | refine e_yes rfl ?_); (first | refine o_n (peval_sound rfl) rfl ?_ | refine o_n (nl rfl rfl tc rfl) rfl ?_ | refine o_storeC rfl rfl rfl rfl tc uc rfl rfl rfl ?_ | refine o_box rfl rfl (fun _ => ?_) | refine o_box1 rfl rfl rfl (fun _ => ?_) | refine o_alloc rfl rfl (fun _ => ?_))) | refine e_noU rfl rfl rfl ?_ | refine e_noN rfl rfl ?_ | refine s_seq ?_ | refine s_region ?_ | refine s_end ?_ | refine s_skip ?_ | refine s_exit ?_ | refine s_true rfl ?_ | refine s_false rfl ?_ | refine x_code ?_ | refine x_back ?_ | refine x_miss rfl ?_)
            have ha : a = -1 := hx.elim (fun h => h.1) (fun h => absurd hk0 h.1)
            refine x_hit (s_weak ?_ (Ent.refl _) (hfin ⟨a, .inl ⟨ha, .inl hk0⟩⟩))
            repeat' (first | exact Sub.nil _ | refine Sub.cons rfl ?_ | refine Sub.consE rfl ?_ ?_)
          · have hkl : 0 < k.length := by rcases Nat.eq_zero_or_pos k.length with h | h; · exact absurd (List.eq_nil_of_length_eq_zero h) hk0
                                          · exact h
            rw [decide_eq_true (p := ((k.length : Int) > 0)) (by omega)]
            repeat' (first | refine e_nil ?_ | ((first | refine e_op ?_ | refine e_yes rfl ?_); (first | refine o_n (peval_sound rfl) rfl ?_ | refine o_n (nl rfl rfl tc rfl) rfl ?_ | refine o_storeC rfl rfl rfl rfl tc uc rfl rfl rfl ?_ | refine o_box rfl rfl (fun _ => ?_) | refine o_box1 rfl rfl rfl (fun _ => ?_) | refine o_alloc rfl rfl (fun _ => ?_))) | refine e_noU rfl rfl rfl ?_ | refine e_noN rfl rfl ?_ | refine s_seq ?_ | refine s_region ?_ | refine s_end ?_ | refine s_skip ?_ | refine s_exit ?_ | refine s_true rfl ?_ | refine s_false rfl ?_ | refine x_code ?_ | refine x_back ?_ | refine x_miss rfl ?_)
            rcases hx with ⟨ha, hno⟩ | ⟨h1, h2, ha⟩
            · subst ha
              rw [decide_eq_true (p := ((-1 : Int) < 0)) (by decide)]
              repeat' (first | refine e_nil ?_ | ((first | refine e_op ?_ | refine e_yes rfl ?_); (first | refine o_n (peval_sound rfl) rfl ?_ | refine o_n (nl rfl rfl tc rfl) rfl ?_ | refine o_storeC rfl rfl rfl rfl tc uc rfl rfl rfl ?_ | refine o_box rfl rfl (fun _ => ?_) | refine o_box1 rfl rfl rfl (fun _ => ?_) | refine o_alloc rfl rfl (fun _ => ?_))) | refine e_noU rfl rfl rfl ?_ | refine e_noN rfl rfl ?_ | refine s_seq ?_ | refine s_region ?_ | refine s_end ?_ | refine s_skip ?_ | refine s_exit ?_ | refine s_true rfl ?_ | refine s_false rfl ?_ | refine x_code ?_ | refine x_back ?_ | refine x_miss rfl ?_)
              refine s_open (.s (.s (.s (.s .z)))) (by omega) ?_
              rintro b8 rfl
              repeat' (first | refine e_nil ?_ | ((first | refine e_op ?_ | refine e_yes rfl ?_); (first | refine o_n (peval_sound rfl) rfl ?_ | refine o_n (nl rfl rfl tc rfl) rfl ?_ | refine o_storeC rfl rfl rfl rfl tc uc rfl rfl rfl ?_ | refine o_box rfl rfl (fun _ => ?_) | refine o_box1 rfl rfl rfl (fun _ => ?_) | refine o_alloc rfl rfl (fun _ => ?_))) | refine e_noU rfl rfl rfl ?_ | refine e_noN rfl rfl ?_ | refine s_seq ?_ | refine s_region ?_ | refine s_block ?_ | refine s_end ?_ | refine s_skip ?_ | refine s_exit ?_ | refine s_true rfl ?_ | refine s_false rfl ?_ | refine x_hit ?_ | refine x_code ?_ | refine x_back ?_ | refine x_miss rfl ?_)
              refine e_op (o_n (n_index rfl rfl rfl rfl m rfl hml) rfl ?_)
              refine e_op (o_n (n_load_osl rfl rfl (.s (.s (.s (.s .z)))) (rowC_load hal hml)) rfl ?_)
              repeat' (first | refine e_nil ?_ | ((first | refine e_op ?_ | refine e_yes rfl ?_); (first | refine o_n (peval_sound rfl) rfl ?_ | refine o_n (nl rfl rfl tc rfl) rfl ?_ | refine o_storeC rfl rfl rfl rfl tc uc rfl rfl rfl ?_ | refine o_box rfl rfl (fun _ => ?_) | refine o_box1 rfl rfl rfl (fun _ => ?_) | refine o_alloc rfl rfl (fun _ => ?_))) | refine e_noU rfl rfl rfl ?_ | refine e_noN rfl rfl ?_ | refine s_seq ?_ | refine s_region ?_ | refine s_block ?_ | refine s_end ?_ | refine s_skip ?_ | refine s_exit ?_ | refine s_true rfl ?_ | refine s_false rfl ?_ | refine x_hit ?_ | refine x_code ?_ | refine x_back ?_ | refine x_miss rfl ?_)
              refine e_op (o_call (sameItems_w (acs'[m]'(hal ▸ hml)).1 Aq (acs'[m]'(hal ▸ hml)).2 cq ks'[m] k) rfl .nil (Can.and (can_kerR hL hal (.s (.s (.s (.s (.s .z))))) (fun a ha => (hKs.ok a ha).inG) hml (by have := sort_len hL (hKs.ok _ (List.getElem_mem hml)).sort (hKs.ok _ (List.getElem_mem hml)).inG; omega)) (can_items .z hgi (by omega))) rfl ?_)
              rintro v V ⟨rfl, rfl⟩
              simp only [List.nil_append]
              repeat' (first | refine e_nil ?_ | ((first | refine e_op ?_ | refine e_yes rfl ?_); (first | refine o_n (peval_sound rfl) rfl ?_ | refine o_n (nl rfl rfl tc rfl) rfl ?_ | refine o_storeC rfl rfl rfl rfl tc uc rfl rfl rfl ?_ | refine o_box rfl rfl (fun _ => ?_) | refine o_box1 rfl rfl rfl (fun _ => ?_) | refine o_alloc rfl rfl (fun _ => ?_))) | refine e_noU rfl rfl rfl ?_ | refine e_noN rfl rfl ?_ | refine s_seq ?_ | refine s_region ?_ | refine s_block ?_ | refine s_end ?_ | refine s_skip ?_ | refine s_exit ?_ | refine s_true rfl ?_ | refine s_false rfl ?_ | refine x_hit ?_ | refine x_code ?_ | refine x_back ?_ | refine x_miss rfl ?_)
              refine s_cond rfl (fun h => ?_) (fun h => ?_)
              · have he2 : ks'[m] = k := of_decide_eq_true h
                repeat' (first | refine e_nil ?_ | ((first | refine e_op ?_ | refine e_yes rfl ?_); (first | refine o_n (peval_sound rfl) rfl ?_ | refine o_n (nl rfl rfl tc rfl) rfl ?_ | refine o_storeC rfl rfl rfl rfl tc uc rfl rfl rfl ?_ | refine o_box rfl rfl (fun _ => ?_) | refine o_box1 rfl rfl rfl (fun _ => ?_) | refine o_alloc rfl rfl (fun _ => ?_))) | refine e_noU rfl rfl rfl ?_ | refine e_noN rfl rfl ?_ | refine s_seq ?_ | refine s_region ?_ | refine s_block ?_ | refine s_end ?_ | refine s_skip ?_ | refine s_exit ?_ | refine s_true rfl ?_ | refine s_false rfl ?_ | refine x_hit ?_ | refine x_code ?_ | refine x_back ?_ | refine x_miss rfl ?_)
                refine s_back ⟨⟨(m + 1, (m : Nat)), by simp only; omega, .inr ⟨hk0, by rw [← he2]; exact List.getElem_mem hml, by simp only; rw [ix_first hml he2 hno]⟩⟩, by simp only; omega, ?_, Ent.refl _⟩
                repeat' (first | exact Sub.nil _ | refine Sub.cons rfl ?_ | refine Sub.consE rfl ?_ ?_)
                exact inc (i := m) (by omega)
              · have he2 : ks'[m] ≠ k := of_decide_eq_false h
                repeat' (first | refine e_nil ?_ | ((first | refine e_op ?_ | refine e_yes rfl ?_); (first | refine o_n (peval_sound rfl) rfl ?_ | refine o_n (nl rfl rfl tc rfl) rfl ?_ | refine o_storeC rfl rfl rfl rfl tc uc rfl rfl rfl ?_ | refine o_box rfl rfl (fun _ => ?_) | refine o_box1 rfl rfl rfl (fun _ => ?_) | refine o_alloc rfl rfl (fun _ => ?_))) | refine e_noU rfl rfl rfl ?_ | refine e_noN rfl rfl ?_ | refine s_seq ?_ | refine s_region ?_ | refine s_block ?_ | refine s_end ?_ | refine s_skip ?_ | refine s_exit ?_ | refine s_true rfl ?_ | refine s_false rfl ?_ | refine x_hit ?_ | refine x_code ?_ | refine x_back ?_ | refine x_miss rfl ?_)
                refine s_back ⟨⟨(m + 1, -1), by simp only; omega, .inl ⟨rfl, fun q hq hqm => ?_⟩⟩, by simp only; omega, ?_, Ent.refl _⟩
                · by_cases e : q = m
                  · subst e; exact he2
                  · exact hno q hq (by simp only at hqm; omega)
                · repeat' (first | exact Sub.nil _ | refine Sub.cons rfl ?_ | refine Sub.consE rfl ?_ ?_)
                  exact inc (i := m) (by omega)
            · rw [decide_eq_false (p := (a < 0)) (by omega)]
              repeat' (first | refine e_nil ?_ | ((first | refine e_op ?_ | refine e_yes rfl ?_); (first | refine o_n (peval_sound rfl) rfl ?_ | refine o_n (nl rfl rfl tc rfl) rfl ?_ | refine o_storeC rfl rfl rfl rfl tc uc rfl rfl rfl ?_ | refine o_box rfl rfl (fun _ => ?_) | refine o_box1 rfl rfl rfl (fun _ => ?_) | refine o_alloc rfl rfl (fun _ => ?_))) | refine e_noU rfl rfl rfl ?_ | refine e_noN rfl rfl ?_ | refine s_seq ?_ | refine s_region ?_ | refine s_end ?_ | refine s_skip ?_ | refine s_exit ?_ | refine s_true rfl ?_ | refine s_false rfl ?_ | refine x_code ?_ | refine x_back ?_ | refine x_miss rfl ?_)
              refine x_hit (s_weak ?_ (Ent.refl _) (hfin ⟨a, .inr ⟨h1, h2, ha⟩⟩))
              repeat' (first | exact Sub.nil _ | refine Sub.cons rfl ?_ | refine Sub.consE rfl ?_ ?_)
        · rw [decide_eq_false (p := ((m : Int) < (ks'.length : Int))) (by omega)]
          repeat' (first | refine e_nil ?_ | ((first | refine e_op ?_ | refine e_yes rfl ?_); (first | refine o_n (peval_sound rfl) rfl ?_ | refine o_n (nl rfl rfl tc rfl) rfl ?_ | refine o_storeC rfl rfl rfl rfl tc uc rfl rfl rfl ?_ | refine o_box rfl rfl (fun _ => ?_) | refine o_box1 rfl rfl rfl (fun _ => ?_) | refine o_alloc rfl rfl (fun _ => ?_))) | refine e_noU rfl rfl rfl ?_ | refine e_noN rfl rfl ?_ | refine s_seq ?_ | refine s_region ?_ | refine s_end ?_ | refine s_skip ?_ | refine s_exit ?_ | refine s_true rfl ?_ | refine s_false rfl ?_ | refine x_code ?_ | refine x_back ?_ | refine x_miss rfl ?_)
          refine x_hit (s_weak ?_ (Ent.refl _) (hfin ⟨a, ?_⟩))
          · repeat' (first | exact Sub.nil _ | refine Sub.cons rfl ?_ | refine Sub.consE rfl ?_ ?_)
          · rcases hx with ⟨ha, hno⟩ | ⟨h1, h2, ha⟩
            · refine .inl ⟨ha, .inr fun hin => ?_⟩
              obtain ⟨q, hq, e⟩ := List.getElem_of_mem hin
              exact hno q hq (by omega) e
            · exact .inr ⟨h1, h2, ha⟩
      · rintro ⟨a, ha⟩
        simp only
        refine s_seq ?_
        refine s_join (ι := {z : Option Addr × Nat × List (Option Addr × Nat) // z.2.2.length = (addK ks' k).length ∧ (addK ks' k).length ≤ 512}) (fun _ => [(11, .int .i64 (numK (addK ks' k) k)), (9, .int .i64 s), (8, .slice AR s cR), (1, .pointer (some ⟨bg, 0, none⟩)), (2, .pointer (some ⟨br, 0, none⟩)), (5, .pointer (some ⟨b5, 0, none⟩)), (6, .int .i64 i), (7, .slice Ac cl.length cc)])
          (fun z => [osl 3 1 (.slice AR s cR) s ((rowN g cl ks s).map (Value.int .i64)), pX Ac cl.length cc cl, blk b5 35 [.slice z.1.1 (addK ks' k).length z.1.2.1, .slice AG gs.length cG], kerS z.1.1 (addK ks' k).length z.1.2.1 z.1.2.2 (addK ks' k), kerB z.1.2.2 (addK ks' k), gotS AG gs.length cG bcs gs, gotB bcs gs, blk br 35 [.slice none 0 0, .slice none 0 0], blk bg 27 [.slice A0 g.Terms.length c0, .slice A1 g.Levels.length c1, .slice A2 g.Pats.length c2, .slice A3 g.Nons.length c3, .slice A4 g.Prods.length c4]]) (fun hj => ?_) ?_
        · refine s_seq ?_
          refine s_region ?_
          repeat' (first | ((first | refine e_op ?_ | refine e_yes rfl ?_); (first | refine o_n (peval_sound rfl) rfl ?_ | refine o_n (nl rfl rfl tc rfl) rfl ?_ | refine o_storeC rfl rfl rfl rfl tc uc rfl rfl rfl ?_ | refine o_box rfl rfl (fun _ => ?_) | refine o_box1 rfl rfl rfl (fun _ => ?_) | refine o_alloc rfl rfl (fun _ => ?_))) | refine e_noU rfl rfl rfl ?_ | refine e_noN rfl rfl ?_)
          by_cases hk0 : k = []
          · have e1 : addK ks' k = ks' := by unfold addK; rw [if_pos (.inl hk0)]
            have h2 : a = numK (addK ks' k) k := by unfold numK; rw [if_pos hk0]; exact ha.elim (fun h => h.1) (fun h => absurd hk0 h.1)
            rw [decide_eq_false (p := ((k.length : Int) > 0)) (by rw [hk0]; simp)]
            repeat' (first | ((first | refine e_op ?_ | refine e_yes rfl ?_); (first | refine o_n (peval_sound rfl) rfl ?_ | refine o_n (nl rfl rfl tc rfl) rfl ?_ | refine o_storeC rfl rfl rfl rfl tc uc rfl rfl rfl ?_ | refine o_box rfl rfl (fun _ => ?_) | refine o_box1 rfl rfl rfl (fun _ => ?_) | refine o_alloc rfl rfl (fun _ => ?_))) | refine e_noU rfl rfl rfl ?_ | refine e_noN rfl rfl ?_)
            refine e_nil ?_
            refine s_false rfl ?_
            refine s_skip ?_
            refine s_weak ?_ ?_ (hj ⟨(AK', cK', acs'), by rw [e1]; exact hal, by rw [e1]; exact hks⟩)
            · rw [← h2]; repeat' (first | exact Sub.nil _ | refine Sub.cons rfl ?_ | refine Sub.consE rfl ?_ ?_)
            · simp only [e1]; exact Ent.wk (Ent.refl _)
          have hkl : 0 < k.length := by rcases Nat.eq_zero_or_pos k.length with h | h; · exact absurd (List.eq_nil_of_length_eq_zero h) hk0
                                        · exact h
          rw [decide_eq_true (p := ((k.length : Int) > 0)) (by omega)]
          repeat' (first | ((first | refine e_op ?_ | refine e_yes rfl ?_); (first | refine o_n (peval_sound rfl) rfl ?_ | refine o_n (nl rfl rfl tc rfl) rfl ?_ | refine o_storeC rfl rfl rfl rfl tc uc rfl rfl rfl ?_ | refine o_box rfl rfl (fun _ => ?_) | refine o_box1 rfl rfl rfl (fun _ => ?_) | refine o_alloc rfl rfl (fun _ => ?_))) | refine e_noU rfl rfl rfl ?_ | refine e_noN rfl rfl ?_)
          by_cases hmem : k ∈ ks'
          · have e1 : addK ks' k = ks' := by unfold addK; rw [if_pos (.inr hmem)]
            have h3 : a = (ix ks' k : Nat) := ha.elim (fun h => (h.2.elim (fun h => absurd h hk0) (fun h => absurd hmem h))) (fun h => h.2.2)
            have h2 : a = numK (addK ks' k) k := by unfold numK; rw [if_neg hk0, e1]; exact h3
            rw [decide_eq_false (p := (a < 0)) (by omega)]
            repeat' (first | ((first | refine e_op ?_ | refine e_yes rfl ?_); (first | refine o_n (peval_sound rfl) rfl ?_ | refine o_n (nl rfl rfl tc rfl) rfl ?_ | refine o_storeC rfl rfl rfl rfl tc uc rfl rfl rfl ?_ | refine o_box rfl rfl (fun _ => ?_) | refine o_box1 rfl rfl rfl (fun _ => ?_) | refine o_alloc rfl rfl (fun _ => ?_))) | refine e_noU rfl rfl rfl ?_ | refine e_noN rfl rfl ?_)
            refine e_nil ?_
            refine s_false rfl ?_
            refine s_skip ?_
            refine s_weak ?_ ?_ (hj ⟨(AK', cK', acs'), by rw [e1]; exact hal, by rw [e1]; exact hks⟩)
            · rw [← h2]; repeat' (first | exact Sub.nil _ | refine Sub.cons rfl ?_ | refine Sub.consE rfl ?_ ?_)
            · simp only [e1]; exact Ent.wk (Ent.refl _)
          have e1 : addK ks' k = ks' ++ [k] := by unfold addK; rw [if_neg (fun h => h.elim hk0 hmem)]
          have e2 : numK (addK ks' k) k = (ks'.length : Int) := by unfold numK; rw [if_neg hk0, e1, ix_app_not hmem]
          have ha1 : a = -1 := ha.elim (fun h => h.1) (fun h => absurd h.2.1 hmem)
          subst ha1
          rw [decide_eq_true (p := ((-1 : Int) < 0)) (by decide)]
          repeat' (first | ((first | refine e_op ?_ | refine e_yes rfl ?_); (first | refine o_n (peval_sound rfl) rfl ?_ | refine o_n (nl rfl rfl tc rfl) rfl ?_ | refine o_storeC rfl rfl rfl rfl tc uc rfl rfl rfl ?_ | refine o_box rfl rfl (fun _ => ?_) | refine o_box1 rfl rfl rfl (fun _ => ?_) | refine o_alloc rfl rfl (fun _ => ?_))) | refine e_noU rfl rfl rfl ?_ | refine e_noN rfl rfl ?_)
          refine e_nil ?_
          refine s_true rfl ?_
          repeat' (first | refine e_nil ?_ | ((first | refine e_op ?_ | refine e_yes rfl ?_); (first | refine o_n (peval_sound rfl) rfl ?_ | refine o_n (nl rfl rfl tc rfl) rfl ?_ | refine o_storeC rfl rfl rfl rfl tc uc rfl rfl rfl ?_ | refine o_box rfl rfl (fun _ => ?_) | refine o_box1 rfl rfl rfl (fun _ => ?_) | refine o_alloc rfl rfl (fun _ => ?_))) | refine e_noU rfl rfl rfl ?_ | refine e_noN rfl rfl ?_ | refine s_seq ?_ | refine s_region ?_ | refine s_block ?_ | refine s_end ?_ | refine s_skip ?_ | refine s_exit ?_ | refine s_true rfl ?_ | refine s_false rfl ?_ | refine x_hit ?_ | refine x_code ?_ | refine x_back ?_ | refine x_miss rfl ?_)
          refine e_op (o_lit (ps := [(0, .slice Aq k.length cq)]) (cs := [.slice Aq k.length cq]) rfl rfl rfl rfl rfl rfl rfl (fun bl => ?_))
          refine e_op (o_append (v := .slice AK' ks'.length cK') (n := ks'.length) (m := 1) (xs := rowC acs' ks') (news := [.slice Aq k.length cq]) _ rfl rfl rfl rfl (fun w hm q u hu => ?_) rfl ?_ rfl (by omega) (by simp only; omega) (by omega) rfl (fun b c => (.s (.s (.s (.s (.s .z)))))) (fun ba ca => ?_))
          · obtain ⟨S1, hP, _⟩ := hm.tak .z
            rw [Nat.zero_add]
            exact osl_cells hP q u hu
          · simp [oneB]
          repeat' (first | refine e_nil ?_ | ((first | refine e_op ?_ | refine e_yes rfl ?_); (first | refine o_n (peval_sound rfl) rfl ?_ | refine o_n (nl rfl rfl tc rfl) rfl ?_ | refine o_storeC rfl rfl rfl rfl tc uc rfl rfl rfl ?_ | refine o_box rfl rfl (fun _ => ?_) | refine o_box1 rfl rfl rfl (fun _ => ?_) | refine o_alloc rfl rfl (fun _ => ?_))) | refine e_noU rfl rfl rfl ?_ | refine e_noN rfl rfl ?_ | refine s_seq ?_ | refine s_region ?_ | refine s_block ?_ | refine s_end ?_ | refine s_skip ?_ | refine s_exit ?_ | refine s_true rfl ?_ | refine s_false rfl ?_ | refine x_hit ?_ | refine x_code ?_ | refine x_back ?_ | refine x_miss rfl ?_)
          have eL : (ks' ++ [k]).length = ks'.length + 1 := by simp
          refine s_cond rfl (fun h => ?_) (fun h => ?_)
          · have hov : 512 < (symK g cl ks (s + 1)).length := by rw [hsy, e1, eL]; have h := of_decide_eq_true h; omega
            have hnone := hI.over hlt (m := s + 1) (by omega) (by rw [hcl]; exact hov)
            have hce : lrE g = 5 := by unfold lrE; rw [if_neg (fun hn => hn he), hnone]
            obtain ⟨h1, h2⟩ := lr_bad (by rw [hce]; decide)
            rw [h1, h2, hce]
            repeat' (first | refine e_nil ?_ | ((first | refine e_op ?_ | refine e_yes rfl ?_); (first | refine o_n (peval_sound rfl) rfl ?_ | refine o_n (nl rfl rfl tc rfl) rfl ?_ | refine o_storeC rfl rfl rfl rfl tc uc rfl rfl rfl ?_ | refine o_box rfl rfl (fun _ => ?_) | refine o_box1 rfl rfl rfl (fun _ => ?_) | refine o_alloc rfl rfl (fun _ => ?_))) | refine e_noU rfl rfl rfl ?_ | refine e_noN rfl rfl ?_ | refine s_seq ?_ | refine s_region ?_ | refine s_block ?_ | refine s_end ?_ | refine s_skip ?_ | refine s_exit ?_ | refine s_true rfl ?_ | refine s_false rfl ?_ | refine x_hit ?_ | refine x_code ?_ | refine x_back ?_ | refine x_miss rfl ?_)
            refine s_ret ⟨_, _, resc2 rfl rfl rfl (.s (.s (.s (.s (.s (.s (.s (.s (.s .z))))))))) (ld_all (n := 2) rfl rfl rfl rfl) rfl, ⟨_, rfl, none, 0, [], none, 0, [], rfl, rfl, rfl, rfl⟩, ent_lr0⟩
          · have hle2 : (addK ks' k).length ≤ 512 := by rw [e1, eL]; have h := of_decide_eq_false h; omega
            refine s_skip ?_
            refine s_weak ?_ ?_ (hj ⟨(some ⟨ba, 0, none⟩, ca, acs' ++ [(Aq, cq)]), by rw [e1, eL]; simp [hal], hle2⟩)
            · rw [e2]; repeat' (first | exact Sub.nil _ | refine Sub.cons rfl ?_ | refine Sub.consE rfl ?_ ?_)
            · unfold kerS
              simp only [e1, eL]
              rw [Go.Proofs.YtcbaebkkdkdaaaaDoor.E.rowC_snoc (ac := (Aq, cq)) (r := k) hal]
              exact Ent.wk (Ent.tak (.s .z) (Ent.tak (.s .z) (Ent.tak (.s .z) (Ent.tak (.s .z) (ent_bsnoc (f := fun l : List Itm => l.flatMap encX) (ac := (Aq, cq)) hal)))))
        · rintro ⟨⟨AK2, cK2, acs2⟩, hal2, hle2⟩
          simp only at hal2 hle2 ⊢
          rw [← hsy] at hal2 hle2 ⊢
          refine s_region ?_
          repeat' (first | ((first | refine e_op ?_ | refine e_yes rfl ?_); (first | refine o_n (peval_sound rfl) rfl ?_ | refine o_n (nl rfl rfl tc rfl) rfl ?_ | refine o_storeC rfl rfl rfl rfl tc uc rfl rfl rfl ?_ | refine o_box rfl rfl (fun _ => ?_) | refine o_box1 rfl rfl rfl (fun _ => ?_) | refine o_alloc rfl rfl (fun _ => ?_))) | refine e_noU rfl rfl rfl ?_ | refine e_noN rfl rfl ?_)
          refine e_op (o_lit (ps := [(0, .int .i64 (numK (symK g cl ks (s + 1)) k))]) (cs := [.int .i64 (numK (symK g cl ks (s + 1)) k)]) rfl rfl rfl rfl rfl rfl rfl (fun bl => ?_))
          refine e_op (o_append (v := .slice AR s cR) (n := s) (m := 1) (xs := (rowN g cl ks s).map (Value.int .i64)) (news := [.int .i64 (numK (symK g cl ks (s + 1)) k)]) _ rfl rfl rfl rfl (fun w hm q u hu => ?_) rfl ?_ rfl (by omega) (by simp only; omega) (by omega) rfl (fun b c => .s .z) (fun ba ca => ?_))
          · obtain ⟨S1, hP, _⟩ := hm.tak .z
            rw [Nat.zero_add]
            exact osl_cells hP q u hu
          · simp [oneB]
          have hrw : (rowN g cl ks s).map (Value.int .i64) ++ [.int .i64 (numK (symK g cl ks (s + 1)) k)] = (rowN g cl ks (s + 1)).map (Value.int .i64) := by rw [rowN_succ, List.map_append, hk]; rfl
          rw [hrw]
          repeat' (first | refine e_nil ?_ | ((first | refine e_op ?_ | refine e_yes rfl ?_); (first | refine o_n (peval_sound rfl) rfl ?_ | refine o_n (nl rfl rfl tc rfl) rfl ?_ | refine o_storeC rfl rfl rfl rfl tc uc rfl rfl rfl ?_ | refine o_box rfl rfl (fun _ => ?_) | refine o_box1 rfl rfl rfl (fun _ => ?_) | refine o_alloc rfl rfl (fun _ => ?_))) | refine e_noU rfl rfl rfl ?_ | refine e_noN rfl rfl ?_ | refine s_seq ?_ | refine s_region ?_ | refine s_block ?_ | refine s_end ?_ | refine s_skip ?_ | refine s_exit ?_ | refine s_true rfl ?_ | refine s_false rfl ?_ | refine x_hit ?_ | refine x_code ?_ | refine x_back ?_ | refine x_miss rfl ?_)
          refine s_back ⟨⟨(s + 1, some ⟨ba, 0, none⟩, ca, AK2, cK2, acs2), by simp only; omega, hal2, hle2⟩, by simp only; omega, ?_, ?_⟩
          · repeat' (first | exact Sub.nil _ | refine Sub.cons rfl ?_ | refine Sub.consE rfl ?_ ?_)
            exact inc (i := s) (by omega)
          · exact Ent.wk (Ent.refl _)
    · have hsn2 : s = n := by have h := of_decide_eq_false h; omega
      subst hsn2
      have hle2 := hks
      have hgn : gs.length ≤ 512 := by have := hI.n; omega
      repeat' (first | refine e_nil ?_ | ((first | refine e_op ?_ | refine e_yes rfl ?_); (first | refine o_n (peval_sound rfl) rfl ?_ | refine o_n (nl rfl rfl tc rfl) rfl ?_ | refine o_storeC rfl rfl rfl rfl tc uc rfl rfl rfl ?_ | refine o_box rfl rfl (fun _ => ?_) | refine o_box1 rfl rfl rfl (fun _ => ?_) | refine o_alloc rfl rfl (fun _ => ?_))) | refine e_noU rfl rfl rfl ?_ | refine e_noN rfl rfl ?_ | refine s_seq ?_ | refine s_region ?_ | refine s_block ?_ | refine s_end ?_ | refine s_skip ?_ | refine s_exit ?_ | refine s_true rfl ?_ | refine s_false rfl ?_ | refine x_hit ?_ | refine x_code ?_ | refine x_back ?_ | refine x_miss rfl ?_)
      refine e_op (o_lit (ps := [(0, .slice AR s cR)]) (cs := [.slice AR s cR]) rfl rfl rfl rfl rfl rfl rfl (fun bl => ?_))
      refine e_op (o_append (v := .slice AG gs.length cG) (n := gs.length) (m := 1) (xs := rowC bcs gs) (news := [.slice AR s cR]) _ rfl rfl rfl rfl (fun w hm q u hu => ?_) rfl ?_ rfl (by omega) (by simp only; omega) (by omega) rfl (fun b c => (.s (.s (.s (.s (.s (.s .z))))))) (fun ba ca => ?_))
      · obtain ⟨S1, hP, _⟩ := hm.tak .z
        rw [Nat.zero_add]
        exact osl_cells hP q u hu
      · simp [oneB]
      repeat' (first | refine e_nil ?_ | ((first | refine e_op ?_ | refine e_yes rfl ?_); (first | refine o_n (peval_sound rfl) rfl ?_ | refine o_n (nl rfl rfl tc rfl) rfl ?_ | refine o_storeC rfl rfl rfl rfl tc uc rfl rfl rfl ?_ | refine o_box rfl rfl (fun _ => ?_) | refine o_box1 rfl rfl rfl (fun _ => ?_) | refine o_alloc rfl rfl (fun _ => ?_))) | refine e_noU rfl rfl rfl ?_ | refine e_noN rfl rfl ?_ | refine s_seq ?_ | refine s_region ?_ | refine s_block ?_ | refine s_end ?_ | refine s_skip ?_ | refine s_exit ?_ | refine s_true rfl ?_ | refine s_false rfl ?_ | refine x_hit ?_ | refine x_code ?_ | refine x_back ?_ | refine x_miss rfl ?_)
      have hnx := hI.next o hlt (by rw [hcl, ← hn]; exact hle2)
      have hrn := rows_next o hI hlt (by rw [hcl, ← hn]; exact hle2) hgs
      rw [hcl, ← hn] at hnx hrn
      refine s_back ⟨⟨⟨i + 1, AK', cK', acs', symK g cl ks s, some ⟨ba, 0, none⟩, ca, bcs ++ [(AR, cR)], gs ++ [rowN g cl ks s]⟩, ⟨hnx, hal, by simp [hb], by simp [hgl], hrn⟩⟩, ?_, ?_, ?_⟩
      · have := hnx.le; have := hI.n; simp only; omega
      · repeat' (first | exact Sub.nil _ | refine Sub.cons rfl ?_ | refine Sub.consE rfl ?_ ?_)
        exact inc (i := i) (by have := hI.n; omega)
      · simp only
        have eL : (gs ++ [rowN g cl ks s]).length = gs.length + 1 := by simp
        have hra : osl 3 1 (.slice AR s cR) s ((rowN g cl ks s).map (Value.int .i64)) = rowA (fun l : List Int => l.map (Value.int .i64)) 1 3 (AR, cR) (rowN g cl ks s) := by unfold rowA; simp only [rowN_len]
        have hrc : rowC (bcs ++ [(AR, cR)]) (gs ++ [rowN g cl ks s]) = rowC bcs gs ++ [.slice AR s cR] := by rw [Go.Proofs.YtcbaebkkdkdaaaaDoor.E.rowC_snoc (ac := (AR, cR)) (r := rowN g cl ks s) hb, rowN_len]
        unfold gotS
        rw [hra, hrc, eL]
        refine Ent.wk (Ent.tak (.s (.s .z)) (Ent.tak (.s (.s .z)) (Ent.tak (.s (.s .z)) (Ent.tak (.s (.s .z)) ?_))))
        exact Ent.trans (Ent.cons (Ent.wk (Ent.refl _))) (ent_bsnoc (f := fun l : List Int => l.map (Value.int .i64)) hb)
  · have hfin := hI.fin (by simpa using h)
    have hce : lrE g = 0 := by unfold lrE; rw [if_neg (fun hn => hn he), hfin]
    have hkk : lrKs g = ks := by unfold lrKs; rw [if_pos hce, hfin]; rfl
    have hgg : lrGs g = gs := by
      unfold lrGs
      rw [hkk, hgs ks hfin, List.take_of_length_le (by simpa using h)]
    repeat' (first | refine e_nil ?_ | ((first | refine e_op ?_ | refine e_yes rfl ?_); (first | refine o_n (peval_sound rfl) rfl ?_ | refine o_n (nl rfl rfl tc rfl) rfl ?_ | refine o_storeC rfl rfl rfl rfl tc uc rfl rfl rfl ?_ | refine o_box rfl rfl (fun _ => ?_) | refine o_box1 rfl rfl rfl (fun _ => ?_) | refine o_alloc rfl rfl (fun _ => ?_))) | refine e_noU rfl rfl rfl ?_ | refine e_noN rfl rfl ?_ | refine s_seq ?_ | refine s_region ?_ | refine s_block ?_ | refine s_end ?_ | refine s_skip ?_ | refine s_exit ?_ | refine s_true rfl ?_ | refine s_false rfl ?_ | refine x_hit ?_ | refine x_code ?_ | refine x_back ?_ | refine x_miss rfl ?_)
    refine s_ret ⟨.tuple #[.agg #[.slice AK ks.length cK, .slice AG gs.length cG], .int .i64 0], [kerS AK ks.length cK acs ks, kerB acs ks, gotS AG gs.length cG bcs gs, gotB bcs gs], resc2 rfl rfl rfl (.s (.s (.s (.s (.s .z))))) (ld_all (n := 2) rfl rfl rfl rfl) rfl, ⟨_, by rw [hce], ?_⟩, ?_⟩
    · rw [hkk, hgg]; exact ⟨AK, cK, acs, AG, cG, bcs, hl, hb, rfl, rfl⟩
    · exact Ent.wk (Ent.cons (Ent.cons (Ent.cons (Ent.cons (Ent.nil _)))))

end Go.Proofs.YtcbaebkkdkdaaaaDoor

namespace Go.Proofs.YtcbaebkkdkdaaaaDoor
set_option linter.all false
open Go.Proofs.YtcbaebkkdkdaaaaDoor.E

def kLr : Kd (List (List Itm) × List (List Int)) := kpair (kslice 24 (kslice 16 kItm)) (kslice 24 (kslice 8 kint))

theorem take_same {α : Type} {a b : List α} {i : Nat} (ha : i < a.length) (hb : i < b.length) (ht : a.take i = b.take i) (he : a[i] = b[i]) : a.take (i + 1) = b.take (i + 1) := by
  rw [List.take_succ_eq_append_getElem ha, List.take_succ_eq_append_getElem hb, ht, he]

attribute [local irreducible] EVX EVO EVL EV1 NEV
attribute [local irreducible] own osl exA rdA rdL
set_option maxRecDepth 10000
set_option maxHeartbeats 4000000

theorem same19_w (c1 c2 : List Value) (x y : List (List Itm) × List (List Int)) (hx : x.2.length = x.1.length) :
    Trip Tryd.prog 19 [.agg c1.toArray, .agg c2.toArray] ((kLr.rd c1 x).and (kLr.rd c2 y)) [] (fun v V => v = .bool (decide (x = y)) ∧ V = []) := by
  obtain ⟨xk, xg⟩ := x
  obtain ⟨yk, yg⟩ := y
  simp only at hx ⊢
  refine trip Tryd.tabOk Tryd.func19 rfl rfl rfl rfl ?_
  rintro w SM ⟨⟨d1, d2, rfl, ⟨A1, a1, rfl, h1⟩, ⟨A2, a2, rfl, h2⟩⟩, ⟨d3, d4, rfl, ⟨A3, a3, rfl, h3⟩, ⟨A4, a4, rfl, h4⟩⟩⟩
  simp only at h1 h2 h3 h4
  simp only [List.cons_append, List.nil_append]
  repeat' (first | refine e_nil ?_ | ((first | refine e_op ?_ | refine e_yes rfl ?_); (first | refine o_n (peval_sound rfl) rfl ?_ | refine o_n (nl rfl rfl tc rfl) rfl ?_ | refine o_storeC rfl rfl rfl rfl tc uc rfl rfl rfl ?_ | refine o_box rfl rfl (fun _ => ?_) | refine o_box1 rfl rfl rfl (fun _ => ?_) | refine o_alloc rfl rfl (fun _ => ?_))) | refine e_noU rfl rfl rfl ?_ | refine e_noN rfl rfl ?_ | refine s_seq ?_ | refine s_region ?_ | refine s_block ?_ | refine s_end ?_ | refine s_skip ?_ | refine s_exit ?_ | refine s_true rfl ?_ | refine s_false rfl ?_ | refine x_hit ?_ | refine x_code ?_ | refine x_back ?_ | refine x_miss rfl ?_)
  rename_i b2 b3
  cases hq1 : ((xk.length : Int) != (yk.length : Int)) with
  | true =>
    have hne : xk.length ≠ yk.length := by simp at hq1; omega
    repeat' (first | refine e_nil ?_ | ((first | refine e_op ?_ | refine e_yes rfl ?_); (first | refine o_n (peval_sound rfl) rfl ?_ | refine o_n (nl rfl rfl tc rfl) rfl ?_ | refine o_storeC rfl rfl rfl rfl tc uc rfl rfl rfl ?_ | refine o_box rfl rfl (fun _ => ?_) | refine o_box1 rfl rfl rfl (fun _ => ?_) | refine o_alloc rfl rfl (fun _ => ?_))) | refine e_noU rfl rfl rfl ?_ | refine e_noN rfl rfl ?_ | refine s_seq ?_ | refine s_region ?_ | refine s_block ?_ | refine s_end ?_ | refine s_skip ?_ | refine s_exit ?_ | refine s_true rfl ?_ | refine s_false rfl ?_ | refine x_hit ?_ | refine x_code ?_ | refine x_back ?_ | refine x_miss rfl ?_)
    refine s_ret ⟨_, _, res1 rfl rfl, ⟨?_, rfl⟩, Ent.nil _⟩
    rw [decide_eq_false]
    intro h
    simp only [Prod.mk.injEq] at h
    exact hne (by rw [h.1])
  | false =>
  have hlk : xk.length = yk.length := by simp at hq1; omega
  repeat' (first | refine e_nil ?_ | ((first | refine e_op ?_ | refine e_yes rfl ?_); (first | refine o_n (peval_sound rfl) rfl ?_ | refine o_n (nl rfl rfl tc rfl) rfl ?_ | refine o_storeC rfl rfl rfl rfl tc uc rfl rfl rfl ?_ | refine o_box rfl rfl (fun _ => ?_) | refine o_box1 rfl rfl rfl (fun _ => ?_) | refine o_alloc rfl rfl (fun _ => ?_))) | refine e_noU rfl rfl rfl ?_ | refine e_noN rfl rfl ?_ | refine s_seq ?_ | refine s_region ?_ | refine s_block ?_ | refine s_end ?_ | refine s_skip ?_ | refine s_exit ?_ | refine s_true rfl ?_ | refine s_false rfl ?_ | refine x_hit ?_ | refine x_code ?_ | refine x_back ?_ | refine x_miss rfl ?_)
  refine s_cond rfl (fun h => ?_) (fun h => ?_)
  · have hne : xg.length ≠ yg.length := by simp at h; omega
    repeat' (first | refine e_nil ?_ | ((first | refine e_op ?_ | refine e_yes rfl ?_); (first | refine o_n (peval_sound rfl) rfl ?_ | refine o_n (nl rfl rfl tc rfl) rfl ?_ | refine o_storeC rfl rfl rfl rfl tc uc rfl rfl rfl ?_ | refine o_box rfl rfl (fun _ => ?_) | refine o_box1 rfl rfl rfl (fun _ => ?_) | refine o_alloc rfl rfl (fun _ => ?_))) | refine e_noU rfl rfl rfl ?_ | refine e_noN rfl rfl ?_ | refine s_seq ?_ | refine s_region ?_ | refine s_block ?_ | refine s_end ?_ | refine s_skip ?_ | refine s_exit ?_ | refine s_true rfl ?_ | refine s_false rfl ?_ | refine x_hit ?_ | refine x_code ?_ | refine x_back ?_ | refine x_miss rfl ?_)
    refine s_ret ⟨_, _, res1 rfl rfl, ⟨?_, rfl⟩, Ent.nil _⟩
    rw [decide_eq_false]
    intro h
    simp only [Prod.mk.injEq] at h
    exact hne (by rw [h.2])
  have hlg : xg.length = yg.length := by simp at h; omega
  repeat' (first | refine e_nil ?_ | ((first | refine e_op ?_ | refine e_yes rfl ?_); (first | refine o_n (peval_sound rfl) rfl ?_ | refine o_n (nl rfl rfl tc rfl) rfl ?_ | refine o_storeC rfl rfl rfl rfl tc uc rfl rfl rfl ?_ | refine o_box rfl rfl (fun _ => ?_) | refine o_box1 rfl rfl rfl (fun _ => ?_) | refine o_alloc rfl rfl (fun _ => ?_))) | refine e_noU rfl rfl rfl ?_ | refine e_noN rfl rfl ?_ | refine s_seq ?_ | refine s_region ?_ | refine s_block ?_ | refine s_end ?_ | refine s_skip ?_ | refine s_exit ?_ | refine s_true rfl ?_ | refine s_false rfl ?_ | refine x_hit ?_ | refine x_code ?_ | refine x_back ?_ | refine x_miss rfl ?_)
  refine s_loopK (ι := {i : Nat // i ≤ xk.length ∧ xk.take i = yk.take i ∧ xg.take i = yg.take i}) [2, 3] rfl ⟨0, by omega, by simp, by simp⟩ (fun i => [(5, .int .i64 i.1)]) (fun _ => [blk b3 35 [.slice A3 yk.length a3, .slice A4 yg.length a4], blk b2 35 [.slice A1 xk.length a1, .slice A2 xg.length a2]]) (fun i => xk.length - i.1) ?_ (Ent.refl _) ?_
  · repeat' (first | exact Sub.nil _ | refine Sub.cons rfl ?_ | refine Sub.consE rfl ?_ ?_)
  rintro ⟨i, hi, htk, htg⟩
  simp only at hi htk htg ⊢
  repeat' (first | refine e_nil ?_ | ((first | refine e_op ?_ | refine e_yes rfl ?_); (first | refine o_n (peval_sound rfl) rfl ?_ | refine o_n (nl rfl rfl tc rfl) rfl ?_ | refine o_storeC rfl rfl rfl rfl tc uc rfl rfl rfl ?_ | refine o_box rfl rfl (fun _ => ?_) | refine o_box1 rfl rfl rfl (fun _ => ?_) | refine o_alloc rfl rfl (fun _ => ?_))) | refine e_noU rfl rfl rfl ?_ | refine e_noN rfl rfl ?_ | refine s_seq ?_ | refine s_region ?_ | refine s_block ?_ | refine s_end ?_ | refine s_skip ?_ | refine s_exit ?_ | refine s_true rfl ?_ | refine s_false rfl ?_ | refine x_hit ?_ | refine x_code ?_ | refine x_back ?_ | refine x_miss rfl ?_)
  refine s_cond rfl (fun h => ?_) (fun h => ?_)
  · have hlt : i < xk.length := by simpa using h
    obtain ⟨e1, o1, es1, rfl, he1, ⟨B1, m1, rfl, hr1⟩, hc1⟩ := h1.2.2 i hlt
    obtain ⟨e2, o2, es2, rfl, he2, ⟨B2, m2, rfl, hr2⟩, hc2⟩ := h2.2.2 i (by omega)
    obtain ⟨e3, o3, es3, rfl, he3, ⟨B3, m3, rfl, hr3⟩, hc3⟩ := h3.2.2 i (by omega)
    obtain ⟨e4, o4, es4, rfl, he4, ⟨B4, m4, rfl, hr4⟩, hc4⟩ := h4.2.2 i (by omega)
    repeat' (first | refine e_nil ?_ | ((first | refine e_op ?_ | refine e_yes rfl ?_); (first | refine o_n (peval_sound rfl) rfl ?_ | refine o_n (nl rfl rfl tc rfl) rfl ?_ | refine o_storeC rfl rfl rfl rfl tc uc rfl rfl rfl ?_ | refine o_box rfl rfl (fun _ => ?_) | refine o_box1 rfl rfl rfl (fun _ => ?_) | refine o_alloc rfl rfl (fun _ => ?_))) | refine e_noU rfl rfl rfl ?_ | refine e_noN rfl rfl ?_ | refine s_seq ?_ | refine s_region ?_ | refine s_block ?_ | refine s_end ?_ | refine s_skip ?_ | refine s_exit ?_ | refine s_true rfl ?_ | refine s_false rfl ?_ | refine x_hit ?_ | refine x_code ?_ | refine x_back ?_ | refine x_miss rfl ?_)
    refine s_drawU [10] Tryd.mixed (by decide +kernel) ?_
    repeat' (first | refine l_nil ?_ | ((first | refine l_no rfl rfl rfl ?_ rfl ?_ | refine l_noN rfl rfl ?_ rfl ?_ | refine l_n (peval_sound rfl) rfl ?_ rfl ?_ | refine l_n (nl rfl rfl tc rfl) rfl ?_ rfl ?_ | refine l_ny rfl (peval_sound rfl) rfl ?_ rfl ?_ | refine l_ny rfl (nl rfl rfl tc rfl) rfl ?_ rfl ?_); · (first | exact Ent.refl _ | assumption | repeat' (first | exact Ent.refl _ | exact Ent.nil _ | refine Ent.tak .z ?_ | refine Ent.wk ?_))))
    refine l_n (n_index rfl rfl rfl rfl i rfl hlt) rfl (Ent.refl _) rfl ?_
    refine l_n (n_load_ro rfl rfl he1 (loads_one rfl (hc1 0 _ rfl))) rfl (Ent.refl _) rfl ?_
    repeat' (first | refine l_nil ?_ | ((first | refine l_no rfl rfl rfl ?_ rfl ?_ | refine l_noN rfl rfl ?_ rfl ?_ | refine l_n (peval_sound rfl) rfl ?_ rfl ?_ | refine l_n (nl rfl rfl tc rfl) rfl ?_ rfl ?_ | refine l_ny rfl (peval_sound rfl) rfl ?_ rfl ?_ | refine l_ny rfl (nl rfl rfl tc rfl) rfl ?_ rfl ?_); · (first | exact Ent.refl _ | assumption | repeat' (first | exact Ent.refl _ | exact Ent.nil _ | refine Ent.tak .z ?_ | refine Ent.wk ?_))))
    refine l_n (n_index rfl rfl rfl rfl i rfl (by omega)) rfl (Ent.refl _) rfl ?_
    refine l_n (n_load_ro rfl rfl he3 (loads_one rfl (hc3 0 _ rfl))) rfl (Ent.refl _) rfl ?_
    refine l_e rfl (o_call (sameItems_w B1 B3 m1 m3 xk[i] yk[i]) rfl .nil (Can.and (Can.ro ⟨B1, m1, rfl, hr1⟩) (Can.ro ⟨B3, m3, rfl, hr3⟩)) rfl ?_)
    rintro v V ⟨rfl, rfl⟩
    refine ⟨Ent.refl _, ?_⟩
    simp only [List.nil_append]
    repeat' (first | refine l_nil ?_ | ((first | refine l_no rfl rfl rfl ?_ rfl ?_ | refine l_noN rfl rfl ?_ rfl ?_ | refine l_n (peval_sound rfl) rfl ?_ rfl ?_ | refine l_n (nl rfl rfl tc rfl) rfl ?_ rfl ?_ | refine l_ny rfl (peval_sound rfl) rfl ?_ rfl ?_ | refine l_ny rfl (nl rfl rfl tc rfl) rfl ?_ rfl ?_); · (first | exact Ent.refl _ | assumption | repeat' (first | exact Ent.refl _ | exact Ent.nil _ | refine Ent.tak .z ?_ | refine Ent.wk ?_))))
    cases hq2 : decide (xk[i] = yk[i]) with
    | false =>
      have hne : xk[i] ≠ yk[i] := of_decide_eq_false hq2
      repeat' (first | refine l_nil ?_ | ((first | refine l_no rfl rfl rfl ?_ rfl ?_ | refine l_noN rfl rfl ?_ rfl ?_ | refine l_n (peval_sound rfl) rfl ?_ rfl ?_ | refine l_n (nl rfl rfl tc rfl) rfl ?_ rfl ?_ | refine l_ny rfl (peval_sound rfl) rfl ?_ rfl ?_ | refine l_ny rfl (nl rfl rfl tc rfl) rfl ?_ rfl ?_); · (first | exact Ent.refl _ | assumption | repeat' (first | exact Ent.refl _ | exact Ent.nil _ | refine Ent.tak .z ?_ | refine Ent.wk ?_))))
      repeat' (first | refine e_nil ?_ | ((first | refine e_op ?_ | refine e_yes rfl ?_); (first | refine o_n (peval_sound rfl) rfl ?_ | refine o_n (nl rfl rfl tc rfl) rfl ?_ | refine o_storeC rfl rfl rfl rfl tc uc rfl rfl rfl ?_ | refine o_box rfl rfl (fun _ => ?_) | refine o_box1 rfl rfl rfl (fun _ => ?_) | refine o_alloc rfl rfl (fun _ => ?_))) | refine e_noU rfl rfl rfl ?_ | refine e_noN rfl rfl ?_ | refine s_seq ?_ | refine s_region ?_ | refine s_block ?_ | refine s_end ?_ | refine s_skip ?_ | refine s_exit ?_ | refine s_true rfl ?_ | refine s_false rfl ?_ | refine x_hit ?_ | refine x_code ?_ | refine x_back ?_ | refine x_miss rfl ?_)
      refine s_ret ⟨_, _, res1 rfl rfl, ⟨?_, rfl⟩, Ent.nil _⟩
      rw [decide_eq_false]
      intro h
      simp only [Prod.mk.injEq] at h
      exact hne (by simp only [h.1])
    | true =>
    have hek : xk[i] = yk[i] := of_decide_eq_true hq2
    repeat' (first | refine l_nil ?_ | ((first | refine l_no rfl rfl rfl ?_ rfl ?_ | refine l_noN rfl rfl ?_ rfl ?_ | refine l_n (peval_sound rfl) rfl ?_ rfl ?_ | refine l_n (nl rfl rfl tc rfl) rfl ?_ rfl ?_ | refine l_ny rfl (peval_sound rfl) rfl ?_ rfl ?_ | refine l_ny rfl (nl rfl rfl tc rfl) rfl ?_ rfl ?_); · (first | exact Ent.refl _ | assumption | repeat' (first | exact Ent.refl _ | exact Ent.nil _ | refine Ent.tak .z ?_ | refine Ent.wk ?_))))
    refine l_ny rfl (n_index rfl rfl rfl rfl i rfl (by omega)) rfl (Ent.refl _) rfl ?_
    refine l_ny rfl (n_load_ro rfl rfl he2 (loads_one rfl (hc2 0 _ rfl))) rfl (Ent.refl _) rfl ?_
    repeat' (first | refine l_nil ?_ | ((first | refine l_no rfl rfl rfl ?_ rfl ?_ | refine l_noN rfl rfl ?_ rfl ?_ | refine l_n (peval_sound rfl) rfl ?_ rfl ?_ | refine l_n (nl rfl rfl tc rfl) rfl ?_ rfl ?_ | refine l_ny rfl (peval_sound rfl) rfl ?_ rfl ?_ | refine l_ny rfl (nl rfl rfl tc rfl) rfl ?_ rfl ?_); · (first | exact Ent.refl _ | assumption | repeat' (first | exact Ent.refl _ | exact Ent.nil _ | refine Ent.tak .z ?_ | refine Ent.wk ?_))))
    refine l_ny rfl (n_index rfl rfl rfl rfl i rfl (by omega)) rfl (Ent.refl _) rfl ?_
    refine l_ny rfl (n_load_ro rfl rfl he4 (loads_one rfl (hc4 0 _ rfl))) rfl (Ent.refl _) rfl ?_
    repeat' (first | refine l_nil ?_ | ((first | refine l_no rfl rfl rfl ?_ rfl ?_ | refine l_noN rfl rfl ?_ rfl ?_ | refine l_n (peval_sound rfl) rfl ?_ rfl ?_ | refine l_n (nl rfl rfl tc rfl) rfl ?_ rfl ?_ | refine l_ny rfl (peval_sound rfl) rfl ?_ rfl ?_ | refine l_ny rfl (nl rfl rfl tc rfl) rfl ?_ rfl ?_); · (first | exact Ent.refl _ | assumption | repeat' (first | exact Ent.refl _ | exact Ent.nil _ | refine Ent.tak .z ?_ | refine Ent.wk ?_))))
    refine s_cond rfl (fun h => ?_) (fun h => ?_)
    · have hne : xg[i].length ≠ yg[i].length := by simp at h; omega
      repeat' (first | refine e_nil ?_ | ((first | refine e_op ?_ | refine e_yes rfl ?_); (first | refine o_n (peval_sound rfl) rfl ?_ | refine o_n (nl rfl rfl tc rfl) rfl ?_ | refine o_storeC rfl rfl rfl rfl tc uc rfl rfl rfl ?_ | refine o_box rfl rfl (fun _ => ?_) | refine o_box1 rfl rfl rfl (fun _ => ?_) | refine o_alloc rfl rfl (fun _ => ?_))) | refine e_noU rfl rfl rfl ?_ | refine e_noN rfl rfl ?_ | refine s_seq ?_ | refine s_region ?_ | refine s_block ?_ | refine s_end ?_ | refine s_skip ?_ | refine s_exit ?_ | refine s_true rfl ?_ | refine s_false rfl ?_ | refine x_hit ?_ | refine x_code ?_ | refine x_back ?_ | refine x_miss rfl ?_)
      refine s_ret ⟨_, _, res1 rfl rfl, ⟨?_, rfl⟩, Ent.nil _⟩
      rw [decide_eq_false]
      intro h
      simp only [Prod.mk.injEq] at h
      exact hne (by simp only [h.2])
    have hle : xg[i].length = yg[i].length := by simp at h; omega
    repeat' (first | refine e_nil ?_ | ((first | refine e_op ?_ | refine e_yes rfl ?_); (first | refine o_n (peval_sound rfl) rfl ?_ | refine o_n (nl rfl rfl tc rfl) rfl ?_ | refine o_storeC rfl rfl rfl rfl tc uc rfl rfl rfl ?_ | refine o_box rfl rfl (fun _ => ?_) | refine o_box1 rfl rfl rfl (fun _ => ?_) | refine o_alloc rfl rfl (fun _ => ?_))) | refine e_noU rfl rfl rfl ?_ | refine e_noN rfl rfl ?_ | refine s_seq ?_ | refine s_region ?_ | refine s_block ?_ | refine s_end ?_ | refine s_skip ?_ | refine s_exit ?_ | refine s_true rfl ?_ | refine s_false rfl ?_ | refine x_hit ?_ | refine x_code ?_ | refine x_back ?_ | refine x_miss rfl ?_)
    refine s_loopK (ι := {k : Nat // k ≤ xg[i].length ∧ xg[i].take k = yg[i].take k}) [2, 3, 5] rfl ⟨0, by omega, by simp⟩ (fun k => [(6, .int .i64 k.1)]) (fun _ => [blk b3 35 [.slice (some ⟨e3, o3, none⟩) yk.length a3, .slice (some ⟨e4, o4, none⟩) yg.length a4], blk b2 35 [.slice (some ⟨e1, o1, none⟩) xk.length a1, .slice (some ⟨e2, o2, none⟩) xg.length a2]]) (fun k => xg[i].length - k.1) ?_ (Ent.refl _) ?_
    · repeat' (first | exact Sub.nil _ | refine Sub.cons rfl ?_ | refine Sub.consE rfl ?_ ?_)
    rintro ⟨k, hk, htr⟩
    simp only at hk htr ⊢
    repeat' (first | refine e_nil ?_ | ((first | refine e_op ?_ | refine e_yes rfl ?_); (first | refine o_n (peval_sound rfl) rfl ?_ | refine o_n (nl rfl rfl tc rfl) rfl ?_ | refine o_storeC rfl rfl rfl rfl tc uc rfl rfl rfl ?_ | refine o_box rfl rfl (fun _ => ?_) | refine o_box1 rfl rfl rfl (fun _ => ?_) | refine o_alloc rfl rfl (fun _ => ?_))) | refine e_noU rfl rfl rfl ?_ | refine e_noN rfl rfl ?_ | refine s_seq ?_ | refine s_region ?_ | refine s_block ?_ | refine s_end ?_ | refine s_skip ?_ | refine s_exit ?_ | refine s_true rfl ?_ | refine s_false rfl ?_ | refine x_hit ?_ | refine x_code ?_ | refine x_back ?_ | refine x_miss rfl ?_)
    refine e_op (o_n (n_index rfl rfl rfl rfl i rfl (by omega)) rfl ?_)
    refine e_op (o_n (n_load_ro rfl rfl he2 (loads_one rfl (hc2 0 _ rfl))) rfl ?_)
    repeat' (first | refine e_nil ?_ | ((first | refine e_op ?_ | refine e_yes rfl ?_); (first | refine o_n (peval_sound rfl) rfl ?_ | refine o_n (nl rfl rfl tc rfl) rfl ?_ | refine o_storeC rfl rfl rfl rfl tc uc rfl rfl rfl ?_ | refine o_box rfl rfl (fun _ => ?_) | refine o_box1 rfl rfl rfl (fun _ => ?_) | refine o_alloc rfl rfl (fun _ => ?_))) | refine e_noU rfl rfl rfl ?_ | refine e_noN rfl rfl ?_ | refine s_seq ?_ | refine s_region ?_ | refine s_block ?_ | refine s_end ?_ | refine s_skip ?_ | refine s_exit ?_ | refine s_true rfl ?_ | refine s_false rfl ?_ | refine x_hit ?_ | refine x_code ?_ | refine x_back ?_ | refine x_miss rfl ?_)
    refine s_cond rfl (fun h => ?_) (fun h => ?_)
    · have hkl : k < xg[i].length := by simpa using h
      obtain ⟨f2, p2, fs2, rfl, hf2, ⟨rfl, _⟩, hd2⟩ := hr2.2.2 k hkl
      obtain ⟨f4, p4, fs4, rfl, hf4, ⟨rfl, _⟩, hd4⟩ := hr4.2.2 k (by omega)
      repeat' (first | refine e_nil ?_ | ((first | refine e_op ?_ | refine e_yes rfl ?_); (first | refine o_n (peval_sound rfl) rfl ?_ | refine o_n (nl rfl rfl tc rfl) rfl ?_ | refine o_storeC rfl rfl rfl rfl tc uc rfl rfl rfl ?_ | refine o_box rfl rfl (fun _ => ?_) | refine o_box1 rfl rfl rfl (fun _ => ?_) | refine o_alloc rfl rfl (fun _ => ?_))) | refine e_noU rfl rfl rfl ?_ | refine e_noN rfl rfl ?_ | refine s_seq ?_ | refine s_region ?_ | refine s_block ?_ | refine s_end ?_ | refine s_skip ?_ | refine s_exit ?_ | refine s_true rfl ?_ | refine s_false rfl ?_ | refine x_hit ?_ | refine x_code ?_ | refine x_back ?_ | refine x_miss rfl ?_)
      refine s_drawU [] Tryd.mixed (by decide +kernel) ?_
      repeat' (first | refine l_nil ?_ | ((first | refine l_no rfl rfl rfl ?_ rfl ?_ | refine l_noN rfl rfl ?_ rfl ?_ | refine l_n (peval_sound rfl) rfl ?_ rfl ?_ | refine l_n (nl rfl rfl tc rfl) rfl ?_ rfl ?_ | refine l_ny rfl (peval_sound rfl) rfl ?_ rfl ?_ | refine l_ny rfl (nl rfl rfl tc rfl) rfl ?_ rfl ?_); · (first | exact Ent.refl _ | assumption | repeat' (first | exact Ent.refl _ | exact Ent.nil _ | refine Ent.tak .z ?_ | refine Ent.wk ?_))))
      refine l_n (n_index rfl rfl rfl rfl i rfl (by omega)) rfl (Ent.refl _) rfl ?_
      refine l_n (n_load_ro rfl rfl he2 (loads_one rfl (hc2 0 _ rfl))) rfl (Ent.refl _) rfl ?_
      repeat' (first | refine l_nil ?_ | ((first | refine l_no rfl rfl rfl ?_ rfl ?_ | refine l_noN rfl rfl ?_ rfl ?_ | refine l_n (peval_sound rfl) rfl ?_ rfl ?_ | refine l_n (nl rfl rfl tc rfl) rfl ?_ rfl ?_ | refine l_ny rfl (peval_sound rfl) rfl ?_ rfl ?_ | refine l_ny rfl (nl rfl rfl tc rfl) rfl ?_ rfl ?_); · (first | exact Ent.refl _ | assumption | repeat' (first | exact Ent.refl _ | exact Ent.nil _ | refine Ent.tak .z ?_ | refine Ent.wk ?_))))
      refine l_n (n_index rfl rfl rfl rfl k rfl hkl) rfl (Ent.refl _) rfl ?_
      refine l_n (n_load_ro rfl rfl hf2 (loads_one rfl (hd2 0 _ rfl))) rfl (Ent.refl _) rfl ?_
      repeat' (first | refine l_nil ?_ | ((first | refine l_no rfl rfl rfl ?_ rfl ?_ | refine l_noN rfl rfl ?_ rfl ?_ | refine l_n (peval_sound rfl) rfl ?_ rfl ?_ | refine l_n (nl rfl rfl tc rfl) rfl ?_ rfl ?_ | refine l_ny rfl (peval_sound rfl) rfl ?_ rfl ?_ | refine l_ny rfl (nl rfl rfl tc rfl) rfl ?_ rfl ?_); · (first | exact Ent.refl _ | assumption | repeat' (first | exact Ent.refl _ | exact Ent.nil _ | refine Ent.tak .z ?_ | refine Ent.wk ?_))))
      refine l_n (n_index rfl rfl rfl rfl i rfl (by omega)) rfl (Ent.refl _) rfl ?_
      refine l_n (n_load_ro rfl rfl he4 (loads_one rfl (hc4 0 _ rfl))) rfl (Ent.refl _) rfl ?_
      repeat' (first | refine l_nil ?_ | ((first | refine l_no rfl rfl rfl ?_ rfl ?_ | refine l_noN rfl rfl ?_ rfl ?_ | refine l_n (peval_sound rfl) rfl ?_ rfl ?_ | refine l_n (nl rfl rfl tc rfl) rfl ?_ rfl ?_ | refine l_ny rfl (peval_sound rfl) rfl ?_ rfl ?_ | refine l_ny rfl (nl rfl rfl tc rfl) rfl ?_ rfl ?_); · (first | exact Ent.refl _ | assumption | repeat' (first | exact Ent.refl _ | exact Ent.nil _ | refine Ent.tak .z ?_ | refine Ent.wk ?_))))
      refine l_n (n_index rfl rfl rfl rfl k rfl (by omega)) rfl (Ent.refl _) rfl ?_
      refine l_n (n_load_ro rfl rfl hf4 (loads_one rfl (hd4 0 _ rfl))) rfl (Ent.refl _) rfl ?_
      repeat' (first | refine l_nil ?_ | ((first | refine l_no rfl rfl rfl ?_ rfl ?_ | refine l_noN rfl rfl ?_ rfl ?_ | refine l_n (peval_sound rfl) rfl ?_ rfl ?_ | refine l_n (nl rfl rfl tc rfl) rfl ?_ rfl ?_ | refine l_ny rfl (peval_sound rfl) rfl ?_ rfl ?_ | refine l_ny rfl (nl rfl rfl tc rfl) rfl ?_ rfl ?_); · (first | exact Ent.refl _ | assumption | repeat' (first | exact Ent.refl _ | exact Ent.nil _ | refine Ent.tak .z ?_ | refine Ent.wk ?_))))
      refine s_cond rfl (fun h => ?_) (fun h => ?_)
      · have hne : xg[i][k] ≠ yg[i][k] := by simpa using h
        repeat' (first | refine e_nil ?_ | ((first | refine e_op ?_ | refine e_yes rfl ?_); (first | refine o_n (peval_sound rfl) rfl ?_ | refine o_n (nl rfl rfl tc rfl) rfl ?_ | refine o_storeC rfl rfl rfl rfl tc uc rfl rfl rfl ?_ | refine o_box rfl rfl (fun _ => ?_) | refine o_box1 rfl rfl rfl (fun _ => ?_) | refine o_alloc rfl rfl (fun _ => ?_))) | refine e_noU rfl rfl rfl ?_ | refine e_noN rfl rfl ?_ | refine s_seq ?_ | refine s_region ?_ | refine s_block ?_ | refine s_end ?_ | refine s_skip ?_ | refine s_exit ?_ | refine s_true rfl ?_ | refine s_false rfl ?_ | refine x_hit ?_ | refine x_code ?_ | refine x_back ?_ | refine x_miss rfl ?_)
        refine s_ret ⟨_, _, res1 rfl rfl, ⟨?_, rfl⟩, Ent.nil _⟩
        rw [decide_eq_false]
        intro h
        simp only [Prod.mk.injEq] at h
        exact hne (by simp only [h.2])
      · have heq : xg[i][k] = yg[i][k] := by simpa using h
        repeat' (first | refine e_nil ?_ | ((first | refine e_op ?_ | refine e_yes rfl ?_); (first | refine o_n (peval_sound rfl) rfl ?_ | refine o_n (nl rfl rfl tc rfl) rfl ?_ | refine o_storeC rfl rfl rfl rfl tc uc rfl rfl rfl ?_ | refine o_box rfl rfl (fun _ => ?_) | refine o_box1 rfl rfl rfl (fun _ => ?_) | refine o_alloc rfl rfl (fun _ => ?_))) | refine e_noU rfl rfl rfl ?_ | refine e_noN rfl rfl ?_ | refine s_seq ?_ | refine s_region ?_ | refine s_block ?_ | refine s_end ?_ | refine s_skip ?_ | refine s_exit ?_ | refine s_true rfl ?_ | refine s_false rfl ?_ | refine x_hit ?_ | refine x_code ?_ | refine x_back ?_ | refine x_miss rfl ?_)
        refine s_back ⟨⟨k + 1, by omega, take_same hkl (by omega) htr heq⟩, by simp only; omega, ?_, Ent.refl _⟩
        repeat' (first | exact Sub.nil _ | refine Sub.cons rfl ?_ | refine Sub.consE rfl ?_ ?_)
        exact inc (i := k) (by have := hr2.2.1; omega)
    · have hkl : k = xg[i].length := by simp at h; omega
      have htr : xg[i] = yg[i] := by rw [hkl, List.take_length, hle, List.take_length] at htr; exact htr
      repeat' (first | refine e_nil ?_ | ((first | refine e_op ?_ | refine e_yes rfl ?_); (first | refine o_n (peval_sound rfl) rfl ?_ | refine o_n (nl rfl rfl tc rfl) rfl ?_ | refine o_storeC rfl rfl rfl rfl tc uc rfl rfl rfl ?_ | refine o_box rfl rfl (fun _ => ?_) | refine o_box1 rfl rfl rfl (fun _ => ?_) | refine o_alloc rfl rfl (fun _ => ?_))) | refine e_noU rfl rfl rfl ?_ | refine e_noN rfl rfl ?_ | refine s_seq ?_ | refine s_region ?_ | refine s_block ?_ | refine s_end ?_ | refine s_skip ?_ | refine s_exit ?_ | refine s_true rfl ?_ | refine s_false rfl ?_ | refine x_hit ?_ | refine x_code ?_ | refine x_back ?_ | refine x_miss rfl ?_)
      refine s_back ⟨⟨i + 1, by omega, take_same hlt (by omega) htk hek, take_same (by omega) (by omega) htg htr⟩, by simp only; omega, ?_, Ent.refl _⟩
      repeat' (first | exact Sub.nil _ | refine Sub.cons rfl ?_ | refine Sub.consE rfl ?_ ?_)
      exact inc (i := i) (by have := h1.2.1; omega)
  · have hil : i = xk.length := by simp at h; omega
    subst hil
    repeat' (first | refine e_nil ?_ | ((first | refine e_op ?_ | refine e_yes rfl ?_); (first | refine o_n (peval_sound rfl) rfl ?_ | refine o_n (nl rfl rfl tc rfl) rfl ?_ | refine o_storeC rfl rfl rfl rfl tc uc rfl rfl rfl ?_ | refine o_box rfl rfl (fun _ => ?_) | refine o_box1 rfl rfl rfl (fun _ => ?_) | refine o_alloc rfl rfl (fun _ => ?_))) | refine e_noU rfl rfl rfl ?_ | refine e_noN rfl rfl ?_ | refine s_seq ?_ | refine s_region ?_ | refine s_block ?_ | refine s_end ?_ | refine s_skip ?_ | refine s_exit ?_ | refine s_true rfl ?_ | refine s_false rfl ?_ | refine x_hit ?_ | refine x_code ?_ | refine x_back ?_ | refine x_miss rfl ?_)
    refine s_ret ⟨_, _, res1 rfl rfl, ⟨?_, rfl⟩, Ent.nil _⟩
    rw [decide_eq_true]
    rw [List.take_length, hlk, List.take_length] at htk
    rw [← hx, List.take_length, hlg, List.take_length] at htg
    rw [htk, htg]

end Go.Proofs.YtcbaebkkdkdaaaaDoor

namespace Go.Proofs.YtcbaebkkdkdaaaaDoor
set_option linter.all false
open Go.Proofs.YtcbaebkkdkdaaaaDoor.E
attribute [local irreducible] EVX EVO EVL EV1 NEV
set_option maxRecDepth 10000
set_option maxHeartbeats 1000000

theorem p19_w (l : Int) (A : Option Addr) (n c : Nat) : Trip Tryd.prog 29 [.int .i64 l, .slice A n c] Rd.tt [] (fun v V => v = .agg #[.int .i64 l, .slice A n c, .int .i64 0, .int .i64 0] ∧ V = []) := by
  refine trip Tryd.tabOk Tryd.func29 rfl rfl rfl rfl ?_
  intro w SM _
  repeat' (first | refine e_nil ?_ | ((first | refine e_op ?_ | refine e_yes rfl ?_); (first | refine o_n (peval_sound rfl) rfl ?_ | refine o_n (nl rfl rfl tc rfl) rfl ?_ | refine o_storeC rfl rfl rfl rfl tc uc rfl rfl rfl ?_ | refine o_box rfl rfl (fun _ => ?_) | refine o_box1 rfl rfl rfl (fun _ => ?_) | refine o_alloc rfl rfl (fun _ => ?_))) | refine e_noU rfl rfl rfl ?_ | refine e_noN rfl rfl ?_ | refine s_seq ?_ | refine s_region ?_ | refine s_block ?_ | refine s_end ?_ | refine s_skip ?_ | refine s_exit ?_ | refine s_true rfl ?_ | refine s_false rfl ?_ | refine x_hit ?_ | refine x_code ?_ | refine x_back ?_ | refine x_miss rfl ?_)
  exact s_ret ⟨_, _, resc rfl rfl rfl .z rfl, ⟨rfl, rfl⟩, Ent.nil _⟩

def lev19 (b : Nat) : Asn := osl 51 2 (sl b 2) 2 [.int .i64 0, .int .i64 0, .int .i64 0, .int .i64 0]
def prd19 (b3 b5 : Nat) : List (List Value) := [[.int .i64 0, sl b3 1, .int .i64 0, .int .i64 0], [.int .i64 1, sl b5 2, .int .i64 0, .int .i64 0], [.int .i64 1, .slice none 0 0, .int .i64 0, .int .i64 0]]
def prdA19 (b8 b3 b5 : Nat) : Asn := osl 53 4 (sl b8 3) 3 (prd19 b3 b5).flatten
def chC19 (b0 b1 b2 b8 : Nat) : List Value := [sl b0 2, sl b1 2, .slice none 0 0, sl b2 2, sl b8 3]

def chM19 : List Mk := [
  ⟨1, [0], fun l => sl (l.getD 0 0) 2, fun l => [strs (l.getD 0 0) [s0, sA]]⟩,
  ⟨2, [1], fun l => sl (l.getD 0 0) 2, fun l => [lev19 (l.getD 0 0)]⟩,
  ⟨3, [2], fun l => sl (l.getD 0 0) 2, fun l => [strs (l.getD 0 0) [s0, nS]]⟩,
  ⟨4, [3], fun l => sl (l.getD 0 0) 1, fun l => [ints (l.getD 0 0) [3]]⟩,
  ⟨5, [3], fun l => pv 0 (sl (l.getD 0 0) 1), fun _ => []⟩,
  ⟨6, [5], fun l => sl (l.getD 0 0) 2, fun l => [ints (l.getD 0 0) [1, 3]]⟩,
  ⟨7, [5], fun l => pv 1 (sl (l.getD 0 0) 2), fun _ => []⟩,
  ⟨8, [], fun _ => pv 1 (.slice none 0 0), fun _ => []⟩,
  ⟨9, [8, 3, 5], fun l => sl (l.getD 0 0) 3, fun l => [prdA19 (l.getD 0 0) (l.getD 1 0) (l.getD 2 0)]⟩,
  ⟨10, [0, 1, 2, 8], fun l => .agg (chC19 (l.getD 0 0) (l.getD 1 0) (l.getD 2 0) (l.getD 3 0)).toArray, fun _ => []⟩]

def chO19 (b0 b1 b2 b3 b5 b8 : Nat) : List Asn := [strs b0 [s0, sA], lev19 b1, strs b2 [s0, nS], ints b3 [3], ints b5 [1, 3], prdA19 b8 b3 b5]

theorem chapter19_w : Trip Tryd.prog 44 [] Rd.tt [] (fun v V => ∃ b0 b1 b2 b3 b5 b8, v = .agg (chC19 b0 b1 b2 b8).toArray ∧ V = chO19 b0 b1 b2 b3 b5 b8) := by
  refine trip Tryd.tabOk Tryd.func44 rfl rfl rfl rfl ?_
  intro w SM _
  repeat' (first | refine e_nil ?_ | ((first | refine e_op ?_ | refine e_yes rfl ?_); (first | refine o_n (peval_sound rfl) rfl ?_ | refine o_n (nl rfl rfl tc rfl) rfl ?_ | refine o_storeC rfl rfl rfl rfl tc uc rfl rfl rfl ?_ | refine o_box rfl rfl (fun _ => ?_) | refine o_box1 rfl rfl rfl (fun _ => ?_) | refine o_alloc rfl rfl (fun _ => ?_))) | refine e_noU rfl rfl rfl ?_ | refine e_noN rfl rfl ?_ | refine s_seq ?_ | refine s_region ?_ | refine s_block ?_ | refine s_end ?_ | refine s_skip ?_ | refine s_exit ?_ | refine s_true rfl ?_ | refine s_false rfl ?_ | refine x_hit ?_ | refine x_code ?_ | refine x_back ?_ | refine x_miss rfl ?_)
  rename_i b
  refine s_mk chM19 Tryd.mixed (by kernel_rfl) ?_ rfl ?_
  · intro i hi
    match i, hi with
    | 0, _ => exact mk_step [] rfl rfl rfl (by decide +kernel) (fun B U => o_lit rfl rfl rfl rfl rfl rfl rfl (fun b => ⟨b, rfl, Ent.refl _⟩))
    | 1, _ => exact mk_step [] rfl rfl rfl (by decide +kernel) (fun B U => o_makeS rfl rfl rfl rfl 2 rfl rfl (by decide) (by decide) rfl rfl (fun b => ⟨b, rfl, Ent.refl _⟩))
    | 2, _ => exact mk_step [] rfl rfl rfl (by decide +kernel) (fun B U => o_lit rfl rfl rfl rfl rfl rfl rfl (fun b => ⟨b, rfl, Ent.refl _⟩))
    | 3, _ => exact mk_step [] rfl rfl rfl (by decide +kernel) (fun B U => o_lit rfl rfl rfl rfl rfl rfl rfl (fun b => ⟨b, rfl, Ent.refl _⟩))
    | 4, _ => exact mk_step [3] rfl rfl rfl (by decide +kernel) (fun B U => o_call (p19_w _ _ _ _) rfl .nil Can.tt rfl (by rintro v V ⟨rfl, rfl⟩; exact ⟨0, rfl, Ent.refl _⟩))
    | 5, _ => exact mk_step [] rfl rfl rfl (by decide +kernel) (fun B U => o_lit rfl rfl rfl rfl rfl rfl rfl (fun b => ⟨b, rfl, Ent.refl _⟩))
    | 6, _ => exact mk_step [5] rfl rfl rfl (by decide +kernel) (fun B U => o_call (p19_w _ _ _ _) rfl .nil Can.tt rfl (by rintro v V ⟨rfl, rfl⟩; exact ⟨0, rfl, Ent.refl _⟩))
    | 7, _ => exact mk_step [] rfl rfl rfl (by decide +kernel) (fun B U => o_call (p19_w _ _ _ _) rfl .nil Can.tt rfl (by rintro v V ⟨rfl, rfl⟩; exact ⟨0, rfl, Ent.refl _⟩))
    | 8, _ => exact mk_step [4, 6, 7] rfl rfl rfl (by decide +kernel) (fun B U => o_lit (ps := [(0, pv 0 (sl (B 3) 1)), (1, pv 1 (sl (B 5) 2)), (2, pv 1 (.slice none 0 0))]) (cs := (prd19 (B 3) (B 5)).flatten) rfl rfl (by kernel_rfl) rfl rfl (by kernel_rfl) rfl (fun b => ⟨b, rfl, Ent.refl _⟩))
    | 9, _ => exact mk_step [0, 1, 2, 8] rfl rfl rfl (by decide +kernel) (fun B U => o_n (peval_sound rfl) rfl ⟨0, rfl, Ent.refl _⟩)
    | n + 10, h => exact absurd h (by simp [chM19])
  · intro B
    refine o_store (b := b) (o := 0) (vs := chC19 (B 0) (B 1) (B 2) (B 8)) rfl rfl rfl rfl rfl rfl rfl (.s (.s (.s (.s (.s (.s .z)))))) ?_
    repeat' (first | refine e_nil ?_ | ((first | refine e_op ?_ | refine e_yes rfl ?_); (first | refine o_n (peval_sound rfl) rfl ?_ | refine o_n (nl rfl rfl tc rfl) rfl ?_ | refine o_storeC rfl rfl rfl rfl tc uc rfl rfl rfl ?_ | refine o_box rfl rfl (fun _ => ?_) | refine o_box1 rfl rfl rfl (fun _ => ?_) | refine o_alloc rfl rfl (fun _ => ?_))) | refine e_noU rfl rfl rfl ?_ | refine e_noN rfl rfl ?_ | refine s_seq ?_ | refine s_region ?_ | refine s_block ?_ | refine s_end ?_ | refine s_skip ?_ | refine s_exit ?_ | refine s_true rfl ?_ | refine s_false rfl ?_ | refine x_hit ?_ | refine x_code ?_ | refine x_back ?_ | refine x_miss rfl ?_)
    refine s_ret ⟨_, _, resc rfl rfl rfl (.s (.s (.s (.s (.s (.s .z)))))) rfl, ⟨B 0, B 1, B 2, B 3, B 5, B 8, rfl, rfl⟩, ?_⟩
    exact Ent.tak .z (Ent.tak .z (Ent.tak .z (Ent.tak .z (Ent.tak .z (Ent.tak .z (Ent.nil _))))))

def ch19 : Gram := ⟨[s0, sA], [⟨0, 0⟩, ⟨0, 0⟩], [], [s0, nS], [⟨0, [3], ⟨0, 0⟩⟩, ⟨1, [1, 3], ⟨0, 0⟩⟩, ⟨1, [], ⟨0, 0⟩⟩]⟩

theorem ch19_rd {b0 b1 b2 b3 b5 b8 : Nat} {w : World} {S : BSet} (h : star (chO19 b0 b1 b2 b3 b5 b8) w S) : kGram.R w S (chC19 b0 b1 b2 b8) ch19 := by
  obtain ⟨_, h0, i0⟩ := star_mem (i := 0) rfl h
  obtain ⟨_, h1, i1⟩ := star_mem (i := 1) rfl h
  obtain ⟨_, h2, i2⟩ := star_mem (i := 2) rfl h
  obtain ⟨_, h3, i3⟩ := star_mem (i := 3) rfl h
  obtain ⟨_, h5, i5⟩ := star_mem (i := 4) rfl h
  obtain ⟨_, h8, i8⟩ := star_mem (i := 5) rfl h
  have z : I64 0 := by unfold I64; omega
  have z1 : I64 1 := by unfold I64; omega
  have k3 := sl_ints h3 i3 (by intro x hx; simp at hx; subst hx; unfold I64; omega) (by simp)
  have k5 := sl_ints h5 i5 (by intro x hx; simp at hx; unfold I64; omega) (by simp)
  refine kGram_mk (g := ch19) (A0 := some ⟨b0, 0, none⟩) (A1 := some ⟨b1, 0, none⟩) (A2 := none) (A3 := some ⟨b2, 0, none⟩) (A4 := some ⟨b8, 0, none⟩) (c0 := 2) (c1 := 2) (c2 := 0) (c3 := 2) (c4 := 3)
    ⟨sl_strs h0 i0 (by decide), ?_, els_nil, sl_strs h2 i2 (by decide), ?_⟩
  · refine ⟨Nat.le_refl _, by decide +kernel, ?_⟩
    refine (osl_elsG (kd := kLev) (ess := [[.int .i64 0, .int .i64 0], [.int .i64 0, .int .i64 0]]) h1 i1 rfl rfl ?_).1
    intro i g1 g2
    have : ∀ x : Lev, x = ⟨0, 0⟩ → kLev.R w S [.int .i64 0, .int .i64 0] x := by
      rintro _ rfl
      exact ⟨[.int .i64 0], [.int .i64 0], rfl, ⟨rfl, z⟩, ⟨rfl, z⟩⟩
    rcases i with _ | _ | i
    · exact this _ rfl
    · exact this _ rfl
    · exact absurd g1 (by simp)
  · refine ⟨Nat.le_refl _, by decide +kernel, ?_⟩
    refine (osl_elsG (kd := kPrd) (ess := prd19 b3 b5) h8 i8 rfl rfl ?_).1
    intro i g1 g2
    rcases i with _ | _ | _ | i
    · exact kPrd_mk (x := ⟨0, [3], ⟨0, 0⟩⟩) z z z k3
    · exact kPrd_mk (x := ⟨1, [1, 3], ⟨0, 0⟩⟩) z1 z z k5
    · exact kPrd_mk (x := ⟨1, [], ⟨0, 0⟩⟩) z1 z z els_nil
    · exact absurd g1 (by simp [prd19])

theorem can_ch19 {E0 : Go.Proofs.YtcbaebkkdkdaaaaDoor.E.Env} {b0 b1 b2 b3 b5 b8 : Nat} {U : List Asn} : Go.Proofs.YtcbaebkkdkdaaaaDoor.E.Can E0 (chO19 b0 b1 b2 b3 b5 b8 ++ U) (kGram.rd (chC19 b0 b1 b2 b8) ch19) := Can.of fun w S hs => by
  obtain ⟨S1, S2, h1, _, _, i1, _⟩ := star_split hs
  exact kGram.mono i1 (ch19_rd h1)

theorem ch19_check : checkE ch19 = 0 := by decide +kernel
theorem ch19_lrE : lrE ch19 = 0 := by decide +kernel
theorem ch19_ks : lrKs ch19 = [[⟨0, 0⟩], [⟨1, 1⟩], [⟨0, 1⟩], [⟨1, 2⟩]] := by decide +kernel
theorem ch19_gs : lrGs ch19 = [[-1, 1, -1, 2], [-1, 1, -1, 3], [-1, -1, -1, -1], [-1, -1, -1, -1]] := by decide +kernel
theorem ch19_ce : closeE ch19 [⟨1, 1⟩] = 0 := by decide +kernel
theorem ch19_cl : closeL ch19 [⟨1, 1⟩] = [⟨1, 0⟩, ⟨1, 1⟩, ⟨2, 0⟩] := by decide +kernel

end Go.Proofs.YtcbaebkkdkdaaaaDoor

namespace Go.Proofs.YtcbaebkkdkdaaaaDoor
set_option linter.all false
open Go.Proofs.YtcbaebkkdkdaaaaDoor.E

theorem rowC_flat {α : Type} : ∀ (acs : List (Option Addr × Nat)) (rows : List (List α)), (List.zipWith (fun (ac : Option Addr × Nat) (r : List α) => [Value.slice ac.1 r.length ac.2]) acs rows).flatten = rowC acs rows
  | [], _ => rfl
  | _ :: _, [] => rfl
  | a :: acs, r :: rows => by
    rw [List.zipWith_cons_cons, List.flatten_cons, rowC_flat acs rows]; rfl

theorem els_rows {α β : Type} {f : List α → List Value} {sz : Nat} {ei eo : TypeId} {kd : Kd α} {bi : Nat} {A : Option Addr} {n c : Nat} {acs : List (Option Addr × Nat)} {rows : List (List α)} (hl : acs.length = rows.length) (hn : n = rows.length) {w : World} {S S1 S2 : BSet}
    (h1 : (osl eo 1 (.slice A n c) n (rowC acs rows)).P w S1) (i1 : ∀ b, S1 b → S b) (h2 : (bun (rowX f sz ei acs rows)).P w S2) (i2 : ∀ b, S2 b → S b)
    (hr : ∀ (i : Nat) (hi : i < rows.length) (S3 : BSet), (rowA f sz ei (acs[i]'(hl ▸ hi)) rows[i]).P w S3 → (kslice bi kd).R w S3 [.slice (acs[i]'(hl ▸ hi)).1 rows[i].length (acs[i]'(hl ▸ hi)).2] rows[i]) :
    Els (kslice bi kd) w S A rows ∧ rows.length ≤ c := by
  rw [← rowC_flat] at h1
  refine osl_elsG (kd := kslice bi kd) (ess := List.zipWith (fun (ac : Option Addr × Nat) (r : List α) => [Value.slice ac.1 r.length ac.2]) acs rows) h1 i1 (by simp [hl]) hn fun i g1 g2 => ?_
  rw [List.getElem_zipWith]
  obtain ⟨S3, h3, i3⟩ := star_mem (rowX_get (f := f) (sz := sz) (ei := ei) hl g2) h2
  exact (kslice bi kd).mono (fun b hb => i2 b (i3 b hb)) (hr i g2 S3 h3)

/-- Numbers that fit. -/
structure LrNum (ks : List (List Itm)) (gs : List (List Int)) : Prop where
  n : ks.length ≤ 100000
  m : gs.length ≤ 100000
  k : ∀ k ∈ ks, k.length ≤ 100000
  x : ∀ k ∈ ks, ∀ x ∈ k, I64 x.Prod ∧ I64 x.Dot
  r : ∀ r ∈ gs, r.length ≤ 100000
  z : ∀ r ∈ gs, ∀ z ∈ r, I64 z

theorem can_to {R : Rd} {A : Asn} (P : Program) (h : ∀ E : Go.Proofs.YtcbaebkkdkdaaaaDoor.E.Env, Go.Proofs.YtcbaebkkdkdaaaaDoor.E.Can E [A] R) {w : World} {S : BSet} (hA : A.P w S) : R.P w S :=
  R.mono w _ _ (fun b hb => hb.elim (fun h => absurd trivial h.2) id) (h ⟨P, [], (fun _ h => nomatch h), 0, w, fun _ => True⟩ w S (fun _ _ => rfl) ⟨S, fun _ => False, hA, trivial, fun _ _ h => h, fun _ h => h, fun _ h => h.elim⟩)

theorem lr_rd {AK AG : Option Addr} {cK cG : Nat} {acs bcs : List (Option Addr × Nat)} {ks : List (List Itm)} {gs : List (List Int)} (hl : acs.length = ks.length) (hb : bcs.length = gs.length) (hN : LrNum ks gs) {w : World} {S : BSet} {U : List Asn}
    (h : star ([kerS AK ks.length cK acs ks, kerB acs ks, gotS AG gs.length cG bcs gs, gotB bcs gs] ++ U) w S) : kLr.R w S [.slice AK ks.length cK, .slice AG gs.length cG] (ks, gs) := by
  obtain ⟨_, h0, i0⟩ := star_mem (i := 0) rfl h
  obtain ⟨_, h1, i1⟩ := star_mem (i := 1) rfl h
  obtain ⟨_, h2, i2⟩ := star_mem (i := 2) rfl h
  obtain ⟨_, h3, i3⟩ := star_mem (i := 3) rfl h
  have e1 := els_rows (β := Unit) (kd := kItm) (bi := 16) hl rfl h0 i0 h1 i1 (fun i hi S3 h3 => can_to (R := (kslice 16 kItm).rd _ _) Tryd.prog (fun E => can_items .z (hN.x _ (List.getElem_mem hi)) (hN.k _ (List.getElem_mem hi))) h3)
  have e2 := els_rows (β := Unit) (kd := kint) (bi := 8) hb rfl h2 i2 h3 i3 (fun i hi S3 h3 => can_to (R := (kslice 8 kint).rd _ _) Tryd.prog (fun E => can_ints .z (hN.z _ (List.getElem_mem hi)) (by have := hN.r _ (List.getElem_mem hi); omega)) h3)
  have := hN.n; have := hN.m
  exact ⟨[_], [_], rfl, ⟨AK, cK, rfl, e1.2, by simp only; omega, e1.1⟩, ⟨AG, cG, rfl, e2.2, by simp only; omega, e2.1⟩⟩

theorem can_lr {E0 : Go.Proofs.YtcbaebkkdkdaaaaDoor.E.Env} {U V : List Asn} {AK AG : Option Addr} {cK cG : Nat} {acs bcs : List (Option Addr × Nat)} {ks : List (List Itm)} {gs : List (List Int)} (hl : acs.length = ks.length) (hb : bcs.length = gs.length) (hN : LrNum ks gs)
    (he : Ent V ([kerS AK ks.length cK acs ks, kerB acs ks, gotS AG gs.length cG bcs gs, gotB bcs gs] ++ U)) : Go.Proofs.YtcbaebkkdkdaaaaDoor.E.Can E0 V (kLr.rd [.slice AK ks.length cK, .slice AG gs.length cG] (ks, gs)) :=
  Can.of fun w S hs => lr_rd hl hb hN (he w S hs)

theorem ix_le {κ : Type} [DecidableEq κ] : ∀ (u : List κ) (k : κ), ix u k ≤ u.length
  | [], _ => Nat.le_refl _
  | x :: u, k => by
    have ih := ix_le u k
    by_cases h : x = k
    · show (if x = k then 0 else ix u k + 1) ≤ _; rw [if_pos h]; exact Nat.zero_le _
    · rw [ix_cons h, List.length_cons]; omega

theorem lrF_ok {g : Gram} (o : GOk g) : ∀ (f i : Nat) (ks fin : List (List Itm)), KsOk g ks → ks.length ≤ 512 → lrF g f i ks = some fin → KsOk g fin ∧ fin.length ≤ 512
  | 0, _, _, _, _, _, h => by cases h
  | f + 1, i, ks, fin, hk, hn, h => by
    unfold lrF at h
    cases hki : ks[i]? with
    | none => rw [hki] at h; simp only [Option.some.injEq] at h; subst h; exact ⟨hk, hn⟩
    | some k =>
      rw [hki] at h
      simp only at h
      split at h
      · cases h
      · refine lrF_ok o f (i + 1) _ fin (symK_ok o hk (hk.ok k (List.mem_of_getElem? hki)) _) (by omega) h

theorem lr_fin {g : Gram} (h : lrE g = 0) : checkE g = 0 ∧ lrK g = some (lrKs g) ∧ KsOk g (lrKs g) ∧ (lrKs g).length ≤ 512 := by
  have hc : checkE g = 0 := by
    by_cases hc : checkE g = 0
    · exact hc
    · unfold lrE at h; rw [if_pos hc] at h; exact h
  obtain ⟨hlm, hwf⟩ := checkE_ok hc
  have hk : lrK g = some (lrKs g) := by
    unfold lrKs
    rw [if_pos h]
    unfold lrE at h
    rw [if_neg (fun hn => hn hc)] at h
    cases e : lrK g with
    | none => rw [e] at h; cases h
    | some ks => rfl
  have := lrF_ok (GOk.of hwf) _ _ _ _ (beg_ok (GOk.of hwf)) (by simp) hk
  exact ⟨hc, hk, this.1, this.2⟩

theorem lr_num (g : Gram) : LrNum (lrKs g) (lrGs g) := by
  by_cases h : lrE g = 0
  · obtain ⟨hc, hk, hK, hn⟩ := lr_fin h
    obtain ⟨hlm, hwf⟩ := checkE_ok hc
    have hL := lims hlm
    have hT := hL.t; have hN := hL.n
    refine ⟨by omega, ?_, fun k hk => ?_, fun k hk x hx => ?_, fun r hr => ?_, fun r hr z hz => ?_⟩
    · unfold lrGs; rw [List.length_map]; omega
    · have := sort_len hL (hK.ok k hk).sort (hK.ok k hk).inG; omega
    · have := inG_dot hL ((hK.ok k hk).inG x hx); exact ⟨⟨by omega, by omega⟩, ⟨by omega, by omega⟩⟩
    · unfold lrGs at hr
      obtain ⟨k, _, rfl⟩ := List.mem_map.1 hr
      unfold gotoR
      rw [List.length_map, List.length_range]; omega
    · unfold lrGs at hr
      obtain ⟨k, _, rfl⟩ := List.mem_map.1 hr
      unfold gotoR at hz
      obtain ⟨s, _, rfl⟩ := List.mem_map.1 hz
      unfold numK
      split
      · unfold I64; omega
      · have : ix (lrKs g) (goI g (closedP g k) s) ≤ (lrKs g).length := ix_le _ _
        unfold I64; omega
  · obtain ⟨h1, h2⟩ := lr_bad h
    rw [h1, h2]
    exact ⟨by simp, by simp, (fun _ h => nomatch h), (fun _ h => nomatch h), (fun _ h => nomatch h), (fun _ h => nomatch h)⟩

end Go.Proofs.YtcbaebkkdkdaaaaDoor

namespace Go.Proofs.YtcbaebkkdkdaaaaDoor
set_option linter.all false
open Go.Proofs.YtcbaebkkdkdaaaaDoor.E

theorem Can.byEnt {E0 : Go.Proofs.YtcbaebkkdkdaaaaDoor.E.Env} {U V : List Asn} {R : Rd} (h : Go.Proofs.YtcbaebkkdkdaaaaDoor.E.Can E0 V R) (he : Ent U V) : Go.Proofs.YtcbaebkkdkdaaaaDoor.E.Can E0 U R := fun w S ha hs => h w S ha (he w S hs)

theorem ent_dropL : ∀ {L U : List Asn}, Ent (L ++ U) U
  | [], _ => Ent.refl _
  | _ :: _, _ => Ent.wk ent_dropL

attribute [local irreducible] EVX EVO EVL EV1 NEV
attribute [local irreducible] own osl exA rdA rdL
attribute [local irreducible] bldA mapA bun
set_option maxRecDepth 10000
set_option maxHeartbeats 4000000

theorem works19_w : Trip Tryd.prog 15 [] Rd.tt [] (fun v V => v = .bool true ∧ V = []) := by
  refine trip Tryd.tabOk Tryd.func15 rfl rfl rfl rfl ?_
  rintro w SM hW
  clear hW
  repeat' (first | refine e_nil ?_ | ((first | refine e_op ?_ | refine e_yes rfl ?_); (first | refine o_n (peval_sound rfl) rfl ?_ | refine o_n (nl rfl rfl tc rfl) rfl ?_ | refine o_storeC rfl rfl rfl rfl tc uc rfl rfl rfl ?_ | refine o_box rfl rfl (fun _ => ?_) | refine o_box1 rfl rfl rfl (fun _ => ?_) | refine o_alloc rfl rfl (fun _ => ?_))) | refine e_noU rfl rfl rfl ?_ | refine e_noN rfl rfl ?_ | refine s_seq ?_ | refine s_region ?_ | refine s_block ?_ | refine s_end ?_ | refine s_skip ?_ | refine s_exit ?_ | refine s_true rfl ?_ | refine s_false rfl ?_ | refine x_hit ?_ | refine x_code ?_ | refine x_back ?_ | refine x_miss rfl ?_)
  refine e_op (o_call chapter19_w rfl .nil Can.tt rfl ?_)
  rintro v V ⟨b0, b1, b2, b3, b5, b8, rfl, rfl⟩
  repeat' (first | refine e_nil ?_ | ((first | refine e_op ?_ | refine e_yes rfl ?_); (first | refine o_n (peval_sound rfl) rfl ?_ | refine o_n (nl rfl rfl tc rfl) rfl ?_ | refine o_storeC rfl rfl rfl rfl tc uc rfl rfl rfl ?_ | refine o_box rfl rfl (fun _ => ?_) | refine o_box1 rfl rfl rfl (fun _ => ?_) | refine o_alloc rfl rfl (fun _ => ?_))) | refine e_noU rfl rfl rfl ?_ | refine e_noN rfl rfl ?_ | refine s_seq ?_ | refine s_region ?_ | refine s_block ?_ | refine s_end ?_ | refine s_skip ?_ | refine s_exit ?_ | refine s_true rfl ?_ | refine s_false rfl ?_ | refine x_hit ?_ | refine x_code ?_ | refine x_back ?_ | refine x_miss rfl ?_)
  refine e_op (o_call (ofP_w _ ch19 (fun _ => by decide)) rfl .nil can_ch19 rfl ?_)
  rintro v V ⟨x, rfl, AK, cK, acs, AG, cG, bcs, hl, hb, rfl, rfl⟩
  rw [ch19_lrE]
  generalize hKS : lrKs ch19 = KS at hl ⊢
  generalize hGS : lrGs ch19 = GS at hb ⊢
  have hN := lr_num ch19
  rw [hKS, hGS] at hN
  repeat' (first | refine e_nil ?_ | ((first | refine e_op ?_ | refine e_yes rfl ?_); (first | refine o_n (peval_sound rfl) rfl ?_ | refine o_n (nl rfl rfl tc rfl) rfl ?_ | refine o_storeC rfl rfl rfl rfl tc uc rfl rfl rfl ?_ | refine o_box rfl rfl (fun _ => ?_) | refine o_box1 rfl rfl rfl (fun _ => ?_) | refine o_alloc rfl rfl (fun _ => ?_))) | refine e_noU rfl rfl rfl ?_ | refine e_noN rfl rfl ?_ | refine s_seq ?_ | refine s_region ?_ | refine s_block ?_ | refine s_end ?_ | refine s_skip ?_ | refine s_exit ?_ | refine s_true rfl ?_ | refine s_false rfl ?_ | refine x_hit ?_ | refine x_code ?_ | refine x_back ?_ | refine x_miss rfl ?_)
  rename_i bx
  refine e_weak (V := [blk bx 35 [.slice AK KS.length cK, .slice AG GS.length cG], kerS AK KS.length cK acs KS, kerB acs KS, gotS AG GS.length cG bcs GS, gotB bcs GS]) (Sub.refl _) (Ent.cons (Ent.cons (Ent.cons (Ent.cons (Ent.cons (Ent.nil _)))))) ?_
  refine e_op (o_call chapter19_w rfl .nil Can.tt rfl ?_)
  rintro v V ⟨b0, b1, b2, b3, b5, b8, rfl, rfl⟩
  repeat' (first | refine e_nil ?_ | ((first | refine e_op ?_ | refine e_yes rfl ?_); (first | refine o_n (peval_sound rfl) rfl ?_ | refine o_n (nl rfl rfl tc rfl) rfl ?_ | refine o_storeC rfl rfl rfl rfl tc uc rfl rfl rfl ?_ | refine o_box rfl rfl (fun _ => ?_) | refine o_box1 rfl rfl rfl (fun _ => ?_) | refine o_alloc rfl rfl (fun _ => ?_))) | refine e_noU rfl rfl rfl ?_ | refine e_noN rfl rfl ?_ | refine s_seq ?_ | refine s_region ?_ | refine s_block ?_ | refine s_end ?_ | refine s_skip ?_ | refine s_exit ?_ | refine s_true rfl ?_ | refine s_false rfl ?_ | refine x_hit ?_ | refine x_code ?_ | refine x_back ?_ | refine x_miss rfl ?_)
  refine e_op (o_lit (ps := [(0, .agg #[.int .i64 1, .int .i64 1])]) (cs := encX ⟨1, 1⟩) rfl rfl rfl rfl rfl rfl rfl (fun bl => ?_))
  have hI11 : ∀ x ∈ [(⟨1, 1⟩ : Itm)], I64 x.Prod ∧ I64 x.Dot := fun x hx => by rw [List.mem_singleton] at hx; subst hx; exact ⟨⟨by decide, by decide⟩, ⟨by decide, by decide⟩⟩
  refine e_op (o_call (closeP_w (chC19 b0 b1 b2 b8) ch19 (some ⟨bl, 0, none⟩) 1 [⟨1, 1⟩]) rfl .nil (Can.and (Can.byEnt (can_ch19 (U := [blk bx 35 [.slice AK KS.length cK, .slice AG GS.length cG], kerS AK KS.length cK acs KS, kerB acs KS, gotS AG GS.length cG bcs GS, gotB bcs GS])) (Ent.wk (Ent.refl _))) (can_items .z hI11 (by simp))) rfl ?_)
  rintro v V ⟨Ac, cc, rfl, rfl⟩
  rw [ch19_ce, ch19_cl]
  simp only [List.cons_append, List.nil_append]
  refine e_weak (V := [pX Ac 3 cc [⟨1, 0⟩, ⟨1, 1⟩, ⟨2, 0⟩], blk bx 35 [.slice AK KS.length cK, .slice AG GS.length cG], kerS AK KS.length cK acs KS, kerB acs KS, gotS AG GS.length cG bcs GS, gotB bcs GS]) (Sub.refl _) (Ent.cons (Ent.wk ent_dropL)) ?_
  repeat' (first | refine e_nil ?_ | ((first | refine e_op ?_ | refine e_yes rfl ?_); (first | refine o_n (peval_sound rfl) rfl ?_ | refine o_n (nl rfl rfl tc rfl) rfl ?_ | refine o_storeC rfl rfl rfl rfl tc uc rfl rfl rfl ?_ | refine o_box rfl rfl (fun _ => ?_) | refine o_box1 rfl rfl rfl (fun _ => ?_) | refine o_alloc rfl rfl (fun _ => ?_))) | refine e_noU rfl rfl rfl ?_ | refine e_noN rfl rfl ?_ | refine s_seq ?_ | refine s_region ?_ | refine s_block ?_ | refine s_end ?_ | refine s_skip ?_ | refine s_exit ?_ | refine s_true rfl ?_ | refine s_false rfl ?_ | refine x_hit ?_ | refine x_code ?_ | refine x_back ?_ | refine x_miss rfl ?_)
  refine e_op (o_lit (ps := [(0, .agg #[.int .i64 0, .int .i64 0])]) (cs := encX ⟨0, 0⟩) rfl rfl rfl rfl rfl rfl rfl (fun k0 => ?_))
  repeat' (first | refine e_nil ?_ | ((first | refine e_op ?_ | refine e_yes rfl ?_); (first | refine o_n (peval_sound rfl) rfl ?_ | refine o_n (nl rfl rfl tc rfl) rfl ?_ | refine o_storeC rfl rfl rfl rfl tc uc rfl rfl rfl ?_ | refine o_box rfl rfl (fun _ => ?_) | refine o_box1 rfl rfl rfl (fun _ => ?_) | refine o_alloc rfl rfl (fun _ => ?_))) | refine e_noU rfl rfl rfl ?_ | refine e_noN rfl rfl ?_ | refine s_seq ?_ | refine s_region ?_ | refine s_block ?_ | refine s_end ?_ | refine s_skip ?_ | refine s_exit ?_ | refine s_true rfl ?_ | refine s_false rfl ?_ | refine x_hit ?_ | refine x_code ?_ | refine x_back ?_ | refine x_miss rfl ?_)
  refine e_op (o_lit (ps := [(0, .agg #[.int .i64 1, .int .i64 1])]) (cs := encX ⟨1, 1⟩) rfl rfl rfl rfl rfl rfl rfl (fun k1 => ?_))
  repeat' (first | refine e_nil ?_ | ((first | refine e_op ?_ | refine e_yes rfl ?_); (first | refine o_n (peval_sound rfl) rfl ?_ | refine o_n (nl rfl rfl tc rfl) rfl ?_ | refine o_storeC rfl rfl rfl rfl tc uc rfl rfl rfl ?_ | refine o_box rfl rfl (fun _ => ?_) | refine o_box1 rfl rfl rfl (fun _ => ?_) | refine o_alloc rfl rfl (fun _ => ?_))) | refine e_noU rfl rfl rfl ?_ | refine e_noN rfl rfl ?_ | refine s_seq ?_ | refine s_region ?_ | refine s_block ?_ | refine s_end ?_ | refine s_skip ?_ | refine s_exit ?_ | refine s_true rfl ?_ | refine s_false rfl ?_ | refine x_hit ?_ | refine x_code ?_ | refine x_back ?_ | refine x_miss rfl ?_)
  refine e_op (o_lit (ps := [(0, .agg #[.int .i64 0, .int .i64 1])]) (cs := encX ⟨0, 1⟩) rfl rfl rfl rfl rfl rfl rfl (fun k2 => ?_))
  repeat' (first | refine e_nil ?_ | ((first | refine e_op ?_ | refine e_yes rfl ?_); (first | refine o_n (peval_sound rfl) rfl ?_ | refine o_n (nl rfl rfl tc rfl) rfl ?_ | refine o_storeC rfl rfl rfl rfl tc uc rfl rfl rfl ?_ | refine o_box rfl rfl (fun _ => ?_) | refine o_box1 rfl rfl rfl (fun _ => ?_) | refine o_alloc rfl rfl (fun _ => ?_))) | refine e_noU rfl rfl rfl ?_ | refine e_noN rfl rfl ?_ | refine s_seq ?_ | refine s_region ?_ | refine s_block ?_ | refine s_end ?_ | refine s_skip ?_ | refine s_exit ?_ | refine s_true rfl ?_ | refine s_false rfl ?_ | refine x_hit ?_ | refine x_code ?_ | refine x_back ?_ | refine x_miss rfl ?_)
  refine e_op (o_lit (ps := [(0, .agg #[.int .i64 1, .int .i64 2])]) (cs := encX ⟨1, 2⟩) rfl rfl rfl rfl rfl rfl rfl (fun k3 => ?_))
  repeat' (first | refine e_nil ?_ | ((first | refine e_op ?_ | refine e_yes rfl ?_); (first | refine o_n (peval_sound rfl) rfl ?_ | refine o_n (nl rfl rfl tc rfl) rfl ?_ | refine o_storeC rfl rfl rfl rfl tc uc rfl rfl rfl ?_ | refine o_box rfl rfl (fun _ => ?_) | refine o_box1 rfl rfl rfl (fun _ => ?_) | refine o_alloc rfl rfl (fun _ => ?_))) | refine e_noU rfl rfl rfl ?_ | refine e_noN rfl rfl ?_ | refine s_seq ?_ | refine s_region ?_ | refine s_block ?_ | refine s_end ?_ | refine s_skip ?_ | refine s_exit ?_ | refine s_true rfl ?_ | refine s_false rfl ?_ | refine x_hit ?_ | refine x_code ?_ | refine x_back ?_ | refine x_miss rfl ?_)
  refine e_op (o_lit (ps := [(0, .slice (some ⟨k0, 0, none⟩) 1 1), (1, .slice (some ⟨k1, 0, none⟩) 1 1), (2, .slice (some ⟨k2, 0, none⟩) 1 1), (3, .slice (some ⟨k3, 0, none⟩) 1 1)]) (cs := [.slice (some ⟨k0, 0, none⟩) 1 1, .slice (some ⟨k1, 0, none⟩) 1 1, .slice (some ⟨k2, 0, none⟩) 1 1, .slice (some ⟨k3, 0, none⟩) 1 1]) rfl rfl rfl rfl rfl rfl rfl (fun kk => ?_))
  repeat' (first | refine e_nil ?_ | ((first | refine e_op ?_ | refine e_yes rfl ?_); (first | refine o_n (peval_sound rfl) rfl ?_ | refine o_n (nl rfl rfl tc rfl) rfl ?_ | refine o_storeC rfl rfl rfl rfl tc uc rfl rfl rfl ?_ | refine o_box rfl rfl (fun _ => ?_) | refine o_box1 rfl rfl rfl (fun _ => ?_) | refine o_alloc rfl rfl (fun _ => ?_))) | refine e_noU rfl rfl rfl ?_ | refine e_noN rfl rfl ?_ | refine s_seq ?_ | refine s_region ?_ | refine s_block ?_ | refine s_end ?_ | refine s_skip ?_ | refine s_exit ?_ | refine s_true rfl ?_ | refine s_false rfl ?_ | refine x_hit ?_ | refine x_code ?_ | refine x_back ?_ | refine x_miss rfl ?_)
  refine e_op (o_lit (ps := [(0, .int .i64 (-1)), (1, .int .i64 (1)), (2, .int .i64 (-1)), (3, .int .i64 (2))]) (cs := [.int .i64 (-1), .int .i64 (1), .int .i64 (-1), .int .i64 (2)]) rfl rfl rfl rfl rfl rfl rfl (fun g0 => ?_))
  repeat' (first | refine e_nil ?_ | ((first | refine e_op ?_ | refine e_yes rfl ?_); (first | refine o_n (peval_sound rfl) rfl ?_ | refine o_n (nl rfl rfl tc rfl) rfl ?_ | refine o_storeC rfl rfl rfl rfl tc uc rfl rfl rfl ?_ | refine o_box rfl rfl (fun _ => ?_) | refine o_box1 rfl rfl rfl (fun _ => ?_) | refine o_alloc rfl rfl (fun _ => ?_))) | refine e_noU rfl rfl rfl ?_ | refine e_noN rfl rfl ?_ | refine s_seq ?_ | refine s_region ?_ | refine s_block ?_ | refine s_end ?_ | refine s_skip ?_ | refine s_exit ?_ | refine s_true rfl ?_ | refine s_false rfl ?_ | refine x_hit ?_ | refine x_code ?_ | refine x_back ?_ | refine x_miss rfl ?_)
  refine e_op (o_lit (ps := [(0, .int .i64 (-1)), (1, .int .i64 (1)), (2, .int .i64 (-1)), (3, .int .i64 (3))]) (cs := [.int .i64 (-1), .int .i64 (1), .int .i64 (-1), .int .i64 (3)]) rfl rfl rfl rfl rfl rfl rfl (fun g1 => ?_))
  repeat' (first | refine e_nil ?_ | ((first | refine e_op ?_ | refine e_yes rfl ?_); (first | refine o_n (peval_sound rfl) rfl ?_ | refine o_n (nl rfl rfl tc rfl) rfl ?_ | refine o_storeC rfl rfl rfl rfl tc uc rfl rfl rfl ?_ | refine o_box rfl rfl (fun _ => ?_) | refine o_box1 rfl rfl rfl (fun _ => ?_) | refine o_alloc rfl rfl (fun _ => ?_))) | refine e_noU rfl rfl rfl ?_ | refine e_noN rfl rfl ?_ | refine s_seq ?_ | refine s_region ?_ | refine s_block ?_ | refine s_end ?_ | refine s_skip ?_ | refine s_exit ?_ | refine s_true rfl ?_ | refine s_false rfl ?_ | refine x_hit ?_ | refine x_code ?_ | refine x_back ?_ | refine x_miss rfl ?_)
  refine e_op (o_lit (ps := [(0, .int .i64 (-1)), (1, .int .i64 (-1)), (2, .int .i64 (-1)), (3, .int .i64 (-1))]) (cs := [.int .i64 (-1), .int .i64 (-1), .int .i64 (-1), .int .i64 (-1)]) rfl rfl rfl rfl rfl rfl rfl (fun g2 => ?_))
  repeat' (first | refine e_nil ?_ | ((first | refine e_op ?_ | refine e_yes rfl ?_); (first | refine o_n (peval_sound rfl) rfl ?_ | refine o_n (nl rfl rfl tc rfl) rfl ?_ | refine o_storeC rfl rfl rfl rfl tc uc rfl rfl rfl ?_ | refine o_box rfl rfl (fun _ => ?_) | refine o_box1 rfl rfl rfl (fun _ => ?_) | refine o_alloc rfl rfl (fun _ => ?_))) | refine e_noU rfl rfl rfl ?_ | refine e_noN rfl rfl ?_ | refine s_seq ?_ | refine s_region ?_ | refine s_block ?_ | refine s_end ?_ | refine s_skip ?_ | refine s_exit ?_ | refine s_true rfl ?_ | refine s_false rfl ?_ | refine x_hit ?_ | refine x_code ?_ | refine x_back ?_ | refine x_miss rfl ?_)
  refine e_op (o_lit (ps := [(0, .int .i64 (-1)), (1, .int .i64 (-1)), (2, .int .i64 (-1)), (3, .int .i64 (-1))]) (cs := [.int .i64 (-1), .int .i64 (-1), .int .i64 (-1), .int .i64 (-1)]) rfl rfl rfl rfl rfl rfl rfl (fun g3 => ?_))
  repeat' (first | refine e_nil ?_ | ((first | refine e_op ?_ | refine e_yes rfl ?_); (first | refine o_n (peval_sound rfl) rfl ?_ | refine o_n (nl rfl rfl tc rfl) rfl ?_ | refine o_storeC rfl rfl rfl rfl tc uc rfl rfl rfl ?_ | refine o_box rfl rfl (fun _ => ?_) | refine o_box1 rfl rfl rfl (fun _ => ?_) | refine o_alloc rfl rfl (fun _ => ?_))) | refine e_noU rfl rfl rfl ?_ | refine e_noN rfl rfl ?_ | refine s_seq ?_ | refine s_region ?_ | refine s_block ?_ | refine s_end ?_ | refine s_skip ?_ | refine s_exit ?_ | refine s_true rfl ?_ | refine s_false rfl ?_ | refine x_hit ?_ | refine x_code ?_ | refine x_back ?_ | refine x_miss rfl ?_)
  refine e_op (o_lit (ps := [(0, .slice (some ⟨g0, 0, none⟩) 4 4), (1, .slice (some ⟨g1, 0, none⟩) 4 4), (2, .slice (some ⟨g2, 0, none⟩) 4 4), (3, .slice (some ⟨g3, 0, none⟩) 4 4)]) (cs := [.slice (some ⟨g0, 0, none⟩) 4 4, .slice (some ⟨g1, 0, none⟩) 4 4, .slice (some ⟨g2, 0, none⟩) 4 4, .slice (some ⟨g3, 0, none⟩) 4 4]) rfl rfl rfl rfl rfl rfl rfl (fun gg => ?_))
  repeat' (first | refine e_nil ?_ | ((first | refine e_op ?_ | refine e_yes rfl ?_); (first | refine o_n (peval_sound rfl) rfl ?_ | refine o_n (nl rfl rfl tc rfl) rfl ?_ | refine o_storeC rfl rfl rfl rfl tc uc rfl rfl rfl ?_ | refine o_box rfl rfl (fun _ => ?_) | refine o_box1 rfl rfl rfl (fun _ => ?_) | refine o_alloc rfl rfl (fun _ => ?_))) | refine e_noU rfl rfl rfl ?_ | refine e_noN rfl rfl ?_ | refine s_seq ?_ | refine s_region ?_ | refine s_block ?_ | refine s_end ?_ | refine s_skip ?_ | refine s_exit ?_ | refine s_true rfl ?_ | refine s_false rfl ?_ | refine x_hit ?_ | refine x_code ?_ | refine x_back ?_ | refine x_miss rfl ?_)
  rename_i by_
  have eKS : KS = ([[⟨0, 0⟩], [⟨1, 1⟩], [⟨0, 1⟩], [⟨1, 2⟩]] : List (List Itm)) := by rw [← hKS]; exact ch19_ks
  have eGS : GS = ([[-1, 1, -1, 2], [-1, 1, -1, 3], [-1, -1, -1, -1], [-1, -1, -1, -1]] : List (List Int)) := by rw [← hGS]; exact ch19_gs
  have hNW : LrNum ([[⟨0, 0⟩], [⟨1, 1⟩], [⟨0, 1⟩], [⟨1, 2⟩]] : List (List Itm)) ([[-1, 1, -1, 2], [-1, 1, -1, 3], [-1, -1, -1, -1], [-1, -1, -1, -1]] : List (List Int)) := by rw [← eKS, ← eGS]; exact hN
  refine e_weak (V := [kerS (some ⟨kk, 0, none⟩) 4 4 [(some ⟨k0, 0, none⟩, 1), (some ⟨k1, 0, none⟩, 1), (some ⟨k2, 0, none⟩, 1), (some ⟨k3, 0, none⟩, 1)] ([[⟨0, 0⟩], [⟨1, 1⟩], [⟨0, 1⟩], [⟨1, 2⟩]] : List (List Itm)), kerB [(some ⟨k0, 0, none⟩, 1), (some ⟨k1, 0, none⟩, 1), (some ⟨k2, 0, none⟩, 1), (some ⟨k3, 0, none⟩, 1)] ([[⟨0, 0⟩], [⟨1, 1⟩], [⟨0, 1⟩], [⟨1, 2⟩]] : List (List Itm)), gotS (some ⟨gg, 0, none⟩) 4 4 [(some ⟨g0, 0, none⟩, 4), (some ⟨g1, 0, none⟩, 4), (some ⟨g2, 0, none⟩, 4), (some ⟨g3, 0, none⟩, 4)] ([[-1, 1, -1, 2], [-1, 1, -1, 3], [-1, -1, -1, -1], [-1, -1, -1, -1]] : List (List Int)), gotB [(some ⟨g0, 0, none⟩, 4), (some ⟨g1, 0, none⟩, 4), (some ⟨g2, 0, none⟩, 4), (some ⟨g3, 0, none⟩, 4)] ([[-1, 1, -1, 2], [-1, 1, -1, 3], [-1, -1, -1, -1], [-1, -1, -1, -1]] : List (List Int)), pX Ac 3 cc [⟨1, 0⟩, ⟨1, 1⟩, ⟨2, 0⟩], kerS AK KS.length cK acs KS, kerB acs KS, gotS AG GS.length cG bcs GS, gotB bcs GS]) (Sub.refl _) ?_ ?_
  · refine Ent.wk (Ent.tak (.s (.s (.s (.s (.s .z))))) ?_)
    refine Ent.trans (Ent.tak (.s (.s (.s (.s (.s (.s (.s (.s .z)))))))) (Ent.tak (.s (.s (.s (.s (.s (.s (.s .z))))))) (Ent.tak (.s (.s (.s (.s (.s (.s .z)))))) (Ent.tak (.s (.s (.s (.s (.s .z))))) (Ent.refl _))))) ?_
    refine Ent.trans (ent_bun (L := [_, _, _, _])) (Ent.cons (Ent.cons ?_))
    refine Ent.trans (Ent.tak (.s (.s (.s .z))) (Ent.tak (.s (.s .z)) (Ent.tak (.s .z) (Ent.tak .z (Ent.refl _))))) ?_
    exact Ent.trans (ent_bun (L := [_, _, _, _])) (Ent.cons (Ent.cons (Ent.wk (Ent.refl _))))
  refine e_yes rfl (o_call (same19_w [.slice AK KS.length cK, .slice AG GS.length cG] [.slice (some ⟨kk, 0, none⟩) 4 4, .slice (some ⟨gg, 0, none⟩) 4 4] (KS, GS) (([[⟨0, 0⟩], [⟨1, 1⟩], [⟨0, 1⟩], [⟨1, 2⟩]] : List (List Itm)), ([[-1, 1, -1, 2], [-1, 1, -1, 3], [-1, -1, -1, -1], [-1, -1, -1, -1]] : List (List Int))) (by rw [eKS, eGS]; rfl)) rfl .nil (Can.and (can_lr hl hb hN (U := [kerS (some ⟨kk, 0, none⟩) 4 4 [(some ⟨k0, 0, none⟩, 1), (some ⟨k1, 0, none⟩, 1), (some ⟨k2, 0, none⟩, 1), (some ⟨k3, 0, none⟩, 1)] ([[⟨0, 0⟩], [⟨1, 1⟩], [⟨0, 1⟩], [⟨1, 2⟩]] : List (List Itm)), kerB [(some ⟨k0, 0, none⟩, 1), (some ⟨k1, 0, none⟩, 1), (some ⟨k2, 0, none⟩, 1), (some ⟨k3, 0, none⟩, 1)] ([[⟨0, 0⟩], [⟨1, 1⟩], [⟨0, 1⟩], [⟨1, 2⟩]] : List (List Itm)), gotS (some ⟨gg, 0, none⟩) 4 4 [(some ⟨g0, 0, none⟩, 4), (some ⟨g1, 0, none⟩, 4), (some ⟨g2, 0, none⟩, 4), (some ⟨g3, 0, none⟩, 4)] ([[-1, 1, -1, 2], [-1, 1, -1, 3], [-1, -1, -1, -1], [-1, -1, -1, -1]] : List (List Int)), gotB [(some ⟨g0, 0, none⟩, 4), (some ⟨g1, 0, none⟩, 4), (some ⟨g2, 0, none⟩, 4), (some ⟨g3, 0, none⟩, 4)] ([[-1, 1, -1, 2], [-1, 1, -1, 3], [-1, -1, -1, -1], [-1, -1, -1, -1]] : List (List Int)), pX Ac 3 cc [⟨1, 0⟩, ⟨1, 1⟩, ⟨2, 0⟩]]) (Ent.tak (.s (.s (.s (.s (.s .z))))) (Ent.tak (.s (.s (.s (.s (.s .z))))) (Ent.tak (.s (.s (.s (.s (.s .z))))) (Ent.tak (.s (.s (.s (.s (.s .z))))) (Ent.refl _)))))) (can_lr (acs := [(some ⟨k0, 0, none⟩, 1), (some ⟨k1, 0, none⟩, 1), (some ⟨k2, 0, none⟩, 1), (some ⟨k3, 0, none⟩, 1)]) (bcs := [(some ⟨g0, 0, none⟩, 4), (some ⟨g1, 0, none⟩, 4), (some ⟨g2, 0, none⟩, 4), (some ⟨g3, 0, none⟩, 4)]) (ks := ([[⟨0, 0⟩], [⟨1, 1⟩], [⟨0, 1⟩], [⟨1, 2⟩]] : List (List Itm))) (gs := ([[-1, 1, -1, 2], [-1, 1, -1, 3], [-1, -1, -1, -1], [-1, -1, -1, -1]] : List (List Int))) rfl rfl hNW (Ent.refl _))) rfl ?_)
  rintro v V ⟨rfl, rfl⟩
  rw [decide_eq_true (show (KS, GS) = (([[⟨0, 0⟩], [⟨1, 1⟩], [⟨0, 1⟩], [⟨1, 2⟩]] : List (List Itm)), ([[-1, 1, -1, 2], [-1, 1, -1, 3], [-1, -1, -1, -1], [-1, -1, -1, -1]] : List (List Int))) by rw [eKS, eGS])]
  simp only [List.nil_append]
  repeat' (first | refine e_nil ?_ | ((first | refine e_op ?_ | refine e_yes rfl ?_); (first | refine o_n (peval_sound rfl) rfl ?_ | refine o_n (nl rfl rfl tc rfl) rfl ?_ | refine o_storeC rfl rfl rfl rfl tc uc rfl rfl rfl ?_ | refine o_box rfl rfl (fun _ => ?_) | refine o_box1 rfl rfl rfl (fun _ => ?_) | refine o_alloc rfl rfl (fun _ => ?_))) | refine e_noU rfl rfl rfl ?_ | refine e_noN rfl rfl ?_ | refine s_seq ?_ | refine s_region ?_ | refine s_block ?_ | refine s_end ?_ | refine s_skip ?_ | refine s_exit ?_ | refine s_true rfl ?_ | refine s_false rfl ?_ | refine x_hit ?_ | refine x_code ?_ | refine x_back ?_ | refine x_miss rfl ?_)
  refine e_yes rfl (o_lit (ps := [(0, .agg #[.int .i64 1, .int .i64 0]), (1, .agg #[.int .i64 1, .int .i64 1]), (2, .agg #[.int .i64 2, .int .i64 0])]) (cs := [(⟨1, 0⟩ : Itm), ⟨1, 1⟩, ⟨2, 0⟩].flatMap encX) rfl rfl rfl rfl rfl rfl rfl (fun bw => ?_))
  have hIW : ∀ x ∈ [(⟨1, 0⟩ : Itm), ⟨1, 1⟩, ⟨2, 0⟩], I64 x.Prod ∧ I64 x.Dot := fun x hx => by simp at hx; rcases hx with rfl | rfl | rfl <;> exact ⟨⟨by decide, by decide⟩, ⟨by decide, by decide⟩⟩
  refine e_yes rfl (o_call (sameItems_w Ac (some ⟨bw, 0, none⟩) cc 3 [(⟨1, 0⟩ : Itm), ⟨1, 1⟩, ⟨2, 0⟩] [(⟨1, 0⟩ : Itm), ⟨1, 1⟩, ⟨2, 0⟩]) rfl .nil (Can.and (can_items (.s (.s (.s (.s (.s .z))))) hIW (by simp)) (can_items (c := 3) .z hIW (by simp))) rfl ?_)
  rintro v V ⟨rfl, rfl⟩
  rw [decide_eq_true rfl]
  simp only [List.nil_append]
  repeat' (first | refine e_nil ?_ | ((first | refine e_op ?_ | refine e_yes rfl ?_); (first | refine o_n (peval_sound rfl) rfl ?_ | refine o_n (nl rfl rfl tc rfl) rfl ?_ | refine o_storeC rfl rfl rfl rfl tc uc rfl rfl rfl ?_ | refine o_box rfl rfl (fun _ => ?_) | refine o_box1 rfl rfl rfl (fun _ => ?_) | refine o_alloc rfl rfl (fun _ => ?_))) | refine e_noU rfl rfl rfl ?_ | refine e_noN rfl rfl ?_ | refine s_seq ?_ | refine s_region ?_ | refine s_block ?_ | refine s_end ?_ | refine s_skip ?_ | refine s_exit ?_ | refine s_true rfl ?_ | refine s_false rfl ?_ | refine x_hit ?_ | refine x_code ?_ | refine x_back ?_ | refine x_miss rfl ?_)
  refine s_ret ⟨_, _, res1 rfl rfl, ⟨rfl, rfl⟩, Ent.nil _⟩

end Go.Proofs.YtcbaebkkdkdaaaaDoor

namespace Go.Proofs.YtcbaebkkdkdaaaaDoor
set_option linter.all false
open Go.Proofs.YtcbaebkkdkdaaaaDoor.E
attribute [local irreducible] EVX EVO EVL EV1 NEV
set_option maxRecDepth 10000
set_option maxHeartbeats 1000000

theorem flat_lev : Flat kLev := flat_iso (flat_pair flat_int flat_int)
theorem onec_lev : OneC kLev := onec_iso (onec_pair onec_int onec_int)
theorem flat_pt : Flat kPt := flat_iso (flat_pair flat_int flat_str)
theorem onec_pt : OneC kPt := onec_iso (onec_pair onec_int onec_str)

theorem copy_w (cs : List Value) (g : Gram) : Trip Tryd.prog 17 [.agg cs.toArray] (kGram.rd cs g) [] 
    (fun v V => ∃ (a0 a1 a2 a3 a4 : Option Addr) (d0 d1 d2 d3 d4 : Nat), v = .agg #[.slice a0 g.Terms.length d0, .slice a1 g.Levels.length d1, .slice a2 g.Pats.length d2, .slice a3 g.Nons.length d3, .slice a4 g.Prods.length d4] ∧
      V = [rdA kGram [.slice a0 g.Terms.length d0, .slice a1 g.Levels.length d1, .slice a2 g.Pats.length d2, .slice a3 g.Nons.length d3, .slice a4 g.Prods.length d4] g]) := by
  refine trip Tryd.tabOk Tryd.func17 rfl rfl rfl rfl ?_
  intro w SM hR
  obtain ⟨A0, A1, A2, A3, A4, c0, c1, c2, c3, c4, rfl, hG⟩ := kGram_open hR
  have hT := hG.terms.2.1
  have hL := hG.levels.2.1
  have hPt := hG.pats.2.1
  have hN := hG.nons.2.1
  have hP := hG.prods.2.1
  have hT' := sl_mk hG.terms
  have hL' := sl_mk hG.levels
  have hPt' := sl_mk hG.pats
  have hN' := sl_mk hG.nons
  repeat' (first | refine e_nil ?_ | ((first | refine e_op ?_ | refine e_yes rfl ?_); (first | refine o_n (peval_sound rfl) rfl ?_ | refine o_n (nl rfl rfl tc rfl) rfl ?_ | refine o_storeC rfl rfl rfl rfl tc uc rfl rfl rfl ?_ | refine o_box rfl rfl (fun _ => ?_) | refine o_box1 rfl rfl rfl (fun _ => ?_) | refine o_alloc rfl rfl (fun _ => ?_))) | refine e_noU rfl rfl rfl ?_ | refine e_noN rfl rfl ?_ | refine s_seq ?_ | refine s_region ?_ | refine s_block ?_ | refine s_end ?_ | refine s_skip ?_ | refine s_exit ?_ | refine s_true rfl ?_ | refine s_false rfl ?_ | refine x_hit ?_ | refine x_code ?_ | refine x_back ?_ | refine x_miss rfl ?_)
  rename_i b1 b2
  refine s_anyU Tryd.mixed ?_
  refine a_join (ι := Nat × (Option Addr × Nat) × (Option Addr × Nat) × (Option Addr × Nat) × (Option Addr × Nat))
    (fun x => [(1, .pointer (some ⟨b1, 0, none⟩)), (2, .pointer (some ⟨b2, 0, none⟩)), (3, .pointer (some ⟨x.1, 0, none⟩))])
    (fun x => [blk x.1 27 [.slice x.2.1.1 g.Terms.length x.2.1.2, .slice x.2.2.1.1 g.Levels.length x.2.2.1.2, .slice x.2.2.2.1.1 g.Pats.length x.2.2.2.1.2, .slice x.2.2.2.2.1 g.Nons.length x.2.2.2.2.2, .slice none 0 0],
      blk b2 27 [.slice none 0 0, .slice none 0 0, .slice none 0 0, .slice none 0 0, .slice none 0 0],
      blk b1 27 [.slice A0 g.Terms.length c0, .slice A1 g.Levels.length c1, .slice A2 g.Pats.length c2, .slice A3 g.Nons.length c3, .slice A4 g.Prods.length c4],
      rdA (kslice 16 kstr) [.slice x.2.1.1 g.Terms.length x.2.1.2] g.Terms, rdA (kslice 16 kLev) [.slice x.2.2.1.1 g.Levels.length x.2.2.1.2] g.Levels,
      rdA (kslice 24 kPt) [.slice x.2.2.2.1.1 g.Pats.length x.2.2.2.1.2] g.Pats, rdA (kslice 16 kstr) [.slice x.2.2.2.2.1 g.Nons.length x.2.2.2.2.2] g.Nons]) ?_ (fun hfin => ?_)
  · rintro ⟨b3, ⟨a0, d0⟩, ⟨a1, d1⟩, ⟨a2, d2⟩, a3, d3⟩
    simp only
    repeat' (first | refine e_nil ?_ | ((first | refine e_op ?_ | refine e_yes rfl ?_); (first | refine o_n (peval_sound rfl) rfl ?_ | refine o_n (nl rfl rfl tc rfl) rfl ?_ | refine o_storeC rfl rfl rfl rfl tc uc rfl rfl rfl ?_ | refine o_box rfl rfl (fun _ => ?_) | refine o_box1 rfl rfl rfl (fun _ => ?_) | refine o_alloc rfl rfl (fun _ => ?_))) | refine e_noU rfl rfl rfl ?_ | refine e_noN rfl rfl ?_ | refine s_seq ?_ | refine s_region ?_ | refine s_block ?_ | refine s_end ?_ | refine s_skip ?_ | refine s_exit ?_ | refine s_true rfl ?_ | refine s_false rfl ?_ | refine x_hit ?_ | refine x_code ?_ | refine x_back ?_ | refine x_miss rfl ?_)
    have ent0 : ∀ {W : List Asn}, Ent W (rdL kPrd [] [] :: W) := ent_nilL
    refine s_loopK (ι := {x : Nat × Option Addr × Nat × List (List Value) // x.1 ≤ g.Prods.length}) [1, 2, 3] rfl ⟨(0, none, 0, []), by simp⟩ (fun x => [(4, .int .i64 x.1.1)])
      (fun x => [blk b3 27 [.slice a0 g.Terms.length d0, .slice a1 g.Levels.length d1, .slice a2 g.Pats.length d2, .slice a3 g.Nons.length d3, .slice x.1.2.1 x.1.1 x.1.2.2.1],
        blk b2 27 [.slice none 0 0, .slice none 0 0, .slice none 0 0, .slice none 0 0, .slice none 0 0],
        blk b1 27 [.slice A0 g.Terms.length c0, .slice A1 g.Levels.length c1, .slice A2 g.Pats.length c2, .slice A3 g.Nons.length c3, .slice A4 g.Prods.length c4],
        osl 53 4 (.slice x.1.2.1 x.1.1 x.1.2.2.1) x.1.1 x.1.2.2.2.flatten, rdL kPrd x.1.2.2.2 (g.Prods.take x.1.1),
        rdA (kslice 16 kstr) [.slice a0 g.Terms.length d0] g.Terms, rdA (kslice 16 kLev) [.slice a1 g.Levels.length d1] g.Levels,
        rdA (kslice 24 kPt) [.slice a2 g.Pats.length d2] g.Pats, rdA (kslice 16 kstr) [.slice a3 g.Nons.length d3] g.Nons])
      (fun x => g.Prods.length - x.1.1) ?_ ?_ ?_
    · repeat' (first | exact Sub.nil _ | refine Sub.cons rfl ?_ | refine Sub.consE rfl ?_ ?_)
    · exact Ent.tak .z (Ent.tak .z (Ent.tak .z (Ent.osl0 ent0)))
    rintro ⟨⟨i, Ap, cp, ess⟩, hi⟩
    simp only at hi ⊢
    repeat' (first | refine e_nil ?_ | ((first | refine e_op ?_ | refine e_yes rfl ?_); (first | refine o_n (peval_sound rfl) rfl ?_ | refine o_n (nl rfl rfl tc rfl) rfl ?_ | refine o_storeC rfl rfl rfl rfl tc uc rfl rfl rfl ?_ | refine o_box rfl rfl (fun _ => ?_) | refine o_box1 rfl rfl rfl (fun _ => ?_) | refine o_alloc rfl rfl (fun _ => ?_))) | refine e_noU rfl rfl rfl ?_ | refine e_noN rfl rfl ?_ | refine s_seq ?_ | refine s_region ?_ | refine s_block ?_ | refine s_end ?_ | refine s_skip ?_ | refine s_exit ?_ | refine s_true rfl ?_ | refine s_false rfl ?_ | refine x_hit ?_ | refine x_code ?_ | refine x_back ?_ | refine x_miss rfl ?_)
    refine s_cond rfl (fun h => ?_) (fun h => ?_)
    · have hlt : i < g.Prods.length := by have := of_decide_eq_true h; omega
      clear h
      obtain ⟨b, o, es, rfl, hb, he, hc⟩ := hG.prods.2.2 i hlt
      obtain ⟨Ar, cr, rfl, hl, hlN, hlK, hri⟩ := kPrd_open he
      have hrl := hri.2.1
      repeat' (first | refine e_nil ?_ | ((first | refine e_op ?_ | refine e_yes rfl ?_); (first | refine o_n (peval_sound rfl) rfl ?_ | refine o_n (nl rfl rfl tc rfl) rfl ?_ | refine o_storeC rfl rfl rfl rfl tc uc rfl rfl rfl ?_ | refine o_box rfl rfl (fun _ => ?_) | refine o_box1 rfl rfl rfl (fun _ => ?_) | refine o_alloc rfl rfl (fun _ => ?_))) | refine e_noU rfl rfl rfl ?_ | refine e_noN rfl rfl ?_ | refine s_seq ?_ | refine s_region ?_ | refine s_block ?_ | refine s_end ?_ | refine s_skip ?_ | refine s_exit ?_ | refine s_true rfl ?_ | refine s_false rfl ?_ | refine x_hit ?_ | refine x_code ?_ | refine x_back ?_ | refine x_miss rfl ?_)
      refine e_op (o_n (n_index rfl rfl rfl rfl i rfl hlt) rfl ?_)
      refine e_op (o_n (n_load_ro rfl rfl hb (loads_agg rfl rfl hc)) rfl ?_)
      repeat' (first | refine e_nil ?_ | ((first | refine e_op ?_ | refine e_yes rfl ?_); (first | refine o_n (peval_sound rfl) rfl ?_ | refine o_n (nl rfl rfl tc rfl) rfl ?_ | refine o_storeC rfl rfl rfl rfl tc uc rfl rfl rfl ?_ | refine o_box rfl rfl (fun _ => ?_) | refine o_box1 rfl rfl rfl (fun _ => ?_) | refine o_alloc rfl rfl (fun _ => ?_))) | refine e_noU rfl rfl rfl ?_ | refine e_noN rfl rfl ?_ | refine s_seq ?_ | refine s_region ?_ | refine s_block ?_ | refine s_end ?_ | refine s_skip ?_ | refine s_exit ?_ | refine s_true rfl ?_ | refine s_false rfl ?_ | refine x_hit ?_ | refine x_code ?_ | refine x_back ?_ | refine x_miss rfl ?_)
      rename_i b5
      refine e_op (o_copy flat_int onec_int rfl rfl rfl rfl rfl (Can.ro (sl_mk hri)) rfl rfl hrl rfl rfl rfl (fun A' c' => ?_))
      repeat' (first | refine e_nil ?_ | ((first | refine e_op ?_ | refine e_yes rfl ?_); (first | refine o_n (peval_sound rfl) rfl ?_ | refine o_n (nl rfl rfl tc rfl) rfl ?_ | refine o_storeC rfl rfl rfl rfl tc uc rfl rfl rfl ?_ | refine o_box rfl rfl (fun _ => ?_) | refine o_box1 rfl rfl rfl (fun _ => ?_) | refine o_alloc rfl rfl (fun _ => ?_))) | refine e_noU rfl rfl rfl ?_ | refine e_noN rfl rfl ?_ | refine s_seq ?_ | refine s_region ?_ | refine s_block ?_ | refine s_end ?_ | refine s_skip ?_ | refine s_exit ?_ | refine s_true rfl ?_ | refine s_false rfl ?_ | refine x_hit ?_ | refine x_code ?_ | refine x_back ?_ | refine x_miss rfl ?_)
      refine e_op (o_lit (ps := [(0, .agg #[.int .i64 g.Prods[i].Left, .slice A' g.Prods[i].Right.length c', .int .i64 g.Prods[i].L.N, .int .i64 g.Prods[i].L.Kind])])
        (cs := [.int .i64 g.Prods[i].Left, .slice A' g.Prods[i].Right.length c', .int .i64 g.Prods[i].L.N, .int .i64 g.Prods[i].L.Kind]) rfl rfl rfl rfl rfl rfl rfl (fun b9 => ?_))
      refine e_op (o_append (v := .slice Ap i cp) (n := i) (m := 1) (news := [.int .i64 g.Prods[i].Left, .slice A' g.Prods[i].Right.length c', .int .i64 g.Prods[i].L.N, .int .i64 g.Prods[i].L.Kind]) _ rfl rfl rfl rfl (fun w hm j u hu => ?_) rfl ?_ rfl (by omega)
        (by simp only; omega) (by omega) rfl (fun b c => .s (.s (.s (.s (.s (.s .z)))))) (fun ba ca => ?_))
      · obtain ⟨S1, hP, _⟩ := hm.tak Tak.z
        rw [Nat.zero_add]
        exact osl_cells hP j u hu
      · intro u hu
        simp only [List.mem_cons, List.not_mem_nil, or_false] at hu
        rcases hu with rfl | rfl | rfl | rfl <;> rfl
      repeat' (first | refine e_nil ?_ | ((first | refine e_op ?_ | refine e_yes rfl ?_); (first | refine o_n (peval_sound rfl) rfl ?_ | refine o_n (nl rfl rfl tc rfl) rfl ?_ | refine o_storeC rfl rfl rfl rfl tc uc rfl rfl rfl ?_ | refine o_box rfl rfl (fun _ => ?_) | refine o_box1 rfl rfl rfl (fun _ => ?_) | refine o_alloc rfl rfl (fun _ => ?_))) | refine e_noU rfl rfl rfl ?_ | refine e_noN rfl rfl ?_ | refine s_seq ?_ | refine s_region ?_ | refine s_block ?_ | refine s_end ?_ | refine s_skip ?_ | refine s_exit ?_ | refine s_true rfl ?_ | refine s_false rfl ?_ | refine x_hit ?_ | refine x_code ?_ | refine x_back ?_ | refine x_miss rfl ?_)
      refine s_back ⟨⟨(i + 1, some ⟨ba, 0, none⟩, ca, ess ++ [[.int .i64 g.Prods[i].Left, .slice A' g.Prods[i].Right.length c', .int .i64 g.Prods[i].L.N, .int .i64 g.Prods[i].L.Kind]]), by simp only; omega⟩, by simp only; omega, ?_, ?_⟩
      · repeat' (first | exact Sub.nil _ | refine Sub.cons rfl ?_ | refine Sub.consE rfl ?_ ?_)
        exact inc (i := i) (by omega)
      · simp only [List.take_succ_eq_append_getElem hlt, List.flatten_append, List.flatten_cons, List.flatten_nil, List.append_nil]
        refine Ent.tak (.s (.s (.s .z))) (Ent.tak (.s (.s (.s .z))) (Ent.tak (.s (.s (.s .z))) (Ent.tak (.s (.s (.s .z))) (Ent.wk ?_))))
        refine Ent.trans (Ent.tak (.s (.s .z)) (Ent.refl _)) ?_
        refine Ent.trans (Ent.cons (Ent.one (C := rdA kPrd [.int .i64 g.Prods[i].Left, .slice A' g.Prods[i].Right.length c', .int .i64 g.Prods[i].L.N, .int .i64 g.Prods[i].L.Kind] g.Prods[i]) fun w S h => ?_)) (ent_snoc.trans (Ent.cons (Ent.wk (Ent.refl _))))
        obtain ⟨A2, c2, e, h2⟩ := h
        cases e
        exact kPrd_mk hl hlN hlK h2
    · have hge : i = g.Prods.length := by have := of_decide_eq_false h; omega
      subst hge
      clear h
      rw [List.take_length]
      repeat' (first | refine e_nil ?_ | ((first | refine e_op ?_ | refine e_yes rfl ?_); (first | refine o_n (peval_sound rfl) rfl ?_ | refine o_n (nl rfl rfl tc rfl) rfl ?_ | refine o_storeC rfl rfl rfl rfl tc uc rfl rfl rfl ?_ | refine o_box rfl rfl (fun _ => ?_) | refine o_box1 rfl rfl rfl (fun _ => ?_) | refine o_alloc rfl rfl (fun _ => ?_))) | refine e_noU rfl rfl rfl ?_ | refine e_noN rfl rfl ?_ | refine s_seq ?_ | refine s_region ?_ | refine s_block ?_ | refine s_end ?_ | refine s_skip ?_ | refine s_exit ?_ | refine s_true rfl ?_ | refine s_false rfl ?_ | refine x_hit ?_ | refine x_code ?_ | refine x_back ?_ | refine x_miss rfl ?_)
      refine s_ret ⟨_, _, resc rfl rfl rfl (.s .z) rfl, ⟨_, _, _, _, _, _, _, _, _, _, rfl, rfl⟩, ?_⟩
      refine Ent.wk (Ent.wk (Ent.wk ((ent_slice (bytes := 48) (k := kPrd) rfl hP).trans ?_)))
      refine Ent.trans (Ent.tak (.s (.s (.s (.s .z)))) (Ent.refl _)) (ent_pair.trans ?_)
      refine Ent.trans (Ent.tak (.s (.s (.s .z))) (Ent.refl _)) (ent_pair.trans ?_)
      refine Ent.trans (Ent.tak (.s (.s .z)) (Ent.refl _)) (ent_pair.trans ?_)
      refine Ent.trans (Ent.tak (.s .z) (Ent.refl _)) (ent_pair.trans ?_)
      exact Ent.one fun w S h => h
  · refine a_n 0 rfl (peval_sound rfl) (by decide +kernel) (Ent.refl _) rfl ?_
    refine a_n 1 rfl (n_load rfl rfl (.s .z) rfl) (by decide +kernel) (Ent.refl _) rfl ?_
    refine a_n 3 rfl (peval_sound rfl) (by decide +kernel) (Ent.refl _) rfl ?_
    refine a_n 4 rfl (n_load rfl rfl (.s .z) rfl) (by decide +kernel) (Ent.refl _) rfl ?_
    refine a_n 6 rfl (peval_sound rfl) (by decide +kernel) (Ent.refl _) rfl ?_
    refine a_n 7 rfl (n_load rfl rfl (.s .z) rfl) (by decide +kernel) (Ent.refl _) rfl ?_
    refine a_n 9 rfl (peval_sound rfl) (by decide +kernel) (Ent.refl _) rfl ?_
    refine a_n 10 rfl (n_load rfl rfl (.s .z) rfl) (by decide +kernel) (Ent.refl _) rfl ?_
    refine a_2 2 13 (by decide +kernel) rfl rfl rfl rfl (o_copy flat_str onec_str rfl rfl rfl rfl rfl (Can.ro hT') rfl rfl hT rfl rfl rfl (fun a0 d0 => ⟨(by (first | exact Ent.refl _ | assumption | repeat' (first | exact Ent.refl _ | exact Ent.nil _ | refine Ent.tak .z ?_ | refine Ent.wk ?_))), ?_⟩)) (o_alloc rfl rfl (fun b3 => ⟨(by (first | exact Ent.refl _ | assumption | repeat' (first | exact Ent.refl _ | exact Ent.nil _ | refine Ent.tak .z ?_ | refine Ent.wk ?_))), ?_⟩))
    · refine a_2 5 13 (by decide +kernel) rfl rfl rfl rfl (o_copy flat_lev onec_lev rfl rfl rfl rfl rfl (Can.ro hL') rfl rfl hL rfl rfl rfl (fun a1 d1 => ⟨(by (first | exact Ent.refl _ | assumption | repeat' (first | exact Ent.refl _ | exact Ent.nil _ | refine Ent.tak .z ?_ | refine Ent.wk ?_))), ?_⟩)) (o_alloc rfl rfl (fun b3 => ⟨(by (first | exact Ent.refl _ | assumption | repeat' (first | exact Ent.refl _ | exact Ent.nil _ | refine Ent.tak .z ?_ | refine Ent.wk ?_))), ?_⟩))
      · refine a_2 8 13 (by decide +kernel) rfl rfl rfl rfl (o_copy flat_pt onec_pt rfl rfl rfl rfl rfl (Can.ro hPt') rfl rfl hPt rfl rfl rfl (fun a2 d2 => ⟨(by (first | exact Ent.refl _ | assumption | repeat' (first | exact Ent.refl _ | exact Ent.nil _ | refine Ent.tak .z ?_ | refine Ent.wk ?_))), ?_⟩)) (o_alloc rfl rfl (fun b3 => ⟨(by (first | exact Ent.refl _ | assumption | repeat' (first | exact Ent.refl _ | exact Ent.nil _ | refine Ent.tak .z ?_ | refine Ent.wk ?_))), ?_⟩))
        · refine a_2 11 13 (by decide +kernel) rfl rfl rfl rfl (o_copy flat_str onec_str rfl rfl rfl rfl rfl (Can.ro hN') rfl rfl hN rfl rfl rfl (fun a3 d3 => ⟨(by (first | exact Ent.refl _ | assumption | repeat' (first | exact Ent.refl _ | exact Ent.nil _ | refine Ent.tak .z ?_ | refine Ent.wk ?_))), ?_⟩)) (o_alloc rfl rfl (fun b3 => ⟨(by (first | exact Ent.refl _ | assumption | repeat' (first | exact Ent.refl _ | exact Ent.nil _ | refine Ent.tak .z ?_ | refine Ent.wk ?_))), ?_⟩))
          · refine a_n 12 rfl (peval_sound rfl) (by decide +kernel) (by (first | exact Ent.refl _ | assumption | repeat' (first | exact Ent.refl _ | exact Ent.nil _ | refine Ent.tak .z ?_ | refine Ent.wk ?_))) rfl ?_
            refine a_1 13 (by decide +kernel) rfl rfl (o_alloc rfl rfl (fun b3 => ⟨(by (first | exact Ent.refl _ | assumption | repeat' (first | exact Ent.refl _ | exact Ent.nil _ | refine Ent.tak .z ?_ | refine Ent.wk ?_))), ?_⟩))
            refine a_1 14 (by decide +kernel) rfl rfl (o_store rfl rfl rfl rfl rfl rfl rfl .z ⟨(by (first | exact Ent.refl _ | assumption | repeat' (first | exact Ent.refl _ | exact Ent.nil _ | refine Ent.tak .z ?_ | refine Ent.wk ?_))), ?_⟩)
            refine a_done (by decide +kernel) (s_weak ?_ ?_ (hfin (b3, (a0, d0), (a1, d1), (a2, d2), (a3, d3))))
            · repeat' (first | exact Sub.nil _ | refine Sub.cons rfl ?_ | refine Sub.consE rfl ?_ ?_)
            · repeat' (first | exact Ent.nil _ | refine Ent.tak tk ?_ | refine Ent.tak .z ?_ | refine Ent.tak (.s .z) ?_ | refine Ent.tak (.s (.s .z)) ?_ | refine Ent.tak (.s (.s (.s .z))) ?_ | refine Ent.tak (.s (.s (.s (.s .z)))) ?_ | refine Ent.tak (.s (.s (.s (.s (.s .z))))) ?_)
          · refine a_1 11 (by decide +kernel) rfl rfl (o_copy flat_str onec_str rfl rfl rfl rfl rfl (Can.ro hN') rfl rfl hN rfl rfl rfl (fun a3 d3 => ⟨(by (first | exact Ent.refl _ | assumption | repeat' (first | exact Ent.refl _ | exact Ent.nil _ | refine Ent.tak .z ?_ | refine Ent.wk ?_))), ?_⟩))
            refine a_n 12 rfl (peval_sound rfl) (by decide +kernel) (by (first | exact Ent.refl _ | assumption | repeat' (first | exact Ent.refl _ | exact Ent.nil _ | refine Ent.tak .z ?_ | refine Ent.wk ?_))) rfl ?_
            refine a_1 14 (by decide +kernel) rfl rfl (o_store rfl rfl rfl rfl rfl rfl rfl (.s .z) ⟨(by (first | exact Ent.refl _ | assumption | repeat' (first | exact Ent.refl _ | exact Ent.nil _ | refine Ent.tak .z ?_ | refine Ent.wk ?_))), ?_⟩)
            refine a_done (by decide +kernel) (s_weak ?_ ?_ (hfin (b3, (a0, d0), (a1, d1), (a2, d2), (a3, d3))))
            · repeat' (first | exact Sub.nil _ | refine Sub.cons rfl ?_ | refine Sub.consE rfl ?_ ?_)
            · repeat' (first | exact Ent.nil _ | refine Ent.tak tk ?_ | refine Ent.tak .z ?_ | refine Ent.tak (.s .z) ?_ | refine Ent.tak (.s (.s .z)) ?_ | refine Ent.tak (.s (.s (.s .z))) ?_ | refine Ent.tak (.s (.s (.s (.s .z)))) ?_ | refine Ent.tak (.s (.s (.s (.s (.s .z))))) ?_)
        · refine a_1 8 (by decide +kernel) rfl rfl (o_copy flat_pt onec_pt rfl rfl rfl rfl rfl (Can.ro hPt') rfl rfl hPt rfl rfl rfl (fun a2 d2 => ⟨(by (first | exact Ent.refl _ | assumption | repeat' (first | exact Ent.refl _ | exact Ent.nil _ | refine Ent.tak .z ?_ | refine Ent.wk ?_))), ?_⟩))
          refine a_1 11 (by decide +kernel) rfl rfl (o_copy flat_str onec_str rfl rfl rfl rfl rfl (Can.ro hN') rfl rfl hN rfl rfl rfl (fun a3 d3 => ⟨(by (first | exact Ent.refl _ | assumption | repeat' (first | exact Ent.refl _ | exact Ent.nil _ | refine Ent.tak .z ?_ | refine Ent.wk ?_))), ?_⟩))
          refine a_n 12 rfl (peval_sound rfl) (by decide +kernel) (by (first | exact Ent.refl _ | assumption | repeat' (first | exact Ent.refl _ | exact Ent.nil _ | refine Ent.tak .z ?_ | refine Ent.wk ?_))) rfl ?_
          refine a_1 14 (by decide +kernel) rfl rfl (o_store rfl rfl rfl rfl rfl rfl rfl (.s (.s .z)) ⟨(by (first | exact Ent.refl _ | assumption | repeat' (first | exact Ent.refl _ | exact Ent.nil _ | refine Ent.tak .z ?_ | refine Ent.wk ?_))), ?_⟩)
          refine a_done (by decide +kernel) (s_weak ?_ ?_ (hfin (b3, (a0, d0), (a1, d1), (a2, d2), (a3, d3))))
          · repeat' (first | exact Sub.nil _ | refine Sub.cons rfl ?_ | refine Sub.consE rfl ?_ ?_)
          · repeat' (first | exact Ent.nil _ | refine Ent.tak tk ?_ | refine Ent.tak .z ?_ | refine Ent.tak (.s .z) ?_ | refine Ent.tak (.s (.s .z)) ?_ | refine Ent.tak (.s (.s (.s .z))) ?_ | refine Ent.tak (.s (.s (.s (.s .z)))) ?_ | refine Ent.tak (.s (.s (.s (.s (.s .z))))) ?_)
      · refine a_1 5 (by decide +kernel) rfl rfl (o_copy flat_lev onec_lev rfl rfl rfl rfl rfl (Can.ro hL') rfl rfl hL rfl rfl rfl (fun a1 d1 => ⟨(by (first | exact Ent.refl _ | assumption | repeat' (first | exact Ent.refl _ | exact Ent.nil _ | refine Ent.tak .z ?_ | refine Ent.wk ?_))), ?_⟩))
        refine a_1 8 (by decide +kernel) rfl rfl (o_copy flat_pt onec_pt rfl rfl rfl rfl rfl (Can.ro hPt') rfl rfl hPt rfl rfl rfl (fun a2 d2 => ⟨(by (first | exact Ent.refl _ | assumption | repeat' (first | exact Ent.refl _ | exact Ent.nil _ | refine Ent.tak .z ?_ | refine Ent.wk ?_))), ?_⟩))
        refine a_1 11 (by decide +kernel) rfl rfl (o_copy flat_str onec_str rfl rfl rfl rfl rfl (Can.ro hN') rfl rfl hN rfl rfl rfl (fun a3 d3 => ⟨(by (first | exact Ent.refl _ | assumption | repeat' (first | exact Ent.refl _ | exact Ent.nil _ | refine Ent.tak .z ?_ | refine Ent.wk ?_))), ?_⟩))
        refine a_n 12 rfl (peval_sound rfl) (by decide +kernel) (by (first | exact Ent.refl _ | assumption | repeat' (first | exact Ent.refl _ | exact Ent.nil _ | refine Ent.tak .z ?_ | refine Ent.wk ?_))) rfl ?_
        refine a_1 14 (by decide +kernel) rfl rfl (o_store rfl rfl rfl rfl rfl rfl rfl (.s (.s (.s .z))) ⟨(by (first | exact Ent.refl _ | assumption | repeat' (first | exact Ent.refl _ | exact Ent.nil _ | refine Ent.tak .z ?_ | refine Ent.wk ?_))), ?_⟩)
        refine a_done (by decide +kernel) (s_weak ?_ ?_ (hfin (b3, (a0, d0), (a1, d1), (a2, d2), (a3, d3))))
        · repeat' (first | exact Sub.nil _ | refine Sub.cons rfl ?_ | refine Sub.consE rfl ?_ ?_)
        · repeat' (first | exact Ent.nil _ | refine Ent.tak tk ?_ | refine Ent.tak .z ?_ | refine Ent.tak (.s .z) ?_ | refine Ent.tak (.s (.s .z)) ?_ | refine Ent.tak (.s (.s (.s .z))) ?_ | refine Ent.tak (.s (.s (.s (.s .z)))) ?_ | refine Ent.tak (.s (.s (.s (.s (.s .z))))) ?_)
    · refine a_1 2 (by decide +kernel) rfl rfl (o_copy flat_str onec_str rfl rfl rfl rfl rfl (Can.ro hT') rfl rfl hT rfl rfl rfl (fun a0 d0 => ⟨(by (first | exact Ent.refl _ | assumption | repeat' (first | exact Ent.refl _ | exact Ent.nil _ | refine Ent.tak .z ?_ | refine Ent.wk ?_))), ?_⟩))
      refine a_1 5 (by decide +kernel) rfl rfl (o_copy flat_lev onec_lev rfl rfl rfl rfl rfl (Can.ro hL') rfl rfl hL rfl rfl rfl (fun a1 d1 => ⟨(by (first | exact Ent.refl _ | assumption | repeat' (first | exact Ent.refl _ | exact Ent.nil _ | refine Ent.tak .z ?_ | refine Ent.wk ?_))), ?_⟩))
      refine a_1 8 (by decide +kernel) rfl rfl (o_copy flat_pt onec_pt rfl rfl rfl rfl rfl (Can.ro hPt') rfl rfl hPt rfl rfl rfl (fun a2 d2 => ⟨(by (first | exact Ent.refl _ | assumption | repeat' (first | exact Ent.refl _ | exact Ent.nil _ | refine Ent.tak .z ?_ | refine Ent.wk ?_))), ?_⟩))
      refine a_1 11 (by decide +kernel) rfl rfl (o_copy flat_str onec_str rfl rfl rfl rfl rfl (Can.ro hN') rfl rfl hN rfl rfl rfl (fun a3 d3 => ⟨(by (first | exact Ent.refl _ | assumption | repeat' (first | exact Ent.refl _ | exact Ent.nil _ | refine Ent.tak .z ?_ | refine Ent.wk ?_))), ?_⟩))
      refine a_n 12 rfl (peval_sound rfl) (by decide +kernel) (by (first | exact Ent.refl _ | assumption | repeat' (first | exact Ent.refl _ | exact Ent.nil _ | refine Ent.tak .z ?_ | refine Ent.wk ?_))) rfl ?_
      refine a_1 14 (by decide +kernel) rfl rfl (o_store rfl rfl rfl rfl rfl rfl rfl (.s (.s (.s (.s .z)))) ⟨(by (first | exact Ent.refl _ | assumption | repeat' (first | exact Ent.refl _ | exact Ent.nil _ | refine Ent.tak .z ?_ | refine Ent.wk ?_))), ?_⟩)
      refine a_done (by decide +kernel) (s_weak ?_ ?_ (hfin (b3, (a0, d0), (a1, d1), (a2, d2), (a3, d3))))
      · repeat' (first | exact Sub.nil _ | refine Sub.cons rfl ?_ | refine Sub.consE rfl ?_ ?_)
      · repeat' (first | exact Ent.nil _ | refine Ent.tak tk ?_ | refine Ent.tak .z ?_ | refine Ent.tak (.s .z) ?_ | refine Ent.tak (.s (.s .z)) ?_ | refine Ent.tak (.s (.s (.s .z))) ?_ | refine Ent.tak (.s (.s (.s (.s .z)))) ?_ | refine Ent.tak (.s (.s (.s (.s (.s .z))))) ?_)


end Go.Proofs.YtcbaebkkdkdaaaaDoor

namespace Go.Proofs.YtcbaebkkdkdaaaaDoor
set_option linter.all false
open Go.Proofs.YtcbaebkkdkdaaaaDoor.E
attribute [local irreducible] EVX EVO EVL EV1 NEV
attribute [local irreducible] own osl exA rdA rdL
set_option maxRecDepth 10000
set_option maxHeartbeats 1000000

end Go.Proofs.YtcbaebkkdkdaaaaDoor

namespace Go.Proofs.YtcbaebkkdkdaaaaDoor
set_option linter.all false
open Go.Proofs.YtcbaebkkdkdaaaaDoor.E
attribute [local irreducible] EVX EVO EVL EV1 NEV
attribute [local irreducible] own osl exA rdA rdL
set_option maxRecDepth 10000
set_option maxHeartbeats 1000000

/-- What 'All' leaves. -/
def alM (g : Gram) (bn bf cf : Nat) : List Asn :=
  [osl 4 1 (.slice (some ⟨bn, 0, none⟩) g.Nons.length g.Nons.length) g.Nons.length ((bFix g).1.map Value.bool), orow Value.bool 70 4 (.slice (some ⟨bf, 0, none⟩) g.Nons.length cf) g.Nons.length (bFix g).2]

end Go.Proofs.YtcbaebkkdkdaaaaDoor

namespace Go.Proofs.YtcbaebkkdkdaaaaDoor
set_option linter.all false
open Go.Proofs.YtcbaebkkdkdaaaaDoor.E
attribute [local irreducible] EVX EVO EVL EV1 NEV
attribute [local irreducible] own osl exA rdA rdL
set_option maxRecDepth 10000
set_option maxHeartbeats 1000000

end Go.Proofs.YtcbaebkkdkdaaaaDoor

namespace Go.Proofs.YtcbaebkkdkdaaaaDoor
set_option linter.all false
open Go.Proofs.YtcbaebkkdkdaaaaDoor.E
theorem equal65 (w : World) (a b c d : Int) : (Op.equal 51 (.agg #[.int .i64 a, .int .i64 b]) (.agg #[.int .i64 c, .int .i64 d])).run Tryd.prog w = .ok (a == c && b == d) w := by
  have hf : Tryd.prog.fieldsOf 51 = #[{ name := "N", type := 3, offset := 0, embedded := false, tag := "", pkgPath := "", byteOffset := 0 }, { name := "Kind", type := 3, offset := 1, embedded := false, tag := "", pkgPath := "", byteOffset := 8 }] := by kernel_rfl
  have h3 : Tryd.prog.plainKey 3 = true := by kernel_rfl
  have p1 : ∀ u v : Int, (part 3 #[.int .i64 u, .int .i64 v] 0).run Tryd.prog w = .ok (.int .i64 u) w := fun u v => run_part_plain (P := Tryd.prog) w h3 rfl
  have p2 : ∀ u v : Int, (part 3 #[.int .i64 u, .int .i64 v] 1).run Tryd.prog w = .ok (.int .i64 v) w := fun u v => run_part_plain (P := Tryd.prog) w h3 rfl
  unfold Op.equal Op.maxDepth
  rw [run_equalIn_struct (P := Tryd.prog) w 9999 51 _ _ (by kernel_rfl) (by kernel_rfl), hf]
  have e : ∀ u v : Int, (Op.equalIn 9999 3 (.int .i64 u) (.int .i64 v)).run Tryd.prog w = .ok (u == v) w := fun u v => run_equalIn_int w 9998 3 .i64 .i64 u v Tryd.underlying3
  simp only [Op.eqFields]
  simp only [Sem.run_bind, p1, p2, e, Result.andThen_ok, Sem.run_ite, Sem.run_pure]
  cases a == c <;> cases b == d <;> simp [p1, p2, e]

theorem n_neq65 {w0 : World} {SM : BSet} {n : Nat} {fr : Frm} {U : List Asn} {x y : Operand} {a b c d : Int} {t2 : TypeId} (hx : val fr x = some (.agg #[.int .i64 a, .int .i64 b])) (hy : val fr y = some (.agg #[.int .i64 c, .int .i64 d])) :
    NEV ⟨Tryd.prog, Tryd.tab, Tryd.tabOk, n, w0, SM⟩ (.binOp .neq 51 x y t2) fr U (.bool (!(a == c && b == d))) := by
  intro ac w dst ty pos af g hf _
  have hg : Tryd.prog.eqGuardType Tryd.prog.depth 5151 = false := by kernel_rfl
  have he := equal65 w a b c d
  unfold execOp
  simp only [hf.eval hx, hf.eval hy]
  simp [eqGuard, hg, binOp, he]
attribute [local irreducible] EVX EVO EVL EV1 NEV
attribute [local irreducible] own osl exA rdA rdL
set_option maxRecDepth 10000
set_option maxHeartbeats 1000000

theorem same_w (cs ds : List Value) (g : Gram) : Trip Tryd.prog 20 [.agg cs.toArray, .agg ds.toArray] ((kGram.rd cs g).and (kGram.rd ds g)) [] (fun v V => v = .bool true ∧ V = []) := by
  refine trip Tryd.tabOk Tryd.func20 rfl rfl rfl rfl ?_
  rintro w SM ⟨hR, hR'⟩
  obtain ⟨A0, A1, A2, A3, A4, c0, c1, c2, c3, c4, rfl, hG⟩ := kGram_open hR
  obtain ⟨B0, B1, B2, B3, B4, d0, d1, d2, d3, d4, rfl, hH⟩ := kGram_open hR'
  have hP := hG.prods.2.1
  have hL := hG.levels.2.1
  repeat' (first | refine e_nil ?_ | ((first | refine e_op ?_ | refine e_yes rfl ?_); (first | refine o_n (peval_sound rfl) rfl ?_ | refine o_n (nl rfl rfl tc rfl) rfl ?_ | refine o_storeC rfl rfl rfl rfl tc uc rfl rfl rfl ?_ | refine o_box rfl rfl (fun _ => ?_) | refine o_box1 rfl rfl rfl (fun _ => ?_) | refine o_alloc rfl rfl (fun _ => ?_))) | refine e_noU rfl rfl rfl ?_ | refine e_noN rfl rfl ?_ | refine s_seq ?_ | refine s_region ?_ | refine s_block ?_ | refine s_end ?_ | refine s_skip ?_ | refine s_exit ?_ | refine s_true rfl ?_ | refine s_false rfl ?_ | refine x_hit ?_ | refine x_code ?_ | refine x_back ?_ | refine x_miss rfl ?_)
  rename_i b2 b3
  simp only [bne_self_eq_false]
  repeat' (first | refine e_nil ?_ | ((first | refine e_op ?_ | refine e_yes rfl ?_); (first | refine o_n (peval_sound rfl) rfl ?_ | refine o_n (nl rfl rfl tc rfl) rfl ?_ | refine o_storeC rfl rfl rfl rfl tc uc rfl rfl rfl ?_ | refine o_box rfl rfl (fun _ => ?_) | refine o_box1 rfl rfl rfl (fun _ => ?_) | refine o_alloc rfl rfl (fun _ => ?_))) | refine e_noU rfl rfl rfl ?_ | refine e_noN rfl rfl ?_ | refine s_seq ?_ | refine s_region ?_ | refine s_block ?_ | refine s_end ?_ | refine s_skip ?_ | refine s_exit ?_ | refine s_true rfl ?_ | refine s_false rfl ?_ | refine x_hit ?_ | refine x_code ?_ | refine x_back ?_ | refine x_miss rfl ?_)
  simp only [bne_self_eq_false]
  repeat' (first | refine e_nil ?_ | ((first | refine e_op ?_ | refine e_yes rfl ?_); (first | refine o_n (peval_sound rfl) rfl ?_ | refine o_n (nl rfl rfl tc rfl) rfl ?_ | refine o_storeC rfl rfl rfl rfl tc uc rfl rfl rfl ?_ | refine o_box rfl rfl (fun _ => ?_) | refine o_box1 rfl rfl rfl (fun _ => ?_) | refine o_alloc rfl rfl (fun _ => ?_))) | refine e_noU rfl rfl rfl ?_ | refine e_noN rfl rfl ?_ | refine s_seq ?_ | refine s_region ?_ | refine s_block ?_ | refine s_end ?_ | refine s_skip ?_ | refine s_exit ?_ | refine s_true rfl ?_ | refine s_false rfl ?_ | refine x_hit ?_ | refine x_code ?_ | refine x_back ?_ | refine x_miss rfl ?_)
  simp only [bne_self_eq_false]
  repeat' (first | refine e_nil ?_ | ((first | refine e_op ?_ | refine e_yes rfl ?_); (first | refine o_n (peval_sound rfl) rfl ?_ | refine o_n (nl rfl rfl tc rfl) rfl ?_ | refine o_storeC rfl rfl rfl rfl tc uc rfl rfl rfl ?_ | refine o_box rfl rfl (fun _ => ?_) | refine o_box1 rfl rfl rfl (fun _ => ?_) | refine o_alloc rfl rfl (fun _ => ?_))) | refine e_noU rfl rfl rfl ?_ | refine e_noN rfl rfl ?_ | refine s_seq ?_ | refine s_region ?_ | refine s_block ?_ | refine s_end ?_ | refine s_skip ?_ | refine s_exit ?_ | refine s_true rfl ?_ | refine s_false rfl ?_ | refine x_hit ?_ | refine x_code ?_ | refine x_back ?_ | refine x_miss rfl ?_)
  simp only [bne_self_eq_false]
  repeat' (first | refine e_nil ?_ | ((first | refine e_op ?_ | refine e_yes rfl ?_); (first | refine o_n (peval_sound rfl) rfl ?_ | refine o_n (nl rfl rfl tc rfl) rfl ?_ | refine o_storeC rfl rfl rfl rfl tc uc rfl rfl rfl ?_ | refine o_box rfl rfl (fun _ => ?_) | refine o_box1 rfl rfl rfl (fun _ => ?_) | refine o_alloc rfl rfl (fun _ => ?_))) | refine e_noU rfl rfl rfl ?_ | refine e_noN rfl rfl ?_ | refine s_seq ?_ | refine s_region ?_ | refine s_block ?_ | refine s_end ?_ | refine s_skip ?_ | refine s_exit ?_ | refine s_true rfl ?_ | refine s_false rfl ?_ | refine x_hit ?_ | refine x_code ?_ | refine x_back ?_ | refine x_miss rfl ?_)
  refine s_loopK (ι := {i : Nat // i ≤ g.Levels.length}) [2, 3] rfl ⟨0, by omega⟩ (fun x => [(5, .int .i64 x.1)])
    (fun x => [blk b3 27 [.slice B0 g.Terms.length d0, .slice B1 g.Levels.length d1, .slice B2 g.Pats.length d2, .slice B3 g.Nons.length d3, .slice B4 g.Prods.length d4],
      blk b2 27 [.slice A0 g.Terms.length c0, .slice A1 g.Levels.length c1, .slice A2 g.Pats.length c2, .slice A3 g.Nons.length c3, .slice A4 g.Prods.length c4]]) (fun x => g.Levels.length - x.1) ?_ (by repeat' (first | exact Ent.nil _ | refine Ent.tak tk ?_ | refine Ent.tak .z ?_ | refine Ent.tak (.s .z) ?_ | refine Ent.tak (.s (.s .z)) ?_ | refine Ent.tak (.s (.s (.s .z))) ?_ | refine Ent.tak (.s (.s (.s (.s .z)))) ?_ | refine Ent.tak (.s (.s (.s (.s (.s .z))))) ?_)) ?_
  · repeat' (first | exact Sub.nil _ | refine Sub.cons rfl ?_ | refine Sub.consE rfl ?_ ?_)
  rintro ⟨i, hi⟩
  simp only at hi ⊢
  repeat' (first | refine e_nil ?_ | ((first | refine e_op ?_ | refine e_yes rfl ?_); (first | refine o_n (peval_sound rfl) rfl ?_ | refine o_n (nl rfl rfl tc rfl) rfl ?_ | refine o_storeC rfl rfl rfl rfl tc uc rfl rfl rfl ?_ | refine o_box rfl rfl (fun _ => ?_) | refine o_box1 rfl rfl rfl (fun _ => ?_) | refine o_alloc rfl rfl (fun _ => ?_))) | refine e_noU rfl rfl rfl ?_ | refine e_noN rfl rfl ?_ | refine s_seq ?_ | refine s_region ?_ | refine s_block ?_ | refine s_end ?_ | refine s_skip ?_ | refine s_exit ?_ | refine s_true rfl ?_ | refine s_false rfl ?_ | refine x_hit ?_ | refine x_code ?_ | refine x_back ?_ | refine x_miss rfl ?_)
  refine s_cond rfl (fun h => ?_) (fun h => ?_)
  · have hlt : i < g.Levels.length := by have := of_decide_eq_true h; omega
    clear h
    obtain ⟨b, o, es, rfl, hb, he, hc⟩ := hG.levels.2.2 i hlt
    obtain ⟨b', o', es', rfl, hb', he', hc'⟩ := hH.levels.2.2 i hlt
    obtain ⟨rfl, hI1, hI2⟩ := kLev_open he
    obtain ⟨rfl, _, _⟩ := kLev_open he'
    repeat' (first | refine e_nil ?_ | ((first | refine e_op ?_ | refine e_yes rfl ?_); (first | refine o_n (peval_sound rfl) rfl ?_ | refine o_n (nl rfl rfl tc rfl) rfl ?_ | refine o_storeC rfl rfl rfl rfl tc uc rfl rfl rfl ?_ | refine o_box rfl rfl (fun _ => ?_) | refine o_box1 rfl rfl rfl (fun _ => ?_) | refine o_alloc rfl rfl (fun _ => ?_))) | refine e_noU rfl rfl rfl ?_ | refine e_noN rfl rfl ?_ | refine s_seq ?_ | refine s_region ?_ | refine s_block ?_ | refine s_end ?_ | refine s_skip ?_ | refine s_exit ?_ | refine s_true rfl ?_ | refine s_false rfl ?_ | refine x_hit ?_ | refine x_code ?_ | refine x_back ?_ | refine x_miss rfl ?_)
    refine s_drawU [] Tryd.mixed (by decide +kernel) ?_
    repeat' (first | refine l_nil ?_ | ((first | refine l_no rfl rfl rfl ?_ rfl ?_ | refine l_noN rfl rfl ?_ rfl ?_ | refine l_n (peval_sound rfl) rfl ?_ rfl ?_ | refine l_n (nl rfl rfl tc rfl) rfl ?_ rfl ?_ | refine l_ny rfl (peval_sound rfl) rfl ?_ rfl ?_ | refine l_ny rfl (nl rfl rfl tc rfl) rfl ?_ rfl ?_); · (first | exact Ent.refl _ | assumption | repeat' (first | exact Ent.refl _ | exact Ent.nil _ | refine Ent.tak .z ?_ | refine Ent.wk ?_))))
    refine l_n (n_index rfl rfl rfl rfl i rfl hlt) rfl (by (first | exact Ent.refl _ | assumption | repeat' (first | exact Ent.refl _ | exact Ent.nil _ | refine Ent.tak .z ?_ | refine Ent.wk ?_))) rfl ?_
    refine l_n (n_load_ro rfl rfl hb (loads_agg rfl rfl hc)) rfl (by (first | exact Ent.refl _ | assumption | repeat' (first | exact Ent.refl _ | exact Ent.nil _ | refine Ent.tak .z ?_ | refine Ent.wk ?_))) rfl ?_
    repeat' (first | refine l_nil ?_ | ((first | refine l_no rfl rfl rfl ?_ rfl ?_ | refine l_noN rfl rfl ?_ rfl ?_ | refine l_n (peval_sound rfl) rfl ?_ rfl ?_ | refine l_n (nl rfl rfl tc rfl) rfl ?_ rfl ?_ | refine l_ny rfl (peval_sound rfl) rfl ?_ rfl ?_ | refine l_ny rfl (nl rfl rfl tc rfl) rfl ?_ rfl ?_); · (first | exact Ent.refl _ | assumption | repeat' (first | exact Ent.refl _ | exact Ent.nil _ | refine Ent.tak .z ?_ | refine Ent.wk ?_))))
    refine l_n (n_index rfl rfl rfl rfl i rfl hlt) rfl (by (first | exact Ent.refl _ | assumption | repeat' (first | exact Ent.refl _ | exact Ent.nil _ | refine Ent.tak .z ?_ | refine Ent.wk ?_))) rfl ?_
    refine l_n (n_load_ro rfl rfl hb' (loads_agg rfl rfl hc')) rfl (by (first | exact Ent.refl _ | assumption | repeat' (first | exact Ent.refl _ | exact Ent.nil _ | refine Ent.tak .z ?_ | refine Ent.wk ?_))) rfl ?_
    repeat' (first | refine l_nil ?_ | ((first | refine l_no rfl rfl rfl ?_ rfl ?_ | refine l_noN rfl rfl ?_ rfl ?_ | refine l_n (peval_sound rfl) rfl ?_ rfl ?_ | refine l_n (nl rfl rfl tc rfl) rfl ?_ rfl ?_ | refine l_ny rfl (peval_sound rfl) rfl ?_ rfl ?_ | refine l_ny rfl (nl rfl rfl tc rfl) rfl ?_ rfl ?_); · (first | exact Ent.refl _ | assumption | repeat' (first | exact Ent.refl _ | exact Ent.nil _ | refine Ent.tak .z ?_ | refine Ent.wk ?_))))
    refine l_n (n_neq65 rfl rfl) rfl (by (first | exact Ent.refl _ | assumption | repeat' (first | exact Ent.refl _ | exact Ent.nil _ | refine Ent.tak .z ?_ | refine Ent.wk ?_))) rfl ?_
    simp only [beq_self_eq_true, Bool.and_self, Bool.not_true]
    repeat' (first | refine l_nil ?_ | ((first | refine l_no rfl rfl rfl ?_ rfl ?_ | refine l_noN rfl rfl ?_ rfl ?_ | refine l_n (peval_sound rfl) rfl ?_ rfl ?_ | refine l_n (nl rfl rfl tc rfl) rfl ?_ rfl ?_ | refine l_ny rfl (peval_sound rfl) rfl ?_ rfl ?_ | refine l_ny rfl (nl rfl rfl tc rfl) rfl ?_ rfl ?_); · (first | exact Ent.refl _ | assumption | repeat' (first | exact Ent.refl _ | exact Ent.nil _ | refine Ent.tak .z ?_ | refine Ent.wk ?_))))
    repeat' (first | refine e_nil ?_ | ((first | refine e_op ?_ | refine e_yes rfl ?_); (first | refine o_n (peval_sound rfl) rfl ?_ | refine o_n (nl rfl rfl tc rfl) rfl ?_ | refine o_storeC rfl rfl rfl rfl tc uc rfl rfl rfl ?_ | refine o_box rfl rfl (fun _ => ?_) | refine o_box1 rfl rfl rfl (fun _ => ?_) | refine o_alloc rfl rfl (fun _ => ?_))) | refine e_noU rfl rfl rfl ?_ | refine e_noN rfl rfl ?_ | refine s_seq ?_ | refine s_region ?_ | refine s_block ?_ | refine s_end ?_ | refine s_skip ?_ | refine s_exit ?_ | refine s_true rfl ?_ | refine s_false rfl ?_ | refine x_hit ?_ | refine x_code ?_ | refine x_back ?_ | refine x_miss rfl ?_)
    refine s_back ⟨⟨i + 1, by omega⟩, by simp only; omega, ?_, by repeat' (first | exact Ent.nil _ | refine Ent.tak tk ?_ | refine Ent.tak .z ?_ | refine Ent.tak (.s .z) ?_ | refine Ent.tak (.s (.s .z)) ?_ | refine Ent.tak (.s (.s (.s .z))) ?_ | refine Ent.tak (.s (.s (.s (.s .z)))) ?_ | refine Ent.tak (.s (.s (.s (.s (.s .z))))) ?_)⟩
    repeat' (first | exact Sub.nil _ | refine Sub.cons rfl ?_ | refine Sub.consE rfl ?_ ?_)
    exact inc (i := i) (by omega)
  clear h
  repeat' (first | refine e_nil ?_ | ((first | refine e_op ?_ | refine e_yes rfl ?_); (first | refine o_n (peval_sound rfl) rfl ?_ | refine o_n (nl rfl rfl tc rfl) rfl ?_ | refine o_storeC rfl rfl rfl rfl tc uc rfl rfl rfl ?_ | refine o_box rfl rfl (fun _ => ?_) | refine o_box1 rfl rfl rfl (fun _ => ?_) | refine o_alloc rfl rfl (fun _ => ?_))) | refine e_noU rfl rfl rfl ?_ | refine e_noN rfl rfl ?_ | refine s_seq ?_ | refine s_region ?_ | refine s_block ?_ | refine s_end ?_ | refine s_skip ?_ | refine s_exit ?_ | refine s_true rfl ?_ | refine s_false rfl ?_ | refine x_hit ?_ | refine x_code ?_ | refine x_back ?_ | refine x_miss rfl ?_)
  refine s_loopK (ι := {i : Nat // i ≤ g.Prods.length}) [2, 3] rfl ⟨0, by omega⟩ (fun x => [(6, .int .i64 x.1)])
    (fun x => [blk b3 27 [.slice B0 g.Terms.length d0, .slice B1 g.Levels.length d1, .slice B2 g.Pats.length d2, .slice B3 g.Nons.length d3, .slice B4 g.Prods.length d4],
      blk b2 27 [.slice A0 g.Terms.length c0, .slice A1 g.Levels.length c1, .slice A2 g.Pats.length c2, .slice A3 g.Nons.length c3, .slice A4 g.Prods.length c4]]) (fun x => g.Prods.length - x.1) ?_ (by repeat' (first | exact Ent.nil _ | refine Ent.tak tk ?_ | refine Ent.tak .z ?_ | refine Ent.tak (.s .z) ?_ | refine Ent.tak (.s (.s .z)) ?_ | refine Ent.tak (.s (.s (.s .z))) ?_ | refine Ent.tak (.s (.s (.s (.s .z)))) ?_ | refine Ent.tak (.s (.s (.s (.s (.s .z))))) ?_)) ?_
  · repeat' (first | exact Sub.nil _ | refine Sub.cons rfl ?_ | refine Sub.consE rfl ?_ ?_)
  rintro ⟨i, hi⟩
  simp only at hi ⊢
  repeat' (first | refine e_nil ?_ | ((first | refine e_op ?_ | refine e_yes rfl ?_); (first | refine o_n (peval_sound rfl) rfl ?_ | refine o_n (nl rfl rfl tc rfl) rfl ?_ | refine o_storeC rfl rfl rfl rfl tc uc rfl rfl rfl ?_ | refine o_box rfl rfl (fun _ => ?_) | refine o_box1 rfl rfl rfl (fun _ => ?_) | refine o_alloc rfl rfl (fun _ => ?_))) | refine e_noU rfl rfl rfl ?_ | refine e_noN rfl rfl ?_ | refine s_seq ?_ | refine s_region ?_ | refine s_block ?_ | refine s_end ?_ | refine s_skip ?_ | refine s_exit ?_ | refine s_true rfl ?_ | refine s_false rfl ?_ | refine x_hit ?_ | refine x_code ?_ | refine x_back ?_ | refine x_miss rfl ?_)
  refine s_cond rfl (fun h => ?_) (fun h => ?_)
  · have hlt : i < g.Prods.length := by have := of_decide_eq_true h; omega
    clear h
    obtain ⟨b, o, es, rfl, hb, he, hc⟩ := hG.prods.2.2 i hlt
    obtain ⟨b', o', es', rfl, hb', he', hc'⟩ := hH.prods.2.2 i hlt
    obtain ⟨Ar, cr, rfl, hl, hlN, hlK, hr⟩ := kPrd_open he
    obtain ⟨Br, dr, rfl, _, _, _, hs⟩ := kPrd_open he'
    have hrl := hr.2.1
    repeat' (first | refine e_nil ?_ | ((first | refine e_op ?_ | refine e_yes rfl ?_); (first | refine o_n (peval_sound rfl) rfl ?_ | refine o_n (nl rfl rfl tc rfl) rfl ?_ | refine o_storeC rfl rfl rfl rfl tc uc rfl rfl rfl ?_ | refine o_box rfl rfl (fun _ => ?_) | refine o_box1 rfl rfl rfl (fun _ => ?_) | refine o_alloc rfl rfl (fun _ => ?_))) | refine e_noU rfl rfl rfl ?_ | refine e_noN rfl rfl ?_ | refine s_seq ?_ | refine s_region ?_ | refine s_block ?_ | refine s_end ?_ | refine s_skip ?_ | refine s_exit ?_ | refine s_true rfl ?_ | refine s_false rfl ?_ | refine x_hit ?_ | refine x_code ?_ | refine x_back ?_ | refine x_miss rfl ?_)
    refine s_anyU Tryd.mixed ?_
    refine a_n 0 rfl (peval_sound rfl) (by decide +kernel) (Ent.refl _) rfl ?_
    refine a_n 1 rfl (n_load rfl rfl (.s .z) rfl) (by decide +kernel) (Ent.refl _) rfl ?_
    refine a_n 2 rfl (peval_sound rfl) (by decide +kernel) (Ent.refl _) rfl ?_
    refine a_n 3 rfl (n_index rfl rfl rfl rfl i rfl hlt) (by decide +kernel) (Ent.refl _) rfl ?_
    refine a_n 4 rfl (n_load_ro rfl rfl hb (loads_agg rfl rfl hc)) (by decide +kernel) (Ent.refl _) rfl ?_
    refine a_n 5 rfl (peval_sound rfl) (by decide +kernel) (Ent.refl _) rfl ?_
    refine a_n 6 rfl (n_load rfl rfl .z rfl) (by decide +kernel) (Ent.refl _) rfl ?_
    refine a_n 7 rfl (peval_sound rfl) (by decide +kernel) (Ent.refl _) rfl ?_
    refine a_n 8 rfl (n_index rfl rfl rfl rfl i rfl hlt) (by decide +kernel) (Ent.refl _) rfl ?_
    refine a_n 9 rfl (n_load_ro rfl rfl hb' (loads_agg rfl rfl hc')) (by decide +kernel) (Ent.refl _) rfl ?_
    refine a_join (ι := Nat × Nat) (fun x => [(2, .pointer (some ⟨b2, 0, none⟩)), (3, .pointer (some ⟨b3, 0, none⟩)), (6, .int .i64 i), (7, .pointer (some ⟨x.1, 0, none⟩)), (8, .pointer (some ⟨x.2, 0, none⟩))])
      (fun x => [blk x.1 53 [.int .i64 g.Prods[i].Left, .slice Ar g.Prods[i].Right.length cr, .int .i64 g.Prods[i].L.N, .int .i64 g.Prods[i].L.Kind], blk x.2 53 [.int .i64 g.Prods[i].Left, .slice Br g.Prods[i].Right.length dr, .int .i64 g.Prods[i].L.N, .int .i64 g.Prods[i].L.Kind],
        blk b3 27 [.slice B0 g.Terms.length d0, .slice B1 g.Levels.length d1, .slice B2 g.Pats.length d2, .slice B3 g.Nons.length d3, .slice (some ⟨b', o', none⟩) g.Prods.length d4],
        blk b2 27 [.slice A0 g.Terms.length c0, .slice A1 g.Levels.length c1, .slice A2 g.Pats.length c2, .slice A3 g.Nons.length c3, .slice (some ⟨b, o, none⟩) g.Prods.length c4]]) ?_ (fun hfin => ?_)
    · rintro ⟨b7, b8⟩
      simp only
      repeat' (first | refine e_nil ?_ | ((first | refine e_op ?_ | refine e_yes rfl ?_); (first | refine o_n (peval_sound rfl) rfl ?_ | refine o_n (nl rfl rfl tc rfl) rfl ?_ | refine o_storeC rfl rfl rfl rfl tc uc rfl rfl rfl ?_ | refine o_box rfl rfl (fun _ => ?_) | refine o_box1 rfl rfl rfl (fun _ => ?_) | refine o_alloc rfl rfl (fun _ => ?_))) | refine e_noU rfl rfl rfl ?_ | refine e_noN rfl rfl ?_ | refine s_seq ?_ | refine s_region ?_ | refine s_block ?_ | refine s_end ?_ | refine s_skip ?_ | refine s_exit ?_ | refine s_true rfl ?_ | refine s_false rfl ?_ | refine x_hit ?_ | refine x_code ?_ | refine x_back ?_ | refine x_miss rfl ?_)
      simp only [bne_self_eq_false]
      repeat' (first | refine e_nil ?_ | ((first | refine e_op ?_ | refine e_yes rfl ?_); (first | refine o_n (peval_sound rfl) rfl ?_ | refine o_n (nl rfl rfl tc rfl) rfl ?_ | refine o_storeC rfl rfl rfl rfl tc uc rfl rfl rfl ?_ | refine o_box rfl rfl (fun _ => ?_) | refine o_box1 rfl rfl rfl (fun _ => ?_) | refine o_alloc rfl rfl (fun _ => ?_))) | refine e_noU rfl rfl rfl ?_ | refine e_noN rfl rfl ?_ | refine s_seq ?_ | refine s_region ?_ | refine s_block ?_ | refine s_end ?_ | refine s_skip ?_ | refine s_exit ?_ | refine s_true rfl ?_ | refine s_false rfl ?_ | refine x_hit ?_ | refine x_code ?_ | refine x_back ?_ | refine x_miss rfl ?_)
      refine e_yes rfl (o_n (n_neq65 rfl rfl) rfl ?_)
      simp only [beq_self_eq_true, Bool.and_self, Bool.not_true]
      repeat' (first | refine e_nil ?_ | ((first | refine e_op ?_ | refine e_yes rfl ?_); (first | refine o_n (peval_sound rfl) rfl ?_ | refine o_n (nl rfl rfl tc rfl) rfl ?_ | refine o_storeC rfl rfl rfl rfl tc uc rfl rfl rfl ?_ | refine o_box rfl rfl (fun _ => ?_) | refine o_box1 rfl rfl rfl (fun _ => ?_) | refine o_alloc rfl rfl (fun _ => ?_))) | refine e_noU rfl rfl rfl ?_ | refine e_noN rfl rfl ?_ | refine s_seq ?_ | refine s_region ?_ | refine s_block ?_ | refine s_end ?_ | refine s_skip ?_ | refine s_exit ?_ | refine s_true rfl ?_ | refine s_false rfl ?_ | refine x_hit ?_ | refine x_code ?_ | refine x_back ?_ | refine x_miss rfl ?_)
      simp only [bne_self_eq_false]
      repeat' (first | refine e_nil ?_ | ((first | refine e_op ?_ | refine e_yes rfl ?_); (first | refine o_n (peval_sound rfl) rfl ?_ | refine o_n (nl rfl rfl tc rfl) rfl ?_ | refine o_storeC rfl rfl rfl rfl tc uc rfl rfl rfl ?_ | refine o_box rfl rfl (fun _ => ?_) | refine o_box1 rfl rfl rfl (fun _ => ?_) | refine o_alloc rfl rfl (fun _ => ?_))) | refine e_noU rfl rfl rfl ?_ | refine e_noN rfl rfl ?_ | refine s_seq ?_ | refine s_region ?_ | refine s_block ?_ | refine s_end ?_ | refine s_skip ?_ | refine s_exit ?_ | refine s_true rfl ?_ | refine s_false rfl ?_ | refine x_hit ?_ | refine x_code ?_ | refine x_back ?_ | refine x_miss rfl ?_)
      refine s_loopK (ι := {k : Nat // k ≤ g.Prods[i].Right.length}) [2, 3, 6, 7, 8] rfl ⟨0, by omega⟩ (fun x => [(9, .int .i64 x.1)])
        (fun x => [blk b7 53 [.int .i64 g.Prods[i].Left, .slice Ar g.Prods[i].Right.length cr, .int .i64 g.Prods[i].L.N, .int .i64 g.Prods[i].L.Kind], blk b8 53 [.int .i64 g.Prods[i].Left, .slice Br g.Prods[i].Right.length dr, .int .i64 g.Prods[i].L.N, .int .i64 g.Prods[i].L.Kind],
          blk b3 27 [.slice B0 g.Terms.length d0, .slice B1 g.Levels.length d1, .slice B2 g.Pats.length d2, .slice B3 g.Nons.length d3, .slice (some ⟨b', o', none⟩) g.Prods.length d4],
          blk b2 27 [.slice A0 g.Terms.length c0, .slice A1 g.Levels.length c1, .slice A2 g.Pats.length c2, .slice A3 g.Nons.length c3, .slice (some ⟨b, o, none⟩) g.Prods.length c4]]) (fun x => g.Prods[i].Right.length - x.1) ?_ (by repeat' (first | exact Ent.nil _ | refine Ent.tak tk ?_ | refine Ent.tak .z ?_ | refine Ent.tak (.s .z) ?_ | refine Ent.tak (.s (.s .z)) ?_ | refine Ent.tak (.s (.s (.s .z))) ?_ | refine Ent.tak (.s (.s (.s (.s .z)))) ?_ | refine Ent.tak (.s (.s (.s (.s (.s .z))))) ?_)) ?_
      · repeat' (first | exact Sub.nil _ | refine Sub.cons rfl ?_ | refine Sub.consE rfl ?_ ?_)
      rintro ⟨k, hk⟩
      simp only at hk ⊢
      repeat' (first | refine e_nil ?_ | ((first | refine e_op ?_ | refine e_yes rfl ?_); (first | refine o_n (peval_sound rfl) rfl ?_ | refine o_n (nl rfl rfl tc rfl) rfl ?_ | refine o_storeC rfl rfl rfl rfl tc uc rfl rfl rfl ?_ | refine o_box rfl rfl (fun _ => ?_) | refine o_box1 rfl rfl rfl (fun _ => ?_) | refine o_alloc rfl rfl (fun _ => ?_))) | refine e_noU rfl rfl rfl ?_ | refine e_noN rfl rfl ?_ | refine s_seq ?_ | refine s_region ?_ | refine s_block ?_ | refine s_end ?_ | refine s_skip ?_ | refine s_exit ?_ | refine s_true rfl ?_ | refine s_false rfl ?_ | refine x_hit ?_ | refine x_code ?_ | refine x_back ?_ | refine x_miss rfl ?_)
      refine s_cond rfl (fun h => ?_) (fun h => ?_)
      · have hkl : k < g.Prods[i].Right.length := by have := of_decide_eq_true h; omega
        clear h
        obtain ⟨b5, o5, es5, rfl, hb5, ⟨rfl, hsI⟩, hc5⟩ := hr.2.2 k hkl
        obtain ⟨b6, o6, es6, rfl, hb6, ⟨rfl, _⟩, hc6⟩ := hs.2.2 k hkl
        repeat' (first | refine e_nil ?_ | ((first | refine e_op ?_ | refine e_yes rfl ?_); (first | refine o_n (peval_sound rfl) rfl ?_ | refine o_n (nl rfl rfl tc rfl) rfl ?_ | refine o_storeC rfl rfl rfl rfl tc uc rfl rfl rfl ?_ | refine o_box rfl rfl (fun _ => ?_) | refine o_box1 rfl rfl rfl (fun _ => ?_) | refine o_alloc rfl rfl (fun _ => ?_))) | refine e_noU rfl rfl rfl ?_ | refine e_noN rfl rfl ?_ | refine s_seq ?_ | refine s_region ?_ | refine s_block ?_ | refine s_end ?_ | refine s_skip ?_ | refine s_exit ?_ | refine s_true rfl ?_ | refine s_false rfl ?_ | refine x_hit ?_ | refine x_code ?_ | refine x_back ?_ | refine x_miss rfl ?_)
        refine s_drawU [] Tryd.mixed (by decide +kernel) ?_
        repeat' (first | refine l_nil ?_ | ((first | refine l_no rfl rfl rfl ?_ rfl ?_ | refine l_noN rfl rfl ?_ rfl ?_ | refine l_n (peval_sound rfl) rfl ?_ rfl ?_ | refine l_n (nl rfl rfl tc rfl) rfl ?_ rfl ?_ | refine l_ny rfl (peval_sound rfl) rfl ?_ rfl ?_ | refine l_ny rfl (nl rfl rfl tc rfl) rfl ?_ rfl ?_); · (first | exact Ent.refl _ | assumption | repeat' (first | exact Ent.refl _ | exact Ent.nil _ | refine Ent.tak .z ?_ | refine Ent.wk ?_))))
        refine l_n (n_index rfl rfl rfl rfl k rfl hkl) rfl (by (first | exact Ent.refl _ | assumption | repeat' (first | exact Ent.refl _ | exact Ent.nil _ | refine Ent.tak .z ?_ | refine Ent.wk ?_))) rfl ?_
        refine l_n (n_load_ro rfl rfl hb5 (loads_one rfl (hc5 0 _ rfl))) rfl (by (first | exact Ent.refl _ | assumption | repeat' (first | exact Ent.refl _ | exact Ent.nil _ | refine Ent.tak .z ?_ | refine Ent.wk ?_))) rfl ?_
        repeat' (first | refine l_nil ?_ | ((first | refine l_no rfl rfl rfl ?_ rfl ?_ | refine l_noN rfl rfl ?_ rfl ?_ | refine l_n (peval_sound rfl) rfl ?_ rfl ?_ | refine l_n (nl rfl rfl tc rfl) rfl ?_ rfl ?_ | refine l_ny rfl (peval_sound rfl) rfl ?_ rfl ?_ | refine l_ny rfl (nl rfl rfl tc rfl) rfl ?_ rfl ?_); · (first | exact Ent.refl _ | assumption | repeat' (first | exact Ent.refl _ | exact Ent.nil _ | refine Ent.tak .z ?_ | refine Ent.wk ?_))))
        refine l_n (n_index rfl rfl rfl rfl k rfl hkl) rfl (by (first | exact Ent.refl _ | assumption | repeat' (first | exact Ent.refl _ | exact Ent.nil _ | refine Ent.tak .z ?_ | refine Ent.wk ?_))) rfl ?_
        refine l_n (n_load_ro rfl rfl hb6 (loads_one rfl (hc6 0 _ rfl))) rfl (by (first | exact Ent.refl _ | assumption | repeat' (first | exact Ent.refl _ | exact Ent.nil _ | refine Ent.tak .z ?_ | refine Ent.wk ?_))) rfl ?_
        repeat' (first | refine l_nil ?_ | ((first | refine l_no rfl rfl rfl ?_ rfl ?_ | refine l_noN rfl rfl ?_ rfl ?_ | refine l_n (peval_sound rfl) rfl ?_ rfl ?_ | refine l_n (nl rfl rfl tc rfl) rfl ?_ rfl ?_ | refine l_ny rfl (peval_sound rfl) rfl ?_ rfl ?_ | refine l_ny rfl (nl rfl rfl tc rfl) rfl ?_ rfl ?_); · (first | exact Ent.refl _ | assumption | repeat' (first | exact Ent.refl _ | exact Ent.nil _ | refine Ent.tak .z ?_ | refine Ent.wk ?_))))
        simp only [bne_self_eq_false]
        repeat' (first | refine e_nil ?_ | ((first | refine e_op ?_ | refine e_yes rfl ?_); (first | refine o_n (peval_sound rfl) rfl ?_ | refine o_n (nl rfl rfl tc rfl) rfl ?_ | refine o_storeC rfl rfl rfl rfl tc uc rfl rfl rfl ?_ | refine o_box rfl rfl (fun _ => ?_) | refine o_box1 rfl rfl rfl (fun _ => ?_) | refine o_alloc rfl rfl (fun _ => ?_))) | refine e_noU rfl rfl rfl ?_ | refine e_noN rfl rfl ?_ | refine s_seq ?_ | refine s_region ?_ | refine s_block ?_ | refine s_end ?_ | refine s_skip ?_ | refine s_exit ?_ | refine s_true rfl ?_ | refine s_false rfl ?_ | refine x_hit ?_ | refine x_code ?_ | refine x_back ?_ | refine x_miss rfl ?_)
        refine s_back ⟨⟨k + 1, by omega⟩, by simp only; omega, ?_, by repeat' (first | exact Ent.nil _ | refine Ent.tak tk ?_ | refine Ent.tak .z ?_ | refine Ent.tak (.s .z) ?_ | refine Ent.tak (.s (.s .z)) ?_ | refine Ent.tak (.s (.s (.s .z))) ?_ | refine Ent.tak (.s (.s (.s (.s .z)))) ?_ | refine Ent.tak (.s (.s (.s (.s (.s .z))))) ?_)⟩
        repeat' (first | exact Sub.nil _ | refine Sub.cons rfl ?_ | refine Sub.consE rfl ?_ ?_)
        exact inc (i := k) (by omega)
      · clear h
        repeat' (first | refine e_nil ?_ | ((first | refine e_op ?_ | refine e_yes rfl ?_); (first | refine o_n (peval_sound rfl) rfl ?_ | refine o_n (nl rfl rfl tc rfl) rfl ?_ | refine o_storeC rfl rfl rfl rfl tc uc rfl rfl rfl ?_ | refine o_box rfl rfl (fun _ => ?_) | refine o_box1 rfl rfl rfl (fun _ => ?_) | refine o_alloc rfl rfl (fun _ => ?_))) | refine e_noU rfl rfl rfl ?_ | refine e_noN rfl rfl ?_ | refine s_seq ?_ | refine s_region ?_ | refine s_block ?_ | refine s_end ?_ | refine s_skip ?_ | refine s_exit ?_ | refine s_true rfl ?_ | refine s_false rfl ?_ | refine x_hit ?_ | refine x_code ?_ | refine x_back ?_ | refine x_miss rfl ?_)
        refine s_back ⟨⟨i + 1, by omega⟩, by simp only; omega, ?_, by repeat' (first | exact Ent.nil _ | refine Ent.tak tk ?_ | refine Ent.tak .z ?_ | refine Ent.tak (.s .z) ?_ | refine Ent.tak (.s (.s .z)) ?_ | refine Ent.tak (.s (.s (.s .z))) ?_ | refine Ent.tak (.s (.s (.s (.s .z)))) ?_ | refine Ent.tak (.s (.s (.s (.s (.s .z))))) ?_)⟩
        repeat' (first | exact Sub.nil _ | refine Sub.cons rfl ?_ | refine Sub.consE rfl ?_ ?_)
        exact inc (i := i) (by omega)
    · refine a_2 10 11 (by decide +kernel) rfl rfl rfl rfl (o_alloc rfl rfl (fun b7 => ⟨(by (first | exact Ent.refl _ | assumption | repeat' (first | exact Ent.refl _ | exact Ent.nil _ | refine Ent.tak .z ?_ | refine Ent.wk ?_))), ?_⟩)) (o_alloc rfl rfl (fun b8 => ⟨(by (first | exact Ent.refl _ | assumption | repeat' (first | exact Ent.refl _ | exact Ent.nil _ | refine Ent.tak .z ?_ | refine Ent.wk ?_))), ?_⟩))
      · refine a_1 11 (by decide +kernel) rfl rfl (o_alloc rfl rfl (fun b8 => ⟨(by (first | exact Ent.refl _ | assumption | repeat' (first | exact Ent.refl _ | exact Ent.nil _ | refine Ent.tak .z ?_ | refine Ent.wk ?_))), ?_⟩))
        refine a_1 12 (by decide +kernel) rfl rfl (o_store rfl rfl rfl rfl rfl rfl rfl (.s .z) ⟨(by (first | exact Ent.refl _ | assumption | repeat' (first | exact Ent.refl _ | exact Ent.nil _ | refine Ent.tak .z ?_ | refine Ent.wk ?_))), ?_⟩)
        refine a_1 13 (by decide +kernel) rfl rfl (o_store rfl rfl rfl rfl rfl rfl rfl .z ⟨(by (first | exact Ent.refl _ | assumption | repeat' (first | exact Ent.refl _ | exact Ent.nil _ | refine Ent.tak .z ?_ | refine Ent.wk ?_))), ?_⟩)
        refine a_done (by decide +kernel) (s_weak ?_ ?_ (hfin (b7, b8)))
        · repeat' (first | exact Sub.nil _ | refine Sub.cons rfl ?_ | refine Sub.consE rfl ?_ ?_)
        · repeat' (first | exact Ent.nil _ | refine Ent.tak tk ?_ | refine Ent.tak .z ?_ | refine Ent.tak (.s .z) ?_ | refine Ent.tak (.s (.s .z)) ?_ | refine Ent.tak (.s (.s (.s .z))) ?_ | refine Ent.tak (.s (.s (.s (.s .z)))) ?_ | refine Ent.tak (.s (.s (.s (.s (.s .z))))) ?_)
      · refine a_1 10 (by decide +kernel) rfl rfl (o_alloc rfl rfl (fun b7 => ⟨(by (first | exact Ent.refl _ | assumption | repeat' (first | exact Ent.refl _ | exact Ent.nil _ | refine Ent.tak .z ?_ | refine Ent.wk ?_))), ?_⟩))
        refine a_1 12 (by decide +kernel) rfl rfl (o_store rfl rfl rfl rfl rfl rfl rfl .z ⟨(by (first | exact Ent.refl _ | assumption | repeat' (first | exact Ent.refl _ | exact Ent.nil _ | refine Ent.tak .z ?_ | refine Ent.wk ?_))), ?_⟩)
        refine a_1 13 (by decide +kernel) rfl rfl (o_store rfl rfl rfl rfl rfl rfl rfl (.s .z) ⟨(by (first | exact Ent.refl _ | assumption | repeat' (first | exact Ent.refl _ | exact Ent.nil _ | refine Ent.tak .z ?_ | refine Ent.wk ?_))), ?_⟩)
        refine a_done (by decide +kernel) (s_weak ?_ ?_ (hfin (b7, b8)))
        · repeat' (first | exact Sub.nil _ | refine Sub.cons rfl ?_ | refine Sub.consE rfl ?_ ?_)
        · repeat' (first | exact Ent.nil _ | refine Ent.tak tk ?_ | refine Ent.tak .z ?_ | refine Ent.tak (.s .z) ?_ | refine Ent.tak (.s (.s .z)) ?_ | refine Ent.tak (.s (.s (.s .z))) ?_ | refine Ent.tak (.s (.s (.s (.s .z)))) ?_ | refine Ent.tak (.s (.s (.s (.s (.s .z))))) ?_)
  · clear h
    repeat' (first | refine e_nil ?_ | ((first | refine e_op ?_ | refine e_yes rfl ?_); (first | refine o_n (peval_sound rfl) rfl ?_ | refine o_n (nl rfl rfl tc rfl) rfl ?_ | refine o_storeC rfl rfl rfl rfl tc uc rfl rfl rfl ?_ | refine o_box rfl rfl (fun _ => ?_) | refine o_box1 rfl rfl rfl (fun _ => ?_) | refine o_alloc rfl rfl (fun _ => ?_))) | refine e_noU rfl rfl rfl ?_ | refine e_noN rfl rfl ?_ | refine s_seq ?_ | refine s_region ?_ | refine s_block ?_ | refine s_end ?_ | refine s_skip ?_ | refine s_exit ?_ | refine s_true rfl ?_ | refine s_false rfl ?_ | refine x_hit ?_ | refine x_code ?_ | refine x_back ?_ | refine x_miss rfl ?_)
    exact s_ret ⟨_, _, res1 rfl rfl, ⟨rfl, rfl⟩, Ent.nil _⟩

end Go.Proofs.YtcbaebkkdkdaaaaDoor

namespace Go.Proofs.YtcbaebkkdkdaaaaDoor
set_option linter.all false
open Go.Proofs.YtcbaebkkdkdaaaaDoor.E

theorem op3 : Opn Tryd.prog 3 kint := op_int Tryd.underlying3
theorem op9 : Opn Tryd.prog 9 kstr := op_str Tryd.underlying9
theorem op24 : Opn Tryd.prog 44 (kslice 8 kint) := op_slice Tryd.underlying44 (by kernel_rfl) (by kernel_rfl) (by decide) op3
theorem op39 : Opn Tryd.prog 22 (kslice 16 kstr) := op_slice Tryd.underlying22 (by kernel_rfl) (by kernel_rfl) (by decide) op9
theorem op65 : Opn Tryd.prog 51 kLev := op_iso (fun y => ⟨⟨y.1, y.2⟩, rfl⟩) (op_struct Tryd.underlying51 (by kernel_rfl) (ops_cons (by kernel_rfl) op3 rfl (ops_one (by kernel_rfl) op3)))
theorem op40 : Opn Tryd.prog 23 (kslice 16 kLev) := op_slice Tryd.underlying23 (by kernel_rfl) (by kernel_rfl) (by decide) op65
theorem op146 : Opn Tryd.prog 201 kPt := op_iso (fun y => ⟨⟨y.1, y.2⟩, rfl⟩) (op_struct Tryd.underlying201 (by kernel_rfl) (ops_cons (by kernel_rfl) op3 rfl (ops_one (by kernel_rfl) op9)))
theorem op41 : Opn Tryd.prog 24 (kslice 24 kPt) := op_slice Tryd.underlying24 (by kernel_rfl) (by kernel_rfl) (by decide) op146
theorem op67 : Opn Tryd.prog 53 kPrd := op_iso (fun y => ⟨⟨y.1, y.2.1, y.2.2⟩, rfl⟩) (op_struct Tryd.underlying53 (by kernel_rfl) (ops_cons (by kernel_rfl) op3 rfl (ops_cons (by kernel_rfl) op24 rfl (ops_one (by kernel_rfl) op65))))
theorem op42 : Opn Tryd.prog 25 (kslice 48 kPrd) := op_slice Tryd.underlying25 (by kernel_rfl) (by kernel_rfl) (by decide) op67
theorem op44 : Opn Tryd.prog 27 kGram := op_iso (fun y => ⟨⟨y.1, y.2.1, y.2.2.1, y.2.2.2.1, y.2.2.2.2⟩, rfl⟩) (op_struct Tryd.underlying27 (by kernel_rfl)
  (ops_cons (by kernel_rfl) op39 rfl (ops_cons (by kernel_rfl) op40 rfl (ops_cons (by kernel_rfl) op41 rfl (ops_cons (by kernel_rfl) op39 rfl (ops_one (by kernel_rfl) op42))))))

theorem Tryd.laidOut : laidOutB Tryd.prog = true := by kernel_rfl
theorem Tryd.own : ownKnob Tryd.prog.godebug = none := by kernel_rfl

end Go.Proofs.YtcbaebkkdkdaaaaDoor

namespace Go.Proofs.YtcbaebkkdkdaaaaDoor
set_option linter.all false
open Go.Proofs.YtcbaebkkdkdaaaaDoor.E

theorem opI42 : Opn Tryd.prog 42 kItm := op_iso (fun y => ⟨⟨y.1, y.2⟩, rfl⟩) (op_struct Tryd.underlying42 (by kernel_rfl) (ops_cons (by kernel_rfl) op3 rfl (ops_one (by kernel_rfl) op3)))
theorem opI43 : Opn Tryd.prog 43 (kslice 16 kItm) := op_slice Tryd.underlying43 (by kernel_rfl) (by kernel_rfl) (by decide) opI42

end Go.Proofs.YtcbaebkkdkdaaaaDoor

namespace Go.Proofs.YtcbaebkkdkdaaaaDoor
set_option linter.all false
open Go.Proofs.YtcbaebkkdkdaaaaDoor.E

theorem pre_get {α : Type} {a b : List α} (h : a <+: b) {i : Nat} (hi : i < a.length) : ∃ h2 : i < b.length, b[i] = a[i] := by
  obtain ⟨d, rfl⟩ := h
  exact ⟨by rw [List.length_append]; omega, List.getElem_append_left hi⟩

theorem symK_mem {g : Gram} {l : List Itm} {ks : List (List Itm)} {n s : Nat} (hs : s < n) (hne : goI g l s ≠ []) : goI g l s ∈ symK g l ks n := by
  obtain ⟨d, hd⟩ := Nat.exists_eq_add_of_le (show s + 1 ≤ n by omega)
  have h1 := symK_mono g l ks (s + 1) d
  rw [← hd] at h1
  refine h1.subset ?_
  rw [symK_succ]
  exact addK_mem hne

/-- What a state goes on to is a state. -/
theorem lrF_closed (g : Gram) : ∀ (f i : Nat) (ks fin : List (List Itm)), lrF g f i ks = some fin → ∀ (j : Nat) (hj : j < fin.length), i ≤ j → ∀ s < g.Terms.length + g.Nons.length, goI g (closedP g fin[j]) s ≠ [] → goI g (closedP g fin[j]) s ∈ fin
  | 0, _, _, _, h => by cases h
  | f + 1, i, ks, fin, h => by
    have h0 := h
    unfold lrF at h
    cases hk : ks[i]? with
    | none =>
      rw [hk] at h
      simp only [Option.some.injEq] at h
      subst h
      intro j hj hij
      rw [List.getElem?_eq_none_iff] at hk
      omega
    | some k =>
      rw [hk] at h
      simp only at h
      split at h
      · cases h
      · intro j hj hij s hs hne
        have hp := lrF_pre g _ _ _ _ h
        by_cases e : j = i
        · subst e
          have hjk : j < ks.length := (List.getElem?_eq_some_iff.1 hk).1
          have hkk : ks[j] = k := (List.getElem?_eq_some_iff.1 hk).2
          obtain ⟨_, e1⟩ := pre_get ((symK_pre g (closedP g k) ks (g.Terms.length + g.Nons.length)).trans hp) hjk
          rw [e1, hkk] at hne ⊢
          exact hp.subset (symK_mem hs hne)
        · exact lrF_closed g f (i + 1) _ fin h j hj (by omega) s hs hne

theorem lr_closed {g : Gram} (h : lrE g = 0) {j : Nat} (hj : j < (lrKs g).length) {s : Nat} (hs : s < g.Terms.length + g.Nons.length) : goI g (closedP g (lrKs g)[j]) s = [] ∨ goI g (closedP g (lrKs g)[j]) s ∈ lrKs g := by
  by_cases e : goI g (closedP g (lrKs g)[j]) s = []
  · exact .inl e
  · exact .inr (lrF_closed g _ _ _ _ (lr_fin h).2.1 j hj (Nat.zero_le _) s hs e)

theorem lr_first {g : Gram} (h : lrE g = 0) : ∃ h0 : 0 < (lrKs g).length, (lrKs g)[0] = [⟨0, 0⟩] := by
  have hp := lrF_pre g _ _ _ _ (lr_fin h).2.1
  exact pre_get hp (i := 0) (by simp)

theorem lr_len (g : Gram) : (lrGs g).length = (lrKs g).length := by unfold lrGs; rw [List.length_map]

theorem lr_row {g : Gram} {i : Nat} (hi : i < (lrGs g).length) : (lrGs g)[i] = gotoR g (lrKs g) ((lrKs g)[i]'(by rw [← lr_len]; exact hi)) := by
  have : ∀ (l : List (List Int)) (h : i < l.length), l = (lrKs g).map (gotoR g (lrKs g)) → l[i] = gotoR g (lrKs g) ((lrKs g)[i]'(by rw [← lr_len]; exact hi)) := fun l h e => by subst e; rw [List.getElem_map]
  exact this _ hi rfl

theorem gotoR_len (g : Gram) (ks : List (List Itm)) (k : List Itm) : (gotoR g ks k).length = g.Terms.length + g.Nons.length := by unfold gotoR; simp
theorem gotoR_get {g : Gram} {ks : List (List Itm)} {k : List Itm} {s : Nat} (h : s < (gotoR g ks k).length) : (gotoR g ks k)[s] = numK ks (goI g (closedP g k) s) := by
  have h2 : s < ((List.range (g.Terms.length + g.Nons.length)).map fun (s : Nat) => numK ks (goI g (closedP g k) s)).length := h
  show ((List.range (g.Terms.length + g.Nons.length)).map fun (s : Nat) => numK ks (goI g (closedP g k) s))[s] = _
  rw [List.getElem_map, List.getElem_range]

theorem lrE_vals {g : Gram} (hc : checkE g = 0) : lrE g = 0 ∨ lrE g = 5 := by
  unfold lrE
  rw [if_neg (fun h => h hc)]
  cases lrK g with
  | none => exact .inr rfl
  | some ks => exact .inl rfl

theorem close_in {g : Gram} (hc : checkE g = 0) {l : List Itm} (hl : l.length ≤ 2000) (hin : ∀ x ∈ l, inG g x = true) : closeE g l = 0 ∧ closeL g l = closedP g l := by
  have h1 : closeE g l = 0 := by
    unfold closeE
    rw [if_neg (fun h => h hc), if_neg (by omega), if_pos]
    unfold allIn
    rw [List.all_eq_true]
    exact hin
  exact ⟨h1, by unfold closeL; rw [if_pos h1]⟩

theorem numK_neg {ks : List (List Itm)} {k : List Itm} : numK ks k < 0 ↔ k = [] := by
  unfold numK
  split
  · rename_i h; exact ⟨fun _ => h, fun _ => by omega⟩
  · rename_i h; exact ⟨fun h2 => by omega, fun h2 => absurd h2 h⟩

theorem numK_at {ks : List (List Itm)} {k : List Itm} (h : k ∈ ks) (hne : k ≠ []) : ∃ (j : Nat) (hj : j < ks.length), numK ks k = (j : Int) ∧ ks[j] = k := by
  unfold numK
  rw [if_neg hne]
  exact ⟨ix ks k, ix_lt h, rfl, by have := ix_get h; rw [List.getElem?_eq_getElem (ix_lt h), Option.some.injEq] at this; exact this⟩

end Go.Proofs.YtcbaebkkdkdaaaaDoor

namespace Go.Proofs.YtcbaebkkdkdaaaaDoor
set_option linter.all false
open Go.Proofs.YtcbaebkkdkdaaaaDoor.E

attribute [local irreducible] EVX EVO EVL EV1 NEV
attribute [local irreducible] own osl exA rdA rdL
set_option maxRecDepth 10000
set_option maxHeartbeats 4000000

theorem behind_w (cs : List Value) (g : Gram) (x : Itm) (hx : inG g x = true) : Trip Tryd.prog 26 [.agg cs.toArray, .agg (encX x).toArray] (kGram.rd cs g) [] (fun v V => v = .int .i64 (beh g x) ∧ V = []) := by
  refine trip Tryd.tabOk Tryd.func26 rfl rfl rfl rfl ?_
  rintro w SM hR
  obtain ⟨A0, A1, A2, A3, A4, c0, c1, c2, c3, c4, rfl, hG⟩ := kGram_open hR
  unfold inG at hx
  simp only [Bool.and_eq_true, decide_eq_true_eq] at hx
  obtain ⟨x1, x2, x3, x4⟩ := hx
  obtain ⟨xp, xd⟩ := x
  simp only at x1 x2 x3 x4
  obtain ⟨p, rfl⟩ : ∃ k : Nat, xp = (k : Int) := ⟨xp.toNat, by omega⟩
  obtain ⟨d, rfl⟩ : ∃ k : Nat, xd = (k : Int) := ⟨xd.toNat, by omega⟩
  have hp : p < g.Prods.length := by omega
  have hpr : prd g (p : Int) = g.Prods[p] := by unfold prd; rw [Int.toNat_natCast, List.getD_eq_getElem?_getD, List.getElem?_eq_getElem hp]; rfl
  rw [hpr] at x4
  obtain ⟨b, o, es, rfl, hb, he, hc⟩ := hG.prods.2.2 p hp
  obtain ⟨Ar, cr, rfl, hl, hlN, hlK, hri⟩ := kPrd_open he
  have hbe : beh g ⟨(p : Int), (d : Int)⟩ = if d < g.Prods[p].Right.length then g.Prods[p].Right.getD d 0 else -1 := by
    unfold beh
    simp only [hpr, Int.toNat_natCast]
    by_cases h : d < g.Prods[p].Right.length
    · rw [if_pos h, if_pos (by omega)]
    · rw [if_neg h, if_neg (by omega)]
  unfold encX
  repeat' (first | refine e_nil ?_ | ((first | refine e_op ?_ | refine e_yes rfl ?_); (first | refine o_n (peval_sound rfl) rfl ?_ | refine o_n (nl rfl rfl tc rfl) rfl ?_ | refine o_storeC rfl rfl rfl rfl tc uc rfl rfl rfl ?_ | refine o_box rfl rfl (fun _ => ?_) | refine o_box1 rfl rfl rfl (fun _ => ?_) | refine o_alloc rfl rfl (fun _ => ?_))) | refine e_noU rfl rfl rfl ?_ | refine e_noN rfl rfl ?_ | refine s_seq ?_ | refine s_region ?_ | refine s_block ?_ | refine s_end ?_ | refine s_skip ?_ | refine s_exit ?_ | refine s_true rfl ?_ | refine s_false rfl ?_ | refine x_hit ?_ | refine x_code ?_ | refine x_back ?_ | refine x_miss rfl ?_)
  refine e_op (o_n (n_index rfl rfl rfl rfl p rfl hp) rfl ?_)
  repeat' (first | refine e_nil ?_ | ((first | refine e_op ?_ | refine e_yes rfl ?_); (first | refine o_n (peval_sound rfl) rfl ?_ | refine o_n (nl rfl rfl tc rfl) rfl ?_ | refine o_storeC rfl rfl rfl rfl tc uc rfl rfl rfl ?_ | refine o_box rfl rfl (fun _ => ?_) | refine o_box1 rfl rfl rfl (fun _ => ?_) | refine o_alloc rfl rfl (fun _ => ?_))) | refine e_noU rfl rfl rfl ?_ | refine e_noN rfl rfl ?_ | refine s_seq ?_ | refine s_region ?_ | refine s_block ?_ | refine s_end ?_ | refine s_skip ?_ | refine s_exit ?_ | refine s_true rfl ?_ | refine s_false rfl ?_ | refine x_hit ?_ | refine x_code ?_ | refine x_back ?_ | refine x_miss rfl ?_)
  refine e_op (o_n (n_load_ro rfl rfl hb (loads_one rfl (hc 1 _ rfl))) rfl ?_)
  repeat' (first | refine e_nil ?_ | ((first | refine e_op ?_ | refine e_yes rfl ?_); (first | refine o_n (peval_sound rfl) rfl ?_ | refine o_n (nl rfl rfl tc rfl) rfl ?_ | refine o_storeC rfl rfl rfl rfl tc uc rfl rfl rfl ?_ | refine o_box rfl rfl (fun _ => ?_) | refine o_box1 rfl rfl rfl (fun _ => ?_) | refine o_alloc rfl rfl (fun _ => ?_))) | refine e_noU rfl rfl rfl ?_ | refine e_noN rfl rfl ?_ | refine s_seq ?_ | refine s_region ?_ | refine s_block ?_ | refine s_end ?_ | refine s_skip ?_ | refine s_exit ?_ | refine s_true rfl ?_ | refine s_false rfl ?_ | refine x_hit ?_ | refine x_code ?_ | refine x_back ?_ | refine x_miss rfl ?_)
  refine s_cond rfl (fun h => ?_) (fun h => ?_)
  · have hd : ¬ d < g.Prods[p].Right.length := by have h := of_decide_eq_true h; simp only at h; omega
    repeat' (first | refine e_nil ?_ | ((first | refine e_op ?_ | refine e_yes rfl ?_); (first | refine o_n (peval_sound rfl) rfl ?_ | refine o_n (nl rfl rfl tc rfl) rfl ?_ | refine o_storeC rfl rfl rfl rfl tc uc rfl rfl rfl ?_ | refine o_box rfl rfl (fun _ => ?_) | refine o_box1 rfl rfl rfl (fun _ => ?_) | refine o_alloc rfl rfl (fun _ => ?_))) | refine e_noU rfl rfl rfl ?_ | refine e_noN rfl rfl ?_ | refine s_seq ?_ | refine s_region ?_ | refine s_block ?_ | refine s_end ?_ | refine s_skip ?_ | refine s_exit ?_ | refine s_true rfl ?_ | refine s_false rfl ?_ | refine x_hit ?_ | refine x_code ?_ | refine x_back ?_ | refine x_miss rfl ?_)
    refine s_ret ⟨_, _, res1 rfl rfl, ⟨?_, rfl⟩, Ent.nil _⟩
    rw [hbe, if_neg hd]
  · have hd : d < g.Prods[p].Right.length := by have h := of_decide_eq_false h; simp only at h; omega
    obtain ⟨b2, o2, es2, rfl, hb2, ⟨rfl, _⟩, hc2⟩ := hri.2.2 d hd
    repeat' (first | refine e_nil ?_ | ((first | refine e_op ?_ | refine e_yes rfl ?_); (first | refine o_n (peval_sound rfl) rfl ?_ | refine o_n (nl rfl rfl tc rfl) rfl ?_ | refine o_storeC rfl rfl rfl rfl tc uc rfl rfl rfl ?_ | refine o_box rfl rfl (fun _ => ?_) | refine o_box1 rfl rfl rfl (fun _ => ?_) | refine o_alloc rfl rfl (fun _ => ?_))) | refine e_noU rfl rfl rfl ?_ | refine e_noN rfl rfl ?_ | refine s_seq ?_ | refine s_region ?_ | refine s_block ?_ | refine s_end ?_ | refine s_skip ?_ | refine s_exit ?_ | refine s_true rfl ?_ | refine s_false rfl ?_ | refine x_hit ?_ | refine x_code ?_ | refine x_back ?_ | refine x_miss rfl ?_)
    refine e_op (o_n (n_index rfl rfl rfl rfl d rfl hd) rfl ?_)
    refine e_op (o_n (n_load_ro rfl rfl hb2 (loads_one rfl (hc2 0 _ rfl))) rfl ?_)
    repeat' (first | refine e_nil ?_ | ((first | refine e_op ?_ | refine e_yes rfl ?_); (first | refine o_n (peval_sound rfl) rfl ?_ | refine o_n (nl rfl rfl tc rfl) rfl ?_ | refine o_storeC rfl rfl rfl rfl tc uc rfl rfl rfl ?_ | refine o_box rfl rfl (fun _ => ?_) | refine o_box1 rfl rfl rfl (fun _ => ?_) | refine o_alloc rfl rfl (fun _ => ?_))) | refine e_noU rfl rfl rfl ?_ | refine e_noN rfl rfl ?_ | refine s_seq ?_ | refine s_region ?_ | refine s_block ?_ | refine s_end ?_ | refine s_skip ?_ | refine s_exit ?_ | refine s_true rfl ?_ | refine s_false rfl ?_ | refine x_hit ?_ | refine x_code ?_ | refine x_back ?_ | refine x_miss rfl ?_)
    refine s_ret ⟨_, _, res1 rfl rfl, ⟨?_, rfl⟩, Ent.nil _⟩
    rw [hbe, if_pos hd, List.getD_eq_getElem?_getD, List.getElem?_eq_getElem hd]; rfl

theorem rises_w (cs : List Value) (g : Gram) (A : Option Addr) (c : Nat) (l : List Itm) (hs : SortI l) (hin : ∀ x ∈ l, inG g x = true) (hsz : l.length ≤ 100000) :
    Trip Tryd.prog 25 [.agg cs.toArray, .slice A l.length c] ((kGram.rd cs g).and ((kslice 16 kItm).rd [.slice A l.length c] l)) [] (fun v V => v = .bool true ∧ V = []) := by
  refine trip Tryd.tabOk Tryd.func25 rfl rfl rfl rfl ?_
  rintro w SM ⟨hG0, ⟨A', c', e1, h1⟩⟩
  cases e1
  obtain ⟨A0, A1, A2, A3, A4, c0, c1, c2, c3, c4, rfl, hG⟩ := kGram_open hG0
  repeat' (first | refine e_nil ?_ | ((first | refine e_op ?_ | refine e_yes rfl ?_); (first | refine o_n (peval_sound rfl) rfl ?_ | refine o_n (nl rfl rfl tc rfl) rfl ?_ | refine o_storeC rfl rfl rfl rfl tc uc rfl rfl rfl ?_ | refine o_box rfl rfl (fun _ => ?_) | refine o_box1 rfl rfl rfl (fun _ => ?_) | refine o_alloc rfl rfl (fun _ => ?_))) | refine e_noU rfl rfl rfl ?_ | refine e_noN rfl rfl ?_ | refine s_seq ?_ | refine s_region ?_ | refine s_end ?_ | refine s_skip ?_ | refine s_exit ?_ | refine s_true rfl ?_ | refine s_false rfl ?_ | refine x_hit ?_ | refine x_code ?_ | refine x_back ?_ | refine x_miss rfl ?_)
  rename_i b2
  repeat' (first | refine e_nil ?_ | ((first | refine e_op ?_ | refine e_yes rfl ?_); (first | refine o_n (peval_sound rfl) rfl ?_ | refine o_n (nl rfl rfl tc rfl) rfl ?_ | refine o_storeC rfl rfl rfl rfl tc uc rfl rfl rfl ?_ | refine o_box rfl rfl (fun _ => ?_) | refine o_box1 rfl rfl rfl (fun _ => ?_) | refine o_alloc rfl rfl (fun _ => ?_))) | refine e_noU rfl rfl rfl ?_ | refine e_noN rfl rfl ?_ | refine s_seq ?_ | refine s_region ?_ | refine s_block ?_ | refine s_end ?_ | refine s_skip ?_ | refine s_exit ?_ | refine s_true rfl ?_ | refine s_false rfl ?_ | refine x_hit ?_ | refine x_code ?_ | refine x_back ?_ | refine x_miss rfl ?_)
  refine s_loopK (ι := {x : Nat // x ≤ l.length}) [1, 2] rfl ⟨0, by omega⟩ (fun x => [(5, .int .i64 x.1)])
    (fun x => [blk b2 27 [.slice A0 g.Terms.length c0, .slice A1 g.Levels.length c1, .slice A2 g.Pats.length c2, .slice A3 g.Nons.length c3, .slice A4 g.Prods.length c4]]) (fun x => l.length - x.1) ?_ (Ent.refl _) ?_
  · repeat' (first | exact Sub.nil _ | refine Sub.cons rfl ?_ | refine Sub.consE rfl ?_ ?_)
  rintro ⟨i, hi⟩
  simp only at hi ⊢
  repeat' (first | refine e_nil ?_ | ((first | refine e_op ?_ | refine e_yes rfl ?_); (first | refine o_n (peval_sound rfl) rfl ?_ | refine o_n (nl rfl rfl tc rfl) rfl ?_ | refine o_storeC rfl rfl rfl rfl tc uc rfl rfl rfl ?_ | refine o_box rfl rfl (fun _ => ?_) | refine o_box1 rfl rfl rfl (fun _ => ?_) | refine o_alloc rfl rfl (fun _ => ?_))) | refine e_noU rfl rfl rfl ?_ | refine e_noN rfl rfl ?_ | refine s_seq ?_ | refine s_region ?_ | refine s_block ?_ | refine s_end ?_ | refine s_skip ?_ | refine s_exit ?_ | refine s_true rfl ?_ | refine s_false rfl ?_ | refine x_hit ?_ | refine x_code ?_ | refine x_back ?_ | refine x_miss rfl ?_)
  refine s_cond rfl (fun h => ?_) (fun h => ?_)
  · have hlt : i < l.length := by simpa using h
    have hxi := hin _ (List.getElem_mem hlt)
    unfold inG at hxi
    simp only [Bool.and_eq_true, decide_eq_true_eq] at hxi
    obtain ⟨x1, x2, x3, x4⟩ := hxi
    obtain ⟨b, o, es, rfl, hb, hx, hc⟩ := h1.2.2 i hlt
    obtain ⟨rfl, hx1, hx2⟩ := kItm_open hx
    obtain ⟨p, hp⟩ : ∃ p : Nat, l[i].Prod = (p : Int) := ⟨l[i].Prod.toNat, by omega⟩
    have hpl : p < g.Prods.length := by omega
    rw [hp, prd_at hpl] at x4
    obtain ⟨b9, o9, es, rfl, hb9, he9, hc9⟩ := hG.prods.2.2 p hpl
    obtain ⟨Ar, cr, rfl, hl9, hlN, hlK, hri⟩ := kPrd_open he9
    repeat' (first | refine e_nil ?_ | ((first | refine e_op ?_ | refine e_yes rfl ?_); (first | refine o_n (peval_sound rfl) rfl ?_ | refine o_n (nl rfl rfl tc rfl) rfl ?_ | refine o_storeC rfl rfl rfl rfl tc uc rfl rfl rfl ?_ | refine o_box rfl rfl (fun _ => ?_) | refine o_box1 rfl rfl rfl (fun _ => ?_) | refine o_alloc rfl rfl (fun _ => ?_))) | refine e_noU rfl rfl rfl ?_ | refine e_noN rfl rfl ?_ | refine s_seq ?_ | refine s_region ?_ | refine s_block ?_ | refine s_end ?_ | refine s_skip ?_ | refine s_exit ?_ | refine s_true rfl ?_ | refine s_false rfl ?_ | refine x_hit ?_ | refine x_code ?_ | refine x_back ?_ | refine x_miss rfl ?_)
    refine s_drawU [] Tryd.mixed (by decide +kernel) ?_
    repeat' (first | refine l_nil ?_ | ((first | refine l_no rfl rfl rfl ?_ rfl ?_ | refine l_noN rfl rfl ?_ rfl ?_ | refine l_n (peval_sound rfl) rfl ?_ rfl ?_ | refine l_n (nl rfl rfl tc rfl) rfl ?_ rfl ?_ | refine l_ny rfl (peval_sound rfl) rfl ?_ rfl ?_ | refine l_ny rfl (nl rfl rfl tc rfl) rfl ?_ rfl ?_); · (first | exact Ent.refl _ | assumption | repeat' (first | exact Ent.refl _ | exact Ent.nil _ | refine Ent.tak .z ?_ | refine Ent.wk ?_))))
    refine l_n (n_index rfl rfl rfl rfl i rfl hlt) rfl (Ent.refl _) rfl ?_
    repeat' (first | refine l_nil ?_ | ((first | refine l_no rfl rfl rfl ?_ rfl ?_ | refine l_noN rfl rfl ?_ rfl ?_ | refine l_n (peval_sound rfl) rfl ?_ rfl ?_ | refine l_n (nl rfl rfl tc rfl) rfl ?_ rfl ?_ | refine l_ny rfl (peval_sound rfl) rfl ?_ rfl ?_ | refine l_ny rfl (nl rfl rfl tc rfl) rfl ?_ rfl ?_); · (first | exact Ent.refl _ | assumption | repeat' (first | exact Ent.refl _ | exact Ent.nil _ | refine Ent.tak .z ?_ | refine Ent.wk ?_))))
    refine l_n (n_load_ro rfl rfl hb (loads_one rfl (hc 0 _ rfl))) rfl (Ent.refl _) rfl ?_
    repeat' (first | refine l_nil ?_ | ((first | refine l_no rfl rfl rfl ?_ rfl ?_ | refine l_noN rfl rfl ?_ rfl ?_ | refine l_n (peval_sound rfl) rfl ?_ rfl ?_ | refine l_n (nl rfl rfl tc rfl) rfl ?_ rfl ?_ | refine l_ny rfl (peval_sound rfl) rfl ?_ rfl ?_ | refine l_ny rfl (nl rfl rfl tc rfl) rfl ?_ rfl ?_); · (first | exact Ent.refl _ | assumption | repeat' (first | exact Ent.refl _ | exact Ent.nil _ | refine Ent.tak .z ?_ | refine Ent.wk ?_))))
    rw [decide_eq_false (p := l[i].Prod < 0) (by omega)]
    repeat' (first | refine l_nil ?_ | ((first | refine l_no rfl rfl rfl ?_ rfl ?_ | refine l_noN rfl rfl ?_ rfl ?_ | refine l_n (peval_sound rfl) rfl ?_ rfl ?_ | refine l_n (nl rfl rfl tc rfl) rfl ?_ rfl ?_ | refine l_ny rfl (peval_sound rfl) rfl ?_ rfl ?_ | refine l_ny rfl (nl rfl rfl tc rfl) rfl ?_ rfl ?_); · (first | exact Ent.refl _ | assumption | repeat' (first | exact Ent.refl _ | exact Ent.nil _ | refine Ent.tak .z ?_ | refine Ent.wk ?_))))
    refine l_ny rfl (n_index rfl rfl rfl rfl i rfl hlt) rfl (Ent.refl _) rfl ?_
    repeat' (first | refine l_nil ?_ | ((first | refine l_no rfl rfl rfl ?_ rfl ?_ | refine l_noN rfl rfl ?_ rfl ?_ | refine l_n (peval_sound rfl) rfl ?_ rfl ?_ | refine l_n (nl rfl rfl tc rfl) rfl ?_ rfl ?_ | refine l_ny rfl (peval_sound rfl) rfl ?_ rfl ?_ | refine l_ny rfl (nl rfl rfl tc rfl) rfl ?_ rfl ?_); · (first | exact Ent.refl _ | assumption | repeat' (first | exact Ent.refl _ | exact Ent.nil _ | refine Ent.tak .z ?_ | refine Ent.wk ?_))))
    refine l_ny rfl (n_load_ro rfl rfl hb (loads_one rfl (hc 0 _ rfl))) rfl (Ent.refl _) rfl ?_
    repeat' (first | refine l_nil ?_ | ((first | refine l_no rfl rfl rfl ?_ rfl ?_ | refine l_noN rfl rfl ?_ rfl ?_ | refine l_n (peval_sound rfl) rfl ?_ rfl ?_ | refine l_n (nl rfl rfl tc rfl) rfl ?_ rfl ?_ | refine l_ny rfl (peval_sound rfl) rfl ?_ rfl ?_ | refine l_ny rfl (nl rfl rfl tc rfl) rfl ?_ rfl ?_); · (first | exact Ent.refl _ | assumption | repeat' (first | exact Ent.refl _ | exact Ent.nil _ | refine Ent.tak .z ?_ | refine Ent.wk ?_))))
    rw [decide_eq_false (p := l[i].Prod ≥ (g.Prods.length : Int)) (by omega)]
    repeat' (first | refine l_nil ?_ | ((first | refine l_no rfl rfl rfl ?_ rfl ?_ | refine l_noN rfl rfl ?_ rfl ?_ | refine l_n (peval_sound rfl) rfl ?_ rfl ?_ | refine l_n (nl rfl rfl tc rfl) rfl ?_ rfl ?_ | refine l_ny rfl (peval_sound rfl) rfl ?_ rfl ?_ | refine l_ny rfl (nl rfl rfl tc rfl) rfl ?_ rfl ?_); · (first | exact Ent.refl _ | assumption | repeat' (first | exact Ent.refl _ | exact Ent.nil _ | refine Ent.tak .z ?_ | refine Ent.wk ?_))))
    refine l_ny rfl (n_index rfl rfl rfl rfl i rfl hlt) rfl (Ent.refl _) rfl ?_
    repeat' (first | refine l_nil ?_ | ((first | refine l_no rfl rfl rfl ?_ rfl ?_ | refine l_noN rfl rfl ?_ rfl ?_ | refine l_n (peval_sound rfl) rfl ?_ rfl ?_ | refine l_n (nl rfl rfl tc rfl) rfl ?_ rfl ?_ | refine l_ny rfl (peval_sound rfl) rfl ?_ rfl ?_ | refine l_ny rfl (nl rfl rfl tc rfl) rfl ?_ rfl ?_); · (first | exact Ent.refl _ | assumption | repeat' (first | exact Ent.refl _ | exact Ent.nil _ | refine Ent.tak .z ?_ | refine Ent.wk ?_))))
    refine l_ny rfl (n_load_ro rfl rfl hb (loads_one rfl (hc 1 _ rfl))) rfl (Ent.refl _) rfl ?_
    repeat' (first | refine l_nil ?_ | ((first | refine l_no rfl rfl rfl ?_ rfl ?_ | refine l_noN rfl rfl ?_ rfl ?_ | refine l_n (peval_sound rfl) rfl ?_ rfl ?_ | refine l_n (nl rfl rfl tc rfl) rfl ?_ rfl ?_ | refine l_ny rfl (peval_sound rfl) rfl ?_ rfl ?_ | refine l_ny rfl (nl rfl rfl tc rfl) rfl ?_ rfl ?_); · (first | exact Ent.refl _ | assumption | repeat' (first | exact Ent.refl _ | exact Ent.nil _ | refine Ent.tak .z ?_ | refine Ent.wk ?_))))
    rw [decide_eq_false (p := l[i].Dot < 0) (by omega)]
    repeat' (first | refine l_nil ?_ | ((first | refine l_no rfl rfl rfl ?_ rfl ?_ | refine l_noN rfl rfl ?_ rfl ?_ | refine l_n (peval_sound rfl) rfl ?_ rfl ?_ | refine l_n (nl rfl rfl tc rfl) rfl ?_ rfl ?_ | refine l_ny rfl (peval_sound rfl) rfl ?_ rfl ?_ | refine l_ny rfl (nl rfl rfl tc rfl) rfl ?_ rfl ?_); · (first | exact Ent.refl _ | assumption | repeat' (first | exact Ent.refl _ | exact Ent.nil _ | refine Ent.tak .z ?_ | refine Ent.wk ?_))))
    refine l_ny rfl (n_index rfl rfl rfl rfl i rfl hlt) rfl (Ent.refl _) rfl ?_
    repeat' (first | refine l_nil ?_ | ((first | refine l_no rfl rfl rfl ?_ rfl ?_ | refine l_noN rfl rfl ?_ rfl ?_ | refine l_n (peval_sound rfl) rfl ?_ rfl ?_ | refine l_n (nl rfl rfl tc rfl) rfl ?_ rfl ?_ | refine l_ny rfl (peval_sound rfl) rfl ?_ rfl ?_ | refine l_ny rfl (nl rfl rfl tc rfl) rfl ?_ rfl ?_); · (first | exact Ent.refl _ | assumption | repeat' (first | exact Ent.refl _ | exact Ent.nil _ | refine Ent.tak .z ?_ | refine Ent.wk ?_))))
    refine l_ny rfl (n_load_ro rfl rfl hb (loads_one rfl (hc 1 _ rfl))) rfl (Ent.refl _) rfl ?_
    repeat' (first | refine l_nil ?_ | ((first | refine l_no rfl rfl rfl ?_ rfl ?_ | refine l_noN rfl rfl ?_ rfl ?_ | refine l_n (peval_sound rfl) rfl ?_ rfl ?_ | refine l_n (nl rfl rfl tc rfl) rfl ?_ rfl ?_ | refine l_ny rfl (peval_sound rfl) rfl ?_ rfl ?_ | refine l_ny rfl (nl rfl rfl tc rfl) rfl ?_ rfl ?_); · (first | exact Ent.refl _ | assumption | repeat' (first | exact Ent.refl _ | exact Ent.nil _ | refine Ent.tak .z ?_ | refine Ent.wk ?_))))
    refine l_ny rfl (n_index rfl rfl rfl rfl i rfl hlt) rfl (Ent.refl _) rfl ?_
    repeat' (first | refine l_nil ?_ | ((first | refine l_no rfl rfl rfl ?_ rfl ?_ | refine l_noN rfl rfl ?_ rfl ?_ | refine l_n (peval_sound rfl) rfl ?_ rfl ?_ | refine l_n (nl rfl rfl tc rfl) rfl ?_ rfl ?_ | refine l_ny rfl (peval_sound rfl) rfl ?_ rfl ?_ | refine l_ny rfl (nl rfl rfl tc rfl) rfl ?_ rfl ?_); · (first | exact Ent.refl _ | assumption | repeat' (first | exact Ent.refl _ | exact Ent.nil _ | refine Ent.tak .z ?_ | refine Ent.wk ?_))))
    refine l_ny rfl (n_load_ro rfl rfl hb (loads_one rfl (hc 0 _ rfl))) rfl (Ent.refl _) rfl ?_
    repeat' (first | refine l_nil ?_ | ((first | refine l_no rfl rfl rfl ?_ rfl ?_ | refine l_noN rfl rfl ?_ rfl ?_ | refine l_n (peval_sound rfl) rfl ?_ rfl ?_ | refine l_n (nl rfl rfl tc rfl) rfl ?_ rfl ?_ | refine l_ny rfl (peval_sound rfl) rfl ?_ rfl ?_ | refine l_ny rfl (nl rfl rfl tc rfl) rfl ?_ rfl ?_); · (first | exact Ent.refl _ | assumption | repeat' (first | exact Ent.refl _ | exact Ent.nil _ | refine Ent.tak .z ?_ | refine Ent.wk ?_))))
    refine l_ny rfl (n_index rfl rfl rfl rfl p hp hpl) rfl (Ent.refl _) rfl ?_
    repeat' (first | refine l_nil ?_ | ((first | refine l_no rfl rfl rfl ?_ rfl ?_ | refine l_noN rfl rfl ?_ rfl ?_ | refine l_n (peval_sound rfl) rfl ?_ rfl ?_ | refine l_n (nl rfl rfl tc rfl) rfl ?_ rfl ?_ | refine l_ny rfl (peval_sound rfl) rfl ?_ rfl ?_ | refine l_ny rfl (nl rfl rfl tc rfl) rfl ?_ rfl ?_); · (first | exact Ent.refl _ | assumption | repeat' (first | exact Ent.refl _ | exact Ent.nil _ | refine Ent.tak .z ?_ | refine Ent.wk ?_))))
    refine l_ny rfl (n_load_ro rfl rfl hb9 (loads_one rfl (hc9 1 _ rfl))) rfl (Ent.refl _) rfl ?_
    repeat' (first | refine l_nil ?_ | ((first | refine l_no rfl rfl rfl ?_ rfl ?_ | refine l_noN rfl rfl ?_ rfl ?_ | refine l_n (peval_sound rfl) rfl ?_ rfl ?_ | refine l_n (nl rfl rfl tc rfl) rfl ?_ rfl ?_ | refine l_ny rfl (peval_sound rfl) rfl ?_ rfl ?_ | refine l_ny rfl (nl rfl rfl tc rfl) rfl ?_ rfl ?_); · (first | exact Ent.refl _ | assumption | repeat' (first | exact Ent.refl _ | exact Ent.nil _ | refine Ent.tak .z ?_ | refine Ent.wk ?_))))
    rw [decide_eq_false (p := l[i].Dot > (g.Prods[p].Right.length : Int)) (by omega)]
    repeat' (first | refine e_nil ?_ | ((first | refine e_op ?_ | refine e_yes rfl ?_); (first | refine o_n (peval_sound rfl) rfl ?_ | refine o_n (nl rfl rfl tc rfl) rfl ?_ | refine o_storeC rfl rfl rfl rfl tc uc rfl rfl rfl ?_ | refine o_box rfl rfl (fun _ => ?_) | refine o_box1 rfl rfl rfl (fun _ => ?_) | refine o_alloc rfl rfl (fun _ => ?_))) | refine e_noU rfl rfl rfl ?_ | refine e_noN rfl rfl ?_ | refine s_seq ?_ | refine s_region ?_ | refine s_block ?_ | refine s_end ?_ | refine s_skip ?_ | refine s_exit ?_ | refine s_true rfl ?_ | refine s_false rfl ?_ | refine x_hit ?_ | refine x_code ?_ | refine x_back ?_ | refine x_miss rfl ?_)
    rcases Nat.eq_zero_or_pos i with h0 | h0
    · have hd : decide ((i : Int) > 0) = false := decide_eq_false (by omega)
      refine s_drawU [] Tryd.mixed (by decide +kernel) ?_
      repeat' (first | refine l_nil ?_ | ((first | refine l_no rfl rfl rfl ?_ rfl ?_ | refine l_noN rfl rfl ?_ rfl ?_ | refine l_n (peval_sound rfl) rfl ?_ rfl ?_ | refine l_n (nl rfl rfl tc rfl) rfl ?_ rfl ?_ | refine l_ny rfl (peval_sound rfl) rfl ?_ rfl ?_ | refine l_ny rfl (nl rfl rfl tc rfl) rfl ?_ rfl ?_); · (first | exact Ent.refl _ | assumption | repeat' (first | exact Ent.refl _ | exact Ent.nil _ | refine Ent.tak .z ?_ | refine Ent.wk ?_))))
      rw [hd]
      repeat' (first | refine l_nil ?_ | ((first | refine l_no rfl rfl rfl ?_ rfl ?_ | refine l_noN rfl rfl ?_ rfl ?_ | refine l_n (peval_sound rfl) rfl ?_ rfl ?_ | refine l_n (nl rfl rfl tc rfl) rfl ?_ rfl ?_ | refine l_ny rfl (peval_sound rfl) rfl ?_ rfl ?_ | refine l_ny rfl (nl rfl rfl tc rfl) rfl ?_ rfl ?_); · (first | exact Ent.refl _ | assumption | repeat' (first | exact Ent.refl _ | exact Ent.nil _ | refine Ent.tak .z ?_ | refine Ent.wk ?_))))
      repeat' (first | refine e_nil ?_ | ((first | refine e_op ?_ | refine e_yes rfl ?_); (first | refine o_n (peval_sound rfl) rfl ?_ | refine o_n (nl rfl rfl tc rfl) rfl ?_ | refine o_storeC rfl rfl rfl rfl tc uc rfl rfl rfl ?_ | refine o_box rfl rfl (fun _ => ?_) | refine o_box1 rfl rfl rfl (fun _ => ?_) | refine o_alloc rfl rfl (fun _ => ?_))) | refine e_noU rfl rfl rfl ?_ | refine e_noN rfl rfl ?_ | refine s_seq ?_ | refine s_region ?_ | refine s_block ?_ | refine s_end ?_ | refine s_skip ?_ | refine s_exit ?_ | refine s_true rfl ?_ | refine s_false rfl ?_ | refine x_hit ?_ | refine x_code ?_ | refine x_back ?_ | refine x_miss rfl ?_)
      refine s_back ⟨⟨i + 1, by omega⟩, by simp only; omega, ?_, Ent.refl _⟩
      repeat' (first | exact Sub.nil _ | refine Sub.cons rfl ?_ | refine Sub.consE rfl ?_ ?_)
      exact inc (i := i) (by omega)
    · have hd : decide ((i : Int) > 0) = true := decide_eq_true (by omega)
      have hw1 : IntKind.i64.wrap ((i : Int) - 1) = ((i - 1 : Nat) : Int) := by rw [wrap_i64] <;> omega
      have hl2 : i - 1 < l.length := by omega
      obtain ⟨b3, o3, es3, e3, hb3, hx3, hc3⟩ := h1.2.2 (i - 1) hl2
      cases e3
      obtain ⟨rfl, hx4, hx5⟩ := kItm_open hx3
      have hlt2 : ltI l[i - 1] l[i] = true := List.pairwise_iff_getElem.1 hs (i - 1) i hl2 hlt (by omega)
      rw [ltI_iff] at hlt2
      refine s_drawU [] Tryd.mixed (by decide +kernel) ?_
      repeat' (first | refine l_nil ?_ | ((first | refine l_no rfl rfl rfl ?_ rfl ?_ | refine l_noN rfl rfl ?_ rfl ?_ | refine l_n (peval_sound rfl) rfl ?_ rfl ?_ | refine l_n (nl rfl rfl tc rfl) rfl ?_ rfl ?_ | refine l_ny rfl (peval_sound rfl) rfl ?_ rfl ?_ | refine l_ny rfl (nl rfl rfl tc rfl) rfl ?_ rfl ?_); · (first | exact Ent.refl _ | assumption | repeat' (first | exact Ent.refl _ | exact Ent.nil _ | refine Ent.tak .z ?_ | refine Ent.wk ?_))))
      rw [hd]
      repeat' (first | refine l_nil ?_ | ((first | refine l_no rfl rfl rfl ?_ rfl ?_ | refine l_noN rfl rfl ?_ rfl ?_ | refine l_n (peval_sound rfl) rfl ?_ rfl ?_ | refine l_n (nl rfl rfl tc rfl) rfl ?_ rfl ?_ | refine l_ny rfl (peval_sound rfl) rfl ?_ rfl ?_ | refine l_ny rfl (nl rfl rfl tc rfl) rfl ?_ rfl ?_); · (first | exact Ent.refl _ | assumption | repeat' (first | exact Ent.refl _ | exact Ent.nil _ | refine Ent.tak .z ?_ | refine Ent.wk ?_))))
      refine l_ny rfl (n_index rfl rfl rfl rfl i rfl hlt) rfl (Ent.refl _) rfl ?_
      repeat' (first | refine l_nil ?_ | ((first | refine l_no rfl rfl rfl ?_ rfl ?_ | refine l_noN rfl rfl ?_ rfl ?_ | refine l_n (peval_sound rfl) rfl ?_ rfl ?_ | refine l_n (nl rfl rfl tc rfl) rfl ?_ rfl ?_ | refine l_ny rfl (peval_sound rfl) rfl ?_ rfl ?_ | refine l_ny rfl (nl rfl rfl tc rfl) rfl ?_ rfl ?_); · (first | exact Ent.refl _ | assumption | repeat' (first | exact Ent.refl _ | exact Ent.nil _ | refine Ent.tak .z ?_ | refine Ent.wk ?_))))
      refine l_ny rfl (n_load_ro rfl rfl hb (loads_one rfl (hc 0 _ rfl))) rfl (Ent.refl _) rfl ?_
      repeat' (first | refine l_nil ?_ | ((first | refine l_no rfl rfl rfl ?_ rfl ?_ | refine l_noN rfl rfl ?_ rfl ?_ | refine l_n (peval_sound rfl) rfl ?_ rfl ?_ | refine l_n (nl rfl rfl tc rfl) rfl ?_ rfl ?_ | refine l_ny rfl (peval_sound rfl) rfl ?_ rfl ?_ | refine l_ny rfl (nl rfl rfl tc rfl) rfl ?_ rfl ?_); · (first | exact Ent.refl _ | assumption | repeat' (first | exact Ent.refl _ | exact Ent.nil _ | refine Ent.tak .z ?_ | refine Ent.wk ?_))))
      refine l_ny rfl (n_index rfl rfl rfl rfl (i - 1) hw1 hl2) rfl (Ent.refl _) rfl ?_
      repeat' (first | refine l_nil ?_ | ((first | refine l_no rfl rfl rfl ?_ rfl ?_ | refine l_noN rfl rfl ?_ rfl ?_ | refine l_n (peval_sound rfl) rfl ?_ rfl ?_ | refine l_n (nl rfl rfl tc rfl) rfl ?_ rfl ?_ | refine l_ny rfl (peval_sound rfl) rfl ?_ rfl ?_ | refine l_ny rfl (nl rfl rfl tc rfl) rfl ?_ rfl ?_); · (first | exact Ent.refl _ | assumption | repeat' (first | exact Ent.refl _ | exact Ent.nil _ | refine Ent.tak .z ?_ | refine Ent.wk ?_))))
      refine l_ny rfl (n_load_ro rfl rfl hb3 (loads_one rfl (hc3 0 _ rfl))) rfl (Ent.refl _) rfl ?_
      repeat' (first | refine l_nil ?_ | ((first | refine l_no rfl rfl rfl ?_ rfl ?_ | refine l_noN rfl rfl ?_ rfl ?_ | refine l_n (peval_sound rfl) rfl ?_ rfl ?_ | refine l_n (nl rfl rfl tc rfl) rfl ?_ rfl ?_ | refine l_ny rfl (peval_sound rfl) rfl ?_ rfl ?_ | refine l_ny rfl (nl rfl rfl tc rfl) rfl ?_ rfl ?_); · (first | exact Ent.refl _ | assumption | repeat' (first | exact Ent.refl _ | exact Ent.nil _ | refine Ent.tak .z ?_ | refine Ent.wk ?_))))
      rw [decide_eq_false (p := l[i].Prod < l[i - 1].Prod) (by omega)]
      repeat' (first | refine l_nil ?_ | ((first | refine l_no rfl rfl rfl ?_ rfl ?_ | refine l_noN rfl rfl ?_ rfl ?_ | refine l_n (peval_sound rfl) rfl ?_ rfl ?_ | refine l_n (nl rfl rfl tc rfl) rfl ?_ rfl ?_ | refine l_ny rfl (peval_sound rfl) rfl ?_ rfl ?_ | refine l_ny rfl (nl rfl rfl tc rfl) rfl ?_ rfl ?_); · (first | exact Ent.refl _ | assumption | repeat' (first | exact Ent.refl _ | exact Ent.nil _ | refine Ent.tak .z ?_ | refine Ent.wk ?_))))
      refine l_ny rfl (n_index rfl rfl rfl rfl i rfl hlt) rfl (Ent.refl _) rfl ?_
      repeat' (first | refine l_nil ?_ | ((first | refine l_no rfl rfl rfl ?_ rfl ?_ | refine l_noN rfl rfl ?_ rfl ?_ | refine l_n (peval_sound rfl) rfl ?_ rfl ?_ | refine l_n (nl rfl rfl tc rfl) rfl ?_ rfl ?_ | refine l_ny rfl (peval_sound rfl) rfl ?_ rfl ?_ | refine l_ny rfl (nl rfl rfl tc rfl) rfl ?_ rfl ?_); · (first | exact Ent.refl _ | assumption | repeat' (first | exact Ent.refl _ | exact Ent.nil _ | refine Ent.tak .z ?_ | refine Ent.wk ?_))))
      refine l_ny rfl (n_load_ro rfl rfl hb (loads_one rfl (hc 0 _ rfl))) rfl (Ent.refl _) rfl ?_
      repeat' (first | refine l_nil ?_ | ((first | refine l_no rfl rfl rfl ?_ rfl ?_ | refine l_noN rfl rfl ?_ rfl ?_ | refine l_n (peval_sound rfl) rfl ?_ rfl ?_ | refine l_n (nl rfl rfl tc rfl) rfl ?_ rfl ?_ | refine l_ny rfl (peval_sound rfl) rfl ?_ rfl ?_ | refine l_ny rfl (nl rfl rfl tc rfl) rfl ?_ rfl ?_); · (first | exact Ent.refl _ | assumption | repeat' (first | exact Ent.refl _ | exact Ent.nil _ | refine Ent.tak .z ?_ | refine Ent.wk ?_))))
      refine l_ny rfl (n_index rfl rfl rfl rfl (i - 1) hw1 hl2) rfl (Ent.refl _) rfl ?_
      repeat' (first | refine l_nil ?_ | ((first | refine l_no rfl rfl rfl ?_ rfl ?_ | refine l_noN rfl rfl ?_ rfl ?_ | refine l_n (peval_sound rfl) rfl ?_ rfl ?_ | refine l_n (nl rfl rfl tc rfl) rfl ?_ rfl ?_ | refine l_ny rfl (peval_sound rfl) rfl ?_ rfl ?_ | refine l_ny rfl (nl rfl rfl tc rfl) rfl ?_ rfl ?_); · (first | exact Ent.refl _ | assumption | repeat' (first | exact Ent.refl _ | exact Ent.nil _ | refine Ent.tak .z ?_ | refine Ent.wk ?_))))
      refine l_ny rfl (n_load_ro rfl rfl hb3 (loads_one rfl (hc3 0 _ rfl))) rfl (Ent.refl _) rfl ?_
      repeat' (first | refine l_nil ?_ | ((first | refine l_no rfl rfl rfl ?_ rfl ?_ | refine l_noN rfl rfl ?_ rfl ?_ | refine l_n (peval_sound rfl) rfl ?_ rfl ?_ | refine l_n (nl rfl rfl tc rfl) rfl ?_ rfl ?_ | refine l_ny rfl (peval_sound rfl) rfl ?_ rfl ?_ | refine l_ny rfl (nl rfl rfl tc rfl) rfl ?_ rfl ?_); · (first | exact Ent.refl _ | assumption | repeat' (first | exact Ent.refl _ | exact Ent.nil _ | refine Ent.tak .z ?_ | refine Ent.wk ?_))))
      by_cases he : l[i].Prod = l[i - 1].Prod
      · rw [show (l[i].Prod == l[i - 1].Prod) = true by simpa using he]
        repeat' (first | refine l_nil ?_ | ((first | refine l_no rfl rfl rfl ?_ rfl ?_ | refine l_noN rfl rfl ?_ rfl ?_ | refine l_n (peval_sound rfl) rfl ?_ rfl ?_ | refine l_n (nl rfl rfl tc rfl) rfl ?_ rfl ?_ | refine l_ny rfl (peval_sound rfl) rfl ?_ rfl ?_ | refine l_ny rfl (nl rfl rfl tc rfl) rfl ?_ rfl ?_); · (first | exact Ent.refl _ | assumption | repeat' (first | exact Ent.refl _ | exact Ent.nil _ | refine Ent.tak .z ?_ | refine Ent.wk ?_))))
        refine l_ny rfl (n_index rfl rfl rfl rfl i rfl hlt) rfl (Ent.refl _) rfl ?_
        repeat' (first | refine l_nil ?_ | ((first | refine l_no rfl rfl rfl ?_ rfl ?_ | refine l_noN rfl rfl ?_ rfl ?_ | refine l_n (peval_sound rfl) rfl ?_ rfl ?_ | refine l_n (nl rfl rfl tc rfl) rfl ?_ rfl ?_ | refine l_ny rfl (peval_sound rfl) rfl ?_ rfl ?_ | refine l_ny rfl (nl rfl rfl tc rfl) rfl ?_ rfl ?_); · (first | exact Ent.refl _ | assumption | repeat' (first | exact Ent.refl _ | exact Ent.nil _ | refine Ent.tak .z ?_ | refine Ent.wk ?_))))
        refine l_ny rfl (n_load_ro rfl rfl hb (loads_one rfl (hc 1 _ rfl))) rfl (Ent.refl _) rfl ?_
        repeat' (first | refine l_nil ?_ | ((first | refine l_no rfl rfl rfl ?_ rfl ?_ | refine l_noN rfl rfl ?_ rfl ?_ | refine l_n (peval_sound rfl) rfl ?_ rfl ?_ | refine l_n (nl rfl rfl tc rfl) rfl ?_ rfl ?_ | refine l_ny rfl (peval_sound rfl) rfl ?_ rfl ?_ | refine l_ny rfl (nl rfl rfl tc rfl) rfl ?_ rfl ?_); · (first | exact Ent.refl _ | assumption | repeat' (first | exact Ent.refl _ | exact Ent.nil _ | refine Ent.tak .z ?_ | refine Ent.wk ?_))))
        refine l_ny rfl (n_index rfl rfl rfl rfl (i - 1) hw1 hl2) rfl (Ent.refl _) rfl ?_
        repeat' (first | refine l_nil ?_ | ((first | refine l_no rfl rfl rfl ?_ rfl ?_ | refine l_noN rfl rfl ?_ rfl ?_ | refine l_n (peval_sound rfl) rfl ?_ rfl ?_ | refine l_n (nl rfl rfl tc rfl) rfl ?_ rfl ?_ | refine l_ny rfl (peval_sound rfl) rfl ?_ rfl ?_ | refine l_ny rfl (nl rfl rfl tc rfl) rfl ?_ rfl ?_); · (first | exact Ent.refl _ | assumption | repeat' (first | exact Ent.refl _ | exact Ent.nil _ | refine Ent.tak .z ?_ | refine Ent.wk ?_))))
        refine l_ny rfl (n_load_ro rfl rfl hb3 (loads_one rfl (hc3 1 _ rfl))) rfl (Ent.refl _) rfl ?_
        repeat' (first | refine l_nil ?_ | ((first | refine l_no rfl rfl rfl ?_ rfl ?_ | refine l_noN rfl rfl ?_ rfl ?_ | refine l_n (peval_sound rfl) rfl ?_ rfl ?_ | refine l_n (nl rfl rfl tc rfl) rfl ?_ rfl ?_ | refine l_ny rfl (peval_sound rfl) rfl ?_ rfl ?_ | refine l_ny rfl (nl rfl rfl tc rfl) rfl ?_ rfl ?_); · (first | exact Ent.refl _ | assumption | repeat' (first | exact Ent.refl _ | exact Ent.nil _ | refine Ent.tak .z ?_ | refine Ent.wk ?_))))
        rw [decide_eq_false (p := l[i].Dot ≤ l[i - 1].Dot) (by omega)]
        repeat' (first | refine l_nil ?_ | ((first | refine l_no rfl rfl rfl ?_ rfl ?_ | refine l_noN rfl rfl ?_ rfl ?_ | refine l_n (peval_sound rfl) rfl ?_ rfl ?_ | refine l_n (nl rfl rfl tc rfl) rfl ?_ rfl ?_ | refine l_ny rfl (peval_sound rfl) rfl ?_ rfl ?_ | refine l_ny rfl (nl rfl rfl tc rfl) rfl ?_ rfl ?_); · (first | exact Ent.refl _ | assumption | repeat' (first | exact Ent.refl _ | exact Ent.nil _ | refine Ent.tak .z ?_ | refine Ent.wk ?_))))
        repeat' (first | refine e_nil ?_ | ((first | refine e_op ?_ | refine e_yes rfl ?_); (first | refine o_n (peval_sound rfl) rfl ?_ | refine o_n (nl rfl rfl tc rfl) rfl ?_ | refine o_storeC rfl rfl rfl rfl tc uc rfl rfl rfl ?_ | refine o_box rfl rfl (fun _ => ?_) | refine o_box1 rfl rfl rfl (fun _ => ?_) | refine o_alloc rfl rfl (fun _ => ?_))) | refine e_noU rfl rfl rfl ?_ | refine e_noN rfl rfl ?_ | refine s_seq ?_ | refine s_region ?_ | refine s_block ?_ | refine s_end ?_ | refine s_skip ?_ | refine s_exit ?_ | refine s_true rfl ?_ | refine s_false rfl ?_ | refine x_hit ?_ | refine x_code ?_ | refine x_back ?_ | refine x_miss rfl ?_)
        refine s_back ⟨⟨i + 1, by omega⟩, by simp only; omega, ?_, Ent.refl _⟩
        repeat' (first | exact Sub.nil _ | refine Sub.cons rfl ?_ | refine Sub.consE rfl ?_ ?_)
        exact inc (i := i) (by omega)
      · rw [show (l[i].Prod == l[i - 1].Prod) = false by simpa using he]
        repeat' (first | refine l_nil ?_ | ((first | refine l_no rfl rfl rfl ?_ rfl ?_ | refine l_noN rfl rfl ?_ rfl ?_ | refine l_n (peval_sound rfl) rfl ?_ rfl ?_ | refine l_n (nl rfl rfl tc rfl) rfl ?_ rfl ?_ | refine l_ny rfl (peval_sound rfl) rfl ?_ rfl ?_ | refine l_ny rfl (nl rfl rfl tc rfl) rfl ?_ rfl ?_); · (first | exact Ent.refl _ | assumption | repeat' (first | exact Ent.refl _ | exact Ent.nil _ | refine Ent.tak .z ?_ | refine Ent.wk ?_))))
        repeat' (first | refine e_nil ?_ | ((first | refine e_op ?_ | refine e_yes rfl ?_); (first | refine o_n (peval_sound rfl) rfl ?_ | refine o_n (nl rfl rfl tc rfl) rfl ?_ | refine o_storeC rfl rfl rfl rfl tc uc rfl rfl rfl ?_ | refine o_box rfl rfl (fun _ => ?_) | refine o_box1 rfl rfl rfl (fun _ => ?_) | refine o_alloc rfl rfl (fun _ => ?_))) | refine e_noU rfl rfl rfl ?_ | refine e_noN rfl rfl ?_ | refine s_seq ?_ | refine s_region ?_ | refine s_block ?_ | refine s_end ?_ | refine s_skip ?_ | refine s_exit ?_ | refine s_true rfl ?_ | refine s_false rfl ?_ | refine x_hit ?_ | refine x_code ?_ | refine x_back ?_ | refine x_miss rfl ?_)
        refine s_back ⟨⟨i + 1, by omega⟩, by simp only; omega, ?_, Ent.refl _⟩
        repeat' (first | exact Sub.nil _ | refine Sub.cons rfl ?_ | refine Sub.consE rfl ?_ ?_)
        exact inc (i := i) (by omega)
  · repeat' (first | refine e_nil ?_ | ((first | refine e_op ?_ | refine e_yes rfl ?_); (first | refine o_n (peval_sound rfl) rfl ?_ | refine o_n (nl rfl rfl tc rfl) rfl ?_ | refine o_storeC rfl rfl rfl rfl tc uc rfl rfl rfl ?_ | refine o_box rfl rfl (fun _ => ?_) | refine o_box1 rfl rfl rfl (fun _ => ?_) | refine o_alloc rfl rfl (fun _ => ?_))) | refine e_noU rfl rfl rfl ?_ | refine e_noN rfl rfl ?_ | refine s_seq ?_ | refine s_region ?_ | refine s_block ?_ | refine s_end ?_ | refine s_skip ?_ | refine s_exit ?_ | refine s_true rfl ?_ | refine s_false rfl ?_ | refine x_hit ?_ | refine x_code ?_ | refine x_back ?_ | refine x_miss rfl ?_)
    refine s_ret ⟨_, _, res1 rfl rfl, ⟨rfl, rfl⟩, Ent.nil _⟩

end Go.Proofs.YtcbaebkkdkdaaaaDoor
