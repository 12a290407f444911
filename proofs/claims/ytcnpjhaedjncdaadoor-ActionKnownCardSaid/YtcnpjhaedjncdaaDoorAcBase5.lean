/-
  Part 5 of what the law's walk stands on: lemmas and contracts, each proved here without a condition but those that it names.
-/
import Derived.Test.YtcnpjhaedjncdaaDoorAcBase4
import Derived.Laws.StructEq
import Derived.ChangeKeysEq
import Derived.Test.YtcnpjhaedjncdaaDoorRows

namespace Go.Proofs.YtcnpjhaedjncdaaDoor
set_option linter.all false
open Go.Proofs.YtcnpjhaedjncdaaDoor.E

def encPt (x : Pt) : List Value := [.int .i64 x.Term, .string x.Pattern]
theorem lev_is (w : World) (S : BSet) (cs : List Value) (x : Lev) (h : kLev.R w S cs x) : cs = encZ x := (kLev_open h).1
theorem pt_is (w : World) (S : BSet) (cs : List Value) (x : Pt) (h : kPt.R w S cs x) : cs = encPt x := by
  obtain ⟨c1, c2, rfl, ⟨rfl, h1⟩, rfl⟩ := h
  rfl

def prL (acs : List (Option Addr × Nat)) (ps : List Prd) : List Asn := List.zipWith (fun ac p => osl 3 1 (.slice ac.1 p.Right.length ac.2) p.Right.length (p.Right.flatMap fun x => [.int .i64 x])) acs ps

theorem prC_snocR {acs : List (Option Addr × Nat)} {ps : List Prd} (h : acs.length = ps.length) (ac : Option Addr × Nat) (p : Prd) : prC (acs ++ [ac]) (ps ++ [p]) = prC acs ps ++ prRow ac p := by
  unfold prC; rw [List.zipWith_append h, List.flatten_append]; simp
theorem prL_snoc {acs : List (Option Addr × Nat)} {ps : List Prd} (h : acs.length = ps.length) (ac : Option Addr × Nat) (p : Prd) :
    prL (acs ++ [ac]) (ps ++ [p]) = prL acs ps ++ [osl 3 1 (.slice ac.1 p.Right.length ac.2) p.Right.length (p.Right.flatMap fun x => [.int .i64 x])] := by
  unfold prL; rw [List.zipWith_append h]; rfl

/-- The four lists of a grammar that hold no lists, one's own. -/
def ownF (g : Gram) (a0 a1 a2 a3 : Option Addr) (d0 d1 d2 d3 : Nat) : List Asn :=
  [osl 9 1 (.slice a0 g.Terms.length d0) g.Terms.length (g.Terms.flatMap fun x => [.string x]), osl 59 2 (.slice a1 g.Levels.length d1) g.Levels.length (g.Levels.flatMap encZ),
    osl 196 2 (.slice a2 g.Pats.length d2) g.Pats.length (g.Pats.flatMap encPt), osl 9 1 (.slice a3 g.Nons.length d3) g.Nons.length (g.Nons.flatMap fun x => [.string x])]

attribute [local irreducible] EVX EVO EVL EV1 NEV
attribute [local irreducible] own osl exA rdA rdL
set_option maxRecDepth 10000
set_option maxHeartbeats 1000000

theorem copyO_w (cs : List Value) (g : Gram) : Trip Tryd.prog 16 [.agg cs.toArray] (kGram.rd cs g) []
    (fun v V => ∃ (a0 a1 a2 a3 a4 : Option Addr) (d0 d1 d2 d3 d4 : Nat) (acs : List (Option Addr × Nat)), acs.length = g.Prods.length ∧
      v = .agg #[.slice a0 g.Terms.length d0, .slice a1 g.Levels.length d1, .slice a2 g.Pats.length d2, .slice a3 g.Nons.length d3, .slice a4 g.Prods.length d4] ∧
      V = osl 61 4 (.slice a4 g.Prods.length d4) g.Prods.length (prC acs g.Prods) :: (ownF g a0 a1 a2 a3 d0 d1 d2 d3 ++ prL acs g.Prods)) := by
  refine trip Tryd.tabOk Tryd.func16 rfl rfl rfl rfl ?_
  intro w SM hR
  obtain ⟨A0, A1, A2, A3, A4, c0, c1, c2, c3, c4, rfl, hG⟩ := kGram_open hR
  have hT := hG.terms.2.1
  have hL := hG.levels.2.1
  have hPt := hG.pats.2.1
  have hN := hG.nons.2.1
  have hP := hG.prods.2.1
  have hT' := sl_mk hG.terms
  have hL' := sl_mk hG.levels
  have hPt' := sl_mk hG.pats
  have hN' := sl_mk hG.nons
  repeat' (first | refine e_nil ?_ | ((refine e_op ?_); (first | refine o_box rfl rfl (fun _ => ?_) | refine o_alloc rfl rfl (fun _ => ?_))) | refine s_seq ?_ | refine s_region ?_)
  rename_i b1 b2
  refine s_anyU Tryd.mixed ?_
  refine a_join (ι := Nat × (Option Addr × Nat) × (Option Addr × Nat) × (Option Addr × Nat) × (Option Addr × Nat))
    (fun x => [(1, .pointer (some ⟨b1, 0, none⟩)), (2, .pointer (some ⟨b2, 0, none⟩)), (3, .pointer (some ⟨x.1, 0, none⟩))])
    (fun x => blk x.1 27 [.slice x.2.1.1 g.Terms.length x.2.1.2, .slice x.2.2.1.1 g.Levels.length x.2.2.1.2, .slice x.2.2.2.1.1 g.Pats.length x.2.2.2.1.2, .slice x.2.2.2.2.1 g.Nons.length x.2.2.2.2.2, .slice none 0 0] ::
      blk b2 27 [.slice none 0 0, .slice none 0 0, .slice none 0 0, .slice none 0 0, .slice none 0 0] ::
      blk b1 27 [.slice A0 g.Terms.length c0, .slice A1 g.Levels.length c1, .slice A2 g.Pats.length c2, .slice A3 g.Nons.length c3, .slice A4 g.Prods.length c4] ::
      ownF g x.2.1.1 x.2.2.1.1 x.2.2.2.1.1 x.2.2.2.2.1 x.2.1.2 x.2.2.1.2 x.2.2.2.1.2 x.2.2.2.2.2) ?_ (fun hfin => ?_)
  · rintro ⟨b3, ⟨a0, d0⟩, ⟨a1, d1⟩, ⟨a2, d2⟩, a3, d3⟩
    simp only
    repeat' (first | refine e_nil ?_ | ((refine e_op ?_); (refine o_n (peval_sound rfl) rfl ?_)) | refine s_seq ?_ | refine s_region ?_ | refine s_block ?_)
    refine s_loopK (ι := {x : Nat × Option Addr × Nat × List (Option Addr × Nat) // x.1 ≤ g.Prods.length ∧ x.2.2.2.length = x.1}) [1, 2, 3] rfl ⟨(0, none, 0, []), by simp⟩ (fun x => [(4, .int .i64 x.1.1)])
      (fun x => blk b3 27 [.slice a0 g.Terms.length d0, .slice a1 g.Levels.length d1, .slice a2 g.Pats.length d2, .slice a3 g.Nons.length d3, .slice x.1.2.1 x.1.1 x.1.2.2.1] ::
        blk b2 27 [.slice none 0 0, .slice none 0 0, .slice none 0 0, .slice none 0 0, .slice none 0 0] ::
        blk b1 27 [.slice A0 g.Terms.length c0, .slice A1 g.Levels.length c1, .slice A2 g.Pats.length c2, .slice A3 g.Nons.length c3, .slice A4 g.Prods.length c4] ::
        osl 61 4 (.slice x.1.2.1 x.1.1 x.1.2.2.1) x.1.1 (prC x.1.2.2.2 (g.Prods.take x.1.1)) ::
        (ownF g a0 a1 a2 a3 d0 d1 d2 d3 ++ prL x.1.2.2.2 (g.Prods.take x.1.1)))
      (fun x => g.Prods.length - x.1.1) ?_ ?_ ?_
    · repeat' (first | exact Sub.nil _ | refine Sub.cons rfl ?_)
    · refine Ent.tak .z (Ent.tak .z (Ent.tak .z (Ent.osl0 ?_)))
      exact Ent.refl _
    rintro ⟨⟨i, Ap, cp, acs⟩, hi, hacs⟩
    simp only at hi hacs ⊢
    repeat' (first | refine e_nil ?_ | ((refine e_op ?_); (first | refine o_n (peval_sound rfl) rfl ?_ | refine o_n (nl rfl rfl tc rfl) rfl ?_)) | refine s_seq ?_ | refine s_region ?_)
    refine s_cond rfl (fun h => ?_) (fun h => ?_)
    · have hlt : i < g.Prods.length := by have := of_decide_eq_true h; omega
      clear h
      obtain ⟨b, o, es, rfl, hb, he, hc⟩ := hG.prods.2.2 i hlt
      obtain ⟨Ar, cr, rfl, hl, hlN, hlK, hri⟩ := kPrd_open he
      have hrl := hri.2.1
      repeat' (first | ((refine e_op ?_); (first | refine o_n (peval_sound rfl) rfl ?_ | refine o_n (nl rfl rfl tc rfl) rfl ?_)) | refine s_seq ?_ | refine s_region ?_ | refine s_block ?_ | refine s_skip ?_)
      refine e_op (o_n (n_index rfl rfl rfl rfl i rfl hlt) rfl ?_)
      refine e_op (o_n (n_load_ro rfl rfl hb (loads_agg rfl rfl hc)) rfl ?_)
      repeat' (first | refine e_nil ?_ | ((refine e_op ?_); (first | refine o_n (peval_sound rfl) rfl ?_ | refine o_n (nl rfl rfl tc rfl) rfl ?_ | refine o_storeC rfl rfl rfl rfl tc uc rfl rfl rfl ?_ | refine o_alloc rfl rfl (fun _ => ?_))) | refine s_seq ?_ | refine s_region ?_)
      rename_i b5
      refine e_op (o_copyO (fun x => [.int .i64 x]) kint_is onec_int rfl rfl rfl rfl rfl (Can.ro (sl_mk hri)) rfl rfl hrl rfl rfl rfl (fun A' c' => ?_))
      repeat' (first | refine e_nil ?_ | ((refine e_op ?_); (first | refine o_n (peval_sound rfl) rfl ?_ | refine o_n (nl rfl rfl tc rfl) rfl ?_ | refine o_storeC rfl rfl rfl rfl tc uc rfl rfl rfl ?_)) | refine s_region ?_)
      refine e_op (o_lit (ps := [(0, .agg #[.int .i64 g.Prods[i].Left, .slice A' g.Prods[i].Right.length c', .int .i64 g.Prods[i].L.N, .int .i64 g.Prods[i].L.Kind])])
        (cs := [.int .i64 g.Prods[i].Left, .slice A' g.Prods[i].Right.length c', .int .i64 g.Prods[i].L.N, .int .i64 g.Prods[i].L.Kind]) rfl rfl rfl rfl rfl rfl rfl (fun b9 => ?_))
      refine e_op (o_append (v := .slice Ap i cp) (n := i) (m := 1) (news := [.int .i64 g.Prods[i].Left, .slice A' g.Prods[i].Right.length c', .int .i64 g.Prods[i].L.N, .int .i64 g.Prods[i].L.Kind]) _ rfl rfl rfl rfl (fun w hm j u hu => ?_) rfl ?_ rfl (by omega)
        (by simp only; omega) (by omega) rfl (fun b c => .s (.s (.s (.s (.s (.s .z)))))) (fun ba ca => ?_))
      · obtain ⟨S1, hP, _⟩ := hm.tak Tak.z
        rw [Nat.zero_add]
        exact osl_cells hP j u hu
      · intro u hu
        simp only [List.mem_cons, List.not_mem_nil, or_false] at hu
        rcases hu with rfl | rfl | rfl | rfl <;> rfl
      repeat' (first | refine e_nil ?_ | ((refine e_op ?_); (first | refine o_n (peval_sound rfl) rfl ?_ | refine o_storeC rfl rfl rfl rfl tc uc rfl rfl rfl ?_)) | refine s_region ?_ | refine s_end ?_)
      have hla : acs.length = (g.Prods.take i).length := by rw [List.length_take]; omega
      refine s_back ⟨⟨(i + 1, some ⟨ba, 0, none⟩, ca, acs ++ [(A', c')]), by simp only; omega, by simp [hacs]⟩, by simp only; omega, ?_, ?_⟩
      · repeat' (first | exact Sub.nil _ | refine Sub.cons rfl ?_ | refine Sub.consE rfl ?_ ?_)
        exact inc (i := i) (by omega)
      · simp only [List.take_succ_eq_append_getElem hlt, prC_snocR hla, prL_snoc hla]
        refine Ent.tak (.s (.s (.s .z))) (Ent.tak (.s (.s (.s .z))) (Ent.tak (.s (.s (.s .z))) (Ent.tak (.s (.s (.s .z))) (Ent.wk ?_))))
        have hm := Ent.mid (A := osl 3 1 (.slice A' g.Prods[i].Right.length c') g.Prods[i].Right.length (g.Prods[i].Right.flatMap fun x => [.int .i64 x])) (L := ownF g a0 a1 a2 a3 d0 d1 d2 d3 ++ prL acs (g.Prods.take i)) (U := [])
        rw [List.append_nil, List.append_assoc] at hm
        exact (Ent.cons (Ent.wk (Ent.refl _))).trans hm
    · have hge : i = g.Prods.length := by have := of_decide_eq_false h; omega
      subst hge
      clear h
      rw [List.take_length]
      repeat' (first | refine e_nil ?_ | ((refine e_op ?_); (first | refine o_n (nl rfl rfl tc rfl) rfl ?_ | refine o_storeC rfl rfl rfl rfl tc uc rfl rfl rfl ?_)) | refine s_seq ?_ | refine s_region ?_ | refine s_exit ?_ | refine x_hit ?_ | refine x_code ?_ | refine x_back ?_)
      refine s_ret ⟨_, _, resc rfl rfl rfl (.s .z) rfl, ⟨_, _, _, _, _, _, _, _, _, _, acs, hacs, rfl, rfl⟩, ?_⟩
      exact Ent.wk (Ent.wk (Ent.wk (Ent.refl _)))
  · refine a_n 0 rfl (peval_sound rfl) (by decide +kernel) (Ent.refl _) rfl ?_
    refine a_n 1 rfl (n_load rfl rfl (.s .z) rfl) (by decide +kernel) (Ent.refl _) rfl ?_
    refine a_n 3 rfl (peval_sound rfl) (by decide +kernel) (Ent.refl _) rfl ?_
    refine a_n 4 rfl (n_load rfl rfl (.s .z) rfl) (by decide +kernel) (Ent.refl _) rfl ?_
    refine a_n 6 rfl (peval_sound rfl) (by decide +kernel) (Ent.refl _) rfl ?_
    refine a_n 7 rfl (n_load rfl rfl (.s .z) rfl) (by decide +kernel) (Ent.refl _) rfl ?_
    refine a_n 9 rfl (peval_sound rfl) (by decide +kernel) (Ent.refl _) rfl ?_
    refine a_n 10 rfl (n_load rfl rfl (.s .z) rfl) (by decide +kernel) (Ent.refl _) rfl ?_
    refine a_2 2 13 (by decide +kernel) rfl rfl rfl rfl (o_copyO (fun x => [.string x]) kstr_is onec_str rfl rfl rfl rfl rfl (Can.ro hT') rfl rfl hT rfl rfl rfl (fun a0 d0 => ⟨(by (repeat' (first | exact Ent.refl _ | refine Ent.wk ?_))), ?_⟩)) (o_alloc rfl rfl (fun b3 => ⟨(by (repeat' (first | exact Ent.refl _ | refine Ent.wk ?_))), ?_⟩))
    · refine a_2 5 13 (by decide +kernel) rfl rfl rfl rfl (o_copyO encZ lev_is onec_lev rfl rfl rfl rfl rfl (Can.ro hL') rfl rfl hL rfl rfl rfl (fun a1 d1 => ⟨(by (repeat' (first | exact Ent.refl _ | refine Ent.wk ?_))), ?_⟩)) (o_alloc rfl rfl (fun b3 => ⟨(by (repeat' (first | exact Ent.refl _ | refine Ent.wk ?_))), ?_⟩))
      · refine a_2 8 13 (by decide +kernel) rfl rfl rfl rfl (o_copyO encPt pt_is onec_pt rfl rfl rfl rfl rfl (Can.ro hPt') rfl rfl hPt rfl rfl rfl (fun a2 d2 => ⟨(by (repeat' (first | exact Ent.refl _ | refine Ent.wk ?_))), ?_⟩)) (o_alloc rfl rfl (fun b3 => ⟨(by (repeat' (first | exact Ent.refl _ | refine Ent.wk ?_))), ?_⟩))
        · refine a_2 11 13 (by decide +kernel) rfl rfl rfl rfl (o_copyO (fun x => [.string x]) kstr_is onec_str rfl rfl rfl rfl rfl (Can.ro hN') rfl rfl hN rfl rfl rfl (fun a3 d3 => ⟨(by (repeat' (first | exact Ent.refl _ | refine Ent.wk ?_))), ?_⟩)) (o_alloc rfl rfl (fun b3 => ⟨(by (repeat' (first | exact Ent.refl _ | refine Ent.wk ?_))), ?_⟩))
          · refine a_n 12 rfl (peval_sound rfl) (by decide +kernel) (by (repeat' (first | exact Ent.refl _ | refine Ent.wk ?_))) rfl ?_
            refine a_1 13 (by decide +kernel) rfl rfl (o_alloc rfl rfl (fun b3 => ⟨(by (repeat' (first | exact Ent.refl _ | refine Ent.wk ?_))), ?_⟩))
            refine a_1 14 (by decide +kernel) rfl rfl (o_store rfl rfl rfl rfl rfl rfl rfl .z ⟨(by (repeat' (first | exact Ent.refl _ | refine Ent.wk ?_))), ?_⟩)
            refine a_done (by decide +kernel) (s_weak ?_ ?_ (hfin (b3, (a0, d0), (a1, d1), (a2, d2), (a3, d3))))
            · repeat' (first | exact Sub.nil _ | refine Sub.cons rfl ?_)
            · repeat' (first | exact Ent.nil _ | refine Ent.tak tk ?_ | refine Ent.blkC tc rfl ?_ | refine Ent.tak .z ?_ | refine Ent.tak (.s .z) ?_ | refine Ent.tak (.s (.s .z)) ?_ | refine Ent.tak (.s (.s (.s .z))) ?_)
          · refine a_1 11 (by decide +kernel) rfl rfl (o_copyO (fun x => [.string x]) kstr_is onec_str rfl rfl rfl rfl rfl (Can.ro hN') rfl rfl hN rfl rfl rfl (fun a3 d3 => ⟨(by (repeat' (first | exact Ent.refl _ | refine Ent.wk ?_))), ?_⟩))
            refine a_n 12 rfl (peval_sound rfl) (by decide +kernel) (by (repeat' (first | exact Ent.refl _ | refine Ent.wk ?_))) rfl ?_
            refine a_1 14 (by decide +kernel) rfl rfl (o_store rfl rfl rfl rfl rfl rfl rfl (.s .z) ⟨(by (repeat' (first | exact Ent.refl _ | refine Ent.wk ?_))), ?_⟩)
            refine a_done (by decide +kernel) (s_weak ?_ ?_ (hfin (b3, (a0, d0), (a1, d1), (a2, d2), (a3, d3))))
            · repeat' (first | exact Sub.nil _ | refine Sub.cons rfl ?_)
            · repeat' (first | exact Ent.nil _ | refine Ent.tak tk ?_ | refine Ent.blkC tc rfl ?_ | refine Ent.tak .z ?_ | refine Ent.tak (.s .z) ?_ | refine Ent.tak (.s (.s .z)) ?_ | refine Ent.tak (.s (.s (.s .z))) ?_)
        · refine a_1 8 (by decide +kernel) rfl rfl (o_copyO encPt pt_is onec_pt rfl rfl rfl rfl rfl (Can.ro hPt') rfl rfl hPt rfl rfl rfl (fun a2 d2 => ⟨(by (repeat' (first | exact Ent.refl _ | refine Ent.wk ?_))), ?_⟩))
          refine a_1 11 (by decide +kernel) rfl rfl (o_copyO (fun x => [.string x]) kstr_is onec_str rfl rfl rfl rfl rfl (Can.ro hN') rfl rfl hN rfl rfl rfl (fun a3 d3 => ⟨(by (repeat' (first | exact Ent.refl _ | refine Ent.wk ?_))), ?_⟩))
          refine a_n 12 rfl (peval_sound rfl) (by decide +kernel) (by (repeat' (first | exact Ent.refl _ | refine Ent.wk ?_))) rfl ?_
          refine a_1 14 (by decide +kernel) rfl rfl (o_store rfl rfl rfl rfl rfl rfl rfl (.s (.s .z)) ⟨(by (repeat' (first | exact Ent.refl _ | refine Ent.wk ?_))), ?_⟩)
          refine a_done (by decide +kernel) (s_weak ?_ ?_ (hfin (b3, (a0, d0), (a1, d1), (a2, d2), (a3, d3))))
          · repeat' (first | exact Sub.nil _ | refine Sub.cons rfl ?_)
          · repeat' (first | exact Ent.nil _ | refine Ent.tak tk ?_ | refine Ent.blkC tc rfl ?_ | refine Ent.tak .z ?_ | refine Ent.tak (.s .z) ?_ | refine Ent.tak (.s (.s .z)) ?_ | refine Ent.tak (.s (.s (.s .z))) ?_)
      · refine a_1 5 (by decide +kernel) rfl rfl (o_copyO encZ lev_is onec_lev rfl rfl rfl rfl rfl (Can.ro hL') rfl rfl hL rfl rfl rfl (fun a1 d1 => ⟨(by (repeat' (first | exact Ent.refl _ | refine Ent.wk ?_))), ?_⟩))
        refine a_1 8 (by decide +kernel) rfl rfl (o_copyO encPt pt_is onec_pt rfl rfl rfl rfl rfl (Can.ro hPt') rfl rfl hPt rfl rfl rfl (fun a2 d2 => ⟨(by (repeat' (first | exact Ent.refl _ | refine Ent.wk ?_))), ?_⟩))
        refine a_1 11 (by decide +kernel) rfl rfl (o_copyO (fun x => [.string x]) kstr_is onec_str rfl rfl rfl rfl rfl (Can.ro hN') rfl rfl hN rfl rfl rfl (fun a3 d3 => ⟨(by (repeat' (first | exact Ent.refl _ | refine Ent.wk ?_))), ?_⟩))
        refine a_n 12 rfl (peval_sound rfl) (by decide +kernel) (by (repeat' (first | exact Ent.refl _ | refine Ent.wk ?_))) rfl ?_
        refine a_1 14 (by decide +kernel) rfl rfl (o_store rfl rfl rfl rfl rfl rfl rfl (.s (.s (.s .z))) ⟨(by (repeat' (first | exact Ent.refl _ | refine Ent.wk ?_))), ?_⟩)
        refine a_done (by decide +kernel) (s_weak ?_ ?_ (hfin (b3, (a0, d0), (a1, d1), (a2, d2), (a3, d3))))
        · repeat' (first | exact Sub.nil _ | refine Sub.cons rfl ?_)
        · repeat' (first | exact Ent.nil _ | refine Ent.tak tk ?_ | refine Ent.blkC tc rfl ?_ | refine Ent.tak .z ?_ | refine Ent.tak (.s .z) ?_ | refine Ent.tak (.s (.s .z)) ?_ | refine Ent.tak (.s (.s (.s .z))) ?_)
    · refine a_1 2 (by decide +kernel) rfl rfl (o_copyO (fun x => [.string x]) kstr_is onec_str rfl rfl rfl rfl rfl (Can.ro hT') rfl rfl hT rfl rfl rfl (fun a0 d0 => ⟨(by (repeat' (first | exact Ent.refl _ | refine Ent.wk ?_))), ?_⟩))
      refine a_1 5 (by decide +kernel) rfl rfl (o_copyO encZ lev_is onec_lev rfl rfl rfl rfl rfl (Can.ro hL') rfl rfl hL rfl rfl rfl (fun a1 d1 => ⟨(by (repeat' (first | exact Ent.refl _ | refine Ent.wk ?_))), ?_⟩))
      refine a_1 8 (by decide +kernel) rfl rfl (o_copyO encPt pt_is onec_pt rfl rfl rfl rfl rfl (Can.ro hPt') rfl rfl hPt rfl rfl rfl (fun a2 d2 => ⟨(by (repeat' (first | exact Ent.refl _ | refine Ent.wk ?_))), ?_⟩))
      refine a_1 11 (by decide +kernel) rfl rfl (o_copyO (fun x => [.string x]) kstr_is onec_str rfl rfl rfl rfl rfl (Can.ro hN') rfl rfl hN rfl rfl rfl (fun a3 d3 => ⟨(by (repeat' (first | exact Ent.refl _ | refine Ent.wk ?_))), ?_⟩))
      refine a_n 12 rfl (peval_sound rfl) (by decide +kernel) (by (repeat' (first | exact Ent.refl _ | refine Ent.wk ?_))) rfl ?_
      refine a_1 14 (by decide +kernel) rfl rfl (o_store rfl rfl rfl rfl rfl rfl rfl (.s (.s (.s (.s .z)))) ⟨(by (repeat' (first | exact Ent.refl _ | refine Ent.wk ?_))), ?_⟩)
      refine a_done (by decide +kernel) (s_weak ?_ ?_ (hfin (b3, (a0, d0), (a1, d1), (a2, d2), (a3, d3))))
      · repeat' (first | exact Sub.nil _ | refine Sub.cons rfl ?_)
      · repeat' (first | exact Ent.nil _ | refine Ent.tak tk ?_ | refine Ent.blkC tc rfl ?_ | refine Ent.tak .z ?_ | refine Ent.tak (.s .z) ?_ | refine Ent.tak (.s (.s .z)) ?_ | refine Ent.tak (.s (.s (.s .z))) ?_)



theorem flat_strs : ∀ l : List ByteArray, (l.flatMap fun x => [Value.string x]) = l.map Value.string
  | [] => rfl
  | x :: l => by rw [List.flatMap_cons, flat_strs l]; rfl
theorem flat_ints : ∀ l : List Int, (l.flatMap fun x => [Value.int .i64 x]) = l.map (Value.int .i64)
  | [] => rfl
  | x :: l => by rw [List.flatMap_cons, flat_ints l]; rfl
theorem prL_row : ∀ (acs : List (Option Addr × Nat)) (ps : List Prd), prL acs ps = rowX (fun l : List Int => l.map (Value.int .i64)) 1 3 acs (ps.map (·.Right))
  | [], _ => by unfold prL rowX; simp
  | _ :: _, [] => by unfold prL rowX; simp
  | a :: acs, p :: ps => by
    have ih := prL_row acs ps
    unfold prL rowX at ih ⊢
    rw [List.map_cons, List.zipWith_cons_cons, List.zipWith_cons_cons, ih]
    unfold rowA
    simp only [flat_ints]

abbrev ogT (a : Option Addr) (d : Nat) (l : List ByteArray) : Asn := osl 9 1 (.slice a l.length d) l.length (l.map Value.string)
abbrev ogL (a : Option Addr) (d : Nat) (l : List Lev) : Asn := osl 59 2 (.slice a l.length d) l.length (l.flatMap encZ)
abbrev ogP (a : Option Addr) (d : Nat) (l : List Pt) : Asn := osl 196 2 (.slice a l.length d) l.length (l.flatMap encPt)
/-- A grammar of one's own. -/
def ownG (g : Gram) (a0 a1 a2 a3 a4 : Option Addr) (d0 d1 d2 d3 d4 : Nat) (acs : List (Option Addr × Nat)) : List Asn :=
  [prS a4 d4 acs g.Prods, ogT a0 d0 g.Terms, ogL a1 d1 g.Levels, ogP a2 d2 g.Pats, ogT a3 d3 g.Nons, prB acs g.Prods]
abbrev gSl (g : Gram) (a0 a1 a2 a3 a4 : Option Addr) (d0 d1 d2 d3 d4 : Nat) : List Value := [.slice a0 g.Terms.length d0, .slice a1 g.Levels.length d1, .slice a2 g.Pats.length d2, .slice a3 g.Nons.length d3, .slice a4 g.Prods.length d4]

theorem copyG_w (cs : List Value) (g : Gram) : Trip Tryd.prog 16 [.agg cs.toArray] (kGram.rd cs g) []
    (fun v V => ∃ (a0 a1 a2 a3 a4 : Option Addr) (d0 d1 d2 d3 d4 : Nat) (acs : List (Option Addr × Nat)), acs.length = g.Prods.length ∧
      v = .agg (gSl g a0 a1 a2 a3 a4 d0 d1 d2 d3 d4).toArray ∧ V = ownG g a0 a1 a2 a3 a4 d0 d1 d2 d3 d4 acs) :=
  (copyO_w cs g).monoE fun v V ⟨a0, a1, a2, a3, a4, d0, d1, d2, d3, d4, acs, hl, hv, hV⟩ => by
    refine ⟨_, ⟨a0, a1, a2, a3, a4, d0, d1, d2, d3, d4, acs, hl, hv, rfl⟩, ?_⟩
    subst hV
    unfold ownF ownG
    simp only [flat_strs, prL_row]
    refine Ent.cons (Ent.cons (Ent.cons (Ent.cons (Ent.cons ?_))))
    have := ent_bun (L := rowX (fun l : List Int => l.map (Value.int .i64)) 1 3 acs (g.Prods.map (·.Right))) (V := [])
    rw [List.append_nil] at this
    exact this

/-- Numbers that an int can be; lists that are not too long. -/
structure GrN (g : Gram) : Prop where
  p : ∀ p ∈ g.Prods, I64 p.Left ∧ I64 p.L.N ∧ I64 p.L.Kind ∧ (∀ s ∈ p.Right, I64 s) ∧ p.Right.length ≤ 100000
  l : ∀ l ∈ g.Levels, I64 l.N ∧ I64 l.Kind
  t : ∀ t ∈ g.Pats, I64 t.Term
  nT : g.Terms.length ≤ 1000000
  nL : g.Levels.length ≤ 1000000
  nP : g.Pats.length * 24 ≤ 140737488355328
  nN : g.Nons.length ≤ 1000000
  nR : g.Prods.length ≤ 1000000

theorem own_rd {g : Gram} {a0 a1 a2 a3 a4 : Option Addr} {d0 d1 d2 d3 d4 : Nat} {acs : List (Option Addr × Nat)} (hl : acs.length = g.Prods.length) (hg : GrN g) {w : World} {S : BSet} (h : star (ownG g a0 a1 a2 a3 a4 d0 d1 d2 d3 d4 acs) w S) :
    kGram.R w S (gSl g a0 a1 a2 a3 a4 d0 d1 d2 d3 d4) g := by
  unfold ownG at h
  obtain ⟨_, h0, i0⟩ := star_mem (i := 0) rfl h
  obtain ⟨_, h1, i1⟩ := star_mem (i := 1) rfl h
  obtain ⟨_, h2, i2⟩ := star_mem (i := 2) rfl h
  obtain ⟨_, h3, i3⟩ := star_mem (i := 3) rfl h
  obtain ⟨_, h4, i4⟩ := star_mem (i := 4) rfl h
  obtain ⟨_, h5, i5⟩ := star_mem (i := 5) rfl h
  have nT := hg.nT
  have nL := hg.nL
  have nN := hg.nN
  have nR := hg.nR
  refine kGram_mk ⟨?_, ?_, ?_, ?_, ?_⟩
  · obtain ⟨e, _, e2⟩ := osl_els (k := kstr) Value.string rfl (fun _ _ _ => rfl) h1
    exact ⟨e2, by omega, els_mono i1 e⟩
  · have h2' := h2
    unfold ogL at h2'
    rw [List.flatMap_def] at h2'
    obtain ⟨e, e2⟩ := osl_elsG (kd := kLev) (ess := g.Levels.map encZ) h2' i2 (by simp) rfl (fun i g1 g2 => by
      rw [List.getElem_map]
      have := hg.l _ (List.getElem_mem g2)
      exact ⟨[_], [_], rfl, ⟨rfl, this.1⟩, ⟨rfl, this.2⟩⟩)
    exact ⟨e2, by omega, e⟩
  · have h3' := h3
    unfold ogP at h3'
    rw [List.flatMap_def] at h3'
    obtain ⟨e, e2⟩ := osl_elsG (kd := kPt) (ess := g.Pats.map encPt) h3' i3 (by simp) rfl (fun i g1 g2 => by
      rw [List.getElem_map]
      exact ⟨[_], [_], rfl, ⟨rfl, hg.t _ (List.getElem_mem g2)⟩, rfl⟩)
    exact ⟨e2, hg.nP, e⟩
  · obtain ⟨e, _, e2⟩ := osl_els (k := kstr) Value.string rfl (fun _ _ _ => rfl) h4
    exact ⟨e2, by omega, els_mono i4 e⟩
  · obtain ⟨e, e2⟩ := osl_elsG (kd := kPrd) (ess := List.zipWith prRow acs g.Prods) h0 i0 (by simp [hl]) rfl (fun i g1 g2 => by
      rw [List.getElem_zipWith]
      have hi : i < (g.Prods.map (·.Right)).length := by rw [List.length_map]; exact g2
      have hl2 : acs.length = (g.Prods.map (·.Right)).length := by rw [List.length_map]; exact hl
      obtain ⟨S3, h6, i6⟩ := star_mem (rowX_get (f := fun l : List Int => l.map (Value.int .i64)) (sz := 1) (ei := 3) hl2 hi) h5
      obtain ⟨r3, r4, r5, r2, r1⟩ := hg.p _ (List.getElem_mem g2)
      have hri : (g.Prods.map (·.Right))[i] = g.Prods[i].Right := List.getElem_map _
      rw [hri] at h6
      obtain ⟨A', c', e, k1, k2, k3⟩ := can_to (R := (kslice 8 kint).rd _ _) Tryd.prog (fun E => can_ints .z r2 (by omega)) h6
      simp only [List.cons.injEq, Value.slice.injEq, and_true] at e
      refine kPrd_mk r3 r4 r5 ⟨?_, k2, els_mono (fun b hb => i5 b (i6 b hb)) ?_⟩
      · rw [e.2.2]; exact k1
      · rw [e.1]; exact k3)
    exact ⟨e2, by omega, e⟩
theorem can_ownG {E0 : Go.Proofs.YtcnpjhaedjncdaaDoor.E.Env} {U W : List Asn} {g : Gram} {a0 a1 a2 a3 a4 : Option Addr} {d0 d1 d2 d3 d4 : Nat} {acs : List (Option Addr × Nat)} (hl : acs.length = g.Prods.length) (hg : GrN g) (he : Ent U (ownG g a0 a1 a2 a3 a4 d0 d1 d2 d3 d4 acs ++ W)) :
    Go.Proofs.YtcnpjhaedjncdaaDoor.E.Can E0 U (kGram.rd (gSl g a0 a1 a2 a3 a4 d0 d1 d2 d3 d4) g) := Can.of fun w S hs => by
  obtain ⟨S1, S2, h1, _, _, i1, _⟩ := star_split (he w S hs)
  exact kGram.mono i1 (own_rd hl hg h1)
/-- What is read has numbers and lengths that fit. -/
theorem gr_num {w : World} {S : BSet} {g : Gram} {A0 A1 A2 A3 A4 : Option Addr} {c0 c1 c2 c3 c4 : Nat} (h : GSl w S g A0 A1 A2 A3 A4 c0 c1 c2 c3 c4) (he : checkE g = 0) : GrN g := by
  obtain ⟨hlm, hwf⟩ := checkE_ok he
  have hL := lims hlm
  have := hL.t
  have := hL.n
  have := hL.p
  have := hwf.lev
  refine ⟨fun p hp => ?_, fun l hl => ?_, fun t ht => ?_, by omega, by omega, h.pats.2.1, by omega, by omega⟩
  · obtain ⟨i, hi, rfl⟩ := List.getElem_of_mem hp
    obtain ⟨b, o, es, _, hb, he, hc⟩ := h.prods.2.2 i hi
    obtain ⟨Ar, cr, _, h1, h2, h3, h4⟩ := kPrd_open he
    have := hL.r _ (List.getElem_mem hi)
    refine ⟨h1, h2, h3, fun s hs => ?_, by omega⟩
    obtain ⟨j, hj, rfl⟩ := List.getElem_of_mem hs
    obtain ⟨_, _, _, _, _, ⟨_, h5⟩, _⟩ := h4.2.2 j hj
    exact h5
  · obtain ⟨i, hi, rfl⟩ := List.getElem_of_mem hl
    obtain ⟨b, o, es, _, hb, he, hc⟩ := h.levels.2.2 i hi
    exact (kLev_open he).2
  · obtain ⟨i, hi, rfl⟩ := List.getElem_of_mem ht
    obtain ⟨b, o, es, _, hb, ⟨c1, c2, _, ⟨_, h1⟩, _⟩, hc⟩ := h.pats.2.2 i hi
    exact h1

end Go.Proofs.YtcnpjhaedjncdaaDoor

namespace Go.Proofs.YtcnpjhaedjncdaaDoor
set_option linter.all false
open Go.Proofs.YtcnpjhaedjncdaaDoor.E

theorem equal51 (w : World) (a b c d : Int) : (Op.equal 51 (.agg #[.int .i64 a, .int .i64 b]) (.agg #[.int .i64 c, .int .i64 d])).run Tryd.prog w = .ok (a == c && b == d) w := by
  have hf : Tryd.prog.fieldsOf 51 = #[{ name := "Kind", type := 3, offset := 0, embedded := false, tag := "", pkgPath := "", byteOffset := 0 }, { name := "N", type := 3, offset := 1, embedded := false, tag := "", pkgPath := "", byteOffset := 8 }] := by kernel_rfl
  have h3 : Tryd.prog.plainKey 3 = true := by kernel_rfl
  have p1 : ∀ u v : Int, (part 3 #[.int .i64 u, .int .i64 v] 0).run Tryd.prog w = .ok (.int .i64 u) w := fun u v => run_part_plain (P := Tryd.prog) w h3 rfl
  have p2 : ∀ u v : Int, (part 3 #[.int .i64 u, .int .i64 v] 1).run Tryd.prog w = .ok (.int .i64 v) w := fun u v => run_part_plain (P := Tryd.prog) w h3 rfl
  unfold Op.equal Op.maxDepth
  rw [run_equalIn_struct (P := Tryd.prog) w 9999 51 _ _ (by kernel_rfl) (by kernel_rfl), hf]
  have e : ∀ u v : Int, (Op.equalIn 9999 3 (.int .i64 u) (.int .i64 v)).run Tryd.prog w = .ok (u == v) w := fun u v => run_equalIn_int w 9998 3 .i64 .i64 u v Tryd.underlying3
  simp only [Op.eqFields]
  simp only [Sem.run_bind, p1, p2, e, Result.andThen_ok, Sem.run_ite, Sem.run_pure]
  cases a == c <;> cases b == d <;> simp [p1, p2, e]

theorem eq51 (x y : Acn) : (x.k == y.k && x.n == y.n) = decide (x = y) := by
  cases x; cases y
  simp only [Acn.mk.injEq, Bool.decide_and]
  rfl

theorem n_neq51 {w0 : World} {SM : BSet} {n : Nat} {fr : Frm} {U : List Asn} {x y : Operand} {a b : Acn} {t2 : TypeId} (hx : val fr x = some (.agg (encA a).toArray)) (hy : val fr y = some (.agg (encA b).toArray)) :
    NEV ⟨Tryd.prog, Tryd.tab, Tryd.tabOk, n, w0, SM⟩ (.binOp .neq 51 x y t2) fr U (.bool (!decide (a = b))) := by
  intro ac w dst ty pos af g hf _
  have hg : Tryd.prog.eqGuardType Tryd.prog.depth 51 = false := by kernel_rfl
  have he := equal51 w a.k a.n b.k b.n
  unfold execOp
  simp only [hf.eval hx, hf.eval hy, encA]
  simp [eqGuard, hg, binOp, he, eq51]

theorem n_eql51 {w0 : World} {SM : BSet} {n : Nat} {fr : Frm} {U : List Asn} {x y : Operand} {a b : Acn} {t2 : TypeId} (hx : val fr x = some (.agg (encA a).toArray)) (hy : val fr y = some (.agg (encA b).toArray)) :
    NEV ⟨Tryd.prog, Tryd.tab, Tryd.tabOk, n, w0, SM⟩ (.binOp .eql 51 x y t2) fr U (.bool (decide (a = b))) := by
  intro ac w dst ty pos af g hf _
  have hg : Tryd.prog.eqGuardType Tryd.prog.depth 51 = false := by kernel_rfl
  have he := equal51 w a.k a.n b.k b.n
  unfold execOp
  simp only [hf.eval hx, hf.eval hy, encA]
  simp [eqGuard, hg, binOp, he, eq51]

theorem equal67 (w : World) (a b c d : Int) : (Op.equal 67 (.agg #[.int .i64 a, .int .i64 b]) (.agg #[.int .i64 c, .int .i64 d])).run Tryd.prog w = .ok (a == c && b == d) w := by
  have hf : Tryd.prog.fieldsOf 67 = #[{ name := "State", type := 3, offset := 0, embedded := false, tag := "", pkgPath := "", byteOffset := 0 }, { name := "Term", type := 3, offset := 1, embedded := false, tag := "", pkgPath := "", byteOffset := 8 }] := by kernel_rfl
  have h3 : Tryd.prog.plainKey 3 = true := by kernel_rfl
  have p1 : ∀ u v : Int, (part 3 #[.int .i64 u, .int .i64 v] 0).run Tryd.prog w = .ok (.int .i64 u) w := fun u v => run_part_plain (P := Tryd.prog) w h3 rfl
  have p2 : ∀ u v : Int, (part 3 #[.int .i64 u, .int .i64 v] 1).run Tryd.prog w = .ok (.int .i64 v) w := fun u v => run_part_plain (P := Tryd.prog) w h3 rfl
  unfold Op.equal Op.maxDepth
  rw [run_equalIn_struct (P := Tryd.prog) w 9999 67 _ _ (by kernel_rfl) (by kernel_rfl), hf]
  have e : ∀ u v : Int, (Op.equalIn 9999 3 (.int .i64 u) (.int .i64 v)).run Tryd.prog w = .ok (u == v) w := fun u v => run_equalIn_int w 9998 3 .i64 .i64 u v Tryd.underlying3
  simp only [Op.eqFields]
  simp only [Sem.run_bind, p1, p2, e, Result.andThen_ok, Sem.run_ite, Sem.run_pure]
  cases a == c <;> cases b == d <;> simp [p1, p2, e]

theorem eq67 (x y : Nat × Nat) : (((x.1 : Nat) : Int) == ((y.1 : Nat) : Int) && ((x.2 : Nat) : Int) == ((y.2 : Nat) : Int)) = decide (x = y) := by
  obtain ⟨a, b⟩ := x
  obtain ⟨c, d⟩ := y
  rw [Bool.eq_iff_iff]
  simp only [Bool.and_eq_true, beq_iff_eq, decide_eq_true_eq, Prod.mk.injEq]
  omega

theorem n_neq67 {w0 : World} {SM : BSet} {n : Nat} {fr : Frm} {U : List Asn} {x y : Operand} {a b : Nat × Nat} {t2 : TypeId} (hx : val fr x = some (.agg (encCl a).toArray)) (hy : val fr y = some (.agg (encCl b).toArray)) :
    NEV ⟨Tryd.prog, Tryd.tab, Tryd.tabOk, n, w0, SM⟩ (.binOp .neq 67 x y t2) fr U (.bool (!decide (a = b))) := by
  intro ac w dst ty pos af g hf _
  have hg : Tryd.prog.eqGuardType Tryd.prog.depth 67 = false := by kernel_rfl
  have he := equal67 w (a.1 : Nat) (a.2 : Nat) (b.1 : Nat) (b.2 : Nat)
  unfold execOp
  simp only [hf.eval hx, hf.eval hy, encCl]
  simp [eqGuard, hg, binOp, he, eq67]

theorem n_eql67 {w0 : World} {SM : BSet} {n : Nat} {fr : Frm} {U : List Asn} {x y : Operand} {a b : Nat × Nat} {t2 : TypeId} (hx : val fr x = some (.agg (encCl a).toArray)) (hy : val fr y = some (.agg (encCl b).toArray)) :
    NEV ⟨Tryd.prog, Tryd.tab, Tryd.tabOk, n, w0, SM⟩ (.binOp .eql 67 x y t2) fr U (.bool (decide (a = b))) := by
  intro ac w dst ty pos af g hf _
  have hg : Tryd.prog.eqGuardType Tryd.prog.depth 67 = false := by kernel_rfl
  have he := equal67 w (a.1 : Nat) (a.2 : Nat) (b.1 : Nat) (b.2 : Nat)
  unfold execOp
  simp only [hf.eval hx, hf.eval hy, encCl]
  simp [eqGuard, hg, binOp, he, eq67]

end Go.Proofs.YtcnpjhaedjncdaaDoor

namespace Go.Proofs.YtcnpjhaedjncdaaDoor
set_option linter.all false
open Go.Proofs.YtcnpjhaedjncdaaDoor.E

theorem ent_ownG {U : List Asn} {g : Gram} {a0 a1 a2 a3 a4 : Option Addr} {d0 d1 d2 d3 d4 : Nat} {acs : List (Option Addr × Nat)} (hl : acs.length = g.Prods.length) (hg : GrN g) :
    Ent (ownG g a0 a1 a2 a3 a4 d0 d1 d2 d3 d4 acs ++ U) (rdA kGram (gSl g a0 a1 a2 a3 a4 d0 d1 d2 d3 d4) g :: U) := fun w S hs => by
  obtain ⟨S1, S2, h1, h2, hd, i1, i2⟩ := star_split hs
  exact ⟨S1, S2, own_rd hl hg h1, h2, hd, i1, i2⟩
theorem gs_n (x : Lev) (h1 : I64 x.N) (h2 : I64 x.Kind) : GrN (gS x) := by
  have z : I64 0 := by unfold I64; omega
  refine ⟨fun p hp => ?_, fun l hl => ?_, fun t ht => (nomatch ht), by simp [gS], by simp [gS], by simp [gS], by simp [gS], by simp [gS]⟩
  · simp only [gS, List.mem_cons, List.not_mem_nil, or_false] at hp
    rcases hp with rfl | rfl | rfl
    · exact ⟨by unfold I64; simp only; omega, z, z, fun s hs => by simp only [List.mem_cons, List.not_mem_nil, or_false] at hs; subst hs; unfold I64; omega, by simp⟩
    · exact ⟨by unfold I64; simp only; omega, h1, h2, fun s hs => by simp only [List.mem_cons, List.not_mem_nil, or_false] at hs; rcases hs with rfl | rfl | rfl <;> (unfold I64; omega), by simp⟩
    · exact ⟨by unfold I64; simp only; omega, z, z, fun s hs => by simp only [List.mem_cons, List.not_mem_nil, or_false] at hs; subst hs; unfold I64; omega, by simp⟩
  · simp only [gS, List.mem_cons, List.not_mem_nil, or_false] at hl
    rcases hl with rfl | rfl | rfl
    · exact ⟨z, z⟩
    · exact ⟨z, z⟩
    · exact ⟨h1, h2⟩
def gsA (b3 b5 b7 : Nat) : List (Option Addr × Nat) := [(some ⟨b3, 0, none⟩, 1), (some ⟨b5, 0, none⟩, 3), (some ⟨b7, 0, none⟩, 1)]
def gsM : List Mk := [
  ⟨4, [0], fun l => sl (l.getD 0 0) 3, fun l => [strs (l.getD 0 0) (gS zL).Terms]⟩,
  ⟨5, [1], fun l => sl (l.getD 0 0) 3, fun l => [levZ (l.getD 0 0) (gS zL).Levels]⟩,
  ⟨6, [2], fun l => sl (l.getD 0 0) 2, fun l => [strs (l.getD 0 0) (gS zL).Nons]⟩,
  ⟨7, [3], fun l => sl (l.getD 0 0) 1, fun l => [ints (l.getD 0 0) [4]]⟩,
  ⟨8, [3], fun l => pv 0 (sl (l.getD 0 0) 1), fun _ => []⟩,
  ⟨9, [5], fun l => sl (l.getD 0 0) 3, fun l => [ints (l.getD 0 0) [4, 2, 4]]⟩,
  ⟨10, [5], fun l => pv 1 (sl (l.getD 0 0) 3), fun _ => []⟩,
  ⟨11, [7], fun l => sl (l.getD 0 0) 1, fun l => [ints (l.getD 0 0) [1]]⟩,
  ⟨12, [7], fun l => pv 1 (sl (l.getD 0 0) 1), fun _ => []⟩,
  ⟨13, [9, 3, 5, 7], fun l => sl (l.getD 0 0) 3, fun l => [prS (some ⟨l.getD 0 0, 0, none⟩) 3 (gsA (l.getD 1 0) (l.getD 2 0) (l.getD 3 0)) (gS zL).Prods]⟩,
  ⟨14, [0, 1, 2, 9], fun l => .agg #[sl (l.getD 0 0) 3, sl (l.getD 1 0) 3, .slice none 0 0, sl (l.getD 2 0) 2, sl (l.getD 3 0) 3], fun _ => []⟩,
  ⟨3, [11], fun l => .pointer (some ⟨l.getD 0 0, 0, none⟩), fun l => [blk (l.getD 0 0) 27 [.slice none 0 0, .slice none 0 0, .slice none 0 0, .slice none 0 0, .slice none 0 0]]⟩]
theorem gs_ok : PrOk (gS zL).Prods := prOk_of (by decide) (by decide +kernel)

attribute [local irreducible] EVX EVO EVL EV1 NEV
attribute [local irreducible] own osl exA rdA rdL
attribute [local irreducible] bldA mapA bun mapS
set_option maxRecDepth 10000
set_option maxHeartbeats 4000000

theorem p21_w (l : Int) (A : Option Addr) (n c : Nat) : Trip Tryd.prog 19 [.int .i64 l, .slice A n c] Rd.tt [] (fun v V => v = .agg #[.int .i64 l, .slice A n c, .int .i64 0, .int .i64 0] ∧ V = []) := by
  refine trip Tryd.tabOk Tryd.func19 rfl rfl rfl rfl ?_
  intro w SM _
  repeat' (first | refine e_nil ?_ | ((refine e_op ?_); (first | refine o_n (peval_sound rfl) rfl ?_ | refine o_storeC rfl rfl rfl rfl tc uc rfl rfl rfl ?_ | refine o_alloc rfl rfl (fun _ => ?_))) | refine s_seq ?_ | refine s_region ?_)
  exact s_ret ⟨_, _, resc rfl rfl rfl .z rfl, ⟨rfl, rfl⟩, Ent.nil _⟩

theorem few21_w (cs : List Value) (g : Gram) : Trip Tryd.prog 9 [.agg cs.toArray] (kGram.rd cs g) [] (fun v V => v = .bool (decide ((g.Prods.length : Int) ≤ 30)) ∧ V = []) := by
  refine trip Tryd.tabOk Tryd.func9 rfl rfl rfl rfl ?_
  rintro w SM hG0
  obtain ⟨A0, A1, A2, A3, A4, c0, c1, c2, c3, c4, rfl, hG⟩ := kGram_open hG0
  repeat' (first | refine e_nil ?_ | ((refine e_op ?_); (first | refine o_n (peval_sound rfl) rfl ?_ | refine o_n (nl rfl rfl tc rfl) rfl ?_ | refine o_box rfl rfl (fun _ => ?_))) | refine s_seq ?_ | refine s_region ?_)
  exact s_ret ⟨_, _, res1 rfl rfl, ⟨rfl, rfl⟩, Ent.nil _⟩

theorem sums_w (x : Lev) (h1 : I64 x.N) (h2 : I64 x.Kind) : Trip Tryd.prog 20 [.agg #[.int .i64 x.N, .int .i64 x.Kind]] Rd.tt [] (fun v V => ∃ (a0 a1 a2 a3 a4 : Option Addr) (d0 d1 d2 d3 d4 : Nat), v = .agg (gSl (gS x) a0 a1 a2 a3 a4 d0 d1 d2 d3 d4).toArray ∧ V = [rdA kGram (gSl (gS x) a0 a1 a2 a3 a4 d0 d1 d2 d3 d4) (gS x)]) := by
  refine trip Tryd.tabOk Tryd.func20 rfl rfl rfl rfl ?_
  rintro w SM hW
  clear hW
  repeat' (first | refine e_nil ?_ | ((refine e_op ?_); (first | refine o_box rfl rfl (fun _ => ?_) | refine o_alloc rfl rfl (fun _ => ?_))) | refine s_seq ?_ | refine s_region ?_)
  rename_i b1x b2x
  refine s_mk gsM Tryd.mixed (by kernel_rfl) ?_ rfl ?_
  · intro i hi
    match i, hi with
    | 0, _ => exact mk_step [] rfl rfl rfl (by decide +kernel) (fun B U => o_makeS rfl rfl rfl rfl 3 rfl rfl (by decide) (by decide) rfl rfl (fun b => ⟨b, rfl, Ent.refl _⟩))
    | 1, _ => exact mk_step [] rfl rfl rfl (by decide +kernel) (fun B U => o_makeS rfl rfl rfl rfl 3 rfl rfl (by decide) (by decide) rfl rfl (fun b => ⟨b, rfl, Ent.refl _⟩))
    | 2, _ => exact mk_step [] rfl rfl rfl (by decide +kernel) (fun B U => o_makeS rfl rfl rfl rfl 2 rfl rfl (by decide) (by decide) rfl rfl (fun b => ⟨b, rfl, Ent.refl _⟩))
    | 3, _ => exact mk_step [] rfl rfl rfl (by decide +kernel) (fun B U => o_lit rfl rfl rfl rfl rfl rfl rfl (fun b => ⟨b, rfl, Ent.refl _⟩))
    | 4, _ => exact mk_step [3] rfl rfl rfl (by decide +kernel) (fun B U => o_call (p21_w _ _ _ _) rfl .nil Can.tt rfl (by rintro v V ⟨rfl, rfl⟩; exact ⟨0, rfl, Ent.refl _⟩))
    | 5, _ => exact mk_step [] rfl rfl rfl (by decide +kernel) (fun B U => o_lit rfl rfl rfl rfl rfl rfl rfl (fun b => ⟨b, rfl, Ent.refl _⟩))
    | 6, _ => exact mk_step [5] rfl rfl rfl (by decide +kernel) (fun B U => o_call (p21_w _ _ _ _) rfl .nil Can.tt rfl (by rintro v V ⟨rfl, rfl⟩; exact ⟨0, rfl, Ent.refl _⟩))
    | 7, _ => exact mk_step [] rfl rfl rfl (by decide +kernel) (fun B U => o_lit rfl rfl rfl rfl rfl rfl rfl (fun b => ⟨b, rfl, Ent.refl _⟩))
    | 8, _ => exact mk_step [7] rfl rfl rfl (by decide +kernel) (fun B U => o_call (p21_w _ _ _ _) rfl .nil Can.tt rfl (by rintro v V ⟨rfl, rfl⟩; exact ⟨0, rfl, Ent.refl _⟩))
    | 9, _ => exact mk_step [4, 6, 8] rfl rfl rfl (by decide +kernel) (fun B U => o_lit (ps := [(0, pv 0 (sl (B 3) 1)), (1, pv 1 (sl (B 5) 3)), (2, pv 1 (sl (B 7) 1))]) (cs := prC (gsA (B 3) (B 5) (B 7)) (gS zL).Prods) rfl rfl (by kernel_rfl) rfl rfl (by kernel_rfl) rfl (fun b => ⟨b, rfl, Ent.refl _⟩))
    | 10, _ => exact mk_step [0, 1, 2, 9] rfl rfl rfl (by decide +kernel) (fun B U => o_n (peval_sound rfl) rfl ⟨0, rfl, Ent.refl _⟩)
    | 11, _ => exact mk_step [] rfl rfl rfl (by decide +kernel) (fun B U => o_alloc rfl rfl (fun b => ⟨b, rfl, Ent.refl _⟩))
    | n + 12, h => exact absurd h (by simp [gsM])
  · intro B
    refine o_store (b := B 11) (o := 0) (vs := [sl (B 0) 3, sl (B 1) 3, .slice none 0 0, sl (B 2) 2, sl (B 9) 3]) rfl rfl rfl rfl rfl rfl rfl (.s (.s (.s (.s (.s (.s (.s (.z)))))))) ?_
    refine s_weak (fr' := [(3, .pointer (some ⟨B 11, 0, none⟩)), (1, .pointer (some ⟨b1x, 0, none⟩)), (2, .pointer (some ⟨b2x, 0, none⟩))]) (V := [blk (B 11) 27 [sl (B 0) 3, sl (B 1) 3, .slice none 0 0, sl (B 2) 2, sl (B 9) 3], strs (B 0) (gS zL).Terms, levZ (B 1) (gS zL).Levels, strs (B 2) (gS zL).Nons, prS (some ⟨B 9, 0, none⟩) 3 (gsA (B 3) (B 5) (B 7)) (gS zL).Prods, prB (gsA (B 3) (B 5) (B 7)) (gS zL).Prods] ++ [blk b2x 27 [.slice none 0 0, .slice none 0 0, .slice none 0 0, .slice none 0 0, .slice none 0 0], blk b1x 59 [.int .i64 x.N, .int .i64 x.Kind]]) ?_ ?_ ?_
    · repeat' (first | exact Sub.nil _ | refine Sub.cons rfl ?_)
    · refine Ent.tak (.s (.s (.s (.s (.s (.s (.s (.z)))))))) (Ent.cons (Ent.cons (Ent.cons ?_)))
      refine Ent.tak (.s (.s (.s (.z)))) ?_
      exact Ent.trans (Ent.cons (Ent.cons (Ent.cons (Ent.refl _)))) (ent_bun (L := [_, _, _]))
    generalize B 0 = b0, B 1 = b1, B 2 = b2, B 9 = bp, B 11 = bg
    obtain ⟨pacs, hpacs⟩ : ∃ a, a = (gsA (B 3) (B 5) (B 7)) := ⟨_, rfl⟩
    have hlpacs : pacs.length = (gS zL).Prods.length := by rw [hpacs]; rfl
    rw [← hpacs]
    clear hpacs B
    obtain ⟨a, b, c, rfl⟩ : ∃ a b c, pacs = [a, b, c] := by
      match pacs, hlpacs with
      | [a, b, c], _ => exact ⟨a, b, c, rfl⟩
    unfold levZ prS sl
    repeat' (first | ((refine e_op ?_); (first | refine o_n (peval_sound rfl) rfl ?_ | refine o_n (nl rfl rfl tc rfl) rfl ?_)) | refine s_seq ?_ | refine s_region ?_)
    refine e_op (o_n (n_index rfl rfl rfl rfl 2 rfl (by decide)) rfl ?_)
    refine e_op (o_storeO (vs := [.int .i64 x.N, .int .i64 x.Kind]) rfl rfl rfl rfl to uc rfl rfl (by decide) ?_)
    repeat' (first | refine e_nil ?_ | ((refine e_op ?_); (first | refine o_n (peval_sound rfl) rfl ?_ | refine o_n (nl rfl rfl tc rfl) rfl ?_)) | refine s_seq ?_ | refine s_region ?_)
    refine e_op (o_n (n_index rfl rfl rfl rfl 1 rfl (by decide)) rfl ?_)
    repeat' (((refine e_op ?_); (refine o_n (peval_sound rfl) rfl ?_)))
    refine e_op (o_storeO (vs := [.int .i64 x.N, .int .i64 x.Kind]) rfl rfl rfl rfl to uc rfl rfl (by show _ ≤ 12; decide) ?_)
    repeat' (first | refine e_nil ?_ | ((refine e_op ?_); (first | refine o_n (nl rfl rfl tc rfl) rfl ?_ | refine o_storeC rfl rfl rfl rfl tc uc rfl rfl rfl ?_)) | refine s_seq ?_ | refine s_region ?_)
    refine s_ret ⟨_, _, resc rfl rfl rfl TakC.tak rfl, ⟨some ⟨b0, 0, none⟩, some ⟨b1, 0, none⟩, none, some ⟨b2, 0, none⟩, some ⟨bp, 0, none⟩, 3, 3, 0, 2, 3, rfl, rfl⟩, ?_⟩
    refine Ent.trans ?_ (ent_ownG (U := []) (acs := [a, b, c]) rfl (gs_n x h1 h2))
    unfold ownG
    refine Ent.tak (.s (.s (.s (.s .z)))) (Ent.tak (.s .z) (Ent.tak (.s .z) (Ent.osl0 (Ent.tak (.s .z) (Ent.tak (.s .z) (Ent.nil _))))))

/-- What is known of a grammar of sums whose levels decide. -/
structure SumF (g : Gram) : Prop where
  h0 : lrE g = 0
  hE : actE g = 0
  hD : decN g = 1
  hn : (lrKs g).length = 5
  hg : lrGs g = [[-1, 1, -1, -1, 2], [-1, -1, -1, -1, -1], [-1, -1, 3, -1, -1], [-1, 1, -1, -1, 4], [-1, -1, 3, -1, -1]]
theorem sumf1 : SumF (gS ⟨1, 1⟩) := ⟨s1_lrE, s1_e, s1_dec, s1_len, s1_gs⟩
theorem sumf2 : SumF (gS ⟨1, 2⟩) := ⟨s2_lrE, s2_e, s2_dec, s2_len, s2_gs⟩
theorem sumf3 : SumF (gS ⟨1, 3⟩) := ⟨s3_lrE, s3_e, s3_dec, s3_len, s3_gs⟩
theorem actA_get {g : Gram} {s : Nat} (h : s < (actA g).length) : (actA g)[s] = actRow g s := by
  have h2 : s < ((List.range (lrKs g).length).map (actRow g)).length := h
  show ((List.range (lrKs g).length).map (actRow g))[s] = _
  rw [List.getElem_map, List.getElem_range]
theorem actRow_len (g : Gram) (s : Nat) : (actRow g s).length = g.Terms.length := by unfold actRow; simp
theorem actRow_get {g : Gram} {s t : Nat} (h : t < (actRow g s).length) : (actRow g s)[t] = actC g s t := by
  have h2 : t < ((List.range g.Terms.length).map (actC g s)).length := h
  show ((List.range g.Terms.length).map (actC g s))[t] = _
  rw [List.getElem_map, List.getElem_range]
theorem actA_len (g : Gram) : (actA g).length = (lrKs g).length := by unfold actA; simp
def sumS (i : Nat) : Nat := [2, 3, 4].getD i 0

theorem sum_w (k : Int) (hk : I64 k) (hF : SumF (gS ⟨1, k⟩)) : Trip Tryd.prog 21 [.int .i64 k] Rd.tt [] (fun v V => v = .tuple #[.agg (encA (actC (gS ⟨1, k⟩) 4 2)).toArray, .bool true] ∧ V = []) := by
  refine trip Tryd.tabOk Tryd.func21 rfl rfl rfl rfl ?_
  rintro w SM hW
  clear hW
  repeat' (first | refine e_nil ?_ | ((refine e_op ?_); (first | refine o_n (peval_sound rfl) rfl ?_ | refine o_alloc rfl rfl (fun _ => ?_))) | refine s_seq ?_ | refine s_region ?_)
  rename_i b2
  refine e_op (o_call (sums_w ⟨1, k⟩ (by unfold I64; simp only; omega) hk) rfl .nil Can.tt rfl ?_)
  rintro v V ⟨a0, a1, a2, a3, a4, d0, d1, d2, d3, d4, rfl, rfl⟩
  simp only [List.cons_append, List.nil_append]
  generalize hgg : gS ⟨1, k⟩ = g at hF ⊢
  have hT3 : g.Terms.length = 3 := by rw [← hgg]; rfl
  have hP3 : g.Prods.length = 3 := by rw [← hgg]; rfl
  have hNo : g.Nons.length = 2 := by rw [← hgg]; rfl
  clear hgg
  repeat' (first | refine e_nil ?_ | ((refine e_op ?_); (first | refine o_n (nl rfl rfl tc rfl) rfl ?_ | refine o_storeC rfl rfl rfl rfl tc uc rfl rfl rfl ?_ | refine o_alloc rfl rfl (fun _ => ?_))) | refine s_seq ?_ | refine s_region ?_)
  refine e_op (o_callC (actOf_w (gSl g a0 a1 a2 a3 a4 d0 d1 d2 d3 d4) g (fun _ => by omega)) rfl pk (Can.rdA (TakA.tak (A := rdA kGram (gSl g a0 a1 a2 a3 a4 d0 d1 d2 d3 d4) g))) rfl ?_)
  rintro v V ⟨x, AA, cA, acs, AG, cG, bcs, AC, cC, rfl, ⟨la, lg, rfl, rfl⟩⟩
  have e1 : pAct g = actA g := by unfold pAct; rw [if_pos hF.hE]
  have e4 : pDec g = 1 := by unfold pDec; rw [if_pos hF.hE, hF.hD]
  have hAn : (actA g).length = 5 := by rw [actA_len, hF.hn]
  rw [e1] at la
  rw [e1, e4, hF.hE, hAn]
  simp only [List.cons_append, List.nil_append]
  repeat' (first | refine e_nil ?_ | ((refine e_op ?_); (first | refine o_n (peval_sound rfl) rfl ?_ | refine o_n (nl rfl rfl tc rfl) rfl ?_ | refine o_storeC rfl rfl rfl rfl tc uc rfl rfl rfl ?_ | refine o_alloc rfl rfl (fun _ => ?_))) | refine s_seq ?_ | refine s_region ?_)
  refine e_op (o_callC (ofP_w (gSl g a0 a1 a2 a3 a4 d0 d1 d2 d3 d4) g (fun _ => by omega)) rfl pk (Can.rdA (TakA.tak (A := rdA kGram (gSl g a0 a1 a2 a3 a4 d0 d1 d2 d3 d4) g))) rfl ?_)
  rintro v V ⟨x, rfl, AK, cK, kcs, AL, cL, lcs, hl, hb, rfl, rfl⟩
  have hgl : (lrGs g).length = 5 := by rw [hF.hg]; rfl
  rw [hF.h0, hF.hn, hgl]
  simp only [List.cons_append, List.nil_append]
  repeat' (first | refine e_nil ?_ | ((first | refine e_op ?_ | refine e_yes rfl ?_); (first | refine o_n (peval_sound rfl) rfl ?_ | refine o_n (nl rfl rfl tc rfl) rfl ?_ | refine o_storeC rfl rfl rfl rfl tc uc rfl rfl rfl ?_ | refine o_alloc rfl rfl (fun _ => ?_))) | refine s_seq ?_ | refine s_region ?_ | refine s_skip ?_ | refine s_false rfl ?_)
  rename_i b4 b5 b7
  have hGF := goF hF.h0
  have hN2 : ∀ (i : Nat) (h : i < 5), ((lrGs g)[i]'(by omega)).length = 5 := fun i h => by rw [hGF.row i (by omega), hT3, hNo]
  refine e_open (TakA.tak (A := gotS AL 5 cL lcs (lrGs g))) (by decide) ?_
  rintro bL rfl
  refine e_open (TakA.tak (A := actS AA 5 cA acs (actA g))) (by decide) ?_
  rintro bA rfl
  refine e_addrs (TakA.tak (A := gotB lcs (lrGs g))) hb (fun hLA => ?_)
  refine e_addrs (TakA.tak (A := actB acs (actA g))) la (fun hAA => ?_)
  have hLx : ∀ (i : Nat) (h : i < 5), ∃ b, (lcs[i]'(by omega)).1 = some ⟨b, 0, none⟩ := fun i h => hLA i (by omega) (by omega) (by rw [hN2 i h]; decide)
  have hLd : ∀ (i : Nat) (h : i < 5) (b : Nat), (lcs[i]'(by omega)).1 = some ⟨b, 0, none⟩ → ∀ e by_ z, loadL ⟨.slice e, 1, by_, z⟩ (rowC lcs (lrGs g)) (0 + i * 1) = some (.slice (some ⟨b, 0, none⟩) 5 (lcs[i]'(by omega)).2) := fun i h b hb2 e by_ z => by
    have := rowC_load hb (i := i) (by omega) (e := e) (bytes := by_) (z := z)
    rw [hb2, hN2 i h] at this; exact this
  have hv : ∀ (i j : Nat) (h : i < 5) (hj : j < 5), ((lrGs g)[i]'(by omega))[j]'(by rw [hN2 i h]; exact hj) = ((([[-1, 1, -1, -1, 2], [-1, -1, -1, -1, -1], [-1, -1, 3, -1, -1], [-1, 1, -1, -1, 4], [-1, -1, 3, -1, -1]] : List (List Int)).getD i []).getD j 0) := fun i j h hj => by
    have e := hF.hg
    have : ∀ (L : List (List Int)) (M : List (List Int)) (hi : i < L.length) (hj : j < L[i].length), L = M → L[i][j] = (M.getD i []).getD j 0 := fun L M hi hj e => by
      subst e
      rw [List.getD_eq_getElem?_getD (l := L.getD i []), List.getD_eq_getElem?_getD (l := L), List.getElem?_eq_getElem hi, Option.getD_some, List.getElem?_eq_getElem hj]; rfl
    exact this _ _ _ _ e
  have hld : ∀ (i j : Nat) (h : i < 5) (hj : j < 5) (by_ : Nat) (z : List Value), loadL ⟨.int .i64, 1, by_, z⟩ (((lrGs g)[i]'(by omega)).map (Value.int .i64)) (0 + j * 1) = some (.int .i64 ((([[-1, 1, -1, -1, 2], [-1, -1, -1, -1, -1], [-1, -1, 3, -1, -1], [-1, 1, -1, -1, 4], [-1, -1, 3, -1, -1]] : List (List Int)).getD i []).getD j 0)) := fun i j h hj by_ z => by
    refine load_cell rfl ?_
    rw [← hv i j h hj, Nat.zero_add, Nat.mul_one, List.getElem?_map, List.getElem?_eq_getElem (by rw [hN2 i h]; exact hj)]; rfl
  obtain ⟨r0, hr0⟩ := hLx 0 (by decide)
  refine e_op (o_n (n_index rfl rfl rfl rfl 0 rfl (by decide)) rfl ?_)
  refine e_op (o_n (no rfl rfl to (hLd 0 (by decide) r0 hr0 _ _ _)) rfl ?_)
  refine e_op (o_n (n_index rfl rfl rfl rfl 4 rfl (by decide)) rfl ?_)
  refine e_op (o_n (n_load_row (v := .int .i64 2) rfl rfl (TakA.tak (A := gotB lcs (lrGs g))) hb 0 (by omega) hr0 (hld 0 4 (by decide) (by decide) _ _)) rfl ?_)
  repeat' (first | refine e_nil ?_ | ((refine e_op ?_); (refine o_n (peval_sound rfl) rfl ?_)) | refine s_seq ?_ | refine s_region ?_ | refine s_block ?_)
  refine s_loopK (ι := {i : Nat // i ≤ 2}) [2, 5, 7] rfl ⟨0, by omega⟩ (fun i => [(10, .int .i64 i.1), (9, .int .i64 (sumS i.1 : Nat))])
    (fun i => [blk b7 41 [.slice AK 5 cK, .slice (some ⟨bL, 0, none⟩) 5 cL], gotS (some ⟨bL, 0, none⟩) 5 cL lcs (lrGs g), gotB lcs (lrGs g), blk b5 36 [.slice (some ⟨bA, 0, none⟩) 5 cA, .slice AG (pGot g).length cG, .slice AC (pCla g).length cC, .int .i64 (1 : Nat)],
      actS (some ⟨bA, 0, none⟩) 5 cA acs (actA g), actB acs (actA g), blk b2 51 [.int .i64 0, .int .i64 0]]) (fun i => 2 - i.1) ?_ ?_ ?_
  · repeat' (first | exact Sub.nil _ | refine Sub.cons rfl ?_)
  · repeat' (first | exact Ent.nil _ | refine Ent.tak tk ?_ | refine Ent.blkC tc rfl ?_)
  rintro ⟨i, hi⟩
  simp only at hi ⊢
  match i, hi with
  | 0, _ =>
    rw [show sumS 0 = 2 from rfl]
    obtain ⟨r2, hr2⟩ := hLx 2 (by decide)
    repeat' (first | refine e_nil ?_ | ((first | refine e_op ?_ | refine e_yes rfl ?_); (refine o_n (peval_sound rfl) rfl ?_)) | refine s_seq ?_ | refine s_region ?_ | refine s_block ?_ | refine s_skip ?_ | refine s_true rfl ?_)
    refine s_anyU Tryd.mixed ?_
    refine a_n 0 rfl (peval_sound rfl) (by decide +kernel) (by (exact Ent.refl _)) rfl ?_
    refine a_n 1 rfl (nl rfl rfl tc rfl) (by decide +kernel) (by (exact Ent.refl _)) rfl ?_
    refine a_n 2 rfl (peval_sound rfl) (by decide +kernel) (by (exact Ent.refl _)) rfl ?_
    refine a_n 3 rfl (n_index rfl rfl rfl rfl 2 rfl (by decide)) (by decide +kernel) (by (exact Ent.refl _)) rfl ?_
    refine a_n 4 rfl (no rfl rfl to (hLd 2 (by decide) r2 hr2 _ _ _)) (by decide +kernel) (by (exact Ent.refl _)) rfl ?_
    refine a_n 6 rfl (peval_sound rfl) (by decide +kernel) (by (exact Ent.refl _)) rfl ?_
    refine a_1 5 (by decide +kernel) rfl rfl (o_lit (cs := [.int .i64 2, .int .i64 4]) rfl rfl rfl rfl rfl rfl rfl (fun bl => ⟨(by (repeat' (first | exact Ent.refl _ | refine Ent.wk ?_))), ?_⟩))
    refine a_n 7 rfl (n_index rfl rfl rfl rfl 0 rfl (by decide)) (by decide +kernel) (by (repeat' (first | exact Ent.refl _ | refine Ent.wk ?_))) rfl ?_
    refine a_1 8 (by decide +kernel) rfl rfl (o_n (no rfl rfl to rfl) rfl ⟨(by (repeat' (first | exact Ent.refl _ | refine Ent.wk ?_))), ?_⟩)
    refine a_n 9 rfl (n_index rfl rfl rfl rfl 2 rfl (by decide)) (by decide +kernel) (by (repeat' (first | exact Ent.refl _ | refine Ent.wk ?_))) rfl ?_
    refine a_n 10 rfl (n_load_row (v := .int .i64 3) rfl rfl (TakA.tak (A := gotB lcs (lrGs g))) hb 2 (by omega) hr2 (hld 2 2 (by decide) (by decide) _ _)) (by decide +kernel) (by (repeat' (first | exact Ent.refl _ | refine Ent.wk ?_))) rfl ?_
    refine a_n 11 rfl (peval_sound rfl) (by decide +kernel) (by (repeat' (first | exact Ent.refl _ | refine Ent.wk ?_))) rfl ?_
    refine a_done (by decide +kernel) ?_
    repeat' (first | refine e_nil ?_ | ((refine e_op ?_); (refine o_n (peval_sound rfl) rfl ?_)) | refine s_region ?_ | refine s_end ?_)
    refine s_back ⟨⟨1, by omega⟩, by simp only; omega, ?_, ?_⟩
    · repeat' (first | exact Sub.nil _ | refine Sub.cons rfl ?_)
    · repeat' (first | exact Ent.nil _ | refine Ent.tak tk ?_)
  | 1, _ =>
    rw [show sumS 1 = 3 from rfl]
    obtain ⟨r3, hr3⟩ := hLx 3 (by decide)
    repeat' (first | refine e_nil ?_ | ((first | refine e_op ?_ | refine e_yes rfl ?_); (refine o_n (peval_sound rfl) rfl ?_)) | refine s_seq ?_ | refine s_region ?_ | refine s_block ?_ | refine s_skip ?_ | refine s_true rfl ?_)
    refine s_anyU Tryd.mixed ?_
    refine a_n 0 rfl (peval_sound rfl) (by decide +kernel) (by (exact Ent.refl _)) rfl ?_
    refine a_n 1 rfl (nl rfl rfl tc rfl) (by decide +kernel) (by (exact Ent.refl _)) rfl ?_
    refine a_n 2 rfl (peval_sound rfl) (by decide +kernel) (by (exact Ent.refl _)) rfl ?_
    refine a_n 3 rfl (n_index rfl rfl rfl rfl 3 rfl (by decide)) (by decide +kernel) (by (exact Ent.refl _)) rfl ?_
    refine a_n 4 rfl (no rfl rfl to (hLd 3 (by decide) r3 hr3 _ _ _)) (by decide +kernel) (by (exact Ent.refl _)) rfl ?_
    refine a_n 6 rfl (peval_sound rfl) (by decide +kernel) (by (exact Ent.refl _)) rfl ?_
    refine a_1 5 (by decide +kernel) rfl rfl (o_lit (cs := [.int .i64 2, .int .i64 4]) rfl rfl rfl rfl rfl rfl rfl (fun bl => ⟨(by (repeat' (first | exact Ent.refl _ | refine Ent.wk ?_))), ?_⟩))
    refine a_n 7 rfl (n_index rfl rfl rfl rfl 1 rfl (by decide)) (by decide +kernel) (by (repeat' (first | exact Ent.refl _ | refine Ent.wk ?_))) rfl ?_
    refine a_1 8 (by decide +kernel) rfl rfl (o_n (no rfl rfl to rfl) rfl ⟨(by (repeat' (first | exact Ent.refl _ | refine Ent.wk ?_))), ?_⟩)
    refine a_n 9 rfl (n_index rfl rfl rfl rfl 4 rfl (by decide)) (by decide +kernel) (by (repeat' (first | exact Ent.refl _ | refine Ent.wk ?_))) rfl ?_
    refine a_n 10 rfl (n_load_row (v := .int .i64 4) rfl rfl (TakA.tak (A := gotB lcs (lrGs g))) hb 3 (by omega) hr3 (hld 3 4 (by decide) (by decide) _ _)) (by decide +kernel) (by (repeat' (first | exact Ent.refl _ | refine Ent.wk ?_))) rfl ?_
    refine a_n 11 rfl (peval_sound rfl) (by decide +kernel) (by (repeat' (first | exact Ent.refl _ | refine Ent.wk ?_))) rfl ?_
    refine a_done (by decide +kernel) ?_
    repeat' (first | refine e_nil ?_ | ((refine e_op ?_); (refine o_n (peval_sound rfl) rfl ?_)) | refine s_region ?_ | refine s_end ?_)
    refine s_back ⟨⟨2, by omega⟩, by simp only; omega, ?_, ?_⟩
    · repeat' (first | exact Sub.nil _ | refine Sub.cons rfl ?_)
    · repeat' (first | exact Ent.nil _ | refine Ent.tak tk ?_)
  | 2, _ =>
    rw [show sumS 2 = 4 from rfl]
    have hrl : ((actA g)[4]'(by omega)).length = 3 := by rw [actA_get, actRow_len, hT3]
    obtain ⟨ra, hra⟩ := hAA 4 (by omega) (by omega) (by rw [hrl]; decide)
    have hl4 := rowC_load la (i := 4) (by omega) (e := 51) (bytes := 24) (z := [.slice none 0 0])
    rw [hrl, hra] at hl4
    have hv4 : (actA g)[4]'(by omega) = actRow g 4 := actA_get _
    have hl5 : ∀ z, loadL ⟨.struct [(0, 1), (1, 1)], 2, 16, z⟩ (encAs ((actA g)[4]'(by omega))) (0 + 2 * 2) = some (.agg (encA (actC g 4 2)).toArray) := fun z => by
      rw [hv4, encAs_load (by rw [actRow_len, hT3]; decide), actRow_get]
    repeat' (first | refine e_nil ?_ | ((first | refine e_op ?_ | refine e_yes rfl ?_); (first | refine o_n (peval_sound rfl) rfl ?_ | refine o_n (nl rfl rfl tc rfl) rfl ?_)) | refine e_noU rfl rfl rfl ?_ | refine s_seq ?_ | refine s_region ?_ | refine s_exit ?_ | refine s_false rfl ?_ | refine x_hit ?_ | refine x_code ?_ | refine x_back ?_)
    refine e_yes rfl (o_n (n_index rfl rfl rfl rfl 4 rfl (by decide)) rfl ?_)
    refine e_yes rfl (o_n (no rfl rfl to hl4) rfl ?_)
    repeat' (first | refine e_nil ?_ | ((first | refine e_op ?_ | refine e_yes rfl ?_); (first | refine o_n (peval_sound rfl) rfl ?_ | refine o_n (nl rfl rfl tc rfl) rfl ?_)) | refine s_seq ?_ | refine s_region ?_ | refine s_skip ?_ | refine s_false rfl ?_)
    refine e_op (o_n (n_index rfl rfl rfl rfl 4 rfl (by decide)) rfl ?_)
    refine e_op (o_n (no rfl rfl to hl4) rfl ?_)
    refine e_op (o_n (n_index rfl rfl rfl rfl 2 rfl (by decide)) rfl ?_)
    refine e_op (o_n (n_load_row rfl rfl (TakA.tak (A := actB acs (actA g))) la 4 (by omega) hra (hl5 _)) rfl ?_)
    repeat' (first | refine e_nil ?_ | ((refine e_op ?_); (first | refine o_n (peval_sound rfl) rfl ?_ | refine o_storeC rfl rfl rfl rfl tc uc rfl rfl rfl ?_)))
    refine s_ret ⟨_, _, resc2 rfl rfl rfl TakC.tak (ld_all (n := 2) rfl rfl rfl rfl) rfl, ⟨rfl, rfl⟩, Ent.nil _⟩

/-- The chapter's examples. -/
theorem works21_w : Trip Tryd.prog 7 [] Rd.tt [] (fun v V => v = .bool true ∧ V = []) := by
  refine trip Tryd.tabOk Tryd.func7 rfl rfl rfl rfl ?_
  rintro w SM hW
  clear hW
  have z64 : I64 0 := by unfold I64; omega
  repeat' (first | refine e_nil ?_ | ((refine e_op ?_); (refine o_n (peval_sound rfl) rfl ?_)) | refine s_seq ?_ | refine s_region ?_)
  refine e_op (o_call (sums_w zL z64 z64) rfl .nil Can.tt rfl ?_)
  rintro v V ⟨a0, a1, a2, a3, a4, d0, d1, d2, d3, d4, rfl, rfl⟩
  simp only [List.cons_append, List.nil_append]
  refine e_op (o_callC (actOf_w (gSl (gS zL) a0 a1 a2 a3 a4 d0 d1 d2 d3 d4) (gS zL) (fun _ => by decide)) rfl pk (Can.rdA (TakA.tak (A := rdA kGram (gSl (gS zL) a0 a1 a2 a3 a4 d0 d1 d2 d3 d4) (gS zL)))) rfl ?_)
  rintro v V ⟨x, AA, cA, acs, AG, cG, bcs, AC, cC, rfl, ⟨la, lg, rfl, rfl⟩⟩
  have e1 : pAct (gS zL) = [] := by unfold pAct; rw [s0_e]; rfl
  have e2 : pGot (gS zL) = [] := by unfold pGot; rw [s0_e]; rfl
  have e3 : pCla (gS zL) = [(4, 2)] := by unfold pCla; rw [s0_lrE, s0_cla]; rfl
  have e4 : pDec (gS zL) = 0 := by unfold pDec; rw [s0_e]; rfl
  rw [e1, e2, e3, e4, s0_e]
  simp only [List.cons_append, List.nil_append]
  repeat' (first | refine e_nil ?_ | ((refine e_op ?_); (first | refine o_n (peval_sound rfl) rfl ?_ | refine o_storeC rfl rfl rfl rfl tc uc rfl rfl rfl ?_ | refine o_alloc rfl rfl (fun _ => ?_))) | refine s_seq ?_ | refine s_region ?_)
  refine e_op (o_call (sum_w 1 (by unfold I64; omega) sumf1) rfl .nil Can.tt rfl ?_)
  rintro v V ⟨rfl, rfl⟩
  rw [s1_42]
  simp only [List.cons_append, List.nil_append]
  repeat' (first | refine e_nil ?_ | ((refine e_op ?_); (first | refine o_n (peval_sound rfl) rfl ?_ | refine o_storeC rfl rfl rfl rfl tc uc rfl rfl rfl ?_ | refine o_alloc rfl rfl (fun _ => ?_))) | refine s_seq ?_ | refine s_region ?_)
  refine e_op (o_call (sum_w 2 (by unfold I64; omega) sumf2) rfl .nil Can.tt rfl ?_)
  rintro v V ⟨rfl, rfl⟩
  rw [s2_42]
  simp only [List.cons_append, List.nil_append]
  repeat' (first | refine e_nil ?_ | ((refine e_op ?_); (first | refine o_n (peval_sound rfl) rfl ?_ | refine o_storeC rfl rfl rfl rfl tc uc rfl rfl rfl ?_ | refine o_alloc rfl rfl (fun _ => ?_))) | refine s_seq ?_ | refine s_region ?_)
  refine e_op (o_call (sum_w 3 (by unfold I64; omega) sumf3) rfl .nil Can.tt rfl ?_)
  rintro v V ⟨rfl, rfl⟩
  rw [s3_42]
  simp only [List.cons_append, List.nil_append]
  repeat' (first | refine e_nil ?_ | ((first | refine e_op ?_ | refine e_yes rfl ?_); (first | refine o_n (peval_sound rfl) rfl ?_ | refine o_n (nl rfl rfl tc rfl) rfl ?_ | refine o_storeC rfl rfl rfl rfl tc uc rfl rfl rfl ?_ | refine o_alloc rfl rfl (fun _ => ?_))) | refine s_seq ?_ | refine s_region ?_)
  refine e_open (TakA.tak (A := claS AC [(4, 2)].length cC [(4, 2)])) (by decide) ?_
  rintro bC rfl
  refine e_yes rfl (o_n (n_index rfl rfl rfl rfl 0 rfl (by decide)) rfl ?_)
  repeat' (((refine e_yes rfl ?_); (refine o_n (peval_sound rfl) rfl ?_)))
  refine e_yes rfl (o_n (no rfl rfl to rfl) rfl ?_)
  repeat' (((first | refine e_op ?_ | refine e_yes rfl ?_); (first | refine o_n (peval_sound rfl) rfl ?_ | refine o_n (nl rfl rfl tc rfl) rfl ?_)))
  refine e_yes rfl (o_n (n_eql51 (a := ⟨2, 1⟩) (b := ⟨2, 1⟩) rfl rfl) rfl ?_)
  repeat' (((first | refine e_op ?_ | refine e_yes rfl ?_); (first | refine o_n (peval_sound rfl) rfl ?_ | refine o_n (nl rfl rfl tc rfl) rfl ?_)))
  refine e_yes rfl (o_n (n_eql51 (a := ac0) (b := ac0) rfl rfl) rfl ?_)
  repeat' (first | refine e_nil ?_ | ((refine e_op ?_); (refine o_n (peval_sound rfl) rfl ?_)))
  refine s_ret ⟨_, _, res1 rfl rfl, ⟨rfl, rfl⟩, Ent.nil _⟩

end Go.Proofs.YtcnpjhaedjncdaaDoor

namespace Go.Proofs.YtcnpjhaedjncdaaDoor
set_option linter.all false
open Go.Proofs.YtcnpjhaedjncdaaDoor.E

theorem op3 : Opn Tryd.prog 3 kint := op_int Tryd.underlying3
theorem op9 : Opn Tryd.prog 9 kstr := op_str Tryd.underlying9
theorem op24 : Opn Tryd.prog 49 (kslice 8 kint) := op_slice Tryd.underlying49 (by kernel_rfl) (by kernel_rfl) (by decide) op3
theorem op39 : Opn Tryd.prog 22 (kslice 16 kstr) := op_slice Tryd.underlying22 (by kernel_rfl) (by kernel_rfl) (by decide) op9
theorem op65 : Opn Tryd.prog 59 kLev := op_iso (fun y => ⟨⟨y.1, y.2⟩, rfl⟩) (op_struct Tryd.underlying59 (by kernel_rfl) (ops_cons (by kernel_rfl) op3 rfl (ops_one (by kernel_rfl) op3)))
theorem op40 : Opn Tryd.prog 23 (kslice 16 kLev) := op_slice Tryd.underlying23 (by kernel_rfl) (by kernel_rfl) (by decide) op65
theorem op146 : Opn Tryd.prog 196 kPt := op_iso (fun y => ⟨⟨y.1, y.2⟩, rfl⟩) (op_struct Tryd.underlying196 (by kernel_rfl) (ops_cons (by kernel_rfl) op3 rfl (ops_one (by kernel_rfl) op9)))
theorem op41 : Opn Tryd.prog 24 (kslice 24 kPt) := op_slice Tryd.underlying24 (by kernel_rfl) (by kernel_rfl) (by decide) op146
theorem op67 : Opn Tryd.prog 61 kPrd := op_iso (fun y => ⟨⟨y.1, y.2.1, y.2.2⟩, rfl⟩) (op_struct Tryd.underlying61 (by kernel_rfl) (ops_cons (by kernel_rfl) op3 rfl (ops_cons (by kernel_rfl) op24 rfl (ops_one (by kernel_rfl) op65))))
theorem op42 : Opn Tryd.prog 25 (kslice 48 kPrd) := op_slice Tryd.underlying25 (by kernel_rfl) (by kernel_rfl) (by decide) op67
theorem op44 : Opn Tryd.prog 27 kGram := op_iso (fun y => ⟨⟨y.1, y.2.1, y.2.2.1, y.2.2.2.1, y.2.2.2.2⟩, rfl⟩) (op_struct Tryd.underlying27 (by kernel_rfl)
  (ops_cons (by kernel_rfl) op39 rfl (ops_cons (by kernel_rfl) op40 rfl (ops_cons (by kernel_rfl) op41 rfl (ops_cons (by kernel_rfl) op39 rfl (ops_one (by kernel_rfl) op42))))))

theorem Tryd.laidOut : laidOutB Tryd.prog = true := by kernel_rfl
theorem Tryd.own : ownKnob Tryd.prog.godebug = none := by kernel_rfl

end Go.Proofs.YtcnpjhaedjncdaaDoor

namespace Go.Proofs.YtcnpjhaedjncdaaDoor
set_option linter.all false
open Go.Proofs.YtcnpjhaedjncdaaDoor.E

theorem opI42 : Opn Tryd.prog 89 kItm := op_iso (fun y => ⟨⟨y.1, y.2⟩, rfl⟩) (op_struct Tryd.underlying89 (by kernel_rfl) (ops_cons (by kernel_rfl) op3 rfl (ops_one (by kernel_rfl) op3)))
theorem opI43 : Opn Tryd.prog 90 (kslice 16 kItm) := op_slice Tryd.underlying90 (by kernel_rfl) (by kernel_rfl) (by decide) opI42

end Go.Proofs.YtcnpjhaedjncdaaDoor
