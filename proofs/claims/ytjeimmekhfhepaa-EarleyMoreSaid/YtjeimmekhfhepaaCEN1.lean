/-
  A grammar, copied: all of it one's own.
-/
import Derived.Test.YtjeimmekhfhepaaErBase2
import Derived.Test.YtjeimmekhfhepaaErBase3

namespace Go.Proofs.Ytjeimmekhfhepaa
set_option linter.all false
open Go.Proofs.Ytjeimmekhfhepaa.E

theorem onec_lev : OneC kLev := onec_iso (onec_pair onec_int onec_int)
theorem onec_pt : OneC kPt := onec_iso (onec_pair onec_int onec_str)
def encPt (x : Pt) : List Value := [.int .i64 x.Term, .string x.Pattern]
theorem lev_is (w : World) (S : BSet) (cs : List Value) (x : Lev) (h : kLev.R w S cs x) : cs = encZ x := (kLev_open h).1
theorem pt_is (w : World) (S : BSet) (cs : List Value) (x : Pt) (h : kPt.R w S cs x) : cs = encPt x := by
  obtain ⟨c1, c2, rfl, ⟨rfl, h1⟩, rfl⟩ := h
  rfl

def prL (acs : List (Option Addr × Nat)) (ps : List Prd) : List Asn := List.zipWith (fun ac p => osl 3 1 (.slice ac.1 p.Right.length ac.2) p.Right.length (p.Right.flatMap fun x => [.int .i64 x])) acs ps

theorem prC_snocR {acs : List (Option Addr × Nat)} {ps : List Prd} (h : acs.length = ps.length) (ac : Option Addr × Nat) (p : Prd) : prC (acs ++ [ac]) (ps ++ [p]) = prC acs ps ++ prRow ac p := by
  unfold prC; rw [List.zipWith_append h, List.flatten_append]; simp
theorem prL_snoc {acs : List (Option Addr × Nat)} {ps : List Prd} (h : acs.length = ps.length) (ac : Option Addr × Nat) (p : Prd) :
    prL (acs ++ [ac]) (ps ++ [p]) = prL acs ps ++ [osl 3 1 (.slice ac.1 p.Right.length ac.2) p.Right.length (p.Right.flatMap fun x => [.int .i64 x])] := by
  unfold prL; rw [List.zipWith_append h]; rfl

/-- The four lists of a grammar that hold no lists, one's own. -/
def ownF (g : Gram) (a0 a1 a2 a3 : Option Addr) (d0 d1 d2 d3 : Nat) : List Asn :=
  [osl 9 1 (.slice a0 g.Terms.length d0) g.Terms.length (g.Terms.flatMap fun x => [.string x]), osl 42 2 (.slice a1 g.Levels.length d1) g.Levels.length (g.Levels.flatMap encZ),
    osl 110 2 (.slice a2 g.Pats.length d2) g.Pats.length (g.Pats.flatMap encPt), osl 9 1 (.slice a3 g.Nons.length d3) g.Nons.length (g.Nons.flatMap fun x => [.string x])]

attribute [local irreducible] EVX EVO EVL EV1 NEV
attribute [local irreducible] own osl exA rdA rdL
set_option maxRecDepth 10000
set_option maxHeartbeats 1000000

theorem copyO_w (cs : List Value) (g : Gram) : Trip Try.prog 13 [.agg cs.toArray] (kGram.rd cs g) []
    (fun v V => ∃ (a0 a1 a2 a3 a4 : Option Addr) (d0 d1 d2 d3 d4 : Nat) (acs : List (Option Addr × Nat)), acs.length = g.Prods.length ∧
      v = .agg #[.slice a0 g.Terms.length d0, .slice a1 g.Levels.length d1, .slice a2 g.Pats.length d2, .slice a3 g.Nons.length d3, .slice a4 g.Prods.length d4] ∧
      V = osl 44 4 (.slice a4 g.Prods.length d4) g.Prods.length (prC acs g.Prods) :: (ownF g a0 a1 a2 a3 d0 d1 d2 d3 ++ prL acs g.Prods)) := by
  refine trip Try.tabOk Try.func13 rfl rfl rfl rfl ?_
  intro w SM hR
  obtain ⟨A0, A1, A2, A3, A4, c0, c1, c2, c3, c4, rfl, hG⟩ := kGram_open hR
  have hT := hG.terms.2.1
  have hL := hG.levels.2.1
  have hPt := hG.pats.2.1
  have hN := hG.nons.2.1
  have hP := hG.prods.2.1
  have hT' := sl_mk hG.terms
  have hL' := sl_mk hG.levels
  have hPt' := sl_mk hG.pats
  have hN' := sl_mk hG.nons
  repeat' (first | refine e_nil ?_ | ((refine e_op ?_); (first | refine o_box rfl rfl (fun _ => ?_) | refine o_alloc rfl rfl (fun _ => ?_))) | refine s_seq ?_ | refine s_region ?_)
  rename_i b1 b2
  refine s_anyU Try.mixed ?_
  refine a_join (ι := Nat × (Option Addr × Nat) × (Option Addr × Nat) × (Option Addr × Nat) × (Option Addr × Nat))
    (fun x => [(1, .pointer (some ⟨b1, 0, none⟩)), (2, .pointer (some ⟨b2, 0, none⟩)), (3, .pointer (some ⟨x.1, 0, none⟩))])
    (fun x => blk x.1 27 [.slice x.2.1.1 g.Terms.length x.2.1.2, .slice x.2.2.1.1 g.Levels.length x.2.2.1.2, .slice x.2.2.2.1.1 g.Pats.length x.2.2.2.1.2, .slice x.2.2.2.2.1 g.Nons.length x.2.2.2.2.2, .slice none 0 0] ::
      blk b2 27 [.slice none 0 0, .slice none 0 0, .slice none 0 0, .slice none 0 0, .slice none 0 0] ::
      blk b1 27 [.slice A0 g.Terms.length c0, .slice A1 g.Levels.length c1, .slice A2 g.Pats.length c2, .slice A3 g.Nons.length c3, .slice A4 g.Prods.length c4] ::
      ownF g x.2.1.1 x.2.2.1.1 x.2.2.2.1.1 x.2.2.2.2.1 x.2.1.2 x.2.2.1.2 x.2.2.2.1.2 x.2.2.2.2.2) ?_ (fun hfin => ?_)
  · rintro ⟨b3, ⟨a0, d0⟩, ⟨a1, d1⟩, ⟨a2, d2⟩, a3, d3⟩
    simp only
    repeat' (first | refine e_nil ?_ | ((refine e_op ?_); (refine o_n (peval_sound rfl) rfl ?_)) | refine s_seq ?_ | refine s_region ?_ | refine s_block ?_)
    refine s_loopK (ι := {x : Nat × Option Addr × Nat × List (Option Addr × Nat) // x.1 ≤ g.Prods.length ∧ x.2.2.2.length = x.1}) [1, 2, 3] rfl ⟨(0, none, 0, []), by simp⟩ (fun x => [(4, .int .i64 x.1.1)])
      (fun x => blk b3 27 [.slice a0 g.Terms.length d0, .slice a1 g.Levels.length d1, .slice a2 g.Pats.length d2, .slice a3 g.Nons.length d3, .slice x.1.2.1 x.1.1 x.1.2.2.1] ::
        blk b2 27 [.slice none 0 0, .slice none 0 0, .slice none 0 0, .slice none 0 0, .slice none 0 0] ::
        blk b1 27 [.slice A0 g.Terms.length c0, .slice A1 g.Levels.length c1, .slice A2 g.Pats.length c2, .slice A3 g.Nons.length c3, .slice A4 g.Prods.length c4] ::
        osl 44 4 (.slice x.1.2.1 x.1.1 x.1.2.2.1) x.1.1 (prC x.1.2.2.2 (g.Prods.take x.1.1)) ::
        (ownF g a0 a1 a2 a3 d0 d1 d2 d3 ++ prL x.1.2.2.2 (g.Prods.take x.1.1)))
      (fun x => g.Prods.length - x.1.1) ?_ ?_ ?_
    · repeat' (first | exact Sub.nil _ | refine Sub.cons rfl ?_)
    · refine Ent.tak .z (Ent.tak .z (Ent.tak .z (Ent.osl0 ?_)))
      exact Ent.refl _
    rintro ⟨⟨i, Ap, cp, acs⟩, hi, hacs⟩
    simp only at hi hacs ⊢
    repeat' (first | refine e_nil ?_ | ((refine e_op ?_); (first | refine o_n (peval_sound rfl) rfl ?_ | refine o_n (nl rfl rfl tc rfl) rfl ?_)) | refine s_seq ?_ | refine s_region ?_)
    refine s_cond rfl (fun h => ?_) (fun h => ?_)
    · have hlt : i < g.Prods.length := by have := of_decide_eq_true h; omega
      clear h
      obtain ⟨b, o, es, rfl, hb, he, hc⟩ := hG.prods.2.2 i hlt
      obtain ⟨Ar, cr, rfl, hl, hlN, hlK, hri⟩ := kPrd_open he
      have hrl := hri.2.1
      repeat' (first | ((refine e_op ?_); (first | refine o_n (peval_sound rfl) rfl ?_ | refine o_n (nl rfl rfl tc rfl) rfl ?_)) | refine s_seq ?_ | refine s_region ?_ | refine s_block ?_ | refine s_skip ?_)
      refine e_op (o_n (n_index rfl rfl rfl rfl i rfl hlt) rfl ?_)
      refine e_op (o_n (n_load_ro rfl rfl hb (loads_agg rfl rfl hc)) rfl ?_)
      repeat' (first | refine e_nil ?_ | ((refine e_op ?_); (first | refine o_n (peval_sound rfl) rfl ?_ | refine o_n (nl rfl rfl tc rfl) rfl ?_ | refine o_storeC rfl rfl rfl rfl tc uc rfl rfl rfl ?_ | refine o_alloc rfl rfl (fun _ => ?_))) | refine s_seq ?_ | refine s_region ?_)
      rename_i b5
      refine e_op (o_copyO (fun x => [.int .i64 x]) kint_is onec_int rfl rfl rfl rfl rfl (Can.ro (sl_mk hri)) rfl rfl hrl rfl rfl rfl (fun A' c' => ?_))
      repeat' (first | refine e_nil ?_ | ((refine e_op ?_); (first | refine o_n (peval_sound rfl) rfl ?_ | refine o_n (nl rfl rfl tc rfl) rfl ?_ | refine o_storeC rfl rfl rfl rfl tc uc rfl rfl rfl ?_)) | refine s_region ?_)
      refine e_op (o_lit (ps := [(0, .agg #[.int .i64 g.Prods[i].Left, .slice A' g.Prods[i].Right.length c', .int .i64 g.Prods[i].L.N, .int .i64 g.Prods[i].L.Kind])])
        (cs := [.int .i64 g.Prods[i].Left, .slice A' g.Prods[i].Right.length c', .int .i64 g.Prods[i].L.N, .int .i64 g.Prods[i].L.Kind]) rfl rfl rfl rfl rfl rfl rfl (fun b9 => ?_))
      refine e_op (o_append (v := .slice Ap i cp) (n := i) (m := 1) (news := [.int .i64 g.Prods[i].Left, .slice A' g.Prods[i].Right.length c', .int .i64 g.Prods[i].L.N, .int .i64 g.Prods[i].L.Kind]) _ rfl rfl rfl rfl (fun w hm j u hu => ?_) rfl ?_ rfl (by omega)
        (by simp only; omega) (by omega) rfl (fun b c => .s (.s (.s (.s (.s (.s .z)))))) (fun ba ca => ?_))
      · obtain ⟨S1, hP, _⟩ := hm.tak Tak.z
        rw [Nat.zero_add]
        exact osl_cells hP j u hu
      · intro u hu
        simp only [List.mem_cons, List.not_mem_nil, or_false] at hu
        rcases hu with rfl | rfl | rfl | rfl <;> rfl
      repeat' (first | refine e_nil ?_ | ((refine e_op ?_); (first | refine o_n (peval_sound rfl) rfl ?_ | refine o_storeC rfl rfl rfl rfl tc uc rfl rfl rfl ?_)) | refine s_region ?_ | refine s_end ?_)
      have hla : acs.length = (g.Prods.take i).length := by rw [List.length_take]; omega
      refine s_back ⟨⟨(i + 1, some ⟨ba, 0, none⟩, ca, acs ++ [(A', c')]), by simp only; omega, by simp [hacs]⟩, by simp only; omega, ?_, ?_⟩
      · repeat' (first | exact Sub.nil _ | refine Sub.cons rfl ?_ | refine Sub.consE rfl ?_ ?_)
        exact inc (i := i) (by omega)
      · simp only [List.take_succ_eq_append_getElem hlt, prC_snocR hla, prL_snoc hla]
        refine Ent.tak (.s (.s (.s .z))) (Ent.tak (.s (.s (.s .z))) (Ent.tak (.s (.s (.s .z))) (Ent.tak (.s (.s (.s .z))) (Ent.wk ?_))))
        have hm := Ent.mid (A := osl 3 1 (.slice A' g.Prods[i].Right.length c') g.Prods[i].Right.length (g.Prods[i].Right.flatMap fun x => [.int .i64 x])) (L := ownF g a0 a1 a2 a3 d0 d1 d2 d3 ++ prL acs (g.Prods.take i)) (U := [])
        rw [List.append_nil, List.append_assoc] at hm
        exact (Ent.cons (Ent.wk (Ent.refl _))).trans hm
    · have hge : i = g.Prods.length := by have := of_decide_eq_false h; omega
      subst hge
      clear h
      rw [List.take_length]
      repeat' (first | refine e_nil ?_ | ((refine e_op ?_); (first | refine o_n (nl rfl rfl tc rfl) rfl ?_ | refine o_storeC rfl rfl rfl rfl tc uc rfl rfl rfl ?_)) | refine s_seq ?_ | refine s_region ?_ | refine s_exit ?_ | refine x_hit ?_ | refine x_code ?_ | refine x_back ?_)
      refine s_ret ⟨_, _, resc rfl rfl rfl (.s .z) rfl, ⟨_, _, _, _, _, _, _, _, _, _, acs, hacs, rfl, rfl⟩, ?_⟩
      exact Ent.wk (Ent.wk (Ent.wk (Ent.refl _)))
  · refine a_n 0 rfl (peval_sound rfl) (by decide +kernel) (Ent.refl _) rfl ?_
    refine a_n 1 rfl (n_load rfl rfl (.s .z) rfl) (by decide +kernel) (Ent.refl _) rfl ?_
    refine a_n 3 rfl (peval_sound rfl) (by decide +kernel) (Ent.refl _) rfl ?_
    refine a_n 4 rfl (n_load rfl rfl (.s .z) rfl) (by decide +kernel) (Ent.refl _) rfl ?_
    refine a_n 6 rfl (peval_sound rfl) (by decide +kernel) (Ent.refl _) rfl ?_
    refine a_n 7 rfl (n_load rfl rfl (.s .z) rfl) (by decide +kernel) (Ent.refl _) rfl ?_
    refine a_n 9 rfl (peval_sound rfl) (by decide +kernel) (Ent.refl _) rfl ?_
    refine a_n 10 rfl (n_load rfl rfl (.s .z) rfl) (by decide +kernel) (Ent.refl _) rfl ?_
    refine a_2 2 13 (by decide +kernel) rfl rfl rfl rfl (o_copyO (fun x => [.string x]) kstr_is onec_str rfl rfl rfl rfl rfl (Can.ro hT') rfl rfl hT rfl rfl rfl (fun a0 d0 => ⟨(by (repeat' (first | exact Ent.refl _ | refine Ent.wk ?_))), ?_⟩)) (o_alloc rfl rfl (fun b3 => ⟨(by (repeat' (first | exact Ent.refl _ | refine Ent.wk ?_))), ?_⟩))
    · refine a_2 5 13 (by decide +kernel) rfl rfl rfl rfl (o_copyO encZ lev_is onec_lev rfl rfl rfl rfl rfl (Can.ro hL') rfl rfl hL rfl rfl rfl (fun a1 d1 => ⟨(by (repeat' (first | exact Ent.refl _ | refine Ent.wk ?_))), ?_⟩)) (o_alloc rfl rfl (fun b3 => ⟨(by (repeat' (first | exact Ent.refl _ | refine Ent.wk ?_))), ?_⟩))
      · refine a_2 8 13 (by decide +kernel) rfl rfl rfl rfl (o_copyO encPt pt_is onec_pt rfl rfl rfl rfl rfl (Can.ro hPt') rfl rfl hPt rfl rfl rfl (fun a2 d2 => ⟨(by (repeat' (first | exact Ent.refl _ | refine Ent.wk ?_))), ?_⟩)) (o_alloc rfl rfl (fun b3 => ⟨(by (repeat' (first | exact Ent.refl _ | refine Ent.wk ?_))), ?_⟩))
        · refine a_2 11 13 (by decide +kernel) rfl rfl rfl rfl (o_copyO (fun x => [.string x]) kstr_is onec_str rfl rfl rfl rfl rfl (Can.ro hN') rfl rfl hN rfl rfl rfl (fun a3 d3 => ⟨(by (repeat' (first | exact Ent.refl _ | refine Ent.wk ?_))), ?_⟩)) (o_alloc rfl rfl (fun b3 => ⟨(by (repeat' (first | exact Ent.refl _ | refine Ent.wk ?_))), ?_⟩))
          · refine a_n 12 rfl (peval_sound rfl) (by decide +kernel) (by (repeat' (first | exact Ent.refl _ | refine Ent.wk ?_))) rfl ?_
            refine a_1 13 (by decide +kernel) rfl rfl (o_alloc rfl rfl (fun b3 => ⟨(by (repeat' (first | exact Ent.refl _ | refine Ent.wk ?_))), ?_⟩))
            refine a_1 14 (by decide +kernel) rfl rfl (o_store rfl rfl rfl rfl rfl rfl rfl .z ⟨(by (repeat' (first | exact Ent.refl _ | refine Ent.wk ?_))), ?_⟩)
            refine a_done (by decide +kernel) (s_weak ?_ ?_ (hfin (b3, (a0, d0), (a1, d1), (a2, d2), (a3, d3))))
            · repeat' (first | exact Sub.nil _ | refine Sub.cons rfl ?_)
            · repeat' (first | exact Ent.nil _ | refine Ent.tak tk ?_ | refine Ent.blkC tc rfl ?_ | refine Ent.tak .z ?_ | refine Ent.tak (.s .z) ?_ | refine Ent.tak (.s (.s .z)) ?_ | refine Ent.tak (.s (.s (.s .z))) ?_)
          · refine a_1 11 (by decide +kernel) rfl rfl (o_copyO (fun x => [.string x]) kstr_is onec_str rfl rfl rfl rfl rfl (Can.ro hN') rfl rfl hN rfl rfl rfl (fun a3 d3 => ⟨(by (repeat' (first | exact Ent.refl _ | refine Ent.wk ?_))), ?_⟩))
            refine a_n 12 rfl (peval_sound rfl) (by decide +kernel) (by (repeat' (first | exact Ent.refl _ | refine Ent.wk ?_))) rfl ?_
            refine a_1 14 (by decide +kernel) rfl rfl (o_store rfl rfl rfl rfl rfl rfl rfl (.s .z) ⟨(by (repeat' (first | exact Ent.refl _ | refine Ent.wk ?_))), ?_⟩)
            refine a_done (by decide +kernel) (s_weak ?_ ?_ (hfin (b3, (a0, d0), (a1, d1), (a2, d2), (a3, d3))))
            · repeat' (first | exact Sub.nil _ | refine Sub.cons rfl ?_)
            · repeat' (first | exact Ent.nil _ | refine Ent.tak tk ?_ | refine Ent.blkC tc rfl ?_ | refine Ent.tak .z ?_ | refine Ent.tak (.s .z) ?_ | refine Ent.tak (.s (.s .z)) ?_ | refine Ent.tak (.s (.s (.s .z))) ?_)
        · refine a_1 8 (by decide +kernel) rfl rfl (o_copyO encPt pt_is onec_pt rfl rfl rfl rfl rfl (Can.ro hPt') rfl rfl hPt rfl rfl rfl (fun a2 d2 => ⟨(by (repeat' (first | exact Ent.refl _ | refine Ent.wk ?_))), ?_⟩))
          refine a_1 11 (by decide +kernel) rfl rfl (o_copyO (fun x => [.string x]) kstr_is onec_str rfl rfl rfl rfl rfl (Can.ro hN') rfl rfl hN rfl rfl rfl (fun a3 d3 => ⟨(by (repeat' (first | exact Ent.refl _ | refine Ent.wk ?_))), ?_⟩))
          refine a_n 12 rfl (peval_sound rfl) (by decide +kernel) (by (repeat' (first | exact Ent.refl _ | refine Ent.wk ?_))) rfl ?_
          refine a_1 14 (by decide +kernel) rfl rfl (o_store rfl rfl rfl rfl rfl rfl rfl (.s (.s .z)) ⟨(by (repeat' (first | exact Ent.refl _ | refine Ent.wk ?_))), ?_⟩)
          refine a_done (by decide +kernel) (s_weak ?_ ?_ (hfin (b3, (a0, d0), (a1, d1), (a2, d2), (a3, d3))))
          · repeat' (first | exact Sub.nil _ | refine Sub.cons rfl ?_)
          · repeat' (first | exact Ent.nil _ | refine Ent.tak tk ?_ | refine Ent.blkC tc rfl ?_ | refine Ent.tak .z ?_ | refine Ent.tak (.s .z) ?_ | refine Ent.tak (.s (.s .z)) ?_ | refine Ent.tak (.s (.s (.s .z))) ?_)
      · refine a_1 5 (by decide +kernel) rfl rfl (o_copyO encZ lev_is onec_lev rfl rfl rfl rfl rfl (Can.ro hL') rfl rfl hL rfl rfl rfl (fun a1 d1 => ⟨(by (repeat' (first | exact Ent.refl _ | refine Ent.wk ?_))), ?_⟩))
        refine a_1 8 (by decide +kernel) rfl rfl (o_copyO encPt pt_is onec_pt rfl rfl rfl rfl rfl (Can.ro hPt') rfl rfl hPt rfl rfl rfl (fun a2 d2 => ⟨(by (repeat' (first | exact Ent.refl _ | refine Ent.wk ?_))), ?_⟩))
        refine a_1 11 (by decide +kernel) rfl rfl (o_copyO (fun x => [.string x]) kstr_is onec_str rfl rfl rfl rfl rfl (Can.ro hN') rfl rfl hN rfl rfl rfl (fun a3 d3 => ⟨(by (repeat' (first | exact Ent.refl _ | refine Ent.wk ?_))), ?_⟩))
        refine a_n 12 rfl (peval_sound rfl) (by decide +kernel) (by (repeat' (first | exact Ent.refl _ | refine Ent.wk ?_))) rfl ?_
        refine a_1 14 (by decide +kernel) rfl rfl (o_store rfl rfl rfl rfl rfl rfl rfl (.s (.s (.s .z))) ⟨(by (repeat' (first | exact Ent.refl _ | refine Ent.wk ?_))), ?_⟩)
        refine a_done (by decide +kernel) (s_weak ?_ ?_ (hfin (b3, (a0, d0), (a1, d1), (a2, d2), (a3, d3))))
        · repeat' (first | exact Sub.nil _ | refine Sub.cons rfl ?_)
        · repeat' (first | exact Ent.nil _ | refine Ent.tak tk ?_ | refine Ent.blkC tc rfl ?_ | refine Ent.tak .z ?_ | refine Ent.tak (.s .z) ?_ | refine Ent.tak (.s (.s .z)) ?_ | refine Ent.tak (.s (.s (.s .z))) ?_)
    · refine a_1 2 (by decide +kernel) rfl rfl (o_copyO (fun x => [.string x]) kstr_is onec_str rfl rfl rfl rfl rfl (Can.ro hT') rfl rfl hT rfl rfl rfl (fun a0 d0 => ⟨(by (repeat' (first | exact Ent.refl _ | refine Ent.wk ?_))), ?_⟩))
      refine a_1 5 (by decide +kernel) rfl rfl (o_copyO encZ lev_is onec_lev rfl rfl rfl rfl rfl (Can.ro hL') rfl rfl hL rfl rfl rfl (fun a1 d1 => ⟨(by (repeat' (first | exact Ent.refl _ | refine Ent.wk ?_))), ?_⟩))
      refine a_1 8 (by decide +kernel) rfl rfl (o_copyO encPt pt_is onec_pt rfl rfl rfl rfl rfl (Can.ro hPt') rfl rfl hPt rfl rfl rfl (fun a2 d2 => ⟨(by (repeat' (first | exact Ent.refl _ | refine Ent.wk ?_))), ?_⟩))
      refine a_1 11 (by decide +kernel) rfl rfl (o_copyO (fun x => [.string x]) kstr_is onec_str rfl rfl rfl rfl rfl (Can.ro hN') rfl rfl hN rfl rfl rfl (fun a3 d3 => ⟨(by (repeat' (first | exact Ent.refl _ | refine Ent.wk ?_))), ?_⟩))
      refine a_n 12 rfl (peval_sound rfl) (by decide +kernel) (by (repeat' (first | exact Ent.refl _ | refine Ent.wk ?_))) rfl ?_
      refine a_1 14 (by decide +kernel) rfl rfl (o_store rfl rfl rfl rfl rfl rfl rfl (.s (.s (.s (.s .z)))) ⟨(by (repeat' (first | exact Ent.refl _ | refine Ent.wk ?_))), ?_⟩)
      refine a_done (by decide +kernel) (s_weak ?_ ?_ (hfin (b3, (a0, d0), (a1, d1), (a2, d2), (a3, d3))))
      · repeat' (first | exact Sub.nil _ | refine Sub.cons rfl ?_)
      · repeat' (first | exact Ent.nil _ | refine Ent.tak tk ?_ | refine Ent.blkC tc rfl ?_ | refine Ent.tak .z ?_ | refine Ent.tak (.s .z) ?_ | refine Ent.tak (.s (.s .z)) ?_ | refine Ent.tak (.s (.s (.s .z))) ?_)



theorem flat_strs : ∀ l : List ByteArray, (l.flatMap fun x => [Value.string x]) = l.map Value.string
  | [] => rfl
  | x :: l => by rw [List.flatMap_cons, flat_strs l]; rfl
theorem flat_ints : ∀ l : List Int, (l.flatMap fun x => [Value.int .i64 x]) = l.map (Value.int .i64)
  | [] => rfl
  | x :: l => by rw [List.flatMap_cons, flat_ints l]; rfl
theorem prL_row : ∀ (acs : List (Option Addr × Nat)) (ps : List Prd), prL acs ps = rowX (fun l : List Int => l.map (Value.int .i64)) 1 3 acs (ps.map (·.Right))
  | [], _ => by unfold prL rowX; simp
  | _ :: _, [] => by unfold prL rowX; simp
  | a :: acs, p :: ps => by
    have ih := prL_row acs ps
    unfold prL rowX at ih ⊢
    rw [List.map_cons, List.zipWith_cons_cons, List.zipWith_cons_cons, ih]
    unfold rowA
    simp only [flat_ints]

abbrev ogT (a : Option Addr) (d : Nat) (l : List ByteArray) : Asn := osl 9 1 (.slice a l.length d) l.length (l.map Value.string)
abbrev ogL (a : Option Addr) (d : Nat) (l : List Lev) : Asn := osl 42 2 (.slice a l.length d) l.length (l.flatMap encZ)
abbrev ogP (a : Option Addr) (d : Nat) (l : List Pt) : Asn := osl 110 2 (.slice a l.length d) l.length (l.flatMap encPt)
/-- A grammar of one's own. -/
def ownG (g : Gram) (a0 a1 a2 a3 a4 : Option Addr) (d0 d1 d2 d3 d4 : Nat) (acs : List (Option Addr × Nat)) : List Asn :=
  [prS a4 d4 acs g.Prods, ogT a0 d0 g.Terms, ogL a1 d1 g.Levels, ogP a2 d2 g.Pats, ogT a3 d3 g.Nons, prB acs g.Prods]
abbrev gSl (g : Gram) (a0 a1 a2 a3 a4 : Option Addr) (d0 d1 d2 d3 d4 : Nat) : List Value := [.slice a0 g.Terms.length d0, .slice a1 g.Levels.length d1, .slice a2 g.Pats.length d2, .slice a3 g.Nons.length d3, .slice a4 g.Prods.length d4]

theorem copyG_w (cs : List Value) (g : Gram) : Trip Try.prog 13 [.agg cs.toArray] (kGram.rd cs g) []
    (fun v V => ∃ (a0 a1 a2 a3 a4 : Option Addr) (d0 d1 d2 d3 d4 : Nat) (acs : List (Option Addr × Nat)), acs.length = g.Prods.length ∧
      v = .agg (gSl g a0 a1 a2 a3 a4 d0 d1 d2 d3 d4).toArray ∧ V = ownG g a0 a1 a2 a3 a4 d0 d1 d2 d3 d4 acs) :=
  (copyO_w cs g).monoE fun v V ⟨a0, a1, a2, a3, a4, d0, d1, d2, d3, d4, acs, hl, hv, hV⟩ => by
    refine ⟨_, ⟨a0, a1, a2, a3, a4, d0, d1, d2, d3, d4, acs, hl, hv, rfl⟩, ?_⟩
    subst hV
    unfold ownF ownG
    simp only [flat_strs, prL_row]
    refine Ent.cons (Ent.cons (Ent.cons (Ent.cons (Ent.cons ?_))))
    have := ent_bun (L := rowX (fun l : List Int => l.map (Value.int .i64)) 1 3 acs (g.Prods.map (·.Right))) (V := [])
    rw [List.append_nil] at this
    exact this

/-- Numbers that an int can be; lists that are not too long. -/
structure GrN (g : Gram) : Prop where
  p : ∀ p ∈ g.Prods, I64 p.Left ∧ I64 p.L.N ∧ I64 p.L.Kind ∧ (∀ s ∈ p.Right, I64 s) ∧ p.Right.length ≤ 100000
  l : ∀ l ∈ g.Levels, I64 l.N ∧ I64 l.Kind
  t : ∀ t ∈ g.Pats, I64 t.Term
  nT : g.Terms.length ≤ 1000000
  nL : g.Levels.length ≤ 1000000
  nP : g.Pats.length * 24 ≤ 140737488355328
  nN : g.Nons.length ≤ 1000000
  nR : g.Prods.length ≤ 1000000

theorem own_rd {g : Gram} {a0 a1 a2 a3 a4 : Option Addr} {d0 d1 d2 d3 d4 : Nat} {acs : List (Option Addr × Nat)} (hl : acs.length = g.Prods.length) (hg : GrN g) {w : World} {S : BSet} (h : star (ownG g a0 a1 a2 a3 a4 d0 d1 d2 d3 d4 acs) w S) :
    kGram.R w S (gSl g a0 a1 a2 a3 a4 d0 d1 d2 d3 d4) g := by
  unfold ownG at h
  obtain ⟨_, h0, i0⟩ := star_mem (i := 0) rfl h
  obtain ⟨_, h1, i1⟩ := star_mem (i := 1) rfl h
  obtain ⟨_, h2, i2⟩ := star_mem (i := 2) rfl h
  obtain ⟨_, h3, i3⟩ := star_mem (i := 3) rfl h
  obtain ⟨_, h4, i4⟩ := star_mem (i := 4) rfl h
  obtain ⟨_, h5, i5⟩ := star_mem (i := 5) rfl h
  have nT := hg.nT
  have nL := hg.nL
  have nN := hg.nN
  have nR := hg.nR
  refine kGram_mk ⟨?_, ?_, ?_, ?_, ?_⟩
  · obtain ⟨e, _, e2⟩ := osl_els (k := kstr) Value.string rfl (fun _ _ _ => rfl) h1
    exact ⟨e2, by omega, els_mono i1 e⟩
  · have h2' := h2
    unfold ogL at h2'
    rw [List.flatMap_def] at h2'
    obtain ⟨e, e2⟩ := osl_elsG (kd := kLev) (ess := g.Levels.map encZ) h2' i2 (by simp) rfl (fun i g1 g2 => by
      rw [List.getElem_map]
      have := hg.l _ (List.getElem_mem g2)
      exact ⟨[_], [_], rfl, ⟨rfl, this.1⟩, ⟨rfl, this.2⟩⟩)
    exact ⟨e2, by omega, e⟩
  · have h3' := h3
    unfold ogP at h3'
    rw [List.flatMap_def] at h3'
    obtain ⟨e, e2⟩ := osl_elsG (kd := kPt) (ess := g.Pats.map encPt) h3' i3 (by simp) rfl (fun i g1 g2 => by
      rw [List.getElem_map]
      exact ⟨[_], [_], rfl, ⟨rfl, hg.t _ (List.getElem_mem g2)⟩, rfl⟩)
    exact ⟨e2, hg.nP, e⟩
  · obtain ⟨e, _, e2⟩ := osl_els (k := kstr) Value.string rfl (fun _ _ _ => rfl) h4
    exact ⟨e2, by omega, els_mono i4 e⟩
  · obtain ⟨e, e2⟩ := osl_elsG (kd := kPrd) (ess := List.zipWith prRow acs g.Prods) h0 i0 (by simp [hl]) rfl (fun i g1 g2 => by
      rw [List.getElem_zipWith]
      have hi : i < (g.Prods.map (·.Right)).length := by rw [List.length_map]; exact g2
      have hl2 : acs.length = (g.Prods.map (·.Right)).length := by rw [List.length_map]; exact hl
      obtain ⟨S3, h6, i6⟩ := star_mem (rowX_get (f := fun l : List Int => l.map (Value.int .i64)) (sz := 1) (ei := 3) hl2 hi) h5
      obtain ⟨r3, r4, r5, r2, r1⟩ := hg.p _ (List.getElem_mem g2)
      have hri : (g.Prods.map (·.Right))[i] = g.Prods[i].Right := List.getElem_map _
      rw [hri] at h6
      obtain ⟨A', c', e, k1, k2, k3⟩ := can_to (R := (kslice 8 kint).rd _ _) Try.prog (fun E => can_ints .z r2 (by omega)) h6
      simp only [List.cons.injEq, Value.slice.injEq, and_true] at e
      refine kPrd_mk r3 r4 r5 ⟨?_, k2, els_mono (fun b hb => i5 b (i6 b hb)) ?_⟩
      · rw [e.2.2]; exact k1
      · rw [e.1]; exact k3)
    exact ⟨e2, by omega, e⟩
theorem can_ownG {E0 : Go.Proofs.Ytjeimmekhfhepaa.E.Env} {U W : List Asn} {g : Gram} {a0 a1 a2 a3 a4 : Option Addr} {d0 d1 d2 d3 d4 : Nat} {acs : List (Option Addr × Nat)} (hl : acs.length = g.Prods.length) (hg : GrN g) (he : Ent U (ownG g a0 a1 a2 a3 a4 d0 d1 d2 d3 d4 acs ++ W)) :
    Go.Proofs.Ytjeimmekhfhepaa.E.Can E0 U (kGram.rd (gSl g a0 a1 a2 a3 a4 d0 d1 d2 d3 d4) g) := Can.of fun w S hs => by
  obtain ⟨S1, S2, h1, _, _, i1, _⟩ := star_split (he w S hs)
  exact kGram.mono i1 (own_rd hl hg h1)
/-- What is read has numbers and lengths that fit. -/
theorem gr_num {w : World} {S : BSet} {g : Gram} {A0 A1 A2 A3 A4 : Option Addr} {c0 c1 c2 c3 c4 : Nat} (h : GSl w S g A0 A1 A2 A3 A4 c0 c1 c2 c3 c4) (he : checkE g = 0) : GrN g := by
  obtain ⟨_, hwf⟩ := wf0_ofE he
  have hL := gSm he
  have := hL.tt
  have := hL.nn
  have := hL.np
  have := hwf.lev
  refine ⟨fun p hp => ?_, fun l hl => ?_, fun t ht => ?_, by omega, by omega, h.pats.2.1, by omega, by omega⟩
  · obtain ⟨i, hi, rfl⟩ := List.getElem_of_mem hp
    obtain ⟨b, o, es, _, hb, he, hc⟩ := h.prods.2.2 i hi
    obtain ⟨Ar, cr, _, h1, h2, h3, h4⟩ := kPrd_open he
    have := hL.rr i hi
    rw [rhs_at hi] at this
    refine ⟨h1, h2, h3, fun s hs => ?_, by omega⟩
    obtain ⟨j, hj, rfl⟩ := List.getElem_of_mem hs
    obtain ⟨_, _, _, _, _, ⟨_, h5⟩, _⟩ := h4.2.2 j hj
    exact h5
  · obtain ⟨i, hi, rfl⟩ := List.getElem_of_mem hl
    obtain ⟨b, o, es, _, hb, he, hc⟩ := h.levels.2.2 i hi
    exact (kLev_open he).2
  · obtain ⟨i, hi, rfl⟩ := List.getElem_of_mem ht
    obtain ⟨b, o, es, _, hb, ⟨c1, c2, _, ⟨_, h1⟩, _⟩, hc⟩ := h.pats.2.2 i hi
    exact h1

end Go.Proofs.Ytjeimmekhfhepaa
