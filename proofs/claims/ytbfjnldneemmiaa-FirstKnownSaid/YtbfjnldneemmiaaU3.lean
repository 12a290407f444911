/-
  Copies.
-/
import Derived.Test.YtbfjnldneemmiaaV5
import Derived.Test.YtbfjnldneemmiaaE13
namespace Go.Proofs.Ytbfjnldneemmiaa
set_option linter.all false
open Go.Proofs.Ytbfjnldneemmiaa.E
attribute [local irreducible] EVX EVO EVL EV1 NEV
set_option maxRecDepth 10000
set_option maxHeartbeats 1000000

theorem copyInts_w (A : Option Addr) (n c : Nat) (l : List Int) (hn : n = l.length) : Trip Try.prog 29 [.slice A n c] ((kslice 8 kint).rd [.slice A n c] l) []
    (fun v V => ∃ A' c', v = .slice A' n c' ∧ V = [rdA (kslice 8 kint) [.slice A' n c'] l]) := by
  subst hn
  refine trip Try.tabOk Try.func29 rfl rfl rfl rfl ?_
  intro w SM hR
  obtain ⟨A', c', e, h1, h2, h3⟩ := hR
  cases e
  repeat' (first | refine e_nil ?_ | ((first | refine e_op ?_ | refine e_yes rfl ?_); (first | refine o_n (peval_sound rfl) rfl ?_ | refine o_n (n_load rfl rfl .z rfl) rfl ?_ | refine o_n (n_load rfl rfl (.s .z) rfl) rfl ?_ | refine o_n (n_load rfl rfl (.s (.s .z)) rfl) rfl ?_ | refine o_n (n_load rfl rfl (.s (.s (.s .z))) rfl) rfl ?_ | refine o_n (n_load rfl rfl (.s (.s (.s (.s .z)))) rfl) rfl ?_ | refine o_n (n_load rfl rfl (.s (.s (.s (.s (.s .z))))) rfl) rfl ?_ | refine o_store rfl rfl rfl rfl rfl rfl rfl .z ?_ | refine o_store rfl rfl rfl rfl rfl rfl rfl (.s .z) ?_ | refine o_store rfl rfl rfl rfl rfl rfl rfl (.s (.s .z)) ?_ | refine o_store rfl rfl rfl rfl rfl rfl rfl (.s (.s (.s .z))) ?_ | refine o_store rfl rfl rfl rfl rfl rfl rfl (.s (.s (.s (.s .z)))) ?_ | refine o_store rfl rfl rfl rfl rfl rfl rfl (.s (.s (.s (.s (.s .z))))) ?_ | refine o_box rfl rfl (fun _ => ?_) | refine o_box1 rfl rfl rfl (fun _ => ?_) | refine o_alloc rfl rfl (fun _ => ?_))) | refine e_noU rfl rfl rfl ?_ | refine e_noN rfl rfl ?_ | refine s_seq ?_ | refine s_region ?_ | refine s_block ?_ | refine s_end ?_ | refine s_skip ?_ | refine s_exit ?_ | refine s_true rfl ?_ | refine s_false rfl ?_ | refine x_hit ?_ | refine x_code ?_ | refine x_back ?_ | refine x_miss rfl ?_)
  refine e_op (o_copy flat_int onec_int rfl rfl rfl rfl rfl (Can.ro ⟨A, c, rfl, h1, h2, h3⟩) rfl rfl h2 rfl rfl rfl (fun A' c' => ?_))
  repeat' (first | refine e_nil ?_ | ((first | refine e_op ?_ | refine e_yes rfl ?_); (first | refine o_n (peval_sound rfl) rfl ?_ | refine o_n (n_load rfl rfl .z rfl) rfl ?_ | refine o_n (n_load rfl rfl (.s .z) rfl) rfl ?_ | refine o_n (n_load rfl rfl (.s (.s .z)) rfl) rfl ?_ | refine o_n (n_load rfl rfl (.s (.s (.s .z))) rfl) rfl ?_ | refine o_n (n_load rfl rfl (.s (.s (.s (.s .z)))) rfl) rfl ?_ | refine o_n (n_load rfl rfl (.s (.s (.s (.s (.s .z))))) rfl) rfl ?_ | refine o_store rfl rfl rfl rfl rfl rfl rfl .z ?_ | refine o_store rfl rfl rfl rfl rfl rfl rfl (.s .z) ?_ | refine o_store rfl rfl rfl rfl rfl rfl rfl (.s (.s .z)) ?_ | refine o_store rfl rfl rfl rfl rfl rfl rfl (.s (.s (.s .z))) ?_ | refine o_store rfl rfl rfl rfl rfl rfl rfl (.s (.s (.s (.s .z)))) ?_ | refine o_store rfl rfl rfl rfl rfl rfl rfl (.s (.s (.s (.s (.s .z))))) ?_ | refine o_box rfl rfl (fun _ => ?_) | refine o_box1 rfl rfl rfl (fun _ => ?_) | refine o_alloc rfl rfl (fun _ => ?_))) | refine e_noU rfl rfl rfl ?_ | refine e_noN rfl rfl ?_ | refine s_seq ?_ | refine s_region ?_ | refine s_block ?_ | refine s_end ?_ | refine s_skip ?_ | refine s_exit ?_ | refine s_true rfl ?_ | refine s_false rfl ?_ | refine x_hit ?_ | refine x_code ?_ | refine x_back ?_ | refine x_miss rfl ?_)
  exact s_ret ⟨_, _, res1 rfl rfl, ⟨A', c', rfl, rfl⟩, Ent.refl _⟩

theorem flat_lev : Flat kLev := flat_iso (flat_pair flat_int flat_int)
theorem onec_lev : OneC kLev := onec_iso (onec_pair onec_int onec_int)
theorem flat_pt : Flat kPt := flat_iso (flat_pair flat_int flat_str)
theorem onec_pt : OneC kPt := onec_iso (onec_pair onec_int onec_str)

theorem copy_w (cs : List Value) (g : Gram) : Trip Try.prog 28 [.agg cs.toArray] (kGram.rd cs g) [] 
    (fun v V => ∃ (a0 a1 a2 a3 a4 : Option Addr) (d0 d1 d2 d3 d4 : Nat), v = .agg #[.slice a0 g.Terms.length d0, .slice a1 g.Levels.length d1, .slice a2 g.Pats.length d2, .slice a3 g.Nons.length d3, .slice a4 g.Prods.length d4] ∧
      V = [rdA kGram [.slice a0 g.Terms.length d0, .slice a1 g.Levels.length d1, .slice a2 g.Pats.length d2, .slice a3 g.Nons.length d3, .slice a4 g.Prods.length d4] g]) := by
  refine trip Try.tabOk Try.func28 rfl rfl rfl rfl ?_
  intro w SM hR
  obtain ⟨A0, A1, A2, A3, A4, c0, c1, c2, c3, c4, rfl, hG⟩ := kGram_open hR
  have hT := hG.terms.2.1
  have hL := hG.levels.2.1
  have hPt := hG.pats.2.1
  have hN := hG.nons.2.1
  have hP := hG.prods.2.1
  have hT' := sl_mk hG.terms
  have hL' := sl_mk hG.levels
  have hPt' := sl_mk hG.pats
  have hN' := sl_mk hG.nons
  repeat' (first | refine e_nil ?_ | ((first | refine e_op ?_ | refine e_yes rfl ?_); (first | refine o_n (peval_sound rfl) rfl ?_ | refine o_n (n_load rfl rfl .z rfl) rfl ?_ | refine o_n (n_load rfl rfl (.s .z) rfl) rfl ?_ | refine o_n (n_load rfl rfl (.s (.s .z)) rfl) rfl ?_ | refine o_n (n_load rfl rfl (.s (.s (.s .z))) rfl) rfl ?_ | refine o_n (n_load rfl rfl (.s (.s (.s (.s .z)))) rfl) rfl ?_ | refine o_n (n_load rfl rfl (.s (.s (.s (.s (.s .z))))) rfl) rfl ?_ | refine o_store rfl rfl rfl rfl rfl rfl rfl .z ?_ | refine o_store rfl rfl rfl rfl rfl rfl rfl (.s .z) ?_ | refine o_store rfl rfl rfl rfl rfl rfl rfl (.s (.s .z)) ?_ | refine o_store rfl rfl rfl rfl rfl rfl rfl (.s (.s (.s .z))) ?_ | refine o_store rfl rfl rfl rfl rfl rfl rfl (.s (.s (.s (.s .z)))) ?_ | refine o_store rfl rfl rfl rfl rfl rfl rfl (.s (.s (.s (.s (.s .z))))) ?_ | refine o_box rfl rfl (fun _ => ?_) | refine o_box1 rfl rfl rfl (fun _ => ?_) | refine o_alloc rfl rfl (fun _ => ?_))) | refine e_noU rfl rfl rfl ?_ | refine e_noN rfl rfl ?_ | refine s_seq ?_ | refine s_region ?_ | refine s_block ?_ | refine s_end ?_ | refine s_skip ?_ | refine s_exit ?_ | refine s_true rfl ?_ | refine s_false rfl ?_ | refine x_hit ?_ | refine x_code ?_ | refine x_back ?_ | refine x_miss rfl ?_)
  rename_i b1 b2
  refine s_anyU Try.mixed ?_
  refine a_join (ι := Nat × (Option Addr × Nat) × (Option Addr × Nat) × (Option Addr × Nat) × (Option Addr × Nat))
    (fun x => [(1, .pointer (some ⟨b1, 0, none⟩)), (2, .pointer (some ⟨b2, 0, none⟩)), (3, .pointer (some ⟨x.1, 0, none⟩))])
    (fun x => [blk x.1 44 [.slice x.2.1.1 g.Terms.length x.2.1.2, .slice x.2.2.1.1 g.Levels.length x.2.2.1.2, .slice x.2.2.2.1.1 g.Pats.length x.2.2.2.1.2, .slice x.2.2.2.2.1 g.Nons.length x.2.2.2.2.2, .slice none 0 0],
      blk b2 44 [.slice none 0 0, .slice none 0 0, .slice none 0 0, .slice none 0 0, .slice none 0 0],
      blk b1 44 [.slice A0 g.Terms.length c0, .slice A1 g.Levels.length c1, .slice A2 g.Pats.length c2, .slice A3 g.Nons.length c3, .slice A4 g.Prods.length c4],
      rdA (kslice 16 kstr) [.slice x.2.1.1 g.Terms.length x.2.1.2] g.Terms, rdA (kslice 16 kLev) [.slice x.2.2.1.1 g.Levels.length x.2.2.1.2] g.Levels,
      rdA (kslice 24 kPt) [.slice x.2.2.2.1.1 g.Pats.length x.2.2.2.1.2] g.Pats, rdA (kslice 16 kstr) [.slice x.2.2.2.2.1 g.Nons.length x.2.2.2.2.2] g.Nons]) ?_ (fun hfin => ?_)
  · rintro ⟨b3, ⟨a0, d0⟩, ⟨a1, d1⟩, ⟨a2, d2⟩, a3, d3⟩
    simp only
    repeat' (first | refine e_nil ?_ | ((first | refine e_op ?_ | refine e_yes rfl ?_); (first | refine o_n (peval_sound rfl) rfl ?_ | refine o_n (n_load rfl rfl .z rfl) rfl ?_ | refine o_n (n_load rfl rfl (.s .z) rfl) rfl ?_ | refine o_n (n_load rfl rfl (.s (.s .z)) rfl) rfl ?_ | refine o_n (n_load rfl rfl (.s (.s (.s .z))) rfl) rfl ?_ | refine o_n (n_load rfl rfl (.s (.s (.s (.s .z)))) rfl) rfl ?_ | refine o_n (n_load rfl rfl (.s (.s (.s (.s (.s .z))))) rfl) rfl ?_ | refine o_store rfl rfl rfl rfl rfl rfl rfl .z ?_ | refine o_store rfl rfl rfl rfl rfl rfl rfl (.s .z) ?_ | refine o_store rfl rfl rfl rfl rfl rfl rfl (.s (.s .z)) ?_ | refine o_store rfl rfl rfl rfl rfl rfl rfl (.s (.s (.s .z))) ?_ | refine o_store rfl rfl rfl rfl rfl rfl rfl (.s (.s (.s (.s .z)))) ?_ | refine o_store rfl rfl rfl rfl rfl rfl rfl (.s (.s (.s (.s (.s .z))))) ?_ | refine o_box rfl rfl (fun _ => ?_) | refine o_box1 rfl rfl rfl (fun _ => ?_) | refine o_alloc rfl rfl (fun _ => ?_))) | refine e_noU rfl rfl rfl ?_ | refine e_noN rfl rfl ?_ | refine s_seq ?_ | refine s_region ?_ | refine s_block ?_ | refine s_end ?_ | refine s_skip ?_ | refine s_exit ?_ | refine s_true rfl ?_ | refine s_false rfl ?_ | refine x_hit ?_ | refine x_code ?_ | refine x_back ?_ | refine x_miss rfl ?_)
    have ent0 : ∀ {W : List Asn}, Ent W (rdL kPrd [] [] :: W) := ent_nilL
    refine s_loopK (ι := {x : Nat × Option Addr × Nat × List (List Value) // x.1 ≤ g.Prods.length}) [1, 2, 3] rfl ⟨(0, none, 0, []), by simp⟩ (fun x => [(4, .int .i64 x.1.1)])
      (fun x => [blk b3 44 [.slice a0 g.Terms.length d0, .slice a1 g.Levels.length d1, .slice a2 g.Pats.length d2, .slice a3 g.Nons.length d3, .slice x.1.2.1 x.1.1 x.1.2.2.1],
        blk b2 44 [.slice none 0 0, .slice none 0 0, .slice none 0 0, .slice none 0 0, .slice none 0 0],
        blk b1 44 [.slice A0 g.Terms.length c0, .slice A1 g.Levels.length c1, .slice A2 g.Pats.length c2, .slice A3 g.Nons.length c3, .slice A4 g.Prods.length c4],
        osl 67 4 (.slice x.1.2.1 x.1.1 x.1.2.2.1) x.1.1 x.1.2.2.2.flatten, rdL kPrd x.1.2.2.2 (g.Prods.take x.1.1),
        rdA (kslice 16 kstr) [.slice a0 g.Terms.length d0] g.Terms, rdA (kslice 16 kLev) [.slice a1 g.Levels.length d1] g.Levels,
        rdA (kslice 24 kPt) [.slice a2 g.Pats.length d2] g.Pats, rdA (kslice 16 kstr) [.slice a3 g.Nons.length d3] g.Nons])
      (fun x => g.Prods.length - x.1.1) ?_ ?_ ?_
    · repeat' (first | exact Sub.nil _ | refine Sub.cons rfl ?_ | refine Sub.consE rfl ?_ ?_)
    · exact Ent.tak .z (Ent.tak .z (Ent.tak .z (Ent.osl0 ent0)))
    rintro ⟨⟨i, Ap, cp, ess⟩, hi⟩
    simp only at hi ⊢
    repeat' (first | refine e_nil ?_ | ((first | refine e_op ?_ | refine e_yes rfl ?_); (first | refine o_n (peval_sound rfl) rfl ?_ | refine o_n (n_load rfl rfl .z rfl) rfl ?_ | refine o_n (n_load rfl rfl (.s .z) rfl) rfl ?_ | refine o_n (n_load rfl rfl (.s (.s .z)) rfl) rfl ?_ | refine o_n (n_load rfl rfl (.s (.s (.s .z))) rfl) rfl ?_ | refine o_n (n_load rfl rfl (.s (.s (.s (.s .z)))) rfl) rfl ?_ | refine o_n (n_load rfl rfl (.s (.s (.s (.s (.s .z))))) rfl) rfl ?_ | refine o_store rfl rfl rfl rfl rfl rfl rfl .z ?_ | refine o_store rfl rfl rfl rfl rfl rfl rfl (.s .z) ?_ | refine o_store rfl rfl rfl rfl rfl rfl rfl (.s (.s .z)) ?_ | refine o_store rfl rfl rfl rfl rfl rfl rfl (.s (.s (.s .z))) ?_ | refine o_store rfl rfl rfl rfl rfl rfl rfl (.s (.s (.s (.s .z)))) ?_ | refine o_store rfl rfl rfl rfl rfl rfl rfl (.s (.s (.s (.s (.s .z))))) ?_ | refine o_box rfl rfl (fun _ => ?_) | refine o_box1 rfl rfl rfl (fun _ => ?_) | refine o_alloc rfl rfl (fun _ => ?_))) | refine e_noU rfl rfl rfl ?_ | refine e_noN rfl rfl ?_ | refine s_seq ?_ | refine s_region ?_ | refine s_block ?_ | refine s_end ?_ | refine s_skip ?_ | refine s_exit ?_ | refine s_true rfl ?_ | refine s_false rfl ?_ | refine x_hit ?_ | refine x_code ?_ | refine x_back ?_ | refine x_miss rfl ?_)
    refine s_cond rfl (fun h => ?_) (fun h => ?_)
    · have hlt : i < g.Prods.length := by have := of_decide_eq_true h; omega
      clear h
      obtain ⟨b, o, es, rfl, hb, he, hc⟩ := hG.prods.2.2 i hlt
      obtain ⟨Ar, cr, rfl, hl, hlN, hlK, hri⟩ := kPrd_open he
      have hrl := hri.2.1
      repeat' (first | refine e_nil ?_ | ((first | refine e_op ?_ | refine e_yes rfl ?_); (first | refine o_n (peval_sound rfl) rfl ?_ | refine o_n (n_load rfl rfl .z rfl) rfl ?_ | refine o_n (n_load rfl rfl (.s .z) rfl) rfl ?_ | refine o_n (n_load rfl rfl (.s (.s .z)) rfl) rfl ?_ | refine o_n (n_load rfl rfl (.s (.s (.s .z))) rfl) rfl ?_ | refine o_n (n_load rfl rfl (.s (.s (.s (.s .z)))) rfl) rfl ?_ | refine o_n (n_load rfl rfl (.s (.s (.s (.s (.s .z))))) rfl) rfl ?_ | refine o_store rfl rfl rfl rfl rfl rfl rfl .z ?_ | refine o_store rfl rfl rfl rfl rfl rfl rfl (.s .z) ?_ | refine o_store rfl rfl rfl rfl rfl rfl rfl (.s (.s .z)) ?_ | refine o_store rfl rfl rfl rfl rfl rfl rfl (.s (.s (.s .z))) ?_ | refine o_store rfl rfl rfl rfl rfl rfl rfl (.s (.s (.s (.s .z)))) ?_ | refine o_store rfl rfl rfl rfl rfl rfl rfl (.s (.s (.s (.s (.s .z))))) ?_ | refine o_box rfl rfl (fun _ => ?_) | refine o_box1 rfl rfl rfl (fun _ => ?_) | refine o_alloc rfl rfl (fun _ => ?_))) | refine e_noU rfl rfl rfl ?_ | refine e_noN rfl rfl ?_ | refine s_seq ?_ | refine s_region ?_ | refine s_block ?_ | refine s_end ?_ | refine s_skip ?_ | refine s_exit ?_ | refine s_true rfl ?_ | refine s_false rfl ?_ | refine x_hit ?_ | refine x_code ?_ | refine x_back ?_ | refine x_miss rfl ?_)
      refine e_op (o_n (n_index rfl rfl rfl rfl i rfl hlt) rfl ?_)
      refine e_op (o_n (n_load_ro rfl rfl hb (loads_agg rfl rfl hc)) rfl ?_)
      repeat' (first | refine e_nil ?_ | ((first | refine e_op ?_ | refine e_yes rfl ?_); (first | refine o_n (peval_sound rfl) rfl ?_ | refine o_n (n_load rfl rfl .z rfl) rfl ?_ | refine o_n (n_load rfl rfl (.s .z) rfl) rfl ?_ | refine o_n (n_load rfl rfl (.s (.s .z)) rfl) rfl ?_ | refine o_n (n_load rfl rfl (.s (.s (.s .z))) rfl) rfl ?_ | refine o_n (n_load rfl rfl (.s (.s (.s (.s .z)))) rfl) rfl ?_ | refine o_n (n_load rfl rfl (.s (.s (.s (.s (.s .z))))) rfl) rfl ?_ | refine o_store rfl rfl rfl rfl rfl rfl rfl .z ?_ | refine o_store rfl rfl rfl rfl rfl rfl rfl (.s .z) ?_ | refine o_store rfl rfl rfl rfl rfl rfl rfl (.s (.s .z)) ?_ | refine o_store rfl rfl rfl rfl rfl rfl rfl (.s (.s (.s .z))) ?_ | refine o_store rfl rfl rfl rfl rfl rfl rfl (.s (.s (.s (.s .z)))) ?_ | refine o_store rfl rfl rfl rfl rfl rfl rfl (.s (.s (.s (.s (.s .z))))) ?_ | refine o_box rfl rfl (fun _ => ?_) | refine o_box1 rfl rfl rfl (fun _ => ?_) | refine o_alloc rfl rfl (fun _ => ?_))) | refine e_noU rfl rfl rfl ?_ | refine e_noN rfl rfl ?_ | refine s_seq ?_ | refine s_region ?_ | refine s_block ?_ | refine s_end ?_ | refine s_skip ?_ | refine s_exit ?_ | refine s_true rfl ?_ | refine s_false rfl ?_ | refine x_hit ?_ | refine x_code ?_ | refine x_back ?_ | refine x_miss rfl ?_)
      rename_i b5
      refine e_op (o_copy flat_int onec_int rfl rfl rfl rfl rfl (Can.ro (sl_mk hri)) rfl rfl hrl rfl rfl rfl (fun A' c' => ?_))
      repeat' (first | refine e_nil ?_ | ((first | refine e_op ?_ | refine e_yes rfl ?_); (first | refine o_n (peval_sound rfl) rfl ?_ | refine o_n (n_load rfl rfl .z rfl) rfl ?_ | refine o_n (n_load rfl rfl (.s .z) rfl) rfl ?_ | refine o_n (n_load rfl rfl (.s (.s .z)) rfl) rfl ?_ | refine o_n (n_load rfl rfl (.s (.s (.s .z))) rfl) rfl ?_ | refine o_n (n_load rfl rfl (.s (.s (.s (.s .z)))) rfl) rfl ?_ | refine o_n (n_load rfl rfl (.s (.s (.s (.s (.s .z))))) rfl) rfl ?_ | refine o_store rfl rfl rfl rfl rfl rfl rfl .z ?_ | refine o_store rfl rfl rfl rfl rfl rfl rfl (.s .z) ?_ | refine o_store rfl rfl rfl rfl rfl rfl rfl (.s (.s .z)) ?_ | refine o_store rfl rfl rfl rfl rfl rfl rfl (.s (.s (.s .z))) ?_ | refine o_store rfl rfl rfl rfl rfl rfl rfl (.s (.s (.s (.s .z)))) ?_ | refine o_store rfl rfl rfl rfl rfl rfl rfl (.s (.s (.s (.s (.s .z))))) ?_ | refine o_box rfl rfl (fun _ => ?_) | refine o_box1 rfl rfl rfl (fun _ => ?_) | refine o_alloc rfl rfl (fun _ => ?_))) | refine e_noU rfl rfl rfl ?_ | refine e_noN rfl rfl ?_ | refine s_seq ?_ | refine s_region ?_ | refine s_block ?_ | refine s_end ?_ | refine s_skip ?_ | refine s_exit ?_ | refine s_true rfl ?_ | refine s_false rfl ?_ | refine x_hit ?_ | refine x_code ?_ | refine x_back ?_ | refine x_miss rfl ?_)
      refine e_op (o_lit (ps := [(0, .agg #[.int .i64 g.Prods[i].Left, .slice A' g.Prods[i].Right.length c', .int .i64 g.Prods[i].L.N, .int .i64 g.Prods[i].L.Kind])])
        (cs := [.int .i64 g.Prods[i].Left, .slice A' g.Prods[i].Right.length c', .int .i64 g.Prods[i].L.N, .int .i64 g.Prods[i].L.Kind]) rfl rfl rfl rfl rfl rfl rfl (fun b9 => ?_))
      refine e_op (o_append (v := .slice Ap i cp) (n := i) (m := 1) (news := [.int .i64 g.Prods[i].Left, .slice A' g.Prods[i].Right.length c', .int .i64 g.Prods[i].L.N, .int .i64 g.Prods[i].L.Kind]) _ rfl rfl rfl rfl (fun w hm j u hu => ?_) rfl ?_ rfl (by omega)
        (by simp only; omega) (by omega) rfl (fun b c => .s (.s (.s (.s (.s (.s .z)))))) (fun ba ca => ?_))
      · obtain ⟨S1, hP, _⟩ := hm.tak Tak.z
        rw [Nat.zero_add]
        exact osl_cells hP j u hu
      · intro u hu
        simp only [List.mem_cons, List.not_mem_nil, or_false] at hu
        rcases hu with rfl | rfl | rfl | rfl <;> rfl
      repeat' (first | refine e_nil ?_ | ((first | refine e_op ?_ | refine e_yes rfl ?_); (first | refine o_n (peval_sound rfl) rfl ?_ | refine o_n (n_load rfl rfl .z rfl) rfl ?_ | refine o_n (n_load rfl rfl (.s .z) rfl) rfl ?_ | refine o_n (n_load rfl rfl (.s (.s .z)) rfl) rfl ?_ | refine o_n (n_load rfl rfl (.s (.s (.s .z))) rfl) rfl ?_ | refine o_n (n_load rfl rfl (.s (.s (.s (.s .z)))) rfl) rfl ?_ | refine o_n (n_load rfl rfl (.s (.s (.s (.s (.s .z))))) rfl) rfl ?_ | refine o_store rfl rfl rfl rfl rfl rfl rfl .z ?_ | refine o_store rfl rfl rfl rfl rfl rfl rfl (.s .z) ?_ | refine o_store rfl rfl rfl rfl rfl rfl rfl (.s (.s .z)) ?_ | refine o_store rfl rfl rfl rfl rfl rfl rfl (.s (.s (.s .z))) ?_ | refine o_store rfl rfl rfl rfl rfl rfl rfl (.s (.s (.s (.s .z)))) ?_ | refine o_store rfl rfl rfl rfl rfl rfl rfl (.s (.s (.s (.s (.s .z))))) ?_ | refine o_box rfl rfl (fun _ => ?_) | refine o_box1 rfl rfl rfl (fun _ => ?_) | refine o_alloc rfl rfl (fun _ => ?_))) | refine e_noU rfl rfl rfl ?_ | refine e_noN rfl rfl ?_ | refine s_seq ?_ | refine s_region ?_ | refine s_block ?_ | refine s_end ?_ | refine s_skip ?_ | refine s_exit ?_ | refine s_true rfl ?_ | refine s_false rfl ?_ | refine x_hit ?_ | refine x_code ?_ | refine x_back ?_ | refine x_miss rfl ?_)
      refine s_back ⟨⟨(i + 1, some ⟨ba, 0, none⟩, ca, ess ++ [[.int .i64 g.Prods[i].Left, .slice A' g.Prods[i].Right.length c', .int .i64 g.Prods[i].L.N, .int .i64 g.Prods[i].L.Kind]]), by simp only; omega⟩, by simp only; omega, ?_, ?_⟩
      · repeat' (first | exact Sub.nil _ | refine Sub.cons rfl ?_ | refine Sub.consE rfl ?_ ?_)
        exact inc (i := i) (by omega)
      · simp only [List.take_succ_eq_append_getElem hlt, List.flatten_append, List.flatten_cons, List.flatten_nil, List.append_nil]
        refine Ent.tak (.s (.s (.s .z))) (Ent.tak (.s (.s (.s .z))) (Ent.tak (.s (.s (.s .z))) (Ent.tak (.s (.s (.s .z))) (Ent.wk ?_))))
        refine Ent.trans (Ent.tak (.s (.s .z)) (Ent.refl _)) ?_
        refine Ent.trans (Ent.cons (Ent.one (C := rdA kPrd [.int .i64 g.Prods[i].Left, .slice A' g.Prods[i].Right.length c', .int .i64 g.Prods[i].L.N, .int .i64 g.Prods[i].L.Kind] g.Prods[i]) fun w S h => ?_)) (ent_snoc.trans (Ent.cons (Ent.wk (Ent.refl _))))
        obtain ⟨A2, c2, e, h2⟩ := h
        cases e
        exact kPrd_mk hl hlN hlK h2
    · have hge : i = g.Prods.length := by have := of_decide_eq_false h; omega
      subst hge
      clear h
      rw [List.take_length]
      repeat' (first | refine e_nil ?_ | ((first | refine e_op ?_ | refine e_yes rfl ?_); (first | refine o_n (peval_sound rfl) rfl ?_ | refine o_n (n_load rfl rfl .z rfl) rfl ?_ | refine o_n (n_load rfl rfl (.s .z) rfl) rfl ?_ | refine o_n (n_load rfl rfl (.s (.s .z)) rfl) rfl ?_ | refine o_n (n_load rfl rfl (.s (.s (.s .z))) rfl) rfl ?_ | refine o_n (n_load rfl rfl (.s (.s (.s (.s .z)))) rfl) rfl ?_ | refine o_n (n_load rfl rfl (.s (.s (.s (.s (.s .z))))) rfl) rfl ?_ | refine o_store rfl rfl rfl rfl rfl rfl rfl .z ?_ | refine o_store rfl rfl rfl rfl rfl rfl rfl (.s .z) ?_ | refine o_store rfl rfl rfl rfl rfl rfl rfl (.s (.s .z)) ?_ | refine o_store rfl rfl rfl rfl rfl rfl rfl (.s (.s (.s .z))) ?_ | refine o_store rfl rfl rfl rfl rfl rfl rfl (.s (.s (.s (.s .z)))) ?_ | refine o_store rfl rfl rfl rfl rfl rfl rfl (.s (.s (.s (.s (.s .z))))) ?_ | refine o_box rfl rfl (fun _ => ?_) | refine o_box1 rfl rfl rfl (fun _ => ?_) | refine o_alloc rfl rfl (fun _ => ?_))) | refine e_noU rfl rfl rfl ?_ | refine e_noN rfl rfl ?_ | refine s_seq ?_ | refine s_region ?_ | refine s_block ?_ | refine s_end ?_ | refine s_skip ?_ | refine s_exit ?_ | refine s_true rfl ?_ | refine s_false rfl ?_ | refine x_hit ?_ | refine x_code ?_ | refine x_back ?_ | refine x_miss rfl ?_)
      refine s_ret ⟨_, _, resc rfl rfl rfl (.s .z) rfl, ⟨_, _, _, _, _, _, _, _, _, _, rfl, rfl⟩, ?_⟩
      refine Ent.wk (Ent.wk (Ent.wk ((ent_slice (bytes := 48) (k := kPrd) rfl hP).trans ?_)))
      refine Ent.trans (Ent.tak (.s (.s (.s (.s .z)))) (Ent.refl _)) (ent_pair.trans ?_)
      refine Ent.trans (Ent.tak (.s (.s (.s .z))) (Ent.refl _)) (ent_pair.trans ?_)
      refine Ent.trans (Ent.tak (.s (.s .z)) (Ent.refl _)) (ent_pair.trans ?_)
      refine Ent.trans (Ent.tak (.s .z) (Ent.refl _)) (ent_pair.trans ?_)
      exact Ent.one fun w S h => h
  · refine a_n 0 rfl (peval_sound rfl) (by decide +kernel) (Ent.refl _) rfl ?_
    refine a_n 1 rfl (n_load rfl rfl (.s .z) rfl) (by decide +kernel) (Ent.refl _) rfl ?_
    refine a_n 3 rfl (peval_sound rfl) (by decide +kernel) (Ent.refl _) rfl ?_
    refine a_n 4 rfl (n_load rfl rfl (.s .z) rfl) (by decide +kernel) (Ent.refl _) rfl ?_
    refine a_n 6 rfl (peval_sound rfl) (by decide +kernel) (Ent.refl _) rfl ?_
    refine a_n 7 rfl (n_load rfl rfl (.s .z) rfl) (by decide +kernel) (Ent.refl _) rfl ?_
    refine a_n 9 rfl (peval_sound rfl) (by decide +kernel) (Ent.refl _) rfl ?_
    refine a_n 10 rfl (n_load rfl rfl (.s .z) rfl) (by decide +kernel) (Ent.refl _) rfl ?_
    refine a_2 2 13 (by decide +kernel) rfl rfl rfl rfl (o_copy flat_str onec_str rfl rfl rfl rfl rfl (Can.ro hT') rfl rfl hT rfl rfl rfl (fun a0 d0 => ⟨(by (first | exact Ent.refl _ | assumption | repeat' (first | exact Ent.refl _ | exact Ent.nil _ | refine Ent.tak .z ?_ | refine Ent.wk ?_))), ?_⟩)) (o_alloc rfl rfl (fun b3 => ⟨(by (first | exact Ent.refl _ | assumption | repeat' (first | exact Ent.refl _ | exact Ent.nil _ | refine Ent.tak .z ?_ | refine Ent.wk ?_))), ?_⟩))
    · refine a_2 5 13 (by decide +kernel) rfl rfl rfl rfl (o_copy flat_lev onec_lev rfl rfl rfl rfl rfl (Can.ro hL') rfl rfl hL rfl rfl rfl (fun a1 d1 => ⟨(by (first | exact Ent.refl _ | assumption | repeat' (first | exact Ent.refl _ | exact Ent.nil _ | refine Ent.tak .z ?_ | refine Ent.wk ?_))), ?_⟩)) (o_alloc rfl rfl (fun b3 => ⟨(by (first | exact Ent.refl _ | assumption | repeat' (first | exact Ent.refl _ | exact Ent.nil _ | refine Ent.tak .z ?_ | refine Ent.wk ?_))), ?_⟩))
      · refine a_2 8 13 (by decide +kernel) rfl rfl rfl rfl (o_copy flat_pt onec_pt rfl rfl rfl rfl rfl (Can.ro hPt') rfl rfl hPt rfl rfl rfl (fun a2 d2 => ⟨(by (first | exact Ent.refl _ | assumption | repeat' (first | exact Ent.refl _ | exact Ent.nil _ | refine Ent.tak .z ?_ | refine Ent.wk ?_))), ?_⟩)) (o_alloc rfl rfl (fun b3 => ⟨(by (first | exact Ent.refl _ | assumption | repeat' (first | exact Ent.refl _ | exact Ent.nil _ | refine Ent.tak .z ?_ | refine Ent.wk ?_))), ?_⟩))
        · refine a_2 11 13 (by decide +kernel) rfl rfl rfl rfl (o_copy flat_str onec_str rfl rfl rfl rfl rfl (Can.ro hN') rfl rfl hN rfl rfl rfl (fun a3 d3 => ⟨(by (first | exact Ent.refl _ | assumption | repeat' (first | exact Ent.refl _ | exact Ent.nil _ | refine Ent.tak .z ?_ | refine Ent.wk ?_))), ?_⟩)) (o_alloc rfl rfl (fun b3 => ⟨(by (first | exact Ent.refl _ | assumption | repeat' (first | exact Ent.refl _ | exact Ent.nil _ | refine Ent.tak .z ?_ | refine Ent.wk ?_))), ?_⟩))
          · refine a_n 12 rfl (peval_sound rfl) (by decide +kernel) (by (first | exact Ent.refl _ | assumption | repeat' (first | exact Ent.refl _ | exact Ent.nil _ | refine Ent.tak .z ?_ | refine Ent.wk ?_))) rfl ?_
            refine a_1 13 (by decide +kernel) rfl rfl (o_alloc rfl rfl (fun b3 => ⟨(by (first | exact Ent.refl _ | assumption | repeat' (first | exact Ent.refl _ | exact Ent.nil _ | refine Ent.tak .z ?_ | refine Ent.wk ?_))), ?_⟩))
            refine a_1 14 (by decide +kernel) rfl rfl (o_store rfl rfl rfl rfl rfl rfl rfl .z ⟨(by (first | exact Ent.refl _ | assumption | repeat' (first | exact Ent.refl _ | exact Ent.nil _ | refine Ent.tak .z ?_ | refine Ent.wk ?_))), ?_⟩)
            refine a_done (by decide +kernel) (s_weak ?_ ?_ (hfin (b3, (a0, d0), (a1, d1), (a2, d2), (a3, d3))))
            · repeat' (first | exact Sub.nil _ | refine Sub.cons rfl ?_ | refine Sub.consE rfl ?_ ?_)
            · repeat' (first | exact Ent.nil _ | refine Ent.tak .z ?_ | refine Ent.tak (.s .z) ?_ | refine Ent.tak (.s (.s .z)) ?_ | refine Ent.tak (.s (.s (.s .z))) ?_ | refine Ent.tak (.s (.s (.s (.s .z)))) ?_ | refine Ent.tak (.s (.s (.s (.s (.s .z))))) ?_)
          · refine a_1 11 (by decide +kernel) rfl rfl (o_copy flat_str onec_str rfl rfl rfl rfl rfl (Can.ro hN') rfl rfl hN rfl rfl rfl (fun a3 d3 => ⟨(by (first | exact Ent.refl _ | assumption | repeat' (first | exact Ent.refl _ | exact Ent.nil _ | refine Ent.tak .z ?_ | refine Ent.wk ?_))), ?_⟩))
            refine a_n 12 rfl (peval_sound rfl) (by decide +kernel) (by (first | exact Ent.refl _ | assumption | repeat' (first | exact Ent.refl _ | exact Ent.nil _ | refine Ent.tak .z ?_ | refine Ent.wk ?_))) rfl ?_
            refine a_1 14 (by decide +kernel) rfl rfl (o_store rfl rfl rfl rfl rfl rfl rfl (.s .z) ⟨(by (first | exact Ent.refl _ | assumption | repeat' (first | exact Ent.refl _ | exact Ent.nil _ | refine Ent.tak .z ?_ | refine Ent.wk ?_))), ?_⟩)
            refine a_done (by decide +kernel) (s_weak ?_ ?_ (hfin (b3, (a0, d0), (a1, d1), (a2, d2), (a3, d3))))
            · repeat' (first | exact Sub.nil _ | refine Sub.cons rfl ?_ | refine Sub.consE rfl ?_ ?_)
            · repeat' (first | exact Ent.nil _ | refine Ent.tak .z ?_ | refine Ent.tak (.s .z) ?_ | refine Ent.tak (.s (.s .z)) ?_ | refine Ent.tak (.s (.s (.s .z))) ?_ | refine Ent.tak (.s (.s (.s (.s .z)))) ?_ | refine Ent.tak (.s (.s (.s (.s (.s .z))))) ?_)
        · refine a_1 8 (by decide +kernel) rfl rfl (o_copy flat_pt onec_pt rfl rfl rfl rfl rfl (Can.ro hPt') rfl rfl hPt rfl rfl rfl (fun a2 d2 => ⟨(by (first | exact Ent.refl _ | assumption | repeat' (first | exact Ent.refl _ | exact Ent.nil _ | refine Ent.tak .z ?_ | refine Ent.wk ?_))), ?_⟩))
          refine a_1 11 (by decide +kernel) rfl rfl (o_copy flat_str onec_str rfl rfl rfl rfl rfl (Can.ro hN') rfl rfl hN rfl rfl rfl (fun a3 d3 => ⟨(by (first | exact Ent.refl _ | assumption | repeat' (first | exact Ent.refl _ | exact Ent.nil _ | refine Ent.tak .z ?_ | refine Ent.wk ?_))), ?_⟩))
          refine a_n 12 rfl (peval_sound rfl) (by decide +kernel) (by (first | exact Ent.refl _ | assumption | repeat' (first | exact Ent.refl _ | exact Ent.nil _ | refine Ent.tak .z ?_ | refine Ent.wk ?_))) rfl ?_
          refine a_1 14 (by decide +kernel) rfl rfl (o_store rfl rfl rfl rfl rfl rfl rfl (.s (.s .z)) ⟨(by (first | exact Ent.refl _ | assumption | repeat' (first | exact Ent.refl _ | exact Ent.nil _ | refine Ent.tak .z ?_ | refine Ent.wk ?_))), ?_⟩)
          refine a_done (by decide +kernel) (s_weak ?_ ?_ (hfin (b3, (a0, d0), (a1, d1), (a2, d2), (a3, d3))))
          · repeat' (first | exact Sub.nil _ | refine Sub.cons rfl ?_ | refine Sub.consE rfl ?_ ?_)
          · repeat' (first | exact Ent.nil _ | refine Ent.tak .z ?_ | refine Ent.tak (.s .z) ?_ | refine Ent.tak (.s (.s .z)) ?_ | refine Ent.tak (.s (.s (.s .z))) ?_ | refine Ent.tak (.s (.s (.s (.s .z)))) ?_ | refine Ent.tak (.s (.s (.s (.s (.s .z))))) ?_)
      · refine a_1 5 (by decide +kernel) rfl rfl (o_copy flat_lev onec_lev rfl rfl rfl rfl rfl (Can.ro hL') rfl rfl hL rfl rfl rfl (fun a1 d1 => ⟨(by (first | exact Ent.refl _ | assumption | repeat' (first | exact Ent.refl _ | exact Ent.nil _ | refine Ent.tak .z ?_ | refine Ent.wk ?_))), ?_⟩))
        refine a_1 8 (by decide +kernel) rfl rfl (o_copy flat_pt onec_pt rfl rfl rfl rfl rfl (Can.ro hPt') rfl rfl hPt rfl rfl rfl (fun a2 d2 => ⟨(by (first | exact Ent.refl _ | assumption | repeat' (first | exact Ent.refl _ | exact Ent.nil _ | refine Ent.tak .z ?_ | refine Ent.wk ?_))), ?_⟩))
        refine a_1 11 (by decide +kernel) rfl rfl (o_copy flat_str onec_str rfl rfl rfl rfl rfl (Can.ro hN') rfl rfl hN rfl rfl rfl (fun a3 d3 => ⟨(by (first | exact Ent.refl _ | assumption | repeat' (first | exact Ent.refl _ | exact Ent.nil _ | refine Ent.tak .z ?_ | refine Ent.wk ?_))), ?_⟩))
        refine a_n 12 rfl (peval_sound rfl) (by decide +kernel) (by (first | exact Ent.refl _ | assumption | repeat' (first | exact Ent.refl _ | exact Ent.nil _ | refine Ent.tak .z ?_ | refine Ent.wk ?_))) rfl ?_
        refine a_1 14 (by decide +kernel) rfl rfl (o_store rfl rfl rfl rfl rfl rfl rfl (.s (.s (.s .z))) ⟨(by (first | exact Ent.refl _ | assumption | repeat' (first | exact Ent.refl _ | exact Ent.nil _ | refine Ent.tak .z ?_ | refine Ent.wk ?_))), ?_⟩)
        refine a_done (by decide +kernel) (s_weak ?_ ?_ (hfin (b3, (a0, d0), (a1, d1), (a2, d2), (a3, d3))))
        · repeat' (first | exact Sub.nil _ | refine Sub.cons rfl ?_ | refine Sub.consE rfl ?_ ?_)
        · repeat' (first | exact Ent.nil _ | refine Ent.tak .z ?_ | refine Ent.tak (.s .z) ?_ | refine Ent.tak (.s (.s .z)) ?_ | refine Ent.tak (.s (.s (.s .z))) ?_ | refine Ent.tak (.s (.s (.s (.s .z)))) ?_ | refine Ent.tak (.s (.s (.s (.s (.s .z))))) ?_)
    · refine a_1 2 (by decide +kernel) rfl rfl (o_copy flat_str onec_str rfl rfl rfl rfl rfl (Can.ro hT') rfl rfl hT rfl rfl rfl (fun a0 d0 => ⟨(by (first | exact Ent.refl _ | assumption | repeat' (first | exact Ent.refl _ | exact Ent.nil _ | refine Ent.tak .z ?_ | refine Ent.wk ?_))), ?_⟩))
      refine a_1 5 (by decide +kernel) rfl rfl (o_copy flat_lev onec_lev rfl rfl rfl rfl rfl (Can.ro hL') rfl rfl hL rfl rfl rfl (fun a1 d1 => ⟨(by (first | exact Ent.refl _ | assumption | repeat' (first | exact Ent.refl _ | exact Ent.nil _ | refine Ent.tak .z ?_ | refine Ent.wk ?_))), ?_⟩))
      refine a_1 8 (by decide +kernel) rfl rfl (o_copy flat_pt onec_pt rfl rfl rfl rfl rfl (Can.ro hPt') rfl rfl hPt rfl rfl rfl (fun a2 d2 => ⟨(by (first | exact Ent.refl _ | assumption | repeat' (first | exact Ent.refl _ | exact Ent.nil _ | refine Ent.tak .z ?_ | refine Ent.wk ?_))), ?_⟩))
      refine a_1 11 (by decide +kernel) rfl rfl (o_copy flat_str onec_str rfl rfl rfl rfl rfl (Can.ro hN') rfl rfl hN rfl rfl rfl (fun a3 d3 => ⟨(by (first | exact Ent.refl _ | assumption | repeat' (first | exact Ent.refl _ | exact Ent.nil _ | refine Ent.tak .z ?_ | refine Ent.wk ?_))), ?_⟩))
      refine a_n 12 rfl (peval_sound rfl) (by decide +kernel) (by (first | exact Ent.refl _ | assumption | repeat' (first | exact Ent.refl _ | exact Ent.nil _ | refine Ent.tak .z ?_ | refine Ent.wk ?_))) rfl ?_
      refine a_1 14 (by decide +kernel) rfl rfl (o_store rfl rfl rfl rfl rfl rfl rfl (.s (.s (.s (.s .z)))) ⟨(by (first | exact Ent.refl _ | assumption | repeat' (first | exact Ent.refl _ | exact Ent.nil _ | refine Ent.tak .z ?_ | refine Ent.wk ?_))), ?_⟩)
      refine a_done (by decide +kernel) (s_weak ?_ ?_ (hfin (b3, (a0, d0), (a1, d1), (a2, d2), (a3, d3))))
      · repeat' (first | exact Sub.nil _ | refine Sub.cons rfl ?_ | refine Sub.consE rfl ?_ ?_)
      · repeat' (first | exact Ent.nil _ | refine Ent.tak .z ?_ | refine Ent.tak (.s .z) ?_ | refine Ent.tak (.s (.s .z)) ?_ | refine Ent.tak (.s (.s (.s .z))) ?_ | refine Ent.tak (.s (.s (.s (.s .z)))) ?_ | refine Ent.tak (.s (.s (.s (.s (.s .z))))) ?_)


end Go.Proofs.Ytbfjnldneemmiaa
