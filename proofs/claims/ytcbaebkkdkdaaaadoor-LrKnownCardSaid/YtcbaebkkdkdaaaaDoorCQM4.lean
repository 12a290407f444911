/-
  A number brought between two; an item in a list; items told by numbers.
-/
import Derived.Test.YtcbaebkkdkdaaaaDoorLrBase5
import Derived.Test.YtcbaebkkdkdaaaaDoorCQM0
import Derived.Test.YtcbaebkkdkdaaaaDoorCQPA

namespace Go.Proofs.YtcbaebkkdkdaaaaDoor
set_option linter.all false
open Go.Proofs.YtcbaebkkdkdaaaaDoor.E

section ops
variable {E : Go.Proofs.YtcbaebkkdkdaaaaDoor.E.Env} {fr : Frm} {U : List Asn}
theorem n_quo {x y : Operand} {t t2 : TypeId} {k : IntKind} {a b : Int} (hx : val fr x = some (.int k a)) (hy : val fr y = some (.int k b)) (hb : b ≠ 0) : NEV E (.binOp .quo t x y t2) fr U (.int k (k.wrap (a.tdiv b))) := by
  intro ac w dst ty pos af g hf _
  simp [execOp, hf.eval hx, hf.eval hy, eqGuard, binOp, Op.intDiv, hb]
end ops

attribute [local irreducible] EVX EVO EVL EV1 NEV
attribute [local irreducible] own osl exA rdA rdL
attribute [local irreducible] bldA mapA bun
set_option maxRecDepth 10000
set_option maxHeartbeats 4000000

theorem bring_w (x m : Int) (hx : I64 x) (hm : I64 m) (hm0 : 0 < m) : Trip Tryd.prog 58 [.int .i64 x, .int .i64 m] Rd.tt [] (fun v V => v = .int .i64 (bringN x m) ∧ V = []) := by
  refine trip Tryd.tabOk Tryd.func58 rfl rfl rfl rfl ?_
  rintro w SM hW
  clear hW
  have hb : bringN x m = if x.tmod m < 0 then x.tmod m + m else x.tmod m := by unfold bringN; rw [if_neg (by omega)]
  have h1 := Int.tmod_lt_of_pos x hm0
  have h1' := tmod_gt x hm0
  unfold I64 at hm
  repeat' (first | refine e_nil ?_ | ((first | refine e_op ?_ | refine e_yes rfl ?_); (first | refine o_n (peval_sound rfl) rfl ?_ | refine o_n (nl rfl rfl tc rfl) rfl ?_ | refine o_storeC rfl rfl rfl rfl tc uc rfl rfl rfl ?_ | refine o_box rfl rfl (fun _ => ?_) | refine o_box1 rfl rfl rfl (fun _ => ?_) | refine o_alloc rfl rfl (fun _ => ?_))) | refine e_noU rfl rfl rfl ?_ | refine e_noN rfl rfl ?_ | refine s_seq ?_ | refine s_region ?_ | refine s_block ?_ | refine s_end ?_ | refine s_skip ?_ | refine s_exit ?_ | refine s_true rfl ?_ | refine s_false rfl ?_ | refine x_hit ?_ | refine x_code ?_ | refine x_back ?_ | refine x_miss rfl ?_)
  rw [decide_eq_false (p := m ≤ 0) (by omega)]
  repeat' (first | refine e_nil ?_ | ((first | refine e_op ?_ | refine e_yes rfl ?_); (first | refine o_n (peval_sound rfl) rfl ?_ | refine o_n (nl rfl rfl tc rfl) rfl ?_ | refine o_storeC rfl rfl rfl rfl tc uc rfl rfl rfl ?_ | refine o_box rfl rfl (fun _ => ?_) | refine o_box1 rfl rfl rfl (fun _ => ?_) | refine o_alloc rfl rfl (fun _ => ?_))) | refine e_noU rfl rfl rfl ?_ | refine e_noN rfl rfl ?_ | refine s_seq ?_ | refine s_region ?_ | refine s_block ?_ | refine s_end ?_ | refine s_skip ?_ | refine s_exit ?_ | refine s_true rfl ?_ | refine s_false rfl ?_ | refine x_hit ?_ | refine x_code ?_ | refine x_back ?_ | refine x_miss rfl ?_)
  refine e_op (o_n (n_rem rfl rfl (by omega)) rfl ?_)
  repeat' (first | refine e_nil ?_ | ((first | refine e_op ?_ | refine e_yes rfl ?_); (first | refine o_n (peval_sound rfl) rfl ?_ | refine o_n (nl rfl rfl tc rfl) rfl ?_ | refine o_storeC rfl rfl rfl rfl tc uc rfl rfl rfl ?_ | refine o_box rfl rfl (fun _ => ?_) | refine o_box1 rfl rfl rfl (fun _ => ?_) | refine o_alloc rfl rfl (fun _ => ?_))) | refine e_noU rfl rfl rfl ?_ | refine e_noN rfl rfl ?_ | refine s_seq ?_ | refine s_region ?_ | refine s_block ?_ | refine s_end ?_ | refine s_skip ?_ | refine s_exit ?_ | refine s_true rfl ?_ | refine s_false rfl ?_ | refine x_hit ?_ | refine x_code ?_ | refine x_back ?_ | refine x_miss rfl ?_)
  refine s_cond rfl (fun h => ?_) (fun h => ?_)
  · have h2 := of_decide_eq_true h
    have hw : IntKind.i64.wrap (x.tmod m + m) = x.tmod m + m := by rw [wrap_i64] <;> omega
    repeat' (first | refine e_nil ?_ | ((first | refine e_op ?_ | refine e_yes rfl ?_); (first | refine o_n (peval_sound rfl) rfl ?_ | refine o_n (nl rfl rfl tc rfl) rfl ?_ | refine o_storeC rfl rfl rfl rfl tc uc rfl rfl rfl ?_ | refine o_box rfl rfl (fun _ => ?_) | refine o_box1 rfl rfl rfl (fun _ => ?_) | refine o_alloc rfl rfl (fun _ => ?_))) | refine e_noU rfl rfl rfl ?_ | refine e_noN rfl rfl ?_ | refine s_seq ?_ | refine s_region ?_ | refine s_block ?_ | refine s_end ?_ | refine s_skip ?_ | refine s_exit ?_ | refine s_true rfl ?_ | refine s_false rfl ?_ | refine x_hit ?_ | refine x_code ?_ | refine x_back ?_ | refine x_miss rfl ?_)
    rw [hw]
    refine s_ret ⟨_, _, res1 rfl rfl, ⟨?_, rfl⟩, Ent.nil _⟩
    rw [hb, if_pos h2]
  · have h2 := of_decide_eq_false h
    repeat' (first | refine e_nil ?_ | ((first | refine e_op ?_ | refine e_yes rfl ?_); (first | refine o_n (peval_sound rfl) rfl ?_ | refine o_n (nl rfl rfl tc rfl) rfl ?_ | refine o_storeC rfl rfl rfl rfl tc uc rfl rfl rfl ?_ | refine o_box rfl rfl (fun _ => ?_) | refine o_box1 rfl rfl rfl (fun _ => ?_) | refine o_alloc rfl rfl (fun _ => ?_))) | refine e_noU rfl rfl rfl ?_ | refine e_noN rfl rfl ?_ | refine s_seq ?_ | refine s_region ?_ | refine s_block ?_ | refine s_end ?_ | refine s_skip ?_ | refine s_exit ?_ | refine s_true rfl ?_ | refine s_false rfl ?_ | refine x_hit ?_ | refine x_code ?_ | refine x_back ?_ | refine x_miss rfl ?_)
    refine s_ret ⟨_, _, res1 rfl rfl, ⟨?_, rfl⟩, Ent.nil _⟩
    rw [hb, if_neg h2]

theorem in_w (A : Option Addr) (c : Nat) (l : List Itm) (x : Itm) : Trip Tryd.prog 28 [.slice A l.length c, .agg (encX x).toArray] ((kslice 16 kItm).rd [.slice A l.length c] l) []
    (fun v V => v = .bool (decide (x ∈ l)) ∧ V = []) := by
  refine trip Tryd.tabOk Tryd.func28 rfl rfl rfl rfl ?_
  rintro w SM ⟨A', c', e1, h1⟩
  cases e1
  repeat' (first | refine e_nil ?_ | ((first | refine e_op ?_ | refine e_yes rfl ?_); (first | refine o_n (peval_sound rfl) rfl ?_ | refine o_n (nl rfl rfl tc rfl) rfl ?_ | refine o_storeC rfl rfl rfl rfl tc uc rfl rfl rfl ?_ | refine o_box rfl rfl (fun _ => ?_) | refine o_box1 rfl rfl rfl (fun _ => ?_) | refine o_alloc rfl rfl (fun _ => ?_))) | refine e_noU rfl rfl rfl ?_ | refine e_noN rfl rfl ?_ | refine s_seq ?_ | refine s_region ?_ | refine s_end ?_ | refine s_skip ?_ | refine s_exit ?_ | refine s_true rfl ?_ | refine s_false rfl ?_ | refine x_hit ?_ | refine x_code ?_ | refine x_back ?_ | refine x_miss rfl ?_)
  rename_i b3
  repeat' (first | refine e_nil ?_ | ((first | refine e_op ?_ | refine e_yes rfl ?_); (first | refine o_n (peval_sound rfl) rfl ?_ | refine o_n (nl rfl rfl tc rfl) rfl ?_ | refine o_storeC rfl rfl rfl rfl tc uc rfl rfl rfl ?_ | refine o_box rfl rfl (fun _ => ?_) | refine o_box1 rfl rfl rfl (fun _ => ?_) | refine o_alloc rfl rfl (fun _ => ?_))) | refine e_noU rfl rfl rfl ?_ | refine e_noN rfl rfl ?_ | refine s_seq ?_ | refine s_region ?_ | refine s_block ?_ | refine s_end ?_ | refine s_skip ?_ | refine s_exit ?_ | refine s_true rfl ?_ | refine s_false rfl ?_ | refine x_hit ?_ | refine x_code ?_ | refine x_back ?_ | refine x_miss rfl ?_)
  refine s_loopK (ι := {i : Nat // i ≤ l.length ∧ ∀ j (h : j < l.length), j < i → l[j] ≠ x}) [0, 3] rfl ⟨0, by omega, fun j _ h => absurd h (Nat.not_lt_zero _)⟩ (fun i => [(5, .int .i64 i.1)]) (fun _ => [blk b3 42 (encX x)]) (fun i => l.length - i.1) ?_ (Ent.refl _) ?_
  · repeat' (first | exact Sub.nil _ | refine Sub.cons rfl ?_ | refine Sub.consE rfl ?_ ?_)
  rintro ⟨i, hi, hne⟩
  simp only at hi hne ⊢
  repeat' (first | refine e_nil ?_ | ((first | refine e_op ?_ | refine e_yes rfl ?_); (first | refine o_n (peval_sound rfl) rfl ?_ | refine o_n (nl rfl rfl tc rfl) rfl ?_ | refine o_storeC rfl rfl rfl rfl tc uc rfl rfl rfl ?_ | refine o_box rfl rfl (fun _ => ?_) | refine o_box1 rfl rfl rfl (fun _ => ?_) | refine o_alloc rfl rfl (fun _ => ?_))) | refine e_noU rfl rfl rfl ?_ | refine e_noN rfl rfl ?_ | refine s_seq ?_ | refine s_region ?_ | refine s_block ?_ | refine s_end ?_ | refine s_skip ?_ | refine s_exit ?_ | refine s_true rfl ?_ | refine s_false rfl ?_ | refine x_hit ?_ | refine x_code ?_ | refine x_back ?_ | refine x_miss rfl ?_)
  refine s_cond rfl (fun h => ?_) (fun h => ?_)
  · have hlt : i < l.length := by simpa using h
    obtain ⟨b, o, es, rfl, hb, hx, hc⟩ := h1.2.2 i hlt
    obtain ⟨rfl, _, _⟩ := kItm_open hx
    repeat' (first | refine e_nil ?_ | ((first | refine e_op ?_ | refine e_yes rfl ?_); (first | refine o_n (peval_sound rfl) rfl ?_ | refine o_n (nl rfl rfl tc rfl) rfl ?_ | refine o_storeC rfl rfl rfl rfl tc uc rfl rfl rfl ?_ | refine o_box rfl rfl (fun _ => ?_) | refine o_box1 rfl rfl rfl (fun _ => ?_) | refine o_alloc rfl rfl (fun _ => ?_))) | refine e_noU rfl rfl rfl ?_ | refine e_noN rfl rfl ?_ | refine s_seq ?_ | refine s_region ?_ | refine s_block ?_ | refine s_end ?_ | refine s_skip ?_ | refine s_exit ?_ | refine s_true rfl ?_ | refine s_false rfl ?_ | refine x_hit ?_ | refine x_code ?_ | refine x_back ?_ | refine x_miss rfl ?_)
    refine s_drawU [] Tryd.mixed (by decide +kernel) ?_
    repeat' (first | refine l_nil ?_ | ((first | refine l_no rfl rfl rfl ?_ rfl ?_ | refine l_noN rfl rfl ?_ rfl ?_ | refine l_n (peval_sound rfl) rfl ?_ rfl ?_ | refine l_n (nl rfl rfl tc rfl) rfl ?_ rfl ?_ | refine l_ny rfl (peval_sound rfl) rfl ?_ rfl ?_ | refine l_ny rfl (nl rfl rfl tc rfl) rfl ?_ rfl ?_); · (first | exact Ent.refl _ | assumption | repeat' (first | exact Ent.refl _ | exact Ent.nil _ | refine Ent.tak .z ?_ | refine Ent.wk ?_))))
    refine l_n (n_index rfl rfl rfl rfl i rfl hlt) rfl (Ent.refl _) rfl ?_
    refine l_n (n_load_ro rfl rfl hb (loads_agg rfl rfl hc)) rfl (Ent.refl _) rfl ?_
    repeat' (first | refine l_nil ?_ | ((first | refine l_no rfl rfl rfl ?_ rfl ?_ | refine l_noN rfl rfl ?_ rfl ?_ | refine l_n (peval_sound rfl) rfl ?_ rfl ?_ | refine l_n (nl rfl rfl tc rfl) rfl ?_ rfl ?_ | refine l_ny rfl (peval_sound rfl) rfl ?_ rfl ?_ | refine l_ny rfl (nl rfl rfl tc rfl) rfl ?_ rfl ?_); · (first | exact Ent.refl _ | assumption | repeat' (first | exact Ent.refl _ | exact Ent.nil _ | refine Ent.tak .z ?_ | refine Ent.wk ?_))))
    refine l_n (n_eql42 rfl rfl) rfl (Ent.refl _) rfl ?_
    repeat' (first | refine l_nil ?_ | ((first | refine l_no rfl rfl rfl ?_ rfl ?_ | refine l_noN rfl rfl ?_ rfl ?_ | refine l_n (peval_sound rfl) rfl ?_ rfl ?_ | refine l_n (nl rfl rfl tc rfl) rfl ?_ rfl ?_ | refine l_ny rfl (peval_sound rfl) rfl ?_ rfl ?_ | refine l_ny rfl (nl rfl rfl tc rfl) rfl ?_ rfl ?_); · (first | exact Ent.refl _ | assumption | repeat' (first | exact Ent.refl _ | exact Ent.nil _ | refine Ent.tak .z ?_ | refine Ent.wk ?_))))
    cases h4 : decide (l[i] = x) with
    | true =>
      have h4 := of_decide_eq_true h4
      repeat' (first | refine e_nil ?_ | ((first | refine e_op ?_ | refine e_yes rfl ?_); (first | refine o_n (peval_sound rfl) rfl ?_ | refine o_n (nl rfl rfl tc rfl) rfl ?_ | refine o_storeC rfl rfl rfl rfl tc uc rfl rfl rfl ?_ | refine o_box rfl rfl (fun _ => ?_) | refine o_box1 rfl rfl rfl (fun _ => ?_) | refine o_alloc rfl rfl (fun _ => ?_))) | refine e_noU rfl rfl rfl ?_ | refine e_noN rfl rfl ?_ | refine s_seq ?_ | refine s_region ?_ | refine s_block ?_ | refine s_end ?_ | refine s_skip ?_ | refine s_exit ?_ | refine s_true rfl ?_ | refine s_false rfl ?_ | refine x_hit ?_ | refine x_code ?_ | refine x_back ?_ | refine x_miss rfl ?_)
      refine s_ret ⟨_, _, res1 rfl rfl, ⟨?_, rfl⟩, Ent.nil _⟩
      rw [decide_eq_true (h4 ▸ List.getElem_mem hlt)]
    | false =>
      have h4 := of_decide_eq_false h4
      repeat' (first | refine e_nil ?_ | ((first | refine e_op ?_ | refine e_yes rfl ?_); (first | refine o_n (peval_sound rfl) rfl ?_ | refine o_n (nl rfl rfl tc rfl) rfl ?_ | refine o_storeC rfl rfl rfl rfl tc uc rfl rfl rfl ?_ | refine o_box rfl rfl (fun _ => ?_) | refine o_box1 rfl rfl rfl (fun _ => ?_) | refine o_alloc rfl rfl (fun _ => ?_))) | refine e_noU rfl rfl rfl ?_ | refine e_noN rfl rfl ?_ | refine s_seq ?_ | refine s_region ?_ | refine s_block ?_ | refine s_end ?_ | refine s_skip ?_ | refine s_exit ?_ | refine s_true rfl ?_ | refine s_false rfl ?_ | refine x_hit ?_ | refine x_code ?_ | refine x_back ?_ | refine x_miss rfl ?_)
      refine s_back ⟨⟨i + 1, by omega, fun j h hj => ?_⟩, by simp only; omega, ?_, Ent.refl _⟩
      · by_cases e : j = i
        · subst e; exact h4
        · exact hne j h (by omega)
      · repeat' (first | exact Sub.nil _ | refine Sub.cons rfl ?_ | refine Sub.consE rfl ?_ ?_)
        exact inc (i := i) (by have := h1.2.1; omega)
  · have hlt : i = l.length := by simp at h; omega
    repeat' (first | refine e_nil ?_ | ((first | refine e_op ?_ | refine e_yes rfl ?_); (first | refine o_n (peval_sound rfl) rfl ?_ | refine o_n (nl rfl rfl tc rfl) rfl ?_ | refine o_storeC rfl rfl rfl rfl tc uc rfl rfl rfl ?_ | refine o_box rfl rfl (fun _ => ?_) | refine o_box1 rfl rfl rfl (fun _ => ?_) | refine o_alloc rfl rfl (fun _ => ?_))) | refine e_noU rfl rfl rfl ?_ | refine e_noN rfl rfl ?_ | refine s_seq ?_ | refine s_region ?_ | refine s_block ?_ | refine s_end ?_ | refine s_skip ?_ | refine s_exit ?_ | refine s_true rfl ?_ | refine s_false rfl ?_ | refine x_hit ?_ | refine x_code ?_ | refine x_back ?_ | refine x_miss rfl ?_)
    refine s_ret ⟨_, _, res1 rfl rfl, ⟨?_, rfl⟩, Ent.nil _⟩
    rw [decide_eq_false]
    intro hm
    obtain ⟨j, hj, hjx⟩ := List.getElem_of_mem hm
    exact hne j hj (by omega) hjx

theorem items_w (cs : List Value) (g : Gram) (A : Option Addr) (c : Nat) (a : List Int) (hP : 0 < g.Prods.length) (hL : Lims g) :
    Trip Tryd.prog 27 [.agg cs.toArray, .slice A a.length c] ((kGram.rd cs g).and ((kslice 8 kint).rd [.slice A a.length c] a)) []
      (fun v V => ∃ (A' : Option Addr) (c' : Nat), v = .slice A' (itemsG g a).length c' ∧ V = [pX A' (itemsG g a).length c' (itemsG g a)]) := by
  refine trip Tryd.tabOk Tryd.func27 rfl rfl rfl rfl ?_
  rintro w SM ⟨hG0, ⟨A', c', e1, h1⟩⟩
  cases e1
  obtain ⟨A0, A1, A2, A3, A4, c0, c1, c2, c3, c4, rfl, hG⟩ := kGram_open hG0
  have hp128 := hL.p
  have ha := h1.2.1
  repeat' (first | refine e_nil ?_ | ((first | refine e_op ?_ | refine e_yes rfl ?_); (first | refine o_n (peval_sound rfl) rfl ?_ | refine o_n (nl rfl rfl tc rfl) rfl ?_ | refine o_storeC rfl rfl rfl rfl tc uc rfl rfl rfl ?_ | refine o_box rfl rfl (fun _ => ?_) | refine o_box1 rfl rfl rfl (fun _ => ?_) | refine o_alloc rfl rfl (fun _ => ?_))) | refine e_noU rfl rfl rfl ?_ | refine e_noN rfl rfl ?_ | refine s_seq ?_ | refine s_region ?_ | refine s_end ?_ | refine s_skip ?_ | refine s_exit ?_ | refine s_true rfl ?_ | refine s_false rfl ?_ | refine x_hit ?_ | refine x_code ?_ | refine x_back ?_ | refine x_miss rfl ?_)
  rename_i b2
  refine s_ent (Ent.osl0 (e := 42) (sz := 2) (Ent.refl _)) ?_
  repeat' (first | refine e_nil ?_ | ((first | refine e_op ?_ | refine e_yes rfl ?_); (first | refine o_n (peval_sound rfl) rfl ?_ | refine o_n (nl rfl rfl tc rfl) rfl ?_ | refine o_storeC rfl rfl rfl rfl tc uc rfl rfl rfl ?_ | refine o_box rfl rfl (fun _ => ?_) | refine o_box1 rfl rfl rfl (fun _ => ?_) | refine o_alloc rfl rfl (fun _ => ?_))) | refine e_noU rfl rfl rfl ?_ | refine e_noN rfl rfl ?_ | refine s_seq ?_ | refine s_region ?_ | refine s_block ?_ | refine s_end ?_ | refine s_skip ?_ | refine s_exit ?_ | refine s_true rfl ?_ | refine s_false rfl ?_ | refine x_hit ?_ | refine x_code ?_ | refine x_back ?_ | refine x_miss rfl ?_)
  refine s_loopK (ι := {x : Nat × Option Addr × Nat // x.1 ≤ a.length ∧ x.1 ≤ 30}) [1, 2] rfl ⟨(0, none, 0), by omega, by omega⟩ (fun x => [(6, .int .i64 x.1.1), (5, .slice x.1.2.1 x.1.1 x.1.2.2)])
    (fun x => [pX x.1.2.1 x.1.1 x.1.2.2 ((a.take x.1.1).map (itemN g)), blk b2 27 [.slice A0 g.Terms.length c0, .slice A1 g.Levels.length c1, .slice A2 g.Pats.length c2, .slice A3 g.Nons.length c3, .slice A4 g.Prods.length c4]]) (fun x => 30 - x.1.1) ?_ (Ent.refl _) ?_
  · repeat' (first | exact Sub.nil _ | refine Sub.cons rfl ?_ | refine Sub.consE rfl ?_ ?_)
  rintro ⟨⟨i, Ao, co⟩, hi, h30⟩
  simp only at hi h30 ⊢
  repeat' (first | refine e_nil ?_ | ((first | refine e_op ?_ | refine e_yes rfl ?_); (first | refine o_n (peval_sound rfl) rfl ?_ | refine o_n (nl rfl rfl tc rfl) rfl ?_ | refine o_storeC rfl rfl rfl rfl tc uc rfl rfl rfl ?_ | refine o_box rfl rfl (fun _ => ?_) | refine o_box1 rfl rfl rfl (fun _ => ?_) | refine o_alloc rfl rfl (fun _ => ?_))) | refine e_noU rfl rfl rfl ?_ | refine e_noN rfl rfl ?_ | refine s_seq ?_ | refine s_region ?_ | refine s_block ?_ | refine s_end ?_ | refine s_skip ?_ | refine s_exit ?_ | refine s_true rfl ?_ | refine s_false rfl ?_ | refine x_hit ?_ | refine x_code ?_ | refine x_back ?_ | refine x_miss rfl ?_)
  have hexit : ∀ e : itemsG g a = (a.take i).map (itemN g), (itemsG g a).length = i := fun e => by rw [e, List.length_map, List.length_take]; omega
  by_cases hla : i < a.length
  · rw [decide_eq_true (p := (i : Int) < (a.length : Int)) (by omega)]
    repeat' (first | refine e_nil ?_ | ((first | refine e_op ?_ | refine e_yes rfl ?_); (first | refine o_n (peval_sound rfl) rfl ?_ | refine o_n (nl rfl rfl tc rfl) rfl ?_ | refine o_storeC rfl rfl rfl rfl tc uc rfl rfl rfl ?_ | refine o_box rfl rfl (fun _ => ?_) | refine o_box1 rfl rfl rfl (fun _ => ?_) | refine o_alloc rfl rfl (fun _ => ?_))) | refine e_noU rfl rfl rfl ?_ | refine e_noN rfl rfl ?_ | refine s_seq ?_ | refine s_region ?_ | refine s_block ?_ | refine s_end ?_ | refine s_skip ?_ | refine s_exit ?_ | refine s_true rfl ?_ | refine s_false rfl ?_ | refine x_hit ?_ | refine x_code ?_ | refine x_back ?_ | refine x_miss rfl ?_)
    by_cases hl30 : i < 30
    · rw [decide_eq_true (p := (i : Int) < 30) (by omega)]
      repeat' (first | refine e_nil ?_ | ((first | refine e_op ?_ | refine e_yes rfl ?_); (first | refine o_n (peval_sound rfl) rfl ?_ | refine o_n (nl rfl rfl tc rfl) rfl ?_ | refine o_storeC rfl rfl rfl rfl tc uc rfl rfl rfl ?_ | refine o_box rfl rfl (fun _ => ?_) | refine o_box1 rfl rfl rfl (fun _ => ?_) | refine o_alloc rfl rfl (fun _ => ?_))) | refine e_noU rfl rfl rfl ?_ | refine e_noN rfl rfl ?_ | refine s_seq ?_ | refine s_region ?_ | refine s_block ?_ | refine s_end ?_ | refine s_skip ?_ | refine s_exit ?_ | refine s_true rfl ?_ | refine s_false rfl ?_ | refine x_hit ?_ | refine x_code ?_ | refine x_back ?_ | refine x_miss rfl ?_)
      obtain ⟨b, o, es, rfl, hb, ⟨rfl, hx⟩, hc⟩ := h1.2.2 i hla
      have hw1 : IntKind.i64.wrap (13 * (g.Prods.length : Int)) = 13 * (g.Prods.length : Int) := by rw [wrap_i64] <;> omega
      have hrng := bringN_rng (x := a[i]) (m := 13 * g.Prods.length) (by omega)
      refine s_drawU [8] Tryd.mixed (by decide +kernel) ?_
      repeat' (first | refine l_nil ?_ | ((first | refine l_no rfl rfl rfl ?_ rfl ?_ | refine l_noN rfl rfl ?_ rfl ?_ | refine l_n (peval_sound rfl) rfl ?_ rfl ?_ | refine l_n (nl rfl rfl tc rfl) rfl ?_ rfl ?_ | refine l_ny rfl (peval_sound rfl) rfl ?_ rfl ?_ | refine l_ny rfl (nl rfl rfl tc rfl) rfl ?_ rfl ?_); · (first | exact Ent.refl _ | assumption | repeat' (first | exact Ent.refl _ | exact Ent.nil _ | refine Ent.tak .z ?_ | refine Ent.wk ?_))))
      refine l_n (n_index rfl rfl rfl rfl i rfl hla) rfl (Ent.refl _) rfl ?_
      refine l_n (n_load_ro rfl rfl hb (loads_one rfl (hc 0 _ rfl))) rfl (Ent.refl _) rfl ?_
      repeat' (first | refine l_nil ?_ | ((first | refine l_no rfl rfl rfl ?_ rfl ?_ | refine l_noN rfl rfl ?_ rfl ?_ | refine l_n (peval_sound rfl) rfl ?_ rfl ?_ | refine l_n (nl rfl rfl tc rfl) rfl ?_ rfl ?_ | refine l_ny rfl (peval_sound rfl) rfl ?_ rfl ?_ | refine l_ny rfl (nl rfl rfl tc rfl) rfl ?_ rfl ?_); · (first | exact Ent.refl _ | assumption | repeat' (first | exact Ent.refl _ | exact Ent.nil _ | refine Ent.tak .z ?_ | refine Ent.wk ?_))))
      rw [hw1]
      refine l_e rfl (o_call (bring_w a[i] (13 * g.Prods.length) hx ⟨by omega, by omega⟩ (by omega)) rfl .nil Can.tt rfl ?_)
      rintro v V ⟨rfl, rfl⟩
      refine ⟨Ent.refl _, ?_⟩
      simp only [List.nil_append]
      obtain ⟨v, hv⟩ : ∃ v : Nat, bringN a[i] (13 * g.Prods.length) = (v : Int) := ⟨(bringN a[i] (13 * g.Prods.length)).toNat, by omega⟩
      have hit : itemN g a[i] = ⟨((v / 13 : Nat) : Int), ((v % 13 % ((prd g (v / 13 : Nat)).Right.length + 1) : Nat) : Int)⟩ := by unfold itemN; rw [hv]; rfl
      rw [hv] at hrng ⊢
      repeat' (first | refine l_nil ?_ | ((first | refine l_no rfl rfl rfl ?_ rfl ?_ | refine l_noN rfl rfl ?_ rfl ?_ | refine l_n (peval_sound rfl) rfl ?_ rfl ?_ | refine l_n (nl rfl rfl tc rfl) rfl ?_ rfl ?_ | refine l_ny rfl (peval_sound rfl) rfl ?_ rfl ?_ | refine l_ny rfl (nl rfl rfl tc rfl) rfl ?_ rfl ?_); · (first | exact Ent.refl _ | assumption | repeat' (first | exact Ent.refl _ | exact Ent.nil _ | refine Ent.tak .z ?_ | refine Ent.wk ?_))))
      repeat' (first | refine e_nil ?_ | ((first | refine e_op ?_ | refine e_yes rfl ?_); (first | refine o_n (peval_sound rfl) rfl ?_ | refine o_n (nl rfl rfl tc rfl) rfl ?_ | refine o_storeC rfl rfl rfl rfl tc uc rfl rfl rfl ?_ | refine o_box rfl rfl (fun _ => ?_) | refine o_box1 rfl rfl rfl (fun _ => ?_) | refine o_alloc rfl rfl (fun _ => ?_))) | refine e_noU rfl rfl rfl ?_ | refine e_noN rfl rfl ?_ | refine s_seq ?_ | refine s_region ?_ | refine s_block ?_ | refine s_end ?_ | refine s_skip ?_ | refine s_exit ?_ | refine s_true rfl ?_ | refine s_false rfl ?_ | refine x_hit ?_ | refine x_code ?_ | refine x_back ?_ | refine x_miss rfl ?_)
      have hq : IntKind.i64.wrap ((v : Int).tdiv 13) = ((v / 13 : Nat) : Int) := by
        rw [show (v : Int).tdiv 13 = ((v / 13 : Nat) : Int) from rfl, wrap_i64] <;> omega
      refine e_op (o_n (n_quo rfl rfl (by omega)) rfl ?_)
      rw [hq]
      repeat' (first | refine e_nil ?_ | ((first | refine e_op ?_ | refine e_yes rfl ?_); (first | refine o_n (peval_sound rfl) rfl ?_ | refine o_n (nl rfl rfl tc rfl) rfl ?_ | refine o_storeC rfl rfl rfl rfl tc uc rfl rfl rfl ?_ | refine o_box rfl rfl (fun _ => ?_) | refine o_box1 rfl rfl rfl (fun _ => ?_) | refine o_alloc rfl rfl (fun _ => ?_))) | refine e_noU rfl rfl rfl ?_ | refine e_noN rfl rfl ?_ | refine s_seq ?_ | refine s_region ?_ | refine s_block ?_ | refine s_end ?_ | refine s_skip ?_ | refine s_exit ?_ | refine s_true rfl ?_ | refine s_false rfl ?_ | refine x_hit ?_ | refine x_code ?_ | refine x_back ?_ | refine x_miss rfl ?_)
      refine e_op (o_n (n_rem rfl rfl (by omega)) rfl ?_)
      rw [show (v : Int).tmod 13 = ((v % 13 : Nat) : Int) from rfl]
      have hpl : v / 13 < g.Prods.length := by omega
      rw [prd_at hpl] at hit
      have hr12 := hL.r _ (List.getElem_mem hpl)
      obtain ⟨b9, o9, es9, rfl, hb9, he9, hc9⟩ := hG.prods.2.2 (v / 13) hpl
      obtain ⟨Ar, cr, rfl, hl9, hlN, hlK, hri⟩ := kPrd_open he9
      repeat' (first | refine e_nil ?_ | ((first | refine e_op ?_ | refine e_yes rfl ?_); (first | refine o_n (peval_sound rfl) rfl ?_ | refine o_n (nl rfl rfl tc rfl) rfl ?_ | refine o_storeC rfl rfl rfl rfl tc uc rfl rfl rfl ?_ | refine o_box rfl rfl (fun _ => ?_) | refine o_box1 rfl rfl rfl (fun _ => ?_) | refine o_alloc rfl rfl (fun _ => ?_))) | refine e_noU rfl rfl rfl ?_ | refine e_noN rfl rfl ?_ | refine s_seq ?_ | refine s_region ?_ | refine s_block ?_ | refine s_end ?_ | refine s_skip ?_ | refine s_exit ?_ | refine s_true rfl ?_ | refine s_false rfl ?_ | refine x_hit ?_ | refine x_code ?_ | refine x_back ?_ | refine x_miss rfl ?_)
      refine e_op (o_n (n_index rfl rfl rfl rfl (v / 13) rfl hpl) rfl ?_)
      repeat' (first | refine e_nil ?_ | ((first | refine e_op ?_ | refine e_yes rfl ?_); (first | refine o_n (peval_sound rfl) rfl ?_ | refine o_n (nl rfl rfl tc rfl) rfl ?_ | refine o_storeC rfl rfl rfl rfl tc uc rfl rfl rfl ?_ | refine o_box rfl rfl (fun _ => ?_) | refine o_box1 rfl rfl rfl (fun _ => ?_) | refine o_alloc rfl rfl (fun _ => ?_))) | refine e_noU rfl rfl rfl ?_ | refine e_noN rfl rfl ?_ | refine s_seq ?_ | refine s_region ?_ | refine s_block ?_ | refine s_end ?_ | refine s_skip ?_ | refine s_exit ?_ | refine s_true rfl ?_ | refine s_false rfl ?_ | refine x_hit ?_ | refine x_code ?_ | refine x_back ?_ | refine x_miss rfl ?_)
      refine e_op (o_n (n_load_ro rfl rfl hb9 (loads_one rfl (hc9 1 _ rfl))) rfl ?_)
      repeat' (first | refine e_nil ?_ | ((first | refine e_op ?_ | refine e_yes rfl ?_); (first | refine o_n (peval_sound rfl) rfl ?_ | refine o_n (nl rfl rfl tc rfl) rfl ?_ | refine o_storeC rfl rfl rfl rfl tc uc rfl rfl rfl ?_ | refine o_box rfl rfl (fun _ => ?_) | refine o_box1 rfl rfl rfl (fun _ => ?_) | refine o_alloc rfl rfl (fun _ => ?_))) | refine e_noU rfl rfl rfl ?_ | refine e_noN rfl rfl ?_ | refine s_seq ?_ | refine s_region ?_ | refine s_block ?_ | refine s_end ?_ | refine s_skip ?_ | refine s_exit ?_ | refine s_true rfl ?_ | refine s_false rfl ?_ | refine x_hit ?_ | refine x_code ?_ | refine x_back ?_ | refine x_miss rfl ?_)
      rw [show IntKind.i64.wrap ((g.Prods[v / 13].Right.length : Int) + 1) = ((g.Prods[v / 13].Right.length + 1 : Nat) : Int) by rw [wrap_i64] <;> omega]
      refine e_op (o_n (n_rem rfl rfl (by omega)) rfl ?_)
      rw [show ((v % 13 : Nat) : Int).tmod ((g.Prods[v / 13].Right.length + 1 : Nat) : Int) = ((v % 13 % (g.Prods[v / 13].Right.length + 1) : Nat) : Int) from rfl]
      repeat' (first | refine e_nil ?_ | ((first | refine e_op ?_ | refine e_yes rfl ?_); (first | refine o_n (peval_sound rfl) rfl ?_ | refine o_n (nl rfl rfl tc rfl) rfl ?_ | refine o_storeC rfl rfl rfl rfl tc uc rfl rfl rfl ?_ | refine o_box rfl rfl (fun _ => ?_) | refine o_box1 rfl rfl rfl (fun _ => ?_) | refine o_alloc rfl rfl (fun _ => ?_))) | refine e_noU rfl rfl rfl ?_ | refine e_noN rfl rfl ?_ | refine s_seq ?_ | refine s_region ?_ | refine s_block ?_ | refine s_end ?_ | refine s_skip ?_ | refine s_exit ?_ | refine s_true rfl ?_ | refine s_false rfl ?_ | refine x_hit ?_ | refine x_code ?_ | refine x_back ?_ | refine x_miss rfl ?_)
      refine e_op (o_lit (cs := encX (itemN g a[i])) rfl rfl rfl rfl rfl (by rw [hit]; rfl) rfl (fun bl => ?_))
      repeat' (first | refine e_nil ?_ | ((first | refine e_op ?_ | refine e_yes rfl ?_); (first | refine o_n (peval_sound rfl) rfl ?_ | refine o_n (nl rfl rfl tc rfl) rfl ?_ | refine o_storeC rfl rfl rfl rfl tc uc rfl rfl rfl ?_ | refine o_box rfl rfl (fun _ => ?_) | refine o_box1 rfl rfl rfl (fun _ => ?_) | refine o_alloc rfl rfl (fun _ => ?_))) | refine e_noU rfl rfl rfl ?_ | refine e_noN rfl rfl ?_ | refine s_seq ?_ | refine s_region ?_ | refine s_block ?_ | refine s_end ?_ | refine s_skip ?_ | refine s_exit ?_ | refine s_true rfl ?_ | refine s_false rfl ?_ | refine x_hit ?_ | refine x_code ?_ | refine x_back ?_ | refine x_miss rfl ?_)
      refine e_op (o_append (v := .slice Ao i co) (n := i) (m := 1) (xs := ((a.take i).map (itemN g)).flatMap encX) (news := encX (itemN g a[i])) _ rfl rfl rfl rfl (fun w hm q u hu => ?_) rfl ?_ rfl (by omega) (by simp only; omega) (by omega) rfl (fun b c => .s .z) (fun ba ca => ?_))
      · obtain ⟨S1, hP, _⟩ := hm.tak .z
        rw [Nat.zero_add]
        exact osl_cells hP q u hu
      · simp [encX, oneB]
      repeat' (first | refine e_nil ?_ | ((first | refine e_op ?_ | refine e_yes rfl ?_); (first | refine o_n (peval_sound rfl) rfl ?_ | refine o_n (nl rfl rfl tc rfl) rfl ?_ | refine o_storeC rfl rfl rfl rfl tc uc rfl rfl rfl ?_ | refine o_box rfl rfl (fun _ => ?_) | refine o_box1 rfl rfl rfl (fun _ => ?_) | refine o_alloc rfl rfl (fun _ => ?_))) | refine e_noU rfl rfl rfl ?_ | refine e_noN rfl rfl ?_ | refine s_seq ?_ | refine s_region ?_ | refine s_block ?_ | refine s_end ?_ | refine s_skip ?_ | refine s_exit ?_ | refine s_true rfl ?_ | refine s_false rfl ?_ | refine x_hit ?_ | refine x_code ?_ | refine x_back ?_ | refine x_miss rfl ?_)
      have hfl : ((a.take i).map (itemN g)).flatMap encX ++ encX (itemN g a[i]) = ((a.take (i + 1)).map (itemN g)).flatMap encX := by rw [List.take_succ_eq_append_getElem hla, List.map_append, List.flatMap_append]; simp
      rw [hfl]
      refine s_back ⟨⟨(i + 1, some ⟨ba, 0, none⟩, ca), by simp only; omega, by simp only; omega⟩, by simp only; omega, ?_, ?_⟩
      · repeat' (first | exact Sub.nil _ | refine Sub.cons rfl ?_ | refine Sub.consE rfl ?_ ?_)
        exact inc (i := i) (by omega)
      · simp only
        exact Ent.wk (Ent.refl _)
    · rw [decide_eq_false (p := (i : Int) < 30) (by omega)]
      repeat' (first | refine e_nil ?_ | ((first | refine e_op ?_ | refine e_yes rfl ?_); (first | refine o_n (peval_sound rfl) rfl ?_ | refine o_n (nl rfl rfl tc rfl) rfl ?_ | refine o_storeC rfl rfl rfl rfl tc uc rfl rfl rfl ?_ | refine o_box rfl rfl (fun _ => ?_) | refine o_box1 rfl rfl rfl (fun _ => ?_) | refine o_alloc rfl rfl (fun _ => ?_))) | refine e_noU rfl rfl rfl ?_ | refine e_noN rfl rfl ?_ | refine s_seq ?_ | refine s_region ?_ | refine s_block ?_ | refine s_end ?_ | refine s_skip ?_ | refine s_exit ?_ | refine s_true rfl ?_ | refine s_false rfl ?_ | refine x_hit ?_ | refine x_code ?_ | refine x_back ?_ | refine x_miss rfl ?_)
      have he : itemsG g a = (a.take i).map (itemN g) := by unfold itemsG; rw [show i = 30 by omega]
      have hel := hexit he
      refine s_ret ⟨_, _, res1 rfl rfl, ⟨Ao, co, by rw [hel], rfl⟩, ?_⟩
      rw [hel, he]
      exact Ent.tak .z (Ent.nil _)
  · rw [decide_eq_false (p := (i : Int) < (a.length : Int)) (by omega)]
    repeat' (first | refine e_nil ?_ | ((first | refine e_op ?_ | refine e_yes rfl ?_); (first | refine o_n (peval_sound rfl) rfl ?_ | refine o_n (nl rfl rfl tc rfl) rfl ?_ | refine o_storeC rfl rfl rfl rfl tc uc rfl rfl rfl ?_ | refine o_box rfl rfl (fun _ => ?_) | refine o_box1 rfl rfl rfl (fun _ => ?_) | refine o_alloc rfl rfl (fun _ => ?_))) | refine e_noU rfl rfl rfl ?_ | refine e_noN rfl rfl ?_ | refine s_seq ?_ | refine s_region ?_ | refine s_block ?_ | refine s_end ?_ | refine s_skip ?_ | refine s_exit ?_ | refine s_true rfl ?_ | refine s_false rfl ?_ | refine x_hit ?_ | refine x_code ?_ | refine x_back ?_ | refine x_miss rfl ?_)
    have he : itemsG g a = (a.take i).map (itemN g) := by unfold itemsG; rw [List.take_of_length_le (by omega), List.take_of_length_le (show a.length ≤ i by omega)]
    have hel := hexit he
    refine s_ret ⟨_, _, res1 rfl rfl, ⟨Ao, co, by rw [hel], rfl⟩, ?_⟩
    rw [hel, he]
    exact Ent.tak .z (Ent.nil _)

end Go.Proofs.YtcbaebkkdkdaaaaDoor
