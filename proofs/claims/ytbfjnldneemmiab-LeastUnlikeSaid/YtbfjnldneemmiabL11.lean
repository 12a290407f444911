/-
  Machines: what is one's own, to be read; two machines compared; copies.
-/
import Derived.Test.YtbfjnldneemmiabL10
import Derived.Test.YtbfjnldneemmiabW1
namespace Go.Proofs.Ytbfjnldneemmiab
set_option linter.all false
open Go.Proofs.Ytbfjnldneemmiab.E


/-- Numbers, whatever their size. -/
def kintW : Kd Int where
  sz := 1
  R := fun _ _ cs x => cs = [.int .i64 x]
  len := by rintro w S cs x rfl; rfl
  fr := fun _ h => h
  mono := fun _ h => h

theorem els_I {w : World} {S : BSet} {A : Option Addr} {xs : List Int} (h : Els kintW w S A xs) (hI : ∀ x ∈ xs, I64 x) : Els kint w S A xs := fun i hi => by
  obtain ⟨b, o, es, h1, h2, h3, h4⟩ := h i hi
  exact ⟨b, o, es, h1, h2, ⟨h3, hI _ (List.getElem_mem hi)⟩, h4⟩
theorem row_I {w : World} {S : BSet} {bi : Nat} {cs : List Value} {xs : List Int} (h : (kslice bi kintW).R w S cs xs) (hI : ∀ x ∈ xs, I64 x) : (kslice bi kint).R w S cs xs := by
  obtain ⟨A, c, h1, h2, h3, h4⟩ := h
  exact ⟨A, c, h1, h2, h3, els_I h4 hI⟩
theorem rows_I {w : World} {S : BSet} {bo bi : Nat} {cs : List Value} {rows : List (List Int)} (h : (kslice bo (kslice bi kintW)).R w S cs rows) (hI : ∀ r ∈ rows, ∀ x ∈ r, I64 x) : (kslice bo (kslice bi kint)).R w S cs rows := by
  obtain ⟨A, c, h1, h2, h3, h4⟩ := h
  refine ⟨A, c, h1, h2, h3, fun i hi => ?_⟩
  obtain ⟨b, o, es, e1, e2, e3, e4⟩ := h4 i hi
  exact ⟨b, o, es, e1, e2, row_I e3 (hI _ (List.getElem_mem hi)), e4⟩

theorem rd_of_can {α : Type} {k : Kd α} {cs : List Value} {x : α} {A : Asn} {w : World} {S : BSet} (P : Program) (h : ∀ e : E.Env, E.Can e [A] (k.rd cs x)) (hA : A.P w S) : k.R w S cs x :=
  k.mono (fun b hb => hb.elim (fun h => absurd trivial h.2) id)
    (h ⟨P, [], (fun _ h => nomatch h), 0, w, fun _ => True⟩ w S (fun _ _ => rfl) ⟨S, fun _ => False, hA, trivial, fun _ _ h => h, fun _ h => h, fun _ h => h.elim⟩)

/-- Numbers that a machine holds. -/
structure MI (m : Mach) : Prop where
  cls : ∀ v ∈ m.Class.l, I64 v
  next : ∀ r ∈ m.Next, ∀ x ∈ r, I64 x
  rule : ∀ x ∈ m.Rule, I64 x
  nb : m.Next.length * 24 ≤ 140737488355328
  rb : ∀ r ∈ m.Next, r.length * 8 ≤ 140737488355328
  ub : m.Rule.length * 8 ≤ 140737488355328

theorem MOk.mi {m : Mach} (o : MOk m) : MI m where
  cls v hv := by have := o.cls v hv; have := o.k1; exact ⟨by omega, by omega⟩
  next r hr x hx := by
    obtain ⟨i, hi, rfl⟩ := List.getElem_of_mem hr
    have := o.go i hi x hx; have := o.n1; exact ⟨by omega, by omega⟩
  rule v hv := by have := o.rul v hv; exact ⟨by omega, by omega⟩
  nb := by have := o.n1; omega
  rb r hr := by
    obtain ⟨i, hi, rfl⟩ := List.getElem_of_mem hr
    have := o.row i hi; have := o.k1; omega
  ub := by have := o.r; have := o.n1; omega

theorem ent_dfa {m : Mach} (i : MI m) {A1 A2 : Option Addr} {c1 c2 : Nat} {U : List Asn} : Ent (ownD m A1 A2 c1 c2 ++ U) (rdA kDfa (dfC m A1 A2 c1 c2) m :: U) :=
  Ent.two fun w S1 S2 h1 h2 => by
    have g1 : kNext.R w S1 [.slice A1 m.Next.length c1] m.Next := rows_I (rd_of_can (k := kslice 24 (kslice 8 kintW)) Try.prog (fun e => E.Can.orow (E := e) (k := kintW) (Value.int .i64) rfl (fun _ _ _ => rfl) .z i.nb i.rb) h1) i.next
    have g2 : (kslice 8 kint).R w S2 [.slice A2 m.Rule.length c2] m.Rule := rd_of_can Try.prog (fun e => can_ints (E := e) .z i.rule i.ub) h2
    obtain ⟨A, c, e, a1, a2, a3⟩ := kNext.mono (S' := fun b => S1 b ∨ S2 b) (fun b h => Or.inl h) g1
    obtain ⟨A', c', e', b1, b2, b3⟩ := (kslice 8 kint).mono (S' := fun b => S1 b ∨ S2 b) (fun b h => Or.inr h) g2
    cases e; cases e'
    exact kDfa_mk ⟨i.cls, ⟨a1, a2, a3⟩, ⟨b1, b2, b3⟩⟩

theorem zero_mi : MI zeroM where
  cls v hv := by
    have : v = 0 := List.eq_of_mem_replicate hv
    subst this; exact ⟨by omega, by omega⟩
  next r hr := by cases hr
  rule x hx := by cases hx
  nb := by simp [zeroM]
  rb r hr := by cases hr
  ub := by simp [zeroM]

attribute [local irreducible] EVX EVO EVL EV1 NEV
attribute [local irreducible] own osl exA rdA rdL
set_option maxRecDepth 10000
set_option maxHeartbeats 4000000

def Mach.eqB (a b : Mach) : Bool := decide (a.Class.l = b.Class.l ∧ a.Next = b.Next ∧ a.Rule = b.Rule)

theorem same11_w (cs ds : List Value) (a b : Mach) : Trip Try.prog 14 [.agg cs.toArray, .agg ds.toArray] ((kDfa.rd cs a).and (kDfa.rd ds b)) [] (fun v V => v = .bool (a.eqB b) ∧ V = []) := by
  refine trip Try.tabOk Try.func14 rfl rfl rfl rfl ?_
  rintro w SM ⟨hR, hR2⟩
  obtain ⟨A1, A2, c1, c2, rfl, hD⟩ := kDfa_open hR
  obtain ⟨B1, B2, d1, d2, rfl, hE⟩ := kDfa_open hR2
  repeat' (first | refine e_nil ?_ | ((first | refine e_op ?_ | refine e_yes rfl ?_); (first | refine o_dNew rfl rfl rfl (fun _ => ?_) | refine o_dNew0 rfl rfl rfl (fun _ => ?_) | refine dAll rfl rfl rfl td uc rfl rfl rfl ?_ | refine dS rfl rfl rfl rfl rfl rfl rfl td uc rfl ?_ | refine o_n (n_b26 rfl rfl) rfl ?_ | refine o_n (n_b26NR rfl rfl rfl rfl rfl) rfl ?_ | refine o_n (n_b26R rfl rfl rfl rfl) rfl ?_ | refine o_n (n_b26CR rfl rfl rfl rfl) rfl ?_ | refine o_n (n_b91 rfl rfl rfl rfl rfl rfl) rfl ?_ | refine o_n (peval_sound rfl) rfl ?_ | refine o_n (nl rfl rfl tc rfl) rfl ?_ | refine o_n (dR rfl rfl td rfl rfl rfl) rfl ?_ | refine o_n (dA rfl rfl td rfl rfl) rfl ?_ | refine o_n (dK rfl rfl td rfl rfl) rfl ?_ | refine o_storeC rfl rfl rfl rfl tc uc rfl rfl rfl ?_ | refine o_box rfl rfl (fun _ => ?_) | refine o_box1 rfl rfl rfl (fun _ => ?_) | refine o_alloc rfl rfl (fun _ => ?_))) | refine e_noU rfl rfl rfl ?_ | refine e_noN rfl rfl ?_ | refine s_seq ?_ | refine s_region ?_ | refine s_block ?_ | refine s_end ?_ | refine s_skip ?_ | refine s_exit ?_ | refine s_true rfl ?_ | refine s_false rfl ?_ | refine x_hit ?_ | refine x_code ?_ | refine x_back ?_ | refine x_miss rfl ?_)
  rename_i bx by_
  refine e_op (o_n (n_neqD (c := a.Class) (d := b.Class) rfl (by kernel_rfl) rfl rfl rfl rfl rfl) rfl ?_)
  cases h1 : decide (a.Class.l = b.Class.l) with
  | false =>
    have h1 := of_decide_eq_false h1
    repeat' (first | refine e_nil ?_ | ((first | refine e_op ?_ | refine e_yes rfl ?_); (first | refine o_dNew rfl rfl rfl (fun _ => ?_) | refine o_dNew0 rfl rfl rfl (fun _ => ?_) | refine dAll rfl rfl rfl td uc rfl rfl rfl ?_ | refine dS rfl rfl rfl rfl rfl rfl rfl td uc rfl ?_ | refine o_n (n_b26 rfl rfl) rfl ?_ | refine o_n (n_b26NR rfl rfl rfl rfl rfl) rfl ?_ | refine o_n (n_b26R rfl rfl rfl rfl) rfl ?_ | refine o_n (n_b26CR rfl rfl rfl rfl) rfl ?_ | refine o_n (n_b91 rfl rfl rfl rfl rfl rfl) rfl ?_ | refine o_n (peval_sound rfl) rfl ?_ | refine o_n (nl rfl rfl tc rfl) rfl ?_ | refine o_n (dR rfl rfl td rfl rfl rfl) rfl ?_ | refine o_n (dA rfl rfl td rfl rfl) rfl ?_ | refine o_n (dK rfl rfl td rfl rfl) rfl ?_ | refine o_storeC rfl rfl rfl rfl tc uc rfl rfl rfl ?_ | refine o_box rfl rfl (fun _ => ?_) | refine o_box1 rfl rfl rfl (fun _ => ?_) | refine o_alloc rfl rfl (fun _ => ?_))) | refine e_noU rfl rfl rfl ?_ | refine e_noN rfl rfl ?_ | refine s_seq ?_ | refine s_region ?_ | refine s_block ?_ | refine s_end ?_ | refine s_skip ?_ | refine s_exit ?_ | refine s_true rfl ?_ | refine s_false rfl ?_ | refine x_hit ?_ | refine x_code ?_ | refine x_back ?_ | refine x_miss rfl ?_)
    refine s_ret ⟨_, _, res1 rfl rfl, ⟨?_, rfl⟩, Ent.nil _⟩
    unfold Mach.eqB; rw [decide_eq_false (fun h => h1 h.1)]
  | true =>
    have h1 := of_decide_eq_true h1
    repeat' (first | refine e_nil ?_ | ((first | refine e_op ?_ | refine e_yes rfl ?_); (first | refine o_dNew rfl rfl rfl (fun _ => ?_) | refine o_dNew0 rfl rfl rfl (fun _ => ?_) | refine dAll rfl rfl rfl td uc rfl rfl rfl ?_ | refine dS rfl rfl rfl rfl rfl rfl rfl td uc rfl ?_ | refine o_n (n_b26 rfl rfl) rfl ?_ | refine o_n (n_b26NR rfl rfl rfl rfl rfl) rfl ?_ | refine o_n (n_b26R rfl rfl rfl rfl) rfl ?_ | refine o_n (n_b26CR rfl rfl rfl rfl) rfl ?_ | refine o_n (n_b91 rfl rfl rfl rfl rfl rfl) rfl ?_ | refine o_n (peval_sound rfl) rfl ?_ | refine o_n (nl rfl rfl tc rfl) rfl ?_ | refine o_n (dR rfl rfl td rfl rfl rfl) rfl ?_ | refine o_n (dA rfl rfl td rfl rfl) rfl ?_ | refine o_n (dK rfl rfl td rfl rfl) rfl ?_ | refine o_storeC rfl rfl rfl rfl tc uc rfl rfl rfl ?_ | refine o_box rfl rfl (fun _ => ?_) | refine o_box1 rfl rfl rfl (fun _ => ?_) | refine o_alloc rfl rfl (fun _ => ?_))) | refine e_noU rfl rfl rfl ?_ | refine e_noN rfl rfl ?_ | refine s_seq ?_ | refine s_region ?_ | refine s_block ?_ | refine s_end ?_ | refine s_skip ?_ | refine s_exit ?_ | refine s_true rfl ?_ | refine s_false rfl ?_ | refine x_hit ?_ | refine x_code ?_ | refine x_back ?_ | refine x_miss rfl ?_ | ((fail_if_success (refine e_dec true (by exact rfl) ?_)); (fail_if_success (refine e_dec false (by exact rfl) ?_)); refine e_part rfl rfl (fun h => ?_) (fun h => ?_)) | refine s_cond rfl (fun h => ?_) (fun h => ?_))
    · have h2 : a.Next.length ≠ b.Next.length := by simp only [bne_iff_ne, ne_eq] at h; omega
      repeat' (first | refine e_nil ?_ | ((first | refine e_op ?_ | refine e_yes rfl ?_); (first | refine o_dNew rfl rfl rfl (fun _ => ?_) | refine o_dNew0 rfl rfl rfl (fun _ => ?_) | refine dAll rfl rfl rfl td uc rfl rfl rfl ?_ | refine dS rfl rfl rfl rfl rfl rfl rfl td uc rfl ?_ | refine o_n (n_b26 rfl rfl) rfl ?_ | refine o_n (n_b26NR rfl rfl rfl rfl rfl) rfl ?_ | refine o_n (n_b26R rfl rfl rfl rfl) rfl ?_ | refine o_n (n_b26CR rfl rfl rfl rfl) rfl ?_ | refine o_n (n_b91 rfl rfl rfl rfl rfl rfl) rfl ?_ | refine o_n (peval_sound rfl) rfl ?_ | refine o_n (nl rfl rfl tc rfl) rfl ?_ | refine o_n (dR rfl rfl td rfl rfl rfl) rfl ?_ | refine o_n (dA rfl rfl td rfl rfl) rfl ?_ | refine o_n (dK rfl rfl td rfl rfl) rfl ?_ | refine o_storeC rfl rfl rfl rfl tc uc rfl rfl rfl ?_ | refine o_box rfl rfl (fun _ => ?_) | refine o_box1 rfl rfl rfl (fun _ => ?_) | refine o_alloc rfl rfl (fun _ => ?_))) | refine e_noU rfl rfl rfl ?_ | refine e_noN rfl rfl ?_ | refine s_seq ?_ | refine s_region ?_ | refine s_block ?_ | refine s_end ?_ | refine s_skip ?_ | refine s_exit ?_ | refine s_true rfl ?_ | refine s_false rfl ?_ | refine x_hit ?_ | refine x_code ?_ | refine x_back ?_ | refine x_miss rfl ?_)
      refine s_ret ⟨_, _, res1 rfl rfl, ⟨?_, rfl⟩, Ent.nil _⟩
      unfold Mach.eqB; rw [decide_eq_false (fun h => h2 (by rw [h.2.1]))]
    · have h2 : a.Next.length = b.Next.length := by simp only [bne_eq_false_iff_eq] at h; omega
      refine e_yes rfl (o_call (eqInts_w A2 B2 c2 d2 a.Rule b.Rule) rfl .nil (Can.and (Can.ro (sl_mk hD.rule)) (Can.ro (sl_mk hE.rule))) rfl ?_)
      rintro v V ⟨rfl, rfl⟩
      simp only [List.nil_append]
      cases h3 : decide (a.Rule = b.Rule) with
      | false =>
        have h3 := of_decide_eq_false h3
        repeat' (first | refine e_nil ?_ | ((first | refine e_op ?_ | refine e_yes rfl ?_); (first | refine o_dNew rfl rfl rfl (fun _ => ?_) | refine o_dNew0 rfl rfl rfl (fun _ => ?_) | refine dAll rfl rfl rfl td uc rfl rfl rfl ?_ | refine dS rfl rfl rfl rfl rfl rfl rfl td uc rfl ?_ | refine o_n (n_b26 rfl rfl) rfl ?_ | refine o_n (n_b26NR rfl rfl rfl rfl rfl) rfl ?_ | refine o_n (n_b26R rfl rfl rfl rfl) rfl ?_ | refine o_n (n_b26CR rfl rfl rfl rfl) rfl ?_ | refine o_n (n_b91 rfl rfl rfl rfl rfl rfl) rfl ?_ | refine o_n (peval_sound rfl) rfl ?_ | refine o_n (nl rfl rfl tc rfl) rfl ?_ | refine o_n (dR rfl rfl td rfl rfl rfl) rfl ?_ | refine o_n (dA rfl rfl td rfl rfl) rfl ?_ | refine o_n (dK rfl rfl td rfl rfl) rfl ?_ | refine o_storeC rfl rfl rfl rfl tc uc rfl rfl rfl ?_ | refine o_box rfl rfl (fun _ => ?_) | refine o_box1 rfl rfl rfl (fun _ => ?_) | refine o_alloc rfl rfl (fun _ => ?_))) | refine e_noU rfl rfl rfl ?_ | refine e_noN rfl rfl ?_ | refine s_seq ?_ | refine s_region ?_ | refine s_block ?_ | refine s_end ?_ | refine s_skip ?_ | refine s_exit ?_ | refine s_true rfl ?_ | refine s_false rfl ?_ | refine x_hit ?_ | refine x_code ?_ | refine x_back ?_ | refine x_miss rfl ?_)
        refine s_ret ⟨_, _, res1 rfl rfl, ⟨?_, rfl⟩, Ent.nil _⟩
        unfold Mach.eqB; rw [decide_eq_false (fun h => h3 h.2.2)]
      | true =>
        have h3 := of_decide_eq_true h3
        repeat' (first | refine e_nil ?_ | ((first | refine e_op ?_ | refine e_yes rfl ?_); (first | refine o_dNew rfl rfl rfl (fun _ => ?_) | refine o_dNew0 rfl rfl rfl (fun _ => ?_) | refine dAll rfl rfl rfl td uc rfl rfl rfl ?_ | refine dS rfl rfl rfl rfl rfl rfl rfl td uc rfl ?_ | refine o_n (n_b26 rfl rfl) rfl ?_ | refine o_n (n_b26NR rfl rfl rfl rfl rfl) rfl ?_ | refine o_n (n_b26R rfl rfl rfl rfl) rfl ?_ | refine o_n (n_b26CR rfl rfl rfl rfl) rfl ?_ | refine o_n (n_b91 rfl rfl rfl rfl rfl rfl) rfl ?_ | refine o_n (peval_sound rfl) rfl ?_ | refine o_n (nl rfl rfl tc rfl) rfl ?_ | refine o_n (dR rfl rfl td rfl rfl rfl) rfl ?_ | refine o_n (dA rfl rfl td rfl rfl) rfl ?_ | refine o_n (dK rfl rfl td rfl rfl) rfl ?_ | refine o_storeC rfl rfl rfl rfl tc uc rfl rfl rfl ?_ | refine o_box rfl rfl (fun _ => ?_) | refine o_box1 rfl rfl rfl (fun _ => ?_) | refine o_alloc rfl rfl (fun _ => ?_))) | refine e_noU rfl rfl rfl ?_ | refine e_noN rfl rfl ?_ | refine s_seq ?_ | refine s_region ?_ | refine s_block ?_ | refine s_end ?_ | refine s_skip ?_ | refine s_exit ?_ | refine s_true rfl ?_ | refine s_false rfl ?_ | refine x_hit ?_ | refine x_code ?_ | refine x_back ?_ | refine x_miss rfl ?_)
        refine s_loopK (ι := {i : Nat // i ≤ a.Next.length ∧ a.Next.take i = b.Next.take i}) [2, 3] rfl ⟨0, by omega, rfl⟩ (fun i => [(5, .int .i64 i.1)]) (fun _ => [blk by_ 26 (dfC b B1 B2 d1 d2), blk bx 26 (dfC a A1 A2 c1 c2)]) (fun i => a.Next.length - i.1) ?_ (Ent.refl _) ?_
        · repeat' (first | exact Sub.nil _ | refine Sub.cons rfl ?_ | refine Sub.consE rfl ?_ ?_)
        rintro ⟨i, hi, ht⟩
        simp only at hi ht ⊢
        repeat' (first | refine e_nil ?_ | ((first | refine e_op ?_ | refine e_yes rfl ?_); (first | refine o_dNew rfl rfl rfl (fun _ => ?_) | refine o_dNew0 rfl rfl rfl (fun _ => ?_) | refine dAll rfl rfl rfl td uc rfl rfl rfl ?_ | refine dS rfl rfl rfl rfl rfl rfl rfl td uc rfl ?_ | refine o_n (n_b26 rfl rfl) rfl ?_ | refine o_n (n_b26NR rfl rfl rfl rfl rfl) rfl ?_ | refine o_n (n_b26R rfl rfl rfl rfl) rfl ?_ | refine o_n (n_b26CR rfl rfl rfl rfl) rfl ?_ | refine o_n (n_b91 rfl rfl rfl rfl rfl rfl) rfl ?_ | refine o_n (peval_sound rfl) rfl ?_ | refine o_n (nl rfl rfl tc rfl) rfl ?_ | refine o_n (dR rfl rfl td rfl rfl rfl) rfl ?_ | refine o_n (dA rfl rfl td rfl rfl) rfl ?_ | refine o_n (dK rfl rfl td rfl rfl) rfl ?_ | refine o_storeC rfl rfl rfl rfl tc uc rfl rfl rfl ?_ | refine o_box rfl rfl (fun _ => ?_) | refine o_box1 rfl rfl rfl (fun _ => ?_) | refine o_alloc rfl rfl (fun _ => ?_))) | refine e_noU rfl rfl rfl ?_ | refine e_noN rfl rfl ?_ | refine s_seq ?_ | refine s_region ?_ | refine s_block ?_ | refine s_end ?_ | refine s_skip ?_ | refine s_exit ?_ | refine s_true rfl ?_ | refine s_false rfl ?_ | refine x_hit ?_ | refine x_code ?_ | refine x_back ?_ | refine x_miss rfl ?_)
        refine s_cond rfl (fun h => ?_) (fun h => ?_)
        · have hlt : i < a.Next.length := by simpa using h
          clear h
          obtain ⟨p, o, es, rfl, hb, ⟨Ar, cr, rfl, hr⟩, hc⟩ := hD.next.2.2 i hlt
          obtain ⟨q, o2, es2, rfl, hb2, ⟨Br, dr, rfl, hr2⟩, hc2⟩ := hE.next.2.2 i (by omega)
          repeat' (first | refine e_nil ?_ | ((first | refine e_op ?_ | refine e_yes rfl ?_); (first | refine o_dNew rfl rfl rfl (fun _ => ?_) | refine o_dNew0 rfl rfl rfl (fun _ => ?_) | refine dAll rfl rfl rfl td uc rfl rfl rfl ?_ | refine dS rfl rfl rfl rfl rfl rfl rfl td uc rfl ?_ | refine o_n (n_b26 rfl rfl) rfl ?_ | refine o_n (n_b26NR rfl rfl rfl rfl rfl) rfl ?_ | refine o_n (n_b26R rfl rfl rfl rfl) rfl ?_ | refine o_n (n_b26CR rfl rfl rfl rfl) rfl ?_ | refine o_n (n_b91 rfl rfl rfl rfl rfl rfl) rfl ?_ | refine o_n (peval_sound rfl) rfl ?_ | refine o_n (nl rfl rfl tc rfl) rfl ?_ | refine o_n (dR rfl rfl td rfl rfl rfl) rfl ?_ | refine o_n (dA rfl rfl td rfl rfl) rfl ?_ | refine o_n (dK rfl rfl td rfl rfl) rfl ?_ | refine o_storeC rfl rfl rfl rfl tc uc rfl rfl rfl ?_ | refine o_box rfl rfl (fun _ => ?_) | refine o_box1 rfl rfl rfl (fun _ => ?_) | refine o_alloc rfl rfl (fun _ => ?_))) | refine e_noU rfl rfl rfl ?_ | refine e_noN rfl rfl ?_ | refine s_seq ?_ | refine s_region ?_ | refine s_block ?_ | refine s_end ?_ | refine s_skip ?_ | refine s_exit ?_ | refine s_true rfl ?_ | refine s_false rfl ?_ | refine x_hit ?_ | refine x_code ?_ | refine x_back ?_ | refine x_miss rfl ?_)
          refine s_drawU [10] Try.mixed (by decide +kernel) ?_
          repeat' (first | refine l_nil ?_ | ((first | refine l_no rfl rfl rfl ?_ rfl ?_ | refine l_noN rfl rfl ?_ rfl ?_ | refine l_n (n_b26 rfl rfl) rfl ?_ rfl ?_ | refine l_n (n_b26NR rfl rfl rfl rfl rfl) rfl ?_ rfl ?_ | refine l_n (n_b26R rfl rfl rfl rfl) rfl ?_ rfl ?_ | refine l_n (n_b26CR rfl rfl rfl rfl) rfl ?_ rfl ?_ | refine l_n (n_b91 rfl rfl rfl rfl rfl rfl) rfl ?_ rfl ?_ | refine l_n (peval_sound rfl) rfl ?_ rfl ?_ | refine l_n (nl rfl rfl tc rfl) rfl ?_ rfl ?_ | refine l_n (dR rfl rfl td rfl rfl rfl) rfl ?_ rfl ?_ | refine l_n (dA rfl rfl td rfl rfl) rfl ?_ rfl ?_ | refine l_n (dK rfl rfl td rfl rfl) rfl ?_ rfl ?_ | refine l_ny rfl (n_b26 rfl rfl) rfl ?_ rfl ?_ | refine l_ny rfl (n_b26NR rfl rfl rfl rfl rfl) rfl ?_ rfl ?_ | refine l_ny rfl (n_b26R rfl rfl rfl rfl) rfl ?_ rfl ?_ | refine l_ny rfl (n_b26CR rfl rfl rfl rfl) rfl ?_ rfl ?_ | refine l_ny rfl (n_b91 rfl rfl rfl rfl rfl rfl) rfl ?_ rfl ?_ | refine l_ny rfl (peval_sound rfl) rfl ?_ rfl ?_ | refine l_ny rfl (nl rfl rfl tc rfl) rfl ?_ rfl ?_ | refine l_ny rfl (dR rfl rfl td rfl rfl rfl) rfl ?_ rfl ?_ | refine l_ny rfl (dA rfl rfl td rfl rfl) rfl ?_ rfl ?_ | refine l_ny rfl (dK rfl rfl td rfl rfl) rfl ?_ rfl ?_); · (first | exact Ent.refl _ | assumption | repeat' (first | exact Ent.refl _ | exact Ent.nil _ | refine Ent.tak .z ?_ | refine Ent.wk ?_))))
          refine l_n (n_index rfl rfl rfl rfl i rfl hlt) rfl (Ent.refl _) rfl ?_
          refine l_n (n_load_ro rfl rfl hb (loads_one rfl (hc 0 _ rfl))) rfl (Ent.refl _) rfl ?_
          repeat' (first | refine l_nil ?_ | ((first | refine l_no rfl rfl rfl ?_ rfl ?_ | refine l_noN rfl rfl ?_ rfl ?_ | refine l_n (n_b26 rfl rfl) rfl ?_ rfl ?_ | refine l_n (n_b26NR rfl rfl rfl rfl rfl) rfl ?_ rfl ?_ | refine l_n (n_b26R rfl rfl rfl rfl) rfl ?_ rfl ?_ | refine l_n (n_b26CR rfl rfl rfl rfl) rfl ?_ rfl ?_ | refine l_n (n_b91 rfl rfl rfl rfl rfl rfl) rfl ?_ rfl ?_ | refine l_n (peval_sound rfl) rfl ?_ rfl ?_ | refine l_n (nl rfl rfl tc rfl) rfl ?_ rfl ?_ | refine l_n (dR rfl rfl td rfl rfl rfl) rfl ?_ rfl ?_ | refine l_n (dA rfl rfl td rfl rfl) rfl ?_ rfl ?_ | refine l_n (dK rfl rfl td rfl rfl) rfl ?_ rfl ?_ | refine l_ny rfl (n_b26 rfl rfl) rfl ?_ rfl ?_ | refine l_ny rfl (n_b26NR rfl rfl rfl rfl rfl) rfl ?_ rfl ?_ | refine l_ny rfl (n_b26R rfl rfl rfl rfl) rfl ?_ rfl ?_ | refine l_ny rfl (n_b26CR rfl rfl rfl rfl) rfl ?_ rfl ?_ | refine l_ny rfl (n_b91 rfl rfl rfl rfl rfl rfl) rfl ?_ rfl ?_ | refine l_ny rfl (peval_sound rfl) rfl ?_ rfl ?_ | refine l_ny rfl (nl rfl rfl tc rfl) rfl ?_ rfl ?_ | refine l_ny rfl (dR rfl rfl td rfl rfl rfl) rfl ?_ rfl ?_ | refine l_ny rfl (dA rfl rfl td rfl rfl) rfl ?_ rfl ?_ | refine l_ny rfl (dK rfl rfl td rfl rfl) rfl ?_ rfl ?_); · (first | exact Ent.refl _ | assumption | repeat' (first | exact Ent.refl _ | exact Ent.nil _ | refine Ent.tak .z ?_ | refine Ent.wk ?_))))
          refine l_n (n_index rfl rfl rfl rfl i rfl (by omega)) rfl (Ent.refl _) rfl ?_
          refine l_n (n_load_ro rfl rfl hb2 (loads_one rfl (hc2 0 _ rfl))) rfl (Ent.refl _) rfl ?_
          refine l_e rfl (o_call (eqInts_w Ar Br cr dr _ _) rfl .nil (Can.and (Can.ro (sl_mk hr)) (Can.ro (sl_mk hr2))) rfl ?_)
          rintro v V ⟨rfl, rfl⟩
          refine ⟨Ent.refl _, ?_⟩
          simp only [List.nil_append]
          repeat' (first | refine l_nil ?_ | ((first | refine l_no rfl rfl rfl ?_ rfl ?_ | refine l_noN rfl rfl ?_ rfl ?_ | refine l_n (n_b26 rfl rfl) rfl ?_ rfl ?_ | refine l_n (n_b26NR rfl rfl rfl rfl rfl) rfl ?_ rfl ?_ | refine l_n (n_b26R rfl rfl rfl rfl) rfl ?_ rfl ?_ | refine l_n (n_b26CR rfl rfl rfl rfl) rfl ?_ rfl ?_ | refine l_n (n_b91 rfl rfl rfl rfl rfl rfl) rfl ?_ rfl ?_ | refine l_n (peval_sound rfl) rfl ?_ rfl ?_ | refine l_n (nl rfl rfl tc rfl) rfl ?_ rfl ?_ | refine l_n (dR rfl rfl td rfl rfl rfl) rfl ?_ rfl ?_ | refine l_n (dA rfl rfl td rfl rfl) rfl ?_ rfl ?_ | refine l_n (dK rfl rfl td rfl rfl) rfl ?_ rfl ?_ | refine l_ny rfl (n_b26 rfl rfl) rfl ?_ rfl ?_ | refine l_ny rfl (n_b26NR rfl rfl rfl rfl rfl) rfl ?_ rfl ?_ | refine l_ny rfl (n_b26R rfl rfl rfl rfl) rfl ?_ rfl ?_ | refine l_ny rfl (n_b26CR rfl rfl rfl rfl) rfl ?_ rfl ?_ | refine l_ny rfl (n_b91 rfl rfl rfl rfl rfl rfl) rfl ?_ rfl ?_ | refine l_ny rfl (peval_sound rfl) rfl ?_ rfl ?_ | refine l_ny rfl (nl rfl rfl tc rfl) rfl ?_ rfl ?_ | refine l_ny rfl (dR rfl rfl td rfl rfl rfl) rfl ?_ rfl ?_ | refine l_ny rfl (dA rfl rfl td rfl rfl) rfl ?_ rfl ?_ | refine l_ny rfl (dK rfl rfl td rfl rfl) rfl ?_ rfl ?_); · (first | exact Ent.refl _ | assumption | repeat' (first | exact Ent.refl _ | exact Ent.nil _ | refine Ent.tak .z ?_ | refine Ent.wk ?_))))
          cases h4 : decide (a.Next[i] = b.Next[i]) with
          | false =>
            have h4 := of_decide_eq_false h4
            repeat' (first | refine e_nil ?_ | ((first | refine e_op ?_ | refine e_yes rfl ?_); (first | refine o_dNew rfl rfl rfl (fun _ => ?_) | refine o_dNew0 rfl rfl rfl (fun _ => ?_) | refine dAll rfl rfl rfl td uc rfl rfl rfl ?_ | refine dS rfl rfl rfl rfl rfl rfl rfl td uc rfl ?_ | refine o_n (n_b26 rfl rfl) rfl ?_ | refine o_n (n_b26NR rfl rfl rfl rfl rfl) rfl ?_ | refine o_n (n_b26R rfl rfl rfl rfl) rfl ?_ | refine o_n (n_b26CR rfl rfl rfl rfl) rfl ?_ | refine o_n (n_b91 rfl rfl rfl rfl rfl rfl) rfl ?_ | refine o_n (peval_sound rfl) rfl ?_ | refine o_n (nl rfl rfl tc rfl) rfl ?_ | refine o_n (dR rfl rfl td rfl rfl rfl) rfl ?_ | refine o_n (dA rfl rfl td rfl rfl) rfl ?_ | refine o_n (dK rfl rfl td rfl rfl) rfl ?_ | refine o_storeC rfl rfl rfl rfl tc uc rfl rfl rfl ?_ | refine o_box rfl rfl (fun _ => ?_) | refine o_box1 rfl rfl rfl (fun _ => ?_) | refine o_alloc rfl rfl (fun _ => ?_))) | refine e_noU rfl rfl rfl ?_ | refine e_noN rfl rfl ?_ | refine s_seq ?_ | refine s_region ?_ | refine s_block ?_ | refine s_end ?_ | refine s_skip ?_ | refine s_exit ?_ | refine s_true rfl ?_ | refine s_false rfl ?_ | refine x_hit ?_ | refine x_code ?_ | refine x_back ?_ | refine x_miss rfl ?_)
            refine s_ret ⟨_, _, res1 rfl rfl, ⟨?_, rfl⟩, Ent.nil _⟩
            unfold Mach.eqB; rw [decide_eq_false (fun h => h4 (by simp only [h.2.1]))]
          | true =>
            have h4 := of_decide_eq_true h4
            repeat' (first | refine e_nil ?_ | ((first | refine e_op ?_ | refine e_yes rfl ?_); (first | refine o_dNew rfl rfl rfl (fun _ => ?_) | refine o_dNew0 rfl rfl rfl (fun _ => ?_) | refine dAll rfl rfl rfl td uc rfl rfl rfl ?_ | refine dS rfl rfl rfl rfl rfl rfl rfl td uc rfl ?_ | refine o_n (n_b26 rfl rfl) rfl ?_ | refine o_n (n_b26NR rfl rfl rfl rfl rfl) rfl ?_ | refine o_n (n_b26R rfl rfl rfl rfl) rfl ?_ | refine o_n (n_b26CR rfl rfl rfl rfl) rfl ?_ | refine o_n (n_b91 rfl rfl rfl rfl rfl rfl) rfl ?_ | refine o_n (peval_sound rfl) rfl ?_ | refine o_n (nl rfl rfl tc rfl) rfl ?_ | refine o_n (dR rfl rfl td rfl rfl rfl) rfl ?_ | refine o_n (dA rfl rfl td rfl rfl) rfl ?_ | refine o_n (dK rfl rfl td rfl rfl) rfl ?_ | refine o_storeC rfl rfl rfl rfl tc uc rfl rfl rfl ?_ | refine o_box rfl rfl (fun _ => ?_) | refine o_box1 rfl rfl rfl (fun _ => ?_) | refine o_alloc rfl rfl (fun _ => ?_))) | refine e_noU rfl rfl rfl ?_ | refine e_noN rfl rfl ?_ | refine s_seq ?_ | refine s_region ?_ | refine s_block ?_ | refine s_end ?_ | refine s_skip ?_ | refine s_exit ?_ | refine s_true rfl ?_ | refine s_false rfl ?_ | refine x_hit ?_ | refine x_code ?_ | refine x_back ?_ | refine x_miss rfl ?_)
            refine s_back ⟨⟨i + 1, by omega, ?_⟩, by simp only; omega, ?_, Ent.refl _⟩
            · rw [List.take_succ_eq_append_getElem hlt, List.take_succ_eq_append_getElem (h2 ▸ hlt), ht, h4]
            · repeat' (first | exact Sub.nil _ | refine Sub.cons rfl ?_ | refine Sub.consE rfl ?_ ?_)
              exact inc (i := i) (by have := hD.next.2.1; omega)
        · have hlt : i = a.Next.length := by simp at h; omega
          subst hlt
          rw [List.take_length, h2, List.take_length] at ht
          repeat' (first | refine e_nil ?_ | ((first | refine e_op ?_ | refine e_yes rfl ?_); (first | refine o_dNew rfl rfl rfl (fun _ => ?_) | refine o_dNew0 rfl rfl rfl (fun _ => ?_) | refine dAll rfl rfl rfl td uc rfl rfl rfl ?_ | refine dS rfl rfl rfl rfl rfl rfl rfl td uc rfl ?_ | refine o_n (n_b26 rfl rfl) rfl ?_ | refine o_n (n_b26NR rfl rfl rfl rfl rfl) rfl ?_ | refine o_n (n_b26R rfl rfl rfl rfl) rfl ?_ | refine o_n (n_b26CR rfl rfl rfl rfl) rfl ?_ | refine o_n (n_b91 rfl rfl rfl rfl rfl rfl) rfl ?_ | refine o_n (peval_sound rfl) rfl ?_ | refine o_n (nl rfl rfl tc rfl) rfl ?_ | refine o_n (dR rfl rfl td rfl rfl rfl) rfl ?_ | refine o_n (dA rfl rfl td rfl rfl) rfl ?_ | refine o_n (dK rfl rfl td rfl rfl) rfl ?_ | refine o_storeC rfl rfl rfl rfl tc uc rfl rfl rfl ?_ | refine o_box rfl rfl (fun _ => ?_) | refine o_box1 rfl rfl rfl (fun _ => ?_) | refine o_alloc rfl rfl (fun _ => ?_))) | refine e_noU rfl rfl rfl ?_ | refine e_noN rfl rfl ?_ | refine s_seq ?_ | refine s_region ?_ | refine s_block ?_ | refine s_end ?_ | refine s_skip ?_ | refine s_exit ?_ | refine s_true rfl ?_ | refine s_false rfl ?_ | refine x_hit ?_ | refine x_code ?_ | refine x_back ?_ | refine x_miss rfl ?_)
          refine s_ret ⟨_, _, res1 rfl rfl, ⟨?_, rfl⟩, Ent.nil _⟩
          unfold Mach.eqB; rw [decide_eq_true ⟨h1, ht, h3⟩]

end Go.Proofs.Ytbfjnldneemmiab
