/-
  The engine, twenty-ninth part: what a call leaves, looked at; a field of a struct that is a value.
-/
import Derived.Test.YtcnpjhaedjncdaaDoorAcBase4

namespace Go.Proofs.YtcnpjhaedjncdaaDoor.E
open Go
set_option linter.all false
variable {E : Env} {fr : Frm} {U : List Asn} {N : Frm → List Asn → Prop}

theorem Trip.monoS {P : Program} {f : FuncId} {args : List Value} {R : Rd} {Ms : List Asn} {Q Q' : Value → List Asn → Prop} (h : Trip P f args R Ms Q) (hq : ∀ v V, Q v V → ∀ w S, star V w S → Q' v V) : Trip P f args R Ms Q' where
  enters := h.enters
  calls := fun w SM hS hs hR => (h.calls w SM hS hs hR).mono fun e w' ⟨v, V, S, he, hQ, hst, hb, hstep⟩ => ⟨v, V, S, he, hq v V hQ w' S hst, hst, hb, hstep⟩

theorem n_field {t : TypeId} {x : Operand} {f : Nat} {u v : Value} (hx : val fr x = some u) (hr : ∀ w, (Instr.field t u f).run E.P w = .ok v w) : NEV E (.field t x f) fr U v := by
  intro a w dst ty pos af g hf _
  simp [execOp, hf.eval hx, hr w]

/-- A field that is one cell. -/
theorem n_field1 {t : TypeId} {x : Operand} {f off ft : Nat} {cs : List Value} {v : Value} {fs : Array Field} {fd : Field} {i : TI} (hx : val fr x = some (.agg cs.toArray)) (ht : E.P.underlying t = some (.struct fs)) (hf : fs[f]? = some fd) (hft : fd.type = ft) (hi : tl E.T ft = some i) (ha : aggB i.d = false) (ho : fd.offset = off) (hv : cs[off]? = some v) : NEV E (.field t x f) fr U v := by
  subst hft ho
  refine n_field hx (fun w => ?_)
  unfold Instr.field
  simp [run_under ht, hf, part, run_isAgg hi, ha, asAgg, hv]

section skip
variable {K : Frm → List Asn → Prop} {k : List It} {ops : Array Oper} {V : List Asn}
/-- An operation that is not wanted, in a region whose orders are all walked. -/
theorem a_no {fuel : Nat} {done : List Nat} (i : Nat) {d : Nat} {o : Op} {ty : TypeId} {pos : String} {af : Array Edge} {j : Nat} {b b' : Bool} (hi : ops[i]? = some ⟨some d, o, ty, pos, af, some (j, b)⟩)
    (hg : gval ops fr j = some b') (hb : Bool.xor b b' = true) (hok : takeOk ops done i = true) (hV : Ent U V) (hd : Nat.ble (d + 1) E.n = true) (h : EVA E K k ops V fuel (i :: done) ((d, undef) :: fr) U) : EVA E K k ops V (fuel + 1) done fr U := by
  intro a w hf hm
  simp only [takeOk, Bool.and_eq_true] at hok
  refine wpAnyH_take hi hok.1 hok.2.2 hok.2.1 (fun c a w h => post_panic h) (.inr ⟨by
    simp only [Region.wanted, gval_yielded hf hg]
    cases b <;> cases b' <;> first | rfl | (simp at hb), rfl⟩) (hm.ent hV) ?_
  rw [lset_cons]
  exact h _ w (hf.put (Nat.le_of_ble_eq_true hd) _) hm
theorem a_noN {fuel : Nat} {done : List Nat} (i : Nat) {d : Nat} {o : Op} {ty : TypeId} {pos : String} {af : Array Edge} {j : Nat} {b : Bool} (hi : ops[i]? = some ⟨some d, o, ty, pos, af, some (j, b)⟩)
    (hg : gno ops fr j = true) (hok : takeOk ops done i = true) (hV : Ent U V) (hd : Nat.ble (d + 1) E.n = true) (h : EVA E K k ops V fuel (i :: done) ((d, undef) :: fr) U) : EVA E K k ops V (fuel + 1) done fr U := by
  intro a w hf hm
  simp only [takeOk, Bool.and_eq_true] at hok
  refine wpAnyH_take hi hok.1 hok.2.2 hok.2.1 (fun c a w h => post_panic h) (.inr ⟨by simp only [Region.wanted, gno_yielded hf hg]; rfl, rfl⟩) (hm.ent hV) ?_
  rw [lset_cons]
  exact h _ w (hf.put (Nat.le_of_ble_eq_true hd) _) hm
theorem a_1no {fuel : Nat} {done : List Nat} (i : Nat) {d : Nat} {o : Op} {ty : TypeId} {pos : String} {af : Array Edge} {j : Nat} {b b' : Bool} (hr : Region.ready .any ops (lset ops done) = [i]) (hi : ops[i]? = some ⟨some d, o, ty, pos, af, some (j, b)⟩)
    (hg : gval ops fr j = some b') (hb : Bool.xor b b' = true) (hV : Ent U V) (hd : Nat.ble (d + 1) E.n = true) (h : EVA E K k ops V fuel (i :: done) ((d, undef) :: fr) U) : EVA E K k ops V (fuel + 1) done fr U := by
  intro a w hf hm
  refine wpAnyH_all hr (by simp) ?_
  intro q hq
  simp only [List.mem_singleton] at hq
  subst hq
  unfold wpOp
  have hw : Region.wanted ⟨some d, o, ty, pos, af, some (j, b)⟩ (yielded ops a.tmps) = false := by
    simp only [Region.wanted, gval_yielded hf hg]
    cases b <;> cases b' <;> first | rfl | (simp at hb)
  simp only [hi, hw, Bool.false_eq_true, if_false]
  refine ⟨hm.ent hV, ?_⟩
  rw [lset_cons]
  exact h _ w (hf.put (Nat.le_of_ble_eq_true hd) _) hm
end skip

end Go.Proofs.YtcnpjhaedjncdaaDoor.E
