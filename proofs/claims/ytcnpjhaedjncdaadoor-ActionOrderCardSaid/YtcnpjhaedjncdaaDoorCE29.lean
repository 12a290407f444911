/-
  The engine, twenty-ninth part: what a call leaves, looked at; a field of a struct that is a value.
-/
import Derived.Test.YtcnpjhaedjncdaaDoorAcBase4

namespace Go.Proofs.YtcnpjhaedjncdaaDoor.E
open Go
set_option linter.all false
variable {E : Env} {fr : Frm} {U : List Asn} {N : Frm → List Asn → Prop}

theorem Trip.monoS {P : Program} {f : FuncId} {args : List Value} {R : Rd} {Ms : List Asn} {Q Q' : Value → List Asn → Prop} (h : Trip P f args R Ms Q) (hq : ∀ v V, Q v V → ∀ w S, star V w S → Q' v V) : Trip P f args R Ms Q' where
  enters := h.enters
  calls := fun w SM hS hs hR => (h.calls w SM hS hs hR).mono fun e w' ⟨v, V, S, he, hQ, hst, hb, hstep⟩ => ⟨v, V, S, he, hq v V hQ w' S hst, hst, hb, hstep⟩

theorem n_field {t : TypeId} {x : Operand} {f : Nat} {u v : Value} (hx : val fr x = some u) (hr : ∀ w, (Instr.field t u f).run E.P w = .ok v w) : NEV E (.field t x f) fr U v := by
  intro a w dst ty pos af g hf _
  simp [execOp, hf.eval hx, hr w]

/-- A field that is one cell. -/
theorem n_field1 {t : TypeId} {x : Operand} {f off ft : Nat} {cs : List Value} {v : Value} {fs : Array Field} {fd : Field} {i : TI} (hx : val fr x = some (.agg cs.toArray)) (ht : E.P.underlying t = some (.struct fs)) (hf : fs[f]? = some fd) (hft : fd.type = ft) (hi : tl E.T ft = some i) (ha : aggB i.d = false) (ho : fd.offset = off) (hv : cs[off]? = some v) : NEV E (.field t x f) fr U v := by
  subst hft ho
  refine n_field hx (fun w => ?_)
  unfold Instr.field
  simp [run_under ht, hf, part, run_isAgg hi, ha, asAgg, hv]

end Go.Proofs.YtcnpjhaedjncdaaDoor.E
