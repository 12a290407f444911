/-
  A machine, copied.
-/
import Derived.Test.YtbfjnldneemmiabL12
import Derived.Test.YtbfjnldneemmiabLI
namespace Go.Proofs.Ytbfjnldneemmiab
set_option linter.all false
open Go.Proofs.Ytbfjnldneemmiab.E


theorem ent_dfaR {m : Mach} (h : ∀ v ∈ m.Class.l, I64 v) {A1 A2 : Option Addr} {c1 c2 : Nat} {U : List Asn} : Ent (rdA (kslice 24 (kslice 8 kint)) [.slice A1 m.Next.length c1] m.Next :: rdA (kslice 8 kint) [.slice A2 m.Rule.length c2] m.Rule :: U) (rdA kDfa (dfC m A1 A2 c1 c2) m :: U) :=
  Ent.two fun w S1 S2 h1 h2 => by
    obtain ⟨A, c, e, a1, a2, a3⟩ := kNext.mono (S' := fun b => S1 b ∨ S2 b) (fun b h => Or.inl h) h1
    obtain ⟨A', c', e', b1, b2, b3⟩ := (kslice 8 kint).mono (S' := fun b => S1 b ∨ S2 b) (fun b h => Or.inr h) h2
    cases e; cases e'
    exact kDfa_mk ⟨h, ⟨a1, a2, a3⟩, ⟨b1, b2, b3⟩⟩

attribute [local irreducible] EVX EVO EVL EV1 NEV
attribute [local irreducible] own osl exA rdA rdL
set_option maxRecDepth 10000
set_option maxHeartbeats 4000000

end Go.Proofs.Ytbfjnldneemmiab
