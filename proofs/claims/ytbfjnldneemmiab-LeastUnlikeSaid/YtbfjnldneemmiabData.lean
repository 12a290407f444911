/-
  The data of a grammar, and how they lie in memory.
-/
import Derived.Test.YtbfjnldneemmiabE6
namespace Go.Proofs.Ytbfjnldneemmiab
set_option linter.all false
open Go.Proofs.Ytbfjnldneemmiab.E

structure Lev where
  N : Int
  Kind : Int
deriving DecidableEq
structure Pt where
  Term : Int
  Pattern : ByteArray
structure Prd where
  Left : Int
  Right : List Int
  L : Lev
structure Gram where
  Terms : List ByteArray
  Levels : List Lev
  Pats : List Pt
  Nons : List ByteArray
  Prods : List Prd

def kLev : Kd Lev := kiso (kpair kint kint) (fun x => (x.N, x.Kind))
def kPt : Kd Pt := kiso (kpair kint kstr) (fun x => (x.Term, x.Pattern))
def kPrd : Kd Prd := kiso (kpair kint (kpair (kslice 8 kint) kLev)) (fun x => (x.Left, x.Right, x.L))
def kGram : Kd Gram := kiso (kpair (kslice 16 kstr) (kpair (kslice 16 kLev) (kpair (kslice 24 kPt) (kpair (kslice 16 kstr) (kslice 48 kPrd))))) (fun x => (x.Terms, x.Levels, x.Pats, x.Nons, x.Prods))

theorem inc {i : Nat} (h : i ≤ 9223372036854775806) : Value.int .i64 (IntKind.i64.wrap ((i : Int) + 1)) = Value.int .i64 ((i + 1 : Nat) : Int) := by
  rw [wrap_i64 (by omega) (by omega)]; rfl

/-- A slice that is read. -/
def Sl {α : Type} (bytes : Nat) (k : Kd α) (w : World) (S : BSet) (A : Option Addr) (c : Nat) (xs : List α) : Prop :=
  xs.length ≤ c ∧ xs.length * bytes ≤ 140737488355328 ∧ Els k w S A xs

theorem sl_mk {α : Type} {bytes : Nat} {k : Kd α} {w : World} {S : BSet} {A : Option Addr} {c : Nat} {xs : List α} (h : Sl bytes k w S A c xs) : (kslice bytes k).R w S [.slice A xs.length c] xs := ⟨A, c, rfl, h⟩

theorem kLev_open {w : World} {S : BSet} {cs : List Value} {x : Lev} (h : kLev.R w S cs x) : cs = [.int .i64 x.N, .int .i64 x.Kind] ∧ I64 x.N ∧ I64 x.Kind := by
  obtain ⟨c1, c2, rfl, ⟨rfl, h1⟩, ⟨rfl, h2⟩⟩ := h
  exact ⟨rfl, h1, h2⟩

theorem kPrd_open {w : World} {S : BSet} {cs : List Value} {x : Prd} (h : kPrd.R w S cs x) :
    ∃ A c, cs = [.int .i64 x.Left, .slice A x.Right.length c, .int .i64 x.L.N, .int .i64 x.L.Kind] ∧ I64 x.Left ∧ I64 x.L.N ∧ I64 x.L.Kind ∧ Sl 8 kint w S A c x.Right := by
  obtain ⟨c1, c2, rfl, ⟨rfl, h1⟩, c3, c4, rfl, ⟨A, c, rfl, h2⟩, h3⟩ := h
  obtain ⟨rfl, h4, h5⟩ := kLev_open h3
  exact ⟨A, c, rfl, h1, h4, h5, h2⟩

theorem kPrd_mk {w : World} {S : BSet} {x : Prd} {A : Option Addr} {c : Nat} (h1 : I64 x.Left) (h2 : I64 x.L.N) (h3 : I64 x.L.Kind) (h4 : Sl 8 kint w S A c x.Right) :
    kPrd.R w S [.int .i64 x.Left, .slice A x.Right.length c, .int .i64 x.L.N, .int .i64 x.L.Kind] x :=
  ⟨[.int .i64 x.Left], _, rfl, ⟨rfl, h1⟩, [.slice A x.Right.length c], _, rfl, ⟨A, c, rfl, h4⟩, [.int .i64 x.L.N], [.int .i64 x.L.Kind], rfl, ⟨rfl, h2⟩, ⟨rfl, h3⟩⟩

/-- The five slices of a grammar. -/
structure GSl (w : World) (S : BSet) (g : Gram) (A0 A1 A2 A3 A4 : Option Addr) (c0 c1 c2 c3 c4 : Nat) : Prop where
  terms : Sl 16 kstr w S A0 c0 g.Terms
  levels : Sl 16 kLev w S A1 c1 g.Levels
  pats : Sl 24 kPt w S A2 c2 g.Pats
  nons : Sl 16 kstr w S A3 c3 g.Nons
  prods : Sl 48 kPrd w S A4 c4 g.Prods

theorem kGram_open {w : World} {S : BSet} {cs : List Value} {g : Gram} (h : kGram.R w S cs g) :
    ∃ A0 A1 A2 A3 A4 c0 c1 c2 c3 c4, cs = [.slice A0 g.Terms.length c0, .slice A1 g.Levels.length c1, .slice A2 g.Pats.length c2, .slice A3 g.Nons.length c3, .slice A4 g.Prods.length c4] ∧
      GSl w S g A0 A1 A2 A3 A4 c0 c1 c2 c3 c4 := by
  obtain ⟨_, _, rfl, ⟨A0, c0, rfl, h0⟩, _, _, rfl, ⟨A1, c1, rfl, h1⟩, _, _, rfl, ⟨A2, c2, rfl, h2⟩, _, _, rfl, ⟨A3, c3, rfl, h3⟩, A4, c4, rfl, h4⟩ := h
  exact ⟨A0, A1, A2, A3, A4, c0, c1, c2, c3, c4, rfl, h0, h1, h2, h3, h4⟩

theorem kGram_mk {w : World} {S : BSet} {g : Gram} {A0 A1 A2 A3 A4 : Option Addr} {c0 c1 c2 c3 c4 : Nat} (h : GSl w S g A0 A1 A2 A3 A4 c0 c1 c2 c3 c4) :
    kGram.R w S [.slice A0 g.Terms.length c0, .slice A1 g.Levels.length c1, .slice A2 g.Pats.length c2, .slice A3 g.Nons.length c3, .slice A4 g.Prods.length c4] g :=
  ⟨[_], _, rfl, ⟨A0, c0, rfl, h.terms⟩, [_], _, rfl, ⟨A1, c1, rfl, h.levels⟩, [_], _, rfl, ⟨A2, c2, rfl, h.pats⟩, [_], _, rfl, ⟨A3, c3, rfl, h.nons⟩, A4, c4, rfl, h.prods⟩

end Go.Proofs.Ytbfjnldneemmiab
