/-
  What the program and the document answer of a grammar's names, in one form.
-/
import Derived.Test.YtbfjnldneemmiaaU5
namespace Go.Proofs.Ytbfjnldneemmiaa
set_option linter.all false
open Go.Proofs.Ytbfjnldneemmiaa.E

abbrev kBs : Kd (List Bool) := kslice 1 kbool
abbrev kBss : Kd (List (List Bool)) := kslice 24 (kslice 1 kbool)

def noT (g : Gram) : List Bool := if checkE g = 0 then (bFix g).1 else []
def fiT (g : Gram) : List (List Bool) := if checkE g = 0 then (bFix g).2 else []
def ofT (g : Gram) (l : List Int) : List Bool := if ofE g l = 0 then (rowT g.Terms.length (bFix g) l).1 else []
def ofN (g : Gram) (l : List Int) : Bool := if ofE g l = 0 then (rowT g.Terms.length (bFix g) l).2 else false

theorem ent_osl {e : TypeId} {A : Option Addr} {n c : Nat} {xs : List Bool} {U : List Asn} (hb : n ≤ 1000000) : Ent (osl e 1 (.slice A n c) n (xs.map Value.bool) :: U) (rdA kBs [.slice A n c] xs :: U) :=
  ent_can Try.prog fun _ => Can.osl Value.bool rfl kbool_enc .z (by omega)

theorem ent_orow {eo ei : TypeId} {A : Option Addr} {n c : Nat} {rows : List (List Bool)} {U : List Asn} (hb : n ≤ 1000000) (hr : ∀ r ∈ rows, r.length ≤ 1000000) :
    Ent (orow Value.bool eo ei (.slice A n c) n rows :: U) (rdA kBss [.slice A n c] rows :: U) :=
  ent_can Try.prog fun _ => Can.orow Value.bool rfl kbool_enc .z (by omega) (fun r h => by have := hr r h; omega)

structure GOk (g : Gram) : Prop where
  t48 : g.Terms.length ≤ 48
  n48 : g.Nons.length ≤ 48
  n2 : 2 ≤ g.Nons.length
  bs : BsOk g.Terms.length g.Nons.length g.Prods
  inv : BInv g.Terms.length g.Nons.length (bFix g)

theorem gOk {g : Gram} (h : checkE g = 0) : GOk g := by
  obtain ⟨hl, hw⟩ := wf0_of h
  obtain ⟨h1, h2, _⟩ := lim_n hl
  exact ⟨h1, h2, hw.n, bsOk_of hw, bFix_inv (bsOk_of hw).nat⟩

theorem nothing_u (cs : List Value) (g : Gram) : Trip Try.prog 30 [.agg cs.toArray] (kGram.rd cs g) []
    (fun v V => ∃ X c, v = .tuple #[.slice X (noT g).length c, .int .i64 (checkE g)] ∧ V = [rdA kBs [.slice X (noT g).length c] (noT g)]) := by
  refine (nothing_w cs g).monoE ?_
  rintro v V (⟨hne, rfl, rfl⟩ | ⟨he, bn, rfl, rfl⟩)
  · have hn : noT g = [] := by unfold noT; rw [if_neg hne]
    rw [hn]
    exact ⟨_, ⟨none, 0, rfl, rfl⟩, ent_nilS⟩
  · have hn : noT g = (bFix g).1 := by unfold noT; rw [if_pos he]
    obtain ⟨h1, h2, _, _, h3⟩ := gOk he
    rw [hn, he, h3.no]
    exact ⟨_, ⟨_, _, rfl, rfl⟩, ent_osl (by omega)⟩

theorem first_u (cs : List Value) (g : Gram) : Trip Try.prog 31 [.agg cs.toArray] (kGram.rd cs g) []
    (fun v V => ∃ X c, v = .tuple #[.slice X (fiT g).length c, .int .i64 (checkE g)] ∧ V = [orow Value.bool 49 4 (.slice X (fiT g).length c) (fiT g).length (fiT g)]) := by
  refine (first_w cs g).monoE ?_
  rintro v V (⟨hne, rfl, rfl⟩ | ⟨he, bf, cf, rfl, rfl⟩)
  · have hn : fiT g = [] := by unfold fiT; rw [if_neg hne]
    rw [hn]
    exact ⟨_, ⟨none, 0, rfl, rfl⟩, Ent.ex (φ := fun acs : List (Option Addr × Nat) => acs.length = ([] : List (List Bool)).length) [] rfl (Ent.osl0 (Ent.nil _))⟩
  · have hn : fiT g = (bFix g).2 := by unfold fiT; rw [if_pos he]
    obtain ⟨h1, h2, _, _, h3⟩ := gOk he
    rw [hn, he, h3.fi]
    exact ⟨_, ⟨_, _, rfl, rfl⟩, Ent.refl _⟩

theorem ofT_len {g : Gram} {l : List Int} (h : ofE g l = 0) : (ofT g l).length = g.Terms.length := by unfold ofT; rw [if_pos h, rowT_len]

theorem ofE_check {g : Gram} {l : List Int} (h : ofE g l = 0) : checkE g = 0 := by
  unfold ofE at h
  split at h
  · rename_i hne; exact absurd h hne
  · rename_i hne; simpa using hne

theorem of_q {g : Gram} {l : List Int} (v : Value) (V : List Asn)
    (h : (ofE g l ≠ 0 ∧ v = .tuple #[.slice none 0 0, .bool false, .int .i64 (ofE g l)] ∧ V = []) ∨
      (ofE g l = 0 ∧ ∃ bu, v = .tuple #[.slice (some ⟨bu, 0, none⟩) g.Terms.length g.Terms.length, .bool (rowT g.Terms.length (bFix g) l).2, .int .i64 0] ∧
        V = [osl 4 1 (.slice (some ⟨bu, 0, none⟩) g.Terms.length g.Terms.length) g.Terms.length ((rowT g.Terms.length (bFix g) l).1.map Value.bool)])) :
    ∃ V', (∃ X c, v = .tuple #[.slice X (ofT g l).length c, .bool (ofN g l), .int .i64 (ofE g l)] ∧ V' = [rdA kBs [.slice X (ofT g l).length c] (ofT g l)]) ∧ Ent V V' := by
  rcases h with ⟨hne, rfl, rfl⟩ | ⟨he, bu, rfl, rfl⟩
  · have h1 : ofT g l = [] := by unfold ofT; rw [if_neg hne]
    have h2 : ofN g l = false := by unfold ofN; rw [if_neg hne]
    rw [h1, h2]
    exact ⟨_, ⟨none, 0, rfl, rfl⟩, ent_nilS⟩
  · have h1 : ofT g l = (rowT g.Terms.length (bFix g) l).1 := by unfold ofT; rw [if_pos he]
    have h2 : ofN g l = (rowT g.Terms.length (bFix g) l).2 := by unfold ofN; rw [if_pos he]
    have := (gOk (ofE_check he)).t48
    rw [h1, h2, he, rowT_len]
    exact ⟨_, ⟨_, _, rfl, rfl⟩, ent_osl (by omega)⟩

theorem of_u (cs : List Value) (g : Gram) (Al : Option Addr) (m cl : Nat) (l : List Int) (hm : m = l.length) : Trip Try.prog 32 [.agg cs.toArray, .slice Al m cl] ((kGram.rd cs g).and ((kslice 8 kint).rd [.slice Al m cl] l)) []
    (fun v V => ∃ X c, v = .tuple #[.slice X (ofT g l).length c, .bool (ofN g l), .int .i64 (ofE g l)] ∧ V = [rdA kBs [.slice X (ofT g l).length c] (ofT g l)]) :=
  (of_w cs g Al m cl l hm).monoE fun v V h => of_q v V h

theorem ofR_u (cs : List Value) (g : Gram) (Al : Option Addr) (m cl : Nat) (l : List Int) (hm : m = l.length) : Trip Try.prog 33 [.agg cs.toArray, .slice Al m cl] ((kGram.rd cs g).and ((kslice 8 kint).rd [.slice Al m cl] l)) []
    (fun v V => ∃ X c, v = .tuple #[.slice X (ofT g l).length c, .bool (ofN g l), .int .i64 (ofE g l)] ∧ V = [rdA kBs [.slice X (ofT g l).length c] (ofT g l)]) :=
  (ofR_w cs g Al m cl l hm).monoE fun v V h => of_q v V h

theorem all_u (cs : List Value) (g : Gram) (he : checkE g = 0) : Trip Try.prog 37 [.agg cs.toArray] (kGram.rd cs g) []
    (fun v V => ∃ X c Y d, v = .agg #[.slice X (noT g).length c, .slice Y (fiT g).length d] ∧ V = [rdA kBs [.slice X (noT g).length c] (noT g), orow Value.bool 49 4 (.slice Y (fiT g).length d) (fiT g).length (fiT g)]) := by
  refine (allR_w cs g he).monoE ?_
  rintro v V ⟨bn, bf, cf, rfl, rfl⟩
  have hn : noT g = (bFix g).1 := by unfold noT; rw [if_pos he]
  have hf : fiT g = (bFix g).2 := by unfold fiT; rw [if_pos he]
  obtain ⟨h1, h2, _, _, h3⟩ := gOk he
  rw [hn, hf, h3.no, h3.fi]
  exact ⟨_, ⟨_, _, _, _, rfl, rfl⟩, ent_osl (by omega)⟩

end Go.Proofs.Ytbfjnldneemmiaa
