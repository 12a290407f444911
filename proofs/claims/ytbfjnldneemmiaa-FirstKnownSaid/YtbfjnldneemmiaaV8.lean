/-
  The chapter's grammar as data.
-/
import Derived.Test.YtbfjnldneemmiaaV7
namespace Go.Proofs.Ytbfjnldneemmiaa
set_option linter.all false
open Go.Proofs.Ytbfjnldneemmiaa.E

def chap : Gram := ⟨[s0, sA, sB], [⟨0, 0⟩, ⟨0, 0⟩, ⟨0, 0⟩], [], [s0, nS, nA], [⟨0, [4], ⟨0, 0⟩⟩, ⟨1, [5, 2], ⟨0, 0⟩⟩, ⟨1, [4, 1], ⟨0, 0⟩⟩, ⟨2, [1], ⟨0, 0⟩⟩, ⟨2, [], ⟨0, 0⟩⟩]⟩

theorem flat_one {α β : Type} (f : α → β) : ∀ l : List α, (l.map fun x => [f x]).flatten = l.map f
  | [] => rfl
  | x :: l => by simp [flat_one f l]

theorem sl_ints {b : Nat} {l : List Int} {w : World} {S1 S : BSet} (h : (ints b l).P w S1) (hS : ∀ b, S1 b → S b) (hI : ∀ x ∈ l, I64 x) (hl : l.length * 8 ≤ 140737488355328) : Sl 8 kint w S (some ⟨b, 0, none⟩) l.length l := by
  refine ⟨Nat.le_refl _, hl, ?_⟩
  unfold ints at h
  rw [← flat_one] at h
  refine (osl_elsG (kd := kint) h hS (by simp) rfl ?_).1
  intro i h1 h2
  rw [List.getElem_map]
  exact ⟨rfl, hI _ (List.getElem_mem h2)⟩

theorem sl_strs {b : Nat} {l : List ByteArray} {w : World} {S1 S : BSet} (h : (strs b l).P w S1) (hS : ∀ b, S1 b → S b) (hl : l.length * 16 ≤ 140737488355328) : Sl 16 kstr w S (some ⟨b, 0, none⟩) l.length l :=
  ⟨Nat.le_refl _, hl, els_mono hS (osl_els (k := kstr) Value.string rfl (fun _ _ _ => rfl) h).1⟩

theorem els_nil {α : Type} {bytes : Nat} {k : Kd α} {w : World} {S : BSet} : Sl bytes k w S none 0 ([] : List α) := ⟨Nat.le_refl _, by simp, fun i hi => by simp at hi⟩

theorem chap_rd {b0 b1 b2 b3 b5 b7 b9 b12 : Nat} {w : World} {S : BSet} (h : star (chapO b0 b1 b2 b3 b5 b7 b9 b12) w S) : kGram.R w S (chapC b0 b1 b2 b12) chap := by
  obtain ⟨_, h0, i0⟩ := star_mem (i := 0) rfl h
  obtain ⟨_, h1, i1⟩ := star_mem (i := 1) rfl h
  obtain ⟨_, h2, i2⟩ := star_mem (i := 2) rfl h
  obtain ⟨_, h3, i3⟩ := star_mem (i := 3) rfl h
  obtain ⟨_, h5, i5⟩ := star_mem (i := 4) rfl h
  obtain ⟨_, h7, i7⟩ := star_mem (i := 5) rfl h
  obtain ⟨_, h9, i9⟩ := star_mem (i := 6) rfl h
  obtain ⟨_, h12, i12⟩ := star_mem (i := 7) rfl h
  have z : I64 0 := by unfold I64; omega
  have k3 := sl_ints h3 i3 (by intro x hx; simp at hx; subst hx; unfold I64; omega) (by simp)
  have k5 := sl_ints h5 i5 (by intro x hx; simp at hx; unfold I64; omega) (by simp)
  have k7 := sl_ints h7 i7 (by intro x hx; simp at hx; unfold I64; omega) (by simp)
  have k9 := sl_ints h9 i9 (by intro x hx; simp at hx; subst hx; unfold I64; omega) (by simp)
  refine kGram_mk (g := chap) (A0 := some ⟨b0, 0, none⟩) (A1 := some ⟨b1, 0, none⟩) (A2 := none) (A3 := some ⟨b2, 0, none⟩) (A4 := some ⟨b12, 0, none⟩) (c0 := 3) (c1 := 3) (c2 := 0) (c3 := 3) (c4 := 5)
    ⟨sl_strs h0 i0 (by decide), ?_, els_nil, sl_strs h2 i2 (by decide), ?_⟩
  · refine ⟨Nat.le_refl _, by decide +kernel, ?_⟩
    refine (osl_elsG (kd := kLev) (ess := [[.int .i64 0, .int .i64 0], [.int .i64 0, .int .i64 0], [.int .i64 0, .int .i64 0]]) h1 i1 rfl rfl ?_).1
    intro i g1 g2
    have : ∀ x : Lev, x = ⟨0, 0⟩ → kLev.R w S [.int .i64 0, .int .i64 0] x := by
      rintro _ rfl
      exact ⟨[.int .i64 0], [.int .i64 0], rfl, ⟨rfl, z⟩, ⟨rfl, z⟩⟩
    rcases i with _ | _ | _ | i
    · exact this _ rfl
    · exact this _ rfl
    · exact this _ rfl
    · exact absurd g1 (by simp)
  · refine ⟨Nat.le_refl _, by decide +kernel, ?_⟩
    refine (osl_elsG (kd := kPrd) (ess := prodC b3 b5 b7 b9) h12 i12 rfl rfl ?_).1
    intro i g1 g2
    rcases i with _ | _ | _ | _ | _ | i
    · exact kPrd_mk (x := ⟨0, [4], ⟨0, 0⟩⟩) z z z k3
    · exact kPrd_mk (x := ⟨1, [5, 2], ⟨0, 0⟩⟩) (by show I64 1; unfold I64; omega) z z k5
    · exact kPrd_mk (x := ⟨1, [4, 1], ⟨0, 0⟩⟩) (by show I64 1; unfold I64; omega) z z k7
    · exact kPrd_mk (x := ⟨2, [1], ⟨0, 0⟩⟩) (by show I64 2; unfold I64; omega) z z k9
    · exact kPrd_mk (x := ⟨2, [], ⟨0, 0⟩⟩) (by show I64 2; unfold I64; omega) z z els_nil
    · exact absurd g1 (by simp [prodC])

/-! What it is known of. -/
theorem chap_check : checkE chap = 0 := by decide +kernel
theorem chap_no : (bFix chap).1 = [false, false, true] := by decide +kernel
theorem chap_fi : (bFix chap).2 = [[false, true, true], [false, true, true], [false, true, false]] := by decide +kernel
theorem chap_55 : rowT 3 (bFix chap) [5, 5] = ([false, true, false], true) := by decide +kernel
theorem chap_52 : rowT 3 (bFix chap) [5, 2] = ([false, true, true], false) := by decide +kernel
theorem chap_e : rowT 3 (bFix chap) [] = ([false, false, false], true) := by decide +kernel

end Go.Proofs.Ytbfjnldneemmiaa
