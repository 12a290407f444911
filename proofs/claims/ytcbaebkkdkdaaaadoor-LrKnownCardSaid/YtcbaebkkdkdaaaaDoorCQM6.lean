/-
  A grammar of one's own, read; the grammar of sums, laid.
-/
import Derived.Test.YtcbaebkkdkdaaaaDoorLrBase5
import Derived.Test.YtcbaebkkdkdaaaaDoorCQPC
import Derived.Test.YtcbaebkkdkdaaaaDoorCQM0

namespace Go.Proofs.YtcbaebkkdkdaaaaDoor
set_option linter.all false
open Go.Proofs.YtcbaebkkdkdaaaaDoor.E

def encZ (x : Lev) : List Value := [.int .i64 x.N, .int .i64 x.Kind]

/-- The cells of productions whose right sides lie apart. -/
def prRow (ac : Option Addr × Nat) (p : Prd) : List Value := [.int .i64 p.Left, .slice ac.1 p.Right.length ac.2, .int .i64 p.L.N, .int .i64 p.L.Kind]
def prC (acs : List (Option Addr × Nat)) (ps : List Prd) : List Value := (List.zipWith prRow acs ps).flatten

theorem prC_snoc {acs : List (Option Addr × Nat)} {ps : List Prd} (hl : acs.length = ps.length) {ac : Option Addr × Nat} {p : Prd} : prC acs ps ++ prRow ac p = prC (acs ++ [ac]) (ps ++ [p]) := by
  unfold prC
  rw [List.zipWith_append hl]
  simp

abbrev prB (acs : List (Option Addr × Nat)) (ps : List Prd) : Asn := bun (rowX (fun l : List Int => l.map (Value.int .i64)) 1 3 acs (ps.map (·.Right)))
abbrev levZ (b : Nat) (l : List Lev) : Asn := osl 51 2 (sl b l.length) l.length (l.flatMap encZ)
abbrev prS (A : Option Addr) (c : Nat) (acs : List (Option Addr × Nat)) (ps : List Prd) : Asn := osl 53 4 (.slice A ps.length c) ps.length (prC acs ps)

/-- Numbers and lengths that fit. -/
structure PrOk (ps : List Prd) : Prop where
  n : ps.length ≤ 1000
  r : ∀ p ∈ ps, p.Right.length ≤ 1000 ∧ (∀ x ∈ p.Right, I64 x) ∧ I64 p.Left ∧ I64 p.L.N ∧ I64 p.L.Kind

theorem gram_rdP {g : Gram} {b0 b1 b2 : Nat} {A : Option Addr} {c : Nat} {acs : List (Option Addr × Nat)} {ps : List Prd} (hl : acs.length = ps.length) (m : Nat) (hm : m ≤ ps.length) (hg : g.Prods = ps.take m) (hP : g.Pats = [])
    (nT : g.Terms.length ≤ 1000) (nL : g.Levels.length ≤ 1000) (nN : g.Nons.length ≤ 1000) (hO : PrOk ps) (hlv : ∀ x ∈ g.Levels, x = ⟨0, 0⟩) {w : World} {S : BSet}
    (h : star [strs b0 g.Terms, levZ b1 g.Levels, strs b2 g.Nons, prS A c acs ps, prB acs ps] w S) :
    kGram.R w S [sl b0 g.Terms.length, sl b1 g.Levels.length, .slice none 0 0, sl b2 g.Nons.length, .slice A m c] g := by
  obtain ⟨_, h0, i0⟩ := star_mem (i := 0) rfl h
  obtain ⟨_, h1, i1⟩ := star_mem (i := 1) rfl h
  obtain ⟨_, h2, i2⟩ := star_mem (i := 2) rfl h
  obtain ⟨_, h3, i3⟩ := star_mem (i := 3) rfl h
  obtain ⟨_, h4, i4⟩ := star_mem (i := 4) rfl h
  have hml : g.Prods.length = m := by rw [hg, List.length_take]; omega
  have hpn := hO.n
  have z : I64 0 := by unfold I64; omega
  have hrow : Els kPrd w S A ps ∧ ps.length ≤ c := by
    refine osl_elsG (kd := kPrd) (ess := List.zipWith prRow acs ps) h3 i3 (by simp [hl]) rfl (fun i g1 g2 => ?_)
    rw [List.getElem_zipWith]
    have hi : i < (ps.map (·.Right)).length := by rw [List.length_map]; exact g2
    have hl2 : acs.length = (ps.map (·.Right)).length := by rw [List.length_map]; exact hl
    obtain ⟨S3, h5, i5⟩ := star_mem (rowX_get (f := fun l : List Int => l.map (Value.int .i64)) (sz := 1) (ei := 3) hl2 hi) h4
    obtain ⟨r1, r2, r3, r4, r5⟩ := hO.r _ (List.getElem_mem g2)
    have hri : (ps.map (·.Right))[i] = ps[i].Right := List.getElem_map _
    rw [hri] at h5
    obtain ⟨A', c', e, k1, k2, k3⟩ := can_to (R := (kslice 8 kint).rd _ _) Tryd.prog (fun E => can_ints .z r2 (by omega)) h5
    simp only [List.cons.injEq, Value.slice.injEq, and_true] at e
    refine kPrd_mk r3 r4 r5 ⟨?_, k2, els_mono (fun b hb => i4 b (i5 b hb)) ?_⟩
    · rw [e.2.2]; exact k1
    · rw [e.1]; exact k3
  have e4 : Sl 48 kPrd w S A c g.Prods := by
    refine ⟨by omega, by omega, fun i hi => ?_⟩
    have hi2 : i < ps.length := by omega
    have := hrow.1 i hi2
    have e : g.Prods[i] = ps[i] := by
      have : ∀ (l : List Prd) (hi : i < l.length), l = ps.take m → l[i] = ps[i] := fun l hi e => by subst e; rw [List.getElem_take]
      exact this _ hi hg
    rw [e]
    exact this
  have hr := kGram_mk (g := g) (A0 := some ⟨b0, 0, none⟩) (A1 := some ⟨b1, 0, none⟩) (A2 := none) (A3 := some ⟨b2, 0, none⟩) (A4 := A) (c0 := g.Terms.length) (c1 := g.Levels.length) (c2 := 0) (c3 := g.Nons.length) (c4 := c)
    ⟨sl_strs h0 i0 (by omega), ?_, by rw [hP]; exact els_nil, sl_strs h2 i2 (by omega), e4⟩
  · rw [hml, hP] at hr; exact hr
  · refine ⟨Nat.le_refl _, by omega, ?_⟩
    unfold levZ at h1
    rw [List.flatMap_def] at h1
    refine (osl_elsG (kd := kLev) (ess := g.Levels.map encZ) h1 i1 (by simp) rfl (fun i g1 g2 => ?_)).1
    rw [List.getElem_map, hlv _ (List.getElem_mem g2)]
    exact ⟨[.int .i64 0], [.int .i64 0], rfl, ⟨rfl, z⟩, ⟨rfl, z⟩⟩

theorem can_gramP {E0 : Go.Proofs.YtcbaebkkdkdaaaaDoor.E.Env} {U V : List Asn} {g : Gram} {b0 b1 b2 : Nat} {A : Option Addr} {c : Nat} {acs : List (Option Addr × Nat)} {ps : List Prd} (hl : acs.length = ps.length) (m : Nat) (hm : m ≤ ps.length) (hg : g.Prods = ps.take m) (hP : g.Pats = [])
    (nT : g.Terms.length ≤ 1000) (nL : g.Levels.length ≤ 1000) (nN : g.Nons.length ≤ 1000) (hO : PrOk ps) (hlv : ∀ x ∈ g.Levels, x = ⟨0, 0⟩)
    (he : Ent V ([strs b0 g.Terms, levZ b1 g.Levels, strs b2 g.Nons, prS A c acs ps, prB acs ps] ++ U)) : Go.Proofs.YtcbaebkkdkdaaaaDoor.E.Can E0 V (kGram.rd [sl b0 g.Terms.length, sl b1 g.Levels.length, .slice none 0 0, sl b2 g.Nons.length, .slice A m c] g) :=
  Can.of fun w S hs => by
    obtain ⟨S1, S2, h1, _, _, i1, _⟩ := star_split (he w S hs)
    exact kGram.mono i1 (gram_rdP hl m hm hg hP nT nL nN hO hlv h1)

theorem sums_ok : PrOk sumsG.Prods := ⟨by decide, by
  intro p hp
  have : (sumsG.Prods.all fun p => decide (p.Right.length ≤ 1000) && (p.Right.all fun x => decide (-9223372036854775808 ≤ x) && decide (x ≤ 9223372036854775807)) && decide (-9223372036854775808 ≤ p.Left) && decide (p.Left ≤ 9223372036854775807) && decide (p.L.N = 0) && decide (p.L.Kind = 0)) = true := by decide +kernel
  have h := List.all_eq_true.1 this p hp
  simp only [Bool.and_eq_true, decide_eq_true_eq, List.all_eq_true] at h
  obtain ⟨⟨⟨⟨⟨h1, h2⟩, h3⟩, h4⟩, h5⟩, h6⟩ := h
  exact ⟨h1, fun x hx => h2 x hx, ⟨h3, h4⟩, by rw [h5]; exact ⟨by decide, by decide⟩, by rw [h6]; exact ⟨by decide, by decide⟩⟩⟩

theorem longPs_len (n : Nat) : (longPs n).length = n + 1 := by unfold longPs; simp
theorem longR_len (k m : Nat) : (longR k m).length = m := by unfold longR; simp
theorem long_ok {n : Nat} (hn : n ≤ 900) : PrOk (longPs n) := ⟨by rw [longPs_len]; omega, by
  intro p hp
  have z : I64 0 := ⟨by decide, by decide⟩
  unfold longPs at hp
  rcases List.mem_cons.1 hp with rfl | hp
  · exact ⟨by simp, fun x hx => by simp at hx; subst hx; exact ⟨by decide, by decide⟩, z, z, z⟩
  · obtain ⟨k, hk, rfl⟩ := List.mem_map.1 hp
    refine ⟨by unfold longP; rw [longR_len]; omega, fun x hx => ?_, (show I64 1 from ⟨by decide, by decide⟩), z, z⟩
    unfold longP longR at hx
    obtain ⟨j, hj, rfl⟩ := List.mem_map.1 hx
    have := Nat.mod_lt (k + j) (show 0 < 47 by decide)
    unfold I64; omega⟩

theorem longPs_succ (n : Nat) : longPs (n + 1) = longPs n ++ [longP n] := by unfold longPs; rw [List.range_succ, List.map_append]; rfl
theorem longPs_take : longPs 39 = (longPs 47).take 40 := by
  unfold longPs
  rw [List.take_succ_cons, ← List.map_take, List.take_range]
  rfl
theorem longR_succ (k m : Nat) : longR k (m + 1) = longR k m ++ [((1 + (k + m) % 47 : Nat) : Int)] := by unfold longR; rw [List.range_succ, List.map_append]; rfl

end Go.Proofs.YtcbaebkkdkdaaaaDoor
