/-
  A grammar of one's own with one production more, whose right side is another's: read.
-/
import Derived.Test.YtjeimmekhfhepaaCEN1
import Derived.Test.YtjeimmekhfhepaaCEP9

namespace Go.Proofs.Ytjeimmekhfhepaa
set_option linter.all false
open Go.Proofs.Ytjeimmekhfhepaa.E

theorem prC_len {acs : List (Option Addr × Nat)} {ps : List Prd} (h : acs.length = ps.length) : (prC acs ps).length = ps.length * 4 := by
  unfold prC
  induction ps generalizing acs with
  | nil => cases acs <;> simp
  | cons p ps ih =>
    cases acs with
    | nil => simp at h
    | cons a acs =>
      rw [List.zipWith_cons_cons, List.flatten_cons, List.length_append, ih (by simpa using h)]
      simp only [prRow, List.length_cons, List.length_nil]; omega
theorem prC_load {acs : List (Option Addr × Nat)} {ps : List Prd} (h : acs.length = ps.length) {j : Nat} (hj : j < ps.length) {fs : List (Nat × Nat)} {by_ : Nat} {z : List Value} :
    loadL ⟨.struct fs, 4, by_, z⟩ (prC acs ps) (0 + j * 4) = some (.agg (prRow (acs[j]'(h ▸ hj)) ps[j]).toArray) := by
  have := load_flat (i := ⟨.struct fs, 4, by_, z⟩) (sz := 4) (ess := List.zipWith prRow acs ps) (fun es hes => by
    obtain ⟨i, hi, rfl⟩ := List.getElem_of_mem hes
    rw [List.getElem_zipWith]; rfl) (j := j) (o := 0 + j * 4) (by simp; omega) rfl rfl (by omega)
  rw [List.getElem_zipWith] at this
  exact this

theorem own_rdX {g : Gram} {a0 a1 a2 a3 a4 : Option Addr} {d0 d1 d2 d3 d4 : Nat} {acs : List (Option Addr × Nat)} (hl : acs.length = g.Prods.length) (hg : GrN g) {k : Nat} (hk : k < g.Prods.length) {x : Prd} (hx : x.Right = g.Prods[k].Right) (hx1 : I64 x.Left) (hx2 : I64 x.L.N) (hx3 : I64 x.L.Kind) (hP : g.Prods.length ≤ 1000) {w : World} {S : BSet}
    (h : star [osl 44 4 (.slice a4 (g.Prods.length + 1) d4) (g.Prods.length + 1) (prC (acs ++ [acs[k]'(hl ▸ hk)]) (g.Prods ++ [x])), ogT a0 d0 g.Terms, ogL a1 d1 g.Levels, ogP a2 d2 g.Pats, ogT a3 d3 g.Nons, prB acs g.Prods] w S) :
    kGram.R w S [.slice a0 g.Terms.length d0, .slice a1 g.Levels.length d1, .slice a2 g.Pats.length d2, .slice a3 g.Nons.length d3, .slice a4 (g.Prods.length + 1) d4] (plus g x) := by
  obtain ⟨_, h0, i0⟩ := star_mem (i := 0) rfl h
  obtain ⟨_, h1, i1⟩ := star_mem (i := 1) rfl h
  obtain ⟨_, h2, i2⟩ := star_mem (i := 2) rfl h
  obtain ⟨_, h3, i3⟩ := star_mem (i := 3) rfl h
  obtain ⟨_, h4, i4⟩ := star_mem (i := 4) rfl h
  obtain ⟨_, h5, i5⟩ := star_mem (i := 5) rfl h
  have nT := hg.nT
  have nL := hg.nL
  have nN := hg.nN
  have hr := kGram_mk (g := plus g x) (A0 := a0) (A1 := a1) (A2 := a2) (A3 := a3) (A4 := a4) (c0 := d0) (c1 := d1) (c2 := d2) (c3 := d3) (c4 := d4) (w := w) (S := S) ⟨?_, ?_, ?_, ?_, ?_⟩
  · rw [plus_len] at hr; exact hr
  · obtain ⟨e, _, e2⟩ := osl_els (k := kstr) Value.string rfl (fun _ _ _ => rfl) h1
    exact ⟨e2, by show g.Terms.length * _ ≤ _; omega, els_mono i1 e⟩
  · have h2' := h2
    unfold ogL at h2'
    rw [List.flatMap_def] at h2'
    obtain ⟨e, e2⟩ := osl_elsG (kd := kLev) (ess := g.Levels.map encZ) h2' i2 (by simp) rfl (fun i g1 g2 => by
      rw [List.getElem_map]
      have := hg.l _ (List.getElem_mem g2)
      exact ⟨[_], [_], rfl, ⟨rfl, this.1⟩, ⟨rfl, this.2⟩⟩)
    exact ⟨e2, by show g.Levels.length * _ ≤ _; omega, e⟩
  · have h3' := h3
    unfold ogP at h3'
    rw [List.flatMap_def] at h3'
    obtain ⟨e, e2⟩ := osl_elsG (kd := kPt) (ess := g.Pats.map encPt) h3' i3 (by simp) rfl (fun i g1 g2 => by
      rw [List.getElem_map]
      exact ⟨[_], [_], rfl, ⟨rfl, hg.t _ (List.getElem_mem g2)⟩, rfl⟩)
    exact ⟨e2, hg.nP, e⟩
  · obtain ⟨e, _, e2⟩ := osl_els (k := kstr) Value.string rfl (fun _ _ _ => rfl) h4
    exact ⟨e2, by show g.Nons.length * _ ≤ _; omega, els_mono i4 e⟩
  · have hle : (g.Prods ++ [x]).length = g.Prods.length + 1 := by simp
    have hrow : ∀ (j : Nat) (hj : j < g.Prods.length), Sl 8 kint w S (acs[j]'(hl ▸ hj)).1 (acs[j]'(hl ▸ hj)).2 g.Prods[j].Right := fun j hj => by
      have hi : j < (g.Prods.map (·.Right)).length := by rw [List.length_map]; exact hj
      have hl2 : acs.length = (g.Prods.map (·.Right)).length := by rw [List.length_map]; exact hl
      obtain ⟨S3, h6, i6⟩ := star_mem (rowX_get (f := fun l : List Int => l.map (Value.int .i64)) (sz := 1) (ei := 3) hl2 hi) h5
      obtain ⟨r3, r4, r5, r2, r1⟩ := hg.p _ (List.getElem_mem hj)
      have hri : (g.Prods.map (·.Right))[j] = g.Prods[j].Right := List.getElem_map _
      rw [hri] at h6
      obtain ⟨A', c', e, k1, k2, k3⟩ := can_to (R := (kslice 8 kint).rd _ _) Try.prog (fun E => can_ints .z r2 (by omega)) h6
      simp only [List.cons.injEq, Value.slice.injEq, and_true] at e
      refine ⟨?_, k2, els_mono (fun b hb => i5 b (i6 b hb)) ?_⟩
      · rw [e.2.2]; exact k1
      · rw [e.1]; exact k3
    obtain ⟨e, e2⟩ := osl_elsG (kd := kPrd) (xs := g.Prods ++ [x]) (ess := List.zipWith prRow (acs ++ [acs[k]'(hl ▸ hk)]) (g.Prods ++ [x])) (by rw [← hle] at h0; exact h0) i0 (by simp [hl]) rfl (fun i g1 g2 => by
      rw [List.getElem_zipWith]
      by_cases e : i < g.Prods.length
      · have e1 : (acs ++ [acs[k]'(hl ▸ hk)])[i]'(by simp [hl]; omega) = acs[i]'(hl ▸ e) := List.getElem_append_left (hl ▸ e)
        have e2 : (g.Prods ++ [x])[i] = g.Prods[i] := List.getElem_append_left e
        rw [e1, e2]
        obtain ⟨r3, r4, r5, _, _⟩ := hg.p _ (List.getElem_mem e)
        exact kPrd_mk r3 r4 r5 (hrow i e)
      · have ei : i = g.Prods.length := by rw [hle] at g2; omega
        subst ei
        have e1 : (acs ++ [acs[k]'(hl ▸ hk)])[g.Prods.length]'(by simp [hl]) = acs[k]'(hl ▸ hk) := by
          rw [List.getElem_append_right (by omega)]; simp
        have e2 : (g.Prods ++ [x])[g.Prods.length] = x := by simp
        rw [e1, e2]
        refine kPrd_mk hx1 hx2 hx3 ?_
        rw [hx]; exact hrow k hk)
    exact ⟨by rw [hle] at e2; show (g.Prods ++ [x]).length ≤ _; rw [hle]; exact e2, by show (g.Prods ++ [x]).length * _ ≤ _; rw [hle]; omega, e⟩
theorem can_ownX {E0 : Go.Proofs.Ytjeimmekhfhepaa.E.Env} {U W : List Asn} {g : Gram} {a0 a1 a2 a3 a4 : Option Addr} {d0 d1 d2 d3 d4 : Nat} {acs : List (Option Addr × Nat)} (hl : acs.length = g.Prods.length) (hg : GrN g) {k : Nat} (hk : k < g.Prods.length) {x : Prd} (hx : x.Right = g.Prods[k].Right) (hx1 : I64 x.Left) (hx2 : I64 x.L.N) (hx3 : I64 x.L.Kind) (hP : g.Prods.length ≤ 1000)
    (he : Ent U ([osl 44 4 (.slice a4 (g.Prods.length + 1) d4) (g.Prods.length + 1) (prC (acs ++ [acs[k]'(hl ▸ hk)]) (g.Prods ++ [x])), ogT a0 d0 g.Terms, ogL a1 d1 g.Levels, ogP a2 d2 g.Pats, ogT a3 d3 g.Nons, prB acs g.Prods] ++ W)) :
    Go.Proofs.Ytjeimmekhfhepaa.E.Can E0 U (kGram.rd [.slice a0 g.Terms.length d0, .slice a1 g.Levels.length d1, .slice a2 g.Pats.length d2, .slice a3 g.Nons.length d3, .slice a4 (g.Prods.length + 1) d4] (plus g x)) := Can.of fun w S hs => by
  obtain ⟨S1, S2, h1, _, _, i1, _⟩ := star_split (he w S hs)
  exact kGram.mono i1 (own_rdX hl hg hk hx hx1 hx2 hx3 hP h1)

end Go.Proofs.Ytjeimmekhfhepaa
