/-
  Part 4 of what the law's walk stands on: lemmas and contracts, each proved here without a condition but those that it names.
-/
import Derived.Test.YtcnpjhaedjncdaaDoorAcBase3
import Derived.Laws.Strings

namespace Go.Proofs.YtcnpjhaedjncdaaDoor
set_option linter.all false
open Go.Proofs.YtcnpjhaedjncdaaDoor.E

abbrev p00 : Plc := ⟨0, ⟨0, 0⟩⟩
def one0 : Bits := true :: List.replicate 47 false
def st00 : Stt := ⟨[], [], []⟩
def la0 : Stt := addS st00 p00 one0
def laN (g : Gram) (n : Nat) : Stt := stepN g (lrGs g) (restB g) (restN g) n la0

section steps
variable {g : Gram} {GS : List (List Int)} {rB : Itm → Bits} {rN : Itm → Bool}
theorem stepN_done {st : Stt} (h : st.td = []) : ∀ n, stepN g GS rB rN n st = st
  | 0 => rfl
  | n + 1 => by
    show stepN g GS rB rN n (stepG g GS rB rN st) = st
    have : stepG g GS rB rN st = st := by unfold stepG; rw [h]; rfl
    rw [this]; exact stepN_done h n
theorem stepN_plus : ∀ (m n : Nat) (st : Stt), stepN g GS rB rN (m + n) st = stepN g GS rB rN n (stepN g GS rB rN m st)
  | 0, n, st => by rw [Nat.zero_add]; rfl
  | m + 1, n, st => by
    rw [show m + 1 + n = (m + n) + 1 by omega]
    show stepN g GS rB rN (m + n) (stepG g GS rB rN st) = _
    rw [stepN_plus m n]; rfl
theorem stepN_two {st : Stt} {m n : Nat} (hm : (stepN g GS rB rN m st).td = []) (hn : (stepN g GS rB rN n st).td = []) : stepN g GS rB rN m st = stepN g GS rB rN n st := by
  rcases Nat.le_total m n with h | h
  · rw [show n = m + (n - m) by omega, stepN_plus, stepN_done hm]
  · rw [show m = n + (m - n) by omega, stepN_plus, stepN_done hn]
end steps

open Classical in
/-- Where growing ends. -/
noncomputable def laFin (g : Gram) : Stt := if h : ∃ n, (laN g n).td = [] then laN g (Classical.choose h) else la0
theorem laFin_eq {g : Gram} {n : Nat} (h : (laN g n).td = []) : laFin g = laN g n := by
  have he : ∃ n, (laN g n).td = [] := ⟨n, h⟩
  unfold laFin
  rw [dif_pos he]
  exact stepN_two (Classical.choose_spec he) h

/-- Of a state and a production: the terms behind it, where it is whole; else nothing. -/
noncomputable def laRow (g : Gram) (s k : Nat) : Bits := if (⟨s, ⟨k, (prd g k).Right.length⟩⟩ : Plc) ∈ (laFin g).ks then (getB (laFin g).ks (laFin g).bs ⟨s, ⟨k, (prd g k).Right.length⟩⟩).take g.Terms.length else []
noncomputable def laX (g : Gram) : List (List Bits) := if lrE g = 0 then (List.range (lrKs g).length).map fun s => (List.range g.Prods.length).map fun k => laRow g s k else []

/-! ### the least relation -/
/-- What comes of a term behind a place, at once. -/
inductive Cons (g : Gram) (GS : List (List Int)) : Plc → Nat → Plc → Nat → Prop
  | shift {p : Plc} {t : Nat} : p.x.Dot ≠ (prd g p.x.Prod).Right.length → Cons g GS p t (nextP g GS p) t
  | close {p : Plc} {t k u : Nat} : p.x.Dot ≠ (prd g p.x.Prod).Right.length → ¬ beh g p.x < g.Terms.length → k < g.Prods.length → (prd g k).Left = beh g p.x - g.Terms.length →
      ((restB g p.x).getD u false = true ∨ (restN g p.x = true ∧ u = t)) → Cons g GS p t ⟨p.s, ⟨k, 0⟩⟩ u
inductive LA (g : Gram) (GS : List (List Int)) : Plc → Nat → Prop
  | base : LA g GS p00 0
  | step {p q : Plc} {t u : Nat} : LA g GS p t → Cons g GS p t q u → LA g GS q u

def bit (st : Stt) (p : Plc) (t : Nat) : Bool := (getB st.ks st.bs p).getD t false

theorem getD_lt {l : Bits} {t : Nat} (h : l.getD t false = true) : t < l.length := by
  rcases Nat.lt_or_ge t l.length with h1 | h1
  · exact h1
  · rw [List.getD_eq_getElem?_getD, List.getElem?_eq_none h1] at h; cases h

section adds
variable {st : Stt} (hok : SttOk st) {r : Plc} {l : Bits} (hl : l.length = 48)
include hok hl
theorem bit_add (q : Plc) (t : Nat) : bit (addS st r l) q t = (bit st q t || (decide (q = r) && l.getD t false)) := by
  unfold bit
  rw [getB_add hok]
  split
  · rename_i e; subst e
    rw [decide_eq_true rfl, Bool.true_and]
    by_cases ht : t < 48
    · rw [orB_getD t (by rw [getB_len hok.l48]; exact ht)]
    · have h1 : ∀ b : Bits, b.length = 48 → b.getD t false = false := fun b hb => by rw [List.getD_eq_getElem?_getD, List.getElem?_eq_none (by omega)]; rfl
      rw [h1 _ (by unfold orB; rw [orTo_len, getB_len hok.l48]), h1 _ (getB_len hok.l48 q), h1 _ hl]; rfl
  · rename_i e
    rw [decide_eq_false e]; simp
theorem bit_mono {q : Plc} {t : Nat} (h : bit st q t = true) : bit (addS st r l) q t = true := by rw [bit_add hok hl, h]; rfl
theorem bit_in {t : Nat} (h : l.getD t false = true) : bit (addS st r l) r t = true := by rw [bit_add hok hl, h]; simp
theorem td_new {q : Plc} {t : Nat} (h : bit (addS st r l) q t = true) (h0 : bit st q t = false) : q = r ∧ q ∈ (addS st r l).td := by
  rw [bit_add hok hl, h0, Bool.false_or] at h
  simp only [Bool.and_eq_true, decide_eq_true_eq] at h
  obtain ⟨rfl, h⟩ := h
  refine ⟨rfl, ?_⟩
  have : newB (getB st.ks st.bs q) l = true := by
    unfold newB newTo
    rw [List.any_eq_true]
    refine ⟨t, List.mem_range.2 (by rw [getB_len hok.l48]; have := getD_lt h; omega), ?_⟩
    rw [h]; unfold bit at h0; rw [h0]; rfl
  show q ∈ (if newB (getB st.ks st.bs q) l then st.td ++ [q] else st.td)
  rw [if_pos this]; simp
theorem td_mono {q : Plc} (h : q ∈ st.td) : q ∈ (addS st r l).td := by
  show q ∈ (if newB (getB st.ks st.bs r) l then st.td ++ [r] else st.td)
  split
  · exact List.mem_append_left _ h
  · exact h
theorem td_some (hs : ∀ q ∈ st.td, ∃ t, bit st q t = true) : ∀ q ∈ (addS st r l).td, ∃ t, bit (addS st r l) q t = true := by
  intro q hq
  have hq : q ∈ (if newB (getB st.ks st.bs r) l then st.td ++ [r] else st.td) := hq
  have hold : q ∈ st.td → ∃ t, bit (addS st r l) q t = true := fun h => by obtain ⟨t, ht⟩ := hs q h; exact ⟨t, bit_mono hok hl ht⟩
  split at hq
  · rename_i hn
    rcases List.mem_append.1 hq with h | h
    · exact hold h
    · rw [List.mem_singleton] at h; subst h
      unfold newB newTo at hn
      rw [List.any_eq_true] at hn
      obtain ⟨t, _, ht⟩ := hn
      simp only [Bool.and_eq_true] at ht
      exact ⟨t, bit_in hok hl ht.1⟩
  · exact hold hq
end adds

/-- In the midst of a round: what is told is so, what grew is to do, else what comes of it is there. -/
structure Half (g : Gram) (GS : List (List Int)) (p : Plc) (own : Bits) (st : Stt) : Prop where
  ok : SttOk st
  sound : ∀ q t, bit st q t = true → LA g GS q t
  some_ : ∀ q ∈ st.td, ∃ t, bit st q t = true
  comp : ∀ q t, bit st q t = true → q ∈ st.td ∨ (q = p ∧ own.getD t false = true) ∨ ∀ r u, Cons g GS q t r u → bit st r u = true

theorem Half.add {g : Gram} {GS : List (List Int)} {p : Plc} {own : Bits} {st : Stt} (h : Half g GS p own st) {r : Plc} {l : Bits} (hl : l.length = 48) (hs : ∀ t, l.getD t false = true → LA g GS r t) : Half g GS p own (addS st r l) where
  ok := addS_ok h.ok r l
  sound q t hq := by
    rw [bit_add h.ok hl] at hq
    simp only [Bool.or_eq_true, Bool.and_eq_true, decide_eq_true_eq] at hq
    rcases hq with hq | ⟨rfl, hq⟩
    · exact h.sound q t hq
    · exact hs t hq
  some_ := td_some h.ok hl h.some_
  comp q t hq := by
    cases h0 : bit st q t with
    | true =>
      rcases h.comp q t h0 with h1 | h1 | h1
      · exact .inl (td_mono h.ok hl h1)
      · exact .inr (.inl h1)
      · exact .inr (.inr fun r u hc => bit_mono h.ok hl (h1 r u hc))
    | false => exact .inl (td_new h.ok hl hq h0).2

theorem comb_getD {a own : Bits} {nz : Bool} {t : Nat} (h : (comb a own nz).getD t false = true) : a.getD t false = true ∨ (nz = true ∧ own.getD t false = true) := by
  have ht := getD_lt h
  unfold comb at h ht
  rw [List.length_map, List.length_range] at ht
  rw [List.getD_eq_getElem?_getD, List.getElem?_eq_getElem (by simpa using ht), Option.getD_some, List.getElem_map, List.getElem_range] at h
  simpa using h
theorem comb_set {a own : Bits} {nz : Bool} {t : Nat} (ht : t < a.length) (h : a.getD t false = true ∨ (nz = true ∧ own.getD t false = true)) : (comb a own nz).getD t false = true := by
  unfold comb
  rw [List.getD_eq_getElem?_getD, List.getElem?_eq_getElem (by simpa using ht), Option.getD_some, List.getElem_map, List.getElem_range]
  simpa using h
theorem comb_len (a own : Bits) (nz : Bool) : (comb a own nz).length = a.length := by unfold comb; simp

theorem prods_half {g : Gram} {GS : List (List Int)} {p : Plc} {own : Bits} {st : Stt} (h : Half g GS p own st) {l : Bits} (hl : l.length = 48)
    (hs : ∀ t, l.getD t false = true → ∀ k : Nat, k < g.Prods.length → (prd g k).Left = beh g p.x - g.Terms.length → LA g GS ⟨p.s, ⟨k, 0⟩⟩ t) : ∀ m, m ≤ g.Prods.length → Half g GS p own (prodsAdd g p l st m) ∧ (∀ q t, bit st q t = true → bit (prodsAdd g p l st m) q t = true) ∧
      (∀ k : Nat, k < m → (prd g k).Left = beh g p.x - g.Terms.length → ∀ t, l.getD t false = true → bit (prodsAdd g p l st m) ⟨p.s, ⟨k, 0⟩⟩ t = true)
  | 0, _ => ⟨h, fun _ _ h => h, fun k hk => by omega⟩
  | m + 1, hm => by
    obtain ⟨h1, h2, h3⟩ := prods_half h hl hs m (by omega)
    rw [prodsAdd_succ]
    split
    · rename_i hle
      refine ⟨h1.add hl (fun t ht => hs t ht m (by omega) hle), fun q t hq => bit_mono h1.ok hl (h2 q t hq), fun k hk hlk t ht => ?_⟩
      by_cases e : k = m
      · subst e; exact bit_in h1.ok hl ht
      · exact bit_mono h1.ok hl (h3 k (by omega) hlk t ht)
    · rename_i hle
      refine ⟨h1, h2, fun k hk hlk t ht => ?_⟩
      by_cases e : k = m
      · subst e; exact absurd hlk hle
      · exact h3 k (by omega) hlk t ht

/-- Between rounds. -/
structure Whole (g : Gram) (GS : List (List Int)) (st : Stt) : Prop where
  ok : SttOk st
  sound : ∀ q t, bit st q t = true → LA g GS q t
  some_ : ∀ q ∈ st.td, ∃ t, bit st q t = true
  comp : ∀ q t, bit st q t = true → q ∈ st.td ∨ ∀ r u, Cons g GS q t r u → bit st r u = true

theorem Whole.of {g : Gram} {GS : List (List Int)} {p : Plc} {own : Bits} {st : Stt} (h : Half g GS p own st) (hp : ∀ t, own.getD t false = true → ∀ r u, Cons g GS p t r u → bit st r u = true) : Whole g GS st :=
  ⟨h.ok, h.sound, h.some_, fun q t hq => by
    rcases h.comp q t hq with h1 | ⟨rfl, h1⟩ | h1
    · exact .inl h1
    · exact .inr (hp t h1)
    · exact .inr h1⟩

theorem whole_round {g : Gram} (hT : g.Terms.length ≤ 48) {GS : List (List Int)} {st : Stt} (h : Whole g GS st) {p : Plc} (hp : st.td.getLast? = some p) : Whole g GS (roundG g GS (restB g) (restN g) st p) := by
  obtain ⟨ys, hys⟩ := List.getLast?_eq_some_iff.1 hp
  have hmem : p ∈ st.td := by rw [hys]; simp
  obtain ⟨t0, ht0⟩ := h.some_ p hmem
  have hdl : st.td.dropLast = ys := by rw [hys, List.dropLast_concat]
  have hH : Half g GS p (getB st.ks st.bs p) ⟨st.ks, st.bs, st.td.dropLast⟩ := by
    refine ⟨⟨h.ok.len, h.ok.l48, h.ok.nd, fun p hp => h.ok.td p (List.dropLast_subset _ hp)⟩, h.sound, fun q hq => h.some_ q (List.dropLast_subset _ hq), fun q t hq => ?_⟩
    rcases h.comp q t hq with h1 | h1
    · rw [hys] at h1
      rcases List.mem_append.1 h1 with h1 | h1
      · refine .inl ?_; show q ∈ st.td.dropLast; rw [hdl]; exact h1
      · rw [List.mem_singleton] at h1; subst h1; exact .inr (.inl ⟨rfl, hq⟩)
    · exact .inr (.inr h1)
  have hlo := getB_len (ks := st.ks) h.ok.l48 p
  have hso : ∀ t, (getB st.ks st.bs p).getD t false = true → LA g GS p t := fun t ht => h.sound p t ht
  have hst0 : (getB st.ks st.bs p).getD t0 false = true := ht0
  unfold roundG
  generalize getB st.ks st.bs p = own at *
  split
  · rename_i hd
    exact .of hH fun t ht r u hc => by cases hc with
      | shift h1 => exact absurd hd h1
      | close h1 => exact absurd hd h1
  · rename_i hd
    have hA := hH.add (r := nextP g GS p) hlo (fun t ht => .step (hso t ht) (.shift hd))
    split
    · rename_i hb
      refine .of hA fun t ht r u hc => ?_
      cases hc with
      | shift h1 => exact bit_in hH.ok hlo ht
      | close _ h2 => exact absurd hb h2
    · rename_i hb
      have hlc : (comb (restB g p.x) own (restN g p.x)).length = 48 := by rw [comb_len, restB_len hT]
      obtain ⟨h1, h2, h3⟩ := prods_half hA hlc (fun t ht k hk hle => by
        rcases comb_getD ht with h1 | ⟨h1, h2⟩
        · exact .step (hso t0 hst0) (.close hd hb hk hle (.inl h1))
        · exact .step (hso t h2) (.close hd hb hk hle (.inr ⟨h1, rfl⟩))) g.Prods.length (Nat.le_refl _)
      refine .of h1 fun t ht r u hc => ?_
      cases hc with
      | shift _ => exact h2 _ _ (bit_in hH.ok hlo ht)
      | close _ _ hk hle hu =>
        refine h3 _ hk hle u (comb_set ?_ ?_)
        · rcases hu with hu | ⟨_, rfl⟩
          · exact getD_lt hu
          · rw [restB_len hT]; have := getD_lt ht; omega
        · rcases hu with hu | ⟨hu, rfl⟩
          · exact .inl hu
          · exact .inr ⟨hu, ht⟩

theorem whole_N {g : Gram} (hT : g.Terms.length ≤ 48) {GS : List (List Int)} : ∀ (n : Nat) {st : Stt}, Whole g GS st → Whole g GS (stepN g GS (restB g) (restN g) n st)
  | 0, _, h => h
  | n + 1, st, h => by
    show Whole g GS (stepN g GS (restB g) (restN g) n (stepG g GS (restB g) (restN g) st))
    refine whole_N hT n ?_
    unfold stepG
    cases hl : st.td.getLast? with
    | none => exact h
    | some p => exact whole_round hT h hl

theorem ok00 : SttOk st00 := ⟨rfl, (fun b hb => nomatch hb), List.nodup_nil, (fun p hp => nomatch hp)⟩
theorem one0_len : one0.length = 48 := by decide
theorem one0_get {t : Nat} (h : one0.getD t false = true) : t = 0 := by
  cases t with
  | zero => rfl
  | succ t =>
    exfalso
    unfold one0 at h
    rw [List.getD_cons_succ, List.getD_eq_getElem?_getD] at h
    rcases Nat.lt_or_ge t 47 with h1 | h1
    · rw [List.getElem?_replicate, if_pos h1] at h; cases h
    · rw [List.getElem?_replicate, if_neg (by omega)] at h; cases h

theorem whole0 (g : Gram) (GS : List (List Int)) : Whole g GS la0 := by
  have hb : ∀ q t, bit st00 q t = false := fun q t => by
    unfold bit getB st00
    simp only [List.not_mem_nil, if_false]
    unfold zer
    rw [List.getD_eq_getElem?_getD]
    cases h : (List.replicate 48 false)[t]? with
    | none => rfl
    | some b => have := List.mem_of_getElem? h; rw [List.mem_replicate] at this; rw [this.2]; rfl
  have h0 : Half g GS p00 one0 st00 := ⟨ok00, (fun q t h => by rw [hb] at h; cases h), (fun q hq => nomatch hq), (fun q t h => by rw [hb] at h; cases h)⟩
  have h1 := h0.add (r := p00) one0_len (fun t ht => by rw [one0_get ht]; exact .base)
  refine ⟨h1.ok, h1.sound, h1.some_, fun q t hq => ?_⟩
  exact .inl (td_new ok00 one0_len hq (hb q t)).2

theorem la_end {g : Gram} (hT : g.Terms.length ≤ 48) {n : Nat} (h : (laN g n).td = []) {p : Plc} {t : Nat} : bit (laN g n) p t = true ↔ LA g (lrGs g) p t := by
  have hw := whole_N hT n (whole0 g (lrGs g))
  refine ⟨hw.sound p t, fun hl => ?_⟩
  induction hl with
  | base =>
    have mono : ∀ n, bit (laN g n) p00 0 = true → True := fun _ _ => trivial
    have keep : ∀ (n : Nat) {st : Stt}, Whole g (lrGs g) st → bit st p00 0 = true → bit (stepN g (lrGs g) (restB g) (restN g) n st) p00 0 = true := by
      intro n
      induction n with
      | zero => exact fun _ h => h
      | succ n ih =>
        intro st hw hb
        show bit (stepN g (lrGs g) (restB g) (restN g) n (stepG g (lrGs g) (restB g) (restN g) st)) p00 0 = true
        have hw2 : Whole g (lrGs g) (stepG g (lrGs g) (restB g) (restN g) st) := whole_N hT 1 hw
        refine ih hw2 ?_
        unfold stepG
        cases hl : st.td.getLast? with
        | none => exact hb
        | some p =>
          simp only
          have hok : SttOk ⟨st.ks, st.bs, st.td.dropLast⟩ := ⟨hw.ok.len, hw.ok.l48, hw.ok.nd, fun p hp => hw.ok.td p (List.dropLast_subset _ hp)⟩
          have hlo := getB_len (ks := st.ks) hw.ok.l48 p
          have h1 : bit (addS ⟨st.ks, st.bs, st.td.dropLast⟩ (nextP g (lrGs g) p) (getB st.ks st.bs p)) p00 0 = true := bit_mono hok hlo hb
          have hlc : (comb (restB g p.x) (getB st.ks st.bs p) (restN g p.x)).length = 48 := by rw [comb_len, restB_len hT]
          have hpa : ∀ m, SttOk (prodsAdd g p (comb (restB g p.x) (getB st.ks st.bs p) (restN g p.x)) (addS ⟨st.ks, st.bs, st.td.dropLast⟩ (nextP g (lrGs g) p) (getB st.ks st.bs p)) m) ∧ bit (prodsAdd g p (comb (restB g p.x) (getB st.ks st.bs p) (restN g p.x)) (addS ⟨st.ks, st.bs, st.td.dropLast⟩ (nextP g (lrGs g) p) (getB st.ks st.bs p)) m) p00 0 = true := by
            intro m
            induction m with
            | zero => exact ⟨addS_ok hok _ _, h1⟩
            | succ m ih2 =>
              rw [prodsAdd_succ]
              split
              · exact ⟨addS_ok ih2.1 _ _, bit_mono ih2.1 hlc ih2.2⟩
              · exact ih2
          unfold roundG
          split
          · exact hb
          · split
            · exact h1
            · exact (hpa _).2
    exact keep n (whole0 g (lrGs g)) (bit_in ok00 one0_len rfl)
  | step _ hc ih =>
    rcases hw.comp _ _ ih with h1 | h1
    · rw [show (stepN g (lrGs g) (restB g) (restN g) n la0).td = [] from h] at h1; cases h1
    · exact h1 _ _ hc

theorem vp00 {g : Gram} {KS : List (List Itm)} {GS : List (List Int)} (hF : GoF g KS GS) : VP g KS p00 := by
  refine ⟨hF.p0, ?_⟩
  have o := GOk.of hF.wf
  refine ((closedP_spec o.beh o.left (hF.ok 0 hF.p0).2.1).2 _).2 (.base ?_)
  rw [hF.k0 hF.p0]; simp

theorem la_vp {g : Gram} {KS : List (List Itm)} {GS : List (List Int)} (hF : GoF g KS GS) {p : Plc} {t : Nat} (h : LA g GS p t) : VP g KS p := by
  induction h with
  | base => exact vp00 hF
  | step _ hc ih =>
    cases hc with
    | shift hd =>
      obtain ⟨_, _, _, _, _, _, _, h⟩ := ih.next hF hd
      exact h
    | close _ _ hk hl _ => exact ih.prod hF hk hl

end Go.Proofs.YtcnpjhaedjncdaaDoor

namespace Go.Proofs.YtcnpjhaedjncdaaDoor
set_option linter.all false
open Go.Proofs.YtcnpjhaedjncdaaDoor.E

abbrev AcL := List (Option Addr × Nat)
def rowVs (D : List AcL) (R : List (List Bits)) : List (List Value) := List.zipWith rowC D R
def innB (D : List AcL) (R : List (List Bits)) : List Asn := List.zipWith (fun d r => bun (rowX cB 1 4 d r)) D R
abbrev rowO (acs : AcL) (D : List AcL) (R : List (List Bits)) : Asn := bun (rowX (fun l : List Value => l) 1 52 acs (rowVs D R))
/-- The answer, in memory of one's own. -/
structure AheV (V : List Asn) (AX : Option Addr) (n cX : Nat) (X : List (List Bits)) (acs : AcL) (D : List AcL) : Prop where
  m : n = X.length
  l : acs.length = X.length
  d : D.length = X.length
  r : ∀ (i : Nat) (h1 : i < D.length) (h2 : i < X.length), D[i].length = X[i].length
  v : V = [osl 53 1 (.slice AX n cX) n (rowC acs (rowVs D X)), rowO acs D X, bun (innB D X)]

theorem rowVs_len {D : List AcL} {R : List (List Bits)} (h : D.length = R.length) : (rowVs D R).length = R.length := by unfold rowVs; simp [h]
theorem innB_len {D : List AcL} {R : List (List Bits)} (h : D.length = R.length) : (innB D R).length = R.length := by unfold innB; simp [h]

theorem pad_set {α : Type} (A : List α) (m : Nat) (x v : α) : (A ++ List.replicate (m + 1) x).set A.length v = (A ++ [v]) ++ List.replicate m x := by
  rw [List.set_append_right _ _ (Nat.le_refl _), Nat.sub_self, List.replicate_succ, List.set_cons_zero, List.append_assoc]; rfl

theorem univ_len {g : Gram} {KS : List (List Itm)} {GS : List (List Int)} (hF : GoF g KS GS) : (univ g KS).length ≤ 512 * 2000 := by
  unfold univ
  have h1 : ∀ (l : List Nat), (∀ s ∈ l, s < KS.length) → (l.flatMap fun s => (closedP g (KS.getD s [])).map fun x => (⟨s, x⟩ : Plc)).length ≤ l.length * 2000 := by
    intro l
    induction l with
    | nil => intro _; simp
    | cons s l ih =>
      intro h
      rw [List.flatMap_cons, List.length_append, List.length_map, List.length_cons]
      have h2 := ih (fun x hx => h x (List.mem_cons_of_mem _ hx))
      have h3 := h s (List.mem_cons_self ..)
      have h4 := (hF.cl s h3).2.2.2.2
      rw [List.getD_eq_getElem?_getD, List.getElem?_eq_getElem h3, Option.getD_some]
      have := Nat.add_mul l.length 1 2000
      omega
  have h2 := h1 (List.range KS.length) (fun s hs => List.mem_range.1 hs)
  rw [List.length_range] at h2
  exact Nat.le_trans h2 (Nat.mul_le_mul_right _ hF.n)
theorem sum_bound {f : Plc → Nat} {b : Nat} (h : ∀ q, f q ≤ b) : ∀ l : List Plc, (l.map f).sum ≤ l.length * b
  | [] => by simp
  | x :: l => by
    rw [List.map_cons, List.sum_cons, List.length_cons, Nat.add_mul]
    have := sum_bound h l
    have := h x
    omega
theorem meas0 {g : Gram} {KS : List (List Itm)} {GS : List (List Int)} (hF : GoF g KS GS) : meas (univ g KS) la0 ≤ 1000000000 := by
  have h1 : (univ g KS).length ≤ 1024000 := univ_len hF
  have h2 : miss (univ g KS) la0 ≤ (univ g KS).length * 48 := by
    unfold miss
    refine sum_bound (fun q => ?_) _
    unfold cntZ
    refine Nat.le_trans List.countP_le_length ?_
    rw [List.length_range, getB_len (ks := la0.ks) (bs := la0.bs) (addS_ok ok00 p00 one0).l48]; exact Nat.le_refl _
  have h3 : la0.td.length ≤ 1 := by decide
  unfold meas
  omega

theorem ginv0 {g : Gram} {KS : List (List Itm)} {GS : List (List Int)} (hF : GoF g KS GS) : GInv g KS la0 :=
  GInv.add (st := st00) ⟨ok00, fun p hp => by cases hp⟩ (vp00 hF) one0

noncomputable def YR (g : Gram) (s k : Nat) : List Bits := (List.range k).map fun j => laRow g s j
noncomputable def XR (g : Gram) (s : Nat) : List (List Bits) := (List.range s).map fun i => YR g i g.Prods.length
theorem YR_len (g : Gram) (s k : Nat) : (YR g s k).length = k := by unfold YR; simp
theorem XR_len (g : Gram) (s : Nat) : (XR g s).length = s := by unfold XR; simp
theorem YR_succ (g : Gram) (s k : Nat) : YR g s (k + 1) = YR g s k ++ [laRow g s k] := by unfold YR; rw [List.range_succ, List.map_append]; rfl
theorem XR_succ (g : Gram) (s : Nat) : XR g (s + 1) = XR g s ++ [YR g s g.Prods.length] := by unfold XR; rw [List.range_succ, List.map_append]; rfl
theorem XR_get {g : Gram} {s i : Nat} (h : i < (XR g s).length) : (XR g s)[i] = YR g i g.Prods.length := by
  have h2 : i < ((List.range s).map fun i => YR g i g.Prods.length).length := h
  show ((List.range s).map fun i => YR g i g.Prods.length)[i] = _
  rw [List.getElem_map, List.getElem_range]
theorem laX_ok {g : Gram} (h : lrE g = 0) : laX g = XR g (lrKs g).length := by unfold laX; rw [if_pos h]; rfl
theorem rowC_len0 {α : Type} {acs : AcL} {rows : List (List α)} (h : acs.length = rows.length) : (rowC acs rows).length = rows.length := by unfold rowC; simp [h]
theorem rowVs_snoc {D : List AcL} {R : List (List Bits)} (h : D.length = R.length) (d : AcL) (r : List Bits) : rowVs (D ++ [d]) (R ++ [r]) = rowVs D R ++ [rowC d r] := by unfold rowVs; rw [List.zipWith_append h]; rfl
theorem innB_snoc {D : List AcL} {R : List (List Bits)} (h : D.length = R.length) (d : AcL) (r : List Bits) : innB (D ++ [d]) (R ++ [r]) = innB D R ++ [bun (rowX cB 1 4 d r)] := by unfold innB; rw [List.zipWith_append h]; rfl
theorem flat_cB : ∀ l : List Bool, l.flatMap (fun b => [Value.bool b]) = cB l
  | [] => rfl
  | b :: l => by rw [List.flatMap_cons, flat_cB l]; rfl
theorem load_cell {xs : List Value} {o : Nat} {v : Value} {i : TI} (ha : aggB i.d = false) (h : xs[o]? = some v) : loadL i xs o = some v := by unfold loadL; rw [ha]; exact h
abbrev nilV : Value := .slice none 0 0
theorem pad_set1 {A : List Value} {n s : Nat} {v : Value} (h : A.length = s) (hs : s < n) : setMany (A ++ List.replicate (n - s) nilV) (0 + s * 1) [v] = (A ++ [v]) ++ List.replicate (n - (s + 1)) nilV := by
  subst h
  simp only [setMany, Nat.zero_add, Nat.mul_one]
  rw [show n - A.length = (n - (A.length + 1)) + 1 by omega]
  exact pad_set A _ _ v
theorem pad_len {A : List Value} {n s : Nat} (h : A.length = s) (hs : s ≤ n) : (A ++ List.replicate (n - s) nilV).length = n := by rw [List.length_append, List.length_replicate]; omega

attribute [local irreducible] EVX EVO EVL EV1 NEV
attribute [local irreducible] own osl exA rdA rdL
attribute [local irreducible] bldA mapA bun mapS
set_option maxRecDepth 10000
set_option maxHeartbeats 4000000

theorem aheadOf_w (cs : List Value) (g : Gram) (hp : checkE g = 0 → g.Prods.length ≤ 100) : Trip Tryd.prog 12 [.agg cs.toArray] (kGram.rd cs g) []
    (fun v V => ∃ (AX : Option Addr) (n cX : Nat) (acs : AcL) (D : List AcL), v = .tuple #[.slice AX n cX, .int .i64 (lrE g)] ∧ AheV V AX n cX (laX g) acs D) := by
  refine trip Tryd.tabOk Tryd.func12 rfl rfl rfl rfl ?_
  rintro w SM hG0
  obtain ⟨A0, A1, A2, A3, A4, c0, c1, c2, c3, c4, rfl, hG⟩ := kGram_open hG0
  repeat' (first | refine e_nil ?_ | ((refine e_op ?_); (first | refine o_n (peval_sound rfl) rfl ?_ | refine o_n (nl rfl rfl tc rfl) rfl ?_ | refine o_box rfl rfl (fun _ => ?_))) | refine s_seq ?_ | refine s_region ?_)
  refine e_op (o_call (ofP_w _ g hp) rfl .nil (Can.ro hG0) rfl ?_)
  rintro v V ⟨x, rfl, AK, cK, acs, AG, cG, bcs, hl, hb, rfl, rfl⟩
  simp only [List.cons_append, List.nil_append]
  repeat' (first | refine e_nil ?_ | ((refine e_op ?_); (first | refine o_n (peval_sound rfl) rfl ?_ | refine o_storeC rfl rfl rfl rfl tc uc rfl rfl rfl ?_ | refine o_alloc rfl rfl (fun _ => ?_))) | refine s_seq ?_ | refine s_region ?_)
  by_cases h0 : lrE g ≠ 0
  · rw [show (lrE g != 0) = true by simpa using h0]
    have hX : laX g = [] := by unfold laX; rw [if_neg h0]
    rw [hX]
    repeat' (first | refine e_nil ?_ | ((refine e_op ?_); (refine o_n (peval_sound rfl) rfl ?_)) | refine s_seq ?_ | refine s_region ?_ | refine s_true rfl ?_)
    refine s_ret ⟨_, _, res2 rfl rfl rfl, ⟨none, 0, 0, [], [], rfl, ⟨rfl, rfl, rfl, (fun i h1 => nomatch h1), rfl⟩⟩, ?_⟩
    exact (Ent.nil _).trans (Ent.osl0 (ent_bnil0.trans (Ent.cons (ent_bun (L := [])))))
  replace h0 : lrE g = 0 := Classical.not_not.1 h0
  rw [show (lrE g != 0) = false by simpa using h0]
  have hce := (lr_fin h0).1
  have hF := goF h0
  have hN := lr_num g
  repeat' (first | ((refine e_op ?_); (refine o_n (nl rfl rfl tc rfl) rfl ?_)) | refine s_seq ?_ | refine s_region ?_ | refine s_skip ?_ | refine s_false rfl ?_)
  refine e_op (o_newMap keyP rfl (fun b1 => ?_))
  refine e_op (o_newMapS keyX rfl (fun b2 => ?_))
  refine e_op (o_newMapS keyX rfl (fun b3 => ?_))
  repeat' (((refine e_op ?_); (first | refine o_n (peval_sound rfl) rfl ?_ | refine o_box rfl rfl (fun _ => ?_))))
  rename_i bg bl bm
  refine e_nil ?_
  refine s_weak (fr' := [(6, ptrN bm), (4, ptrN bl), (1, ptrN bg)]) (V := [mkB bm (.slice A0 g.Terms.length c0) (.slice A1 g.Levels.length c1) (.slice A2 g.Pats.length c2) (.slice A3 g.Nons.length c3) (.slice A4 g.Prods.length c4) (.slice AK (lrKs g).length cK) (.slice AG (lrGs g).length cG) b1 none 0 0 b2 b3, mapA keyP b1 (prs st00.ks []), bun (bitX [] st00.bs), tdS none 0 st00.td, mapS keyX b2 (begM g []) [] 0, mapS keyX b3 (empM g []) [] 0,
    blk bl 41 [.slice AK (lrKs g).length cK, .slice AG (lrGs g).length cG], kerS AK (lrKs g).length cK acs (lrKs g), kerB acs (lrKs g), gotS AG (lrGs g).length cG bcs (lrGs g), gotB bcs (lrGs g), blk bg 27 [.slice A0 g.Terms.length c0, .slice A1 g.Levels.length c1, .slice A2 g.Pats.length c2, .slice A3 g.Nons.length c3, .slice A4 g.Prods.length c4]]) ?_ ?_ ?_
  · repeat' (first | exact Sub.nil _ | refine Sub.cons rfl ?_)
  · refine Ent.cons (Ent.tak (.s (.s .z)) (Ent.trans (Ent.tak (.s .z) (Ent.tak .z (Ent.refl _))) ?_))
    exact Ent.trans (Ent.osl0 (e := 103) (sz := 3) (Ent.refl _)) (ent_bun (L := []))
  repeat' (first | ((refine e_op ?_); (refine o_n (peval_sound rfl) rfl ?_)) | refine s_seq ?_ | refine s_region ?_)
  refine e_op (o_n (n_buildA1 rfl rfl rfl rfl rfl rfl) rfl ?_)
  skip
  refine e_op (o_call (add_w bm b1 b2 b3 (.slice A0 g.Terms.length c0) (.slice A1 g.Levels.length c1) (.slice A2 g.Pats.length c2) (.slice A3 g.Nons.length c3) (.slice A4 g.Prods.length c4) (.slice AK (lrKs g).length cK) (.slice AG (lrGs g).length cG) st00 ok00 (by decide) [] rfl none 0 p00 one0 one0_len) rfl (.cons .z (.cons .z (.cons .z (.cons .z .nil)))) Can.tt rfl ?_)
  rintro v V ⟨al, At, ct, rfl, hal, rfl⟩
  simp only [List.cons_append, List.nil_append]
  rw [show addS st00 p00 one0 = la0 from rfl] at hal ⊢
  repeat' (first | refine e_nil ?_ | ((refine e_op ?_); (refine o_n (peval_sound rfl) rfl ?_)) | refine s_seq ?_ | refine s_region ?_)
  refine e_op (o_call (growG_w bm b1 b2 b3 A0 A1 A2 A3 A4 AK AG c0 c1 c2 c3 c4 cK cG g hce (lrKs g) (lrGs g) hF la0 (ginv0 hF) (meas0 hF) al hal At ct ⟨[], [], 0, [], 0⟩) rfl (.cons .z (.cons .z (.cons .z (.cons .z (.cons .z (.cons .z .nil)))))) (Can.and (Can.ro hG0) (can_lr hl hb hN (Ent.wk (Ent.refl _)))) rfl ?_)
  rintro v V ⟨rfl, n, st, al2, At2, ct2, m, hst, htd, hi, hal2, rfl⟩
  simp only [List.cons_append, List.nil_append]
  have hlaN : laN g n = st := hst.symm
  have hfin : laFin g = st := by rw [laFin_eq (n := n) (by rw [hlaN]; exact htd)]; exact hlaN
  have hn512 := hF.n
  have hP100 := hp hce
  have hT48 : g.Terms.length ≤ 48 := hF.lim.t
  repeat' (first | refine e_nil ?_ | ((refine e_op ?_); (first | refine o_n (peval_sound rfl) rfl ?_ | refine o_n (nl rfl rfl tc rfl) rfl ?_)) | refine s_seq ?_ | refine s_region ?_ | refine s_skip ?_ | refine s_false rfl ?_)
  refine e_op (o_make rfl rfl rfl rfl (lrKs g).length rfl rfl (by omega) (by omega) rfl (fun bX => ?_))
  repeat' (first | refine e_nil ?_ | ((refine e_op ?_); (refine o_n (peval_sound rfl) rfl ?_)) | refine s_seq ?_ | refine s_region ?_ | refine s_block ?_)
  refine s_loopK (ι := {x : Nat × AcL × List AcL // x.1 ≤ (lrKs g).length ∧ x.2.1.length = x.1 ∧ x.2.2.length = x.1 ∧ ∀ d ∈ x.2.2, d.length = g.Prods.length}) [1, 6, 8, 42] rfl ⟨(0, [], []), by simp⟩ (fun x => [(43, .int .i64 x.1.1)])
    (fun x => [osl 53 1 (.slice (some ⟨bX, 0, none⟩) (lrKs g).length (lrKs g).length) (lrKs g).length (rowC x.1.2.1 (rowVs x.1.2.2 (XR g x.1.1)) ++ List.replicate ((lrKs g).length - x.1.1) nilV), rowO x.1.2.1 x.1.2.2 (XR g x.1.1), bun (innB x.1.2.2 (XR g x.1.1)),
      mkB bm (.slice A0 g.Terms.length c0) (.slice A1 g.Levels.length c1) (.slice A2 g.Pats.length c2) (.slice A3 g.Nons.length c3) (.slice A4 g.Prods.length c4) (.slice AK (lrKs g).length cK) (.slice AG (lrGs g).length cG) b1 At2 st.td.length ct2 b2 b3, mapA keyP b1 (prs st.ks al2), bun (bitX al2 st.bs), blk bg 27 [.slice A0 g.Terms.length c0, .slice A1 g.Levels.length c1, .slice A2 g.Pats.length c2, .slice A3 g.Nons.length c3, .slice A4 g.Prods.length c4]]) (fun x => (lrKs g).length - x.1.1) ?_ ?_ ?_
  · repeat' (first | exact Sub.nil _ | refine Sub.cons rfl ?_)
  · refine Ent.cons ?_
    refine Ent.trans ?_ (ent_bnil0.trans (Ent.cons (ent_bun (L := []))))
    exact Ent.cons (Ent.cons (Ent.cons (Ent.wk (Ent.wk (Ent.wk (Ent.wk (Ent.wk (Ent.wk (Ent.wk (Ent.wk (Ent.refl _)))))))))))
  rintro ⟨⟨s, acs2, D⟩, hs, ha, hD, hDl⟩
  simp only at hs ha hD hDl ⊢
  repeat' (first | refine e_nil ?_ | ((refine e_op ?_); (refine o_n (peval_sound rfl) rfl ?_)) | refine s_seq ?_ | refine s_region ?_)
  have hvl : (rowVs D (XR g s)).length = s := by rw [rowVs_len (by rw [XR_len]; exact hD), XR_len]
  have hrc : (rowC acs2 (rowVs D (XR g s))).length = s := by rw [rowC_len0 (by rw [hvl]; exact ha), hvl]
  by_cases hlt : s < (lrKs g).length
  · rw [decide_eq_true (p := (s : Int) < ((lrKs g).length : Int)) (by omega)]
    repeat' (first | refine e_nil ?_ | ((refine e_op ?_); (first | refine o_n (peval_sound rfl) rfl ?_ | refine o_n (nl rfl rfl tc rfl) rfl ?_)) | refine s_seq ?_ | refine s_region ?_ | refine s_block ?_ | refine s_skip ?_ | refine s_true rfl ?_)
    refine e_op (o_make rfl rfl rfl rfl g.Prods.length rfl rfl (by omega) (by omega) rfl (fun bR => ?_))
    skip
    refine e_op (o_n (n_index rfl rfl rfl rfl s rfl hlt) rfl ?_)
    refine e_op (o_store_osl (vs := [.slice (some ⟨bR, 0, none⟩) g.Prods.length g.Prods.length]) rfl rfl rfl rfl rfl rfl (by rw [pad_len hrc hs]; simp only; omega) (.s .z) ?_)
    rw [pad_set1 hrc hlt]
    repeat' (first | refine e_nil ?_ | ((refine e_op ?_); (first | refine o_n (peval_sound rfl) rfl ?_ | refine o_n (nl rfl rfl tc rfl) rfl ?_)) | refine s_seq ?_ | refine s_region ?_ | refine s_block ?_)
    obtain ⟨OC, hOC⟩ : ∃ OC, OC = rowC acs2 (rowVs D (XR g s)) ++ [Value.slice (some ⟨bR, 0, none⟩) g.Prods.length g.Prods.length] ++ List.replicate ((lrKs g).length - (s + 1)) nilV := ⟨_, rfl⟩
    have hOCs : OC[s]? = some (Value.slice (some ⟨bR, 0, none⟩) g.Prods.length g.Prods.length) := by
      rw [hOC, List.append_assoc, List.getElem?_append_right (by omega), hrc, Nat.sub_self]; rfl
    rw [← hOC]
    refine s_loopK (ι := {y : Nat × AcL // y.1 ≤ g.Prods.length ∧ y.2.length = y.1}) [1, 6, 8, 9, 42, 43, 54, 55] rfl ⟨(0, []), by simp⟩ (fun y => [(56, .int .i64 y.1.1)])
      (fun y => [osl 52 1 (.slice (some ⟨bR, 0, none⟩) g.Prods.length g.Prods.length) g.Prods.length (rowC y.1.2 (YR g s y.1.1) ++ List.replicate (g.Prods.length - y.1.1) nilV), bun (rowX cB 1 4 y.1.2 (YR g s y.1.1)), osl 53 1 (.slice (some ⟨bX, 0, none⟩) (lrKs g).length (lrKs g).length) (lrKs g).length OC, rowO acs2 D (XR g s), bun (innB D (XR g s)),
        mkB bm (.slice A0 g.Terms.length c0) (.slice A1 g.Levels.length c1) (.slice A2 g.Pats.length c2) (.slice A3 g.Nons.length c3) (.slice A4 g.Prods.length c4) (.slice AK (lrKs g).length cK) (.slice AG (lrGs g).length cG) b1 At2 st.td.length ct2 b2 b3, mapA keyP b1 (prs st.ks al2), bun (bitX al2 st.bs), blk bg 27 [.slice A0 g.Terms.length c0, .slice A1 g.Levels.length c1, .slice A2 g.Pats.length c2, .slice A3 g.Nons.length c3, .slice A4 g.Prods.length c4]])
      (fun y => g.Prods.length - y.1.1) ?_ ?_ ?_
    · repeat' (first | exact Sub.nil _ | refine Sub.cons rfl ?_)
    · exact Ent.cons ent_bnil0
    rintro ⟨⟨k, d⟩, hk, hd⟩
    simp only at hk hd ⊢
    have hdy : d.length = (YR g s k).length := by rw [YR_len]; exact hd
    have hdc : (rowC d (YR g s k)).length = k := by rw [rowC_len0 hdy, YR_len]
    repeat' (first | refine e_nil ?_ | ((refine e_op ?_); (refine o_n (peval_sound rfl) rfl ?_)) | refine s_seq ?_ | refine s_region ?_)
    by_cases hkl : k < g.Prods.length
    · rw [decide_eq_true (p := (k : Int) < (g.Prods.length : Int)) (by omega)]
      obtain ⟨b9, o9, es9, rfl, hb9, he9, hc9⟩ := hG.prods.2.2 k hkl
      obtain ⟨Ar, cr, rfl, hl9, hlN, hlK, hri⟩ := kPrd_open he9
      repeat' (first | ((refine e_op ?_); (refine o_n (peval_sound rfl) rfl ?_)) | refine s_seq ?_ | refine s_region ?_ | refine s_block ?_ | refine s_skip ?_ | refine s_true rfl ?_)
      refine e_op (o_n (n_index rfl rfl rfl rfl k rfl hkl) rfl ?_)
      refine e_op (o_n (n_load_ro rfl rfl hb9 (loads_agg rfl rfl hc9)) rfl ?_)
      repeat' (first | refine e_nil ?_ | ((refine e_op ?_); (first | refine o_n (peval_sound rfl) rfl ?_ | refine o_storeC rfl rfl rfl rfl tc uc rfl rfl rfl ?_ | refine o_alloc rfl rfl (fun _ => ?_))) | refine s_seq ?_)
      rename_i b53
      refine s_drawU [] Tryd.mixed (by decide +kernel) ?_
      repeat' (((first | refine l_n (peval_sound rfl) rfl ?_ rfl ?_ | refine l_n (nl rfl rfl tc rfl) rfl ?_ rfl ?_); · (exact Ent.refl _)))
      refine l_n (n_lookup (z := .pointer none) (k := ⟨s, ⟨(k : Int), (g.Prods[k].Right.length : Int)⟩⟩) rfl mkeyP (fun w => by kernel_rfl) rfl rfl rfl (.s (.s (.s (.s (.s (.s (.s .z)))))))) rfl (Ent.refl _) rfl ?_
      rw [look_prs hal2]
      repeat' (first | refine l_nil ?_ | ((refine l_n (peval_sound rfl) rfl ?_ rfl ?_); · (exact Ent.refl _)))
      have hrow : laRow g s k = if (⟨s, ⟨(k : Int), (g.Prods[k].Right.length : Int)⟩⟩ : Plc) ∈ st.ks then (getB st.ks st.bs ⟨s, ⟨(k : Int), (g.Prods[k].Right.length : Int)⟩⟩).take g.Terms.length else [] := by
        unfold laRow; rw [hfin, prd_at hkl]
      generalize (⟨s, ⟨(k : Int), (g.Prods[k].Right.length : Int)⟩⟩ : Plc) = p at hrow ⊢
      by_cases hpk : p ∈ st.ks
      · rw [if_pos hpk] at hrow ⊢
        simp only [Option.getD_some]
        have hgb : st.bs[ix st.ks p]? = some (getB st.ks st.bs p) := by
          unfold getB
          have := ix_lt hpk
          have hlb := hi.ok.len
          rw [if_pos hpk, List.getD_eq_getElem?_getD, List.getElem?_eq_getElem (by omega)]; rfl
        have hb48 := getB_len (ks := st.ks) hi.ok.l48 p
        generalize getB st.ks st.bs p = b at hrow hgb hb48
        generalize hba : al2.getD (ix st.ks p) 0 = ba
        repeat' (first | ((refine e_op ?_); (refine o_n (peval_sound rfl) rfl ?_)) | refine s_seq ?_ | refine s_region ?_)
        refine e_op (o_n (n_neqP Tryd.underlying107 (by kernel_rfl) rfl rfl) rfl ?_)
        refine e_nil ?_
        refine s_true rfl ?_
        have hat : ∀ V, Ent (bun (bitX al2 st.bs) :: V) (blk ba 105 (cB b) :: bun ((bitX al2 st.bs).eraseIdx (ix st.ks p)) :: V) := fun V => by
          rw [← hba]; exact ent_bunAt (bitX_get (by rw [hal2, hi.ok.len]) hgb)
        have hbk : ∀ V, Ent (blk ba 105 (cB b) :: bun ((bitX al2 st.bs).eraseIdx (ix st.ks p)) :: V) (bun (bitX al2 st.bs) :: V) := fun V => by
          rw [← hba]; exact ent_bunBack (bitX_get (by rw [hal2, hi.ok.len]) hgb)
        refine s_weak (fr' := [(12, ptrN ba), (10, .int .i64 k), (56, .int .i64 k), (1, ptrN bg), (6, ptrN bm), (8, .slice (some ⟨bX, 0, none⟩) (lrKs g).length (lrKs g).length), (9, .int .i64 s), (42, .int .i64 (lrKs g).length), (43, .int .i64 s), (54, .slice (some ⟨b9, o9, none⟩) g.Prods.length c4), (55, .int .i64 g.Prods.length)])
          (V := [blk ba 105 (cB b), bun ((bitX al2 st.bs).eraseIdx (ix st.ks p)), osl 52 1 (.slice (some ⟨bR, 0, none⟩) g.Prods.length g.Prods.length) g.Prods.length (rowC d (YR g s k) ++ List.replicate (g.Prods.length - k) nilV), bun (rowX cB 1 4 d (YR g s k)), osl 53 1 (.slice (some ⟨bX, 0, none⟩) (lrKs g).length (lrKs g).length) (lrKs g).length OC, rowO acs2 D (XR g s), bun (innB D (XR g s)), mkB bm (.slice A0 g.Terms.length c0) (.slice A1 g.Levels.length c1) (.slice A2 g.Pats.length c2) (.slice A3 g.Nons.length c3) (.slice (some ⟨b9, o9, none⟩) g.Prods.length c4) (.slice AK (lrKs g).length cK) (.slice AG (lrGs g).length cG) b1 At2 st.td.length ct2 b2 b3, mapA keyP b1 (prs st.ks al2), blk bg 27 [.slice A0 g.Terms.length c0, .slice A1 g.Levels.length c1, .slice A2 g.Pats.length c2, .slice A3 g.Nons.length c3, .slice (some ⟨b9, o9, none⟩) g.Prods.length c4]]) ?_ ?_ ?_
        · repeat' (first | exact Sub.nil _ | refine Sub.cons rfl ?_)
        · exact Ent.trans (Ent.tak (.s (.s (.s (.s (.s (.s (.s (.s .z)))))))) (Ent.refl _)) (Ent.trans (hat _) (Ent.cons (Ent.cons (Ent.wk (Ent.refl _)))))
        refine s_anyT (.s (.s .z)) Tryd.mixed ?_
        (refine a_n 0 rfl (peval_sound rfl) (by decide +kernel) (by (repeat' (first | exact Ent.refl _ | refine Ent.tak .z ?_ | refine Ent.wk ?_))) rfl ?_); (refine a_n 1 rfl (peval_sound rfl) (by decide +kernel) (by (repeat' (first | exact Ent.refl _ | refine Ent.tak .z ?_ | refine Ent.wk ?_))) rfl ?_)
        refine a_n 2 rfl (n_index rfl rfl rfl rfl s rfl hlt) (by decide +kernel) (by (repeat' (first | exact Ent.refl _ | refine Ent.tak .z ?_ | refine Ent.wk ?_))) rfl ?_
        refine a_n 3 rfl (n_load_osl rfl rfl (.s (.s (.s .z))) (load_cell rfl (by simpa using hOCs))) (by decide +kernel) (by (repeat' (first | exact Ent.refl _ | refine Ent.tak .z ?_ | refine Ent.wk ?_))) rfl ?_
        (refine a_n 4 rfl (peval_sound rfl) (by decide +kernel) (by (repeat' (first | exact Ent.refl _ | refine Ent.tak .z ?_ | refine Ent.wk ?_))) rfl ?_); (refine a_n 5 rfl (peval_sound rfl) (by decide +kernel) (by (repeat' (first | exact Ent.refl _ | refine Ent.tak .z ?_ | refine Ent.wk ?_))) rfl ?_); (refine a_n 6 rfl (peval_sound rfl) (by decide +kernel) (by (repeat' (first | exact Ent.refl _ | refine Ent.tak .z ?_ | refine Ent.wk ?_))) rfl ?_); (refine a_n 7 rfl (peval_sound rfl) (by decide +kernel) (by (repeat' (first | exact Ent.refl _ | refine Ent.tak .z ?_ | refine Ent.wk ?_))) rfl ?_); (first | refine a_n 8 rfl (peval_sound rfl) (by decide +kernel) (by (repeat' (first | exact Ent.refl _ | refine Ent.tak .z ?_ | refine Ent.wk ?_))) rfl ?_ | refine a_n 8 rfl (nl rfl rfl tc rfl) (by decide +kernel) (by (repeat' (first | exact Ent.refl _ | refine Ent.tak .z ?_ | refine Ent.wk ?_))) rfl ?_); (refine a_n 9 rfl (peval_sound rfl) (by decide +kernel) (by (repeat' (first | exact Ent.refl _ | refine Ent.tak .z ?_ | refine Ent.wk ?_))) rfl ?_)
        refine a_n 10 rfl (n_arrTo rfl rfl rfl rfl g.Terms.length rfl hT48) (by decide +kernel) (by (repeat' (first | exact Ent.refl _ | refine Ent.tak .z ?_ | refine Ent.wk ?_))) rfl ?_
        refine a_1 11 (by decide +kernel) rfl rfl (o_copyO (k := kbool) (bytes := 1) (fun b => [.bool b]) kbool_is onec_bool rfl rfl rfl rfl (xs := b.take g.Terms.length) (by rw [List.length_take]; omega) (can_bits (kd := kbool) rfl (fun _ _ _ => rfl) .z (by omega) hT48 (by omega)) rfl rfl (by omega) rfl rfl rfl (fun A' c' => ⟨(by (repeat' (first | exact Ent.refl _ | refine Ent.tak .z ?_ | refine Ent.wk ?_))), ?_⟩))
        rw [flat_cB, ← hrow]
        refine a_n 12 rfl (n_index rfl rfl rfl rfl k rfl hkl) (by decide +kernel) (by (repeat' (first | exact Ent.refl _ | refine Ent.tak .z ?_ | refine Ent.wk ?_))) rfl ?_
        refine a_1 13 (by decide +kernel) rfl rfl (o_store_osl (vs := [.slice A' g.Terms.length c']) rfl rfl rfl rfl rfl rfl (by rw [pad_len hdc hk]; simp only; omega) (.s (.s (.s .z))) ⟨(by (repeat' (first | exact Ent.refl _ | refine Ent.tak .z ?_ | refine Ent.wk ?_))), ?_⟩)
        rw [pad_set1 hdc hkl]
        refine a_done (by decide +kernel) ?_
        repeat' (first | refine e_nil ?_ | ((refine e_op ?_); (refine o_n (peval_sound rfl) rfl ?_)) | refine s_region ?_ | refine s_end ?_)
        have hLr : (laRow g s k).length = g.Terms.length := by rw [hrow, List.length_take]; omega
        have e4 : osl 4 kbool.sz (.slice A' g.Terms.length c') g.Terms.length (cB (laRow g s k)) = rowA cB 1 4 (A', c') (laRow g s k) := by
          show osl 4 1 _ _ _ = osl 4 1 (.slice A' (laRow g s k).length c') (laRow g s k).length _
          rw [hLr]
        refine s_back ⟨⟨(k + 1, d ++ [(A', c')]), by simp only; omega, by simp [hd]⟩, by simp only; omega, ?_, ?_⟩
        · repeat' (first | exact Sub.nil _ | refine Sub.cons rfl ?_ | refine Sub.consE rfl ?_ ?_)
          exact inc (i := k) (by omega)
        · simp only
          rw [YR_succ, rowC_snoc hdy, hLr, e4]
          refine Ent.tak (.s (.s (.s .z))) ?_
          refine Ent.trans (Ent.cons (Ent.tak (.s (.s .z)) (Ent.refl _))) ?_
          refine Ent.trans (ent_bsnoc hdy) (Ent.cons (Ent.trans (hbk _) ?_))
          exact Ent.tak (.s .z) (Ent.tak (.s .z) (Ent.tak (.s .z) (Ent.tak (.s .z) (Ent.tak (.s .z) (Ent.refl _)))))
      · rw [if_neg hpk] at hrow ⊢
        simp only [Option.getD_none]
        repeat' (first | ((refine e_op ?_); (refine o_n (peval_sound rfl) rfl ?_)) | refine s_seq ?_ | refine s_region ?_)
        refine e_op (o_n (n_neqP Tryd.underlying107 (by kernel_rfl) rfl rfl) rfl ?_)
        refine e_nil ?_
        refine s_false rfl ?_
        refine s_skip ?_
        repeat' (first | refine e_nil ?_ | ((refine e_op ?_); (refine o_n (peval_sound rfl) rfl ?_)) | refine s_region ?_ | refine s_end ?_)
        refine s_back ⟨⟨(k + 1, d ++ [(none, 0)]), by simp only; omega, by simp [hd]⟩, by simp only; omega, ?_, ?_⟩
        · repeat' (first | exact Sub.nil _ | refine Sub.cons rfl ?_ | refine Sub.consE rfl ?_ ?_)
          exact inc (i := k) (by omega)
        · simp only
          rw [YR_succ, rowC_snoc hdy, hrow, show g.Prods.length - k = (g.Prods.length - (k + 1)) + 1 by omega, List.replicate_succ, List.append_cons]
          refine Ent.trans (Ent.wk (Ent.refl _)) (Ent.cons ?_)
          refine Ent.trans ?_ (Ent.trans (ent_bsnoc (ac := (none, 0)) (r := ([] : List Bool)) hdy) (Ent.refl _))
          exact Ent.osl0 (Ent.refl _)
    · rw [decide_eq_false (p := (k : Int) < (g.Prods.length : Int)) (by omega)]
      obtain rfl : k = g.Prods.length := by omega
      repeat' (first | refine e_nil ?_ | ((refine e_op ?_); (refine o_n (peval_sound rfl) rfl ?_)) | refine s_region ?_ | refine s_end ?_ | refine s_exit ?_ | refine s_false rfl ?_ | refine x_hit ?_ | refine x_code ?_ | refine x_back ?_)
      have e70 : osl 52 1 (.slice (some ⟨bR, 0, none⟩) g.Prods.length g.Prods.length) g.Prods.length (rowC d (YR g s g.Prods.length)) = rowA (fun l : List Value => l) 1 52 (some ⟨bR, 0, none⟩, g.Prods.length) (rowC d (YR g s g.Prods.length)) := by
        show _ = osl 52 1 (.slice _ (rowC d (YR g s g.Prods.length)).length _) (rowC d (YR g s g.Prods.length)).length _
        rw [hdc]
      have hDX : D.length = (XR g s).length := by rw [XR_len]; exact hD
      refine s_back ⟨⟨(s + 1, acs2 ++ [(some ⟨bR, 0, none⟩, g.Prods.length)], D ++ [d]), by simp only; omega, by simp [ha], by simp [hD], fun x hx => ?_⟩, by simp only; omega, ?_, ?_⟩
      · rcases List.mem_append.1 hx with hx | hx
        · exact hDl x hx
        · rw [List.mem_singleton] at hx; subst hx; exact hd
      · repeat' (first | exact Sub.nil _ | refine Sub.cons rfl ?_ | refine Sub.consE rfl ?_ ?_)
        exact inc (i := s) (by omega)
      · simp only
        have hR : rowO (acs2 ++ [(some ⟨bR, 0, none⟩, g.Prods.length)]) (D ++ [d]) (XR g s ++ [YR g s g.Prods.length]) = bun (rowX (fun l : List Value => l) 1 52 (acs2 ++ [(some ⟨bR, 0, none⟩, g.Prods.length)]) (rowVs D (XR g s) ++ [rowC d (YR g s g.Prods.length)])) := by
          show bun (rowX _ 1 52 _ (rowVs _ _)) = _
          rw [rowVs_snoc hDX]
        rw [XR_succ, hR, rowVs_snoc hDX, innB_snoc hDX, Go.Proofs.YtcnpjhaedjncdaaDoor.E.rowC_snoc (acs := acs2) (rows := rowVs D (XR g s)) (ac := (some ⟨bR, 0, none⟩, g.Prods.length)) (r := rowC d (YR g s g.Prods.length)) (by rw [hvl]; exact ha), hdc, ← hOC, Nat.sub_self, List.replicate_zero, List.append_nil, e70]
        refine Ent.tak (.s (.s .z)) ?_
        refine Ent.trans (Ent.cons (Ent.tak (.s .z) (Ent.refl _))) ?_
        refine Ent.trans (ent_bsnoc (by rw [hvl]; exact ha)) (Ent.cons ?_)
        exact ent_bunSnoc
  · rw [decide_eq_false (p := (s : Int) < ((lrKs g).length : Int)) (by omega)]
    obtain rfl : s = (lrKs g).length := by omega
    repeat' (first | refine e_nil ?_ | ((refine e_op ?_); (refine o_n (peval_sound rfl) rfl ?_)) | refine s_seq ?_ | refine s_region ?_ | refine s_exit ?_ | refine s_false rfl ?_ | refine x_hit ?_ | refine x_code ?_ | refine x_back ?_)
    rw [h0, laX_ok h0, Nat.sub_self, List.replicate_zero, List.append_nil]
    refine s_ret ⟨_, _, res2 rfl rfl rfl, ⟨some ⟨bX, 0, none⟩, (lrKs g).length, (lrKs g).length, acs2, D, rfl, ⟨by rw [XR_len], by rw [XR_len]; exact ha, by rw [XR_len]; exact hD, fun i h1 h2 => ?_, rfl⟩⟩, ?_⟩
    · rw [XR_get h2, YR_len]; exact hDl _ (List.getElem_mem h1)
    · exact Ent.cons (Ent.cons (Ent.cons (Ent.nil _)))

end Go.Proofs.YtcnpjhaedjncdaaDoor

namespace Go.Proofs.YtcnpjhaedjncdaaDoor
set_option linter.all false
open Go.Proofs.YtcnpjhaedjncdaaDoor.E

theorem round_inv {g : Gram} {KS : List (List Itm)} {GS : List (List Int)} (hF : GoF g KS GS) {st : Stt} (hi : GInv g KS st) {p : Plc} (hp : st.td.getLast? = some p) :
    GInv g KS (roundG g GS (restB g) (restN g) st p) ∧ meas (univ g KS) (roundG g GS (restB g) (restN g) st p) + 1 ≤ meas (univ g KS) st := by
  obtain ⟨ys, hys⟩ := List.getLast?_eq_some_iff.1 hp
  have hmem : p ∈ st.td := by rw [hys]; simp
  have hne : st.td ≠ [] := fun e => by rw [e] at hmem; cases hmem
  have hm := meas_pop (u := univ g KS) hne
  have hip := hi.pop
  have hvp := hi.vp p (hi.ok.td p hmem)
  unfold roundG
  split
  · exact ⟨hip, by omega⟩
  · rename_i hd
    obtain ⟨_, _, _, _, _, _, _, hvn⟩ := hvp.next hF hd
    have h1 := hip.add hvn (getB st.ks st.bs p)
    have h2 := meas_add hip.ok hvn.mem (getB st.ks st.bs p)
    split
    · exact ⟨h1, by omega⟩
    · obtain ⟨h3, h4⟩ := prodsAdd_inv hF hvp (comb (restB g p.x) (getB st.ks st.bs p) (restN g p.x)) h1 g.Prods.length (Nat.le_refl _)
      exact ⟨h3, by omega⟩

theorem step_end {g : Gram} {KS : List (List Itm)} {GS : List (List Int)} (hF : GoF g KS GS) : ∀ (m : Nat) {st : Stt}, GInv g KS st → meas (univ g KS) st ≤ m → (stepN g GS (restB g) (restN g) m st).td = []
  | 0, st, _, h => by
    have : st.td.length = 0 := by unfold meas at h; omega
    exact List.eq_nil_of_length_eq_zero this
  | m + 1, st, hi, h => by
    show (stepN g GS (restB g) (restN g) m (stepG g GS (restB g) (restN g) st)).td = []
    unfold stepG
    cases hl : st.td.getLast? with
    | none =>
      have : st.td = [] := List.getLast?_eq_none_iff.1 hl
      exact (by rw [stepN_done this]; exact this)
    | some p =>
      obtain ⟨h1, h2⟩ := round_inv hF hi hl
      show (stepN g GS (restB g) (restN g) m (roundG g GS (restB g) (restN g) st p)).td = []
      exact step_end hF m h1 (by omega)

theorem la_fin {g : Gram} (h : lrE g = 0) : ∃ n, (laN g n).td = [] := by
  have hF := goF h
  exact ⟨_, step_end hF (meas (univ g (lrKs g)) la0) (ginv0 hF) (Nat.le_refl _)⟩

theorem zer_get (t : Nat) : zer.getD t false = false := by
  unfold zer
  rw [List.getD_eq_getElem?_getD]
  cases h : (List.replicate 48 false)[t]? with
  | none => rfl
  | some b => have := List.mem_of_getElem? h; rw [List.mem_replicate] at this; rw [this.2]; rfl

/-- Terms behind whole productions. -/
theorem laRow_bit {g : Gram} (h : lrE g = 0) {s k a : Nat} : (laRow g s k).getD a false = true ↔ a < g.Terms.length ∧ LA g (lrGs g) ⟨s, ⟨k, (prd g k).Right.length⟩⟩ a := by
  obtain ⟨n, hn⟩ := la_fin h
  have hT := (goF h).lim.t
  have he := la_end hT hn (p := ⟨s, ⟨k, (prd g k).Right.length⟩⟩) (t := a)
  unfold laRow
  rw [laFin_eq hn, ← he]
  unfold bit
  split
  · rename_i hp
    rw [List.getD_eq_getElem?_getD, List.getElem?_take]
    split
    · rename_i ha; rw [← List.getD_eq_getElem?_getD]; simp [ha]
    · rename_i ha; simp [ha]
  · rename_i hp
    have : getB (laN g n).ks (laN g n).bs ⟨s, ⟨k, (prd g k).Right.length⟩⟩ = zer := by unfold getB; rw [if_neg hp]
    rw [this, zer_get]
    simp

theorem laRow_len {g : Gram} (h : lrE g = 0) (s k : Nat) : (laRow g s k).length = g.Terms.length ∨ laRow g s k = [] := by
  obtain ⟨n, hn⟩ := la_fin h
  have hT := (goF h).lim.t
  have hw := whole_N hT n (whole0 g (lrGs g))
  unfold laRow
  rw [laFin_eq hn]
  split
  · refine .inl ?_
    rw [List.length_take, getB_len (ks := (laN g n).ks) (bs := (laN g n).bs) hw.ok.l48]; omega
  · exact .inr rfl

theorem left0 {g : Gram} (hw : Wf0 g) : (prd g 0).Left = 0 := by
  have h := hw.prod 0 hw.prods
  unfold prodOk at h
  simp only [Bool.and_eq_true, decide_eq_true_eq, beq_iff_eq] at h
  have e : prd g 0 = g.Prods[0]'hw.prods := prd_at (k := 0) hw.prods
  rw [e]
  have := h.2.2.1
  simpa using this

end Go.Proofs.YtcnpjhaedjncdaaDoor

namespace Go.Proofs.YtcnpjhaedjncdaaDoor
set_option linter.all false

structure GrOk (g : Gram) : Prop where
  t48 : g.Terms.length ≤ 48
  n48 : g.Nons.length ≤ 48
  n2 : 2 ≤ g.Nons.length
  bs : BsOk g.Terms.length g.Nons.length g.Prods
  inv : BInv g.Terms.length g.Nons.length (bFix g)

theorem gOk {g : Gram} (h : checkE g = 0) : GrOk g := by
  obtain ⟨hl, hw⟩ := wf0_of h
  obtain ⟨h1, h2, _⟩ := lim_n hl
  exact ⟨h1, h2, hw.n, bsOk_of hw, bFix_inv (bsOk_of hw).nat⟩

theorem orP_get0 {r te : List Bool} {i : Nat} (h : i < r.length) : (orL r te)[i]? = some (r.getD i false || te.getD i false) := by
  unfold orL
  rw [orP_get h, decide_eq_true h, Bool.true_and]
  congr 2
  rw [List.getD_eq_getElem?_getD, List.getElem?_eq_getElem h]; rfl

theorem orL_getD {r te : List Bool} (i : Nat) (hl : te.length = r.length) : (orL r te).getD i false = (r.getD i false || te.getD i false) := by
  by_cases h : i < r.length
  · rw [List.getD_eq_getElem?_getD, orP_get0 h]; rfl
  · have h1 : (orL r te)[i]? = none := List.getElem?_eq_none (by rw [orL_len]; omega)
    have h2 : r[i]? = none := List.getElem?_eq_none (by omega)
    have h3 : te[i]? = none := List.getElem?_eq_none (by omega)
    simp only [List.getD_eq_getElem?_getD, h1, h2, h3]; rfl

theorem ext_getD {a b : List Bool} (hl : a.length = b.length) (h : ∀ i, i < a.length → a.getD i false = b.getD i false) : a = b := by
  apply List.ext_getElem hl
  intro i h1 h2
  have := h i h1
  rw [List.getD_eq_getElem?_getD, List.getD_eq_getElem?_getD, List.getElem?_eq_getElem h1, List.getElem?_eq_getElem h2] at this
  exact this

theorem orL_assoc {a b c : List Bool} (h1 : b.length = a.length) (h2 : c.length = a.length) : orL (orL a b) c = orL a (orL b c) := by
  refine ext_getD (by simp [orL_len]) fun i _ => ?_
  rw [orL_getD _ (by rw [orL_len]; exact h2), orL_getD _ h1, orL_getD _ (by rw [orL_len]; exact h1), orL_getD _ (by omega), Bool.or_assoc]

theorem orL_zero {a : List Bool} {t : Nat} (h : a.length = t) : orL a (List.replicate t false) = a := by
  refine ext_getD (orL_len _ _) fun i _ => ?_
  rw [orL_getD _ (by simp [h])]
  have : (List.replicate t false).getD i false = false := by
    rw [List.getD_eq_getElem?_getD, List.getElem?_replicate]; split <;> rfl
  rw [this, Bool.or_false]

theorem zero_orL {a : List Bool} {t : Nat} (h : a.length = t) : orL (List.replicate t false) a = a := by
  refine ext_getD (by rw [orL_len]; simp [h]) fun i _ => ?_
  rw [orL_getD _ (by simp [h])]
  have : (List.replicate t false).getD i false = false := by
    rw [List.getD_eq_getElem?_getD, List.getElem?_replicate]; split <;> rfl
  rw [this, Bool.false_or]

theorem getD_set {a : List Bool} (k i : Nat) (hi : i < a.length) : (a.set k true).getD i false = (decide (k = i) || a.getD i false) := by
  rw [List.getD_eq_getElem?_getD, List.getElem?_set, List.getD_eq_getElem?_getD]
  by_cases h : k = i
  · subst h; rw [if_pos rfl, if_pos hi]; simp
  · rw [if_neg h]; simp [h]

theorem rowS_acc {t n : Nat} {s : BSt} (hs : BInv t n s) : ∀ (l : List Int) (_ : ∀ x ∈ l, x < (t : Int) + n) (acc : List Bool), acc.length = t →
    rowS t s.1 s.2 l acc = (orL acc (rowS t s.1 s.2 l (List.replicate t false)).1, (rowS t s.1 s.2 l (List.replicate t false)).2)
  | [], _, acc, ha => by
    unfold rowS
    rw [orL_zero ha]
  | x :: l, hx, acc, ha => by
    have hxl := hx x (List.mem_cons_self ..)
    have ih := rowS_acc hs l (fun y hy => hx y (List.mem_cons_of_mem _ hy))
    unfold rowS
    by_cases hxt : x < (t : Int)
    · rw [if_pos hxt, if_pos hxt]
      congr 1
      refine ext_getD (by simp [orL_len]) fun i hi => ?_
      have hi' : i < acc.length := by simpa using hi
      rw [orL_getD _ (by simp [ha]), getD_set _ _ hi', getD_set _ _ (by simp; omega)]
      have : (List.replicate t false).getD i false = false := by
        rw [List.getD_eq_getElem?_getD, List.getElem?_replicate]; split <;> rfl
      rw [this, Bool.or_false, Bool.or_comm]
    · rw [if_neg hxt, if_neg hxt]
      have hf : (s.2.getD (x - t).toNat []).length = t := hs.row (by omega)
      generalize s.2.getD (x - t).toNat [] = f at hf
      have e1 : orL acc f = orL acc (orL (List.replicate t false) f) := by rw [zero_orL hf]
      split
      · rw [ih (orL acc f) (by rw [orL_len]; exact ha), ih (orL (List.replicate t false) f) (by simp [orL_len])]
        simp only
        congr 1
        have hr : (rowS t s.1 s.2 l (List.replicate t false)).1.length = t := by rw [rowS_len]; simp
        rw [zero_orL hf, orL_assoc (by omega) (by omega)]
      · rw [e1]

theorem rowS_cons {t : Nat} {no : List Bool} {fi : List (List Bool)} (s : Int) (l : List Int) (acc : List Bool) : rowS t no fi (s :: l) acc =
    if s < (t : Int) then (acc.set s.toNat true, false)
    else if no.getD (s - t).toNat false then rowS t no fi l (orL acc (fi.getD (s - t).toNat [])) else (orL acc (fi.getD (s - t).toNat []), false) := rfl

theorem rowS_append {t : Nat} {no : List Bool} {fi : List (List Bool)} (y : List Int) : ∀ (x : List Int) (acc : List Bool),
    rowS t no fi (x ++ y) acc = if (rowS t no fi x acc).2 then rowS t no fi y (rowS t no fi x acc).1 else rowS t no fi x acc
  | [], acc => by simp [rowS]
  | s :: x, acc => by
    rw [List.cons_append, rowS_cons, rowS_cons]
    split
    · simp
    · split
      · exact rowS_append y x _
      · simp

theorem rowT_append {t n : Nat} {s : BSt} (hs : BInv t n s) {x y : List Int} (hy : ∀ a ∈ y, a < (t : Int) + n) :
    rowT t s (x ++ y) = (if (rowT t s x).2 then orL (rowT t s x).1 (rowT t s y).1 else (rowT t s x).1, (rowT t s x).2 && (rowT t s y).2) := by
  unfold rowT
  rw [rowS_append]
  have hl : (rowS t s.1 s.2 x (List.replicate t false)).1.length = t := by rw [rowS_len]; simp
  cases h : (rowS t s.1 s.2 x (List.replicate t false)).2 with
  | true => rw [if_pos rfl, rowS_acc hs y hy _ hl]; rfl
  | false =>
    simp only [Bool.false_eq_true, if_false, Bool.false_and]
    exact Prod.ext rfl h


end Go.Proofs.YtcnpjhaedjncdaaDoor

namespace Go.Proofs.YtcnpjhaedjncdaaDoor
set_option linter.all false

/-- Of two states of knowledge the second knows all of the first. -/
structure Le (s u : BSt) : Prop where
  no : ∀ n, s.1.getD n false = true → u.1.getD n false = true
  fi : ∀ n x, (s.2.getD n []).getD x false = true → (u.2.getD n []).getD x false = true

theorem Le.refl (s : BSt) : Le s s := ⟨fun _ h => h, fun _ _ h => h⟩

theorem orL_true {r te : List Bool} {i : Nat} (hl : te.length = r.length) (h : (orL r te).getD i false = true) : r.getD i false = true ∨ te.getD i false = true := by
  rw [orL_getD _ hl] at h
  simpa using h

theorem getD_set_true {a : List Bool} {k i : Nat} (h : (a.set k true).getD i false = true) : (k = i ∧ i < a.length) ∨ a.getD i false = true := by
  rw [List.getD_eq_getElem?_getD, List.getElem?_set] at h
  by_cases hk : k = i
  · subst hk
    by_cases hl : k < a.length
    · exact .inl ⟨rfl, hl⟩
    · rw [if_pos rfl, if_neg hl] at h; simp at h
  · rw [if_neg hk] at h
    exact .inr (by rw [List.getD_eq_getElem?_getD]; exact h)

theorem rowS_le {t n : Nat} {s u : BSt} (hs : BInv t n s) (hu : BInv t n u) (hle : Le s u) : ∀ (l : List Int) (_ : ∀ x ∈ l, x < (t : Int) + n) (a b : List Bool), a.length = t → b.length = t → (∀ i, a.getD i false = true → b.getD i false = true) →
    ((rowS t s.1 s.2 l a).2 = true → (rowS t u.1 u.2 l b).2 = true) ∧ ∀ i, (rowS t s.1 s.2 l a).1.getD i false = true → (rowS t u.1 u.2 l b).1.getD i false = true
  | [], _, a, b, _, _, h => ⟨fun _ => rfl, h⟩
  | x :: l, hx, a, b, ha, hb, h => by
    have hxl := hx x (List.mem_cons_self ..)
    have hx' : ∀ y ∈ l, y < (t : Int) + n := fun y hy => hx y (List.mem_cons_of_mem _ hy)
    rw [rowS_cons, rowS_cons]
    by_cases hxt : x < (t : Int)
    · rw [if_pos hxt, if_pos hxt]
      refine ⟨(by intro h; cases h), fun i hi => ?_⟩
      simp only at hi ⊢
      rcases getD_set_true hi with ⟨h1, h2⟩ | h1
      · rw [getD_set _ _ (by omega)]; simp [h1]
      · have hi2 : i < b.length := by
          rcases Nat.lt_or_ge i b.length with h | h2
          · exact h
          · have := h i h1
            rw [List.getD_eq_getElem?_getD, List.getElem?_eq_none h2] at this; simp at this
        rw [getD_set _ _ hi2, h i h1, Bool.or_true]
    · rw [if_neg hxt, if_neg hxt]
      have hfs : (s.2.getD (x - t).toNat []).length = t := hs.row (by omega)
      have hfu : (u.2.getD (x - t).toNat []).length = t := hu.row (by omega)
      have hor : ∀ i, (orL a (s.2.getD (x - t).toNat [])).getD i false = true → (orL b (u.2.getD (x - t).toNat [])).getD i false = true := by
        intro i hi
        rw [orL_getD _ (by omega)]
        rcases orL_true (by omega) hi with h1 | h1
        · rw [h i h1]; rfl
        · rw [hle.fi _ _ h1, Bool.or_true]
      cases hno : s.1.getD (x - t).toNat false with
      | true =>
        rw [if_pos rfl, hle.no _ hno, if_pos rfl]
        exact rowS_le hs hu hle l hx' _ _ (by rw [orL_len]; exact ha) (by rw [orL_len]; exact hb) hor
      | false =>
        simp only [Bool.false_eq_true, if_false]
        refine ⟨(by intro h; cases h), fun i hi => ?_⟩
        have h1 := hor i hi
        split
        · have h2 := rowS_acc hu l hx' (orL b (u.2.getD (x - t).toNat [])) (by rw [orL_len]; exact hb)
          rw [h2]
          simp only
          rw [orL_getD _ (by rw [rowS_len, orL_len]; simp [hb]), h1]; rfl
        · exact h1

theorem rowT_le {t n : Nat} {s u : BSt} (hs : BInv t n s) (hu : BInv t n u) (hle : Le s u) {l : List Int} (hx : ∀ x ∈ l, x < (t : Int) + n) :
    ((rowT t s l).2 = true → (rowT t u l).2 = true) ∧ ∀ i, (rowT t s l).1.getD i false = true → (rowT t u l).1.getD i false = true :=
  rowS_le hs hu hle l hx _ _ (by simp) (by simp) (fun _ h => h)

/-- A production's part, with what is known of a state that stays. -/
def gStep (t : Nat) (s A : BSt) (p : Prd) : BSt := (if (rowT t s p.Right).2 then A.1.set p.Left.toNat true else A.1, A.2.set p.Left.toNat (orL (A.2.getD p.Left.toNat []) (rowT t s p.Right).1))
def gAll (t : Nat) (s : BSt) (ps : List Prd) (A : BSt) : BSt := ps.foldl (gStep t s) A

theorem gStep_self (t n : Nat) (s : BSt) (hs : BInv t n s) (p : Prd) (hp : p.Left.toNat < n) : gStep t s s p = bStep t s p := by
  unfold gStep bStep bNo bFi orL
  rw [hs.row hp]

theorem gStep_inv {t n : Nat} {s A : BSt} (hA : BInv t n A) (p : Prd) (hp : p.Left.toNat < n) : BInv t n (gStep t s A p) := by
  refine ⟨?_, ?_, ?_⟩
  · unfold gStep; simp only; split
    · rw [List.length_set]; exact hA.no
    · exact hA.no
  · unfold gStep; simp only [List.length_set]; exact hA.fi
  · intro r hr
    unfold gStep at hr
    rcases List.mem_or_eq_of_mem_set hr with h | h
    · exact hA.rows r h
    · rw [h, orL_len]; exact hA.row hp

theorem gAll_inv {t n : Nat} {s : BSt} : ∀ (ps : List Prd) (_ : ∀ p ∈ ps, p.Left.toNat < n) (A : BSt), BInv t n A → BInv t n (gAll t s ps A)
  | [], _, _, h => h
  | p :: ps, hp, A, h => gAll_inv ps (fun q hq => hp q (List.mem_cons_of_mem _ hq)) (gStep t s A p) (gStep_inv h p (hp p (List.mem_cons_self ..)))

theorem getD_set_list {l : List (List Bool)} (k n : Nat) (r : List Bool) (hk : k < l.length) : (l.set k r).getD n [] = if k = n then r else l.getD n [] := by
  rw [List.getD_eq_getElem?_getD, List.getElem?_set, List.getD_eq_getElem?_getD]
  by_cases h : k = n
  · rw [if_pos h, if_pos h, if_pos hk]; rfl
  · rw [if_neg h, if_neg h]

/-- What a step makes known: what was known, and the production's part. -/
theorem gStep_get {t n : Nat} {s A : BSt} (hA : BInv t n A) (p : Prd) (hp : p.Left.toNat < n) :
    (∀ k, (gStep t s A p).1.getD k false = (A.1.getD k false || (decide (p.Left.toNat = k) && (rowT t s p.Right).2))) ∧
    ∀ k x, ((gStep t s A p).2.getD k []).getD x false = ((A.2.getD k []).getD x false || (decide (p.Left.toNat = k) && (rowT t s p.Right).1.getD x false)) := by
  constructor
  · intro k
    unfold gStep
    simp only
    cases h : (rowT t s p.Right).2 with
    | false => simp
    | true =>
      rw [if_pos rfl]
      by_cases hk : k < A.1.length
      · rw [getD_set _ _ hk]; simp [Bool.or_comm]
      · have h1 : (A.1.set p.Left.toNat true)[k]? = none := List.getElem?_eq_none (by rw [List.length_set]; omega)
        have h2 : A.1[k]? = none := List.getElem?_eq_none (by omega)
        have h3 : ¬ p.Left.toNat = k := by have := hA.no; omega
        simp [List.getD_eq_getElem?_getD, h1, h2, h3]
  · intro k x
    unfold gStep
    simp only
    rw [getD_set_list _ _ _ (by rw [hA.fi]; exact hp)]
    by_cases h : p.Left.toNat = k
    · subst h
      rw [if_pos rfl, orL_getD _ (by rw [rowT_len, hA.row hp])]; simp
    · rw [if_neg h]; simp [h]

theorem Le.of_gStep {t n : Nat} {s A : BSt} (hA : BInv t n A) (p : Prd) (hp : p.Left.toNat < n) : Le A (gStep t s A p) := by
  obtain ⟨h1, h2⟩ := gStep_get (s := s) hA p hp
  exact ⟨fun k h => by rw [h1, h]; rfl, fun k x h => by rw [h2, h]; rfl⟩

theorem Le.trans {a b c : BSt} (h : Le a b) (h' : Le b c) : Le a c := ⟨fun n x => h'.no n (h.no n x), fun n x y => h'.fi n x (h.fi n x y)⟩

/-- The part of each production is in all of it. -/
theorem gAll_part {t n : Nat} {s : BSt} : ∀ (ps : List Prd) (_ : ∀ p ∈ ps, p.Left.toNat < n) (A : BSt), BInv t n A →
    Le A (gAll t s ps A) ∧ ∀ p ∈ ps, ((rowT t s p.Right).2 = true → (gAll t s ps A).1.getD p.Left.toNat false = true) ∧ ∀ x, (rowT t s p.Right).1.getD x false = true → ((gAll t s ps A).2.getD p.Left.toNat []).getD x false = true
  | [], _, A, _ => ⟨Le.refl _, (by intro p hp; cases hp)⟩
  | q :: ps, hp, A, hA => by
    have hq := hp q (List.mem_cons_self ..)
    obtain ⟨h1, h2⟩ := gAll_part (s := s) ps (fun p hp' => hp p (List.mem_cons_of_mem _ hp')) (gStep t s A q) (gStep_inv hA q hq)
    obtain ⟨g1, g2⟩ := gStep_get (s := s) hA q hq
    refine ⟨(Le.of_gStep hA q hq).trans h1, fun p hp' => ?_⟩
    rcases List.mem_cons.1 hp' with rfl | hp'
    · exact ⟨fun h => h1.no _ (by rw [g1, h]; simp), fun x h => h1.fi _ _ (by rw [g2, h]; simp)⟩
    · exact h2 p hp'

theorem gAll_le {t n : Nat} {s u : BSt} : ∀ (ps : List Prd) (_ : ∀ p ∈ ps, p.Left.toNat < n) (A : BSt), BInv t n A → Le A u →
    (∀ p ∈ ps, ((rowT t s p.Right).2 = true → u.1.getD p.Left.toNat false = true) ∧ ∀ x, (rowT t s p.Right).1.getD x false = true → (u.2.getD p.Left.toNat []).getD x false = true) → Le (gAll t s ps A) u
  | [], _, _, _, h, _ => h
  | q :: ps, hp, A, hA, h, hq => by
    have hq' := hp q (List.mem_cons_self ..)
    obtain ⟨g1, g2⟩ := gStep_get (s := s) hA q hq'
    obtain ⟨u1, u2⟩ := hq q (List.mem_cons_self ..)
    refine gAll_le ps (fun p hp' => hp p (List.mem_cons_of_mem _ hp')) (gStep t s A q) (gStep_inv hA q hq') ⟨fun k hk => ?_, fun k x hk => ?_⟩ (fun p hp' => hq p (List.mem_cons_of_mem _ hp'))
    · rw [g1] at hk
      simp only [Bool.or_eq_true, Bool.and_eq_true, decide_eq_true_eq] at hk
      rcases hk with hk | ⟨rfl, hk⟩
      · exact h.no _ hk
      · exact u1 hk
    · rw [g2] at hk
      simp only [Bool.or_eq_true, Bool.and_eq_true, decide_eq_true_eq] at hk
      rcases hk with hk | ⟨rfl, hk⟩
      · exact h.fi _ _ hk
      · exact u2 _ hk

theorem bStep_of_fix {t n : Nat} : ∀ (ps : List Prd) (_ : ∀ p ∈ ps, p.Left.toNat < n) (s : BSt), BInv t n s → bRound t ps s = s → ∀ p ∈ ps, bStep t s p = s
  | [], _, _, _, _ => fun p hp => by cases hp
  | q :: ps, hp, s, hs, h => by
    have hq := hp q (List.mem_cons_self ..)
    have hps : ∀ p ∈ ps, p.Left.toNat < n := fun p hp' => hp p (List.mem_cons_of_mem _ hp')
    have e : bStep t s q = s := by
      rcases bPart_cnt hs q hq (Nat.le_refl t) with h1 | h1
      · exact h1
      · have h2 : bRound t ps (bStep t s q) = s := h
        have h1' : cntS s < cntS (bStep t s q) := h1
        rcases bRound_cnt ps hps (bStep t s q) (bStep_inv hs q hq) with h3 | h3
        · rw [h2] at h3; rw [← h3] at h1'; omega
        · rw [h2] at h3; omega
    intro p hp'
    rcases List.mem_cons.1 hp' with rfl | hp'
    · exact e
    · refine bStep_of_fix ps hps s hs ?_ p hp'
      have h2 : bRound t ps (bStep t s q) = s := h
      rwa [e] at h2

theorem Le.antisymm {t n : Nat} {s u : BSt} (hs : BInv t n s) (hu : BInv t n u) (h : Le s u) (h' : Le u s) : s = u := by
  have hb : ∀ a b : Bool, (a = true → b = true) → (b = true → a = true) → a = b := by decide
  apply Prod.ext
  · exact ext_getD (by rw [hs.no, hu.no]) fun i _ => hb _ _ (h.no i) (h'.no i)
  · apply List.ext_getElem (by rw [hs.fi, hu.fi])
    intro i h1 h2
    refine ext_getD (by rw [hs.rows _ (List.getElem_mem h1), hu.rows _ (List.getElem_mem h2)]) fun x _ => ?_
    have e1 : s.2.getD i [] = s.2[i] := by rw [List.getD_eq_getElem?_getD, List.getElem?_eq_getElem h1]; rfl
    have e2 : u.2.getD i [] = u.2[i] := by rw [List.getD_eq_getElem?_getD, List.getElem?_eq_getElem h2]; rfl
    rw [← e1, ← e2]
    exact hb _ _ (h.fi i x) (h'.fi i x)

/-- All that is known at the end is known of some production, and the other way round. -/
theorem gAll_fix {g : Gram} (he : checkE g = 0) : gAll g.Terms.length (bFix g) g.Prods (bInit g.Terms.length g.Nons.length) = bFix g := by
  have hok := gOk he
  have hnat := hok.bs.nat
  have hF := hok.inv
  have hI := bInit_inv g.Terms.length g.Nons.length
  have hfix := bFix_fix hnat
  have hpart : ∀ p ∈ g.Prods, ((rowT g.Terms.length (bFix g) p.Right).2 = true → (bFix g).1.getD p.Left.toNat false = true) ∧ ∀ x, (rowT g.Terms.length (bFix g) p.Right).1.getD x false = true → ((bFix g).2.getD p.Left.toNat []).getD x false = true := by
    intro p hp
    have h1 := bStep_of_fix g.Prods hnat (bFix g) hF hfix p hp
    rw [← gStep_self _ _ _ hF p (hnat p hp)] at h1
    obtain ⟨g1, g2⟩ := gStep_get (s := bFix g) hF p (hnat p hp)
    rw [h1] at g1 g2
    exact ⟨fun h => by rw [g1, h]; simp, fun x h => by rw [g2, h]; simp⟩
  have hbot : ∀ u, Le (bInit g.Terms.length g.Nons.length) u := fun u => ⟨fun n h => by
    unfold bInit at h
    simp only [List.getD_eq_getElem?_getD, List.getElem?_replicate] at h
    split at h <;> simp at h, fun n x h => by
    unfold bInit at h
    simp only [List.getD_eq_getElem?_getD, List.getElem?_replicate] at h
    split at h
    · simp only [Option.getD_some, List.getElem?_replicate] at h
      split at h <;> simp at h
    · simp at h⟩
  have hG := gAll_inv (s := bFix g) g.Prods hnat _ hI
  refine Le.antisymm hG hF (gAll_le g.Prods hnat _ hI (hbot _) hpart) ?_
  obtain ⟨_, hin⟩ := gAll_part (s := bFix g) g.Prods hnat _ hI
  have hround : ∀ (ps : List Prd), (∀ p ∈ ps, p ∈ g.Prods) → ∀ s, BInv g.Terms.length g.Nons.length s → Le s (bFix g) → Le s (gAll g.Terms.length (bFix g) g.Prods (bInit g.Terms.length g.Nons.length)) →
      BInv g.Terms.length g.Nons.length (bRound g.Terms.length ps s) ∧ Le (bRound g.Terms.length ps s) (bFix g) ∧ Le (bRound g.Terms.length ps s) (gAll g.Terms.length (bFix g) g.Prods (bInit g.Terms.length g.Nons.length)) := by
    intro ps
    induction ps with
    | nil => intro _ s h1 h2 h3; exact ⟨h1, h2, h3⟩
    | cons q ps ih =>
      intro hsub s h1 h2 h3
      have hq := hsub q (List.mem_cons_self ..)
      have hqn := hnat q hq
      have hqr : ∀ x ∈ q.Right, x < (g.Terms.length : Int) + g.Nons.length := by
        obtain ⟨i, hi, rfl⟩ := List.getElem_of_mem hq
        exact fun x hx => (hok.bs.right i hi x hx).2
      obtain ⟨r1, r2⟩ := rowT_le h1 hF h2 hqr
      have hstep := gStep_self _ _ _ h1 q hqn
      obtain ⟨g1, g2⟩ := gStep_get (s := s) h1 q hqn
      rw [hstep] at g1 g2
      refine ih (fun p hp => hsub p (List.mem_cons_of_mem _ hp)) (bStep g.Terms.length s q) (bStep_inv h1 q hqn) ⟨fun k hk => ?_, fun k x hk => ?_⟩ ⟨fun k hk => ?_, fun k x hk => ?_⟩
      · rw [g1] at hk
        simp only [Bool.or_eq_true, Bool.and_eq_true, decide_eq_true_eq] at hk
        rcases hk with hk | ⟨rfl, hk⟩
        · exact h2.no _ hk
        · exact (hpart q hq).1 (r1 hk)
      · rw [g2] at hk
        simp only [Bool.or_eq_true, Bool.and_eq_true, decide_eq_true_eq] at hk
        rcases hk with hk | ⟨rfl, hk⟩
        · exact h2.fi _ _ hk
        · exact (hpart q hq).2 _ (r2 _ hk)
      · rw [g1] at hk
        simp only [Bool.or_eq_true, Bool.and_eq_true, decide_eq_true_eq] at hk
        rcases hk with hk | ⟨rfl, hk⟩
        · exact h3.no _ hk
        · exact (hin q hq).1 (r1 hk)
      · rw [g2] at hk
        simp only [Bool.or_eq_true, Bool.and_eq_true, decide_eq_true_eq] at hk
        rcases hk with hk | ⟨rfl, hk⟩
        · exact h3.fi _ _ hk
        · exact (hin q hq).2 _ (r2 _ hk)
  unfold bFix
  exact (it_inv (I := fun s => BInv g.Terms.length g.Nons.length s ∧ Le s (bFix g) ∧ Le s (gAll g.Terms.length (bFix g) g.Prods (bInit g.Terms.length g.Nons.length)))
    (fun s ⟨h1, h2, h3⟩ => hround g.Prods (fun _ h => h) s h1 h2 h3) ⟨hI, hbot _, hbot _⟩ _).2.2

/-- A production's part is known of its name. -/
theorem part_known {g : Gram} (he : checkE g = 0) (p : Prd) (hp : p ∈ g.Prods) :
    ((rowT g.Terms.length (bFix g) p.Right).2 = true → (bFix g).1.getD p.Left.toNat false = true) ∧ ∀ x, (rowT g.Terms.length (bFix g) p.Right).1.getD x false = true → ((bFix g).2.getD p.Left.toNat []).getD x false = true := by
  have hok := gOk he
  have h := (gAll_part (s := bFix g) g.Prods hok.bs.nat _ (bInit_inv g.Terms.length g.Nons.length)).2 p hp
  rwa [gAll_fix he] at h

end Go.Proofs.YtcnpjhaedjncdaaDoor

namespace Go.Proofs.YtcnpjhaedjncdaaDoor
set_option linter.all false
open Go.Proofs.YtcnpjhaedjncdaaDoor.E

theorem rowOne {t n : Nat} {s : BSt} (hs : BInv t n s) {k : Nat} (hk : k < n) : rowT t s [(t : Int) + k] = (s.2.getD k [], s.1.getD k false) := by
  unfold rowT
  rw [rowS_cons, if_neg (by omega)]
  have e : ((t : Int) + k - t).toNat = k := by omega
  rw [e, zero_orL (hs.row hk)]
  cases s.1.getD k false <;> rfl

theorem rowTerm {t : Nat} {s : BSt} {x : Int} (h0 : 0 ≤ x) (h1 : x < t) : (rowT t s [x]).1.getD x.toNat false = true ∧ (rowT t s [x]).2 = false := by
  unfold rowT
  rw [rowS_cons, if_pos h1]
  refine ⟨?_, rfl⟩
  rw [List.getD_eq_getElem?_getD, List.getElem?_set_self (by rw [List.length_replicate]; omega)]; rfl

abbrev Full (s : BSt) (k : Nat) : Prop := (∃ u, (s.2.getD k []).getD u false = true) ∨ s.1.getD k false = true

theorem rowT_full {t n : Nat} {s : BSt} (hs : BInv t n s) : ∀ (l : List Int), (∀ x ∈ l, (0 ≤ x ∧ x < t) ∨ ∃ k : Nat, k < n ∧ x = (t : Int) + k ∧ Full s k) → (∃ u, (rowT t s l).1.getD u false = true) ∨ (rowT t s l).2 = true
  | [], _ => .inr rfl
  | x :: l, h => by
    have ih := rowT_full hs l (fun y hy => h y (List.mem_cons_of_mem _ hy))
    have hr : ∀ a ∈ l, a < (t : Int) + n := fun a ha => by rcases h a (List.mem_cons_of_mem _ ha) with h1 | ⟨k, hk, rfl, _⟩ <;> omega
    rw [show x :: l = [x] ++ l from rfl, rowT_append hs hr]
    rcases h x (List.mem_cons_self ..) with ⟨h0, h1⟩ | ⟨k, hk, rfl, hu⟩
    · obtain ⟨e1, e2⟩ := rowTerm (t := t) (s := s) h0 h1
      rw [e2]
      exact .inl ⟨_, e1⟩
    · rw [rowOne hs hk]
      simp only
      have hl : (rowT t s l).1.length = (s.2.getD k []).length := by rw [rowT_len, hs.row hk]
      cases hn : s.1.getD k false with
      | false =>
        rcases hu with ⟨u, hu⟩ | hu
        · exact .inl ⟨u, hu⟩
        · rw [hn] at hu; cases hu
      | true =>
        rw [if_pos rfl]
        rcases ih with ⟨u, h2⟩ | h2
        · exact .inl ⟨u, by rw [orL_getD u hl, h2]; simp⟩
        · exact .inr (by rw [h2]; rfl)

theorem all_full {g : Gram} (he : checkE g = 0) {k : Nat} (hk : k < g.Nons.length) : Full (bFix g) k := by
  obtain ⟨hl, hw⟩ := checkE_ok he
  have hall : (uFix g).all id = true := by
    have := checkE_u hl hw
    rw [he] at this
    split at this
    · assumption
    · cases this
  have hbi := bFix_inv (g := g) (gOk he).bs.nat
  have hlen : (uFix g).length = g.Nons.length := it_inv (I := fun l : List Bool => l.length = g.Nons.length) (fun x hx => by rw [uRound_len]; exact hx) (by simp) _
  have hstep : ∀ (ps : List Prd), (∀ p ∈ ps, p ∈ g.Prods) → ∀ use : List Bool, (∀ n, use.getD n false = true → Full (bFix g) n) → ∀ n, (uRound g.Terms.length ps use).getD n false = true → Full (bFix g) n := by
    intro ps
    induction ps with
    | nil => exact fun _ use h => h
    | cons p ps ih =>
      intro hs use h
      refine ih (fun q hq => hs q (List.mem_cons_of_mem _ hq)) (uStep g.Terms.length use p) (fun n hn => ?_)
      unfold uStep at hn
      split at hn
      · rename_i hr
        rcases getD_set_true hn with ⟨h1, _⟩ | h1
        · subst h1
          have hp := hs p (List.mem_cons_self ..)
          obtain ⟨e1, e2⟩ := part_known he p hp
          obtain ⟨i, hi, rfl⟩ := List.getElem_of_mem hp
          obtain ⟨_, _, hsy⟩ := prod_ok hw hi
          rw [List.all_eq_true] at hr
          rcases rowT_full hbi g.Prods[i].Right (fun x hx => by
            have h2 := hr x hx
            have h3 := hsy x hx
            unfold okSym at h2
            simp only [Bool.or_eq_true, decide_eq_true_eq] at h2
            by_cases h4 : x < g.Terms.length
            · exact .inl ⟨h3.1, h4⟩
            · refine .inr ⟨(x - g.Terms.length).toNat, by omega, by omega, h _ (h2.resolve_left h4)⟩) with ⟨u, hu⟩ | hu
          · exact .inl ⟨u, e2 u hu⟩
          · exact .inr (e1 hu)
        · exact h n h1
      · exact h n hn
  have hinv : ∀ n, (uFix g).getD n false = true → Full (bFix g) n :=
    it_inv (I := fun use : List Bool => ∀ n, use.getD n false = true → Full (bFix g) n) (fun use h => hstep g.Prods (fun _ h => h) use h) (by
      intro n h
      rw [List.getD_eq_getElem?_getD, List.getElem?_replicate] at h
      split at h <;> simp at h) _
  refine hinv k ?_
  rw [List.getD_eq_getElem?_getD, List.getElem?_eq_getElem (by omega)]
  rw [List.all_eq_true] at hall
  exact hall _ (List.getElem_mem _)

theorem rest_full {g : Gram} (he : checkE g = 0) {x : Itm} (hx : inG g x = true) : (∃ u, (restB g x).getD u false = true) ∨ restN g x = true := by
  obtain ⟨hl, hw⟩ := checkE_ok he
  have hbi := bFix_inv (g := g) (gOk he).bs.nat
  have hx2 := hx
  unfold inG at hx2
  simp only [Bool.and_eq_true, decide_eq_true_eq] at hx2
  obtain ⟨p, hp⟩ : ∃ p : Nat, x.Prod = (p : Int) := ⟨x.Prod.toNat, by omega⟩
  have hpl : p < g.Prods.length := by omega
  obtain ⟨_, _, hsy⟩ := prod_ok hw hpl
  rcases rowT_full hbi (restL g x) (fun s hs => by
    unfold restL at hs
    rw [hp, prd_at hpl] at hs
    have h3 := hsy s (List.mem_of_mem_drop hs)
    by_cases h4 : s < g.Terms.length
    · exact .inl ⟨h3.1, h4⟩
    · exact .inr ⟨(s - g.Terms.length).toNat, by omega, by omega, all_full he (by omega)⟩) with ⟨u, hu⟩ | hu
  · refine .inl ⟨u, ?_⟩
    unfold restB
    have hul : u < (rowT g.Terms.length (bFix g) (restL g x)).1.length := by
      rcases Nat.lt_or_ge u (rowT g.Terms.length (bFix g) (restL g x)).1.length with h1 | h1
      · exact h1
      · rw [List.getD_eq_getElem?_getD, List.getElem?_eq_none h1] at hu; cases hu
    rw [List.getD_eq_getElem?_getD, List.getElem?_append_left hul, ← List.getD_eq_getElem?_getD]
    exact hu
  · exact .inr hu

end Go.Proofs.YtcnpjhaedjncdaaDoor

namespace Go.Proofs.YtcnpjhaedjncdaaDoor
set_option linter.all false
open Go.Proofs.YtcnpjhaedjncdaaDoor.E

structure Sim (g h : Gram) (σ τ : Nat → Nat) : Prop where
  hg : checkE g = 0
  hh : checkE h = 0
  t : h.Terms.length = g.Terms.length
  n : h.Nons.length = g.Nons.length
  p : h.Prods.length = g.Prods.length
  s : ∀ k, k < g.Prods.length → σ k < g.Prods.length ∧ τ (σ k) = k
  ts : ∀ k, k < g.Prods.length → τ k < g.Prods.length ∧ σ (τ k) = k
  s0 : σ 0 = 0
  l : ∀ k : Nat, k < g.Prods.length → (prd h (σ k)).Left = (prd g k).Left ∧ (prd h (σ k)).Right = (prd g k).Right

theorem Sim.symm {g h : Gram} {σ τ : Nat → Nat} (H : Sim g h σ τ) : Sim h g τ σ where
  hg := H.hh
  hh := H.hg
  t := H.t.symm
  n := H.n.symm
  p := H.p.symm
  s k hk := by rw [H.p] at hk ⊢; exact H.ts k hk
  ts k hk := by rw [H.p] at hk ⊢; exact H.s k hk
  s0 := by
    have h0 : 0 < g.Prods.length := (checkE_ok H.hg).2.prods
    have := (H.s 0 h0).2
    rwa [H.s0] at this
  l k hk := by
    rw [H.p] at hk
    have h1 := H.l (τ k) (H.ts k hk).1
    rw [(H.ts k hk).2] at h1
    exact ⟨h1.1.symm, h1.2.symm⟩

def mvI (σ : Nat → Nat) (x : Itm) : Itm := ⟨(σ x.Prod.toNat : Nat), x.Dot⟩

section sim
variable {g h : Gram} {σ τ : Nat → Nat}

theorem inG_num {x : Itm} (hx : inG g x = true) : ∃ k : Nat, k < g.Prods.length ∧ x.Prod = (k : Int) ∧ 0 ≤ x.Dot ∧ x.Dot ≤ (prd g k).Right.length := by
  unfold inG at hx
  simp only [Bool.and_eq_true, decide_eq_true_eq] at hx
  obtain ⟨k, hk⟩ : ∃ k : Nat, x.Prod = (k : Int) := ⟨x.Prod.toNat, by omega⟩
  rw [hk] at hx
  exact ⟨k, by omega, hk, hx.2.2.1, hx.2.2.2⟩
theorem mvI_num {x : Itm} {k : Nat} (h : x.Prod = (k : Int)) : mvI σ x = ⟨(σ k : Nat), x.Dot⟩ := by unfold mvI; rw [h, Int.toNat_natCast]

theorem Sim.ing (H : Sim g h σ τ) {x : Itm} (hx : inG g x = true) : inG h (mvI σ x) = true := by
  obtain ⟨k, hk, e, h1, h2⟩ := inG_num hx
  rw [mvI_num e]
  unfold inG
  simp only [Bool.and_eq_true, decide_eq_true_eq]
  rw [(H.l k hk).2, H.p]
  have := (H.s k hk).1
  exact ⟨by omega, by omega, h1, h2⟩
theorem Sim.bhd (H : Sim g h σ τ) {x : Itm} (hx : inG g x = true) : beh h (mvI σ x) = beh g x := by
  obtain ⟨k, hk, e, h1, h2⟩ := inG_num hx
  rw [mvI_num e]
  unfold beh
  simp only
  rw [(H.l k hk).2, e]
theorem Sim.back (H : Sim g h σ τ) {x : Itm} (hx : inG g x = true) : mvI τ (mvI σ x) = x := by
  obtain ⟨k, hk, e, h1, h2⟩ := inG_num hx
  rw [mvI_num e, mvI_num (k := σ k) rfl, (H.s k hk).2, ← e]
theorem Sim.inj (H : Sim g h σ τ) {x y : Itm} (hx : inG g x = true) (hy : inG g y = true) (e : mvI σ x = mvI σ y) : x = y := by
  rw [← H.back hx, e, H.back hy]

theorem Sim.cl (H : Sim g h σ τ) {l m : List Itm} (hl : ∀ x ∈ l, inG g x = true) (hm : ∀ x ∈ l, mvI σ x ∈ m) {x : Itm} (hx : Cl g l x) : Cl h m (mvI σ x) := by
  induction hx with
  | base hx => exact .base (hm _ hx)
  | @step x k hc hk hb ih =>
    have hin := hc.inG hl
    rw [mvI_num (k := k) rfl]
    refine .step ih (by rw [H.p]; exact (H.s k hk).1) ?_
    rw [H.bhd hin, hb, H.t, (H.l k hk).1]

def phi (σ : Nat → Nat) (l : List Itm) : List Itm := sortI (l.map (mvI σ))
theorem mem_phi {l : List Itm} {x : Itm} : x ∈ phi σ l ↔ ∃ y ∈ l, mvI σ y = x := by unfold phi; rw [sortI_mem, List.mem_map]
theorem phi_sort (σ : Nat → Nat) (l : List Itm) : SortI (phi σ l) := sortI_sort _
theorem Sim.phi_in (H : Sim g h σ τ) {l : List Itm} (hl : ∀ x ∈ l, inG g x = true) : ∀ x ∈ phi σ l, inG h x = true := fun x hx => by
  obtain ⟨y, hy, rfl⟩ := mem_phi.1 hx
  exact H.ing (hl y hy)

theorem Sim.okg (H : Sim g h σ τ) : GOk g := GOk.of (checkE_ok H.hg).2

theorem Sim.closed (H : Sim g h σ τ) {l : List Itm} (hl : ∀ x ∈ l, inG g x = true) : closedP h (phi σ l) = phi σ (closedP g l) := by
  have hin := H.phi_in hl
  have sg := closedP_spec H.okg.beh H.okg.left hl
  have sh := closedP_spec H.symm.okg.beh H.symm.okg.left hin
  refine SortI.ext sh.1 (phi_sort _ _) (fun x => ?_)
  rw [sh.2 x, mem_phi]
  constructor
  · intro hc
    have h1 := H.symm.cl (l := phi σ l) (m := l) hin (fun x hx => by
      obtain ⟨y, hy, rfl⟩ := mem_phi.1 hx
      rw [H.back (hl y hy)]; exact hy) hc
    exact ⟨mvI τ x, (sg.2 _).2 h1, H.symm.back (hc.inG hin)⟩
  · rintro ⟨y, hy, rfl⟩
    exact H.cl hl (fun x hx => mem_phi.2 ⟨x, hx, rfl⟩) ((sg.2 y).1 hy)

theorem goI_mem {g : Gram} {l : List Itm} {s : Int} {x : Itm} : x ∈ goI g l s ↔ ∃ y ∈ l, beh g y = s ∧ x = ⟨y.Prod, y.Dot + 1⟩ := by
  unfold goI
  rw [List.mem_map]
  constructor
  · rintro ⟨y, hy, rfl⟩
    rw [List.mem_filter, decide_eq_true_eq] at hy
    exact ⟨y, hy.1, hy.2, rfl⟩
  · rintro ⟨y, h1, h2, rfl⟩
    exact ⟨y, List.mem_filter.2 ⟨h1, decide_eq_true h2⟩, rfl⟩

theorem Sim.go (H : Sim g h σ τ) {l : List Itm} (hl : ∀ x ∈ l, inG g x = true) (s : Int) : goI h (phi σ l) s = phi σ (goI g l s) := by
  refine SortI.ext (goI_sort (phi_sort _ _) s) (phi_sort _ _) (fun x => ?_)
  rw [goI_mem, mem_phi]
  constructor
  · rintro ⟨y, hy, hb, rfl⟩
    obtain ⟨z, hz, rfl⟩ := mem_phi.1 hy
    rw [H.bhd (hl z hz)] at hb
    exact ⟨⟨z.Prod, z.Dot + 1⟩, goI_mem.2 ⟨z, hz, hb, rfl⟩, rfl⟩
  · rintro ⟨y, hy, rfl⟩
    obtain ⟨z, hz, hb, rfl⟩ := goI_mem.1 hy
    exact ⟨mvI σ z, mem_phi.2 ⟨z, hz, rfl⟩, by rw [H.bhd (hl z hz)]; exact hb, rfl⟩

theorem Sim.phi_inj (H : Sim g h σ τ) {a b : List Itm} (sa : SortI a) (sb : SortI b) (ha : ∀ x ∈ a, inG g x = true) (hb : ∀ x ∈ b, inG g x = true) (e : phi σ a = phi σ b) : a = b := by
  refine SortI.ext sa sb (fun x => ⟨fun hx => ?_, fun hx => ?_⟩)
  · have : mvI σ x ∈ phi σ b := by rw [← e]; exact mem_phi.2 ⟨x, hx, rfl⟩
    obtain ⟨y, hy, e2⟩ := mem_phi.1 this
    rw [← H.inj (hb y hy) (ha x hx) e2]; exact hy
  · have : mvI σ x ∈ phi σ a := by rw [e]; exact mem_phi.2 ⟨x, hx, rfl⟩
    obtain ⟨y, hy, e2⟩ := mem_phi.1 this
    rw [← H.inj (ha y hy) (hb x hx) e2]; exact hy
theorem phi_nil : phi σ [] = [] := rfl
theorem phi_ne {l : List Itm} (h : l ≠ []) : phi σ l ≠ [] := fun e => by
  cases l with
  | nil => exact h rfl
  | cons x l =>
    have : mvI σ x ∈ phi σ (x :: l) := mem_phi.2 ⟨x, List.mem_cons_self, rfl⟩
    rw [e] at this; cases this

theorem Sim.adk (H : Sim g h σ τ) {ks : List (List Itm)} {k : List Itm} (hks : KsOk g ks) (hk : k ≠ [] → KOk g k) : addK (ks.map (phi σ)) (phi σ k) = (addK ks k).map (phi σ) := by
  unfold addK
  by_cases hn : k = []
  · subst hn
    rw [if_pos (.inl phi_nil), if_pos (.inl rfl)]
  · have hn2 := phi_ne (σ := σ) hn
    by_cases hm : k ∈ ks
    · rw [if_pos (.inr (List.mem_map.2 ⟨k, hm, rfl⟩)), if_pos (.inr hm)]
    · rw [if_neg (fun e => e.elim hn2 (fun e => hm (by
        obtain ⟨k2, h1, h2⟩ := List.mem_map.1 e
        have o2 := hks.ok k2 h1
        rw [← H.phi_inj o2.sort (hk hn).sort o2.inG (hk hn).inG h2]; exact h1))), if_neg (fun e => e.elim hn hm), List.map_append]
      rfl

theorem Sim.syk (H : Sim g h σ τ) {ks : List (List Itm)} {k : List Itm} (hks : KsOk g ks) (hk : KOk g k) : ∀ m, symK h (closedP h (phi σ k)) (ks.map (phi σ)) m = (symK g (closedP g k) ks m).map (phi σ)
  | 0 => rfl
  | m + 1 => by
    have hin : ∀ x ∈ closedP g k, inG g x = true := fun x hx => (((closedP_spec H.okg.beh H.okg.left hk.inG).2 x).1 hx).inG hk.inG
    rw [symK_succ, symK_succ, Sim.syk H hks hk m, H.closed hk.inG, H.go hin]
    exact H.adk (symK_ok H.okg hks hk m) (fun hne => goI_ok H.okg hk hne)

theorem Sim.lrf (H : Sim g h σ τ) : ∀ (f i : Nat) (ks : List (List Itm)), KsOk g ks → lrF h f i (ks.map (phi σ)) = (lrF g f i ks).map (List.map (phi σ))
  | 0, _, _, _ => rfl
  | f + 1, i, ks, hks => by
    unfold lrF
    rw [List.getElem?_map]
    cases hki : ks[i]? with
    | none => rfl
    | some k =>
      have hk := hks.ok k (List.mem_of_getElem? hki)
      simp only [Option.map_some]
      rw [H.t, H.n, H.syk hks hk, List.length_map]
      split
      · rfl
      · exact Sim.lrf H f (i + 1) _ (symK_ok H.okg hks hk _)

theorem Sim.klr (H : Sim g h σ τ) : lrK h = (lrK g).map (List.map (phi σ)) := by
  unfold lrK
  have h1 : [phi σ [⟨0, 0⟩]] = ([[⟨0, 0⟩]] : List (List Itm)) := by
    show [sortI [⟨((σ 0 : Nat) : Int), 0⟩]] = _
    rw [H.s0]; rfl
  have := H.lrf 514 0 [[⟨0, 0⟩]] (beg_ok H.okg)
  rw [List.map_cons, List.map_nil, h1] at this
  exact this

theorem Sim.ere (H : Sim g h σ τ) : lrE h = lrE g := by
  unfold lrE
  rw [if_neg (by rw [H.hh]; simp), if_neg (by rw [H.hg]; simp), H.klr]
  cases lrK g <;> rfl

theorem Sim.ks_ (H : Sim g h σ τ) : lrKs h = (lrKs g).map (phi σ) := by
  unfold lrKs
  rw [H.ere]
  split
  · rw [H.klr]; cases lrK g <;> rfl
  · rfl

theorem ix_map {α β : Type} [DecidableEq α] [DecidableEq β] {f : α → β} {k : α} : ∀ {ks : List α}, (∀ a ∈ ks, f a = f k → a = k) → ix (ks.map f) (f k) = ix ks k
  | [], _ => rfl
  | x :: ks, hi => by
    rw [List.map_cons]
    unfold ix
    by_cases e : x = k
    · rw [if_pos e, if_pos (by rw [e])]
    · rw [if_neg e, if_neg (fun e2 => e (hi x List.mem_cons_self e2)), ix_map (fun a ha => hi a (List.mem_cons_of_mem _ ha))]

theorem Sim.gs_ (H : Sim g h σ τ) : lrGs h = lrGs g := by
  by_cases h0 : lrE g = 0
  · obtain ⟨_, _, hK, _⟩ := lr_fin h0
    unfold lrGs
    rw [H.ks_, List.map_map]
    refine List.map_congr_left (fun k hk => ?_)
    have ok := hK.ok k hk
    have hin : ∀ x ∈ closedP g k, inG g x = true := fun x hx => (((closedP_spec H.okg.beh H.okg.left ok.inG).2 x).1 hx).inG ok.inG
    show gotoR h _ (phi σ k) = gotoR g _ k
    unfold gotoR
    rw [H.t, H.n]
    refine List.map_congr_left (fun s _ => ?_)
    rw [H.closed ok.inG, H.go hin]
    unfold numK
    by_cases hn : goI g (closedP g k) s = []
    · rw [if_pos hn, if_pos (by rw [hn]; rfl)]
    · rw [if_neg hn, if_neg (phi_ne hn)]
      have o2 := goI_ok H.okg ok hn
      rw [ix_map (fun a ha e => H.phi_inj (hK.ok a ha).sort o2.sort (hK.ok a ha).inG o2.inG e)]
  · rw [(lr_bad h0).2, (lr_bad (g := h) (by rw [H.ere]; exact h0)).2]

/-! ### what begins names -/
theorem bFix_least {g : Gram} (he : checkE g = 0) {u : BSt} (hu : BInv g.Terms.length g.Nons.length u)
    (hpart : ∀ p ∈ g.Prods, ((rowT g.Terms.length u p.Right).2 = true → u.1.getD p.Left.toNat false = true) ∧ ∀ x, (rowT g.Terms.length u p.Right).1.getD x false = true → (u.2.getD p.Left.toNat []).getD x false = true) : Le (bFix g) u := by
  have hok := gOk he
  have hnat := hok.bs.nat
  have hI := bInit_inv g.Terms.length g.Nons.length
  have hbot : ∀ u, Le (bInit g.Terms.length g.Nons.length) u := fun u => ⟨fun n h => by
    unfold bInit at h
    simp only [List.getD_eq_getElem?_getD, List.getElem?_replicate] at h
    split at h <;> simp at h, fun n x h => by
    unfold bInit at h
    simp only [List.getD_eq_getElem?_getD, List.getElem?_replicate] at h
    split at h
    · simp only [Option.getD_some, List.getElem?_replicate] at h
      split at h <;> simp at h
    · simp at h⟩
  have hround : ∀ (ps : List Prd), (∀ p ∈ ps, p ∈ g.Prods) → ∀ s, BInv g.Terms.length g.Nons.length s → Le s u → BInv g.Terms.length g.Nons.length (bRound g.Terms.length ps s) ∧ Le (bRound g.Terms.length ps s) u := by
    intro ps
    induction ps with
    | nil => intro _ s h1 h2; exact ⟨h1, h2⟩
    | cons q ps ih =>
      intro hsub s h1 h2
      have hq := hsub q (List.mem_cons_self ..)
      have hqn := hnat q hq
      have hqr : ∀ x ∈ q.Right, x < (g.Terms.length : Int) + g.Nons.length := by
        obtain ⟨i, hi, rfl⟩ := List.getElem_of_mem hq
        exact fun x hx => (hok.bs.right i hi x hx).2
      obtain ⟨r1, r2⟩ := rowT_le h1 hu h2 hqr
      have hstep := gStep_self _ _ _ h1 q hqn
      obtain ⟨g1, g2⟩ := gStep_get (s := s) h1 q hqn
      rw [hstep] at g1 g2
      refine ih (fun p hp => hsub p (List.mem_cons_of_mem _ hp)) (bStep g.Terms.length s q) (bStep_inv h1 q hqn) ⟨fun k hk => ?_, fun k x hk => ?_⟩
      · rw [g1] at hk
        simp only [Bool.or_eq_true, Bool.and_eq_true, decide_eq_true_eq] at hk
        rcases hk with hk | ⟨rfl, hk⟩
        · exact h2.no _ hk
        · exact (hpart q hq).1 (r1 hk)
      · rw [g2] at hk
        simp only [Bool.or_eq_true, Bool.and_eq_true, decide_eq_true_eq] at hk
        rcases hk with hk | ⟨rfl, hk⟩
        · exact h2.fi _ _ hk
        · exact (hpart q hq).2 _ (r2 _ hk)
  unfold bFix
  exact (it_inv (I := fun s => BInv g.Terms.length g.Nons.length s ∧ Le s u) (fun s ⟨h1, h2⟩ => hround g.Prods (fun _ h => h) s h1 h2) ⟨hI, hbot _⟩ _).2

theorem Sim.bLe (H : Sim g h σ τ) : Le (bFix g) (bFix h) := by
  have hF := (gOk H.hh).inv
  rw [H.t, H.n] at hF
  refine bFix_least H.hg hF (fun p hp => ?_)
  obtain ⟨k, hk, rfl⟩ := List.getElem_of_mem hp
  have hs : σ k < h.Prods.length := by rw [H.p]; exact (H.s k hk).1
  obtain ⟨e1, e2⟩ := H.l k hk
  rw [prd_at hs, prd_at hk] at e1 e2
  have := part_known H.hh h.Prods[σ k] (List.getElem_mem hs)
  rw [e1, e2, H.t] at this
  exact this
theorem Sim.bfx (H : Sim g h σ τ) : bFix h = bFix g := by
  have h1 := (gOk H.hg).inv
  have h2 := (gOk H.hh).inv
  rw [H.t, H.n] at h2
  exact Le.antisymm h2 h1 H.symm.bLe H.bLe

theorem Sim.rest (H : Sim g h σ τ) {x : Itm} (hx : inG g x = true) : restB h (mvI σ x) = restB g x ∧ restN h (mvI σ x) = restN g x := by
  obtain ⟨k, hk, e, h1, h2⟩ := inG_num hx
  have hl : restL h (mvI σ x) = restL g x := by
    rw [mvI_num e]
    unfold restL
    simp only
    rw [(H.l k hk).2, e]
  unfold restB restN
  rw [H.bfx, H.t, hl]
  exact ⟨rfl, rfl⟩

def mvP (σ : Nat → Nat) (p : Plc) : Plc := ⟨p.s, mvI σ p.x⟩
theorem Sim.la (H : Sim g h σ τ) (h0 : lrE g = 0) {p : Plc} {t : Nat} (hl : LA g (lrGs g) p t) : LA h (lrGs h) (mvP σ p) t := by
  have hF := goF h0
  induction hl with
  | base =>
    have : mvP σ p00 = p00 := by
      show (⟨0, ⟨((σ 0 : Nat) : Int), 0⟩⟩ : Plc) = ⟨0, ⟨0, 0⟩⟩
      rw [H.s0]; rfl
    rw [this]; exact .base
  | @step p q t u hp hc ih =>
    have hin := (la_vp hF hp).in_ hF
    obtain ⟨k, hk, e, h1, h2⟩ := inG_num hin
    have hd : ∀ hd : p.x.Dot ≠ (prd g p.x.Prod).Right.length, (mvP σ p).x.Dot ≠ (prd h (mvP σ p).x.Prod).Right.length := fun hd => by
      show (mvI σ p.x).Dot ≠ (prd h (mvI σ p.x).Prod).Right.length
      rw [mvI_num e]
      simp only
      rw [(H.l k hk).2, ← e]; exact hd
    have hb : beh h (mvP σ p).x = beh g p.x := H.bhd hin
    cases hc with
    | shift h3 =>
      have hn : nextP h (lrGs h) (mvP σ p) = mvP σ (nextP g (lrGs g) p) := by
        unfold nextP
        rw [hb, H.gs_]; rfl
      rw [← hn]
      exact .step ih (.shift (hd h3))
    | close h3 h4 h5 h6 h7 =>
      rename_i k2
      have : mvP σ ⟨p.s, ⟨(k2 : Int), 0⟩⟩ = ⟨(mvP σ p).s, ⟨((σ k2 : Nat) : Int), 0⟩⟩ := by
        show (⟨p.s, mvI σ ⟨(k2 : Int), 0⟩⟩ : Plc) = _
        rw [mvI_num (k := k2) rfl]; rfl
      rw [this]
      obtain ⟨r1, r2⟩ := H.rest hin
      refine .step ih (.close (hd h3) (by rw [hb, H.t]; exact h4) (by rw [H.p]; exact (H.s k2 h5).1) (by rw [hb, H.t, (H.l k2 h5).1]; exact h6) ?_)
      show (restB h (mvI σ p.x)).getD u false = true ∨ (restN h (mvI σ p.x) = true ∧ u = t)
      rw [r1, r2]; exact h7

/-- The same terms stand behind whole productions. -/
theorem Sim.row (H : Sim g h σ τ) (h0 : lrE g = 0) {s k a : Nat} (hk : k < g.Prods.length) : (laRow h s (σ k)).getD a false = (laRow g s k).getD a false := by
  have h1 : lrE h = 0 := by rw [H.ere]; exact h0
  rw [Bool.eq_iff_iff, laRow_bit h0, laRow_bit h1, H.t]
  refine and_congr_right (fun _ => ?_)
  have e : ∀ n : Int, mvP σ ⟨s, ⟨(k : Int), n⟩⟩ = ⟨s, ⟨((σ k : Nat) : Int), n⟩⟩ := fun n => by
    show (⟨s, mvI σ ⟨(k : Int), n⟩⟩ : Plc) = _
    rw [mvI_num (k := k) rfl]
  have e2 : ∀ n : Int, mvP τ ⟨s, ⟨((σ k : Nat) : Int), n⟩⟩ = ⟨s, ⟨(k : Int), n⟩⟩ := fun n => by
    show (⟨s, mvI τ ⟨((σ k : Nat) : Int), n⟩⟩ : Plc) = _
    rw [mvI_num (k := σ k) rfl, (H.s k hk).2]
  rw [(H.l k hk).2]
  constructor
  · intro hl
    have := H.symm.la h1 hl
    rwa [e2] at this
  · intro hl
    have := H.la h0 hl
    rwa [e] at this
end sim

end Go.Proofs.YtcnpjhaedjncdaaDoor

namespace Go.Proofs.YtcnpjhaedjncdaaDoor
set_option linter.all false
open Go.Proofs.YtcnpjhaedjncdaaDoor.E

def uLe (a b : List Bool) : Prop := ∀ i, a.getD i false = true → b.getD i false = true
theorem okSym_le {t : Nat} {a b : List Bool} (h : uLe a b) {s : Int} (hs : okSym t a s = true) : okSym t b s = true := by
  unfold okSym at hs ⊢
  rw [Bool.or_eq_true] at hs ⊢
  exact hs.imp id (h _)
theorem uStep_le {t : Nat} {a b : List Bool} (h : uLe a b) {p : Prd} (hp : p.Right.all (okSym t b) = true → b.getD p.Left.toNat false = true) : uLe (uStep t a p) b := by
  unfold uStep
  split
  · rename_i ha
    intro i hi
    rcases getD_set_true hi with ⟨rfl, _⟩ | hi
    · exact hp (List.all_eq_true.2 fun s hs => okSym_le h (List.all_eq_true.1 ha s hs))
    · exact h i hi
  · exact h
theorem uRound_le {t : Nat} {b : List Bool} : ∀ (ps : List Prd) (_ : ∀ p ∈ ps, p.Right.all (okSym t b) = true → b.getD p.Left.toNat false = true) (a : List Bool), uLe a b → uLe (uRound t ps a) b
  | [], _, a, h => h
  | p :: ps, hp, a, h => uRound_le ps (fun q hq => hp q (List.mem_cons_of_mem _ hq)) _ (uStep_le h (hp p List.mem_cons_self))
theorem uFix_least {g : Gram} {b : List Bool} (hp : ∀ p ∈ g.Prods, p.Right.all (okSym g.Terms.length b) = true → b.getD p.Left.toNat false = true) : uLe (uFix g) b := by
  unfold uFix
  refine it_inv (I := fun a => uLe a b) (fun a h => uRound_le g.Prods hp a h) ?_ _
  intro i hi
  rw [List.getD_eq_getElem?_getD, List.getElem?_replicate] at hi
  split at hi <;> simp at hi
theorem uRound_fixed {t : Nat} : ∀ (ps : List Prd) (u : List Bool), uRound t ps u = u → ∀ p ∈ ps, uStep t u p = u
  | [], _, _ => fun p hp => nomatch hp
  | q :: ps, u, h => by
    have h1 : uRound t ps (uStep t u q) = u := h
    have h2 : uStep t u q = u := by
      rcases uStep_cnt t u q with e | e
      · exact e
      · rcases uRound_cnt t ps (uStep t u q) with e2 | e2
        · rw [h1] at e2; exact e2.symm
        · rw [h1] at e2; omega
    intro p hp
    rcases List.mem_cons.1 hp with rfl | hp
    · exact h2
    · rw [h2] at h1
      exact uRound_fixed ps u h1 p hp
theorem uFix_len (g : Gram) : (uFix g).length = g.Nons.length := by
  unfold uFix
  exact it_inv (I := fun a : List Bool => a.length = g.Nons.length) (fun a h => by rw [uRound_len]; exact h) (by simp) _
theorem uFix_closed {g : Gram} {p : Prd} (hp : p ∈ g.Prods) (hl : p.Left.toNat < g.Nons.length) (ha : p.Right.all (okSym g.Terms.length (uFix g)) = true) : (uFix g).getD p.Left.toNat false = true := by
  have h1 := uRound_fixed g.Prods _ (uFix_fix g) p hp
  unfold uStep at h1
  rw [if_pos ha] at h1
  rw [← h1, List.getD_eq_getElem?_getD, List.getElem?_set_self (by rw [uFix_len]; exact hl)]; rfl

/-- What a grammar that may be has, and the other one shares. -/
structure Like (g h : Gram) (σ τ : Nat → Nat) : Prop where
  t : h.Terms.length = g.Terms.length
  n : h.Nons.length = g.Nons.length
  p : h.Prods.length = g.Prods.length
  s : ∀ k, k < g.Prods.length → σ k < g.Prods.length ∧ τ (σ k) = k
  ts : ∀ k, k < g.Prods.length → τ k < g.Prods.length ∧ σ (τ k) = k
  s0 : σ 0 = 0
  l : ∀ k : Nat, k < g.Prods.length → (prd h (σ k)).Left = (prd g k).Left ∧ (prd h (σ k)).Right = (prd g k).Right
  ll : h.Levels.length = g.Levels.length
  lb : ∀ x ∈ h.Levels, mayBind x.N x.Kind = true
  pb : ∀ k : Nat, k < g.Prods.length → mayBind (prd h k).L.N (prd h k).L.Kind = true

theorem Like.sim {g h : Gram} {σ τ : Nat → Nat} (H : Like g h σ τ) (hg : checkE g = 0) : Sim g h σ τ := by
  obtain ⟨hlm, hwf⟩ := checkE_ok hg
  have hL := lims hlm
  have hrt : ∀ (k : Nat) (hk : k < h.Prods.length), ∃ (j : Nat) (hj : j < g.Prods.length), h.Prods[k].Left = g.Prods[j].Left ∧ h.Prods[k].Right = g.Prods[j].Right ∧ (j = 0 ↔ k = 0) := fun k hk => by
    have hk2 : k < g.Prods.length := by rw [← H.p]; exact hk
    have h1 := H.l (τ k) (H.ts k hk2).1
    rw [(H.ts k hk2).2, prd_at hk, prd_at (H.ts k hk2).1] at h1
    refine ⟨τ k, (H.ts k hk2).1, h1.1, h1.2, fun e => ?_, fun e => ?_⟩
    · have := (H.ts k hk2).2; rw [e, H.s0] at this; exact this.symm
    · have h0 := (H.s 0 hwf.prods).2
      rw [H.s0] at h0
      rw [e]; exact h0
  have hlim : limitsB h = false := by
    unfold limitsB
    simp only [Bool.or_eq_false_iff, decide_eq_false_iff_not, List.any_eq_false, decide_eq_true_eq]
    have := hL.t; have := hL.n; have := hL.p
    refine ⟨by rw [H.t]; omega, by rw [H.n]; omega, by rw [H.p]; omega, fun p hp => ?_⟩
    obtain ⟨k, hk, rfl⟩ := List.getElem_of_mem hp
    obtain ⟨j, hj, _, e2, _⟩ := hrt k hk
    rw [e2]
    have := hL.r _ (List.getElem_mem hj); omega
  have hw : Wf0 h := by
    refine ⟨by rw [H.t]; exact hwf.t, by rw [H.n]; exact hwf.n, by rw [H.ll, H.t]; exact hwf.lev, by rw [H.p]; exact hwf.prods, H.lb, fun k hk => ?_, ?_⟩
    · obtain ⟨j, hj, e1, e2, e3⟩ := hrt k hk
      have h1 := hwf.prod j hj
      have h2 := H.pb k (by rw [← H.p]; exact hk)
      rw [prd_at hk] at h2
      unfold prodOk at h1 ⊢
      rw [H.t, H.n, e1, e2]
      rw [h2]
      simp only [Bool.and_eq_true] at h1 ⊢
      refine ⟨h1.1, h1.2.1, ?_, trivial, h1.2.2.2.2⟩
      have h3 := h1.2.2.1
      rw [decide_eq_decide.2 e3] at h3
      exact h3
    · have h1 := hwf.start
      have h0 : 0 < h.Prods.length := by rw [H.p]; exact hwf.prods
      have h2 := (H.l 0 hwf.prods).2
      rw [H.s0, prd_at h0, prd_at hwf.prods] at h2
      have hh := hwf.prods
      rw [H.t]
      cases hgp : g.Prods with
      | nil => rw [hgp] at hh; simp at hh
      | cons a ga =>
        cases hhp : h.Prods with
        | nil => rw [hhp] at h0; simp at h0
        | cons b bs =>
          simp only [hgp, hhp, List.getElem_cons_zero] at h2
          rw [hgp] at h1
          unfold startOk at h1 ⊢
          simp only at h1 ⊢
          rw [h2]; exact h1
  have hu : (uFix h).all id = true := by
    have hug : (uFix g).all id = true := by
      unfold checkE at hg
      rw [if_neg (by rw [hlm]; simp)] at hg
      split at hg
      · rename_i hwg
        unfold wf at hwg
        rw [Bool.and_eq_true] at hwg
        exact hwg.2
      · cases hg
    have hle : uLe (uFix g) (uFix h) := uFix_least (fun p hp ha => by
      obtain ⟨k, hk, rfl⟩ := List.getElem_of_mem hp
      have hs : σ k < h.Prods.length := by rw [H.p]; exact (H.s k hk).1
      obtain ⟨e1, e2⟩ := H.l k hk
      rw [prd_at hs, prd_at hk] at e1 e2
      have hlt := prod_ok hw hs
      rw [← e1]
      refine uFix_closed (List.getElem_mem hs) (by omega) ?_
      rw [e2, H.t]; exact ha)
    rw [List.all_eq_true] at hug ⊢
    intro b hb
    obtain ⟨i, hi, rfl⟩ := List.getElem_of_mem hb
    have hi2 : i < (uFix g).length := by rw [uFix_len] at hi ⊢; rw [← H.n]; exact hi
    have h1 := hug _ (List.getElem_mem hi2)
    have h2 := hle i (by rw [List.getD_eq_getElem?_getD, List.getElem?_eq_getElem hi2]; exact h1)
    rw [List.getD_eq_getElem?_getD, List.getElem?_eq_getElem hi] at h2
    exact h2
  refine ⟨hg, ?_, H.t, H.n, H.p, H.s, H.ts, H.s0, H.l⟩
  unfold checkE
  rw [if_neg (by rw [hlim]; simp), if_pos (by unfold wf; rw [(wf0_iff h).2 hw, hu]; rfl)]

end Go.Proofs.YtcnpjhaedjncdaaDoor

namespace Go.Proofs.YtcnpjhaedjncdaaDoor
set_option linter.all false
open Go.Proofs.YtcnpjhaedjncdaaDoor.E

structure Acn where
  k : Int
  n : Int
deriving DecidableEq
abbrev ac0 : Acn := ⟨0, 0⟩

def shN (g : Gram) (s t : Nat) : Int := ((lrGs g).getD s []).getD t (-1)
noncomputable def lab (g : Gram) (s t k : Nat) : Bool := (laRow g s k).getD t false
noncomputable def redsN (g : Gram) (s t m : Nat) : List Nat := (List.range m).filter (lab g s t)
noncomputable def reds (g : Gram) (s t : Nat) : List Nat := redsN g s t g.Prods.length
def redA (k : Nat) : Acn := if k = 0 then ⟨3, 0⟩ else ⟨2, k⟩
def shL (g : Gram) (s t : Nat) : List Acn := if 0 ≤ shN g s t then [⟨1, shN g s t⟩] else []
noncomputable def toldN (g : Gram) (s t m : Nat) : List Acn := shL g s t ++ (redsN g s t m).map redA
noncomputable def told (g : Gram) (s t : Nat) : List Acn := toldN g s t g.Prods.length

theorem redsN_succ (g : Gram) (s t m : Nat) : redsN g s t (m + 1) = if lab g s t m then redsN g s t m ++ [m] else redsN g s t m := by
  unfold redsN
  rw [List.range_succ, List.filter_append, List.filter_cons, List.filter_nil]
  split <;> simp
theorem toldN_succ (g : Gram) (s t m : Nat) : toldN g s t (m + 1) = if lab g s t m then toldN g s t m ++ [redA m] else toldN g s t m := by
  unfold toldN
  rw [redsN_succ]
  split <;> simp
theorem redsN_len (g : Gram) (s t m : Nat) : (redsN g s t m).length ≤ m := by
  unfold redsN
  have := List.length_filter_le (lab g s t) (List.range m)
  rwa [List.length_range] at this
theorem toldN_len (g : Gram) (s t m : Nat) : (toldN g s t m).length ≤ m + 1 := by
  unfold toldN shL
  have := redsN_len g s t m
  rw [List.length_append, List.length_map]
  split <;> simp <;> omega

def lvl (g : Gram) (t : Nat) : Lev := g.Levels.getD t ⟨0, 0⟩
/-- Between two levels: the first, the second, neither, or not decided. -/
def bindB (a b : Lev) (x y : Acn) : Acn × Bool :=
  if a.N = 0 ∨ b.N = 0 then (ac0, false) else if a.N > b.N then (x, true) else if a.N < b.N then (y, true) else if a.Kind = 1 then (y, true) else if a.Kind = 2 then (x, true) else (ac0, true)
def decA (g : Gram) (l : List Acn) (t : Nat) : Acn × Bool := match l with
  | [x, y] => if x.k = 1 ∧ y.k = 2 then bindB (lvl g t) (prd g y.n).L x y else (ac0, false)
  | _ => (ac0, false)
def actL (g : Gram) (l : List Acn) (t : Nat) : Acn := if l.length = 1 then l.getD 0 ac0 else if 2 ≤ l.length ∧ (decA g l t).2 = true then (decA g l t).1 else ac0
def claL (g : Gram) (l : List Acn) (t : Nat) : Bool := decide (2 ≤ l.length) && !(decA g l t).2
def decL (g : Gram) (l : List Acn) (t : Nat) : Bool := decide (2 ≤ l.length) && (decA g l t).2

noncomputable def actC (g : Gram) (s t : Nat) : Acn := actL g (told g s t) t
noncomputable def claB (g : Gram) (s t : Nat) : Bool := claL g (told g s t) t
noncomputable def decB (g : Gram) (s t : Nat) : Bool := decL g (told g s t) t

/-- All cells before the state s, and of it those before the term t. -/
def cellsTo (T s t : Nat) : List (Nat × Nat) := ((List.range s).flatMap fun i => (List.range T).map fun j => (i, j)) ++ (List.range t).map fun j => (s, j)
theorem cellsTo_succ (T s t : Nat) : cellsTo T s (t + 1) = cellsTo T s t ++ [(s, t)] := by
  unfold cellsTo; rw [List.range_succ (n := t), List.map_append, List.append_assoc]; rfl
theorem cellsTo_next (T s : Nat) : cellsTo T (s + 1) 0 = cellsTo T s T := by
  unfold cellsTo; rw [List.range_succ (n := s), List.flatMap_append]; simp
theorem cellsTo_len (T s t : Nat) : (cellsTo T s t).length = s * T + t := by
  unfold cellsTo
  rw [List.length_append, List.length_map, List.length_range]
  congr 1
  induction s with
  | zero => simp
  | succ s ih => rw [List.range_succ, List.flatMap_append, List.length_append, ih]; simp [Nat.succ_mul]
theorem mem_cells {T S s t : Nat} : (s, t) ∈ cellsTo T S 0 ↔ s < S ∧ t < T := by
  unfold cellsTo
  simp only [List.range_zero, List.map_nil, List.append_nil, List.mem_flatMap, List.mem_range, List.mem_map, Prod.mk.injEq]
  constructor
  · rintro ⟨i, hi, j, hj, rfl, rfl⟩; exact ⟨hi, hj⟩
  · rintro ⟨h1, h2⟩; exact ⟨s, h1, t, h2, rfl, rfl⟩

noncomputable def claTo (g : Gram) (s t : Nat) : List (Nat × Nat) := (cellsTo g.Terms.length s t).filter fun c => claB g c.1 c.2
noncomputable def decTo (g : Gram) (s t : Nat) : Nat := (cellsTo g.Terms.length s t).countP fun c => decB g c.1 c.2
theorem claTo_succ (g : Gram) (s t : Nat) : claTo g s (t + 1) = if claB g s t then claTo g s t ++ [(s, t)] else claTo g s t := by
  unfold claTo
  rw [cellsTo_succ, List.filter_append, List.filter_cons, List.filter_nil]
  split <;> simp
theorem decTo_succ (g : Gram) (s t : Nat) : decTo g s (t + 1) = decTo g s t + if decB g s t then 1 else 0 := by
  unfold decTo
  rw [cellsTo_succ, List.countP_append, List.countP_cons, List.countP_nil]; simp
theorem claTo_next (g : Gram) (s : Nat) : claTo g (s + 1) 0 = claTo g s g.Terms.length := by unfold claTo; rw [cellsTo_next]
theorem decTo_next (g : Gram) (s : Nat) : decTo g (s + 1) 0 = decTo g s g.Terms.length := by unfold decTo; rw [cellsTo_next]
theorem claTo_le (g : Gram) (s t : Nat) : (claTo g s t).length ≤ s * g.Terms.length + t := by
  have := List.length_filter_le (fun c : Nat × Nat => claB g c.1 c.2) (cellsTo g.Terms.length s t)
  rwa [cellsTo_len] at this
theorem decTo_le (g : Gram) (s t : Nat) : decTo g s t ≤ s * g.Terms.length + t := by
  have := List.countP_le_length (p := fun c : Nat × Nat => decB g c.1 c.2) (l := cellsTo g.Terms.length s t)
  rwa [cellsTo_len] at this

/-- All clashes; how often something was decided. -/
noncomputable def claA (g : Gram) : List (Nat × Nat) := claTo g (lrKs g).length 0
noncomputable def decN (g : Gram) : Nat := decTo g (lrKs g).length 0
noncomputable def actRow (g : Gram) (s : Nat) : List Acn := (List.range g.Terms.length).map (actC g s)
noncomputable def actA (g : Gram) : List (List Acn) := (List.range (lrKs g).length).map (actRow g)
def gotA (g : Gram) : List (List Int) := (lrGs g).map fun r => r.drop g.Terms.length
/-- Which error a grammar's parser has. -/
noncomputable def actE (g : Gram) : Int := if lrE g ≠ 0 then lrE g else if claA g ≠ [] then 210 else 0

/-! ### of two grammars that are alike -/
section sim
variable {g h : Gram} {σ τ : Nat → Nat}
theorem Sim.shn (H : Sim g h σ τ) (s t : Nat) : shN h s t = shN g s t := by unfold shN; rw [H.gs_]
theorem Sim.lbb (H : Sim g h σ τ) (h0 : lrE g = 0) (s t : Nat) {k : Nat} (hk : k < g.Prods.length) : lab h s t (σ k) = lab g s t k := H.row h0 hk
theorem redsN_nd (g : Gram) (s t m : Nat) : (redsN g s t m).Nodup := List.Pairwise.filter _ List.nodup_range
theorem mem_redsN {g : Gram} {s t m k : Nat} : k ∈ redsN g s t m ↔ k < m ∧ lab g s t k = true := by unfold redsN; rw [List.mem_filter, List.mem_range]
theorem nodup_le {α : Type} [DecidableEq α] : ∀ {a b : List α}, a.Nodup → (∀ x ∈ a, x ∈ b) → a.length ≤ b.length
  | [], _, _, _ => by simp
  | x :: a, b, h1, h2 => by
    obtain ⟨h3, h4⟩ := List.nodup_cons.1 h1
    have hx := h2 x List.mem_cons_self
    have := nodup_le (b := b.erase x) h4 (fun y hy => (List.mem_erase_of_ne (fun (e : y = x) => h3 (by rw [← e]; exact hy))).2 (h2 y (List.mem_cons_of_mem _ hy)))
    rw [List.length_erase_of_mem hx] at this
    have := List.length_pos_of_mem hx
    rw [List.length_cons]; omega
theorem Sim.reds_le (H : Sim g h σ τ) (h0 : lrE g = 0) (s t : Nat) : (reds g s t).length ≤ (reds h s t).length := by
  have : ((reds g s t).map σ).Nodup := by
    refine List.Pairwise.map _ (fun a b hab => hab) ?_ |> fun h => h
    refine (List.Pairwise.and_mem.1 (redsN_nd g s t _)).imp (fun {a b} ⟨ha, hb, hab⟩ e => hab ?_)
    rw [← (H.s a (mem_redsN.1 ha).1).2, e, (H.s b (mem_redsN.1 hb).1).2]
  have h2 := nodup_le this (b := reds h s t) (fun x hx => by
    obtain ⟨k, hk, rfl⟩ := List.mem_map.1 hx
    obtain ⟨h1, h2⟩ := mem_redsN.1 hk
    exact mem_redsN.2 ⟨by rw [H.p]; exact (H.s k h1).1, by rw [H.lbb h0 s t h1]; exact h2⟩)
  rwa [List.length_map] at h2
theorem Sim.reds_len (H : Sim g h σ τ) (h0 : lrE g = 0) (s t : Nat) : (reds h s t).length = (reds g s t).length :=
  Nat.le_antisymm (H.symm.reds_le (by rw [H.ere]; exact h0) s t) (H.reds_le h0 s t)
theorem Sim.reds_one (H : Sim g h σ τ) (h0 : lrE g = 0) {s t k : Nat} (hk : reds g s t = [k]) : reds h s t = [σ k] := by
  have hm : k ∈ reds g s t := by rw [hk]; exact List.mem_cons_self
  obtain ⟨h1, h2⟩ := mem_redsN.1 hm
  have h3 : σ k ∈ reds h s t := mem_redsN.2 ⟨by rw [H.p]; exact (H.s k h1).1, by rw [H.lbb h0 s t h1]; exact h2⟩
  have hl := H.reds_len h0 s t
  rw [hk] at hl
  obtain ⟨y, hy⟩ := List.length_eq_one_iff.1 hl
  rw [hy, List.mem_singleton] at h3
  rw [hy, h3]
theorem Sim.told_len (H : Sim g h σ τ) (h0 : lrE g = 0) (s t : Nat) : (told h s t).length = (told g s t).length := by
  have := H.reds_len h0 s t
  unfold reds at this
  unfold told toldN shL
  rw [List.length_append, List.length_append, List.length_map, List.length_map, this, H.shn]
end sim

/-- What is decided, of two things that are told. -/
theorem dec_form {g : Gram} {s t : Nat} (h2 : (decA g (told g s t) t).2 = true) : ∃ k : Nat, 0 < k ∧ reds g s t = [k] ∧ 0 ≤ shN g s t ∧ told g s t = [⟨1, shN g s t⟩, ⟨2, k⟩] ∧ decA g (told g s t) t = bindB (lvl g t) (prd g k).L ⟨1, shN g s t⟩ ⟨2, k⟩ := by
  by_cases hs : 0 ≤ shN g s t
  · have e : told g s t = ⟨1, shN g s t⟩ :: (reds g s t).map redA := by unfold told toldN shL reds; rw [if_pos hs]; rfl
    rw [e] at h2 ⊢
    cases hr : reds g s t with
    | nil => rw [hr] at h2; cases h2
    | cons k l =>
      cases l with
      | cons _ _ => rw [hr] at h2; cases h2
      | nil =>
        rw [hr] at h2
        by_cases hk : k = 0
        · subst hk; cases h2
        · have e2 : redA k = ⟨2, k⟩ := by unfold redA; rw [if_neg hk]
          refine ⟨k, by omega, rfl, hs, by rw [List.map_cons, List.map_nil, e2], ?_⟩
          rw [List.map_cons, List.map_nil, e2]
          rfl
  · have e : told g s t = (reds g s t).map redA := by unfold told toldN shL reds; rw [if_neg hs]; rfl
    rw [e] at h2
    exfalso
    cases hr : reds g s t with
    | nil => rw [hr] at h2; cases h2
    | cons k l =>
      cases l with
      | nil => rw [hr] at h2; cases h2
      | cons k2 l =>
        cases l with
        | cons _ _ => rw [hr] at h2; cases h2
        | nil =>
          rw [hr] at h2
          have : (redA k).k ≠ 1 := by unfold redA; split <;> simp
          unfold decA at h2
          simp only [List.map_cons, List.map_nil] at h2
          rw [if_neg (fun e => this e.1)] at h2
          cases h2

theorem bind_snd (a b : Lev) (x y : Acn) : (bindB a b x y).2 = !decide (a.N = 0 ∨ b.N = 0) := by
  unfold bindB
  by_cases h : a.N = 0 ∨ b.N = 0
  · rw [if_pos h, decide_eq_true h]; rfl
  · rw [if_neg h, decide_eq_false h]
    split
    · rfl
    · split
      · rfl
      · split
        · rfl
        · split <;> rfl

/-- The order of productions changes nothing of how often something is decided, nor of how many clashes there are. -/
theorem order_dec {g h : Gram} {σ τ : Nat → Nat} (H : Sim g h σ τ) (h0 : lrE g = 0) (hl : h.Levels = g.Levels) (hp : ∀ k : Nat, k < g.Prods.length → (prd h (σ k)).L = (prd g k).L) {s t : Nat} (hd : (decA g (told g s t) t).2 = true) : (decA h (told h s t) t).2 = true := by
  obtain ⟨k, hk, hr, hs, e1, e2⟩ := dec_form hd
  have hr2 := H.reds_one h0 hr
  have hkP : k < g.Prods.length := (mem_redsN.1 (show k ∈ reds g s t by rw [hr]; exact List.mem_cons_self)).1
  have hσ : σ k ≠ 0 := fun e => by
    have := (H.s k hkP).2
    rw [e] at this
    have h0 := (H.s 0 (by omega)).2
    rw [H.s0] at h0
    omega
  have e3 : told h s t = [⟨1, shN g s t⟩, ⟨2, (σ k : Nat)⟩] := by
    show toldN h s t h.Prods.length = _
    unfold toldN shL
    have : redsN h s t h.Prods.length = [σ k] := hr2
    rw [this, H.shn, if_pos hs, List.map_cons, List.map_nil]
    unfold redA
    rw [if_neg hσ]; rfl
  rw [e2, bind_snd] at hd
  rw [e3]
  show (bindB (lvl h t) (prd h (σ k : Nat)).L _ _).2 = true
  rw [bind_snd, hp k hkP]
  unfold lvl at hd ⊢
  rw [hl]; exact hd

theorem order_same {g h : Gram} {σ τ : Nat → Nat} (H : Sim g h σ τ) (h0 : lrE g = 0) (hl : h.Levels = g.Levels) (hp : ∀ k : Nat, k < g.Prods.length → (prd h (σ k)).L = (prd g k).L) (s t : Nat) : claB h s t = claB g s t ∧ decB h s t = decB g s t := by
  have e : (decA h (told h s t) t).2 = (decA g (told g s t) t).2 := by
    rw [Bool.eq_iff_iff]
    refine ⟨fun hd => order_dec H.symm (by rw [H.ere]; exact h0) hl.symm (fun k hk => ?_) hd, order_dec H h0 hl hp⟩
    rw [H.p] at hk
    have := hp (τ k) (H.ts k hk).1
    rw [(H.ts k hk).2] at this
    exact this.symm
  unfold claB decB claL decL
  rw [e, H.told_len h0]
  exact ⟨rfl, rfl⟩

theorem order_all {g h : Gram} {σ τ : Nat → Nat} (H : Sim g h σ τ) (hl : h.Levels = g.Levels) (hp : ∀ k : Nat, k < g.Prods.length → (prd h (σ k)).L = (prd g k).L) :
    actE h = actE g ∧ (lrE g = 0 → decN h = decN g ∧ claA h = claA g ∧ (lrKs h).length = (lrKs g).length) := by
  have h1 : lrE g = 0 → decN h = decN g ∧ claA h = claA g ∧ (lrKs h).length = (lrKs g).length := fun h0 => by
    have hk : (lrKs h).length = (lrKs g).length := by rw [H.ks_, List.length_map]
    have hs := order_same H h0 hl hp
    unfold decN decTo claA claTo
    rw [hk, H.t]
    exact ⟨by simp only [(hs _ _).2], by simp only [(hs _ _).1], rfl⟩
  refine ⟨?_, h1⟩
  unfold actE
  rw [H.ere]
  split
  · rfl
  · rename_i h0
    rw [(h1 (Classical.not_not.1 h0)).2.1]

end Go.Proofs.YtcnpjhaedjncdaaDoor

namespace Go.Proofs.YtcnpjhaedjncdaaDoor
set_option linter.all false
open Go.Proofs.YtcnpjhaedjncdaaDoor.E

/-! ### of one cell -/
structure AllS where
  a : Bool
  r : Nat
  b : Nat
noncomputable def allN (g : Gram) (s t : Nat) : Nat → AllS
  | 0 => ⟨false, 0, 0⟩
  | m + 1 => if lab g s t m then (if m = 0 then ⟨true, (allN g s t m).r, (allN g s t m).b⟩ else ⟨(allN g s t m).a, (allN g s t m).r + 1, m⟩) else allN g s t m
theorem allN_spec (g : Gram) (s t : Nat) : ∀ m, ∃ l : List Nat, redsN g s t m = (if (allN g s t m).a then [0] else []) ++ l ∧ l.length = (allN g s t m).r ∧ (∀ k ∈ l, k ≠ 0) ∧ (l ≠ [] → l.getLast? = some (allN g s t m).b) ∧ (allN g s t m).r ≤ m ∧ (m = 0 → (allN g s t m).a = false)
  | 0 => ⟨[], rfl, rfl, fun k hk => (nomatch hk), fun h => absurd rfl h, Nat.le_refl _, fun _ => rfl⟩
  | m + 1 => by
    obtain ⟨l, h1, h2, h3, h4, h5, h6⟩ := allN_spec g s t m
    rw [redsN_succ]
    unfold allN
    by_cases hl : lab g s t m = true
    · rw [if_pos hl, if_pos hl]
      by_cases hm : m = 0
      · rw [if_pos hm]
        subst hm
        have ha := h6 rfl
        rw [ha] at h1
        have : l = [] := by
          have : redsN g s t 0 = [] := rfl
          rw [this] at h1; simpa using h1.symm
        subst this
        rw [h1]
        exact ⟨[], rfl, h2, h3, h4, by simp only; omega, fun h => by omega⟩
      · rw [if_neg hm, h1]
        refine ⟨l ++ [m], by simp only [List.append_assoc], by simp [h2], fun k hk => ?_, fun _ => by simp, by simp only; omega, fun h => by omega⟩
        rcases List.mem_append.1 hk with hk | hk
        · exact h3 k hk
        · rw [List.mem_singleton] at hk; omega
    · rw [if_neg hl, if_neg hl]
      exact ⟨l, h1, h2, h3, h4, by omega, fun h => by omega⟩

def wantA (sh : Int) (x : AllS) : Acn := if x.a then ⟨3, 0⟩ else if x.r = 1 then ⟨2, x.b⟩ else if 0 ≤ sh then ⟨1, sh⟩ else ac0

theorem all_cell {g : Gram} {s t : Nat} (hc : claB g s t = false) :
    (0 ≤ shN g s t ∧ (allN g s t g.Prods.length).r = 1 → decB g s t = true ∧ (actC g s t = ac0 ∨ actC g s t = ⟨1, shN g s t⟩ ∨ actC g s t = ⟨2, (allN g s t g.Prods.length).b⟩)) ∧
    (¬ (0 ≤ shN g s t ∧ (allN g s t g.Prods.length).r = 1) → decB g s t = false ∧ (allN g s t g.Prods.length).r ≤ 1 ∧ ((allN g s t g.Prods.length).a = true → (allN g s t g.Prods.length).r = 0 ∧ ¬ 0 ≤ shN g s t) ∧ actC g s t = wantA (shN g s t) (allN g s t g.Prods.length)) := by
  obtain ⟨l, h1, h2, h3, h4, _, _⟩ := allN_spec g s t g.Prods.length
  generalize allN g s t g.Prods.length = x at h1 h2 h4 ⊢
  obtain ⟨a, r, b⟩ := x
  simp only at h1 h2 h4 ⊢
  have hlen : (told g s t).length = (if 0 ≤ shN g s t then 1 else 0) + ((if a then 1 else 0) + r) := by
    unfold told toldN shL
    rw [h1, List.length_append, List.length_map, List.length_append, h2]
    congr 1
    · split <;> rfl
    · congr 1; split <;> rfl
  have hto : told g s t = shL g s t ++ ((if a then [0] else []) ++ l).map redA := by unfold told toldN; rw [h1]
  unfold claB claL at hc
  by_cases hd : (decA g (told g s t) t).2 = true
  · obtain ⟨k, hk, hr, hs, e1, e2⟩ := dec_form hd
    have hr2 : (if a then [0] else []) ++ l = [k] := by rw [← h1]; exact hr
    have ha : a = false := by
      cases a with
      | false => rfl
      | true => simp at hr2; omega
    subst ha
    simp only [Bool.false_eq_true, if_false, List.nil_append] at hr2
    subst hr2
    simp only [List.length_singleton] at h2
    have hb := h4 (by simp)
    simp at hb
    subst hb
    subst h2
    have hdb : decB g s t = true := by
      unfold decB decL
      rw [e1] at hd ⊢
      rw [hd]; rfl
    have hac : actC g s t = (bindB (lvl g t) (prd g k).L ⟨1, shN g s t⟩ ⟨2, k⟩).1 := by
      unfold actC actL
      rw [if_neg (by rw [e1]; simp), if_pos ⟨by rw [e1]; exact Nat.le_refl 2, hd⟩, e2]
    refine ⟨fun _ => ⟨hdb, ?_⟩, fun hn => absurd ⟨hs, rfl⟩ hn⟩
    rw [hac]
    unfold bindB
    split
    · exact .inl rfl
    · split
      · exact .inr (.inl rfl)
      · split
        · exact .inr (.inr rfl)
        · split
          · exact .inr (.inr rfl)
          · split
            · exact .inr (.inl rfl)
            · exact .inl rfl
  · have hd2 : (decA g (told g s t) t).2 = false := by simpa using hd
    rw [hd2, Bool.not_false, Bool.and_true, decide_eq_false_iff_not] at hc
    have hdb : decB g s t = false := by unfold decB decL; rw [hd2, Bool.and_false]
    rw [hlen] at hc
    have hs1 : ¬ (0 ≤ shN g s t ∧ r = 1) := by
      rintro ⟨e1, e2⟩
      rw [if_pos e1, e2] at hc; omega
    refine ⟨fun h => absurd h hs1, fun _ => ⟨hdb, by omega, fun ha => ?_, ?_⟩⟩
    · rw [ha, if_pos rfl] at hc
      refine ⟨by omega, fun hs => ?_⟩
      rw [if_pos hs] at hc; omega
    · unfold actC actL wantA
      rw [hlen, if_neg (c := 2 ≤ _ ∧ _) (fun e => hc e.1)]
      by_cases ha : a = true
      · subst ha
        simp only [if_true] at hc ⊢
        have hs : ¬ 0 ≤ shN g s t := fun hs => by rw [if_pos hs] at hc; omega
        have hr : r = 0 := by omega
        subst hr
        have : l = [] := List.eq_nil_of_length_eq_zero h2
        subst this
        rw [if_neg hs, if_pos (by rfl), hto]
        unfold shL
        rw [if_neg hs]; rfl
      · have ha2 : a = false := by simpa using ha
        subst ha2
        simp only [Bool.false_eq_true, if_false, Nat.zero_add, List.nil_append] at hc hto ⊢
        by_cases hs : 0 ≤ shN g s t
        · rw [if_pos hs] at hc ⊢
          have hr : r = 0 := by omega
          subst hr
          have : l = [] := List.eq_nil_of_length_eq_zero h2
          subst this
          rw [if_pos rfl, if_neg (by decide), hto]
          unfold shL
          rw [if_pos hs, if_pos hs]; rfl
        · rw [if_neg hs] at hc ⊢
          rw [if_neg hs, Nat.zero_add]
          by_cases hr : r = 1
          · subst hr
            obtain ⟨k, rfl⟩ := List.length_eq_one_iff.1 h2
            have hb := h4 (by simp)
            simp at hb
            subst hb
            have hk := h3 k (by simp)
            rw [if_pos rfl, if_pos rfl, hto]
            unfold shL
            rw [if_neg hs]
            show redA k = _
            unfold redA
            rw [if_neg hk]
          · rw [if_neg hr, if_neg hr]

theorem cla_all {g : Gram} (h : claA g = []) {s t : Nat} (hs : s < (lrKs g).length) (ht : t < g.Terms.length) : claB g s t = false := by
  cases hc : claB g s t with
  | false => rfl
  | true =>
    have : (s, t) ∈ claA g := List.mem_filter.2 ⟨mem_cells.2 ⟨hs, ht⟩, hc⟩
    rw [h] at this; cases this

/-! ### other levels -/
def levG (f : Lev → Lev) (g : Gram) : Gram := { g with Levels := g.Levels.map f, Prods := g.Prods.map fun p => { p with L := f p.L } }
theorem levG_prd {f : Lev → Lev} (f0 : f ⟨0, 0⟩ = ⟨0, 0⟩) (g : Gram) (k : Int) : prd (levG f g) k = { prd g k with L := f (prd g k).L } := by
  unfold prd levG
  simp only
  rw [List.getD_eq_getElem?_getD, List.getD_eq_getElem?_getD, List.getElem?_map]
  cases g.Prods[k.toNat]? with
  | none => simp [f0]
  | some p => rfl
theorem levG_lvl {f : Lev → Lev} (f0 : f ⟨0, 0⟩ = ⟨0, 0⟩) (g : Gram) (t : Nat) : lvl (levG f g) t = f (lvl g t) := by
  unfold lvl levG
  simp only
  rw [List.getD_eq_getElem?_getD, List.getD_eq_getElem?_getD, List.getElem?_map]
  cases g.Levels[t]? with
  | none => simp [f0]
  | some p => rfl
theorem levG_sim {f : Lev → Lev} (f0 : f ⟨0, 0⟩ = ⟨0, 0⟩) {g : Gram} (hg : checkE g = 0) (hl : ∀ x ∈ g.Levels, mayBind (f x).N (f x).Kind = true) (hp : ∀ p ∈ g.Prods, mayBind (f p.L).N (f p.L).Kind = true) : Sim g (levG f g) id id :=
  Like.sim { t := rfl, n := rfl, p := by unfold levG; simp, s := fun k hk => ⟨hk, rfl⟩, ts := fun k hk => ⟨hk, rfl⟩, s0 := rfl
             l := fun k hk => by rw [levG_prd f0]; exact ⟨rfl, rfl⟩, ll := by unfold levG; simp
             lb := fun x hx => by
               unfold levG at hx
               obtain ⟨y, hy, rfl⟩ := List.mem_map.1 hx
               exact hl y hy
             pb := fun k hk => by
               rw [levG_prd f0, prd_at hk]
               exact hp _ (List.getElem_mem hk) } hg

section lev
variable {f : Lev → Lev} {g : Gram}
theorem lev_told (H : Sim g (levG f g) id id) (h0 : lrE g = 0) (s t : Nat) : told (levG f g) s t = told g s t := by
  have hr : redsN (levG f g) s t (levG f g).Prods.length = redsN g s t g.Prods.length := by
    unfold redsN
    rw [H.p]
    refine List.filter_congr (fun k hk => ?_)
    exact H.lbb h0 s t (List.mem_range.1 hk)
  unfold told toldN shL
  rw [hr, H.shn]
end lev

def dblL (l : Lev) : Lev := ⟨2 * l.N, l.Kind⟩
def nilL (_ : Lev) : Lev := ⟨0, 0⟩
abbrev moreG (g : Gram) : Gram := levG dblL g
abbrev noneG (g : Gram) : Gram := levG nilL g

theorem bind_dbl (a b : Lev) (ha : 0 ≤ a.N) (hb : 0 ≤ b.N) (x y : Acn) : bindB (dblL a) (dblL b) x y = bindB a b x y := by
  unfold bindB dblL
  simp only
  have e1 : (2 * a.N = 0 ∨ 2 * b.N = 0) = (a.N = 0 ∨ b.N = 0) := propext (by omega)
  have e2 : (2 * a.N > 2 * b.N) = (a.N > b.N) := propext (by omega)
  have e3 : (2 * a.N < 2 * b.N) = (a.N < b.N) := propext (by omega)
  simp only [e1, e2, e3]

theorem bind_nil (a b : Lev) (x y : Acn) : bindB (nilL a) b x y = (ac0, false) := by
  unfold bindB nilL
  rw [if_pos (.inl rfl)]

theorem more_dec (g : Gram) (hl : ∀ t, 0 ≤ (lvl g t).N) (hp : ∀ k, 0 ≤ (prd g k).L.N) (l : List Acn) (t : Nat) : decA (moreG g) l t = decA g l t := by
  match l with
  | [] => rfl
  | [_] => rfl
  | [x, y] =>
    show (if _ then bindB (lvl (moreG g) t) (prd (moreG g) y.n).L x y else _) = if _ then bindB (lvl g t) (prd g y.n).L x y else _
    rw [levG_lvl rfl, levG_prd rfl, bind_dbl _ _ (hl t) (hp _)]
  | _ :: _ :: _ :: _ => rfl
theorem none_dec (g : Gram) (l : List Acn) (t : Nat) : decA (noneG g) l t = (ac0, false) := by
  match l with
  | [] => rfl
  | [_] => rfl
  | [x, y] =>
    show (if _ then bindB (lvl (noneG g) t) (prd (noneG g) y.n).L x y else _) = _
    rw [levG_lvl rfl, bind_nil]
    split <;> rfl
  | _ :: _ :: _ :: _ => rfl

theorem more_same {g : Gram} (H : Sim g (moreG g) id id) (hl : ∀ t, 0 ≤ (lvl g t).N) (hp : ∀ k, 0 ≤ (prd g k).L.N) :
    actE (moreG g) = actE g ∧ (lrE g = 0 → actA (moreG g) = actA g ∧ gotA (moreG g) = gotA g ∧ claA (moreG g) = claA g ∧ decN (moreG g) = decN g) := by
  have hk : (lrKs (moreG g)).length = (lrKs g).length := by rw [H.ks_, List.length_map]
  have h1 : lrE g = 0 → actA (moreG g) = actA g ∧ gotA (moreG g) = gotA g ∧ claA (moreG g) = claA g ∧ decN (moreG g) = decN g := fun h0 => by
    have hto := lev_told H h0
    have hd := more_dec g hl hp
    refine ⟨?_, ?_, ?_, ?_⟩
    · unfold actA actRow actC actL
      rw [hk]
      simp only [hto, hd]
      rfl
    · unfold gotA; rw [H.gs_]; rfl
    · unfold claA claTo claB claL
      rw [hk]
      simp only [hto, hd]
      rfl
    · unfold decN decTo decB decL
      rw [hk]
      simp only [hto, hd]
      rfl
  refine ⟨?_, h1⟩
  unfold actE
  rw [H.ere]
  split
  · rfl
  · rename_i h0
    rw [(h1 (Classical.not_not.1 h0)).2.2.1]

theorem none_cla {g : Gram} (H : Sim g (noneG g) id id) (h0 : lrE g = 0) (s t : Nat) : claB (noneG g) s t = (claB g s t || decB g s t) ∧ decB (noneG g) s t = false := by
  unfold claB decB claL decL
  rw [lev_told H h0, none_dec]
  simp only [Bool.not_false, Bool.and_true, Bool.and_false, and_true]
  cases decide (2 ≤ (told g s t).length) <;> cases (decA g (told g s t) t).2 <;> rfl

theorem none_same {g : Gram} (H : Sim g (noneG g) id id) (h0 : lrE g = 0) :
    (lrKs (noneG g)).length = (lrKs g).length ∧ decN (noneG g) = 0 ∧ (claA g).length ≤ (claA (noneG g)).length ∧ (claA g = [] → (claA (noneG g)).length = decN g ∧ (decN g = 0 → actA (noneG g) = actA g ∧ gotA (noneG g) = gotA g)) := by
  have hk : (lrKs (noneG g)).length = (lrKs g).length := by rw [H.ks_, List.length_map]
  have hc := none_cla H h0
  refine ⟨hk, ?_, ?_, fun he => ⟨?_, fun hd0 => ⟨?_, ?_⟩⟩⟩
  · unfold decN decTo
    refine List.countP_eq_zero.2 (fun c _ => ?_)
    rw [(hc c.1 c.2).2]; simp
  · unfold claA claTo
    rw [hk, H.t, ← List.countP_eq_length_filter, ← List.countP_eq_length_filter]
    refine List.countP_mono_left (fun c _ h => ?_)
    rw [(hc c.1 c.2).1, h]; rfl
  · unfold claA claTo decN decTo
    rw [hk, H.t, ← List.countP_eq_length_filter]
    refine List.countP_congr (fun c hcm => ?_)
    obtain ⟨h1, h2⟩ := mem_cells.1 (show (c.1, c.2) ∈ _ from hcm)
    rw [(hc c.1 c.2).1, cla_all he h1 h2, Bool.false_or]
  · unfold actA
    rw [hk]
    refine List.map_congr_left (fun s hs => ?_)
    unfold actRow
    rw [H.t]
    refine List.map_congr_left (fun t ht => ?_)
    rw [List.mem_range] at hs ht
    have h1 := cla_all he hs ht
    have h2 : decB g s t = false := by
      unfold decN decTo at hd0
      have := List.countP_eq_zero.1 hd0 (s, t) (mem_cells.2 ⟨hs, ht⟩)
      simpa using this
    have hlt : ¬ 2 ≤ (told g s t).length := by
      intro h3
      unfold claB claL at h1
      unfold decB decL at h2
      rw [decide_eq_true h3, Bool.true_and] at h1 h2
      rw [h2] at h1; cases h1
    unfold actC actL
    rw [lev_told H h0, if_neg (c := 2 ≤ _ ∧ _) (fun e => hlt e.1), if_neg (c := 2 ≤ _ ∧ _) (fun e => hlt e.1)]
  · unfold gotA; rw [H.gs_]; rfl

end Go.Proofs.YtcnpjhaedjncdaaDoor

namespace Go.Proofs.YtcnpjhaedjncdaaDoor
set_option linter.all false
open Go.Proofs.YtcnpjhaedjncdaaDoor.E

/-- A byte of a string. -/
theorem n_idxS {E0 : Go.Proofs.YtcnpjhaedjncdaaDoor.E.Env} {fr : Frm} {U : List Asn} {t : TypeId} {x ix : Operand} {s1 b1 : Nat} {z1 : List Value} {s : ByteArray} {k : IntKind} {q : Int} (ht : tl E0.T t = some ⟨.str, s1, b1, z1⟩) (hx : val fr x = some (.string s)) (hi : val fr ix = some (.int k q))
    (j : Nat) (hj : q = (j : Int)) (hlt : j < s.size) : NEV E0 (.index t x ix) fr U (.int .u8 (s[j]'hlt).toNat) := by
  subst hj
  intro a w dst ty pos af g hf _
  have h := run_index_string (P := E0.P) w t s k (j : Int) (u_str ht)
  rw [dif_pos (by omega)] at h
  have e : s[(j : Int).toNat]'(by omega) = s[j]'hlt := by simp only [Int.toNat_natCast]
  rw [e] at h
  simp [execOp, hf.eval hx, hf.eval hi, h, Result.andThen]

def alpha : ByteArray := ⟨#[95, 97, 98, 99, 100, 101, 102, 103, 104, 105, 106, 107]⟩
theorem alpha_lt (t : Nat) : t % 12 < alpha.size := Nat.mod_lt _ (by decide)
def letC (t : Nat) : Int := ((alpha[t % 12]'(alpha_lt t)).toNat : Nat)
theorem strOf_size (ns : List Int) : (strOf ns).size = ns.length := by
  have : ∀ (ns : List Int) (r : ByteArray), (ns.foldl (fun r n => r.push (UInt8.ofNat n.toNat)) r).size = r.size + ns.length := by
    intro ns
    induction ns with
    | nil => intro r; rfl
    | cons n ns ih => intro r; rw [List.foldl_cons, ih, ByteArray.size_push, List.length_cons]; omega
  unfold strOf; rw [this]; simp
def letS (l : List Bool) : Nat → ByteArray
  | 0 => ⟨#[]⟩
  | n + 1 => if l.getD n false then letS l n ++ strOf [letC n] else letS l n
theorem letS_size (l : List Bool) : ∀ n, (letS l n).size ≤ n
  | 0 => Nat.le_refl _
  | n + 1 => by
    have ih := letS_size l n
    unfold letS
    split
    · rw [ByteArray.size_append, strOf_size]; simp only [List.length_singleton]; omega
    · omega

attribute [local irreducible] EVX EVO EVL EV1 NEV
attribute [local irreducible] own osl exA rdA rdL
attribute [local irreducible] bldA mapA bun mapS
set_option maxRecDepth 10000
set_option maxHeartbeats 4000000

end Go.Proofs.YtcnpjhaedjncdaaDoor

namespace Go.Proofs.YtcnpjhaedjncdaaDoor
set_option linter.all false
open Go.Proofs.YtcnpjhaedjncdaaDoor.E

def emS : ByteArray := ⟨#[]⟩
abbrev zL : Lev := ⟨0, 0⟩
def gW : Gram := ⟨List.replicate 3 emS, List.replicate 3 zL, [], List.replicate 3 emS, [⟨0, [4], zL⟩, ⟨1, [5, 1], zL⟩, ⟨1, [2, 5, 2], zL⟩, ⟨2, [], zL⟩]⟩
def gK : Gram := ⟨List.replicate 4 emS, List.replicate 4 zL, [], List.replicate 4 emS, [⟨0, [5], zL⟩, ⟨1, [6, 1, 7], zL⟩, ⟨1, [7], zL⟩, ⟨2, [2, 7], zL⟩, ⟨2, [3], zL⟩, ⟨3, [6], zL⟩]⟩
def gN : Gram := ⟨List.replicate 3 emS, List.replicate 3 zL, [], List.replicate 4 emS, [⟨0, [4], zL⟩, ⟨1, [5, 6], zL⟩, ⟨2, [1], zL⟩, ⟨2, [], zL⟩, ⟨3, [2], zL⟩, ⟨3, [], zL⟩]⟩

theorem w_check : checkE gW = 0 := by decide +kernel
theorem k_check : checkE gK = 0 := by decide +kernel
theorem n_check : checkE gN = 0 := by decide +kernel
theorem w_lrE : lrE gW = 0 := by decide +kernel
theorem k_lrE : lrE gK = 0 := by decide +kernel
theorem n_lrE : lrE gN = 0 := by decide +kernel
theorem w_len : (lrKs gW).length = 7 := by decide +kernel
theorem k_len : (lrKs gK).length = 10 := by decide +kernel
theorem n_len : (lrKs gN).length = 6 := by decide +kernel
theorem w_gs : lrGs gW = [[-1, -1, 1, -1, 2, 3], [-1, -1, -1, -1, -1, 4], [-1, -1, -1, -1, -1, -1], [-1, 5, -1, -1, -1, -1], [-1, -1, 6, -1, -1, -1], [-1, -1, -1, -1, -1, -1], [-1, -1, -1, -1, -1, -1]] := by decide +kernel
theorem k_gs : lrGs gK = [[-1, -1, 1, 2, -1, 3, 4, 5], [-1, -1, 1, 2, -1, -1, 6, 7], [-1, -1, -1, -1, -1, -1, -1, -1], [-1, -1, -1, -1, -1, -1, -1, -1], [-1, 8, -1, -1, -1, -1, -1, -1], [-1, -1, -1, -1, -1, -1, -1, -1], [-1, -1, -1, -1, -1, -1, -1, -1], [-1, -1, -1, -1, -1, -1, -1, -1], [-1, -1, 1, 2, -1, -1, 6, 9], [-1, -1, -1, -1, -1, -1, -1, -1]] := by decide +kernel
theorem n_gs : lrGs gN = [[-1, 1, -1, -1, 2, 3, -1], [-1, -1, -1, -1, -1, -1, -1], [-1, -1, -1, -1, -1, -1, -1], [-1, -1, 4, -1, -1, -1, 5], [-1, -1, -1, -1, -1, -1, -1], [-1, -1, -1, -1, -1, -1, -1]] := by decide +kernel
theorem td_nil {st : Stt} (h : st.td.isEmpty = true) : st.td = [] := List.isEmpty_iff.1 h
theorem w_fin : laFin gW = laN gW 11 := laFin_eq (td_nil (by unfold laN; rw [w_gs]; decide +kernel))
theorem k_fin : laFin gK = laN gK 31 := laFin_eq (td_nil (by unfold laN; rw [k_gs]; decide +kernel))
theorem n_fin : laFin gN = laN gN 11 := laFin_eq (td_nil (by unfold laN; rw [n_gs]; decide +kernel))
theorem w_03 : laRow gW 0 3 = [false, true, false] := by unfold laRow; rw [w_fin]; unfold laN; rw [w_gs]; decide +kernel
theorem w_13 : laRow gW 1 3 = [false, false, true] := by unfold laRow; rw [w_fin]; unfold laN; rw [w_gs]; decide +kernel
theorem w_20 : laRow gW 2 0 = [true, false, false] := by unfold laRow; rw [w_fin]; unfold laN; rw [w_gs]; decide +kernel
theorem w_00 : laRow gW 0 0 = [] := by unfold laRow; rw [w_fin]; unfold laN; rw [w_gs]; decide +kernel
theorem k_45 : laRow gK 4 5 = [true, false, false, false] := by unfold laRow; rw [k_fin]; unfold laN; rw [k_gs]; decide +kernel
theorem k_24 : laRow gK 2 4 = [true, true, false, false] := by unfold laRow; rw [k_fin]; unfold laN; rw [k_gs]; decide +kernel
theorem n_03 : laRow gN 0 3 = [true, false, true] := by unfold laRow; rw [n_fin]; unfold laN; rw [n_gs]; decide +kernel
theorem n_05 : laRow gN 0 5 = [] := by unfold laRow; rw [n_fin]; unfold laN; rw [n_gs]; decide +kernel

theorem laX_len {g : Gram} (h : lrE g = 0) : (laX g).length = (lrKs g).length := by rw [laX_ok h, XR_len]
theorem laX_row {g : Gram} (h : lrE g = 0) {i : Nat} (hi : i < (laX g).length) : (laX g)[i] = YR g i g.Prods.length := by
  have e := laX_ok h
  have : ∀ (X : List (List Bits)) (hi : i < X.length), X = XR g (lrKs g).length → X[i] = YR g i g.Prods.length := fun X hi e => by subst e; exact XR_get hi
  exact this _ hi e
theorem YR_get {g : Gram} {s k j : Nat} (h : j < (YR g s k).length) : (YR g s k)[j] = laRow g s j := by
  have h2 : j < ((List.range k).map fun j => laRow g s j).length := h
  show ((List.range k).map fun j => laRow g s j)[j] = _
  rw [List.getElem_map, List.getElem_range]

theorem laX_at {g : Gram} (h : lrE g = 0) {i j : Nat} (hi : i < (laX g).length) (hj : j < (laX g)[i].length) : (laX g)[i][j] = laRow g i j := by
  have e := laX_row h hi
  have : ∀ (R : List Bits) (hj : j < R.length), R = YR g i g.Prods.length → R[j] = laRow g i j := fun R hj e => by subst e; exact YR_get hj
  exact this _ hj e

end Go.Proofs.YtcnpjhaedjncdaaDoor

namespace Go.Proofs.YtcnpjhaedjncdaaDoor
set_option linter.all false
open Go.Proofs.YtcnpjhaedjncdaaDoor.E

def encZ (x : Lev) : List Value := [.int .i64 x.N, .int .i64 x.Kind]

/-- The cells of productions whose right sides lie apart. -/
def prRow (ac : Option Addr × Nat) (p : Prd) : List Value := [.int .i64 p.Left, .slice ac.1 p.Right.length ac.2, .int .i64 p.L.N, .int .i64 p.L.Kind]
def prC (acs : List (Option Addr × Nat)) (ps : List Prd) : List Value := (List.zipWith prRow acs ps).flatten

theorem prC_snoc {acs : List (Option Addr × Nat)} {ps : List Prd} (hl : acs.length = ps.length) {ac : Option Addr × Nat} {p : Prd} : prC acs ps ++ prRow ac p = prC (acs ++ [ac]) (ps ++ [p]) := by
  unfold prC
  rw [List.zipWith_append hl]
  simp

abbrev prB (acs : List (Option Addr × Nat)) (ps : List Prd) : Asn := bun (rowX (fun l : List Int => l.map (Value.int .i64)) 1 3 acs (ps.map (·.Right)))
abbrev levZ (b : Nat) (l : List Lev) : Asn := osl 59 2 (sl b l.length) l.length (l.flatMap encZ)
abbrev prS (A : Option Addr) (c : Nat) (acs : List (Option Addr × Nat)) (ps : List Prd) : Asn := osl 61 4 (.slice A ps.length c) ps.length (prC acs ps)

/-- Numbers and lengths that fit. -/
structure PrOk (ps : List Prd) : Prop where
  n : ps.length ≤ 1000
  r : ∀ p ∈ ps, p.Right.length ≤ 1000 ∧ (∀ x ∈ p.Right, I64 x) ∧ I64 p.Left ∧ I64 p.L.N ∧ I64 p.L.Kind

theorem gram_rdP {g : Gram} {b0 b1 b2 : Nat} {A : Option Addr} {c : Nat} {acs : List (Option Addr × Nat)} {ps : List Prd} (hl : acs.length = ps.length) (m : Nat) (hm : m ≤ ps.length) (hg : g.Prods = ps.take m) (hP : g.Pats = [])
    (nT : g.Terms.length ≤ 1000) (nL : g.Levels.length ≤ 1000) (nN : g.Nons.length ≤ 1000) (hO : PrOk ps) (hlv : ∀ x ∈ g.Levels, x = ⟨0, 0⟩) {w : World} {S : BSet}
    (h : star [strs b0 g.Terms, levZ b1 g.Levels, strs b2 g.Nons, prS A c acs ps, prB acs ps] w S) :
    kGram.R w S [sl b0 g.Terms.length, sl b1 g.Levels.length, .slice none 0 0, sl b2 g.Nons.length, .slice A m c] g := by
  obtain ⟨_, h0, i0⟩ := star_mem (i := 0) rfl h
  obtain ⟨_, h1, i1⟩ := star_mem (i := 1) rfl h
  obtain ⟨_, h2, i2⟩ := star_mem (i := 2) rfl h
  obtain ⟨_, h3, i3⟩ := star_mem (i := 3) rfl h
  obtain ⟨_, h4, i4⟩ := star_mem (i := 4) rfl h
  have hml : g.Prods.length = m := by rw [hg, List.length_take]; omega
  have hpn := hO.n
  have z : I64 0 := by unfold I64; omega
  have hrow : Els kPrd w S A ps ∧ ps.length ≤ c := by
    refine osl_elsG (kd := kPrd) (ess := List.zipWith prRow acs ps) h3 i3 (by simp [hl]) rfl (fun i g1 g2 => ?_)
    rw [List.getElem_zipWith]
    have hi : i < (ps.map (·.Right)).length := by rw [List.length_map]; exact g2
    have hl2 : acs.length = (ps.map (·.Right)).length := by rw [List.length_map]; exact hl
    obtain ⟨S3, h5, i5⟩ := star_mem (rowX_get (f := fun l : List Int => l.map (Value.int .i64)) (sz := 1) (ei := 3) hl2 hi) h4
    obtain ⟨r1, r2, r3, r4, r5⟩ := hO.r _ (List.getElem_mem g2)
    have hri : (ps.map (·.Right))[i] = ps[i].Right := List.getElem_map _
    rw [hri] at h5
    obtain ⟨A', c', e, k1, k2, k3⟩ := can_to (R := (kslice 8 kint).rd _ _) Tryd.prog (fun E => can_ints .z r2 (by omega)) h5
    simp only [List.cons.injEq, Value.slice.injEq, and_true] at e
    refine kPrd_mk r3 r4 r5 ⟨?_, k2, els_mono (fun b hb => i4 b (i5 b hb)) ?_⟩
    · rw [e.2.2]; exact k1
    · rw [e.1]; exact k3
  have e4 : Sl 48 kPrd w S A c g.Prods := by
    refine ⟨by omega, by omega, fun i hi => ?_⟩
    have hi2 : i < ps.length := by omega
    have := hrow.1 i hi2
    have e : g.Prods[i] = ps[i] := by
      have : ∀ (l : List Prd) (hi : i < l.length), l = ps.take m → l[i] = ps[i] := fun l hi e => by subst e; rw [List.getElem_take]
      exact this _ hi hg
    rw [e]
    exact this
  have hr := kGram_mk (g := g) (A0 := some ⟨b0, 0, none⟩) (A1 := some ⟨b1, 0, none⟩) (A2 := none) (A3 := some ⟨b2, 0, none⟩) (A4 := A) (c0 := g.Terms.length) (c1 := g.Levels.length) (c2 := 0) (c3 := g.Nons.length) (c4 := c)
    ⟨sl_strs h0 i0 (by omega), ?_, by rw [hP]; exact els_nil, sl_strs h2 i2 (by omega), e4⟩
  · rw [hml, hP] at hr; exact hr
  · refine ⟨Nat.le_refl _, by omega, ?_⟩
    unfold levZ at h1
    rw [List.flatMap_def] at h1
    refine (osl_elsG (kd := kLev) (ess := g.Levels.map encZ) h1 i1 (by simp) rfl (fun i g1 g2 => ?_)).1
    rw [List.getElem_map, hlv _ (List.getElem_mem g2)]
    exact ⟨[.int .i64 0], [.int .i64 0], rfl, ⟨rfl, z⟩, ⟨rfl, z⟩⟩

theorem can_gramP {E0 : Go.Proofs.YtcnpjhaedjncdaaDoor.E.Env} {U V : List Asn} {g : Gram} {b0 b1 b2 : Nat} {A : Option Addr} {c : Nat} {acs : List (Option Addr × Nat)} {ps : List Prd} (hl : acs.length = ps.length) (m : Nat) (hm : m ≤ ps.length) (hg : g.Prods = ps.take m) (hP : g.Pats = [])
    (nT : g.Terms.length ≤ 1000) (nL : g.Levels.length ≤ 1000) (nN : g.Nons.length ≤ 1000) (hO : PrOk ps) (hlv : ∀ x ∈ g.Levels, x = ⟨0, 0⟩)
    (he : Ent V ([strs b0 g.Terms, levZ b1 g.Levels, strs b2 g.Nons, prS A c acs ps, prB acs ps] ++ U)) : Go.Proofs.YtcnpjhaedjncdaaDoor.E.Can E0 V (kGram.rd [sl b0 g.Terms.length, sl b1 g.Levels.length, .slice none 0 0, sl b2 g.Nons.length, .slice A m c] g) :=
  Can.of fun w S hs => by
    obtain ⟨S1, S2, h1, _, _, i1, _⟩ := star_split (he w S hs)
    exact kGram.mono i1 (gram_rdP hl m hm hg hP nT nL nN hO hlv h1)

end Go.Proofs.YtcnpjhaedjncdaaDoor

namespace Go.Proofs.YtcnpjhaedjncdaaDoor
set_option linter.all false
open Go.Proofs.YtcnpjhaedjncdaaDoor.E

section rd
variable {E0 : Go.Proofs.YtcnpjhaedjncdaaDoor.E.Env} {fr : Frm} {U U' : List Asn} {α : Type} {f : List α → List Value} {sz : Nat} {ei : TypeId} {acs : AcL} {rows : List (List α)}
abbrev Addrs (acs : AcL) (rows : List (List α)) : Prop := ∀ (i : Nat) (h1 : i < acs.length) (h2 : i < rows.length), 0 < rows[i].length → ∃ b, acs[i].1 = some ⟨b, 0, none⟩
theorem bun_addrs (hl : acs.length = rows.length) {w : World} {S : BSet} (h : (bun (rowX f sz ei acs rows)).P w S) : Addrs acs rows := fun i h1 h2 hp => by
  obtain ⟨S2, h3, _⟩ := star_mem (rowX_get (f := f) (sz := sz) (ei := ei) hl h2) h
  exact osl_form h3 hp
theorem e_addrs {K : Frm → List Asn → Prop} {k : List It} {ops : Array Oper} {l : List Oper} (ht : Tak (bun (rowX f sz ei acs rows)) U U') (hl : acs.length = rows.length) (h : Addrs acs rows → EVO E0 K k ops l fr U) : EVO E0 K k ops l fr U := by
  intro a w hf hme
  obtain ⟨S1, hP, _⟩ := hme.tak ht
  exact h (bun_addrs hl hP) a w hf hme
theorem s_addrs {K : Frm → List Asn → Prop} {k : List It} {c : Code} (ht : Tak (bun (rowX f sz ei acs rows)) U U') (hl : acs.length = rows.length) (h : Addrs acs rows → EVS E0 K (.code c :: k) fr U) : EVS E0 K (.code c :: k) fr U := by
  intro a w hf hme
  obtain ⟨S1, hP, _⟩ := hme.tak ht
  exact h (bun_addrs hl hP) a w hf hme
theorem n_load_row {t : TypeId} {x : Operand} {i : TI} {b o : Nat} {v : Value} (hx : val fr x = some (.pointer (some ⟨b, o, none⟩))) (ht : tl E0.T t = some i) (hU : Tak (bun (rowX f sz ei acs rows)) U U') (hl : acs.length = rows.length) (j : Nat) (hj : j < rows.length) (hb : (acs[j]'(hl ▸ hj)).1 = some ⟨b, 0, none⟩)
    (hv : loadL i (f rows[j]) o = some v) : NEV E0 (.load t x) fr U v := by
  intro a w dst ty pos af g hf hm
  obtain ⟨S1, hP, _⟩ := hm.tak hU
  obtain ⟨S2, h2, _⟩ := star_mem (rowX_get (f := f) (sz := sz) (ei := ei) hl hj) hP
  have h3 : (osl ei sz (.slice (some ⟨b, 0, none⟩) rows[j].length (acs[j]'(hl ▸ hj)).2) rows[j].length (f rows[j])).P w S2 := by rw [← hb]; exact h2
  simp [execOp, hf.eval hx, Instr.loadAt, Instr.sureAddr, run_loadVar ht (osl_cells h3) hv]
end rd

theorem innB_get {D : List AcL} {X : List (List Bits)} (hD : D.length = X.length) {i : Nat} (hi : i < X.length) : (innB D X)[i]? = some (bun (rowX cB 1 4 (D[i]'(hD ▸ hi)) X[i])) := by
  unfold innB
  rw [List.getElem?_zipWith, List.getElem?_eq_getElem (by omega), List.getElem?_eq_getElem hi]
theorem rowVs_get {D : List AcL} {X : List (List Bits)} (hD : D.length = X.length) {i : Nat} (h : i < (rowVs D X).length) (hi : i < X.length) : (rowVs D X)[i] = rowC (D[i]'(hD ▸ hi)) X[i] := by
  have h2 : i < (List.zipWith rowC D X).length := h
  show (List.zipWith rowC D X)[i] = _
  rw [List.getElem_zipWith]
theorem can_inn {E0 : Go.Proofs.YtcnpjhaedjncdaaDoor.E.Env} {U U' : List Asn} {D : List AcL} {X : List (List Bits)} (ht : Tak (bun (innB D X)) U U') (hD : D.length = X.length) (i : Nat) (hi : i < X.length) (hl : (D[i]'(hD ▸ hi)).length = X[i].length) (j : Nat) (hj : j < X[i].length) (hb : X[i][j].length ≤ 1000) {n : Nat} (hn : n = X[i][j].length) :
    Go.Proofs.YtcnpjhaedjncdaaDoor.E.Can E0 U ((kslice 1 kbool).rd [.slice ((D[i]'(hD ▸ hi))[j]'(hl ▸ hj)).1 n ((D[i]'(hD ▸ hi))[j]'(hl ▸ hj)).2] X[i][j]) := Can.of fun w S hs => by
  subst hn
  obtain ⟨S1, h1, i1⟩ := ht.mem hs
  obtain ⟨S2, h2, i2⟩ := star_mem (innB_get hD hi) h1
  obtain ⟨S3, h3, i3⟩ := star_mem (rowX_get (f := cB) (sz := 1) (ei := 4) hl hj) h2
  have h4 := can_to (R := (kslice 1 kbool).rd [.slice ((D[i]'(hD ▸ hi))[j]'(hl ▸ hj)).1 X[i][j].length ((D[i]'(hD ▸ hi))[j]'(hl ▸ hj)).2] X[i][j]) Tryd.prog (fun E => Can.osl Value.bool rfl kbool_enc .z (by omega)) h3
  exact (kslice 1 kbool).mono (fun b hb => i1 b (i2 b (i3 b hb))) h4

theorem x_load {acs : AcL} {D : List AcL} {X : List (List Bits)} (hal : acs.length = X.length) (hD : D.length = X.length) (hDr : ∀ (i : Nat) (h1 : i < D.length) (h2 : i < X.length), D[i].length = X[i].length) {i : Nat} (hi : i < X.length) {P b : Nat} (hP : X[i].length = P) (hb : (acs[i]'(hal ▸ hi)).1 = some ⟨b, 0, none⟩) {e : TypeId} {bytes : Nat} {z : List Value} :
    loadL ⟨.slice e, 1, bytes, z⟩ (rowC acs (rowVs D X)) (0 + i * 1) = some (.slice (some ⟨b, 0, none⟩) P (acs[i]'(hal ▸ hi)).2) := by
  have hv : (rowVs D X).length = X.length := rowVs_len hD
  have h := rowC_load (acs := acs) (rows := rowVs D X) (by rw [hv]; exact hal) (i := i) (by rw [hv]; exact hi) (e := e) (bytes := bytes) (z := z)
  rw [h, hb, rowVs_get hD (by rw [hv]; exact hi) hi, rowC_len0 (hDr i (hD ▸ hi) hi), hP]
theorem x_addr {acs : AcL} {D : List AcL} {X : List (List Bits)} (hal : acs.length = X.length) (hD : D.length = X.length) (hDr : ∀ (i : Nat) (h1 : i < D.length) (h2 : i < X.length), D[i].length = X[i].length) (hA : Addrs acs (rowVs D X)) {i : Nat} (hi : i < X.length) (hP : 0 < X[i].length) : ∃ b, (acs[i]'(hal ▸ hi)).1 = some ⟨b, 0, none⟩ := by
  have hv : (rowVs D X).length = X.length := rowVs_len hD
  refine hA i (hal ▸ hi) (by rw [hv]; exact hi) ?_
  rw [rowVs_get hD (by rw [hv]; exact hi) hi, rowC_len0 (hDr i (hD ▸ hi) hi)]; exact hP
/-- A slice of terms, out of the answer. -/
theorem n_xcell {E0 : Go.Proofs.YtcnpjhaedjncdaaDoor.E.Env} {fr : Frm} {U U' : List Asn} {acs : AcL} {D : List AcL} {X : List (List Bits)} {t e : TypeId} {x : Operand} {bytes : Nat} {z : List Value} {b o : Nat} (hx : val fr x = some (.pointer (some ⟨b, o, none⟩))) (ht : tl E0.T t = some ⟨.slice e, 1, bytes, z⟩) (hU : Tak (rowO acs D X) U U') (hal : acs.length = X.length) (hD : D.length = X.length)
    (hDr : ∀ (i : Nat) (h1 : i < D.length) (h2 : i < X.length), D[i].length = X[i].length) {i : Nat} (hi : i < X.length) (hb : (acs[i]'(hal ▸ hi)).1 = some ⟨b, 0, none⟩) {j : Nat} (hj : j < X[i].length) (ho : o = 0 + j * 1) {n : Nat} (hn : X[i][j].length = n) :
    NEV E0 (.load t x) fr U (.slice ((D[i]'(hD ▸ hi))[j]'((hDr i (hD ▸ hi) hi) ▸ hj)).1 n ((D[i]'(hD ▸ hi))[j]'((hDr i (hD ▸ hi) hi) ▸ hj)).2) := by
  have hv : (rowVs D X).length = X.length := rowVs_len hD
  refine n_load_row hx ht hU (by rw [hv]; exact hal) i (by rw [hv]; exact hi) hb ?_
  rw [rowVs_get hD (by rw [hv]; exact hi) hi, ho, rowC_load (hDr i (hD ▸ hi) hi) hj, hn]

def gwA (b3 b5 b7 : Nat) : List (Option Addr × Nat) := [(some ⟨b3, 0, none⟩, 1), (some ⟨b5, 0, none⟩, 2), (some ⟨b7, 0, none⟩, 3), (none, 0)]
def gwM : List Mk := [
  ⟨8, [0], fun l => sl (l.getD 0 0) 3, fun l => [strs (l.getD 0 0) gW.Terms]⟩,
  ⟨9, [1], fun l => sl (l.getD 0 0) 3, fun l => [levZ (l.getD 0 0) gW.Levels]⟩,
  ⟨10, [2], fun l => sl (l.getD 0 0) 3, fun l => [strs (l.getD 0 0) gW.Nons]⟩,
  ⟨11, [3], fun l => sl (l.getD 0 0) 1, fun l => [ints (l.getD 0 0) [4]]⟩,
  ⟨12, [3], fun l => pv 0 (sl (l.getD 0 0) 1), fun _ => []⟩,
  ⟨13, [5], fun l => sl (l.getD 0 0) 2, fun l => [ints (l.getD 0 0) [5, 1]]⟩,
  ⟨14, [5], fun l => pv 1 (sl (l.getD 0 0) 2), fun _ => []⟩,
  ⟨15, [7], fun l => sl (l.getD 0 0) 3, fun l => [ints (l.getD 0 0) [2, 5, 2]]⟩,
  ⟨16, [7], fun l => pv 1 (sl (l.getD 0 0) 3), fun _ => []⟩,
  ⟨17, [], fun l => pv 2 (.slice none 0 0), fun _ => []⟩,
  ⟨18, [10, 3, 5, 7], fun l => sl (l.getD 0 0) 4, fun l => [prS (some ⟨l.getD 0 0, 0, none⟩) 4 (gwA (l.getD 1 0) (l.getD 2 0) (l.getD 3 0)) gW.Prods]⟩,
  ⟨19, [0, 1, 2, 10], fun l => .agg #[sl (l.getD 0 0) 3, sl (l.getD 1 0) 3, .slice none 0 0, sl (l.getD 2 0) 3, sl (l.getD 3 0) 4], fun _ => []⟩,
  ⟨1, [12], fun l => .pointer (some ⟨l.getD 0 0, 0, none⟩), fun l => [blk (l.getD 0 0) 27 [.slice none 0 0, .slice none 0 0, .slice none 0 0, .slice none 0 0, .slice none 0 0]]⟩]

theorem prOk_of {ps : List Prd} (hn : ps.length ≤ 1000) (h : (ps.all fun p => decide (p.Right.length ≤ 1000) && (p.Right.all fun x => decide (-9223372036854775808 ≤ x) && decide (x ≤ 9223372036854775807)) && decide (-9223372036854775808 ≤ p.Left) && decide (p.Left ≤ 9223372036854775807) && decide (p.L.N = 0) && decide (p.L.Kind = 0)) = true) : PrOk ps := ⟨hn, by
  intro p hp
  have h := List.all_eq_true.1 h p hp
  simp only [Bool.and_eq_true, decide_eq_true_eq, List.all_eq_true] at h
  obtain ⟨⟨⟨⟨⟨h1, h2⟩, h3⟩, h4⟩, h5⟩, h6⟩ := h
  exact ⟨h1, fun x hx => h2 x hx, ⟨h3, h4⟩, by rw [h5]; exact ⟨by decide, by decide⟩, by rw [h6]; exact ⟨by decide, by decide⟩⟩⟩
theorem gw_ok : PrOk gW.Prods := prOk_of (by decide) (by decide +kernel)

attribute [local irreducible] EVX EVO EVL EV1 NEV
attribute [local irreducible] own osl exA rdA rdL
attribute [local irreducible] bldA mapA bun mapS
set_option maxRecDepth 10000
set_option maxHeartbeats 4000000

end Go.Proofs.YtcnpjhaedjncdaaDoor

namespace Go.Proofs.YtcnpjhaedjncdaaDoor
set_option linter.all false
open Go.Proofs.YtcnpjhaedjncdaaDoor.E

theorem EV1_ent {E0 : Go.Proofs.YtcnpjhaedjncdaaDoor.E.Env} {o : Oper} {fr : Frm} {U U2 : List Asn} {N : Frm → List Asn → Prop} (he : Ent U U2) (h : EV1 E0 o fr U2 (fun fr' V' => ∃ U', Ent V' U' ∧ N fr' U')) : EV1 E0 o fr U N := fun a w hf hm =>
  Oper.wp_mono2 (fun a' w' ⟨fr', V', ⟨U', h1, h2⟩, h3, h4⟩ => ⟨fr', U', h2, h3, h4.ent h1⟩) (h a w hf (hm.ent he))

theorem o_store_row {E0 : Go.Proofs.YtcnpjhaedjncdaaDoor.E.Env} {fr : Frm} {U W : List Asn} {N : Frm → List Asn → Prop} {α : Type} {f : List α → List Value} {sz : Nat} {ei : TypeId} {acs : AcL} {rows : List (List α)} {t : TypeId} {x y : Operand} {ty : TypeId} {pos : String} {af : Array Edge} {g : Option (Nat × Bool)} {i : TI} {b o : Nat} {vs : List Value} {v : Value}
    (hx : val fr x = some (.pointer (some ⟨b, o, none⟩))) (hy : val fr y = some v) (ht : tl E0.T t = some i) (hv : v.cells.toList = vs) (hl1 : Nat.beq vs.length i.size = true) (h1 : vs.all oneB = true) (hl : acs.length = rows.length) (j : Nat) (hj : j < rows.length) (hb : (acs[j]'(hl ▸ hj)).1 = some ⟨b, 0, none⟩)
    (hle : o + i.size ≤ (f rows[j]).length) (hU : Tak (bun (rowX f sz ei acs rows)) U W) (r' : List α) (hr : r'.length = rows[j].length) (hf : setMany (f rows[j]) o vs = f r') (h : N fr (bun (rowX f sz ei acs (rows.set j r')) :: W)) : EV1 E0 ⟨none, .store t x y, ty, pos, af, g⟩ fr U N := by
  have e1 : rowA f sz ei (acs[j]'(hl ▸ hj)) rows[j] = osl ei sz (.slice (some ⟨b, 0, none⟩) rows[j].length (acs[j]'(hl ▸ hj)).2) rows[j].length (f rows[j]) := by
    show osl ei sz (.slice (acs[j]'(hl ▸ hj)).1 _ _) _ _ = _
    rw [hb]
  have e2 : rowA f sz ei (acs[j]'(hl ▸ hj)) r' = osl ei sz (.slice (some ⟨b, 0, none⟩) rows[j].length (acs[j]'(hl ▸ hj)).2) rows[j].length (f r') := by
    show osl ei sz (.slice (acs[j]'(hl ▸ hj)).1 r'.length _) r'.length _ = _
    rw [hb, hr]
  have hin := ent_btake (f := f) (sz := sz) (ei := ei) (V := W) hl hj
  rw [e1] at hin
  refine EV1_ent (Ent.trans (Ent.tak hU (Ent.refl _)) hin) (o_store_osl hx hy ht hv hl1 h1 hle .z ⟨_, ?_, h⟩)
  rw [hf, ← e2]
  have := ent_bput (f := f) (sz := sz) (ei := ei) (V := W) hl hj (ac := acs[j]'(hl ▸ hj)) (r := r')
  rwa [List.set_getElem_self] at this

section rows
variable {α : Type} {acs : AcL} {F F2 : List (List α)}
/-- Slices of rows that are as long. -/
theorem rowC_same : ∀ {acs : AcL} {F F2 : List (List α)}, F.length = F2.length → (∀ (i : Nat) (h1 : i < F.length) (h2 : i < F2.length), F[i].length = F2[i].length) → rowC acs F = rowC acs F2
  | [], _, _, _, _ => rfl
  | _ :: _, [], [], _, _ => rfl
  | _ :: _, [], _ :: _, h, _ => by simp at h
  | _ :: _, _ :: _, [], h, _ => by simp at h
  | a :: acs, r :: F, r2 :: F2, h, hr => by
    have ih := rowC_same (acs := acs) (F := F) (F2 := F2) (by simpa using h) (fun i h1 h2 => hr (i + 1) (Nat.succ_lt_succ h1) (Nat.succ_lt_succ h2))
    have h0 : r.length = r2.length := hr 0 (Nat.succ_pos _) (Nat.succ_pos _)
    unfold rowC at ih ⊢
    rw [List.zipWith_cons_cons, List.zipWith_cons_cons, ih, h0]
end rows

/-! ### single terms of the answer -/
section inn
variable {E0 : Go.Proofs.YtcnpjhaedjncdaaDoor.E.Env} {fr : Frm} {U U' : List Asn} {D : List AcL} {X : List (List Bits)}
abbrev InnA (D : List AcL) (X : List (List Bits)) : Prop := ∀ (i : Nat) (h1 : i < D.length) (h2 : i < X.length) (j : Nat) (h3 : j < D[i].length) (h4 : j < X[i].length), 0 < X[i][j].length → ∃ b, D[i][j].1 = some ⟨b, 0, none⟩
theorem inn_addrs (hD : D.length = X.length) (hDr : ∀ (i : Nat) (h1 : i < D.length) (h2 : i < X.length), D[i].length = X[i].length) {w : World} {S : BSet} (h : (bun (innB D X)).P w S) : InnA D X := fun i h1 h2 j h3 h4 hp => by
  obtain ⟨S2, h5, _⟩ := star_mem (innB_get hD h2) h
  exact bun_addrs (hDr i h1 h2) h5 j h3 h4 hp
theorem s_innA {K : Frm → List Asn → Prop} {k : List It} {c : Code} (ht : Tak (bun (innB D X)) U U') (hD : D.length = X.length) (hDr : ∀ (i : Nat) (h1 : i < D.length) (h2 : i < X.length), D[i].length = X[i].length) (h : InnA D X → EVS E0 K (.code c :: k) fr U) : EVS E0 K (.code c :: k) fr U := by
  intro a w hf hme
  obtain ⟨S1, hP, _⟩ := hme.tak ht
  exact h (inn_addrs hD hDr hP) a w hf hme
theorem n_load_inn {t : TypeId} {x : Operand} {i : TI} {b o : Nat} {v : Value} (hx : val fr x = some (.pointer (some ⟨b, o, none⟩))) (ht : tl E0.T t = some i) (hU : Tak (bun (innB D X)) U U') (hD : D.length = X.length) (p : Nat) (hp : p < X.length) (hl : (D[p]'(hD ▸ hp)).length = X[p].length) (q : Nat) (hq : q < X[p].length) (hb : ((D[p]'(hD ▸ hp))[q]'(hl ▸ hq)).1 = some ⟨b, 0, none⟩)
    (hv : loadL i (cB X[p][q]) o = some v) : NEV E0 (.load t x) fr U v := by
  intro a w dst ty pos af g hf hm
  obtain ⟨S1, hP, _⟩ := hm.tak hU
  obtain ⟨S2, h2, _⟩ := star_mem (innB_get hD hp) hP
  obtain ⟨S3, h3, _⟩ := star_mem (rowX_get (f := cB) (sz := 1) (ei := 4) hl hq) h2
  have h4 : (osl 4 1 (.slice (some ⟨b, 0, none⟩) X[p][q].length ((D[p]'(hD ▸ hp))[q]'(hl ▸ hq)).2) X[p][q].length (cB X[p][q])).P w S3 := by rw [← hb]; exact h3
  simp [execOp, hf.eval hx, Instr.loadAt, Instr.sureAddr, run_loadVar ht (osl_cells h4) hv]
end inn

theorem loadB {r : List Bool} {j o : Nat} (hj : j < r.length) (ho : o = j) {bytes : Nat} {z : List Value} : loadL ⟨.bool, 1, bytes, z⟩ (cB r) o = some (.bool (r.getD j false)) := by
  subst ho
  refine load_cell rfl ?_
  rw [List.getElem?_map, List.getElem?_eq_getElem hj, List.getD_eq_getElem?_getD, List.getElem?_eq_getElem hj]; rfl

end Go.Proofs.YtcnpjhaedjncdaaDoor

namespace Go.Proofs.YtcnpjhaedjncdaaDoor
set_option linter.all false
open Go.Proofs.YtcnpjhaedjncdaaDoor.E

abbrev encA (a : Acn) : List Value := [.int .i64 a.k, .int .i64 a.n]
abbrev encAs (L : List Acn) : List Value := L.flatMap encA
def addA (L : List Acn) (is : Bool) (a : Acn) : List Acn := if is then L ++ [a] else L

attribute [local irreducible] EVX EVO EVL EV1 NEV
attribute [local irreducible] own osl exA rdA rdL
attribute [local irreducible] bldA mapA bun mapS
set_option maxRecDepth 10000
set_option maxHeartbeats 4000000

theorem told1_w (bo : Nat) (A : Option Addr) (c : Nat) (L : List Acn) (hL : L.length ≤ 1000) (is : Bool) (a : Acn) :
    Trip Tryd.prog 46 [.bool is, .int .i64 a.k, .int .i64 a.n, ptrN bo] Rd.tt [blk bo 47 [.slice A L.length c], osl 51 2 (.slice A L.length c) L.length (encAs L)]
      (fun v V => ∃ A' c', v = .tuple #[] ∧ V = [blk bo 47 [.slice A' (addA L is a).length c'], osl 51 2 (.slice A' (addA L is a).length c') (addA L is a).length (encAs (addA L is a))]) := by
  refine trip Tryd.tabOk Tryd.func46 rfl rfl rfl rfl ?_
  rintro w SM -
  repeat' (first | refine e_nil ?_ | ((refine e_op ?_); (refine o_n (peval_sound rfl) rfl ?_)) | refine s_seq ?_ | refine s_region ?_)
  cases is with
  | false =>
    repeat' (first | refine s_skip ?_ | refine s_false rfl ?_)
    refine s_nil ?_
    exact ⟨_, _, res0 rfl, ⟨A, c, rfl, rfl⟩, Ent.refl _⟩
  | true =>
    have q1 : (addA L true a).length = L.length + 1 := by unfold addA; simp
    have q2 : encAs (addA L true a) = encAs L ++ encA a := by unfold addA encAs; rw [if_pos rfl, List.flatMap_append]; simp
    repeat' (first | ((refine e_op ?_); (first | refine o_n (peval_sound rfl) rfl ?_ | refine o_n (nl rfl rfl tc rfl) rfl ?_)) | refine s_region ?_ | refine s_true rfl ?_)
    refine e_op (o_lit (ps := [(0, .agg (encA a).toArray)]) (cs := encA a) rfl rfl rfl rfl rfl rfl rfl (fun bl => ?_))
    skip
    refine e_op (o_append (v := .slice A L.length c) (n := L.length) (m := 1) (xs := encAs L) (news := encA a) _ rfl rfl rfl rfl (fun w hm q u hu => ?_) rfl ?_ rfl (by omega) (by simp only; omega) (by omega) rfl (fun b c => (.s (.s .z))) (fun ba ca => ?_))
    · obtain ⟨S2, hP, _⟩ := hm.tak .z
      rw [Nat.zero_add]
      exact osl_cells hP q u hu
    · simp [encA, oneB]
    repeat' (first | refine e_nil ?_ | ((refine e_op ?_); (refine o_storeC rfl rfl rfl rfl tc uc rfl rfl rfl ?_)))
    refine s_nil ?_
    refine ⟨_, _, res0 rfl, ⟨some ⟨ba, 0, none⟩, ca, rfl, rfl⟩, ?_⟩
    rw [q1, q2]
    exact Ent.wk (Ent.refl _)

end Go.Proofs.YtcnpjhaedjncdaaDoor

namespace Go.Proofs.YtcnpjhaedjncdaaDoor
set_option linter.all false
open Go.Proofs.YtcnpjhaedjncdaaDoor.E

theorem shN_at {g : Gram} {s t : Nat} (hs : s < (lrGs g).length) (ht : t < (lrGs g)[s].length) : shN g s t = (lrGs g)[s][t] := by
  unfold shN
  rw [List.getD_eq_getElem?_getD, List.getD_eq_getElem?_getD, List.getElem?_eq_getElem hs, Option.getD_some, List.getElem?_eq_getElem ht]; rfl
theorem add_sh (g : Gram) (s t : Nat) : addA [] (decide (0 ≤ shN g s t)) ⟨1, shN g s t⟩ = toldN g s t 0 := by
  unfold addA toldN shL redsN
  by_cases h : 0 ≤ shN g s t
  · rw [decide_eq_true h, if_pos h]; rfl
  · rw [decide_eq_false h, if_neg h]; rfl

attribute [local irreducible] EVX EVO EVL EV1 NEV
attribute [local irreducible] own osl exA rdA rdL
attribute [local irreducible] bldA mapA bun mapS
set_option maxRecDepth 10000
set_option maxHeartbeats 4000000

theorem told_w (bx : Nat) (g0 g1 g2 g3 g4 vK : Value) (AG : Option Addr) (cG : Nat) (bcs : AcL) (bX : Nat) (cX : Nat) (acs : AcL) (D : List AcL) (g : Gram) (h0 : lrE g = 0) (hb : bcs.length = (lrGs g).length) (X : List (List Bits)) (hXn : X.length = (lrKs g).length) (hXP : ∀ (i : Nat) (hi : i < X.length), X[i].length = g.Prods.length) (hXv : ∀ (i k : Nat) (hi : i < X.length) (hk : k < X[i].length), X[i][k] = laRow g i k)
    (hal : acs.length = X.length) (hD : D.length = X.length) (hDr : ∀ (i : Nat) (h1 : i < D.length) (h2 : i < X.length), D[i].length = X[i].length) (s t : Nat) (hs : s < (lrKs g).length) (ht : t < g.Terms.length) :
    Trip Tryd.prog 29 [ptrN bx, .int .i64 s, .int .i64 t] Rd.tt [blk bx 79 [g0, g1, g2, g3, g4, vK, .slice AG (lrGs g).length cG, .slice (some ⟨bX, 0, none⟩) X.length cX], gotS AG (lrGs g).length cG bcs (lrGs g), gotB bcs (lrGs g), osl 53 1 (.slice (some ⟨bX, 0, none⟩) X.length cX) X.length (rowC acs (rowVs D X)), rowO acs D X, bun (innB D X)]
      (fun v V => ∃ A c, v = .slice A (told g s t).length c ∧ V = [osl 51 2 (.slice A (told g s t).length c) (told g s t).length (encAs (told g s t)), blk bx 79 [g0, g1, g2, g3, g4, vK, .slice AG (lrGs g).length cG, .slice (some ⟨bX, 0, none⟩) X.length cX], gotS AG (lrGs g).length cG bcs (lrGs g), gotB bcs (lrGs g), osl 53 1 (.slice (some ⟨bX, 0, none⟩) X.length cX) X.length (rowC acs (rowVs D X)), rowO acs D X, bun (innB D X)]) := by
  refine trip Tryd.tabOk Tryd.func29 rfl rfl rfl rfl ?_
  rintro w SM -
  have hF := goF h0
  have hL := hF.lim
  have hwf := hF.wf
  have hP0 := hwf.prods
  have hPr := hL.p
  have hTl := hL.t
  have hNl := hL.n
  have hsG : s < (lrGs g).length := by rw [hF.gk]; exact hs
  have hrow := hF.row s hsG
  have htG : t < (lrGs g)[s].length := by omega
  have hsX : s < X.length := by rw [hXn]; exact hs
  have hPs := hXP s hsX
  have hXlen : ∀ (k : Nat) (hk : k < X[s].length), X[s][k].length = g.Terms.length ∨ X[s][k] = [] := fun k hk => by
    rw [hXv s k hsX hk]
    exact laRow_len h0 s k
  refine s_open (.s .z) (by omega) ?_
  rintro bG rfl
  refine s_addrs (.s (.s .z)) hb (fun hGA => ?_)
  refine s_addrs (.s (.s (.s (.s .z)))) (by rw [rowVs_len hD]; exact hal) (fun hXA => ?_)
  refine s_innA (.s (.s (.s (.s (.s .z))))) hD hDr (fun hXI => ?_)
  obtain ⟨bgr, hbgr⟩ := hGA s (by rw [hb]; exact hsG) hsG (by omega)
  obtain ⟨bxr, hxr⟩ := x_addr hal hD hDr hXA hsX (by omega)
  have hldg := rowC_load hb hsG (e := 3) (bytes := 24) (z := [.slice none 0 0])
  rw [hbgr] at hldg
  have hvn : loadL ⟨.int .i64, 1, 8, [.int .i64 0]⟩ ((fun l : List Int => l.map (Value.int .i64)) (lrGs g)[s]) (0 + t * 1) = some (.int .i64 (shN g s t)) := by
    refine load_cell rfl ?_
    rw [Nat.zero_add, Nat.mul_one, List.getElem?_map, List.getElem?_eq_getElem htG, shN_at hsG htG]; rfl
  repeat' (first | refine e_nil ?_ | ((refine e_op ?_); (first | refine o_n (peval_sound rfl) rfl ?_ | refine o_n (nl rfl rfl tc rfl) rfl ?_ | refine o_alloc rfl rfl (fun _ => ?_))) | refine s_seq ?_ | refine s_region ?_)
  rename_i bo
  refine e_op (o_n (n_index rfl rfl rfl rfl s rfl hsG) rfl ?_)
  refine e_op (o_n (n_load_osl rfl rfl (.s (.s .z)) hldg) rfl ?_)
  repeat' (((refine e_op ?_); (refine o_n (peval_sound rfl) rfl ?_)))
  refine e_op (o_n (n_index rfl rfl rfl rfl t rfl htG) rfl ?_)
  refine e_op (o_n (n_load_row rfl rfl (.s (.s (.s .z))) hb s hsG hbgr hvn) rfl ?_)
  repeat' (first | refine e_nil ?_ | ((refine e_op ?_); (refine o_n (peval_sound rfl) rfl ?_)) | refine s_seq ?_ | refine s_region ?_)
  refine e_ent (Ent.osl0 (e := 51) (sz := 2) (Ent.refl _)) ?_
  refine e_op (o_callv (l := []) (m := [ptrN bo]) rfl (told1_w bo none 0 [] (by simp) (decide (0 ≤ shN g s t)) ⟨1, shN g s t⟩) rfl (.cons (.s .z) (.cons .z .nil)) Can.tt rfl ?_)
  rintro v V ⟨A1, c1, rfl, rfl⟩
  simp only [List.cons_append, List.nil_append]
  rw [add_sh]
  repeat' (first | refine e_nil ?_ | ((refine e_op ?_); (first | refine o_n (peval_sound rfl) rfl ?_ | refine o_n (nl rfl rfl tc rfl) rfl ?_)) | refine s_seq ?_ | refine s_region ?_)
  refine e_op (o_n (n_index rfl rfl rfl rfl s rfl hsX) rfl ?_)
  refine e_op (o_n (n_load_osl rfl rfl (.s (.s (.s (.s (.s .z))))) (x_load hal hD hDr hsX hPs hxr)) rfl ?_)
  repeat' (first | refine e_nil ?_ | ((refine e_op ?_); (refine o_n (peval_sound rfl) rfl ?_)) | refine s_block ?_)
  refine s_loopK (ι := {x : Nat × Option Addr × Nat // x.1 ≤ g.Prods.length}) [2, 7, 8, 36, 37] rfl ⟨(0, A1, c1), by simp⟩ (fun x => [(38, .int .i64 x.1.1)])
    (fun x => [blk bo 47 [.slice x.1.2.1 (toldN g s t x.1.1).length x.1.2.2], osl 51 2 (.slice x.1.2.1 (toldN g s t x.1.1).length x.1.2.2) (toldN g s t x.1.1).length (encAs (toldN g s t x.1.1)), blk bx 79 [g0, g1, g2, g3, g4, vK, .slice (some ⟨bG, 0, none⟩) (lrGs g).length cG, .slice (some ⟨bX, 0, none⟩) X.length cX], gotS (some ⟨bG, 0, none⟩) (lrGs g).length cG bcs (lrGs g), gotB bcs (lrGs g), osl 53 1 (.slice (some ⟨bX, 0, none⟩) X.length cX) X.length (rowC acs (rowVs D X)), rowO acs D X, bun (innB D X)]) (fun x => g.Prods.length - x.1.1) ?_ (Ent.refl _) ?_
  · repeat' (first | exact Sub.nil _ | refine Sub.cons rfl ?_)
  rintro ⟨⟨k, A, c⟩, hk⟩
  simp only at hk ⊢
  repeat' (first | refine e_nil ?_ | ((refine e_op ?_); (refine o_n (peval_sound rfl) rfl ?_)) | refine s_seq ?_ | refine s_region ?_)
  by_cases hkl : k < g.Prods.length
  · rw [decide_eq_true (p := (k : Int) < (g.Prods.length : Int)) (by omega)]
    have hkX : k < X[s].length := by omega
    have hle := toldN_len g s t k
    have hlb : lab g s t k = X[s][k].getD t false := by unfold lab; rw [hXv s k hsX hkX]
    repeat' (first | ((refine e_op ?_); (refine o_n (peval_sound rfl) rfl ?_)) | refine s_seq ?_ | refine s_region ?_ | refine s_block ?_ | refine s_skip ?_ | refine s_true rfl ?_)
    refine e_op (o_n (n_index rfl rfl rfl rfl k rfl hkl) rfl ?_)
    refine e_op (o_n (n_xcell rfl rfl (.s (.s (.s (.s (.s (.s .z)))))) hal hD hDr hsX hxr hkX rfl rfl) rfl ?_)
    repeat' (first | refine e_nil ?_ | ((refine e_op ?_); (refine o_n (peval_sound rfl) rfl ?_)) | refine s_seq ?_ | refine s_region ?_)
    by_cases hlX : X[s][k].length = 0
    · have hlb2 : lab g s t k = false := by rw [hlb, List.eq_nil_of_length_eq_zero hlX]; rfl
      rw [decide_eq_false (p := (X[s][k].length : Int) > 0) (by omega)]
      have he : addA (addA (toldN g s t k) false ⟨3, 0⟩) false ⟨2, (k : Int)⟩ = toldN g s t (k + 1) := by
        rw [toldN_succ, hlb2]
        rfl
      repeat' (first | refine e_nil ?_ | ((refine e_op ?_); (refine o_n (peval_sound rfl) rfl ?_)) | refine e_noU rfl rfl rfl ?_ | refine s_seq ?_ | refine s_region ?_)
      refine e_op (o_callv (l := []) (m := [ptrN bo]) rfl (told1_w bo A c (toldN g s t k) (by omega) false ⟨3, 0⟩) rfl (.cons .z (.cons .z .nil)) Can.tt rfl ?_)
      rintro v V ⟨A3, c3, rfl, rfl⟩
      simp only [List.cons_append, List.nil_append]
      repeat' (first | refine e_nil ?_ | ((refine e_op ?_); (refine o_n (peval_sound rfl) rfl ?_)) | refine e_noU rfl rfl rfl ?_ | refine s_region ?_)
      refine e_op (o_callv (l := []) (m := [ptrN bo]) rfl (told1_w bo A3 c3 (addA (toldN g s t k) false ⟨3, 0⟩) (by unfold addA; simp; omega) false ⟨2, (k : Int)⟩) rfl (.cons .z (.cons .z .nil)) Can.tt rfl ?_)
      rintro v V ⟨A4, c4, rfl, rfl⟩
      simp only [List.cons_append, List.nil_append]
      rw [he]
      repeat' (first | refine e_nil ?_ | ((refine e_op ?_); (refine o_n (peval_sound rfl) rfl ?_)) | refine s_region ?_ | refine s_end ?_)
      refine s_back ⟨⟨(k + 1, A4, c4), by simp only; omega⟩, by simp only; omega, ?_, Ent.refl _⟩
      repeat' (first | exact Sub.nil _ | refine Sub.cons rfl ?_ | refine Sub.consE rfl ?_ ?_)
      exact inc (i := k) (by omega)
    · have hlT : t < X[s][k].length := by rcases hXlen k hkX with h | h; omega; rw [h] at hlX; exact absurd rfl hlX
      obtain ⟨bxi, hbxi⟩ := hXI s (by omega) hsX k (by have := hDr s (by omega) hsX; omega) hkX (by omega)
      have hvx := loadB (r := X[s][k]) (j := t) (o := 0 + t * 1) hlT (by omega) (bytes := 1) (z := [.bool false])
      rw [← hlb] at hvx
      rw [decide_eq_true (p := (X[s][k].length : Int) > 0) (by omega), hbxi]
      repeat' (((refine e_yes rfl ?_); (refine o_n (peval_sound rfl) rfl ?_)))
      refine e_yes rfl (o_n (n_index rfl rfl rfl rfl t rfl hlT) rfl ?_)
      refine e_yes rfl (o_n (n_load_inn rfl rfl (.s (.s (.s (.s (.s (.s (.s .z))))))) hD s hsX (hDr s (by omega) hsX) k hkX hbxi hvx) rfl ?_)
      cases hlb2 : lab g s t k with
      | false =>
        have he : addA (addA (toldN g s t k) false ⟨3, 0⟩) false ⟨2, (k : Int)⟩ = toldN g s t (k + 1) := by
          rw [toldN_succ, hlb2]
          rfl
        repeat' (first | refine e_nil ?_ | ((refine e_op ?_); (refine o_n (peval_sound rfl) rfl ?_)) | refine e_noU rfl rfl rfl ?_ | refine s_seq ?_ | refine s_region ?_)
        refine e_op (o_callv (l := []) (m := [ptrN bo]) rfl (told1_w bo A c (toldN g s t k) (by omega) false ⟨3, 0⟩) rfl (.cons .z (.cons .z .nil)) Can.tt rfl ?_)
        rintro v V ⟨A3, c3, rfl, rfl⟩
        simp only [List.cons_append, List.nil_append]
        repeat' (first | refine e_nil ?_ | ((refine e_op ?_); (refine o_n (peval_sound rfl) rfl ?_)) | refine e_noU rfl rfl rfl ?_ | refine s_region ?_)
        refine e_op (o_callv (l := []) (m := [ptrN bo]) rfl (told1_w bo A3 c3 (addA (toldN g s t k) false ⟨3, 0⟩) (by unfold addA; simp; omega) false ⟨2, (k : Int)⟩) rfl (.cons .z (.cons .z .nil)) Can.tt rfl ?_)
        rintro v V ⟨A4, c4, rfl, rfl⟩
        simp only [List.cons_append, List.nil_append]
        rw [he]
        repeat' (first | refine e_nil ?_ | ((refine e_op ?_); (refine o_n (peval_sound rfl) rfl ?_)) | refine s_region ?_ | refine s_end ?_)
        refine s_back ⟨⟨(k + 1, A4, c4), by simp only; omega⟩, by simp only; omega, ?_, Ent.refl _⟩
        repeat' (first | exact Sub.nil _ | refine Sub.cons rfl ?_ | refine Sub.consE rfl ?_ ?_)
        exact inc (i := k) (by omega)
      | true =>
        by_cases hk0 : k = 0
        · have he : addA (addA (toldN g s t k) true ⟨3, 0⟩) false ⟨2, (k : Int)⟩ = toldN g s t (k + 1) := by
            rw [toldN_succ, hlb2]
            unfold addA redA; rw [if_pos rfl, if_pos rfl, if_pos hk0]; rfl
          repeat' (first | refine e_nil ?_ | ((first | refine e_op ?_ | refine e_yes rfl ?_); (refine o_n (peval_sound rfl) rfl ?_)) | refine s_seq ?_ | refine s_region ?_)
          rw [show ((k : Int) == 0) = true by rw [beq_iff_eq]; omega]
          skip
          refine e_op (o_callv (l := []) (m := [ptrN bo]) rfl (told1_w bo A c (toldN g s t k) (by omega) true ⟨3, 0⟩) rfl (.cons .z (.cons .z .nil)) Can.tt rfl ?_)
          rintro v V ⟨A3, c3, rfl, rfl⟩
          simp only [List.cons_append, List.nil_append]
          repeat' (first | refine e_nil ?_ | ((first | refine e_op ?_ | refine e_yes rfl ?_); (refine o_n (peval_sound rfl) rfl ?_)) | refine s_region ?_)
          rw [show decide ((k : Int) > 0) = false from decide_eq_false (by omega)]
          skip
          refine e_op (o_callv (l := []) (m := [ptrN bo]) rfl (told1_w bo A3 c3 (addA (toldN g s t k) true ⟨3, 0⟩) (by unfold addA; simp; omega) false ⟨2, (k : Int)⟩) rfl (.cons .z (.cons .z .nil)) Can.tt rfl ?_)
          rintro v V ⟨A4, c4, rfl, rfl⟩
          simp only [List.cons_append, List.nil_append]
          rw [he]
          repeat' (first | refine e_nil ?_ | ((refine e_op ?_); (refine o_n (peval_sound rfl) rfl ?_)) | refine s_region ?_ | refine s_end ?_)
          refine s_back ⟨⟨(k + 1, A4, c4), by simp only; omega⟩, by simp only; omega, ?_, Ent.refl _⟩
          repeat' (first | exact Sub.nil _ | refine Sub.cons rfl ?_ | refine Sub.consE rfl ?_ ?_)
          exact inc (i := k) (by omega)
        · have he : addA (addA (toldN g s t k) false ⟨3, 0⟩) true ⟨2, (k : Int)⟩ = toldN g s t (k + 1) := by
            rw [toldN_succ, hlb2]
            unfold addA redA; rw [if_pos rfl, if_pos rfl, if_neg hk0]; rfl
          repeat' (first | refine e_nil ?_ | ((first | refine e_op ?_ | refine e_yes rfl ?_); (refine o_n (peval_sound rfl) rfl ?_)) | refine s_seq ?_ | refine s_region ?_)
          rw [show ((k : Int) == 0) = false by rw [beq_eq_false_iff_ne]; omega]
          skip
          refine e_op (o_callv (l := []) (m := [ptrN bo]) rfl (told1_w bo A c (toldN g s t k) (by omega) false ⟨3, 0⟩) rfl (.cons .z (.cons .z .nil)) Can.tt rfl ?_)
          rintro v V ⟨A3, c3, rfl, rfl⟩
          simp only [List.cons_append, List.nil_append]
          repeat' (first | refine e_nil ?_ | ((first | refine e_op ?_ | refine e_yes rfl ?_); (refine o_n (peval_sound rfl) rfl ?_)) | refine s_region ?_)
          rw [show decide ((k : Int) > 0) = true from decide_eq_true (by omega)]
          skip
          refine e_op (o_callv (l := []) (m := [ptrN bo]) rfl (told1_w bo A3 c3 (addA (toldN g s t k) false ⟨3, 0⟩) (by unfold addA; simp; omega) true ⟨2, (k : Int)⟩) rfl (.cons .z (.cons .z .nil)) Can.tt rfl ?_)
          rintro v V ⟨A4, c4, rfl, rfl⟩
          simp only [List.cons_append, List.nil_append]
          rw [he]
          repeat' (first | refine e_nil ?_ | ((refine e_op ?_); (refine o_n (peval_sound rfl) rfl ?_)) | refine s_region ?_ | refine s_end ?_)
          refine s_back ⟨⟨(k + 1, A4, c4), by simp only; omega⟩, by simp only; omega, ?_, Ent.refl _⟩
          repeat' (first | exact Sub.nil _ | refine Sub.cons rfl ?_ | refine Sub.consE rfl ?_ ?_)
          exact inc (i := k) (by omega)
  rw [decide_eq_false (p := (k : Int) < (g.Prods.length : Int)) (by omega)]
  obtain rfl : k = g.Prods.length := by omega
  repeat' (first | refine e_nil ?_ | ((refine e_op ?_); (first | refine o_n (peval_sound rfl) rfl ?_ | refine o_n (nl rfl rfl tc rfl) rfl ?_)) | refine s_seq ?_ | refine s_region ?_ | refine s_exit ?_ | refine s_false rfl ?_ | refine x_hit ?_ | refine x_code ?_ | refine x_back ?_)
  refine s_ret ⟨_, _, res1 rfl rfl, ⟨A, c, rfl, rfl⟩, Ent.wk (Ent.refl _)⟩

end Go.Proofs.YtcnpjhaedjncdaaDoor

namespace Go.Proofs.YtcnpjhaedjncdaaDoor
set_option linter.all false
open Go.Proofs.YtcnpjhaedjncdaaDoor.E

theorem encAs_len (L : List Acn) : (encAs L).length = L.length * 2 := by
  unfold encAs; induction L with
  | nil => rfl
  | cons x L ih => rw [List.flatMap_cons, List.length_append, ih]; simp only [List.length_cons, List.length_nil]; omega
theorem encAs_drop : ∀ {l : List Acn} {i : Nat} (h : i < l.length), ((encAs l).drop (i * 2)).take 2 = encA l[i]
  | x :: l, 0, _ => by simp [encAs]
  | x :: l, i + 1, h => by
    have h2 : i < l.length := by simpa using h
    rw [List.getElem_cons_succ, ← encAs_drop h2, show (i + 1) * 2 = 2 + i * 2 by omega, ← List.drop_drop]
    rfl
theorem encAs_load {l : List Acn} {i : Nat} (h : i < l.length) {z : List Value} {fs : List (Nat × Nat)} : loadL ⟨.struct fs, 2, 16, z⟩ (encAs l) (0 + i * 2) = some (.agg (encA l[i]).toArray) := by
  unfold loadL
  simp only [aggB, cond_true]
  have : Nat.ble (0 + i * 2 + 2) (encAs l).length = true := by rw [encAs_len]; exact Nat.ble_eq_true_of_le (by omega)
  rw [this, cond_true, Nat.zero_add, encAs_drop h]
theorem encAs_cell {l : List Acn} {i k : Nat} (h : i < l.length) (hk : k < 2) : (encAs l)[i * 2 + k]? = (encA l[i])[k]? := by
  rw [← encAs_drop h, List.getElem?_take, if_pos hk, List.getElem?_drop]
theorem encAs_k {l : List Acn} {i o : Nat} (h : i < l.length) (ho : o = i * 2) {s b : Nat} {z : List Value} : loadL ⟨.int .i64, s, b, z⟩ (encAs l) o = some (.int .i64 l[i].k) := by
  subst ho; exact load_cell rfl (by have := encAs_cell h (k := 0) (by omega); rw [Nat.add_zero] at this; rw [this]; rfl)
theorem encAs_n {l : List Acn} {i o : Nat} (h : i < l.length) (ho : o = i * 2 + 1) {s b : Nat} {z : List Value} : loadL ⟨.int .i64, s, b, z⟩ (encAs l) o = some (.int .i64 l[i].n) := by
  subst ho; exact load_cell rfl (by rw [encAs_cell h (k := 1) (by omega)]; rfl)

theorem decA_ne {g : Gram} {L : List Acn} {t : Nat} (h : L.length ≠ 2) : decA g L t = (ac0, false) := by
  match L with
  | [] => rfl
  | [_] => rfl
  | [x, y] => exact absurd rfl h
  | _ :: _ :: _ :: _ => rfl

attribute [local irreducible] EVX EVO EVL EV1 NEV
attribute [local irreducible] own osl exA rdA rdL
attribute [local irreducible] bldA mapA bun mapS
set_option maxRecDepth 10000
set_option maxHeartbeats 4000000

theorem decide_w (bx : Nat) (A0 A1 A2 A3 A4 : Option Addr) (c0 c1 c2 c3 c4 : Nat) (v5 v6 v7 : Value) (g : Gram) (hl : g.Levels.length = g.Terms.length) (A : Option Addr) (c : Nat) (L : List Acn) (hLn : ∀ y ∈ L, y.k = 2 → ∃ k : Nat, k < g.Prods.length ∧ y.n = (k : Int)) (t : Nat) (ht : t < g.Terms.length) :
    Trip Tryd.prog 30 [ptrN bx, .slice A L.length c, .int .i64 t] (kGram.rd [.slice A0 g.Terms.length c0, .slice A1 g.Levels.length c1, .slice A2 g.Pats.length c2, .slice A3 g.Nons.length c3, .slice A4 g.Prods.length c4] g) [blk bx 79 [.slice A0 g.Terms.length c0, .slice A1 g.Levels.length c1, .slice A2 g.Pats.length c2, .slice A3 g.Nons.length c3, .slice A4 g.Prods.length c4, v5, v6, v7], osl 51 2 (.slice A L.length c) L.length (encAs L)]
      (fun v V => v = .tuple #[.agg (encA (decA g L t).1).toArray, .bool (decA g L t).2] ∧ V = [blk bx 79 [.slice A0 g.Terms.length c0, .slice A1 g.Levels.length c1, .slice A2 g.Pats.length c2, .slice A3 g.Nons.length c3, .slice A4 g.Prods.length c4, v5, v6, v7], osl 51 2 (.slice A L.length c) L.length (encAs L)]) := by
  refine trip Tryd.tabOk Tryd.func30 rfl rfl rfl rfl ?_
  rintro w SM hG0
  obtain ⟨_, _, _, _, _, _, _, _, _, _, ee, hG⟩ := kGram_open hG0
  cases ee
  by_cases h2 : L.length = 2
  · obtain ⟨x, y, rfl⟩ : ∃ x y, L = [x, y] := by
      match L, h2 with
      | [x, y], _ => exact ⟨x, y, rfl⟩
    refine s_open (.s .z) (by simp) ?_
    rintro bL rfl
    refine s_cap (.s .z) (fun hc2 => ?_)
    have hc2 : ¬ c = 1 := by simp only [List.length_cons, List.length_nil] at hc2; omega
    have hld0 : loadL ⟨.int .i64, 1, 8, [.int .i64 0]⟩ (encAs [x, y]) 0 = some (.int .i64 x.k) := encAs_k (l := [x, y]) (i := 0) (o := 0) (by simp) rfl (s := 1) (b := 8) (z := [.int .i64 0])
    have hld1 : loadL ⟨.int .i64, 1, 8, [.int .i64 0]⟩ (encAs [x, y]) 2 = some (.int .i64 y.k) := encAs_k (l := [x, y]) (i := 1) (o := 2) (by simp) rfl (s := 1) (b := 8) (z := [.int .i64 0])
    have hn1 : loadL ⟨.int .i64, 1, 8, [.int .i64 0]⟩ (encAs [x, y]) 3 = some (.int .i64 y.n) := encAs_n (l := [x, y]) (i := 1) (o := 3) (by simp) rfl (s := 1) (b := 8) (z := [.int .i64 0])
    repeat' (first | refine e_nil ?_ | ((first | refine e_op ?_ | refine e_yes rfl ?_); (first | refine o_n (peval_sound rfl) rfl ?_ | refine o_alloc rfl rfl (fun _ => ?_))) | refine s_seq ?_ | refine s_region ?_)
    rename_i b6
    rw [show ((([x, y] : List Acn).length : Int) != 2) = false from rfl]
    skip
    refine e_yes rfl (o_n (n_index rfl rfl rfl rfl 0 rfl (by simp)) rfl ?_)
    repeat' (((refine e_yes rfl ?_); (refine o_n (peval_sound rfl) rfl ?_)))
    refine e_yes rfl (o_n (n_load_osl rfl rfl (.s (.s .z)) hld0) rfl ?_)
    repeat' (((first | refine e_op ?_ | refine e_yes rfl ?_); (refine o_n (peval_sound rfl) rfl ?_)))
    by_cases hx : x.k = 1
    · rw [show (x.k != 1) = false by simpa using hx]
      repeat' (((refine e_yes rfl ?_); (refine o_n (peval_sound rfl) rfl ?_)))
      refine e_yes rfl (o_n (n_index rfl rfl rfl rfl 1 rfl (by simp)) rfl ?_)
      repeat' (((refine e_yes rfl ?_); (refine o_n (peval_sound rfl) rfl ?_)))
      refine e_yes rfl (o_n (n_load_osl rfl rfl (.s (.s .z)) hld1) rfl ?_)
      repeat' (first | refine e_nil ?_ | ((first | refine e_op ?_ | refine e_yes rfl ?_); (refine o_n (peval_sound rfl) rfl ?_)))
      by_cases hy : y.k = 2
      · rw [show (y.k != 2) = false by simpa using hy]
        obtain ⟨k, hk, hyn⟩ := hLn y (by simp) hy
        rw [hyn] at hn1
        have hdec : decA g [x, y] t = bindB (lvl g t) (prd g k).L x y := by
          show (if _ then bindB (lvl g t) (prd g y.n).L x y else _) = _
          rw [if_pos ⟨hx, hy⟩, hyn]
        have htl : t < g.Levels.length := by omega
        have hlv : lvl g t = g.Levels[t] := by unfold lvl; rw [List.getD_eq_getElem?_getD, List.getElem?_eq_getElem htl]; rfl
        rw [hdec, hlv, prd_at hk]
        obtain ⟨bl, ol, el, rfl, hbl, hel, hcl⟩ := hG.levels.2.2 t htl
        obtain ⟨rfl, hlN, hlK⟩ := kLev_open hel
        obtain ⟨bp, op, ep, rfl, hbp, hep, hcp⟩ := hG.prods.2.2 k hk
        obtain ⟨Ar, cr, rfl, hp9, hpN, hpK, hri⟩ := kPrd_open hep
        generalize g.Levels[t] = la at *
        have hcp2 : ∀ (j : Nat) (u : Value), [Value.int .i64 g.Prods[k].L.N, .int .i64 g.Prods[k].L.Kind][j]? = some u → w.cell? ⟨bp, op + k * kPrd.sz + 2 + j, none⟩ = some u := fun j u h => by
          rw [Nat.add_assoc _ 2 j, Nat.add_comm 2 j]
          exact hcp (j + 2) u h
        generalize g.Prods[k].L = lb at *
        repeat' (first | refine s_seq ?_ | refine s_skip ?_ | refine s_false rfl ?_)
        refine s_anyU Tryd.mixed ?_
        refine a_join (ι := Nat × Nat) (fun z => [(8, ptrN z.1), (9, ptrN z.2), (7, .bool false), (6, ptrN b6), (1, .slice (some ⟨bL, 0, none⟩) 2 c)]) (fun z => [blk z.1 59 [.int .i64 la.N, .int .i64 la.Kind], blk z.2 59 [.int .i64 lb.N, .int .i64 lb.Kind], blk b6 51 [.int .i64 0, .int .i64 0], blk bx 79 [.slice A0 g.Terms.length c0, .slice (some ⟨bl, ol, none⟩) g.Levels.length c1, .slice A2 g.Pats.length c2, .slice A3 g.Nons.length c3, .slice (some ⟨bp, op, none⟩) g.Prods.length c4, v5, v6, v7], osl 51 2 (.slice (some ⟨bL, 0, none⟩) 2 c) 2 (encAs [x, y])]) ?_ (fun hfin => ?_)
        · rintro ⟨b8, b9⟩
          simp only
          repeat' (first | ((refine e_op ?_); (first | refine o_n (peval_sound rfl) rfl ?_ | refine o_n (nl rfl rfl tc rfl) rfl ?_)) | refine s_seq ?_ | refine s_region ?_)
          have hA0 : ∀ z, loadL ⟨.struct [(0, 1), (1, 1)], 2, 16, z⟩ (encAs [x, y]) (0 + 0 * 2) = some (.agg (encA x).toArray) := fun z => encAs_load (l := [x, y]) (i := 0) (by simp)
          have hA1 : ∀ z, loadL ⟨.struct [(0, 1), (1, 1)], 2, 16, z⟩ (encAs [x, y]) (0 + 1 * 2) = some (.agg (encA y).toArray) := fun z => encAs_load (l := [x, y]) (i := 1) (by simp)
          by_cases h1 : la.N = 0
          · have hb : bindB la lb x y = (ac0, false) := by unfold bindB; rw [if_pos (.inl h1)]
            rw [hb, show (la.N == 0) = true by simpa using h1]
            repeat' (first | refine e_nil ?_ | ((refine e_op ?_); (first | refine o_n (peval_sound rfl) rfl ?_ | refine o_storeC rfl rfl rfl rfl tc uc rfl rfl rfl ?_)) | refine e_noU rfl rfl rfl ?_ | refine s_seq ?_ | refine s_region ?_ | refine s_true rfl ?_)
            refine s_ret ⟨_, _, resc2 rfl rfl rfl (.s (.s .z)) (ld_all (n := 2) rfl rfl rfl rfl) rfl, ⟨rfl, rfl⟩, Ent.wk (Ent.wk (Ent.wk (Ent.refl _)))⟩
          rw [show (la.N == 0) = false by simpa using h1]
          repeat' (first | refine e_nil ?_ | ((first | refine e_op ?_ | refine e_yes rfl ?_); (first | refine o_n (peval_sound rfl) rfl ?_ | refine o_n (nl rfl rfl tc rfl) rfl ?_)))
          by_cases h2 : lb.N = 0
          · have hb : bindB la lb x y = (ac0, false) := by unfold bindB; rw [if_pos (.inr h2)]
            rw [hb, show (lb.N == 0) = true by simpa using h2]
            repeat' (first | refine e_nil ?_ | ((refine e_op ?_); (first | refine o_n (peval_sound rfl) rfl ?_ | refine o_storeC rfl rfl rfl rfl tc uc rfl rfl rfl ?_)) | refine s_seq ?_ | refine s_region ?_ | refine s_true rfl ?_)
            refine s_ret ⟨_, _, resc2 rfl rfl rfl (.s (.s .z)) (ld_all (n := 2) rfl rfl rfl rfl) rfl, ⟨rfl, rfl⟩, Ent.wk (Ent.wk (Ent.wk (Ent.refl _)))⟩
          rw [show (lb.N == 0) = false by simpa using h2]
          repeat' (first | refine e_nil ?_ | ((refine e_op ?_); (first | refine o_n (peval_sound rfl) rfl ?_ | refine o_n (nl rfl rfl tc rfl) rfl ?_)) | refine s_seq ?_ | refine s_region ?_ | refine s_block ?_ | refine s_skip ?_ | refine s_false rfl ?_)
          have h12 : ¬ (la.N = 0 ∨ lb.N = 0) := fun e => e.elim h1 h2
          by_cases h3 : la.N > lb.N
          · have hb : bindB la lb x y = (x, true) := by unfold bindB; rw [if_neg h12, if_pos h3]
            rw [hb, decide_eq_true h3]
            repeat' (first | ((refine e_op ?_); (refine o_n (peval_sound rfl) rfl ?_)) | refine s_seq ?_ | refine s_region ?_ | refine s_true rfl ?_)
            refine e_op (o_n (n_index rfl rfl rfl rfl 0 rfl (by simp)) rfl ?_)
            refine e_op (o_n (n_load_osl rfl rfl (.s (.s (.s (.s .z)))) (hA0 _)) rfl ?_)
            repeat' (first | refine e_nil ?_ | ((refine e_op ?_); (first | refine o_n (peval_sound rfl) rfl ?_ | refine o_storeC rfl rfl rfl rfl tc uc rfl rfl rfl ?_)))
            refine s_ret ⟨_, _, resc2 rfl rfl rfl (.s (.s .z)) (ld_all (n := 2) rfl rfl rfl rfl) rfl, ⟨rfl, rfl⟩, Ent.wk (Ent.wk (Ent.wk (Ent.refl _)))⟩
          rw [decide_eq_false h3]
          repeat' (first | refine e_nil ?_ | ((refine e_op ?_); (first | refine o_n (peval_sound rfl) rfl ?_ | refine o_n (nl rfl rfl tc rfl) rfl ?_)) | refine s_seq ?_ | refine s_region ?_ | refine s_false rfl ?_)
          by_cases h4 : la.N < lb.N
          · have hb : bindB la lb x y = (y, true) := by unfold bindB; rw [if_neg h12, if_neg h3, if_pos h4]
            rw [hb, decide_eq_true h4]
            repeat' (first | ((refine e_op ?_); (refine o_n (peval_sound rfl) rfl ?_)) | refine s_seq ?_ | refine s_region ?_ | refine s_true rfl ?_)
            refine e_op (o_n (n_index rfl rfl rfl rfl 1 rfl (by simp)) rfl ?_)
            refine e_op (o_n (n_load_osl rfl rfl (.s (.s (.s (.s .z)))) (hA1 _)) rfl ?_)
            repeat' (first | refine e_nil ?_ | ((refine e_op ?_); (first | refine o_n (peval_sound rfl) rfl ?_ | refine o_storeC rfl rfl rfl rfl tc uc rfl rfl rfl ?_)))
            refine s_ret ⟨_, _, resc2 rfl rfl rfl (.s (.s .z)) (ld_all (n := 2) rfl rfl rfl rfl) rfl, ⟨rfl, rfl⟩, Ent.wk (Ent.wk (Ent.wk (Ent.refl _)))⟩
          rw [decide_eq_false h4]
          repeat' (first | refine e_nil ?_ | ((refine e_op ?_); (first | refine o_n (peval_sound rfl) rfl ?_ | refine o_n (nl rfl rfl tc rfl) rfl ?_)) | refine s_seq ?_ | refine s_region ?_ | refine s_block ?_ | refine s_end ?_ | refine s_skip ?_ | refine s_false rfl ?_)
          by_cases h5 : la.Kind = 1
          · have hb : bindB la lb x y = (y, true) := by unfold bindB; rw [if_neg h12, if_neg h3, if_neg h4, if_pos h5]
            rw [hb, show (la.Kind == 1) = true by simpa using h5]
            repeat' (first | ((refine e_op ?_); (refine o_n (peval_sound rfl) rfl ?_)) | refine s_region ?_ | refine s_exit ?_ | refine s_true rfl ?_ | refine x_hit ?_ | refine x_code ?_)
            refine e_op (o_n (n_tail rfl rfl rfl (by simp)) rfl ?_)
            rw [if_neg hc2]
            repeat' (first | refine e_nil ?_ | ((refine e_op ?_); (refine o_n (peval_sound rfl) rfl ?_)) | refine s_seq ?_ | refine s_region ?_ | refine s_end ?_)
            refine e_op (o_n (n_index rfl rfl rfl rfl 0 rfl (by simp)) rfl ?_)
            refine e_op (o_n (n_load_osl rfl rfl (.s (.s (.s (.s .z)))) (hA1 _)) rfl ?_)
            repeat' (first | refine e_nil ?_ | ((refine e_op ?_); (first | refine o_n (peval_sound rfl) rfl ?_ | refine o_storeC rfl rfl rfl rfl tc uc rfl rfl rfl ?_)))
            refine s_ret ⟨_, _, resc2 rfl rfl rfl (.s (.s .z)) (ld_all (n := 2) rfl rfl rfl rfl) rfl, ⟨rfl, rfl⟩, Ent.wk (Ent.wk (Ent.wk (Ent.refl _)))⟩
          rw [show (la.Kind == 1) = false by simpa using h5]
          repeat' (first | refine e_nil ?_ | ((refine e_op ?_); (refine o_n (peval_sound rfl) rfl ?_)) | refine s_seq ?_ | refine s_region ?_ | refine s_skip ?_ | refine s_false rfl ?_)
          by_cases h6 : la.Kind = 2
          · have hb : bindB la lb x y = (x, true) := by unfold bindB; rw [if_neg h12, if_neg h3, if_neg h4, if_neg h5, if_pos h6]
            rw [hb, show (la.Kind == 2) = true by simpa using h6]
            repeat' (first | ((refine e_op ?_); (refine o_n (peval_sound rfl) rfl ?_)) | refine s_seq ?_ | refine s_region ?_ | refine s_exit ?_ | refine s_true rfl ?_ | refine x_hit ?_ | refine x_code ?_ | refine x_miss rfl ?_)
            refine e_op (o_n (n_index rfl rfl rfl rfl 0 rfl (by simp)) rfl ?_)
            refine e_op (o_n (n_load_osl rfl rfl (.s (.s (.s (.s .z)))) (hA0 _)) rfl ?_)
            repeat' (first | refine e_nil ?_ | ((refine e_op ?_); (first | refine o_n (peval_sound rfl) rfl ?_ | refine o_storeC rfl rfl rfl rfl tc uc rfl rfl rfl ?_)))
            refine s_ret ⟨_, _, resc2 rfl rfl rfl (.s (.s .z)) (ld_all (n := 2) rfl rfl rfl rfl) rfl, ⟨rfl, rfl⟩, Ent.wk (Ent.wk (Ent.wk (Ent.refl _)))⟩
          have hb : bindB la lb x y = (ac0, true) := by unfold bindB; rw [if_neg h12, if_neg h3, if_neg h4, if_neg h5, if_neg h6]
          rw [hb, show (la.Kind == 2) = false by simpa using h6]
          repeat' (first | refine e_nil ?_ | ((refine e_op ?_); (first | refine o_n (peval_sound rfl) rfl ?_ | refine o_storeC rfl rfl rfl rfl tc uc rfl rfl rfl ?_)) | refine s_seq ?_ | refine s_region ?_ | refine s_skip ?_ | refine s_exit ?_ | refine s_false rfl ?_ | refine x_hit ?_ | refine x_code ?_ | refine x_miss rfl ?_)
          refine s_ret ⟨_, _, resc2 rfl rfl rfl (.s (.s .z)) (ld_all (n := 2) rfl rfl rfl rfl) rfl, ⟨rfl, rfl⟩, Ent.wk (Ent.wk (Ent.wk (Ent.refl _)))⟩
        refine a_n 0 rfl (peval_sound rfl) (by decide +kernel) (Ent.refl _) rfl ?_
        refine a_n 1 rfl (peval_sound rfl) (by decide +kernel) (Ent.refl _) rfl ?_
        refine a_n 2 rfl (peval_sound rfl) (by decide +kernel) (Ent.refl _) rfl ?_
        refine a_n 3 rfl (peval_sound rfl) (by decide +kernel) (Ent.refl _) rfl ?_
        refine a_n 4 rfl (nl rfl rfl tc rfl) (by decide +kernel) (Ent.refl _) rfl ?_
        refine a_n 5 rfl (peval_sound rfl) (by decide +kernel) (Ent.refl _) rfl ?_
        refine a_n 6 rfl (n_index rfl rfl rfl rfl t rfl htl) (by decide +kernel) (Ent.refl _) rfl ?_
        refine a_n 7 rfl (n_load_ro rfl rfl hbl (loads_agg rfl rfl hcl)) (by decide +kernel) (Ent.refl _) rfl ?_
        refine a_n 8 rfl (peval_sound rfl) (by decide +kernel) (Ent.refl _) rfl ?_
        refine a_n 9 rfl (peval_sound rfl) (by decide +kernel) (Ent.refl _) rfl ?_
        refine a_n 10 rfl (peval_sound rfl) (by decide +kernel) (Ent.refl _) rfl ?_
        refine a_n 11 rfl (peval_sound rfl) (by decide +kernel) (Ent.refl _) rfl ?_
        refine a_n 12 rfl (nl rfl rfl tc rfl) (by decide +kernel) (Ent.refl _) rfl ?_
        refine a_n 13 rfl (peval_sound rfl) (by decide +kernel) (Ent.refl _) rfl ?_
        refine a_n 14 rfl (n_index rfl rfl rfl rfl 1 rfl (by simp)) (by decide +kernel) (Ent.refl _) rfl ?_
        refine a_n 15 rfl (peval_sound rfl) (by decide +kernel) (Ent.refl _) rfl ?_
        refine a_n 16 rfl (n_load_osl rfl rfl (.s (.s .z)) hn1) (by decide +kernel) (Ent.refl _) rfl ?_
        refine a_n 17 rfl (n_index rfl rfl rfl rfl k rfl hk) (by decide +kernel) (Ent.refl _) rfl ?_
        refine a_n 18 rfl (peval_sound rfl) (by decide +kernel) (Ent.refl _) rfl ?_
        refine a_n 19 rfl (n_load_ro rfl rfl hbp (loads_agg (es := [.int .i64 lb.N, .int .i64 lb.Kind]) rfl rfl hcp2)) (by decide +kernel) (Ent.refl _) rfl ?_
        refine a_2 20 21 (by decide +kernel) rfl rfl rfl rfl (o_alloc rfl rfl (fun b8 => ⟨(by (repeat' (first | exact Ent.refl _ | refine Ent.wk ?_))), ?_⟩)) (o_alloc rfl rfl (fun b9 => ⟨(by (repeat' (first | exact Ent.refl _ | refine Ent.wk ?_))), ?_⟩))
        · refine a_1 21 (by decide +kernel) rfl rfl (o_alloc rfl rfl (fun b9 => ⟨(by (repeat' (first | exact Ent.refl _ | refine Ent.wk ?_))), ?_⟩))
          refine a_1 22 (by decide +kernel) rfl rfl (o_storeC rfl rfl rfl rfl tc uc rfl rfl rfl ⟨(by (repeat' (first | exact Ent.refl _ | refine Ent.wk ?_))), ?_⟩)
          refine a_1 23 (by decide +kernel) rfl rfl (o_storeC rfl rfl rfl rfl tc uc rfl rfl rfl ⟨(by (repeat' (first | exact Ent.refl _ | refine Ent.wk ?_))), ?_⟩)
          refine a_done (by decide +kernel) (s_weak ?_ ?_ (hfin (b8, b9)))
          · repeat' (first | exact Sub.nil _ | refine Sub.cons rfl ?_)
          · repeat' (first | exact Ent.nil _ | refine Ent.tak tk ?_ | refine Ent.tak .z ?_ | refine Ent.tak (.s .z) ?_)
        · refine a_1 20 (by decide +kernel) rfl rfl (o_alloc rfl rfl (fun b8 => ⟨(by (repeat' (first | exact Ent.refl _ | refine Ent.wk ?_))), ?_⟩))
          refine a_1 22 (by decide +kernel) rfl rfl (o_storeC rfl rfl rfl rfl tc uc rfl rfl rfl ⟨(by (repeat' (first | exact Ent.refl _ | refine Ent.wk ?_))), ?_⟩)
          refine a_1 23 (by decide +kernel) rfl rfl (o_storeC rfl rfl rfl rfl tc uc rfl rfl rfl ⟨(by (repeat' (first | exact Ent.refl _ | refine Ent.wk ?_))), ?_⟩)
          refine a_done (by decide +kernel) (s_weak ?_ ?_ (hfin (b8, b9)))
          · repeat' (first | exact Sub.nil _ | refine Sub.cons rfl ?_)
          · repeat' (first | exact Ent.nil _ | refine Ent.tak tk ?_ | refine Ent.tak .z ?_)
      · rw [show (y.k != 2) = true by simpa using hy]
        have hdec : decA g [x, y] t = (ac0, false) := by
          show (if _ then bindB (lvl g t) (prd g y.n).L x y else _) = _
          rw [if_neg (fun e => hy e.2)]
        rw [hdec]
        repeat' (first | refine e_nil ?_ | ((refine e_op ?_); (first | refine o_n (peval_sound rfl) rfl ?_ | refine o_storeC rfl rfl rfl rfl tc uc rfl rfl rfl ?_)) | refine s_seq ?_ | refine s_region ?_ | refine s_true rfl ?_)
        refine s_ret ⟨_, _, resc2 rfl rfl rfl .z (ld_all (n := 2) rfl rfl rfl rfl) rfl, ⟨rfl, rfl⟩, Ent.wk (Ent.refl _)⟩
    · rw [show (x.k != 1) = true by simpa using hx]
      have hdec : decA g [x, y] t = (ac0, false) := by
        show (if _ then bindB (lvl g t) (prd g y.n).L x y else _) = _
        rw [if_neg (fun e => hx e.1)]
      rw [hdec]
      repeat' (first | refine e_nil ?_ | ((refine e_op ?_); (first | refine o_n (peval_sound rfl) rfl ?_ | refine o_storeC rfl rfl rfl rfl tc uc rfl rfl rfl ?_)) | refine e_noU rfl rfl rfl ?_ | refine s_seq ?_ | refine s_region ?_ | refine s_true rfl ?_)
      refine s_ret ⟨_, _, resc2 rfl rfl rfl .z (ld_all (n := 2) rfl rfl rfl rfl) rfl, ⟨rfl, rfl⟩, Ent.wk (Ent.refl _)⟩
  · rw [decA_ne h2]
    repeat' (first | refine e_nil ?_ | ((refine e_op ?_); (first | refine o_n (peval_sound rfl) rfl ?_ | refine o_alloc rfl rfl (fun _ => ?_))) | refine s_seq ?_ | refine s_region ?_)
    rw [show ((L.length : Int) != 2) = true by simp; omega]
    repeat' (first | refine e_nil ?_ | ((refine e_op ?_); (first | refine o_n (peval_sound rfl) rfl ?_ | refine o_storeC rfl rfl rfl rfl tc uc rfl rfl rfl ?_)) | refine e_noU rfl rfl rfl ?_ | refine s_seq ?_ | refine s_region ?_ | refine s_true rfl ?_)
    refine s_ret ⟨_, _, resc2 rfl rfl rfl .z (ld_all (n := 2) rfl rfl rfl rfl) rfl, ⟨rfl, rfl⟩, Ent.wk (Ent.refl _)⟩

end Go.Proofs.YtcnpjhaedjncdaaDoor

namespace Go.Proofs.YtcnpjhaedjncdaaDoor
set_option linter.all false
open Go.Proofs.YtcnpjhaedjncdaaDoor.E

theorem zeros2 (n : Nat) : ((List.range (n * 2)).map fun j => [Value.int .i64 0, Value.int .i64 0][j % 2]!) = encAs (List.replicate n ac0) := by
  have h1 : ∀ j : Nat, [Value.int .i64 0, Value.int .i64 0][j % 2]! = Value.int .i64 0 := fun j => by
    rcases Nat.mod_two_eq_zero_or_one j with h | h <;> rw [h] <;> rfl
  have h2 : ∀ n : Nat, encAs (List.replicate n ac0) = List.replicate (n * 2) (Value.int .i64 0) := by
    intro n
    induction n with
    | zero => rfl
    | succ n ih =>
      rw [List.replicate_succ]
      show encA ac0 ++ encAs (List.replicate n ac0) = _
      rw [ih, show (n + 1) * 2 = n * 2 + 1 + 1 by omega, List.replicate_succ, List.replicate_succ]; rfl
  rw [h2]
  simp only [h1]
  rw [List.map_const', List.length_range]

theorem setMany_cons (a : Value) : ∀ (cs r : List Value) (o : Nat), setMany (a :: r) (o + 1) cs = a :: setMany r o cs
  | [], _, _ => rfl
  | c :: cs, r, o => by
    show setMany ((a :: r).set (o + 1) c) (o + 1 + 1) cs = a :: setMany (r.set o c) (o + 1) cs
    rw [List.set_cons_succ]
    exact setMany_cons a cs _ _
theorem encAs_set0 : ∀ {l : List Acn} {i : Nat} (_ : i < l.length) (x : Acn), setMany (encAs l) (i * 2) (encA x) = encAs (l.set i x)
  | a :: l, 0, _, x => rfl
  | a :: l, i + 1, h, x => by
    have h2 : i < l.length := by simpa using h
    rw [List.set_cons_succ, show (i + 1) * 2 = i * 2 + 1 + 1 by omega]
    show setMany (Value.int .i64 a.k :: Value.int .i64 a.n :: encAs l) _ _ = Value.int .i64 a.k :: Value.int .i64 a.n :: encAs (l.set i x)
    rw [setMany_cons, setMany_cons, encAs_set0 h2]
theorem encAs_set {l : List Acn} {i : Nat} (h : i < l.length) (x : Acn) : setMany (encAs l) (0 + i * 2) (encA x) = encAs (l.set i x) := by
  rw [Nat.zero_add]; exact encAs_set0 h x
theorem encAs_one (L : List Acn) : ∀ u ∈ encAs L, oneB u = true := by
  intro u hu
  obtain ⟨a, _, h⟩ := List.mem_flatMap.1 hu
  simp only [encA, List.mem_cons, List.not_mem_nil, or_false] at h
  rcases h with rfl | rfl <;> rfl

noncomputable def actT (g : Gram) (s t : Nat) : List Acn := (List.range t).map (actC g s) ++ List.replicate (g.Terms.length - t) ac0
theorem actT_len {g : Gram} {s t : Nat} (h : t ≤ g.Terms.length) : (actT g s t).length = g.Terms.length := by unfold actT; simp; omega
theorem actT_zero (g : Gram) (s : Nat) : actT g s 0 = List.replicate g.Terms.length ac0 := by unfold actT; simp
theorem actT_full (g : Gram) (s : Nat) : actT g s g.Terms.length = actRow g s := by unfold actT actRow; simp
theorem actT_app {g : Gram} {s t : Nat} : actT g s (t + 1) = (List.range t).map (actC g s) ++ actC g s t :: List.replicate (g.Terms.length - (t + 1)) ac0 := by
  unfold actT
  rw [List.range_succ, List.map_append, List.append_assoc]; rfl
theorem actT_succ {g : Gram} {s t : Nat} (h : t < g.Terms.length) : (actT g s t).set t (actC g s t) = actT g s (t + 1) := by
  rw [actT_app]
  unfold actT
  rw [List.set_append_right _ _ (by simp), List.length_map, List.length_range, Nat.sub_self, show g.Terms.length - t = (g.Terms.length - (t + 1)) + 1 by omega, List.replicate_succ, List.set_cons_zero]
theorem actT_same {g : Gram} {s t : Nat} (h : t < g.Terms.length) (h0 : actC g s t = ac0) : actT g s (t + 1) = actT g s t := by
  rw [actT_app, h0]
  unfold actT
  rw [show g.Terms.length - t = (g.Terms.length - (t + 1)) + 1 by omega, List.replicate_succ]
theorem told_prod (g : Gram) (s t : Nat) : ∀ y ∈ told g s t, y.k = 2 → ∃ k : Nat, k < g.Prods.length ∧ y.n = (k : Int) := by
  intro y hy h2
  unfold told toldN at hy
  rcases List.mem_append.1 hy with hy | hy
  · unfold shL at hy
    split at hy
    · rw [List.mem_singleton] at hy; subst hy; simp at h2
    · cases hy
  · obtain ⟨k, hk, rfl⟩ := List.mem_map.1 hy
    unfold redA at h2 ⊢
    split at h2
    · simp at h2
    · rename_i h0
      rw [if_neg h0]
      exact ⟨k, (mem_redsN.1 hk).1, rfl⟩

/-- What Of answers. -/
noncomputable def pAct (g : Gram) : List (List Acn) := if actE g = 0 then actA g else []
noncomputable def pGot (g : Gram) : List (List Int) := if actE g = 0 then gotA g else []
noncomputable def pCla (g : Gram) : List (Nat × Nat) := if lrE g = 0 then claA g else []
noncomputable def pDec (g : Gram) : Nat := if actE g = 0 then decN g else 0
def encCl (c : Nat × Nat) : List Value := [.int .i64 (c.1 : Nat), .int .i64 (c.2 : Nat)]
abbrev encCs (l : List (Nat × Nat)) : List Value := l.flatMap encCl
abbrev actS (A : Option Addr) (n c : Nat) (acs : AcL) (R : List (List Acn)) : Asn := osl 47 1 (.slice A n c) n (rowC acs R)
abbrev actB (acs : AcL) (R : List (List Acn)) : Asn := bun (rowX encAs 2 51 acs R)
abbrev claS (A : Option Addr) (n c : Nat) (l : List (Nat × Nat)) : Asn := osl 67 2 (.slice A n c) n (encCs l)
/-- A parser of one's own: all of it can be written. -/
structure ActV (x : Value) (V : List Asn) (R : List (List Acn)) (G : List (List Int)) (C : List (Nat × Nat)) (d : Nat) (AA : Option Addr) (cA : Nat) (acs : AcL) (AG : Option Addr) (cG : Nat) (bcs : AcL) (AC : Option Addr) (cC : Nat) : Prop where
  la : acs.length = R.length
  lg : bcs.length = G.length
  x : x = .agg #[.slice AA R.length cA, .slice AG G.length cG, .slice AC C.length cC, .int .i64 (d : Nat)]
  v : V = [actS AA R.length cA acs R, actB acs R, gotS AG G.length cG bcs G, gotB bcs G, claS AC C.length cC C]
theorem ent_act0 {U : List Asn} : Ent U [actS none 0 0 [] [], actB [] [], gotS none 0 0 [] [], gotB [] [], claS none 0 0 []] :=
  (Ent.nil _).trans (Ent.osl0 (Ent.trans (V := actB [] [] :: gotS none 0 0 [] [] :: gotB [] [] :: claS none 0 0 [] :: []) (Ent.trans (V := gotS none 0 0 [] [] :: gotB [] [] :: claS none 0 0 [] :: []) (Ent.osl0 (Ent.trans (V := claS none 0 0 [] :: []) (Ent.osl0 (Ent.refl _)) ent_bnil0)) ent_bnil0) (Ent.refl _)))

end Go.Proofs.YtcnpjhaedjncdaaDoor

namespace Go.Proofs.YtcnpjhaedjncdaaDoor
set_option linter.all false
open Go.Proofs.YtcnpjhaedjncdaaDoor.E

theorem n_eqlNil49 {w0 : World} {SM : BSet} {n : Nat} {fr : Frm} {U : List Asn} {x : Operand} {A : Option Addr} {m c : Nat} {t2 : TypeId} (hx : val fr x = some (.slice A m c)) :
    NEV ⟨Tryd.prog, Tryd.tab, Tryd.tabOk, n, w0, SM⟩ (.binOp .eql 49 x (.const (.slice none 0 0)) t2) fr U (.bool A.isNone) := by
  intro ac w dst ty pos af g hf _
  have hu : Tryd.prog.underlying 49 = some (.slice 3) := by kernel_rfl
  have he : (Op.equal 49 (.slice A m c) (.slice none 0 0)).run Tryd.prog w = .ok A.isNone w := run_equal_slice_nil (P := Tryd.prog) w 49 3 A m c hu
  have hg : Tryd.prog.eqGuardType Tryd.prog.depth 49 = false := by kernel_rfl
  have hc : ac.eval (.const (.slice none 0 0)) = .slice none 0 0 := rfl
  unfold execOp
  simp only [hf.eval hx, hc]
  simp [eqGuard, hg, binOp, he]

attribute [local irreducible] EVX EVO EVL EV1 NEV
attribute [local irreducible] own osl exA rdA rdL
set_option maxRecDepth 10000
set_option maxHeartbeats 4000000

theorem cloneI_w (A : Option Addr) (n c : Nat) (l : List Int) (hn : n = l.length) (hsz : l.length ≤ 100000) :
    Trip Tryd.prog 31 [.slice A n c] ((kslice 8 kint).rd [.slice A n c] l) []
      (fun v V => ∃ (A' : Option Addr) (c' : Nat), v = .slice A' n c' ∧ V = [osl 3 1 (.slice A' n c') n (l.map (Value.int .i64))]) := by
  subst hn
  refine trip Tryd.tabOk Tryd.func31 rfl rfl rfl rfl ?_
  rintro w SM ⟨A', c', e1, h1⟩
  cases e1
  repeat' (first | refine e_nil ?_ | ((refine e_op ?_); (refine o_n (peval_sound rfl) rfl ?_)) | refine s_seq ?_ | refine s_region ?_)
  refine e_op (o_n (n_eqlNil49 rfl) rfl ?_)
  repeat' (refine e_nil ?_)
  refine s_cond rfl (fun h => ?_) (fun h => ?_)
  · have hl : l = [] := by
      cases l with
      | nil => rfl
      | cons x l =>
        obtain ⟨b, o, es, hA, _⟩ := h1.2.2 0 (by simp)
        rw [hA] at h; cases h
    subst hl
    repeat' (first | refine e_nil ?_ | ((refine e_op ?_); (refine o_n (peval_sound rfl) rfl ?_)) | refine s_seq ?_ | refine s_region ?_)
    refine s_ret ⟨_, _, res1 rfl rfl, ⟨none, 0, rfl, rfl⟩, Ent.osl0 (Ent.nil _)⟩
  repeat' (first | refine s_seq ?_ | refine s_region ?_ | refine s_skip ?_)
  refine e_op (o_lit (cs := []) rfl rfl rfl rfl rfl rfl rfl (fun b4 => ?_))
  repeat' (((refine e_op ?_); (refine o_n (peval_sound rfl) rfl ?_)))
  refine e_op (o_appendS (n := 0) (xs := []) (ys := l.map (Value.int .i64)) _ rfl rfl rfl rfl (by rw [List.length_map]; simp) (fun h0 => ro_ints h1.2.2 h0) (oneB_ints _) rfl (by simp only; omega) (by omega) rfl (fun A' c' => .z) (fun A5 c5 => ?_))
  simp only [Nat.zero_add, List.nil_append]
  repeat' (first | refine e_nil ?_ | ((refine e_op ?_); (refine o_n (peval_sound rfl) rfl ?_)))
  refine s_ret ⟨_, _, res1 rfl rfl, ⟨A5, c5, rfl, rfl⟩, Ent.tak .z (Ent.nil _)⟩

end Go.Proofs.YtcnpjhaedjncdaaDoor

namespace Go.Proofs.YtcnpjhaedjncdaaDoor.E
open Go
set_option linter.all false
variable {E : Env} {fr : Frm} {U : List Asn} {N : Frm → List Asn → Prop}

/-- A slice of one's own, by its block. -/
class TakO (b : Nat) (U : List Asn) (e : outParam TypeId) (sz : outParam Nat) (n c k : outParam Nat) (xs : outParam (List Value)) (W : outParam (List Asn)) : Prop where
  tak : Tak (osl e sz (.slice (some ⟨b, 0, none⟩) n c) k xs) U W
instance TakO.s {b : Nat} {U : List Asn} {e : TypeId} {sz n c k : Nat} {xs : List Value} {W : List Asn} {B : Asn} [h : TakO b U e sz n c k xs W] : TakO b (B :: U) e sz n c k xs (B :: W) := ⟨.s h.tak⟩
instance TakO.z {b : Nat} {U : List Asn} {e : TypeId} {sz n c k : Nat} {xs : List Value} : TakO b (osl e sz (.slice (some ⟨b, 0, none⟩) n c) k xs :: U) e sz n c k xs U := ⟨.z⟩
instance TakO.n {b : Nat} {U : List Asn} {e : TypeId} {sz n c k : Nat} {xs : List Value} {W : List Asn} [h : TakO b U e sz n c k xs W] : TakO b ([] ++ U) e sz n c k xs W := h
instance TakO.a {b : Nat} {L U : List Asn} {e : TypeId} {sz n c k : Nat} {xs : List Value} {W : List Asn} {B : Asn} [h : TakO b (B :: (L ++ U)) e sz n c k xs W] : TakO b ((B :: L) ++ U) e sz n c k xs W := h
theorem to {b : Nat} {U : List Asn} {e : TypeId} {sz n c k : Nat} {xs : List Value} {W : List Asn} [h : TakO b U e sz n c k xs W] : TakO b U e sz n c k xs W := h

/-- A slice of one's own, by the slice; what is put in its place. -/
class UpdV (v : Value) (U : List Asn) (e : outParam TypeId) (sz n : outParam Nat) (xs : outParam (List Value)) (F : outParam (Asn → List Asn)) : Prop where
  upd : ∀ A', Upd (osl e sz v n xs) A' U (F A')
instance UpdV.s {v : Value} {U : List Asn} {e : TypeId} {sz n : Nat} {xs : List Value} {F : Asn → List Asn} {B : Asn} [h : UpdV v U e sz n xs F] : UpdV v (B :: U) e sz n xs (fun A' => B :: F A') := ⟨fun A' => .s (h.upd A')⟩
instance UpdV.z {v : Value} {U : List Asn} {e : TypeId} {sz n : Nat} {xs : List Value} : UpdV v (osl e sz v n xs :: U) e sz n xs (fun A' => A' :: U) := ⟨fun _ => .z⟩
instance UpdV.n {v : Value} {U : List Asn} {e : TypeId} {sz n : Nat} {xs : List Value} {F : Asn → List Asn} [h : UpdV v U e sz n xs F] : UpdV v ([] ++ U) e sz n xs F := h
instance UpdV.a {v : Value} {L U : List Asn} {e : TypeId} {sz n : Nat} {xs : List Value} {F : Asn → List Asn} {B : Asn} [h : UpdV v (B :: (L ++ U)) e sz n xs F] : UpdV v ((B :: L) ++ U) e sz n xs F := h
theorem uv {v : Value} {U : List Asn} {e : TypeId} {sz n : Nat} {xs : List Value} {F : Asn → List Asn} [h : UpdV v U e sz n xs F] : UpdV v U e sz n xs F := h

theorem Upd.takO {A A' : Asn} : ∀ {U U' : List Asn}, Upd A A' U U' → ∃ W, Tak A U W
  | _, _, .z => ⟨_, .z⟩
  | _, _, .s h => by obtain ⟨W, hW⟩ := Upd.takO h; exact ⟨_, .s hW⟩

/-- The parts that a call wants. -/
class PicC (Ms U : List Asn) (W : outParam (List Asn)) : Prop where
  pic : Pic Ms U W
instance PicC.nil {U : List Asn} : PicC [] U U := ⟨.nil⟩
instance PicC.cons {A : Asn} {Ms U U1 W : List Asn} [h : TakA A U U1] [h2 : PicC Ms U1 W] : PicC (A :: Ms) U W := ⟨.cons h.tak h2.pic⟩
theorem pc {Ms U W : List Asn} [h : PicC Ms U W] : Pic Ms U W := h.pic

theorem no {t : TypeId} {x : Operand} {i : TI} {b o : Nat} {e : TypeId} {sz n c k : Nat} {xs : List Value} {v : Value} {W : List Asn}
    (hx : val fr x = some (.pointer (some ⟨b, o, none⟩))) (ht : tl E.T t = some i) (hU : TakO b U e sz n c k xs W) (hl : loadL i xs o = some v) : NEV E (.load t x) fr U v :=
  n_load_osl hx ht hU.tak hl

/-- A store into a slice of one's own. -/
theorem o_storeO {t : TypeId} {x y : Operand} {ty : TypeId} {pos : String} {af : Array Edge} {g : Option (Nat × Bool)} {i : TI} {b o : Nat} {e : TypeId} {sz n c k : Nat} {xs vs : List Value} {v : Value} {W U' : List Asn}
    (hx : val fr x = some (.pointer (some ⟨b, o, none⟩))) (hy : val fr y = some v) (ht : tl E.T t = some i) (hv : v.cells.toList = vs) (hW : TakO b U e sz n c k xs W)
    (hU : UpdC (osl e sz (.slice (some ⟨b, 0, none⟩) n c) k xs) (osl e sz (.slice (some ⟨b, 0, none⟩) n c) k (setMany xs o vs)) U U') (hl : Nat.beq vs.length i.size = true) (h1 : vs.all oneB = true)
    (hle : o + i.size ≤ xs.length) (h : N fr U') : EV1 E ⟨none, .store t x y, ty, pos, af, g⟩ fr U N :=
  o_store_osl hx hy ht hv hl h1 hle hU.upd h

/-- One element, just built, behind a slice of one's own. -/
theorem o_app1 {d : Nat} {t e : TypeId} {x y : Operand} {ty : TypeId} {pos : String} {af : Array Edge} {g : Option (Nat × Bool)} {s1 b1 : Nat} {z1 : List Value} {i : TI} {v : Value} {n : Nat} {xs : List Value}
    {g2 m c2 k2 : Nat} {e2 : TypeId} {sz2 : Nat} {news : List Value} {F : Asn → List Asn} {sz : Nat} {W : List Asn}
    (ht : tl E.T t = some ⟨.slice e, s1, b1, z1⟩) (he : tl E.T e = some i) (hx : val fr x = some v) (hy : val fr y = some (.slice (some ⟨g2, 0, none⟩) m c2)) (hs : TakO g2 U e2 sz2 m c2 k2 news W) (hU : UpdV v U e sz n xs F) (hsz : sz = i.size)
    (hl : news.length = m * i.size) (h1 : news.all oneB = true) (hzl : Nat.beq i.zero.length i.size = true) (hm0 : 0 < m) (hby : (n + m) * i.bytes ≤ 140737488355328) (hd : Nat.ble (d + 1) E.n = true)
    (hb0 : 0 < i.bytes)
    (h : ∀ b c, N ((d, .slice (some ⟨b, 0, none⟩) (n + m) c) :: fr) (F (osl e i.size (.slice (some ⟨b, 0, none⟩) (n + m) c) (n + m) (xs ++ news)))) :
    EV1 E ⟨some d, .call ⟨.builtin .append, #[x, y], #[t, t]⟩, ty, pos, af, g⟩ fr U N := by
  subst hsz
  have h63 : n + m ≤ 9223372036854775807 := Nat.le_trans (Nat.le_trans (Nat.le_mul_of_pos_right _ hb0) hby) (by decide)
  refine o_append (fun b c => F (osl e i.size (.slice (some ⟨b, 0, none⟩) (n + m) c) (n + m) (xs ++ news))) ht he hx hy (fun w hm j u hu => ?_) hl (List.all_eq_true.1 h1) hzl hm0 hby h63 hd (fun b c => hU.upd _) h
  obtain ⟨S1, hP, _⟩ := hm.tak hs.tak
  rw [Nat.zero_add]
  exact osl_cells hP j u hu

theorem o_callC {d : Nat} {f : FuncId} {args : Array Operand} {ts : Array TypeId} {ty : TypeId} {pos : String} {af : Array Edge} {g : Option (Nat × Bool)} {vs : List Value} {R : Rd} {Ms U' : List Asn}
    {Q : Value → List Asn → Prop} (ht : Trip E.P f vs R Ms Q) (hv : vals fr args.toList = some vs) (hp : PicC Ms U U') (hR : Can E U' R) (hd : Nat.ble (d + 1) E.n = true)
    (h : ∀ v V, Q v V → N ((d, v) :: fr) (V ++ U')) : EV1 E ⟨some d, .call ⟨.value (.func f), args, ts⟩, ty, pos, af, g⟩ fr U N :=
  o_call ht hv hp.pic hR hd h
theorem pk {Ms U W : List Asn} [h : PicC Ms U W] : PicC Ms U W := h

theorem Ent.blkC {b : Nat} {T : TypeId} {cs cs' : List Value} {W V : List Asn} (h : TakC b U T cs W) (e : cs = cs') (h' : Ent W V) : Ent U (blk b T cs' :: V) := by
  subst e; exact Ent.tak h.tak h'
theorem Ent.oslC {b : Nat} {e e' : TypeId} {sz sz' n n' c c' k k' : Nat} {xs xs' : List Value} {W V : List Asn} (h : TakO b U e sz n c k xs W) (h1 : e = e') (h2 : sz = sz') (h3 : n = n') (h4 : c = c') (h5 : k = k') (h6 : xs = xs') (h' : Ent W V) : Ent U (osl e' sz' (.slice (some ⟨b, 0, none⟩) n' c') k' xs' :: V) := by
  subst h1 h2 h3 h4 h5 h6; exact Ent.tak h.tak h'
/-- One row more, behind a bundle of rows. -/
theorem Ent.snocB {α : Type} {f : List α → List Value} {sz : Nat} {ei : TypeId} {acs : List (Option Addr × Nat)} {rows : List (List α)} {ac : Option Addr × Nat} {r : List α} {U1 U2 V : List Asn} (h1 : TakA (rowA f sz ei ac r) U U1) (h2 : TakA (bun (rowX f sz ei acs rows)) U1 U2) (hl : acs.length = rows.length) (h : Ent U2 V) :
    Ent U (bun (rowX f sz ei (acs ++ [ac]) (rows ++ [r])) :: V) :=
  Ent.trans (Ent.tak h1.tak (Ent.tak h2.tak (Ent.refl _))) (Ent.trans (ent_bsnoc hl) (Ent.cons h))
theorem ta {A : Asn} {U W : List Asn} [h : TakA A U W] : TakA A U W := h

end Go.Proofs.YtcnpjhaedjncdaaDoor.E

namespace Go.Proofs.YtcnpjhaedjncdaaDoor
set_option linter.all false
open Go.Proofs.YtcnpjhaedjncdaaDoor.E

noncomputable def actM (g : Gram) (s : Nat) : List (List Acn) := (List.range s).map (actRow g)
def gotM (g : Gram) (s : Nat) : List (List Int) := ((lrGs g).take s).map fun r => r.drop g.Terms.length
theorem actM_len (g : Gram) (s : Nat) : (actM g s).length = s := by unfold actM; simp
theorem gotM_len {g : Gram} {s : Nat} (h : s ≤ (lrGs g).length) : (gotM g s).length = s := by unfold gotM; simp; omega
theorem actM_succ (g : Gram) (s : Nat) : actM g (s + 1) = actM g s ++ [actRow g s] := by unfold actM; rw [List.range_succ, List.map_append]; rfl
theorem gotM_succ {g : Gram} {s : Nat} (h : s < (lrGs g).length) : gotM g (s + 1) = gotM g s ++ [(lrGs g)[s].drop g.Terms.length] := by
  unfold gotM; rw [List.take_succ_eq_append_getElem h, List.map_append]; rfl
theorem gotM_all {g : Gram} {s : Nat} (h : (lrGs g).length ≤ s) : gotM g s = gotA g := by unfold gotM gotA; rw [List.take_of_length_le h]

theorem gotM_rng {g : Gram} (h0 : lrE g = 0) {s : Nat} (h : s < (lrGs g).length) : ∀ x ∈ (lrGs g)[s], I64 x := fun x hx => (lr_num g).z _ (List.getElem_mem h) x hx
/-- The end of a row of one's own, read. -/
theorem can_drop {E0 : Go.Proofs.YtcnpjhaedjncdaaDoor.E.Env} {U U' : List Asn} {acs : AcL} {rows : List (List Int)} (ht : Tak (gotB acs rows) U U') (hl : acs.length = rows.length) {i : Nat} (hi : i < rows.length) (hI : ∀ x ∈ rows[i], I64 x) (hn : rows[i].length ≤ 100000) (q : Nat) :
    Go.Proofs.YtcnpjhaedjncdaaDoor.E.Can E0 U ((kslice 8 kint).rd [.slice (if (acs[i]'(hl ▸ hi)).2 = q then (acs[i]'(hl ▸ hi)).1 else (acs[i]'(hl ▸ hi)).1.map (·.add (q * 1))) (rows[i].length - q) ((acs[i]'(hl ▸ hi)).2 - q)] (rows[i].drop q)) := Can.of fun w S hs => by
  obtain ⟨S1, h1, i1⟩ := ht.mem hs
  obtain ⟨S2, h2, i2⟩ := star_mem (rowX_get (f := fun l : List Int => l.map (Value.int .i64)) (sz := 1) (ei := 3) hl hi) h1
  have h4 := can_to (R := (kslice 8 kint).rd [.slice (acs[i]'(hl ▸ hi)).1 rows[i].length (acs[i]'(hl ▸ hi)).2] rows[i]) Tryd.prog (fun E => can_ints .z hI (by omega)) h2
  obtain ⟨A, c, e, h5, h6, h7⟩ := h4
  simp only [List.cons.injEq, Value.slice.injEq, and_true, true_and] at e
  obtain ⟨e1, e2⟩ := e
  rw [← e1] at h7
  rw [← e2] at h5
  have h8 := els_drop (q := q) h7 h5
  exact ⟨_, (acs[i]'(hl ▸ hi)).2 - q, by rw [List.length_drop]; rfl, by rw [List.length_drop]; omega, by rw [List.length_drop]; omega, els_mono (fun b hb => i1 b (i2 b hb)) h8⟩
theorem ent_act2 {U : List Asn} : Ent U (actS none 0 0 [] [] :: actB [] [] :: gotS none 0 0 [] [] :: gotB [] [] :: U) :=
  Ent.osl0 (Ent.trans (V := gotS none 0 0 [] [] :: gotB [] [] :: U) (Ent.osl0 ent_bnil0) ent_bnil0)
theorem ent_act1 {U : List Asn} : Ent U (actS none 0 0 [] [] :: actB [] [] :: gotS none 0 0 [] [] :: gotB [] [] :: claS none 0 0 [] :: U) :=
  Ent.osl0 (Ent.trans (V := gotS none 0 0 [] [] :: gotB [] [] :: claS none 0 0 [] :: U) (Ent.osl0 (Ent.trans (V := claS none 0 0 [] :: U) (Ent.osl0 (Ent.refl _)) ent_bnil0)) ent_bnil0)
/-- Where the making of a parser stands. -/
structure AcSt where
  s : Nat
  AA : Option Addr
  cA : Nat
  acs : AcL
  AH : Option Addr
  cH : Nat
  hcs : AcL
  AC : Option Addr
  cC : Nat
structure AcTt where
  t : Nat
  AC : Option Addr
  cC : Nat

attribute [local irreducible] EVX EVO EVL EV1 NEV
attribute [local irreducible] own osl exA rdA rdL
attribute [local irreducible] bldA mapA bun mapS
set_option maxRecDepth 10000
set_option maxHeartbeats 4000000

theorem actOf_w (cs : List Value) (g : Gram) (hp : checkE g = 0 → g.Prods.length ≤ 100) : Trip Tryd.prog 10 [.agg cs.toArray] (kGram.rd cs g) []
    (fun v V => ∃ x AA cA acs AG cG bcs AC cC, v = .tuple #[x, .int .i64 (actE g)] ∧ ActV x V (pAct g) (pGot g) (pCla g) (pDec g) AA cA acs AG cG bcs AC cC) := by
  refine trip Tryd.tabOk Tryd.func10 rfl rfl rfl rfl ?_
  rintro w SM hG0
  obtain ⟨A0, A1, A2, A3, A4, c0, c1, c2, c3, c4, rfl, hG⟩ := kGram_open hG0
  repeat' (first | refine e_nil ?_ | ((refine e_op ?_); (first | refine o_n (peval_sound rfl) rfl ?_ | refine o_n (nl rfl rfl tc rfl) rfl ?_ | refine o_box rfl rfl (fun _ => ?_) | refine o_alloc rfl rfl (fun _ => ?_))) | refine s_seq ?_ | refine s_region ?_)
  rename_i bg br
  refine e_op (o_call (ofP_w _ g hp) rfl .nil (Can.ro hG0) rfl ?_)
  rintro v V ⟨x, rfl, AK, cK, kcs, AG, cG, bcs, hl, hb, rfl, rfl⟩
  simp only [List.cons_append, List.nil_append]
  repeat' (first | refine e_nil ?_ | ((refine e_op ?_); (first | refine o_n (peval_sound rfl) rfl ?_ | refine o_storeC rfl rfl rfl rfl tc uc rfl rfl rfl ?_ | refine o_alloc rfl rfl (fun _ => ?_))) | refine s_seq ?_ | refine s_region ?_)
  rename_i b4
  by_cases h0 : lrE g ≠ 0
  · rw [show (lrE g != 0) = true by simpa using h0]
    have ha : actE g = lrE g := by unfold actE; rw [if_pos h0]
    have e1 : pAct g = [] := by unfold pAct; rw [ha, if_neg h0]
    have e2 : pGot g = [] := by unfold pGot; rw [ha, if_neg h0]
    have e3 : pCla g = [] := by unfold pCla; rw [if_neg h0]
    have e4 : pDec g = 0 := by unfold pDec; rw [ha, if_neg h0]
    rw [e1, e2, e3, e4, ha]
    repeat' (first | refine e_nil ?_ | ((refine e_op ?_); (first | refine o_n (peval_sound rfl) rfl ?_ | refine o_storeC rfl rfl rfl rfl tc uc rfl rfl rfl ?_)) | refine s_seq ?_ | refine s_region ?_ | refine s_true rfl ?_)
    refine s_ret ⟨_, _, resc2 rfl rfl rfl TakC.tak (ld_all (n := 4) rfl rfl rfl rfl) rfl, ⟨_, none, 0, [], none, 0, [], none, 0, rfl, ⟨rfl, rfl, rfl, rfl⟩⟩, ent_act0⟩
  replace h0 : lrE g = 0 := Classical.not_not.1 h0
  rw [show (lrE g != 0) = false by simpa using h0]
  repeat' (first | ((refine e_op ?_); (refine o_n (nl rfl rfl tc rfl) rfl ?_)) | refine s_seq ?_ | refine s_region ?_ | refine s_skip ?_ | refine s_false rfl ?_)
  refine e_op (o_call (aheadOf_w _ g hp) rfl .nil (Can.ro hG0) rfl ?_)
  rintro v V ⟨AX, n, cX, xcs, D, rfl, hn, hal, hD, hDr, rfl⟩
  simp only [List.cons_append, List.nil_append]
  have hF := goF h0
  have hXP : ∀ (i : Nat) (hi : i < (laX g).length), (laX g)[i].length = g.Prods.length := fun i hi => by rw [laX_row h0 hi, YR_len]
  have hXv : ∀ (i k : Nat) (hi : i < (laX g).length) (hk : k < (laX g)[i].length), (laX g)[i][k] = laRow g i k := fun i k hi hk => laX_at h0 hi hk
  have hXn : (laX g).length = (lrKs g).length := laX_len h0
  generalize hXe : laX g = X at hXn hn hal hD hDr hXP hXv ⊢
  clear hXe
  subst hn
  have hL := hF.lim
  have hwf := hF.wf
  have hT := hL.t
  have hT1 := hwf.t
  have hNo := hL.n
  have hPr := hL.p
  have hK := hF.n
  have hK0 := hF.p0
  have hgk := hF.gk
  repeat' (first | refine e_nil ?_ | ((refine e_op ?_); (refine o_n (peval_sound rfl) rfl ?_)) | refine s_seq ?_ | refine s_region ?_)
  rw [h0]
  repeat' (first | refine e_nil ?_ | ((refine e_op ?_); (first | refine o_n (peval_sound rfl) rfl ?_ | refine o_n (nl rfl rfl tc rfl) rfl ?_ | refine o_box rfl rfl (fun _ => ?_) | refine o_alloc rfl rfl (fun _ => ?_))) | refine s_seq ?_ | refine s_region ?_ | refine s_block ?_ | refine s_skip ?_ | refine s_false rfl ?_)
  rename_i b7 b8
  refine s_open (TakA.tak (A := osl 53 1 (.slice AX X.length cX) X.length (rowC xcs (rowVs D X)))) (by omega) ?_
  rintro bX rfl
  refine s_open (TakA.tak (A := gotS AG (lrGs g).length cG bcs (lrGs g))) (by omega) ?_
  rintro bG rfl
  refine s_addrs (TakA.tak (A := gotB bcs (lrGs g))) hb (fun hGA => ?_)
  refine s_loopK (ι := {x : AcSt // x.s ≤ (lrKs g).length ∧ x.acs.length = x.s ∧ x.hcs.length = x.s}) [1, 2, 4, 7, 8, 40] rfl ⟨⟨0, none, 0, [], none, 0, [], none, 0⟩, by simp⟩ (fun x => [(41, .int .i64 x.1.s)])
    (fun x => [blk b8 36 [.slice x.1.AA x.1.s x.1.cA, .slice x.1.AH x.1.s x.1.cH, .slice x.1.AC (claTo g x.1.s 0).length x.1.cC, .int .i64 (decTo g x.1.s 0 : Nat)], actS x.1.AA x.1.s x.1.cA x.1.acs (actM g x.1.s), actB x.1.acs (actM g x.1.s), gotS x.1.AH x.1.s x.1.cH x.1.hcs (gotM g x.1.s), gotB x.1.hcs (gotM g x.1.s), claS x.1.AC (claTo g x.1.s 0).length x.1.cC (claTo g x.1.s 0), blk b7 79 [.slice A0 g.Terms.length c0, .slice A1 g.Levels.length c1, .slice A2 g.Pats.length c2, .slice A3 g.Nons.length c3, .slice A4 g.Prods.length c4, .slice AK (lrKs g).length cK, .slice (some ⟨bG, 0, none⟩) (lrGs g).length cG, .slice (some ⟨bX, 0, none⟩) X.length cX], gotS (some ⟨bG, 0, none⟩) (lrGs g).length cG bcs (lrGs g), gotB bcs (lrGs g), osl 53 1 (.slice (some ⟨bX, 0, none⟩) X.length cX) X.length (rowC xcs (rowVs D X)), rowO xcs D X, bun (innB D X), blk b4 41 [.slice AK (lrKs g).length cK, .slice (some ⟨bG, 0, none⟩) (lrGs g).length cG], blk br 36 [.slice none 0 0, .slice none 0 0, .slice none 0 0, .int .i64 0], blk bg 27 [.slice A0 g.Terms.length c0, .slice A1 g.Levels.length c1, .slice A2 g.Pats.length c2, .slice A3 g.Nons.length c3, .slice A4 g.Prods.length c4]]) (fun x => (lrKs g).length - x.1.s) ?_ ?_ ?_
  · repeat' (first | exact Sub.nil _ | refine Sub.cons rfl ?_)
  · have z1 : claTo g 0 0 = [] := rfl
    have z2 : decTo g 0 0 = 0 := rfl
    have z3 : actM g 0 = [] := rfl
    have z4 : gotM g 0 = [] := rfl
    simp only [z1, z2, z3, z4]
    refine Ent.cons (Ent.trans ?_ ent_act1)
    exact Ent.tak .z (Ent.tak (.s (.s (.s (.s (.s (.s .z)))))) (Ent.tak (.s (.s (.s (.s (.s (.s .z)))))) (Ent.cons (Ent.cons (Ent.cons (Ent.cons (Ent.wk (Ent.wk (Ent.refl _)))))))))
  rintro ⟨⟨s, AA, cA, acs, AH, cH, hcs, AC, cC⟩, hs, hacs, hhcs⟩
  simp only at hs hacs hhcs ⊢
  repeat' (first | refine e_nil ?_ | ((refine e_op ?_); (refine o_n (peval_sound rfl) rfl ?_)) | refine s_seq ?_ | refine s_region ?_)
  by_cases hlt : s < (lrKs g).length
  · rw [decide_eq_true (p := (s : Int) < ((lrKs g).length : Int)) (by omega)]
    repeat' (first | refine e_nil ?_ | ((refine e_op ?_); (first | refine o_n (peval_sound rfl) rfl ?_ | refine o_n (nl rfl rfl tc rfl) rfl ?_)) | refine s_seq ?_ | refine s_region ?_ | refine s_block ?_ | refine s_skip ?_ | refine s_true rfl ?_)
    refine e_op (o_makeS rfl rfl rfl rfl g.Terms.length rfl rfl (by simp only; omega) (by omega) rfl (zeros2 _) (fun bR => ?_))
    rw [← actT_zero g s]
    repeat' (first | refine e_nil ?_ | ((refine e_op ?_); (refine o_n (peval_sound rfl) rfl ?_)) | refine s_seq ?_ | refine s_region ?_ | refine s_block ?_)
    refine s_loopK (ι := {y : AcTt // y.t ≤ g.Terms.length}) [1, 2, 4, 7, 8, 9, 10, 40, 41, 49] rfl ⟨⟨0, AC, cC⟩, by simp⟩ (fun y => [(50, .int .i64 y.1.t)])
      (fun y => [osl 51 2 (.slice (some ⟨bR, 0, none⟩) g.Terms.length g.Terms.length) g.Terms.length (encAs (actT g s y.1.t)), blk b8 36 [.slice AA s cA, .slice AH s cH, .slice y.1.AC (claTo g s y.1.t).length y.1.cC, .int .i64 (decTo g s y.1.t : Nat)], actS AA s cA acs (actM g s), actB acs (actM g s), gotS AH s cH hcs (gotM g s), gotB hcs (gotM g s), claS y.1.AC (claTo g s y.1.t).length y.1.cC (claTo g s y.1.t), blk b7 79 [.slice A0 g.Terms.length c0, .slice A1 g.Levels.length c1, .slice A2 g.Pats.length c2, .slice A3 g.Nons.length c3, .slice A4 g.Prods.length c4, .slice AK (lrKs g).length cK, .slice (some ⟨bG, 0, none⟩) (lrGs g).length cG, .slice (some ⟨bX, 0, none⟩) X.length cX], gotS (some ⟨bG, 0, none⟩) (lrGs g).length cG bcs (lrGs g), gotB bcs (lrGs g), osl 53 1 (.slice (some ⟨bX, 0, none⟩) X.length cX) X.length (rowC xcs (rowVs D X)), rowO xcs D X, bun (innB D X), blk b4 41 [.slice AK (lrKs g).length cK, .slice (some ⟨bG, 0, none⟩) (lrGs g).length cG], blk br 36 [.slice none 0 0, .slice none 0 0, .slice none 0 0, .int .i64 0], blk bg 27 [.slice A0 g.Terms.length c0, .slice A1 g.Levels.length c1, .slice A2 g.Pats.length c2, .slice A3 g.Nons.length c3, .slice A4 g.Prods.length c4]]) (fun y => g.Terms.length - y.1.t) ?_ (Ent.refl _) ?_
    · repeat' (first | exact Sub.nil _ | refine Sub.cons rfl ?_)
    rintro ⟨⟨t, AC, cC⟩, ht⟩
    simp only at ht ⊢
    repeat' (first | refine e_nil ?_ | ((refine e_op ?_); (refine o_n (peval_sound rfl) rfl ?_)) | refine s_seq ?_ | refine s_region ?_)
    by_cases htl : t < g.Terms.length
    · rw [decide_eq_true (p := (t : Int) < (g.Terms.length : Int)) (by omega)]
      have hcl := claTo_le g s t
      have hdl := decTo_le g s t
      have hbd : s * g.Terms.length + t ≤ 512 * 48 + 48 := by
        have := Nat.mul_le_mul (show s ≤ 512 by omega) hT; omega
      have hat := actT_len (g := g) (s := s) (t := t) ht
      repeat' (first | refine e_nil ?_ | ((refine e_op ?_); (refine o_n (peval_sound rfl) rfl ?_)) | refine s_seq ?_ | refine s_region ?_ | refine s_block ?_ | refine s_skip ?_ | refine s_true rfl ?_)
      refine e_op (o_callC (told_w b7 (.slice A0 g.Terms.length c0) (.slice A1 g.Levels.length c1) (.slice A2 g.Pats.length c2) (.slice A3 g.Nons.length c3) (.slice A4 g.Prods.length c4) (.slice AK (lrKs g).length cK) (some ⟨bG, 0, none⟩) cG bcs bX cX xcs D g h0 hb X hXn hXP hXv hal hD hDr s t hlt htl) rfl pk Can.tt rfl ?_)
      rintro v V ⟨At, ct, rfl, rfl⟩
      simp only [List.cons_append, List.nil_append]
      have htp := told_prod g s t
      have hcs' := claTo_succ g s t
      have hds' := decTo_succ g s t
      have hac : actC g s t = actL g (told g s t) t := rfl
      have hcb : claB g s t = claL g (told g s t) t := rfl
      have hdb : decB g s t = decL g (told g s t) t := rfl
      generalize told g s t = L at htp hac hcb hdb ⊢
      repeat' (first | refine e_nil ?_ | ((refine e_op ?_); (refine o_n (peval_sound rfl) rfl ?_)) | refine s_seq ?_ | refine s_region ?_)
      by_cases h1 : L.length = 1
      · obtain ⟨a, rfl⟩ := List.length_eq_one_iff.1 h1
        have ha : actC g s t = a := by rw [hac]; rfl
        have hc0 : claB g s t = false := by rw [hcb]; rfl
        have hd0 : decB g s t = false := by rw [hdb]; rfl
        rw [hc0] at hcs'
        rw [hd0] at hds'
        simp only [Bool.false_eq_true, if_false, Nat.add_zero] at hcs' hds'
        refine s_open .z (by simp) ?_
        rintro bt rfl
        rw [show ((([a] : List Acn).length : Int) == 1) = true from rfl]
        repeat' (first | ((refine e_op ?_); (refine o_n (peval_sound rfl) rfl ?_)) | refine s_region ?_ | refine s_true rfl ?_)
        refine e_op (o_n (n_index rfl rfl rfl rfl 0 rfl (by simp)) rfl ?_)
        refine e_op (o_n (no rfl rfl to (encAs_load (l := [a]) (i := 0) (by simp))) rfl ?_)
        refine e_op (o_n (n_index rfl rfl rfl rfl t rfl htl) rfl ?_)
        refine e_op (o_storeO (vs := encA a) rfl rfl rfl rfl to uc rfl rfl (by rw [encAs_len, hat]; simp only; omega) ?_)
        rw [encAs_set (by omega), ← ha, actT_succ htl]
        repeat' (first | refine e_nil ?_ | ((refine e_op ?_); (refine o_n (peval_sound rfl) rfl ?_)) | refine s_seq ?_ | refine s_region ?_ | refine s_exit ?_ | refine s_true rfl ?_ | refine x_hit ?_ | refine x_code ?_)
        rw [show decide ((([actC g s t] : List Acn).length : Int) < 2) = true from rfl]
        skip
        refine s_back ⟨⟨⟨t + 1, AC, cC⟩, by simp only; omega⟩, by simp only; omega, ?_, ?_⟩
        · repeat' (first | exact Sub.nil _ | refine Sub.cons rfl ?_ | refine Sub.consE rfl ?_ ?_)
          exact inc (i := t) (by omega)
        · simp only
          rw [hcs', hds']
          repeat' (first | exact Ent.nil _ | refine Ent.tak tk ?_)
      rw [show ((L.length : Int) == 1) = false by rw [beq_eq_false_iff_ne]; omega]
      repeat' (first | refine e_nil ?_ | ((refine e_op ?_); (refine o_n (peval_sound rfl) rfl ?_)) | refine s_seq ?_ | refine s_region ?_ | refine s_skip ?_ | refine s_false rfl ?_)
      by_cases h2 : L.length < 2
      · have hn0 : L = [] := List.eq_nil_of_length_eq_zero (by omega)
        subst hn0
        have ha : actC g s t = ac0 := by rw [hac]; rfl
        have hc0 : claB g s t = false := by rw [hcb]; rfl
        have hd0 : decB g s t = false := by rw [hdb]; rfl
        rw [hc0] at hcs'
        rw [hd0] at hds'
        simp only [Bool.false_eq_true, if_false, Nat.add_zero] at hcs' hds'
        rw [show decide ((([] : List Acn).length : Int) < 2) = true from rfl]
        repeat' (first | refine e_nil ?_ | ((refine e_op ?_); (refine o_n (peval_sound rfl) rfl ?_)) | refine s_region ?_ | refine s_exit ?_ | refine s_true rfl ?_ | refine x_hit ?_ | refine x_code ?_)
        refine s_back ⟨⟨⟨t + 1, AC, cC⟩, by simp only; omega⟩, by simp only; omega, ?_, ?_⟩
        · repeat' (first | exact Sub.nil _ | refine Sub.cons rfl ?_ | refine Sub.consE rfl ?_ ?_)
          exact inc (i := t) (by omega)
        · simp only
          rw [hcs', hds', actT_same htl ha]
          repeat' (first | exact Ent.nil _ | refine Ent.tak tk ?_)
      rw [show decide ((L.length : Int) < 2) = false by rw [decide_eq_false_iff_not]; omega]
      repeat' (first | ((refine e_op ?_); (refine o_n (peval_sound rfl) rfl ?_)) | refine s_seq ?_ | refine s_region ?_ | refine s_skip ?_ | refine s_false rfl ?_)
      refine e_op (o_callC (decide_w b7 A0 A1 A2 A3 A4 c0 c1 c2 c3 c4 (.slice AK (lrKs g).length cK) (.slice (some ⟨bG, 0, none⟩) (lrGs g).length cG) (.slice (some ⟨bX, 0, none⟩) X.length cX) g hwf.lev At ct L htp t htl) rfl pk (Can.ro hG0) rfl ?_)
      rintro v V ⟨rfl, rfl⟩
      simp only [List.cons_append, List.nil_append]
      cases hd : (decA g L t).2 with
      | false =>
        have ha : actC g s t = ac0 := by rw [hac]; unfold actL; rw [if_neg h1, hd, if_neg (by simp)]
        have hc0 : claB g s t = true := by rw [hcb]; unfold claL; rw [hd, decide_eq_true (by omega : 2 ≤ L.length)]; rfl
        have hd0 : decB g s t = false := by rw [hdb]; unfold decL; rw [hd, Bool.and_false]
        rw [hc0] at hcs'
        rw [hd0] at hds'
        simp only [Bool.false_eq_true, if_false, if_true, Nat.add_zero] at hcs' hds'
        have hln : (claTo g s (t + 1)).length = (claTo g s t).length + 1 := by rw [hcs', List.length_append]; rfl
        have hen : encCs (claTo g s (t + 1)) = encCs (claTo g s t) ++ encCl (s, t) := by rw [hcs']; unfold encCs; rw [List.flatMap_append]; simp
        repeat' (first | refine e_nil ?_ | ((refine e_op ?_); (first | refine o_n (peval_sound rfl) rfl ?_ | refine o_n (nl rfl rfl tc rfl) rfl ?_ | refine o_storeC rfl rfl rfl rfl tc uc rfl rfl rfl ?_ | refine o_alloc rfl rfl (fun _ => ?_))) | refine s_seq ?_ | refine s_region ?_ | refine s_true rfl ?_)
        refine e_op (o_lit (ps := [(0, .agg (encCl (s, t)).toArray)]) (cs := encCl (s, t)) rfl rfl rfl rfl rfl rfl rfl (fun bl => ?_))
        refine e_op (o_app1 (m := 1) (news := encCl (s, t)) rfl rfl rfl rfl to uv rfl rfl rfl rfl (by omega) (by simp only; omega) rfl (by decide) (fun ba ca => ?_))
        repeat' (first | refine e_nil ?_ | ((refine e_op ?_); (first | refine o_n (peval_sound rfl) rfl ?_ | refine o_storeC rfl rfl rfl rfl tc uc rfl rfl rfl ?_)) | refine s_region ?_ | refine s_exit ?_ | refine x_hit ?_ | refine x_code ?_)
        refine s_back ⟨⟨⟨t + 1, some ⟨ba, 0, none⟩, ca⟩, by simp only; omega⟩, by simp only; omega, ?_, ?_⟩
        · repeat' (first | exact Sub.nil _ | refine Sub.cons rfl ?_ | refine Sub.consE rfl ?_ ?_)
          exact inc (i := t) (by omega)
        · simp only
          unfold claS
          rw [hln, hen, hds', actT_same htl ha]
          repeat' (first | exact Ent.nil _ | refine Ent.tak tk ?_ | refine Ent.blkC tc rfl ?_)
      | true =>
        have ha : actC g s t = (decA g L t).1 := by rw [hac]; unfold actL; rw [if_neg h1, if_pos ⟨by omega, hd⟩]
        have hc0 : claB g s t = false := by rw [hcb]; unfold claL; rw [hd]; simp
        have hd0 : decB g s t = true := by rw [hdb]; unfold decL; rw [hd, decide_eq_true (by omega : 2 ≤ L.length)]; rfl
        rw [hc0] at hcs'
        rw [hd0] at hds'
        simp only [Bool.false_eq_true, if_false, if_true] at hcs' hds'
        have hwd : IntKind.i64.wrap (((decTo g s t : Nat) : Int) + 1) = ((decTo g s t + 1 : Nat) : Int) := by rw [wrap_i64] <;> omega
        rw [← ha]
        repeat' (first | refine e_nil ?_ | ((refine e_op ?_); (first | refine o_n (peval_sound rfl) rfl ?_ | refine o_n (nl rfl rfl tc rfl) rfl ?_ | refine o_storeC rfl rfl rfl rfl tc uc rfl rfl rfl ?_ | refine o_alloc rfl rfl (fun _ => ?_))) | refine s_seq ?_ | refine s_region ?_ | refine s_skip ?_ | refine s_false rfl ?_)
        refine e_op (o_n (n_index rfl rfl rfl rfl t rfl htl) rfl ?_)
        refine e_op (o_storeO (vs := encA (actC g s t)) rfl rfl rfl rfl to uc rfl rfl (by rw [encAs_len, hat]; simp only; omega) ?_)
        rw [encAs_set (by omega), actT_succ htl]
        repeat' (first | refine e_nil ?_ | ((refine e_op ?_); (first | refine o_n (peval_sound rfl) rfl ?_ | refine o_n (nl rfl rfl tc rfl) rfl ?_ | refine o_storeC rfl rfl rfl rfl tc uc rfl rfl rfl ?_)) | refine s_region ?_ | refine s_end ?_)
        rw [hwd]
        skip
        refine s_back ⟨⟨⟨t + 1, AC, cC⟩, by simp only; omega⟩, by simp only; omega, ?_, ?_⟩
        · repeat' (first | exact Sub.nil _ | refine Sub.cons rfl ?_ | refine Sub.consE rfl ?_ ?_)
          exact inc (i := t) (by omega)
        · simp only
          rw [hcs', hds']
          repeat' (first | exact Ent.nil _ | refine Ent.tak tk ?_ | refine Ent.blkC tc rfl ?_)
    rw [decide_eq_false (p := (t : Int) < (g.Terms.length : Int)) (by omega)]
    obtain rfl : t = g.Terms.length := by omega
    have hsG : s < (lrGs g).length := by omega
    have hrow := hF.row s hsG
    have hrl : (actRow g s).length = g.Terms.length := by rw [← actT_full]; exact actT_len (Nat.le_refl _)
    have hgl := gotM_len (g := g) (s := s) (by omega)
    rw [actT_full]
    repeat' (first | ((refine e_op ?_); (first | refine o_n (peval_sound rfl) rfl ?_ | refine o_n (nl rfl rfl tc rfl) rfl ?_)) | refine s_seq ?_ | refine s_region ?_ | refine s_exit ?_ | refine s_false rfl ?_ | refine x_hit ?_ | refine x_code ?_ | refine x_back ?_)
    refine e_op (o_lit (ps := [(0, .slice (some ⟨bR, 0, none⟩) g.Terms.length g.Terms.length)]) (cs := [.slice (some ⟨bR, 0, none⟩) g.Terms.length g.Terms.length]) rfl rfl rfl rfl rfl rfl rfl (fun bl => ?_))
    refine e_op (o_app1 (m := 1) (news := [.slice (some ⟨bR, 0, none⟩) g.Terms.length g.Terms.length]) rfl rfl rfl rfl to uv rfl rfl rfl rfl (by omega) (by simp only; omega) rfl (by decide) (fun ba ca => ?_))
    repeat' (first | refine e_nil ?_ | ((refine e_op ?_); (first | refine o_n (peval_sound rfl) rfl ?_ | refine o_storeC rfl rfl rfl rfl tc uc rfl rfl rfl ?_)))
    refine s_P Tryd.mixed (by decide +kernel) ?_
    refine p_barU 13 ?_
    refine q_n 0 rfl (peval_sound rfl) (by decide +kernel) (by decide +kernel) (Ent.refl _) rfl ?_
    refine q_n 1 rfl (nl rfl rfl tc rfl) (by decide +kernel) (by decide +kernel) (Ent.refl _) rfl ?_
    refine q_n 2 rfl (peval_sound rfl) (by decide +kernel) (by decide +kernel) (Ent.refl _) rfl ?_
    refine q_n 3 rfl (nl rfl rfl tc rfl) (by decide +kernel) (by decide +kernel) (Ent.refl _) rfl ?_
    refine q_n 4 rfl (peval_sound rfl) (by decide +kernel) (by decide +kernel) (Ent.refl _) rfl ?_
    refine q_n 5 rfl (n_index rfl rfl rfl rfl s rfl hsG) (by decide +kernel) (by decide +kernel) (Ent.refl _) rfl ?_
    refine q_n 6 rfl (no rfl rfl to (rowC_load hb hsG)) (by decide +kernel) (by decide +kernel) (Ent.refl _) rfl ?_
    refine q_n 7 rfl (peval_sound rfl) (by decide +kernel) (by decide +kernel) (Ent.refl _) rfl ?_
    refine q_n 8 rfl (nl rfl rfl tc rfl) (by decide +kernel) (by decide +kernel) (Ent.refl _) rfl ?_
    refine q_n 9 rfl (peval_sound rfl) (by decide +kernel) (by decide +kernel) (Ent.refl _) rfl ?_
    refine q_n 10 rfl (n_fromV g.Terms.length rfl rfl rfl rfl rfl (by omega)) (by decide +kernel) (by decide +kernel) (Ent.refl _) rfl ?_
    refine q_1 11 (by decide +kernel) rfl rfl rfl (o_callC (cloneI_w _ _ _ ((lrGs g)[s].drop g.Terms.length) (by rw [List.length_drop]) (by rw [List.length_drop]; omega)) rfl pk (can_drop (TakA.tak (A := gotB bcs (lrGs g))) hb hsG (gotM_rng h0 hsG) (by omega) g.Terms.length) rfl ?_)
    rintro v V ⟨Ah, ch, rfl, rfl⟩
    refine ⟨Ent.wk (Ent.refl _), ?_⟩
    simp only [List.cons_append, List.nil_append]
    refine q_1 12 (by decide +kernel) rfl rfl rfl (o_lit (ps := [(0, .slice Ah ((lrGs g)[s].length - g.Terms.length) ch)]) (cs := [.slice Ah ((lrGs g)[s].length - g.Terms.length) ch]) rfl rfl rfl rfl rfl rfl rfl (fun bl2 => ⟨Ent.wk (Ent.wk (Ent.refl _)), ?_⟩))
    refine q_z 13 (by decide +kernel) rfl rfl (o_app1 (m := 1) (news := [.slice Ah ((lrGs g)[s].length - g.Terms.length) ch]) rfl rfl rfl rfl to uv rfl rfl rfl rfl (by omega) (by simp only; omega) rfl (by decide) (fun bh cb => ?_))
    refine p_barU 15 ?_
    refine q_n 14 rfl (peval_sound rfl) (by decide +kernel) (by decide +kernel) (Ent.refl _) rfl ?_
    refine q_z 15 (by decide +kernel) rfl rfl (o_storeC rfl rfl rfl rfl tc uc rfl rfl rfl ?_)
    refine p_done (by decide +kernel) ?_
    repeat' (first | refine e_nil ?_ | ((refine e_op ?_); (refine o_n (peval_sound rfl) rfl ?_)) | refine s_region ?_ | refine s_end ?_)
    refine s_back ⟨⟨⟨s + 1, some ⟨ba, 0, none⟩, ca, acs ++ [(some ⟨bR, 0, none⟩, g.Terms.length)], some ⟨bh, 0, none⟩, cb, hcs ++ [(Ah, ch)], AC, cC⟩, by simp only; omega, by simp [hacs], by simp [hhcs]⟩, by simp only; omega, ?_, ?_⟩
    · repeat' (first | exact Sub.nil _ | refine Sub.cons rfl ?_ | refine Sub.consE rfl ?_ ?_)
      exact inc (i := s) (by omega)
    · simp only
      have hdl : ((lrGs g)[s].drop g.Terms.length).length = (lrGs g)[s].length - g.Terms.length := List.length_drop
      have e51 : osl 51 2 (.slice (some ⟨bR, 0, none⟩) g.Terms.length g.Terms.length) g.Terms.length (encAs (actRow g s)) = rowA encAs 2 51 (some ⟨bR, 0, none⟩, g.Terms.length) (actRow g s) := by unfold rowA; simp only [hrl]
      have e3 : osl 3 1 (.slice Ah ((lrGs g)[s].length - g.Terms.length) ch) ((lrGs g)[s].length - g.Terms.length) (((lrGs g)[s].drop g.Terms.length).map (Value.int .i64)) = rowA (fun l : List Int => l.map (Value.int .i64)) 1 3 (Ah, ch) ((lrGs g)[s].drop g.Terms.length) := by unfold rowA; simp only [hdl]
      have r1 : rowC (acs ++ [(some ⟨bR, 0, none⟩, g.Terms.length)]) (actM g s ++ [actRow g s]) = rowC acs (actM g s) ++ [.slice (some ⟨bR, 0, none⟩) g.Terms.length g.Terms.length] := by rw [Go.Proofs.YtcnpjhaedjncdaaDoor.E.rowC_snoc (by rw [actM_len]; exact hacs), hrl]
      have r2 : rowC (hcs ++ [(Ah, ch)]) (gotM g s ++ [(lrGs g)[s].drop g.Terms.length]) = rowC hcs (gotM g s) ++ [.slice Ah ((lrGs g)[s].length - g.Terms.length) ch] := by rw [Go.Proofs.YtcnpjhaedjncdaaDoor.E.rowC_snoc (by rw [hgl]; exact hhcs), hdl]
      unfold actS gotS
      rw [actM_succ, gotM_succ hsG, r1, r2, claTo_next, decTo_next, e51, e3]
      refine Ent.blkC tc rfl (Ent.tak tk (Ent.snocB ta ta (by rw [actM_len]; exact hacs) (Ent.tak tk (Ent.snocB ta ta (by rw [hgl]; exact hhcs) ?_))))
      repeat' (first | exact Ent.nil _ | refine Ent.tak tk ?_)
  rw [decide_eq_false (p := (s : Int) < ((lrKs g).length : Int)) (by omega)]
  obtain rfl : s = (lrKs g).length := by omega
  repeat' (first | refine e_nil ?_ | ((refine e_op ?_); (first | refine o_n (peval_sound rfl) rfl ?_ | refine o_n (nl rfl rfl tc rfl) rfl ?_)) | refine s_seq ?_ | refine s_region ?_ | refine s_exit ?_ | refine s_false rfl ?_ | refine x_hit ?_ | refine x_code ?_ | refine x_back ?_)
  have hca : claTo g (lrKs g).length 0 = claA g := rfl
  have hda : decTo g (lrKs g).length 0 = decN g := rfl
  have hma : actM g (lrKs g).length = actA g := rfl
  have hga : gotM g (lrKs g).length = gotA g := gotM_all (by omega)
  rw [hca, hda, hma, hga]
  have hpc : pCla g = claA g := by unfold pCla; rw [if_pos h0]
  have hal2 : (actA g).length = (lrKs g).length := actM_len g _
  have hgl2 : (gotA g).length = (lrKs g).length := by rw [← hga]; exact gotM_len (by omega)
  by_cases hcl : claA g = []
  · have hE : actE g = 0 := by unfold actE; rw [if_neg (by rw [h0]; simp), if_neg (by rw [hcl]; simp)]
    have e1 : pAct g = actA g := by unfold pAct; rw [if_pos hE]
    have e2 : pGot g = gotA g := by unfold pGot; rw [if_pos hE]
    have e4 : pDec g = decN g := by unfold pDec; rw [if_pos hE]
    rw [e1, e2, e4, hpc, hE]
    rw [show decide (((claA g).length : Int) > 0) = false by rw [hcl]; rfl]
    repeat' (first | refine e_nil ?_ | ((refine e_op ?_); (first | refine o_n (peval_sound rfl) rfl ?_ | refine o_n (nl rfl rfl tc rfl) rfl ?_ | refine o_storeC rfl rfl rfl rfl tc uc rfl rfl rfl ?_)) | refine s_seq ?_ | refine s_region ?_ | refine s_skip ?_ | refine s_false rfl ?_)
    refine s_ret ⟨_, _, resc2 rfl rfl rfl TakC.tak (ld_all (n := 4) rfl rfl rfl rfl) rfl, ⟨_, AA, cA, acs, AH, cH, hcs, AC, cC, rfl, ⟨by rw [hal2]; exact hacs, by rw [hgl2]; exact hhcs, by rw [hal2, hgl2]; rfl, rfl⟩⟩, ?_⟩
    rw [hal2, hgl2]
    repeat' (first | exact Ent.nil _ | refine Ent.tak tk ?_)
  · have hE : actE g = 210 := by unfold actE; rw [if_neg (by rw [h0]; simp), if_pos hcl]
    have e1 : pAct g = [] := by unfold pAct; rw [hE, if_neg (by decide)]
    have e2 : pGot g = [] := by unfold pGot; rw [hE, if_neg (by decide)]
    have e4 : pDec g = 0 := by unfold pDec; rw [hE, if_neg (by decide)]
    have hlp := List.length_pos_iff.2 hcl
    rw [e1, e2, e4, hpc, hE]
    rw [show decide (((claA g).length : Int) > 0) = true by rw [decide_eq_true_eq]; omega]
    repeat' (first | refine e_nil ?_ | ((refine e_op ?_); (first | refine o_n (peval_sound rfl) rfl ?_ | refine o_n (nl rfl rfl tc rfl) rfl ?_ | refine o_storeC rfl rfl rfl rfl tc uc rfl rfl rfl ?_)) | refine s_seq ?_ | refine s_region ?_ | refine s_true rfl ?_)
    refine s_ret ⟨_, _, resc2 rfl rfl rfl TakC.tak (ld_all (n := 4) rfl rfl rfl rfl) rfl, ⟨_, none, 0, [], none, 0, [], AC, cC, rfl, ⟨rfl, rfl, rfl, rfl⟩⟩, ?_⟩
    refine Ent.trans ?_ (ent_act2 (U := [claS AC (claA g).length cC (claA g)]))
    repeat' (first | exact Ent.nil _ | refine Ent.tak tk ?_)

end Go.Proofs.YtcnpjhaedjncdaaDoor

namespace Go.Proofs.YtcnpjhaedjncdaaDoor
set_option linter.all false
open Go.Proofs.YtcnpjhaedjncdaaDoor.E

def cRow (st : Stt) (g : Gram) (s k : Nat) : Bits := if (⟨s, ⟨k, (prd g k).Right.length⟩⟩ : Plc) ∈ st.ks then (getB st.ks st.bs ⟨s, ⟨k, (prd g k).Right.length⟩⟩).take g.Terms.length else []
def cTold (st : Stt) (GS : List (List Int)) (g : Gram) (s t : Nat) : List Acn :=
  (if 0 ≤ (GS.getD s []).getD t (-1) then [⟨1, (GS.getD s []).getD t (-1)⟩] else []) ++ ((List.range g.Prods.length).filter fun k => (cRow st g s k).getD t false).map redA
def cCla (st : Stt) (GS : List (List Int)) (g : Gram) (S : Nat) : List (Nat × Nat) := (cellsTo g.Terms.length S 0).filter fun c => claL g (cTold st GS g c.1 c.2) c.2
def cDec (st : Stt) (GS : List (List Int)) (g : Gram) (S : Nat) : Nat := (cellsTo g.Terms.length S 0).countP fun c => decL g (cTold st GS g c.1 c.2) c.2
theorem told_c {g : Gram} {n : Nat} (h : laFin g = laN g n) (s t : Nat) : told g s t = cTold (laN g n) (lrGs g) g s t := by
  unfold told toldN redsN lab laRow
  rw [h]; rfl
theorem claA_c {g : Gram} {n S : Nat} (h : laFin g = laN g n) (hS : (lrKs g).length = S) : claA g = cCla (laN g n) (lrGs g) g S := by
  unfold claA claTo cCla claB
  simp only [told_c h, hS]
theorem decN_c {g : Gram} {n S : Nat} (h : laFin g = laN g n) (hS : (lrKs g).length = S) : decN g = cDec (laN g n) (lrGs g) g S := by
  unfold decN decTo cDec decB
  simp only [told_c h, hS]
theorem actC_c {g : Gram} {n : Nat} (h : laFin g = laN g n) (s t : Nat) : actC g s t = actL g (cTold (laN g n) (lrGs g) g s t) t := by
  unfold actC; rw [told_c h]

abbrev emP (l : Int) (r : List Int) : Prd := ⟨l, r, zL⟩
/-- The chapter's grammar, with a level. -/
def gS (x : Lev) : Gram := ⟨List.replicate 3 emS, [zL, zL, x], [], List.replicate 2 emS, [emP 0 [4], ⟨1, [4, 2, 4], x⟩, emP 1 [1]]⟩
def gTwo : Gram := ⟨List.replicate 2 emS, [⟨1, 1⟩, zL], [], List.replicate 4 emS, [emP 0 [3], emP 1 [4], emP 1 [5], ⟨2, [1], ⟨1, 1⟩⟩, ⟨3, [1], ⟨2, 1⟩⟩]⟩
def gSam : Gram := ⟨List.replicate 2 emS, List.replicate 2 zL, [], List.replicate 2 emS, [emP 0 [3], emP 1 [3], emP 1 [1]]⟩
def gBoth : Gram := ⟨List.replicate 4 emS, [zL, zL, ⟨1, 1⟩, ⟨2, 2⟩], [], List.replicate 2 emS, [emP 0 [5], ⟨1, [5, 2, 5], ⟨1, 1⟩⟩, ⟨1, [5, 3, 5], ⟨2, 2⟩⟩, emP 1 [1]]⟩
def gHalf : Gram := ⟨List.replicate 4 emS, [zL, zL, ⟨1, 1⟩, ⟨2, 2⟩], [], List.replicate 2 emS, [emP 0 [5], emP 1 [5, 2, 5], ⟨1, [5, 3, 5], ⟨2, 2⟩⟩, emP 1 [1]]⟩
def gHang : Gram := ⟨List.replicate 4 emS, List.replicate 4 zL, [], List.replicate 2 emS, [emP 0 [5], emP 1 [1, 5], emP 1 [1, 5, 2, 5], emP 1 [3]]⟩
def gHan2 : Gram := ⟨List.replicate 4 emS, [zL, zL, ⟨2, 3⟩, zL], [], List.replicate 2 emS, [emP 0 [5], ⟨1, [1, 5], ⟨1, 3⟩⟩, emP 1 [1, 5, 2, 5], emP 1 [3]]⟩

end Go.Proofs.YtcnpjhaedjncdaaDoor

namespace Go.Proofs.YtcnpjhaedjncdaaDoor
set_option linter.all false
open Go.Proofs.YtcnpjhaedjncdaaDoor.E

theorem actE_210 {g : Gram} (h : lrE g = 0) (hc : claA g ≠ []) : actE g = 210 := by unfold actE; rw [if_neg (by rw [h]; simp), if_pos hc]
theorem actE_0 {g : Gram} (h : lrE g = 0) (hc : claA g = []) : actE g = 0 := by unfold actE; rw [if_neg (by rw [h]; simp), if_neg (by rw [hc]; simp)]
theorem s0_check : checkE (gS zL) = 0 := by decide +kernel
theorem s0_lrE : lrE (gS zL) = 0 := by decide +kernel
theorem s0_len : (lrKs (gS zL)).length = 5 := by decide +kernel
theorem s0_gs : lrGs (gS zL) = [[-1, 1, -1, -1, 2], [-1, -1, -1, -1, -1], [-1, -1, 3, -1, -1], [-1, 1, -1, -1, 4], [-1, -1, 3, -1, -1]] := by decide +kernel
theorem s0_fin : laFin (gS zL) = laN (gS zL) 15 := laFin_eq (td_nil (by unfold laN; rw [s0_gs]; decide +kernel))
theorem s0_cla : claA (gS zL) = [(4, 2)] := by rw [claA_c s0_fin s0_len]; unfold laN; rw [s0_gs]; decide +kernel
theorem s0_e : actE (gS zL) = 210 := actE_210 s0_lrE (by rw [s0_cla]; simp)
theorem s1_check : checkE (gS ⟨1, 1⟩) = 0 := by decide +kernel
theorem s1_lrE : lrE (gS ⟨1, 1⟩) = 0 := by decide +kernel
theorem s1_len : (lrKs (gS ⟨1, 1⟩)).length = 5 := by decide +kernel
theorem s1_gs : lrGs (gS ⟨1, 1⟩) = [[-1, 1, -1, -1, 2], [-1, -1, -1, -1, -1], [-1, -1, 3, -1, -1], [-1, 1, -1, -1, 4], [-1, -1, 3, -1, -1]] := by decide +kernel
theorem s1_fin : laFin (gS ⟨1, 1⟩) = laN (gS ⟨1, 1⟩) 15 := laFin_eq (td_nil (by unfold laN; rw [s1_gs]; decide +kernel))
theorem s1_cla : claA (gS ⟨1, 1⟩) = [] := by rw [claA_c s1_fin s1_len]; unfold laN; rw [s1_gs]; decide +kernel
theorem s1_dec : decN (gS ⟨1, 1⟩) = 1 := by rw [decN_c s1_fin s1_len]; unfold laN; rw [s1_gs]; decide +kernel
theorem s1_e : actE (gS ⟨1, 1⟩) = 0 := actE_0 s1_lrE s1_cla
theorem s2_check : checkE (gS ⟨1, 2⟩) = 0 := by decide +kernel
theorem s2_lrE : lrE (gS ⟨1, 2⟩) = 0 := by decide +kernel
theorem s2_len : (lrKs (gS ⟨1, 2⟩)).length = 5 := by decide +kernel
theorem s2_gs : lrGs (gS ⟨1, 2⟩) = [[-1, 1, -1, -1, 2], [-1, -1, -1, -1, -1], [-1, -1, 3, -1, -1], [-1, 1, -1, -1, 4], [-1, -1, 3, -1, -1]] := by decide +kernel
theorem s2_fin : laFin (gS ⟨1, 2⟩) = laN (gS ⟨1, 2⟩) 15 := laFin_eq (td_nil (by unfold laN; rw [s2_gs]; decide +kernel))
theorem s2_cla : claA (gS ⟨1, 2⟩) = [] := by rw [claA_c s2_fin s2_len]; unfold laN; rw [s2_gs]; decide +kernel
theorem s2_dec : decN (gS ⟨1, 2⟩) = 1 := by rw [decN_c s2_fin s2_len]; unfold laN; rw [s2_gs]; decide +kernel
theorem s2_e : actE (gS ⟨1, 2⟩) = 0 := actE_0 s2_lrE s2_cla
theorem s3_check : checkE (gS ⟨1, 3⟩) = 0 := by decide +kernel
theorem s3_lrE : lrE (gS ⟨1, 3⟩) = 0 := by decide +kernel
theorem s3_len : (lrKs (gS ⟨1, 3⟩)).length = 5 := by decide +kernel
theorem s3_gs : lrGs (gS ⟨1, 3⟩) = [[-1, 1, -1, -1, 2], [-1, -1, -1, -1, -1], [-1, -1, 3, -1, -1], [-1, 1, -1, -1, 4], [-1, -1, 3, -1, -1]] := by decide +kernel
theorem s3_fin : laFin (gS ⟨1, 3⟩) = laN (gS ⟨1, 3⟩) 15 := laFin_eq (td_nil (by unfold laN; rw [s3_gs]; decide +kernel))
theorem s3_cla : claA (gS ⟨1, 3⟩) = [] := by rw [claA_c s3_fin s3_len]; unfold laN; rw [s3_gs]; decide +kernel
theorem s3_dec : decN (gS ⟨1, 3⟩) = 1 := by rw [decN_c s3_fin s3_len]; unfold laN; rw [s3_gs]; decide +kernel
theorem s3_e : actE (gS ⟨1, 3⟩) = 0 := actE_0 s3_lrE s3_cla
theorem two_check : checkE (gTwo) = 0 := by decide +kernel
theorem two_lrE : lrE (gTwo) = 0 := by decide +kernel
theorem two_len : (lrKs (gTwo)).length = 5 := by decide +kernel
theorem two_gs : lrGs (gTwo) = [[-1, 1, -1, 2, 3, 4], [-1, -1, -1, -1, -1, -1], [-1, -1, -1, -1, -1, -1], [-1, -1, -1, -1, -1, -1], [-1, -1, -1, -1, -1, -1]] := by decide +kernel
theorem two_fin : laFin (gTwo) = laN (gTwo) 10 := laFin_eq (td_nil (by unfold laN; rw [two_gs]; decide +kernel))
theorem two_cla : claA (gTwo) = [(1, 0)] := by rw [claA_c two_fin two_len]; unfold laN; rw [two_gs]; decide +kernel
theorem two_e : actE (gTwo) = 210 := actE_210 two_lrE (by rw [two_cla]; simp)
theorem sam_check : checkE (gSam) = 0 := by decide +kernel
theorem sam_lrE : lrE (gSam) = 0 := by decide +kernel
theorem sam_len : (lrKs (gSam)).length = 3 := by decide +kernel
theorem sam_gs : lrGs (gSam) = [[-1, 1, -1, 2], [-1, -1, -1, -1], [-1, -1, -1, -1]] := by decide +kernel
theorem sam_fin : laFin (gSam) = laN (gSam) 6 := laFin_eq (td_nil (by unfold laN; rw [sam_gs]; decide +kernel))
theorem sam_cla : claA (gSam) = [(2, 0)] := by rw [claA_c sam_fin sam_len]; unfold laN; rw [sam_gs]; decide +kernel
theorem sam_e : actE (gSam) = 210 := actE_210 sam_lrE (by rw [sam_cla]; simp)
theorem bo_check : checkE (gBoth) = 0 := by decide +kernel
theorem bo_lrE : lrE (gBoth) = 0 := by decide +kernel
theorem bo_len : (lrKs (gBoth)).length = 7 := by decide +kernel
theorem bo_gs : lrGs (gBoth) = [[-1, 1, -1, -1, -1, 2], [-1, -1, -1, -1, -1, -1], [-1, -1, 3, 4, -1, -1], [-1, 1, -1, -1, -1, 5], [-1, 1, -1, -1, -1, 6], [-1, -1, 3, 4, -1, -1], [-1, -1, 3, 4, -1, -1]] := by decide +kernel
theorem bo_fin : laFin (gBoth) = laN (gBoth) 40 := laFin_eq (td_nil (by unfold laN; rw [bo_gs]; decide +kernel))
theorem bo_cla : claA (gBoth) = [] := by rw [claA_c bo_fin bo_len]; unfold laN; rw [bo_gs]; decide +kernel
theorem bo_dec : decN (gBoth) = 4 := by rw [decN_c bo_fin bo_len]; unfold laN; rw [bo_gs]; decide +kernel
theorem bo_e : actE (gBoth) = 0 := actE_0 bo_lrE bo_cla
theorem ha_check : checkE (gHalf) = 0 := by decide +kernel
theorem ha_lrE : lrE (gHalf) = 0 := by decide +kernel
theorem ha_len : (lrKs (gHalf)).length = 7 := by decide +kernel
theorem ha_gs : lrGs (gHalf) = [[-1, 1, -1, -1, -1, 2], [-1, -1, -1, -1, -1, -1], [-1, -1, 3, 4, -1, -1], [-1, 1, -1, -1, -1, 5], [-1, 1, -1, -1, -1, 6], [-1, -1, 3, 4, -1, -1], [-1, -1, 3, 4, -1, -1]] := by decide +kernel
theorem ha_fin : laFin (gHalf) = laN (gHalf) 40 := laFin_eq (td_nil (by unfold laN; rw [ha_gs]; decide +kernel))
theorem ha_cla : claA (gHalf) = [(5, 2), (5, 3)] := by rw [claA_c ha_fin ha_len]; unfold laN; rw [ha_gs]; decide +kernel
theorem ha_e : actE (gHalf) = 210 := actE_210 ha_lrE (by rw [ha_cla]; simp)
theorem hn_check : checkE (gHang) = 0 := by decide +kernel
theorem hn_lrE : lrE (gHang) = 0 := by decide +kernel
theorem hn_len : (lrKs (gHang)).length = 7 := by decide +kernel
theorem hn_gs : lrGs (gHang) = [[-1, 1, -1, 2, -1, 3], [-1, 1, -1, 2, -1, 4], [-1, -1, -1, -1, -1, -1], [-1, -1, -1, -1, -1, -1], [-1, -1, 5, -1, -1, -1], [-1, 1, -1, 2, -1, 6], [-1, -1, -1, -1, -1, -1]] := by decide +kernel
theorem hn_fin : laFin (gHang) = laN (gHang) 24 := laFin_eq (td_nil (by unfold laN; rw [hn_gs]; decide +kernel))
theorem hn_cla : claA (gHang) = [(4, 2)] := by rw [claA_c hn_fin hn_len]; unfold laN; rw [hn_gs]; decide +kernel
theorem hn_e : actE (gHang) = 210 := actE_210 hn_lrE (by rw [hn_cla]; simp)
theorem h2_check : checkE (gHan2) = 0 := by decide +kernel
theorem h2_lrE : lrE (gHan2) = 0 := by decide +kernel
theorem h2_len : (lrKs (gHan2)).length = 7 := by decide +kernel
theorem h2_gs : lrGs (gHan2) = [[-1, 1, -1, 2, -1, 3], [-1, 1, -1, 2, -1, 4], [-1, -1, -1, -1, -1, -1], [-1, -1, -1, -1, -1, -1], [-1, -1, 5, -1, -1, -1], [-1, 1, -1, 2, -1, 6], [-1, -1, -1, -1, -1, -1]] := by decide +kernel
theorem h2_fin : laFin (gHan2) = laN (gHan2) 24 := laFin_eq (td_nil (by unfold laN; rw [h2_gs]; decide +kernel))
theorem h2_cla : claA (gHan2) = [] := by rw [claA_c h2_fin h2_len]; unfold laN; rw [h2_gs]; decide +kernel
theorem h2_dec : decN (gHan2) = 1 := by rw [decN_c h2_fin h2_len]; unfold laN; rw [h2_gs]; decide +kernel
theorem h2_e : actE (gHan2) = 0 := actE_0 h2_lrE h2_cla
theorem s1_42 : actC (gS ⟨1, 1⟩) 4 2 = ⟨2, 1⟩ := by rw [actC_c s1_fin]; unfold laN; rw [s1_gs]; decide +kernel
theorem s2_42 : actC (gS ⟨1, 2⟩) 4 2 = ⟨1, 3⟩ := by rw [actC_c s2_fin]; unfold laN; rw [s2_gs]; decide +kernel
theorem s3_42 : actC (gS ⟨1, 3⟩) 4 2 = ac0 := by rw [actC_c s3_fin]; unfold laN; rw [s3_gs]; decide +kernel

end Go.Proofs.YtcnpjhaedjncdaaDoor

namespace Go.Proofs.YtcnpjhaedjncdaaDoor
set_option linter.all false
open Go.Proofs.YtcnpjhaedjncdaaDoor.E
attribute [local irreducible] EVX EVO EVL EV1 NEV
set_option maxRecDepth 10000
set_option maxHeartbeats 1000000

theorem flat_lev : Flat kLev := flat_iso (flat_pair flat_int flat_int)
theorem onec_lev : OneC kLev := onec_iso (onec_pair onec_int onec_int)
theorem flat_pt : Flat kPt := flat_iso (flat_pair flat_int flat_str)
theorem onec_pt : OneC kPt := onec_iso (onec_pair onec_int onec_str)

theorem copy_w (cs : List Value) (g : Gram) : Trip Tryd.prog 16 [.agg cs.toArray] (kGram.rd cs g) [] 
    (fun v V => ∃ (a0 a1 a2 a3 a4 : Option Addr) (d0 d1 d2 d3 d4 : Nat), v = .agg #[.slice a0 g.Terms.length d0, .slice a1 g.Levels.length d1, .slice a2 g.Pats.length d2, .slice a3 g.Nons.length d3, .slice a4 g.Prods.length d4] ∧
      V = [rdA kGram [.slice a0 g.Terms.length d0, .slice a1 g.Levels.length d1, .slice a2 g.Pats.length d2, .slice a3 g.Nons.length d3, .slice a4 g.Prods.length d4] g]) := by
  refine trip Tryd.tabOk Tryd.func16 rfl rfl rfl rfl ?_
  intro w SM hR
  obtain ⟨A0, A1, A2, A3, A4, c0, c1, c2, c3, c4, rfl, hG⟩ := kGram_open hR
  have hT := hG.terms.2.1
  have hL := hG.levels.2.1
  have hPt := hG.pats.2.1
  have hN := hG.nons.2.1
  have hP := hG.prods.2.1
  have hT' := sl_mk hG.terms
  have hL' := sl_mk hG.levels
  have hPt' := sl_mk hG.pats
  have hN' := sl_mk hG.nons
  repeat' (first | refine e_nil ?_ | ((refine e_op ?_); (first | refine o_box rfl rfl (fun _ => ?_) | refine o_alloc rfl rfl (fun _ => ?_))) | refine s_seq ?_ | refine s_region ?_)
  rename_i b1 b2
  refine s_anyU Tryd.mixed ?_
  refine a_join (ι := Nat × (Option Addr × Nat) × (Option Addr × Nat) × (Option Addr × Nat) × (Option Addr × Nat))
    (fun x => [(1, .pointer (some ⟨b1, 0, none⟩)), (2, .pointer (some ⟨b2, 0, none⟩)), (3, .pointer (some ⟨x.1, 0, none⟩))])
    (fun x => [blk x.1 27 [.slice x.2.1.1 g.Terms.length x.2.1.2, .slice x.2.2.1.1 g.Levels.length x.2.2.1.2, .slice x.2.2.2.1.1 g.Pats.length x.2.2.2.1.2, .slice x.2.2.2.2.1 g.Nons.length x.2.2.2.2.2, .slice none 0 0],
      blk b2 27 [.slice none 0 0, .slice none 0 0, .slice none 0 0, .slice none 0 0, .slice none 0 0],
      blk b1 27 [.slice A0 g.Terms.length c0, .slice A1 g.Levels.length c1, .slice A2 g.Pats.length c2, .slice A3 g.Nons.length c3, .slice A4 g.Prods.length c4],
      rdA (kslice 16 kstr) [.slice x.2.1.1 g.Terms.length x.2.1.2] g.Terms, rdA (kslice 16 kLev) [.slice x.2.2.1.1 g.Levels.length x.2.2.1.2] g.Levels,
      rdA (kslice 24 kPt) [.slice x.2.2.2.1.1 g.Pats.length x.2.2.2.1.2] g.Pats, rdA (kslice 16 kstr) [.slice x.2.2.2.2.1 g.Nons.length x.2.2.2.2.2] g.Nons]) ?_ (fun hfin => ?_)
  · rintro ⟨b3, ⟨a0, d0⟩, ⟨a1, d1⟩, ⟨a2, d2⟩, a3, d3⟩
    simp only
    repeat' (first | refine e_nil ?_ | ((refine e_op ?_); (refine o_n (peval_sound rfl) rfl ?_)) | refine s_seq ?_ | refine s_region ?_ | refine s_block ?_)
    have ent0 : ∀ {W : List Asn}, Ent W (rdL kPrd [] [] :: W) := ent_nilL
    refine s_loopK (ι := {x : Nat × Option Addr × Nat × List (List Value) // x.1 ≤ g.Prods.length}) [1, 2, 3] rfl ⟨(0, none, 0, []), by simp⟩ (fun x => [(4, .int .i64 x.1.1)])
      (fun x => [blk b3 27 [.slice a0 g.Terms.length d0, .slice a1 g.Levels.length d1, .slice a2 g.Pats.length d2, .slice a3 g.Nons.length d3, .slice x.1.2.1 x.1.1 x.1.2.2.1],
        blk b2 27 [.slice none 0 0, .slice none 0 0, .slice none 0 0, .slice none 0 0, .slice none 0 0],
        blk b1 27 [.slice A0 g.Terms.length c0, .slice A1 g.Levels.length c1, .slice A2 g.Pats.length c2, .slice A3 g.Nons.length c3, .slice A4 g.Prods.length c4],
        osl 61 4 (.slice x.1.2.1 x.1.1 x.1.2.2.1) x.1.1 x.1.2.2.2.flatten, rdL kPrd x.1.2.2.2 (g.Prods.take x.1.1),
        rdA (kslice 16 kstr) [.slice a0 g.Terms.length d0] g.Terms, rdA (kslice 16 kLev) [.slice a1 g.Levels.length d1] g.Levels,
        rdA (kslice 24 kPt) [.slice a2 g.Pats.length d2] g.Pats, rdA (kslice 16 kstr) [.slice a3 g.Nons.length d3] g.Nons])
      (fun x => g.Prods.length - x.1.1) ?_ ?_ ?_
    · repeat' (first | exact Sub.nil _ | refine Sub.cons rfl ?_)
    · exact Ent.tak .z (Ent.tak .z (Ent.tak .z (Ent.osl0 ent0)))
    rintro ⟨⟨i, Ap, cp, ess⟩, hi⟩
    simp only at hi ⊢
    repeat' (first | refine e_nil ?_ | ((refine e_op ?_); (first | refine o_n (peval_sound rfl) rfl ?_ | refine o_n (nl rfl rfl tc rfl) rfl ?_)) | refine s_seq ?_ | refine s_region ?_)
    refine s_cond rfl (fun h => ?_) (fun h => ?_)
    · have hlt : i < g.Prods.length := by have := of_decide_eq_true h; omega
      clear h
      obtain ⟨b, o, es, rfl, hb, he, hc⟩ := hG.prods.2.2 i hlt
      obtain ⟨Ar, cr, rfl, hl, hlN, hlK, hri⟩ := kPrd_open he
      have hrl := hri.2.1
      repeat' (first | ((refine e_op ?_); (first | refine o_n (peval_sound rfl) rfl ?_ | refine o_n (nl rfl rfl tc rfl) rfl ?_)) | refine s_seq ?_ | refine s_region ?_ | refine s_block ?_ | refine s_skip ?_)
      refine e_op (o_n (n_index rfl rfl rfl rfl i rfl hlt) rfl ?_)
      refine e_op (o_n (n_load_ro rfl rfl hb (loads_agg rfl rfl hc)) rfl ?_)
      repeat' (first | refine e_nil ?_ | ((refine e_op ?_); (first | refine o_n (peval_sound rfl) rfl ?_ | refine o_n (nl rfl rfl tc rfl) rfl ?_ | refine o_storeC rfl rfl rfl rfl tc uc rfl rfl rfl ?_ | refine o_alloc rfl rfl (fun _ => ?_))) | refine s_seq ?_ | refine s_region ?_)
      rename_i b5
      refine e_op (o_copy flat_int onec_int rfl rfl rfl rfl rfl (Can.ro (sl_mk hri)) rfl rfl hrl rfl rfl rfl (fun A' c' => ?_))
      repeat' (first | refine e_nil ?_ | ((refine e_op ?_); (first | refine o_n (peval_sound rfl) rfl ?_ | refine o_n (nl rfl rfl tc rfl) rfl ?_ | refine o_storeC rfl rfl rfl rfl tc uc rfl rfl rfl ?_)) | refine s_region ?_)
      refine e_op (o_lit (ps := [(0, .agg #[.int .i64 g.Prods[i].Left, .slice A' g.Prods[i].Right.length c', .int .i64 g.Prods[i].L.N, .int .i64 g.Prods[i].L.Kind])])
        (cs := [.int .i64 g.Prods[i].Left, .slice A' g.Prods[i].Right.length c', .int .i64 g.Prods[i].L.N, .int .i64 g.Prods[i].L.Kind]) rfl rfl rfl rfl rfl rfl rfl (fun b9 => ?_))
      refine e_op (o_append (v := .slice Ap i cp) (n := i) (m := 1) (news := [.int .i64 g.Prods[i].Left, .slice A' g.Prods[i].Right.length c', .int .i64 g.Prods[i].L.N, .int .i64 g.Prods[i].L.Kind]) _ rfl rfl rfl rfl (fun w hm j u hu => ?_) rfl ?_ rfl (by omega)
        (by simp only; omega) (by omega) rfl (fun b c => .s (.s (.s (.s (.s (.s .z)))))) (fun ba ca => ?_))
      · obtain ⟨S1, hP, _⟩ := hm.tak Tak.z
        rw [Nat.zero_add]
        exact osl_cells hP j u hu
      · intro u hu
        simp only [List.mem_cons, List.not_mem_nil, or_false] at hu
        rcases hu with rfl | rfl | rfl | rfl <;> rfl
      repeat' (first | refine e_nil ?_ | ((refine e_op ?_); (first | refine o_n (peval_sound rfl) rfl ?_ | refine o_storeC rfl rfl rfl rfl tc uc rfl rfl rfl ?_)) | refine s_region ?_ | refine s_end ?_)
      refine s_back ⟨⟨(i + 1, some ⟨ba, 0, none⟩, ca, ess ++ [[.int .i64 g.Prods[i].Left, .slice A' g.Prods[i].Right.length c', .int .i64 g.Prods[i].L.N, .int .i64 g.Prods[i].L.Kind]]), by simp only; omega⟩, by simp only; omega, ?_, ?_⟩
      · repeat' (first | exact Sub.nil _ | refine Sub.cons rfl ?_ | refine Sub.consE rfl ?_ ?_)
        exact inc (i := i) (by omega)
      · simp only [List.take_succ_eq_append_getElem hlt, List.flatten_append, List.flatten_cons, List.flatten_nil, List.append_nil]
        refine Ent.tak (.s (.s (.s .z))) (Ent.tak (.s (.s (.s .z))) (Ent.tak (.s (.s (.s .z))) (Ent.tak (.s (.s (.s .z))) (Ent.wk ?_))))
        refine Ent.trans (Ent.tak (.s (.s .z)) (Ent.refl _)) ?_
        refine Ent.trans (Ent.cons (Ent.one (C := rdA kPrd [.int .i64 g.Prods[i].Left, .slice A' g.Prods[i].Right.length c', .int .i64 g.Prods[i].L.N, .int .i64 g.Prods[i].L.Kind] g.Prods[i]) fun w S h => ?_)) (ent_snoc.trans (Ent.cons (Ent.wk (Ent.refl _))))
        obtain ⟨A2, c2, e, h2⟩ := h
        cases e
        exact kPrd_mk hl hlN hlK h2
    · have hge : i = g.Prods.length := by have := of_decide_eq_false h; omega
      subst hge
      clear h
      rw [List.take_length]
      repeat' (first | refine e_nil ?_ | ((refine e_op ?_); (first | refine o_n (nl rfl rfl tc rfl) rfl ?_ | refine o_storeC rfl rfl rfl rfl tc uc rfl rfl rfl ?_)) | refine s_seq ?_ | refine s_region ?_ | refine s_exit ?_ | refine x_hit ?_ | refine x_code ?_ | refine x_back ?_)
      refine s_ret ⟨_, _, resc rfl rfl rfl (.s .z) rfl, ⟨_, _, _, _, _, _, _, _, _, _, rfl, rfl⟩, ?_⟩
      refine Ent.wk (Ent.wk (Ent.wk ((ent_slice (bytes := 48) (k := kPrd) rfl hP).trans ?_)))
      refine Ent.trans (Ent.tak (.s (.s (.s (.s .z)))) (Ent.refl _)) (ent_pair.trans ?_)
      refine Ent.trans (Ent.tak (.s (.s (.s .z))) (Ent.refl _)) (ent_pair.trans ?_)
      refine Ent.trans (Ent.tak (.s (.s .z)) (Ent.refl _)) (ent_pair.trans ?_)
      refine Ent.trans (Ent.tak (.s .z) (Ent.refl _)) (ent_pair.trans ?_)
      exact Ent.one fun w S h => h
  · refine a_n 0 rfl (peval_sound rfl) (by decide +kernel) (Ent.refl _) rfl ?_
    refine a_n 1 rfl (n_load rfl rfl (.s .z) rfl) (by decide +kernel) (Ent.refl _) rfl ?_
    refine a_n 3 rfl (peval_sound rfl) (by decide +kernel) (Ent.refl _) rfl ?_
    refine a_n 4 rfl (n_load rfl rfl (.s .z) rfl) (by decide +kernel) (Ent.refl _) rfl ?_
    refine a_n 6 rfl (peval_sound rfl) (by decide +kernel) (Ent.refl _) rfl ?_
    refine a_n 7 rfl (n_load rfl rfl (.s .z) rfl) (by decide +kernel) (Ent.refl _) rfl ?_
    refine a_n 9 rfl (peval_sound rfl) (by decide +kernel) (Ent.refl _) rfl ?_
    refine a_n 10 rfl (n_load rfl rfl (.s .z) rfl) (by decide +kernel) (Ent.refl _) rfl ?_
    refine a_2 2 13 (by decide +kernel) rfl rfl rfl rfl (o_copy flat_str onec_str rfl rfl rfl rfl rfl (Can.ro hT') rfl rfl hT rfl rfl rfl (fun a0 d0 => ⟨(by (repeat' (first | exact Ent.refl _ | refine Ent.wk ?_))), ?_⟩)) (o_alloc rfl rfl (fun b3 => ⟨(by (repeat' (first | exact Ent.refl _ | refine Ent.wk ?_))), ?_⟩))
    · refine a_2 5 13 (by decide +kernel) rfl rfl rfl rfl (o_copy flat_lev onec_lev rfl rfl rfl rfl rfl (Can.ro hL') rfl rfl hL rfl rfl rfl (fun a1 d1 => ⟨(by (repeat' (first | exact Ent.refl _ | refine Ent.wk ?_))), ?_⟩)) (o_alloc rfl rfl (fun b3 => ⟨(by (repeat' (first | exact Ent.refl _ | refine Ent.wk ?_))), ?_⟩))
      · refine a_2 8 13 (by decide +kernel) rfl rfl rfl rfl (o_copy flat_pt onec_pt rfl rfl rfl rfl rfl (Can.ro hPt') rfl rfl hPt rfl rfl rfl (fun a2 d2 => ⟨(by (repeat' (first | exact Ent.refl _ | refine Ent.wk ?_))), ?_⟩)) (o_alloc rfl rfl (fun b3 => ⟨(by (repeat' (first | exact Ent.refl _ | refine Ent.wk ?_))), ?_⟩))
        · refine a_2 11 13 (by decide +kernel) rfl rfl rfl rfl (o_copy flat_str onec_str rfl rfl rfl rfl rfl (Can.ro hN') rfl rfl hN rfl rfl rfl (fun a3 d3 => ⟨(by (repeat' (first | exact Ent.refl _ | refine Ent.wk ?_))), ?_⟩)) (o_alloc rfl rfl (fun b3 => ⟨(by (repeat' (first | exact Ent.refl _ | refine Ent.wk ?_))), ?_⟩))
          · refine a_n 12 rfl (peval_sound rfl) (by decide +kernel) (by (repeat' (first | exact Ent.refl _ | refine Ent.wk ?_))) rfl ?_
            refine a_1 13 (by decide +kernel) rfl rfl (o_alloc rfl rfl (fun b3 => ⟨(by (repeat' (first | exact Ent.refl _ | refine Ent.wk ?_))), ?_⟩))
            refine a_1 14 (by decide +kernel) rfl rfl (o_store rfl rfl rfl rfl rfl rfl rfl .z ⟨(by (repeat' (first | exact Ent.refl _ | refine Ent.wk ?_))), ?_⟩)
            refine a_done (by decide +kernel) (s_weak ?_ ?_ (hfin (b3, (a0, d0), (a1, d1), (a2, d2), (a3, d3))))
            · repeat' (first | exact Sub.nil _ | refine Sub.cons rfl ?_)
            · repeat' (first | exact Ent.nil _ | refine Ent.tak tk ?_ | refine Ent.tak .z ?_)
          · refine a_1 11 (by decide +kernel) rfl rfl (o_copy flat_str onec_str rfl rfl rfl rfl rfl (Can.ro hN') rfl rfl hN rfl rfl rfl (fun a3 d3 => ⟨(by (repeat' (first | exact Ent.refl _ | refine Ent.wk ?_))), ?_⟩))
            refine a_n 12 rfl (peval_sound rfl) (by decide +kernel) (by (repeat' (first | exact Ent.refl _ | refine Ent.wk ?_))) rfl ?_
            refine a_1 14 (by decide +kernel) rfl rfl (o_store rfl rfl rfl rfl rfl rfl rfl (.s .z) ⟨(by (repeat' (first | exact Ent.refl _ | refine Ent.wk ?_))), ?_⟩)
            refine a_done (by decide +kernel) (s_weak ?_ ?_ (hfin (b3, (a0, d0), (a1, d1), (a2, d2), (a3, d3))))
            · repeat' (first | exact Sub.nil _ | refine Sub.cons rfl ?_)
            · repeat' (first | exact Ent.nil _ | refine Ent.tak tk ?_ | refine Ent.tak (.s .z) ?_)
        · refine a_1 8 (by decide +kernel) rfl rfl (o_copy flat_pt onec_pt rfl rfl rfl rfl rfl (Can.ro hPt') rfl rfl hPt rfl rfl rfl (fun a2 d2 => ⟨(by (repeat' (first | exact Ent.refl _ | refine Ent.wk ?_))), ?_⟩))
          refine a_1 11 (by decide +kernel) rfl rfl (o_copy flat_str onec_str rfl rfl rfl rfl rfl (Can.ro hN') rfl rfl hN rfl rfl rfl (fun a3 d3 => ⟨(by (repeat' (first | exact Ent.refl _ | refine Ent.wk ?_))), ?_⟩))
          refine a_n 12 rfl (peval_sound rfl) (by decide +kernel) (by (repeat' (first | exact Ent.refl _ | refine Ent.wk ?_))) rfl ?_
          refine a_1 14 (by decide +kernel) rfl rfl (o_store rfl rfl rfl rfl rfl rfl rfl (.s (.s .z)) ⟨(by (repeat' (first | exact Ent.refl _ | refine Ent.wk ?_))), ?_⟩)
          refine a_done (by decide +kernel) (s_weak ?_ ?_ (hfin (b3, (a0, d0), (a1, d1), (a2, d2), (a3, d3))))
          · repeat' (first | exact Sub.nil _ | refine Sub.cons rfl ?_)
          · repeat' (first | exact Ent.nil _ | refine Ent.tak tk ?_ | refine Ent.tak (.s (.s .z)) ?_)
      · refine a_1 5 (by decide +kernel) rfl rfl (o_copy flat_lev onec_lev rfl rfl rfl rfl rfl (Can.ro hL') rfl rfl hL rfl rfl rfl (fun a1 d1 => ⟨(by (repeat' (first | exact Ent.refl _ | refine Ent.wk ?_))), ?_⟩))
        refine a_1 8 (by decide +kernel) rfl rfl (o_copy flat_pt onec_pt rfl rfl rfl rfl rfl (Can.ro hPt') rfl rfl hPt rfl rfl rfl (fun a2 d2 => ⟨(by (repeat' (first | exact Ent.refl _ | refine Ent.wk ?_))), ?_⟩))
        refine a_1 11 (by decide +kernel) rfl rfl (o_copy flat_str onec_str rfl rfl rfl rfl rfl (Can.ro hN') rfl rfl hN rfl rfl rfl (fun a3 d3 => ⟨(by (repeat' (first | exact Ent.refl _ | refine Ent.wk ?_))), ?_⟩))
        refine a_n 12 rfl (peval_sound rfl) (by decide +kernel) (by (repeat' (first | exact Ent.refl _ | refine Ent.wk ?_))) rfl ?_
        refine a_1 14 (by decide +kernel) rfl rfl (o_store rfl rfl rfl rfl rfl rfl rfl (.s (.s (.s .z))) ⟨(by (repeat' (first | exact Ent.refl _ | refine Ent.wk ?_))), ?_⟩)
        refine a_done (by decide +kernel) (s_weak ?_ ?_ (hfin (b3, (a0, d0), (a1, d1), (a2, d2), (a3, d3))))
        · repeat' (first | exact Sub.nil _ | refine Sub.cons rfl ?_)
        · repeat' (first | exact Ent.nil _ | refine Ent.tak tk ?_ | refine Ent.tak (.s (.s (.s .z))) ?_)
    · refine a_1 2 (by decide +kernel) rfl rfl (o_copy flat_str onec_str rfl rfl rfl rfl rfl (Can.ro hT') rfl rfl hT rfl rfl rfl (fun a0 d0 => ⟨(by (repeat' (first | exact Ent.refl _ | refine Ent.wk ?_))), ?_⟩))
      refine a_1 5 (by decide +kernel) rfl rfl (o_copy flat_lev onec_lev rfl rfl rfl rfl rfl (Can.ro hL') rfl rfl hL rfl rfl rfl (fun a1 d1 => ⟨(by (repeat' (first | exact Ent.refl _ | refine Ent.wk ?_))), ?_⟩))
      refine a_1 8 (by decide +kernel) rfl rfl (o_copy flat_pt onec_pt rfl rfl rfl rfl rfl (Can.ro hPt') rfl rfl hPt rfl rfl rfl (fun a2 d2 => ⟨(by (repeat' (first | exact Ent.refl _ | refine Ent.wk ?_))), ?_⟩))
      refine a_1 11 (by decide +kernel) rfl rfl (o_copy flat_str onec_str rfl rfl rfl rfl rfl (Can.ro hN') rfl rfl hN rfl rfl rfl (fun a3 d3 => ⟨(by (repeat' (first | exact Ent.refl _ | refine Ent.wk ?_))), ?_⟩))
      refine a_n 12 rfl (peval_sound rfl) (by decide +kernel) (by (repeat' (first | exact Ent.refl _ | refine Ent.wk ?_))) rfl ?_
      refine a_1 14 (by decide +kernel) rfl rfl (o_store rfl rfl rfl rfl rfl rfl rfl (.s (.s (.s (.s .z)))) ⟨(by (repeat' (first | exact Ent.refl _ | refine Ent.wk ?_))), ?_⟩)
      refine a_done (by decide +kernel) (s_weak ?_ ?_ (hfin (b3, (a0, d0), (a1, d1), (a2, d2), (a3, d3))))
      · repeat' (first | exact Sub.nil _ | refine Sub.cons rfl ?_)
      · repeat' (first | exact Ent.nil _ | refine Ent.tak tk ?_ | refine Ent.tak (.s (.s (.s (.s .z)))) ?_)


end Go.Proofs.YtcnpjhaedjncdaaDoor
