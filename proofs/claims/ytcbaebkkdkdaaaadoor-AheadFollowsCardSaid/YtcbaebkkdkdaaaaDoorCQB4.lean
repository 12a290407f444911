/-
  Plain: growing ends; what the answer tells is the least relation.
-/
import Derived.Test.YtcbaebkkdkdaaaaDoorAhBase5

namespace Go.Proofs.YtcbaebkkdkdaaaaDoor
set_option linter.all false
open Go.Proofs.YtcbaebkkdkdaaaaDoor.E

theorem round_inv {g : Gram} {KS : List (List Itm)} {GS : List (List Int)} (hF : GoF g KS GS) {st : Stt} (hi : GInv g KS st) {p : Plc} (hp : st.td.getLast? = some p) :
    GInv g KS (roundG g GS (restB g) (restN g) st p) ∧ meas (univ g KS) (roundG g GS (restB g) (restN g) st p) + 1 ≤ meas (univ g KS) st := by
  obtain ⟨ys, hys⟩ := List.getLast?_eq_some_iff.1 hp
  have hmem : p ∈ st.td := by rw [hys]; simp
  have hne : st.td ≠ [] := fun e => by rw [e] at hmem; cases hmem
  have hm := meas_pop (u := univ g KS) hne
  have hip := hi.pop
  have hvp := hi.vp p (hi.ok.td p hmem)
  unfold roundG
  split
  · exact ⟨hip, by omega⟩
  · rename_i hd
    obtain ⟨_, _, _, _, _, _, _, hvn⟩ := hvp.next hF hd
    have h1 := hip.add hvn (getB st.ks st.bs p)
    have h2 := meas_add hip.ok hvn.mem (getB st.ks st.bs p)
    split
    · exact ⟨h1, by omega⟩
    · obtain ⟨h3, h4⟩ := prodsAdd_inv hF hvp (comb (restB g p.x) (getB st.ks st.bs p) (restN g p.x)) h1 g.Prods.length (Nat.le_refl _)
      exact ⟨h3, by omega⟩

theorem step_end {g : Gram} {KS : List (List Itm)} {GS : List (List Int)} (hF : GoF g KS GS) : ∀ (m : Nat) {st : Stt}, GInv g KS st → meas (univ g KS) st ≤ m → (stepN g GS (restB g) (restN g) m st).td = []
  | 0, st, _, h => by
    have : st.td.length = 0 := by unfold meas at h; omega
    exact List.eq_nil_of_length_eq_zero this
  | m + 1, st, hi, h => by
    show (stepN g GS (restB g) (restN g) m (stepG g GS (restB g) (restN g) st)).td = []
    unfold stepG
    cases hl : st.td.getLast? with
    | none =>
      have : st.td = [] := List.getLast?_eq_none_iff.1 hl
      exact (by rw [stepN_done this]; exact this)
    | some p =>
      obtain ⟨h1, h2⟩ := round_inv hF hi hl
      show (stepN g GS (restB g) (restN g) m (roundG g GS (restB g) (restN g) st p)).td = []
      exact step_end hF m h1 (by omega)

theorem la_fin {g : Gram} (h : lrE g = 0) : ∃ n, (laN g n).td = [] := by
  have hF := goF h
  exact ⟨_, step_end hF (meas (univ g (lrKs g)) la0) (ginv0 hF) (Nat.le_refl _)⟩

theorem zer_get (t : Nat) : zer.getD t false = false := by
  unfold zer
  rw [List.getD_eq_getElem?_getD]
  cases h : (List.replicate 48 false)[t]? with
  | none => rfl
  | some b => have := List.mem_of_getElem? h; rw [List.mem_replicate] at this; rw [this.2]; rfl

/-- Terms behind whole productions. -/
theorem laRow_bit {g : Gram} (h : lrE g = 0) {s k a : Nat} : (laRow g s k).getD a false = true ↔ a < g.Terms.length ∧ LA g (lrGs g) ⟨s, ⟨k, (prd g k).Right.length⟩⟩ a := by
  obtain ⟨n, hn⟩ := la_fin h
  have hT := (goF h).lim.t
  have he := la_end hT hn (p := ⟨s, ⟨k, (prd g k).Right.length⟩⟩) (t := a)
  unfold laRow
  rw [laFin_eq hn, ← he]
  unfold bit
  split
  · rename_i hp
    rw [List.getD_eq_getElem?_getD, List.getElem?_take]
    split
    · rename_i ha; rw [← List.getD_eq_getElem?_getD]; simp [ha]
    · rename_i ha; simp [ha]
  · rename_i hp
    have : getB (laN g n).ks (laN g n).bs ⟨s, ⟨k, (prd g k).Right.length⟩⟩ = zer := by unfold getB; rw [if_neg hp]
    rw [this, zer_get]
    simp

theorem laRow_len {g : Gram} (h : lrE g = 0) (s k : Nat) : (laRow g s k).length = g.Terms.length ∨ laRow g s k = [] := by
  obtain ⟨n, hn⟩ := la_fin h
  have hT := (goF h).lim.t
  have hw := whole_N hT n (whole0 g (lrGs g))
  unfold laRow
  rw [laFin_eq hn]
  split
  · refine .inl ?_
    rw [List.length_take, getB_len (ks := (laN g n).ks) (bs := (laN g n).bs) hw.ok.l48]; omega
  · exact .inr rfl

theorem left0 {g : Gram} (hw : Wf0 g) : (prd g 0).Left = 0 := by
  have h := hw.prod 0 hw.prods
  unfold prodOk at h
  simp only [Bool.and_eq_true, decide_eq_true_eq, beq_iff_eq] at h
  have e : prd g 0 = g.Prods[0]'hw.prods := prd_at (k := 0) hw.prods
  rw [e]
  have := h.2.2.1
  simpa using this

end Go.Proofs.YtcbaebkkdkdaaaaDoor
