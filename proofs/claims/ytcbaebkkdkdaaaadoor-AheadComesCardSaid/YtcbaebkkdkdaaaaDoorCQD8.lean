/-
  Plain: canonical states, and the states that have the same items.
-/
import Derived.Test.YtcbaebkkdkdaaaaDoorCQD4
import Derived.Test.YtcbaebkkdkdaaaaDoorCQB0
import Derived.Test.YtcbaebkkdkdaaaaDoorAhBase4
import Derived.Test.YtcbaebkkdkdaaaaDoorCQP9

namespace Go.Proofs.YtcbaebkkdkdaaaaDoor
set_option linter.all false
open Go.Proofs.YtcbaebkkdkdaaaaDoor.E

theorem cl_dot {g : Gram} {l : List Itm} {x : Itm} (h : Cl g l x) : x ∈ l ∨ x.Dot = 0 := by
  cases h with
  | base h => exact .inl h
  | step _ _ _ => exact .inr rfl

/-- States with the same items are the same. -/
theorem same_state {g : Gram} (h : lrE g = 0) {i j : Nat} (hi : i < (lrKs g).length) (hj : j < (lrKs g).length) (heq : ∀ x, x ∈ closedP g (lrKs g)[i] ↔ x ∈ closedP g (lrKs g)[j]) : i = j := by
  have hF := goF h
  obtain ⟨Lf, hR⟩ := reF h
  have o := GOk.of hF.wf
  have hsp : ∀ (i : Nat) (hi : i < (lrKs g).length) (x : Itm), x ∈ closedP g (lrKs g)[i] ↔ Cl g (lrKs g)[i] x := fun i hi x => (closedP_spec o.beh o.left (hF.ok i hi).2.1).2 x
  have hdot : ∀ (i : Nat) (hi : i < (lrKs g).length), 0 < i → ∀ x, x ∈ (lrKs g)[i] ↔ x ∈ closedP g (lrKs g)[i] ∧ 1 ≤ x.Dot := fun i hi h0 x => by
    rw [hsp i hi]
    obtain ⟨s, hah⟩ := hR.ah i hi h0
    refine ⟨fun hx => ⟨.base hx, (hah x hx).1⟩, fun ⟨h1, h2⟩ => ?_⟩
    rcases cl_dot h1 with h3 | h3
    · exact h3
    · omega
  have hz : ∀ (j : Nat) (hj : j < (lrKs g).length), 0 < j → (∀ x, x ∈ closedP g ((lrKs g)[0]'(hF.p0)) ↔ x ∈ closedP g (lrKs g)[j]) → False := fun j hj h0 he => by
    have hne := (hF.ok j hj).2.2.2
    obtain ⟨x, hx⟩ := List.exists_mem_of_ne_nil _ hne
    obtain ⟨h1, h2⟩ := (hdot j hj h0 x).1 hx
    have h3 := (hsp 0 hF.p0 x).1 ((he x).2 h1)
    rcases cl_dot h3 with h4 | h4
    · rw [hF.k0 hF.p0, List.mem_singleton] at h4; subst h4; simp at h2
    · omega
  rcases Nat.lt_trichotomy i j with hlt | rfl | hlt
  · exfalso
    rcases Nat.eq_zero_or_pos i with rfl | h0
    · exact hz j hj (by omega) heq
    · refine hR.ne j i hj hlt ?_
      refine SortI.ext (hF.ok j hj).1 (hF.ok i hi).1 (fun x => ?_)
      rw [hdot i hi h0, hdot j hj (by omega), heq]
  · rfl
  · exfalso
    rcases Nat.eq_zero_or_pos j with rfl | h0
    · exact hz i hi (by omega) (fun x => (heq x).symm)
    · refine hR.ne i j hi hlt ?_
      refine SortI.ext (hF.ok i hi).1 (hF.ok j hj).1 (fun x => ?_)
      rw [hdot i hi (by omega), hdot j hj h0, heq]

theorem restB_lt {g : Gram} {x : Itm} {u : Nat} (h : (restB g x).getD u false = true) : u < g.Terms.length := by
  rcases Nat.lt_or_ge u g.Terms.length with h1 | h1
  · exact h1
  · exfalso
    unfold restB at h
    rw [List.getD_eq_getElem?_getD, List.getElem?_append_right (by rw [rowT_len]; exact h1), rowT_len, List.getElem?_drop, ← List.getD_eq_getElem?_getD, show g.Terms.length + (u - g.Terms.length) = u by omega] at h
    rw [zer_get] at h; cases h
theorem la_lt {g : Gram} {GS : List (List Int)} (ht : 0 < g.Terms.length) {p : Plc} {t : Nat} (h : LA g GS p t) : t < g.Terms.length := by
  induction h with
  | base => exact ht
  | step _ hc ih =>
    cases hc with
    | shift _ => exact ih
    | close _ _ _ _ hr =>
      rcases hr with hr | ⟨_, rfl⟩
      · exact restB_lt hr
      · exact ih

/-- One canonical state over a state. -/
structure Over (g : Gram) (KS : List (List Itm)) (GS : List (List Int)) (m : Nat) (R : List On) : Prop where
  lt : m < KS.length
  sort : SortO R
  ok : ∀ o ∈ R, OnOk g o
  sound : ∀ o ∈ R, LA g GS ⟨m, o.x⟩ o.t.toNat
  core : ∀ h : m < KS.length, ∀ x ∈ closedP g KS[m], ∃ o ∈ R, o.x = x
  closed : ∀ o ∈ R, ∀ o', Nx g o o' → o' ∈ R

theorem Over.uniq {g : Gram} (h : lrE g = 0) {m n : Nat} {R : List On} (h1 : Over g (lrKs g) (lrGs g) m R) (h2 : Over g (lrKs g) (lrGs g) n R) : m = n := by
  have hF := goF h
  refine same_state h h1.lt h2.lt (fun x => ⟨fun hx => ?_, fun hx => ?_⟩)
  · obtain ⟨o, ho, rfl⟩ := h1.core h1.lt x hx
    obtain ⟨_, hv⟩ := la_vp hF (h2.sound o ho)
    exact hv
  · obtain ⟨o, ho, rfl⟩ := h2.core h2.lt x hx
    obtain ⟨_, hv⟩ := la_vp hF (h1.sound o ho)
    exact hv

theorem nx_la {g : Gram} {GS : List (List Int)} {m : Nat} {o o' : On} (h0 : 0 ≤ o.t) (h : LA g GS ⟨m, o.x⟩ o.t.toNat) (hn : Nx g o o') : LA g GS ⟨m, o'.x⟩ o'.t.toNat := by
  obtain ⟨k, u, rfl, hk, hu, hd, hb, hl, hr⟩ := hn
  refine .step h (Cons.close (k := k) (u := u) hd hb hk hl ?_)
  rcases hr with hr | ⟨hr, he⟩
  · exact .inl hr
  · exact .inr ⟨hr, by omega⟩

/-- Each item of the state has a canonical one: by closing. -/
theorem core_of {g : Gram} (hce : checkE g = 0) {l R : List On} {ker : List Itm} (hR : ∀ o, o ∈ R ↔ C1 g l o) (hok : ∀ o ∈ R, OnOk g o) (hk : ∀ x ∈ ker, ∃ o ∈ R, o.x = x) {x : Itm} (hx : Cl g ker x) : ∃ o ∈ R, o.x = x := by
  induction hx with
  | base hm => exact hk _ hm
  | @step y k hy hkl hb ih =>
    obtain ⟨o, ho, rfl⟩ := ih
    have hoo := hok o ho
    have hL := lims (checkE_ok hce).1
    have hwf := (checkE_ok hce).2
    have hlk := (prod_ok hwf hkl).1
    have hpk := prd_at hkl
    have hd : o.x.Dot ≠ (prd g o.x.Prod).Right.length := fun e => by
      unfold beh at hb
      rw [if_neg (by omega), hpk] at hb
      omega
    have hnb : ¬ beh g o.x < g.Terms.length := by rw [hb, hpk]; omega
    have hle : (prd g k).Left = beh g o.x - g.Terms.length := by rw [hb]; omega
    have hnx : ∃ u : Nat, Nx g o ⟨⟨k, 0⟩, u⟩ := by
      rcases rest_full hce hoo.x with ⟨u, hu⟩ | hn
      · exact ⟨u, k, u, rfl, hkl, restB_lt hu, hd, hnb, hle, .inl hu⟩
      · have := hoo.t0; have := hoo.t
        exact ⟨o.t.toNat, k, o.t.toNat, rfl, hkl, by omega, hd, hnb, hle, .inr ⟨hn, by omega⟩⟩
    obtain ⟨u, hu⟩ := hnx
    exact ⟨_, (hR _).2 (.step ((hR o).1 ho) hu), rfl⟩

/-- The first canonical state. -/
theorem over0 {g : Gram} (h : lrE g = 0) {R : List On} (hs : SortO R) (hok : ∀ o ∈ R, OnOk g o) (hR : ∀ o, o ∈ R ↔ C1 g [⟨⟨0, 0⟩, 0⟩] o) : Over g (lrKs g) (lrGs g) 0 R := by
  have hF := goF h
  have hce := (lr_fin h).1
  have o := GOk.of hF.wf
  refine ⟨hF.p0, hs, hok, fun q hq => ?_, fun hm x hx => ?_, fun q hq q' hn => (hR q').2 (.step ((hR q).1 hq) hn)⟩
  · have hc := (hR q).1 hq
    have : ∀ q, C1 g [⟨⟨0, 0⟩, 0⟩] q → q ∈ R → LA g (lrGs g) ⟨0, q.x⟩ q.t.toNat := by
      intro q hc
      induction hc with
      | base hm => intro _; rw [List.mem_singleton] at hm; subst hm; exact .base
      | step hc hn ih => intro _; exact nx_la (hok _ ((hR _).2 hc)).t0 (ih ((hR _).2 hc)) hn
    exact this q hc hq
  · rw [(closedP_spec o.beh o.left (hF.ok 0 hm).2.1).2] at hx
    refine core_of hce hR hok (fun y hy => ?_) hx
    rw [hF.k0 hm, List.mem_singleton] at hy
    subst hy
    exact ⟨⟨⟨0, 0⟩, 0⟩, (hR _).2 (.base (List.mem_singleton.2 rfl)), rfl⟩

/-- What a canonical state goes on to, closed, lies over where the state goes. -/
theorem over_next {g : Gram} (h : lrE g = 0) {m : Nat} {Q : List On} (hQ : Over g (lrKs g) (lrGs g) m Q) {s : Nat} (hsn : s < g.Terms.length + g.Nons.length) {R : List On} (hs : SortO R) (hok : ∀ o ∈ R, OnOk g o) (hR : ∀ o, o ∈ R ↔ C1 g (goesO g Q s) o) (hne : R ≠ []) :
    ∃ (hm : m < (lrGs g).length) (hs2 : s < (lrGs g)[m].length) (n : Nat), (lrGs g)[m][s] = (n : Int) ∧ Over g (lrKs g) (lrGs g) n R := by
  have hF := goF h
  have hce := (lr_fin h).1
  have o := GOk.of hF.wf
  have hm : m < (lrGs g).length := by rw [hF.gk]; exact hQ.lt
  have hs2 : s < (lrGs g)[m].length := by rw [hF.row m hm]; exact hsn
  refine ⟨hm, hs2, ?_⟩
  have hgo : ∀ q, q ∈ goesO g Q s ↔ ∃ p ∈ Q, beh g p.x = s ∧ q = advO p := fun q => by
    have := (goesT_all (g := g) (l := Q) (s := s) Q.length (Nat.le_refl _)).2.2 q
    rwa [List.take_length] at this
  -- some item goes on
  obtain ⟨p, hp, hpb⟩ : ∃ p ∈ Q, beh g p.x = s := by
    obtain ⟨r, hr⟩ := List.exists_mem_of_ne_nil _ hne
    have : ∀ r, C1 g (goesO g Q s) r → ∃ p ∈ Q, beh g p.x = s := by
      intro r hc
      induction hc with
      | base hm => obtain ⟨p, hp, hb, _⟩ := (hgo _).1 hm; exact ⟨p, hp, hb⟩
      | step _ _ ih => exact ih
    exact this r ((hR r).1 hr)
  have hvp : ∀ q ∈ Q, q.x ∈ closedP g ((lrKs g)[m]'hQ.lt) := fun q hq => (la_vp hF (hQ.sound q hq)).2
  have hgi : ∀ q ∈ Q, beh g q.x = s → (⟨q.x.Prod, q.x.Dot + 1⟩ : Itm) ∈ goI g (closedP g ((lrKs g)[m]'hQ.lt)) s := fun q hq hb => by
    unfold goI
    exact List.mem_map.2 ⟨q.x, List.mem_filter.2 ⟨hvp q hq, decide_eq_true hb⟩, rfl⟩
  rcases hF.get m hQ.lt hm s hs2 with ⟨e1, _⟩ | ⟨n, hn, e1, e2⟩
  · have := hgi p hp hpb
    rw [e1] at this; cases this
  refine ⟨n, e2, hn, hs, hok, fun q hq => ?_, fun hn2 x hx => ?_, fun q hq q' hnx => (hR q').2 (.step ((hR q).1 hq) hnx)⟩
  · have : ∀ q, C1 g (goesO g Q s) q → LA g (lrGs g) ⟨n, q.x⟩ q.t.toNat := by
      intro q hc
      induction hc with
      | base hmm =>
        obtain ⟨p, hp, hb, rfl⟩ := (hgo _).1 hmm
        have hd : p.x.Dot ≠ (prd g p.x.Prod).Right.length := fun e => by
          unfold beh at hb
          rw [if_neg (by omega)] at hb
          omega
        have := Cons.shift (g := g) (GS := lrGs g) (p := ⟨m, p.x⟩) (t := p.t.toNat) hd
        have hnp : nextP g (lrGs g) ⟨m, p.x⟩ = ⟨n, ⟨p.x.Prod, p.x.Dot + 1⟩⟩ := by
          unfold nextP
          simp only [hb, Int.toNat_natCast]
          rw [List.getD_eq_getElem?_getD (l := lrGs g), List.getElem?_eq_getElem hm, Option.getD_some, List.getD_eq_getElem?_getD, List.getElem?_eq_getElem hs2, Option.getD_some, e2, Int.toNat_natCast]
        rw [hnp] at this
        exact .step (hQ.sound p hp) this
      | step hc hnx ih => exact nx_la (hok _ ((hR _).2 hc)).t0 ih hnx
    exact this q ((hR q).1 hq)
  · rw [(closedP_spec o.beh o.left (hF.ok n hn2).2.1).2] at hx
    refine core_of hce hR hok (fun y hy => ?_) hx
    rw [← e1] at hy
    unfold goI at hy
    obtain ⟨z, hz, rfl⟩ := List.mem_map.1 hy
    obtain ⟨hz1, hz2⟩ := List.mem_filter.1 hz
    obtain ⟨q, hq, rfl⟩ := hQ.core hQ.lt z hz1
    exact ⟨advO q, (hR _).2 (.base ((hgo _).2 ⟨q, hq, of_decide_eq_true hz2, rfl⟩)), rfl⟩

/-- Canonical states, with the states that they lie over. -/
structure Cans (g : Gram) (L : List (List On)) (M : List Nat) : Prop where
  len : M.length = L.length
  over : ∀ (j : Nat) (h : j < L.length) (h2 : j < M.length), Over g (lrKs g) (lrGs g) M[j] L[j]
  first : ∃ (h : 0 < L.length) (h2 : 0 < M.length), M[0] = 0 ∧ (⟨⟨0, 0⟩, 0⟩ : On) ∈ L[0]

/-- All that a state goes on to by the first symbols is there. -/
def DoneS (g : Gram) (L : List (List On)) (M : List Nat) (j n : Nat) : Prop := ∀ (h : j < L.length) (h2 : j < M.length) (s : Nat), s < n → ∀ o ∈ L[j], beh g o.x = s → ∃ (k : Nat) (h3 : k < L.length) (h4 : k < M.length), (lrGs g).getD M[j] [] |>.getD s 0 |> fun z => z = (M[k] : Int) ∧ advO o ∈ L[k]

theorem reasons {g : Gram} (h : lrE g = 0) {L : List (List On)} {M : List Nat} (hC : Cans g L M) (hD : ∀ j, j < L.length → DoneS g L M j (g.Terms.length + g.Nons.length)) {p : Plc} {t : Nat} (hl : LA g (lrGs g) p t) :
    ∃ (j : Nat) (h1 : j < L.length) (h2 : j < M.length), M[j] = p.s ∧ (⟨p.x, t⟩ : On) ∈ L[j] := by
  have hF := goF h
  have hT : 0 < g.Terms.length := hF.wf.t
  induction hl with
  | base =>
    obtain ⟨h1, h2, e, hm⟩ := hC.first
    exact ⟨0, h1, h2, e, hm⟩
  | @step p q t u hp hc ih =>
    obtain ⟨j, h1, h2, e, hm⟩ := ih
    have hO := hC.over j h1 h2
    cases hc with
    | shift hd =>
      obtain ⟨s, g1, g2, n, e1, e2, e3, _⟩ := (la_vp hF hp).next hF hd
      have hs : s < g.Terms.length + g.Nons.length := by rw [hF.row p.s g1] at g2; exact g2
      obtain ⟨k, h3, h4, e4, e5⟩ := hD j h1 h1 h2 s hs _ hm e1
      refine ⟨k, h3, h4, ?_, ?_⟩
      · rw [e3]
        rw [e, List.getD_eq_getElem?_getD (l := lrGs g), List.getElem?_eq_getElem g1, Option.getD_some, List.getD_eq_getElem?_getD, List.getElem?_eq_getElem g2, Option.getD_some, e2] at e4
        simp only
        omega
      · rw [e3]; exact e5
    | close hd hb hk hle hr =>
      rename_i k
      refine ⟨j, h1, h2, e, hO.closed _ hm _ ⟨k, u, rfl, hk, la_lt hT (.step hp (.close hd hb hk hle hr)), hd, hb, hle, ?_⟩⟩
      rcases hr with hr | ⟨hr, rfl⟩
      · exact .inl hr
      · exact .inr ⟨hr, rfl⟩

end Go.Proofs.YtcbaebkkdkdaaaaDoor
