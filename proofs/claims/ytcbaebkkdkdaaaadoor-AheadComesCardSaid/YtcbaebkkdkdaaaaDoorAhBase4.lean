/-
  Part 4 of what the law's walk stands on: lemmas and contracts, each proved here without a condition but those that it names.
-/
import Derived.Test.YtcbaebkkdkdaaaaDoorAhBase3
import Derived.Laws.Strings
import Derived.Test.YtcbaebkkdkdaaaaDoorRows

namespace Go.Proofs.YtcbaebkkdkdaaaaDoor
set_option linter.all false
open Go.Proofs.YtcbaebkkdkdaaaaDoor.E

/-! ### what adding changes -/
theorem ix_ne {κ : Type} [DecidableEq κ] {u : List κ} {a b : κ} (ha : a ∈ u) (hb : b ∈ u) (h : a ≠ b) : ix u a ≠ ix u b := fun e => h (ix_inj ha hb e)

theorem getB_add {st : Stt} (h : SttOk st) (p q : Plc) (l : Bits) : getB (addS st p l).ks (addS st p l).bs q = if q = p then orB (getB st.ks st.bs p) l else getB st.ks st.bs q := by
  show getB (addKs st.ks p) ((addBs st.ks st.bs p).set (ix (addKs st.ks p) p) (orB (getB st.ks st.bs p) l)) q = _
  have hp := addKs_mem st.ks p
  have hlen := addBs_len h.len p
  by_cases e : q = p
  · subst e
    rw [if_pos rfl]
    unfold getB
    rw [if_pos hp, List.getD_eq_getElem?_getD, List.getElem?_set_self (by rw [hlen]; exact ix_lt hp)]
    rfl
  · rw [if_neg e]
    unfold getB
    by_cases hq : q ∈ st.ks
    · have hq2 : q ∈ addKs st.ks p := by unfold addKs; split; exact hq; exact List.mem_append_left _ hq
      rw [if_pos hq2, if_pos hq, List.getD_eq_getElem?_getD, List.getElem?_set_ne (ix_ne hp hq2 (Ne.symm e)), ← List.getD_eq_getElem?_getD]
      unfold addBs addKs
      split
      · rfl
      · rw [ix_app_mem hq, List.getD_eq_getElem?_getD, List.getElem?_append_left (by rw [h.len]; exact ix_lt hq), ← List.getD_eq_getElem?_getD]
    · have hq2 : q ∉ addKs st.ks p := by
        unfold addKs
        split
        · exact hq
        · rw [List.mem_append, List.mem_singleton]; rintro (h | h); exact hq h; exact e h
      rw [if_neg hq2, if_neg hq]

/-! ### a measure -/
def cntZ (b : Bits) : Nat := (List.range b.length).countP fun t => !b.getD t false

theorem countP_le {p q : Nat → Bool} (h : ∀ t, q t = true → p t = true) : ∀ l : List Nat, l.countP q + (if l.any (fun t => p t && !q t) then 1 else 0) ≤ l.countP p
  | [] => by simp
  | t :: l => by
    have ih := countP_le h l
    rw [List.countP_cons, List.countP_cons, List.any_cons]
    cases hq : q t with
    | true =>
      rw [h t hq]
      simp only [Bool.not_true, Bool.and_false, Bool.false_or, if_true]
      omega
    | false =>
      cases hp : p t with
      | true =>
        simp only [Bool.not_false, Bool.and_self, Bool.true_or, if_true, Bool.false_eq_true, if_false]
        split at ih <;> omega
      | false =>
        simp only [Bool.false_and, Bool.false_or, Bool.false_eq_true, if_false]
        exact ih

theorem orB_getD {old l : Bits} (t : Nat) (h : t < old.length) : (orB old l).getD t false = (old.getD t false || l.getD t false) := by
  unfold orB
  have h2 : t < (orTo old l old.length).length := by rw [orTo_len]; exact h
  rw [List.getD_eq_getElem?_getD, List.getElem?_eq_getElem h2, Option.getD_some, orTo_get]
  simp [h]

theorem cntZ_or (old l : Bits) : cntZ (orB old l) + (if newB old l then 1 else 0) ≤ cntZ old := by
  have hlen : (orB old l).length = old.length := orTo_len _ _ _
  unfold cntZ
  rw [hlen]
  have h1 : (List.range old.length).countP (fun t => !(orB old l).getD t false) = (List.range old.length).countP (fun t => !(old.getD t false || l.getD t false)) := by
    apply List.countP_congr
    intro t ht
    rw [orB_getD t (List.mem_range.1 ht)]
  rw [h1]
  have h2 : newB old l = (List.range old.length).any (fun t => (!old.getD t false) && !(!(old.getD t false || l.getD t false))) := by
    unfold newB newTo
    congr 1
    funext t
    cases old.getD t false <;> cases l.getD t false <;> rfl
  rw [h2]
  exact countP_le (p := fun t => !old.getD t false) (q := fun t => !(old.getD t false || l.getD t false)) (fun t ht => by
    cases ho : old.getD t false with
    | true => rw [ho] at ht; simp at ht
    | false => rfl) _

def miss (univ : List Plc) (st : Stt) : Nat := (univ.map fun p => cntZ (getB st.ks st.bs p)).sum
def meas (univ : List Plc) (st : Stt) : Nat := 2 * miss univ st + st.td.length

theorem sum_le {f f' : Plc → Nat} {p : Plc} {b : Nat} (h : ∀ q, f' q ≤ f q) (hp : f' p + b ≤ f p) : ∀ {l : List Plc}, p ∈ l → (l.map f').sum + b ≤ (l.map f).sum
  | q :: l, hm => by
    rw [List.map_cons, List.map_cons, List.sum_cons, List.sum_cons]
    have hle : ∀ l : List Plc, (l.map f').sum ≤ (l.map f).sum := by
      intro l
      induction l with
      | nil => exact Nat.le_refl _
      | cons x l ih => rw [List.map_cons, List.map_cons, List.sum_cons, List.sum_cons]; have := h x; omega
    rcases List.mem_cons.1 hm with rfl | hm
    · have := hle l; omega
    · have := sum_le h hp hm; have := h q; omega

theorem meas_add {univ : List Plc} {st : Stt} (h : SttOk st) {p : Plc} (hp : p ∈ univ) (l : Bits) : meas univ (addS st p l) ≤ meas univ st := by
  have h1 := cntZ_or (getB st.ks st.bs p) l
  have h2 : miss univ (addS st p l) + (if newB (getB st.ks st.bs p) l then 1 else 0) ≤ miss univ st := by
    unfold miss
    refine sum_le (p := p) (fun q => ?_) ?_ hp
    · rw [getB_add h]
      split
      · rename_i e; subst e; split at h1 <;> omega
      · exact Nat.le_refl _
    · rw [getB_add h, if_pos rfl]; exact h1
  have h3 : (addS st p l).td.length = st.td.length + (if newB (getB st.ks st.bs p) l then 1 else 0) := by
    show (if newB (getB st.ks st.bs p) l then st.td ++ [p] else st.td).length = _
    split <;> simp
  unfold meas
  rw [h3]
  split at h2 <;> split <;> simp_all <;> omega

/-! ### a round -/
def nextP (g : Gram) (GS : List (List Int)) (p : Plc) : Plc := ⟨((GS.getD p.s []).getD (beh g p.x).toNat 0).toNat, ⟨p.x.Prod, p.x.Dot + 1⟩⟩
def comb (a own : Bits) (nl : Bool) : Bits := (List.range a.length).map fun t => a.getD t false || (nl && own.getD t false)
def prodsAdd (g : Gram) (p : Plc) (l : Bits) (st : Stt) (m : Nat) : Stt := (List.range m).foldl (fun st (k : Nat) => if (prd g k).Left = beh g p.x - g.Terms.length then addS st ⟨p.s, ⟨k, 0⟩⟩ l else st) st
theorem prodsAdd_succ (g : Gram) (p : Plc) (l : Bits) (st : Stt) (m : Nat) : prodsAdd g p l st (m + 1) = if (prd g m).Left = beh g p.x - g.Terms.length then addS (prodsAdd g p l st m) ⟨p.s, ⟨m, 0⟩⟩ l else prodsAdd g p l st m := by
  unfold prodsAdd; rw [List.range_succ, List.foldl_append]; rfl

section rounds
variable (g : Gram) (GS : List (List Int)) (rB : Itm → Bits) (rN : Itm → Bool)
def roundG (st : Stt) (p : Plc) : Stt :=
  if p.x.Dot = (prd g p.x.Prod).Right.length then ⟨st.ks, st.bs, st.td.dropLast⟩
  else if beh g p.x < g.Terms.length then addS ⟨st.ks, st.bs, st.td.dropLast⟩ (nextP g GS p) (getB st.ks st.bs p)
  else prodsAdd g p (comb (rB p.x) (getB st.ks st.bs p) (rN p.x)) (addS ⟨st.ks, st.bs, st.td.dropLast⟩ (nextP g GS p) (getB st.ks st.bs p)) g.Prods.length
def stepG (st : Stt) : Stt := match st.td.getLast? with
  | none => st
  | some p => roundG g GS rB rN st p
def stepN : Nat → Stt → Stt
  | 0, st => st
  | n + 1, st => stepN n (stepG g GS rB rN st)
end rounds

/-- Places that are in the states. -/
def VP (g : Gram) (KS : List (List Itm)) (p : Plc) : Prop := ∃ h : p.s < KS.length, p.x ∈ closedP g KS[p.s]
def univ (g : Gram) (KS : List (List Itm)) : List Plc := (List.range KS.length).flatMap fun s => (closedP g (KS.getD s [])).map fun x => ⟨s, x⟩
theorem VP.mem {g : Gram} {KS : List (List Itm)} {p : Plc} (h : VP g KS p) : p ∈ univ g KS := by
  obtain ⟨h1, h2⟩ := h
  unfold univ
  rw [List.mem_flatMap]
  refine ⟨p.s, List.mem_range.2 h1, List.mem_map.2 ⟨p.x, ?_, rfl⟩⟩
  rw [List.getD_eq_getElem?_getD, List.getElem?_eq_getElem h1]
  exact h2

theorem VP.in_ {g : Gram} {KS : List (List Itm)} {GS : List (List Int)} (hF : GoF g KS GS) {p : Plc} (h : VP g KS p) : inG g p.x = true := by
  obtain ⟨h1, h2⟩ := h
  exact (hF.cl p.s h1).2.2.2.1 _ h2

/-- Where a place goes by the symbol behind its dot. -/
theorem VP.next {g : Gram} {KS : List (List Itm)} {GS : List (List Int)} (hF : GoF g KS GS) {p : Plc} (h : VP g KS p) (hd : p.x.Dot ≠ (prd g p.x.Prod).Right.length) :
    ∃ (s : Nat) (h1 : p.s < GS.length) (h2 : s < GS[p.s].length) (j : Nat), beh g p.x = (s : Int) ∧ GS[p.s][s] = (j : Int) ∧ nextP g GS p = ⟨j, ⟨p.x.Prod, p.x.Dot + 1⟩⟩ ∧ VP g KS (nextP g GS p) := by
  have hin := h.in_ hF
  obtain ⟨h1, h2⟩ := h
  have hin2 := hin
  unfold inG at hin2
  simp only [Bool.and_eq_true, decide_eq_true_eq] at hin2
  have hr := beh_rng hF.wf hin
  have hb0 := hr.2.2 (by omega)
  obtain ⟨s, hs⟩ : ∃ s : Nat, beh g p.x = (s : Int) := ⟨(beh g p.x).toNat, by omega⟩
  have hg1 : p.s < GS.length := by rw [hF.gk]; exact h1
  have hrow := hF.row p.s hg1
  have hs2 : s < GS[p.s].length := by omega
  rcases hF.get p.s h1 hg1 s hs2 with ⟨e1, _⟩ | ⟨j, hj, e1, e2⟩
  · exfalso
    have : (⟨p.x.Prod, p.x.Dot + 1⟩ : Itm) ∈ goI g (closedP g KS[p.s]) s := by
      unfold goI
      exact List.mem_map.2 ⟨p.x, List.mem_filter.2 ⟨h2, decide_eq_true hs⟩, rfl⟩
    rw [e1] at this
    cases this
  · have hn : nextP g GS p = ⟨j, ⟨p.x.Prod, p.x.Dot + 1⟩⟩ := by
      unfold nextP
      rw [hs, Int.toNat_natCast]
      have hg2 : GS.getD p.s [] = GS[p.s] := by rw [List.getD_eq_getElem?_getD, List.getElem?_eq_getElem hg1]; rfl
      have : (GS[p.s]).getD s 0 = (j : Int) := by rw [List.getD_eq_getElem?_getD, List.getElem?_eq_getElem hs2, Option.getD_some, e2]
      rw [hg2, this, Int.toNat_natCast]
    refine ⟨s, hg1, hs2, j, hs, e2, hn, ?_⟩
    rw [hn]
    refine ⟨hj, ?_⟩
    have o := GOk.of hF.wf
    refine ((closedP_spec o.beh o.left (hF.ok j hj).2.1).2 _).2 (.base ?_)
    rw [← e1]
    unfold goI
    exact List.mem_map.2 ⟨p.x, List.mem_filter.2 ⟨h2, decide_eq_true hs⟩, rfl⟩

theorem VP.prod {g : Gram} {KS : List (List Itm)} {GS : List (List Int)} (hF : GoF g KS GS) {p : Plc} (h : VP g KS p) {k : Nat} (hk : k < g.Prods.length) (hl : (prd g k).Left = beh g p.x - g.Terms.length) : VP g KS ⟨p.s, ⟨k, 0⟩⟩ := by
  obtain ⟨h1, h2⟩ := h
  have o := GOk.of hF.wf
  have hsp := (closedP_spec o.beh o.left (hF.ok p.s h1).2.1).2
  exact ⟨h1, (hsp _).2 (.step ((hsp _).1 h2) hk (by omega))⟩

/-- What holds on the way. -/
structure GInv (g : Gram) (KS : List (List Itm)) (st : Stt) : Prop where
  ok : SttOk st
  vp : ∀ p ∈ st.ks, VP g KS p

theorem GInv.add {g : Gram} {KS : List (List Itm)} {st : Stt} (h : GInv g KS st) {p : Plc} (hp : VP g KS p) (l : Bits) : GInv g KS (addS st p l) where
  ok := addS_ok h.ok p l
  vp q hq := by
    have hq : q ∈ addKs st.ks p := hq
    unfold addKs at hq
    split at hq
    · exact h.vp q hq
    · rcases List.mem_append.1 hq with hq | hq
      · exact h.vp q hq
      · rw [List.mem_singleton] at hq; subst hq; exact hp

theorem GInv.pop {g : Gram} {KS : List (List Itm)} {st : Stt} (h : GInv g KS st) : GInv g KS ⟨st.ks, st.bs, st.td.dropLast⟩ where
  ok := ⟨h.ok.len, h.ok.l48, h.ok.nd, fun p hp => h.ok.td p (List.dropLast_subset _ hp)⟩
  vp := h.vp

theorem meas_pop {u : List Plc} {st : Stt} (h : st.td ≠ []) : meas u ⟨st.ks, st.bs, st.td.dropLast⟩ + 1 = meas u st := by
  have : st.td.length ≠ 0 := fun e => h (List.eq_nil_of_length_eq_zero e)
  unfold meas miss
  simp only [List.length_dropLast]
  omega

theorem prodsAdd_inv {g : Gram} {KS : List (List Itm)} {GS : List (List Int)} (hF : GoF g KS GS) {p : Plc} (hp : VP g KS p) (l : Bits) {st : Stt} (h : GInv g KS st) : ∀ m, m ≤ g.Prods.length → GInv g KS (prodsAdd g p l st m) ∧ meas (univ g KS) (prodsAdd g p l st m) ≤ meas (univ g KS) st
  | 0, _ => ⟨h, Nat.le_refl _⟩
  | m + 1, hm => by
    obtain ⟨h1, h2⟩ := prodsAdd_inv hF hp l h m (by omega)
    rw [prodsAdd_succ]
    split
    · rename_i hl
      have hv := hp.prod hF (by omega) hl
      exact ⟨h1.add hv l, Nat.le_trans (meas_add h1.ok hv.mem l) h2⟩
    · exact ⟨h1, h2⟩

end Go.Proofs.YtcbaebkkdkdaaaaDoor

namespace Go.Proofs.YtcbaebkkdkdaaaaDoor
set_option linter.all false
open Go.Proofs.YtcbaebkkdkdaaaaDoor.E

def encP (p : Plc) : List Value := [.int .i64 p.s, .int .i64 p.x.Prod, .int .i64 p.x.Dot]
abbrev ptrN (a : Nat) : Value := .pointer (some ⟨a, 0, none⟩)
def prs (ks : List Plc) (al : List Nat) : List (Plc × Value) := List.zipWith (fun p a => (p, ptrN a)) ks al
def bitX (al : List Nat) (bs : List Bits) : List Asn := List.zipWith (fun a b => blk a 109 (cB b)) al bs
abbrev tdS (At : Option Addr) (ct : Nat) (td : List Plc) : Asn := osl 107 3 (.slice At td.length ct) td.length (td.flatMap encP)
abbrev mkB (bm : Nat) (g0 g1 g2 g3 g4 l0 l1 : Value) (b1 : Nat) (At : Option Addr) (n ct b2 b3 : Nat) : Asn := blk bm 104 [g0, g1, g2, g3, g4, l0, l1, .map (some b1), .slice At n ct, .map (some b2), .map (some b3)]

theorem encP_len (l : List Plc) : (l.flatMap encP).length = l.length * 3 := by
  induction l with
  | nil => rfl
  | cons x l ih => rw [List.flatMap_cons, List.length_append, ih]; simp [encP]; omega
theorem encP_one (l : List Plc) : ∀ u ∈ l.flatMap encP, oneB u = true := by
  intro u hu
  obtain ⟨x, _, hx⟩ := List.mem_flatMap.1 hu
  unfold encP at hx
  simp only [List.mem_cons, List.not_mem_nil, or_false] at hx
  rcases hx with rfl | rfl | rfl <;> rfl

theorem look_prs : ∀ {ks : List Plc} {al : List Nat} {p : Plc}, al.length = ks.length → lookK (prs ks al) p = if p ∈ ks then some (ptrN (al.getD (ix ks p) 0)) else none
  | [], [], _, _ => rfl
  | [], _ :: _, _, h => by simp at h
  | _ :: _, [], _, h => by simp at h
  | k :: ks, a :: al, p, h => by
    have ih := look_prs (ks := ks) (al := al) (p := p) (by simpa using h)
    unfold prs at ih ⊢
    rw [List.zipWith_cons_cons]
    by_cases hk : k = p
    · subst hk
      unfold lookK
      rw [List.find?_cons_of_pos (by simp), if_pos (by simp)]
      show some (ptrN a) = some (ptrN ((a :: al).getD (if k = k then 0 else ix ks k + 1) 0))
      rw [if_pos rfl]; rfl
    · have : lookK ((k, ptrN a) :: List.zipWith (fun p a => (p, ptrN a)) ks al) p = lookK (List.zipWith (fun p a => (p, ptrN a)) ks al) p := by unfold lookK; rw [List.find?_cons_of_neg (by simpa using hk)]
      rw [this, ih, ix_cons hk]
      by_cases hp : p ∈ ks
      · rw [if_pos hp, if_pos (List.mem_cons_of_mem _ hp)]; rfl
      · rw [if_neg hp, if_neg (by rw [List.mem_cons]; rintro (e | e); exact hk e.symm; exact hp e)]

theorem setK_new {κ : Type} [DecidableEq κ] {k : κ} {v : Value} : ∀ {l : List (κ × Value)}, lookK l k = none → setK k v l = l ++ [(k, v)]
  | [], _ => rfl
  | q :: l, h => by
    unfold setK
    by_cases hk : q.1 = k
    · unfold lookK at h; rw [List.find?_cons_of_pos (by simpa using hk)] at h; cases h
    · have : lookK l k = none := by unfold lookK at h ⊢; rwa [List.find?_cons_of_neg (by simpa using hk)] at h
      rw [if_neg hk, setK_new this]; rfl

theorem prs_snoc {ks : List Plc} {al : List Nat} (h : al.length = ks.length) {p : Plc} {a : Nat} : prs ks al ++ [(p, ptrN a)] = prs (ks ++ [p]) (al ++ [a]) := by
  unfold prs; rw [List.zipWith_append h.symm]; rfl

section buns
variable {V : List Asn} {L : List Asn} {i : Nat} {A B : Asn}
theorem ent_bunAt (h : L[i]? = some A) : Ent (bun L :: V) (A :: bun (L.eraseIdx i) :: V) := ent_unbun.trans ((Ent.tak (tak_get h) (Ent.refl _)).trans (Ent.cons ent_bun))
theorem ent_bunSet (h : L[i]? = some A) : Ent (B :: bun (L.eraseIdx i) :: V) (bun (L.set i B) :: V) := (Ent.cons ent_unbun).trans ((ent_put h).trans ent_bun)
theorem ent_bunSnoc : Ent (B :: bun L :: V) (bun (L ++ [B]) :: V) := by
  refine (Ent.cons ent_unbun).trans (Ent.mid.trans ?_)
  have : Ent (L ++ (B :: V)) ((L ++ [B]) ++ V) := by rw [List.append_assoc]; exact Ent.refl _
  exact this.trans ent_bun
end buns

theorem bitX_get {al : List Nat} {bs : List Bits} (hl : al.length = bs.length) {i : Nat} {b : Bits} (hb : bs[i]? = some b) : (bitX al bs)[i]? = some (blk (al.getD i 0) 109 (cB b)) := by
  unfold bitX
  have hi := (List.getElem?_eq_some_iff.1 hb).1
  rw [List.getElem?_zipWith, hb, List.getElem?_eq_getElem (by omega), List.getD_eq_getElem?_getD, List.getElem?_eq_getElem (by omega)]; rfl
theorem bitX_set {al : List Nat} {bs : List Bits} (hl : al.length = bs.length) {i : Nat} (hi : i < bs.length) {b : Bits} : (bitX al bs).set i (blk (al.getD i 0) 109 (cB b)) = bitX al (bs.set i b) := by
  unfold bitX
  apply List.ext_getElem
  · simp
  · intro j h1 h2
    rw [List.getElem_zipWith, List.getElem_set, List.getElem_set]
    split
    · rename_i e; subst e
      rw [List.getD_eq_getElem?_getD, List.getElem?_eq_getElem (by omega)]; rfl
    · rw [List.getElem_zipWith]
theorem bitX_snoc {al : List Nat} {bs : List Bits} (hl : al.length = bs.length) {a : Nat} {b : Bits} : bitX al bs ++ [blk a 109 (cB b)] = bitX (al ++ [a]) (bs ++ [b]) := by
  unfold bitX; rw [List.zipWith_append hl]; rfl

attribute [local irreducible] EVX EVO EVL EV1 NEV
attribute [local irreducible] own osl exA rdA rdL
attribute [local irreducible] bldA mapA bun mapS
set_option maxRecDepth 10000
set_option maxHeartbeats 4000000

theorem add_w (bm b1 b2 b3 : Nat) (g0 g1 g2 g3 g4 l0 l1 : Value) (st : Stt) (hok : SttOk st) (htd : st.td.length ≤ 1000000000) (al : List Nat) (hal : al.length = st.ks.length) (At : Option Addr) (ct : Nat) (p : Plc) (l : Bits) (hll : l.length = 48) :
    Trip Tryd.prog 59 [ptrN bm, .agg (encP p).toArray, .agg (cB l).toArray] Rd.tt [mkB bm g0 g1 g2 g3 g4 l0 l1 b1 At st.td.length ct b2 b3, mapA keyP b1 (prs st.ks al), bun (bitX al st.bs), tdS At ct st.td]
      (fun v V => ∃ (al' : List Nat) (At' : Option Addr) (ct' : Nat), v = .tuple #[] ∧ al'.length = (addS st p l).ks.length ∧
        V = [mkB bm g0 g1 g2 g3 g4 l0 l1 b1 At' (addS st p l).td.length ct' b2 b3, mapA keyP b1 (prs (addS st p l).ks al'), bun (bitX al' (addS st p l).bs), tdS At' ct' (addS st p l).td]) := by
  refine trip Tryd.tabOk Tryd.func59 rfl rfl rfl rfl ?_
  rintro w SM hW
  clear hW
  repeat' (first | refine e_nil ?_ | ((refine e_op ?_); (refine o_box rfl rfl (fun _ => ?_))) | refine s_seq ?_ | refine s_region ?_)
  rename_i b4 b5
  have hg48 := getB_len (ks := st.ks) hok.l48 p
  have hal2 : al.length = st.bs.length := by rw [hok.len]; exact hal
  refine s_drawU [] Tryd.mixed (by decide +kernel) ?_
  repeat' (((first | refine l_n (peval_sound rfl) rfl ?_ rfl ?_ | refine l_n (nl rfl rfl tc rfl) rfl ?_ rfl ?_); · (exact Ent.refl _)))
  refine l_n (n_lookup (z := .pointer none) (k := p) rfl mkeyP (fun w => by kernel_rfl) rfl rfl rfl (.s (.s (.s .z)))) rfl (Ent.refl _) rfl ?_
  rw [look_prs hal]
  repeat' (first | refine l_nil ?_ | ((refine l_n (peval_sound rfl) rfl ?_ rfl ?_); · (exact Ent.refl _)))
  refine s_seq ?_
  refine s_join (ι := {al' : List Nat // al'.length = (addKs st.ks p).length}) (fun al' => [(6, ptrN (al'.1.getD (ix (addKs st.ks p) p) 0)), (5, ptrN b5), (4, ptrN b4), (0, ptrN bm)])
    (fun al' => [mapA keyP b1 (prs (addKs st.ks p) al'.1), bun (bitX al'.1 (addBs st.ks st.bs p)), blk b5 109 (cB l), blk b4 107 (encP p), mkB bm g0 g1 g2 g3 g4 l0 l1 b1 At st.td.length ct b2 b3, tdS At ct st.td]) (fun hj => ?_) ?_
  · by_cases hp : p ∈ st.ks
    · have e1 : addKs st.ks p = st.ks := by unfold addKs; rw [if_pos hp]
      have e2 : addBs st.ks st.bs p = st.bs := by unfold addBs; rw [if_pos hp]
      rw [if_pos hp]
      simp only [Option.getD_some]
      repeat' (first | ((refine e_op ?_); (refine o_n (peval_sound rfl) rfl ?_)) | refine s_seq ?_ | refine s_region ?_)
      refine e_op (o_n (n_eqlP Tryd.underlying111 (by kernel_rfl) rfl rfl) rfl ?_)
      refine e_nil ?_
      refine s_false rfl ?_
      refine s_skip ?_
      refine s_weak ?_ ?_ (hj ⟨al, by rw [e1]; exact hal⟩)
      · simp only [e1]
        repeat' (first | exact Sub.nil _ | refine Sub.cons rfl ?_)
      · simp only [e1, e2]
        exact Ent.tak (.s (.s (.s .z))) (Ent.tak (.s (.s (.s .z))) (Ent.refl _))
    · have e1 : addKs st.ks p = st.ks ++ [p] := by unfold addKs; rw [if_neg hp]
      have e2 : addBs st.ks st.bs p = st.bs ++ [zer] := by unfold addBs; rw [if_neg hp]
      rw [if_neg hp]
      simp only [Option.getD_none]
      repeat' (first | ((refine e_op ?_); (refine o_n (peval_sound rfl) rfl ?_)) | refine s_seq ?_ | refine s_region ?_)
      refine e_op (o_n (n_eqlP Tryd.underlying111 (by kernel_rfl) rfl rfl) rfl ?_)
      refine e_nil ?_
      refine s_true rfl ?_
      repeat' (first | refine s_seq ?_ | refine s_region ?_)
      refine e_op (o_n (n_buildA0 rfl rfl) rfl ?_)
      repeat' (first | refine e_nil ?_ | ((refine e_op ?_); (first | refine o_n (peval_sound rfl) rfl ?_ | refine o_box rfl rfl (fun _ => ?_))))
      rename_i bn
      have hz : List.replicate 48 (Value.bool false) = cB zer := by unfold zer; simp
      have hlk : lookK (prs st.ks al) p = none := by rw [look_prs hal, if_neg hp]
      rw [hz]
      refine s_drawT [6] (.s (.s (.s (.s .z)))) Tryd.mixed (by decide +kernel) ?_
      repeat' (((first | refine l_n (peval_sound rfl) rfl ?_ rfl ?_ | refine l_n (nl rfl rfl tc rfl) rfl ?_ rfl ?_); · (repeat' (first | exact Ent.refl _ | refine Ent.tak .z ?_ | refine Ent.wk ?_))))
      refine l_e rfl (o_mapUpdate (k := p) (v := ptrN bn) rfl mkeyP rfl rfl rfl rfl (.s (.s (.s (.s .z)))) ⟨Ent.cons (Ent.cons (Ent.cons (Ent.cons (Ent.wk (Ent.refl _))))), ?_⟩)
      rw [setK_new hlk, prs_snoc hal]
      refine l_nil ?_
      refine s_weak ?_ ?_ (hj ⟨al ++ [bn], by rw [e1, List.length_append, List.length_append, hal]; rfl⟩)
      · have hg : (al ++ [bn]).getD (ix (addKs st.ks p) p) 0 = bn := by
          rw [e1, ix_app_not hp, List.getD_eq_getElem?_getD, ← hal]; simp
        simp only [hg]
        repeat' (first | exact Sub.nil _ | refine Sub.cons rfl ?_)
      · simp only [e1, e2]
        refine Ent.tak (.s (.s (.s (.s .z)))) ?_
        rw [← bitX_snoc hal2]
        refine Ent.trans (Ent.tak .z (Ent.tak (.s (.s (.s .z))) (Ent.refl _))) ?_
        exact ent_bunSnoc
  · rintro ⟨al', hal'⟩
    simp only
    have hix := addKs_ix st.ks p
    have hbl := addBs_len hok.len p
    have hbg := addBs_get hok.len p
    have hab : al'.length = (addBs st.ks st.bs p).length := by rw [hbl]; exact hal'
    generalize hKS : addKs st.ks p = ks at *
    generalize hBS : addBs st.ks st.bs p = bs at *
    generalize hj0 : ix ks p = j at *
    generalize hol : getB st.ks st.bs p = old at *
    refine s_weak (Sub.refl _) (Ent.cons (ent_bunAt (bitX_get hab hbg))) ?_
    have hadd : addS st p l = ⟨ks, bs.set j (orB old l), if newB old l then st.td ++ [p] else st.td⟩ := by unfold addS; rw [hKS, hBS, hol, hj0]
    rw [hadd]
    simp only
    generalize hba : al'.getD j 0 = ba
    repeat' (first | refine e_nil ?_ | ((refine e_op ?_); (refine o_n (peval_sound rfl) rfl ?_)) | refine s_seq ?_ | refine s_region ?_)
    refine e_op (o_n (n_loadA rfl rfl (.s (.s (.s .z))) rfl hll) rfl ?_)
    repeat' (first | refine e_nil ?_ | ((refine e_op ?_); (refine o_n (peval_sound rfl) rfl ?_)) | refine s_block ?_)
    refine s_loopK (ι := {x : Nat // x ≤ 48}) [0, 4, 6, 26] rfl ⟨0, by omega⟩ (fun x => [(27, .int .i64 x.1), (7, .bool (newTo old l x.1))])
      (fun x => [blk ba 109 (cB (orTo old l x.1)), mapA keyP b1 (prs ks al'), bun ((bitX al' bs).eraseIdx j), blk b4 107 (encP p), mkB bm g0 g1 g2 g3 g4 l0 l1 b1 At st.td.length ct b2 b3, tdS At ct st.td]) (fun x => 48 - x.1) ?_ ?_ ?_
    · repeat' (first | exact Sub.nil _ | refine Sub.cons rfl ?_)
    · simp only [orTo_zero]
      exact Ent.tak (.s .z) (Ent.cons (Ent.cons (Ent.wk (Ent.refl _))))
    rintro ⟨i, hi⟩
    simp only at hi ⊢
    repeat' (first | refine e_nil ?_ | ((refine e_op ?_); (refine o_n (peval_sound rfl) rfl ?_)) | refine s_seq ?_ | refine s_region ?_)
    by_cases hlt : i < 48
    · rw [decide_eq_true (p := (i : Int) < 48) (by omega)]
      have hil : i < l.length := by omega
      have hio : i < (orTo old l i).length := by rw [orTo_len]; omega
      have hold := orTo_old (old := old) (l := l) (i := i) (by omega)
      have hsucc := orTo_succ (old := old) (l := l) (i := i) (by omega)
      have hnew := newTo_succ old l i
      have hlg : l.getD i false = l[i] := by rw [List.getD_eq_getElem?_getD, List.getElem?_eq_getElem hil]; rfl
      have hog : (orTo old l i)[i] = old.getD i false := by rw [← hold, List.getD_eq_getElem?_getD, List.getElem?_eq_getElem hio]; rfl
      rw [hold] at hsucc
      rw [hlg] at hsucc hnew
      repeat' (first | ((refine e_op ?_); (refine o_n (peval_sound rfl) rfl ?_)) | refine s_seq ?_ | refine s_region ?_ | refine s_block ?_ | refine s_skip ?_ | refine s_true rfl ?_)
      refine e_op (o_n (n_idxB (bs := l) rfl rfl rfl rfl rfl rfl (by omega) i rfl hlt) rfl ?_)
      repeat' (first | refine e_nil ?_ | ((refine e_op ?_); (refine o_n (peval_sound rfl) rfl ?_)) | refine s_seq ?_ | refine s_region ?_)
      cases hb : l[i] with
      | false =>
        rw [hb] at hsucc hnew
        simp only [Bool.false_and, Bool.or_false, Bool.false_eq_true, if_false] at hsucc hnew
        repeat' (first | refine e_nil ?_ | ((refine e_op ?_); (refine o_n (peval_sound rfl) rfl ?_)) | refine e_noU rfl rfl rfl ?_ | refine s_region ?_ | refine s_end ?_ | refine s_skip ?_ | refine s_false rfl ?_)
        refine s_back ⟨⟨i + 1, by omega⟩, by simp only; omega, ?_, ?_⟩
        · repeat' (first | exact Sub.nil _ | refine Sub.cons rfl ?_ | refine Sub.consE rfl ?_ ?_)
          · exact inc (i := i) (by omega)
          · rw [hnew]
        · simp only [hsucc]; exact Ent.refl _
      | true =>
        rw [hb] at hsucc hnew
        simp only [Bool.true_and] at hsucc hnew
        repeat' (((refine e_yes rfl ?_); (refine o_n (peval_sound rfl) rfl ?_)))
        refine e_yes rfl (o_n (n_indexA rfl rfl rfl rfl i rfl hlt) rfl ?_)
        skip
        refine e_yes rfl (o_n (n_loadB rfl rfl .z rfl i hio (by simp)) rfl ?_)
        rw [hog]
        cases ho : old.getD i false with
        | true =>
          rw [ho] at hsucc hnew
          simp only [Bool.not_true, Bool.or_false, Bool.false_eq_true, if_false] at hsucc hnew
          repeat' (first | refine e_nil ?_ | ((first | refine e_op ?_ | refine e_yes rfl ?_); (refine o_n (peval_sound rfl) rfl ?_)) | refine s_region ?_ | refine s_end ?_ | refine s_skip ?_ | refine s_false rfl ?_)
          refine s_back ⟨⟨i + 1, by omega⟩, by simp only; omega, ?_, ?_⟩
          · repeat' (first | exact Sub.nil _ | refine Sub.cons rfl ?_ | refine Sub.consE rfl ?_ ?_)
            · exact inc (i := i) (by omega)
            · rw [hnew]
          · simp only [hsucc]; exact Ent.refl _
        | false =>
          rw [ho] at hsucc hnew
          simp only [Bool.not_false, Bool.or_true, if_true] at hsucc hnew
          repeat' (first | refine e_nil ?_ | ((first | refine e_op ?_ | refine e_yes rfl ?_); (refine o_n (peval_sound rfl) rfl ?_)) | refine s_region ?_ | refine s_true rfl ?_)
          refine e_op (o_n (n_indexA rfl rfl rfl rfl i rfl hlt) rfl ?_)
          refine e_op (o_storeB rfl rfl rfl rfl i hio (by simp) .z ?_)
          rw [← hsucc]
          repeat' (first | refine e_nil ?_ | ((refine e_op ?_); (refine o_n (peval_sound rfl) rfl ?_)) | refine s_region ?_ | refine s_end ?_)
          refine s_back ⟨⟨i + 1, by omega⟩, by simp only; omega, ?_, Ent.refl _⟩
          repeat' (first | exact Sub.nil _ | refine Sub.cons rfl ?_ | refine Sub.consE rfl ?_ ?_)
          · exact inc (i := i) (by omega)
          · rw [hnew]
    · rw [decide_eq_false (p := (i : Int) < 48) (by omega)]
      obtain rfl : i = 48 := by omega
      have hfin : orTo old l 48 = orB old l := by unfold orB; rw [hg48]
      have hnfin : newTo old l 48 = newB old l := by unfold newB; rw [hg48]
      have hjl : j < bs.length := by omega
      rw [hfin, hnfin]
      have hbk : ∀ V, Ent (blk ba 109 (cB (orB old l)) :: bun ((bitX al' bs).eraseIdx j) :: V) (bun (bitX al' (bs.set j (orB old l))) :: V) := fun V => by
        have h1 := ent_bunSet (V := V) (B := blk (al'.getD j 0) 109 (cB (orB old l))) (bitX_get hab hbg)
        rw [bitX_set hab hjl, hba] at h1
        exact h1
      cases hnb : newB old l with
      | false =>
        repeat' (first | refine e_nil ?_ | ((refine e_op ?_); (refine o_n (peval_sound rfl) rfl ?_)) | refine s_seq ?_ | refine s_region ?_ | refine s_skip ?_ | refine s_exit ?_ | refine s_false rfl ?_ | refine x_hit ?_ | refine x_code ?_ | refine x_back ?_)
        simp only [Bool.false_eq_true, if_false]
        refine s_nil ?_
        refine ⟨_, _, res0 rfl, ⟨al', At, ct, rfl, hal', rfl⟩, ?_⟩
        exact Ent.tak (.s (.s (.s (.s .z)))) (Ent.tak (.s .z) (Ent.trans (Ent.cons (Ent.cons (Ent.wk (Ent.refl _)))) (hbk _)))
      | true =>
        simp only [if_true]
        repeat' (first | refine e_nil ?_ | ((refine e_op ?_); (refine o_n (peval_sound rfl) rfl ?_)) | refine s_seq ?_ | refine s_region ?_ | refine s_exit ?_ | refine s_true rfl ?_ | refine s_false rfl ?_ | refine x_hit ?_ | refine x_code ?_ | refine x_back ?_)
        refine s_P Tryd.mixed (by decide +kernel) ?_
        refine p_mv 0 rfl rfl (by decide +kernel) rfl ?_
        refine p_mv 1 rfl rfl (by decide +kernel) rfl ?_
        refine p_barU 7 ?_
        refine q_n 2 rfl (peval_sound rfl) (by decide +kernel) (by decide +kernel) (Ent.refl _) rfl ?_
        refine q_n 3 rfl (peval_sound rfl) (by decide +kernel) (by decide +kernel) (Ent.refl _) rfl ?_
        refine q_n 4 rfl (nl rfl rfl tc rfl) (by decide +kernel) (by decide +kernel) (Ent.refl _) rfl ?_
        refine q_n 5 rfl (nl rfl rfl tc rfl) (by decide +kernel) (by decide +kernel) (Ent.refl _) rfl ?_
        refine q_1 6 (by decide +kernel) rfl rfl rfl (o_lit (ps := [(0, .agg (encP p).toArray)]) (cs := encP p) rfl rfl rfl rfl rfl rfl rfl (fun bl => ⟨Ent.wk (Ent.refl _), ?_⟩))
        refine q_z 7 (by decide +kernel) rfl rfl (o_append (v := .slice At st.td.length ct) (n := st.td.length) (m := 1) (xs := st.td.flatMap encP) (news := encP p) _ rfl rfl rfl rfl (fun w hm q u hu => ?_) rfl ?_ rfl (by omega) (by simp only; omega) (by omega) rfl (fun b c => .s (.s (.s (.s (.s (.s .z)))))) (fun bt ca => ?_))
        · obtain ⟨S1, hP, _⟩ := hm.tak .z
          rw [Nat.zero_add]
          exact osl_cells hP q u hu
        · simp [encP, oneB]
        refine p_barU 10 ?_
        refine q_n 8 rfl (peval_sound rfl) (by decide +kernel) (by decide +kernel) (Ent.refl _) rfl ?_
        refine q_n 9 rfl (peval_sound rfl) (by decide +kernel) (by decide +kernel) (Ent.refl _) rfl ?_
        refine q_z 10 (by decide +kernel) rfl rfl (o_storeC rfl rfl rfl rfl tc uc rfl rfl rfl ?_)
        refine p_done (by decide +kernel) ?_
        refine s_nil ?_
        have hfl : st.td.flatMap encP ++ encP p = (st.td ++ [p]).flatMap encP := by rw [List.flatMap_append]; simp
        have hfn : st.td.length + 1 = (st.td ++ [p]).length := by simp
        rw [hfl, hfn]
        refine ⟨_, _, res0 rfl, ⟨al', some ⟨bt, 0, none⟩, ca, rfl, hal', rfl⟩, ?_⟩
        exact Ent.wk (Ent.tak (.s (.s (.s (.s .z)))) (Ent.tak (.s .z) (Ent.trans (Ent.cons (Ent.cons (Ent.wk (Ent.refl _)))) (hbk _))))

end Go.Proofs.YtcbaebkkdkdaaaaDoor

namespace Go.Proofs.YtcbaebkkdkdaaaaDoor
set_option linter.all false
open Go.Proofs.YtcbaebkkdkdaaaaDoor.E

def restL (g : Gram) (x : Itm) : List Int := (prd g x.Prod).Right.drop (x.Dot.toNat + 1)
def restB (g : Gram) (x : Itm) : Bits := (rowT g.Terms.length (bFix g) (restL g x)).1 ++ zer.drop g.Terms.length
def restN (g : Gram) (x : Itm) : Bool := (rowT g.Terms.length (bFix g) (restL g x)).2

theorem restB_len {g : Gram} (h : g.Terms.length ≤ 48) (x : Itm) : (restB g x).length = 48 := by
  unfold restB
  rw [List.length_append, rowT_len, List.length_drop, zer_len]; omega

abbrev begM (g : Gram) (c : List Itm) : List (Itm × Value) := c.map fun x => (x, .agg (cB (restB g x)).toArray)
abbrev empM (g : Gram) (c : List Itm) : List (Itm × Value) := c.map fun x => (x, .bool (restN g x))

theorem look_map {v : Itm → Value} : ∀ {c : List Itm} {x : Itm}, lookK (c.map fun x => (x, v x)) x = if x ∈ c then some (v x) else none
  | [], _ => rfl
  | y :: c, x => by
    have ih := look_map (v := v) (c := c) (x := x)
    unfold lookK at ih ⊢
    rw [List.map_cons]
    by_cases h : y = x
    · subst h
      rw [List.find?_cons_of_pos (by simp), if_pos (by simp)]; rfl
    · rw [List.find?_cons_of_neg (by simpa using h), ih]
      by_cases hx : x ∈ c
      · rw [if_pos hx, if_pos (List.mem_cons_of_mem _ hx)]
      · rw [if_neg hx, if_neg (by rw [List.mem_cons]; rintro (e | e); exact h e.symm; exact hx e)]

theorem els_drop {α : Type} {k : Kd α} {w : World} {S : BSet} {A : Option Addr} {xs : List α} {q c : Nat} (h : Els k w S A xs) (hc : xs.length ≤ c) : Els k w S (if c = q then A else A.map (·.add (q * k.sz))) (xs.drop q) := by
  intro i hi
  rw [List.length_drop] at hi
  obtain ⟨b, o, es, rfl, hb, hr, hcl⟩ := h (q + i) (by omega)
  rw [if_neg (by omega)]
  refine ⟨b, o + q * k.sz, es, ?_, hb, by rw [List.getElem_drop]; exact hr, fun j u hu => ?_⟩
  · simp only [Option.map_some, Option.some.injEq]
    unfold Addr.add; split <;> simp_all
  · have := hcl j u hu
    rw [show o + q * k.sz + i * k.sz + j = o + (q + i) * k.sz + j by rw [Nat.add_mul]; omega]
    exact this

theorem ofE_rest {g : Gram} (hc : checkE g = 0) {x : Itm} (hx : inG g x = true) : ofE g (restL g x) = 0 := by
  obtain ⟨hlm, hwf⟩ := checkE_ok hc
  have hL := lims hlm
  unfold inG at hx
  simp only [Bool.and_eq_true, decide_eq_true_eq] at hx
  obtain ⟨p, hp⟩ : ∃ p : Nat, x.Prod = (p : Int) := ⟨x.Prod.toNat, by omega⟩
  have hpl : p < g.Prods.length := by omega
  have hr12 := hL.r _ (List.getElem_mem hpl)
  unfold ofE
  rw [if_neg (fun h => h hc)]
  have hlen : (restL g x).length ≤ 12 := by unfold restL; rw [List.length_drop, hp, prd_at hpl]; omega
  rw [if_neg (by omega), if_neg]
  rw [List.any_eq_true]
  rintro ⟨s, hs, hb⟩
  unfold restL at hs
  rw [hp, prd_at hpl] at hs
  have := (prod_ok hwf hpl).2.2 s (List.mem_of_mem_drop hs)
  unfold inB at hb
  simp only [Bool.or_eq_true, decide_eq_true_eq] at hb
  omega

theorem rescA3 {E0 : Go.Proofs.YtcbaebkkdkdaaaaDoor.E.Env} {fr : Frm} {U : List Asn} {fn : Func} {p q r : Tmp} {t : TypeId} {i : TI} {b : Nat} {T : TypeId} {bs : Bits} {v2 v3 : Value} {U' : List Asn} (h : fn.results = #[.cell p t, .tmp q, .tmp r]) (hp : Go.Proofs.YtcbaebkkdkdaaaaDoor.E.look fr p = some (.pointer (some ⟨b, 0, none⟩)))
    (ht : tl E0.T t = some i) (hU : Tak (blk b T (cB bs)) U U') (ha : aggB i.d = true) (hs : bs.length = i.size) (hq : Go.Proofs.YtcbaebkkdkdaaaaDoor.E.look fr q = some v2) (hr : Go.Proofs.YtcbaebkkdkdaaaaDoor.E.look fr r = some v3) : Res E0 fn fr U (.tuple #[.agg (cB bs).toArray, v2, v3]) := fun a w hf hm => by
  obtain ⟨S1, ⟨_, hb⟩, _⟩ := hm.tak hU
  have hc : ∀ j u, (cB bs)[j]? = some u → w.cell? ⟨b, j, none⟩ = some u := fun j u hu => by rw [cell_of_row w b j _ _ _ hb]; simpa using hu
  have hl : loadL i (cB bs) 0 = some (.agg (cB bs).toArray) := ld_all (n := i.size) (by rw [cB_len, hs]) ha rfl rfl
  have h1 := hf.frm p _ hp
  have h2 := hf.frm q _ hq
  have h3 := hf.frm r _ hr
  simp [results, h, h1, h2, h3, asAddr, run_loadVar ht hc hl]
theorem zer48 : List.replicate 48 (Value.bool false) = cB zer := by unfold zer; simp
theorem o_allocB {E0 : Go.Proofs.YtcbaebkkdkdaaaaDoor.E.Env} {fr : Frm} {U : List Asn} {N : Frm → List Asn → Prop} {d : Nat} {t : TypeId} {ty : TypeId} {pos : String} {af : Array Edge} {gd : Option (Nat × Bool)} {i : TI} {bs : Bits} (ht : tl E0.T t = some i) (hz : i.zero = cB bs) (hd : Nat.ble (d + 1) E0.n = true)
    (h : ∀ b, N ((d, .pointer (some ⟨b, 0, none⟩)) :: fr) (blk b t (cB bs) :: U)) : EV1 E0 ⟨some d, .alloc t, ty, pos, af, gd⟩ fr U N :=
  o_alloc ht hd (fun b => by rw [hz]; exact h b)
theorem zero109 (w : World) : (zeroValue 109).run Tryd.prog w = .ok (.agg (cB zer).toArray) w := by
  rw [← zer48]; kernel_rfl

attribute [local irreducible] EVX EVO EVL EV1 NEV
attribute [local irreducible] own osl exA rdA rdL
attribute [local irreducible] bldA mapA bun mapS
set_option maxRecDepth 10000
set_option maxHeartbeats 4000000

theorem rest_w (bm b1 b2 b3 : Nat) (A0 A1 A2 A3 A4 : Option Addr) (c0 c1 c2 c3 c4 : Nat) (l0 l1 : Value) (g : Gram) (hc : checkE g = 0) (At : Option Addr) (n ct : Nat) (x : Itm) (hx : inG g x = true) (hd : x.Dot < (prd g x.Prod).Right.length) (c : List Itm) (st2 st3 : List Nat) (k2 k3 : Nat) :
    Trip Tryd.prog 83 [ptrN bm, .agg (encX x).toArray] (kGram.rd [.slice A0 g.Terms.length c0, .slice A1 g.Levels.length c1, .slice A2 g.Pats.length c2, .slice A3 g.Nons.length c3, .slice A4 g.Prods.length c4] g)
      [mkB bm (.slice A0 g.Terms.length c0) (.slice A1 g.Levels.length c1) (.slice A2 g.Pats.length c2) (.slice A3 g.Nons.length c3) (.slice A4 g.Prods.length c4) l0 l1 b1 At n ct b2 b3, mapS keyX b2 (begM g c) st2 k2, mapS keyX b3 (empM g c) st3 k3]
      (fun v V => ∃ (c' : List Itm) (st2' st3' : List Nat) (k2' k3' : Nat), v = .tuple #[.agg (cB (restB g x)).toArray, .bool (restN g x), .int .i64 0] ∧
        V = [mkB bm (.slice A0 g.Terms.length c0) (.slice A1 g.Levels.length c1) (.slice A2 g.Pats.length c2) (.slice A3 g.Nons.length c3) (.slice A4 g.Prods.length c4) l0 l1 b1 At n ct b2 b3, mapS keyX b2 (begM g c') st2' k2', mapS keyX b3 (empM g c') st3' k3']) := by
  refine trip Tryd.tabOk Tryd.func83 rfl rfl rfl rfl ?_
  rintro w SM hG0
  obtain ⟨_, _, _, _, _, _, _, _, _, _, e, hG⟩ := kGram_open hG0
  cases e
  obtain ⟨hlm, hwf⟩ := checkE_ok hc
  have hL := lims hlm
  have hT := hL.t
  repeat' (first | refine e_nil ?_ | ((refine e_op ?_); (first | refine o_n (peval_sound rfl) rfl ?_ | refine o_box rfl rfl (fun _ => ?_) | refine o_alloc rfl rfl (fun _ => ?_))) | refine s_seq ?_ | refine s_region ?_)
  rename_i b3x b4
  dsimp only
  rw [zer48]
  by_cases hxc : x ∈ c
  · have h2 : lookK (begM g c) x = some (.agg (cB (restB g x)).toArray) := by rw [look_map, if_pos hxc]
    have h3 : lookK (empM g c) x = some (.bool (restN g x)) := by rw [look_map, if_pos hxc]
    refine s_anyU Tryd.mixed ?_
    (refine a_n 0 rfl (peval_sound rfl) (by decide +kernel) (by (exact Ent.refl _)) rfl ?_); (refine a_n 1 rfl (peval_sound rfl) (by decide +kernel) (by (exact Ent.refl _)) rfl ?_); (refine a_n 2 rfl (peval_sound rfl) (by decide +kernel) (by (exact Ent.refl _)) rfl ?_); (first | refine a_n 3 rfl (peval_sound rfl) (by decide +kernel) (by (exact Ent.refl _)) rfl ?_ | refine a_n 3 rfl (nl rfl rfl tc rfl) (by decide +kernel) (by (exact Ent.refl _)) rfl ?_); (first | refine a_n 4 rfl (peval_sound rfl) (by decide +kernel) (by (exact Ent.refl _)) rfl ?_ | refine a_n 4 rfl (nl rfl rfl tc rfl) (by decide +kernel) (by (exact Ent.refl _)) rfl ?_)
    refine a_n 5 rfl (NEV.weak (Ent.trans (Ent.tak (.s (.s (.s .z))) (Ent.refl _)) ent_mapS) (n_lookup2 (k := x) rfl mkey42 zero109 rfl rfl rfl .z)) (by decide +kernel) (by (exact Ent.refl _)) rfl ?_
    rw [h2]
    (refine a_n 6 rfl (peval_sound rfl) (by decide +kernel) (by (exact Ent.refl _)) rfl ?_); (refine a_n 7 rfl (peval_sound rfl) (by decide +kernel) (by (exact Ent.refl _)) rfl ?_); (refine a_n 8 rfl (peval_sound rfl) (by decide +kernel) (by (exact Ent.refl _)) rfl ?_)
    refine a_1 9 (by decide +kernel) rfl rfl (o_allocB rfl zer48 rfl (fun b7 => ⟨(by (repeat' (first | exact Ent.refl _ | refine Ent.wk ?_))), ?_⟩))
    refine a_1 10 (by decide +kernel) rfl rfl (o_storeA rfl rfl rfl (restB_len hT x) zer_len .z ⟨(by (repeat' (first | exact Ent.refl _ | refine Ent.wk ?_))), ?_⟩)
    (refine a_n 11 rfl (peval_sound rfl) (by decide +kernel) (by (repeat' (first | exact Ent.refl _ | refine Ent.wk ?_))) rfl ?_)
    refine a_done (by decide +kernel) ?_
    repeat' (first | refine e_nil ?_ | ((refine e_op ?_); (refine o_n (peval_sound rfl) rfl ?_)) | refine s_seq ?_ | refine s_region ?_ | refine s_true rfl ?_)
    refine s_anyT (.s .z) Tryd.mixed ?_
    refine a_n 0 rfl (n_loadA rfl rfl .z rfl (restB_len hT x)) (by decide +kernel) (by (repeat' (first | exact Ent.refl _ | refine Ent.tak .z ?_ | refine Ent.wk ?_))) rfl ?_
    (refine a_n 1 rfl (peval_sound rfl) (by decide +kernel) (by (repeat' (first | exact Ent.refl _ | refine Ent.tak .z ?_ | refine Ent.wk ?_))) rfl ?_); (refine a_n 2 rfl (peval_sound rfl) (by decide +kernel) (by (repeat' (first | exact Ent.refl _ | refine Ent.tak .z ?_ | refine Ent.wk ?_))) rfl ?_); (refine a_n 3 rfl (peval_sound rfl) (by decide +kernel) (by (repeat' (first | exact Ent.refl _ | refine Ent.tak .z ?_ | refine Ent.wk ?_))) rfl ?_); (first | refine a_n 4 rfl (peval_sound rfl) (by decide +kernel) (by (repeat' (first | exact Ent.refl _ | refine Ent.tak .z ?_ | refine Ent.wk ?_))) rfl ?_ | refine a_n 4 rfl (nl rfl rfl tc rfl) (by decide +kernel) (by (repeat' (first | exact Ent.refl _ | refine Ent.tak .z ?_ | refine Ent.wk ?_))) rfl ?_); (first | refine a_n 5 rfl (peval_sound rfl) (by decide +kernel) (by (repeat' (first | exact Ent.refl _ | refine Ent.tak .z ?_ | refine Ent.wk ?_))) rfl ?_ | refine a_n 5 rfl (nl rfl rfl tc rfl) (by decide +kernel) (by (repeat' (first | exact Ent.refl _ | refine Ent.tak .z ?_ | refine Ent.wk ?_))) rfl ?_)
    refine a_n 6 rfl (NEV.weak (Ent.trans (Ent.tak (.s (.s (.s (.s .z)))) (Ent.refl _)) ent_mapS) (n_lookup (z := .bool false) (k := x) rfl mkey42 (fun w => by kernel_rfl) rfl rfl rfl .z)) (by decide +kernel) (by (repeat' (first | exact Ent.refl _ | refine Ent.tak .z ?_ | refine Ent.wk ?_))) rfl ?_
    rw [h3]
    refine a_1 7 (by decide +kernel) rfl rfl (o_storeA rfl rfl rfl (restB_len hT x) zer_len (.s .z) ⟨(by (repeat' (first | exact Ent.refl _ | refine Ent.tak .z ?_ | refine Ent.wk ?_))), ?_⟩)
    (refine a_n 8 rfl (peval_sound rfl) (by decide +kernel) (by (repeat' (first | exact Ent.refl _ | refine Ent.tak .z ?_ | refine Ent.wk ?_))) rfl ?_); (refine a_n 9 rfl (peval_sound rfl) (by decide +kernel) (by (repeat' (first | exact Ent.refl _ | refine Ent.tak .z ?_ | refine Ent.wk ?_))) rfl ?_)
    refine a_done (by decide +kernel) ?_
    skip
    refine s_ret ⟨_, _, rescA3 rfl rfl rfl (.s .z) rfl (restB_len hT x) rfl rfl, ⟨c, st2, st3, k2, k3, rfl, rfl⟩, ?_⟩
    exact Ent.wk (Ent.wk (Ent.wk (Ent.refl _)))
  · have h2 : lookK (begM g c) x = none := by rw [look_map, if_neg hxc]
    have h3 : lookK (empM g c) x = none := by rw [look_map, if_neg hxc]
    refine s_anyU Tryd.mixed ?_
    (refine a_n 0 rfl (peval_sound rfl) (by decide +kernel) (by (exact Ent.refl _)) rfl ?_); (refine a_n 1 rfl (peval_sound rfl) (by decide +kernel) (by (exact Ent.refl _)) rfl ?_); (refine a_n 2 rfl (peval_sound rfl) (by decide +kernel) (by (exact Ent.refl _)) rfl ?_); (first | refine a_n 3 rfl (peval_sound rfl) (by decide +kernel) (by (exact Ent.refl _)) rfl ?_ | refine a_n 3 rfl (nl rfl rfl tc rfl) (by decide +kernel) (by (exact Ent.refl _)) rfl ?_); (first | refine a_n 4 rfl (peval_sound rfl) (by decide +kernel) (by (exact Ent.refl _)) rfl ?_ | refine a_n 4 rfl (nl rfl rfl tc rfl) (by decide +kernel) (by (exact Ent.refl _)) rfl ?_)
    refine a_n 5 rfl (NEV.weak (Ent.trans (Ent.tak (.s (.s (.s .z))) (Ent.refl _)) ent_mapS) (n_lookup2 (k := x) rfl mkey42 zero109 rfl rfl rfl .z)) (by decide +kernel) (by (exact Ent.refl _)) rfl ?_
    rw [h2]
    (refine a_n 6 rfl (peval_sound rfl) (by decide +kernel) (by (exact Ent.refl _)) rfl ?_); (refine a_n 7 rfl (peval_sound rfl) (by decide +kernel) (by (exact Ent.refl _)) rfl ?_); (refine a_n 8 rfl (peval_sound rfl) (by decide +kernel) (by (exact Ent.refl _)) rfl ?_)
    refine a_1 9 (by decide +kernel) rfl rfl (o_allocB rfl zer48 rfl (fun b7 => ⟨(by (repeat' (first | exact Ent.refl _ | refine Ent.wk ?_))), ?_⟩))
    refine a_1 10 (by decide +kernel) rfl rfl (o_storeA rfl rfl rfl zer_len zer_len .z ⟨(by (repeat' (first | exact Ent.refl _ | refine Ent.wk ?_))), ?_⟩)
    (refine a_n 11 rfl (peval_sound rfl) (by decide +kernel) (by (repeat' (first | exact Ent.refl _ | refine Ent.wk ?_))) rfl ?_)
    refine a_done (by decide +kernel) ?_
    repeat' (first | refine e_nil ?_ | ((refine e_op ?_); (refine o_n (peval_sound rfl) rfl ?_)) | refine s_seq ?_ | refine s_region ?_ | refine s_skip ?_ | refine s_false rfl ?_)
    have hxin := hx
    unfold inG at hxin
    simp only [Bool.and_eq_true, decide_eq_true_eq] at hxin
    obtain ⟨xp, xd⟩ := x
    simp only at hxin
    obtain ⟨p, rfl⟩ : ∃ p : Nat, xp = (p : Int) := ⟨xp.toNat, by omega⟩
    obtain ⟨d, rfl⟩ : ∃ d : Nat, xd = (d : Int) := ⟨xd.toNat, by omega⟩
    have hpl : p < g.Prods.length := by omega
    have hr12 := hL.r _ (List.getElem_mem hpl)
    have hd2 : d < g.Prods[p].Right.length := by rw [prd_at hpl] at hd; simp only at hd; omega
    have hl : restL g ⟨p, d⟩ = g.Prods[p].Right.drop (d + 1) := by unfold restL; rw [prd_at hpl, Int.toNat_natCast]
    obtain ⟨b9, o9, es9, rfl, hb9, he9, hc9⟩ := hG.prods.2.2 p hpl
    obtain ⟨Ar, cr, rfl, hl9, hlN, hlK, hri⟩ := kPrd_open he9
    have hw1 : IntKind.i64.wrap ((d : Int) + 1) = ((d + 1 : Nat) : Int) := by rw [wrap_i64] <;> omega
    have hdr := els_drop (q := d + 1) hri.2.2 hri.1
    have hof := ofE_rest hc hx
    rw [hl] at hof
    have hrr : (rowT g.Terms.length (bFix g) (g.Prods[p].Right.drop (d + 1))).1 ++ zer.drop g.Terms.length = restB g ⟨p, d⟩ := by unfold restB; rw [hl]
    have hrn : (rowT g.Terms.length (bFix g) (g.Prods[p].Right.drop (d + 1))).2 = restN g ⟨p, d⟩ := by unfold restN; rw [hl]
    unfold encX
    refine s_drawU [18] Tryd.mixed (by decide +kernel) ?_
    repeat' (((first | refine l_n (peval_sound rfl) rfl ?_ rfl ?_ | refine l_n (nl rfl rfl tc rfl) rfl ?_ rfl ?_); · (exact Ent.refl _)))
    refine l_n (n_index rfl rfl rfl rfl p rfl hpl) rfl (Ent.refl _) rfl ?_
    repeat' (((refine l_n (peval_sound rfl) rfl ?_ rfl ?_); · (exact Ent.refl _)))
    refine l_n (n_load_ro rfl rfl hb9 (loads_one rfl (hc9 1 _ rfl))) rfl (Ent.refl _) rfl ?_
    repeat' (((first | refine l_n (peval_sound rfl) rfl ?_ rfl ?_ | refine l_n (nl rfl rfl tc rfl) rfl ?_ rfl ?_); · (exact Ent.refl _)))
    rw [hw1]
    refine l_n (n_fromV (d + 1) rfl rfl rfl rfl rfl (by omega)) rfl (Ent.refl _) rfl ?_
    skip
    refine l_e rfl (o_call (of_w _ g _ (g.Prods[p].Right.length - (d + 1)) (cr - (d + 1)) (g.Prods[p].Right.drop (d + 1)) (by rw [List.length_drop])) rfl .nil (Can.and (Can.ro hG0) (Can.ro ⟨_, _, by rw [List.length_drop]; rfl, by rw [List.length_drop]; have := hri.1; omega, by rw [List.length_drop]; have := hri.2.1; omega, hdr⟩)) rfl ?_)
    rintro v V (⟨hne, _⟩ | ⟨_, bu, rfl, rfl⟩)
    · exact absurd hof hne
    rw [hrn]
    refine ⟨Ent.wk (Ent.refl _), ?_⟩
    simp only [List.cons_append, List.nil_append]
    repeat' (first | refine l_nil ?_ | ((refine l_n (peval_sound rfl) rfl ?_ rfl ?_); · (repeat' (first | exact Ent.refl _ | refine Ent.wk ?_))))
    repeat' (first | refine e_nil ?_ | ((refine e_op ?_); (refine o_alloc rfl rfl (fun _ => ?_))) | refine s_seq ?_ | refine s_region ?_)
    dsimp only
    rw [zer48]
    rename_i b12
    refine e_op (o_n (n_arrAll rfl rfl rfl) rfl ?_)
    repeat' (((refine e_op ?_); (refine o_n (peval_sound rfl) rfl ?_)))
    refine e_op (o_copyB rfl rfl rfl rfl rfl (.s .z) zer_len hT rfl .z ?_)
    rw [hrr]
    refine e_weak (fr' := [(12, ptrN b12), (11, .int .i64 0), (10, .bool (restN g ⟨p, d⟩)), (4, ptrN b4), (3, ptrN b3x), (0, ptrN bm)]) (V := [blk b12 109 (cB (restB g ⟨p, d⟩)), blk b4 109 (cB zer), blk b3x 42 [.int .i64 p, .int .i64 d], mkB bm (.slice A0 g.Terms.length c0) (.slice A1 g.Levels.length c1) (.slice A2 g.Pats.length c2) (.slice A3 g.Nons.length c3) (.slice (some ⟨b9, o9, none⟩) g.Prods.length c4) l0 l1 b1 At n ct b2 b3, mapS keyX b2 (begM g c) st2 k2, mapS keyX b3 (empM g c) st3 k3]) ?_ (Ent.tak .z (Ent.wk (Ent.wk (Ent.refl _)))) ?_
    · repeat' (first | exact Sub.nil _ | refine Sub.cons rfl ?_)
    repeat' (first | refine e_nil ?_ | refine s_seq ?_)
    refine s_P Tryd.mixed (by decide +kernel) ?_
    refine p_bar 17 [blk b12 109 (cB (restB g ⟨p, d⟩)), blk b4 109 (cB zer), blk b3x 42 [.int .i64 p, .int .i64 d], mkB bm (.slice A0 g.Terms.length c0) (.slice A1 g.Levels.length c1) (.slice A2 g.Pats.length c2) (.slice A3 g.Nons.length c3) (.slice (some ⟨b9, o9, none⟩) g.Prods.length c4) l0 l1 b1 At n ct b2 b3] ?_
    refine q_n 0 rfl (peval_sound rfl) (by decide +kernel) (by decide +kernel) (Ent.cons (Ent.cons (Ent.cons (Ent.cons (Ent.nil _))))) rfl ?_
    refine q_n 1 rfl (peval_sound rfl) (by decide +kernel) (by decide +kernel) (Ent.cons (Ent.cons (Ent.cons (Ent.cons (Ent.nil _))))) rfl ?_
    refine q_n 2 rfl (peval_sound rfl) (by decide +kernel) (by decide +kernel) (Ent.cons (Ent.cons (Ent.cons (Ent.cons (Ent.nil _))))) rfl ?_
    refine q_n 3 rfl (nl rfl rfl tc rfl) (by decide +kernel) (by decide +kernel) (Ent.cons (Ent.cons (Ent.cons (Ent.cons (Ent.nil _))))) rfl ?_
    refine q_n 4 rfl (nl rfl rfl tc rfl) (by decide +kernel) (by decide +kernel) (Ent.cons (Ent.cons (Ent.cons (Ent.cons (Ent.nil _))))) rfl ?_
    refine q_n 5 rfl (peval_sound rfl) (by decide +kernel) (by decide +kernel) (Ent.cons (Ent.cons (Ent.cons (Ent.cons (Ent.nil _))))) rfl ?_
    refine q_n 6 rfl (peval_sound rfl) (by decide +kernel) (by decide +kernel) (Ent.cons (Ent.cons (Ent.cons (Ent.cons (Ent.nil _))))) rfl ?_
    refine q_n 7 rfl (peval_sound rfl) (by decide +kernel) (by decide +kernel) (Ent.cons (Ent.cons (Ent.cons (Ent.cons (Ent.nil _))))) rfl ?_
    refine q_n 8 rfl (nl rfl rfl tc rfl) (by decide +kernel) (by decide +kernel) (Ent.cons (Ent.cons (Ent.cons (Ent.cons (Ent.nil _))))) rfl ?_
    refine q_n 9 rfl (nl rfl rfl tc rfl) (by decide +kernel) (by decide +kernel) (Ent.cons (Ent.cons (Ent.cons (Ent.cons (Ent.nil _))))) rfl ?_
    refine q_n 10 rfl (n_loadA rfl rfl .z rfl (restB_len hT _)) (by decide +kernel) (by decide +kernel) (Ent.cons (Ent.cons (Ent.cons (Ent.cons (Ent.nil _))))) rfl ?_
    refine q_n 11 rfl (peval_sound rfl) (by decide +kernel) (by decide +kernel) (Ent.cons (Ent.cons (Ent.cons (Ent.cons (Ent.nil _))))) rfl ?_
    refine q_1 12 (by decide +kernel) rfl rfl rfl (o_mapEntry (k := ⟨p, d⟩) rfl mkey42 zero109 rfl rfl rfl h2 rfl (.s (.s (.s (.s .z)))) ⟨(Ent.cons (Ent.cons (Ent.cons (Ent.cons (Ent.nil _))))), ?_⟩)
    refine q_n 13 rfl (peval_sound rfl) (by decide +kernel) (by decide +kernel) (Ent.cons (Ent.cons (Ent.cons (Ent.cons (Ent.nil _))))) rfl ?_
    refine q_1 14 (by decide +kernel) rfl rfl rfl (o_entryStore rfl rfl rfl rfl (.s (.s (.s (.s .z)))) ⟨(Ent.cons (Ent.cons (Ent.cons (Ent.cons (Ent.nil _))))), ?_⟩)
    refine q_1 15 (by decide +kernel) rfl rfl rfl (o_mapEntry (z := .bool false) (k := ⟨p, d⟩) rfl mkey42 (fun w => by kernel_rfl) rfl rfl rfl h3 rfl (.s (.s (.s (.s (.s .z))))) ⟨(Ent.cons (Ent.cons (Ent.cons (Ent.cons (Ent.nil _))))), ?_⟩)
    refine q_n 16 rfl (peval_sound rfl) (by decide +kernel) (by decide +kernel) (Ent.cons (Ent.cons (Ent.cons (Ent.cons (Ent.nil _))))) rfl ?_
    refine q_z 17 (by decide +kernel) rfl rfl (o_entryStore rfl rfl rfl rfl (.s (.s (.s (.s (.s .z))))) ?_)
    refine p_done (by decide +kernel) ?_
    repeat' (first | refine s_seq ?_ | refine s_region ?_)
    refine e_op (o_n (n_loadA rfl rfl .z rfl (restB_len hT _)) rfl ?_)
    repeat' (((refine e_op ?_); (refine o_n (peval_sound rfl) rfl ?_)))
    refine e_op (o_storeA rfl rfl rfl (restB_len hT _) zer_len (.s .z) ?_)
    repeat' (first | refine e_nil ?_ | ((refine e_op ?_); (refine o_n (peval_sound rfl) rfl ?_)))
    refine s_ret ⟨_, _, rescA3 rfl rfl rfl (.s .z) rfl (restB_len hT _) rfl rfl, ⟨c ++ [⟨p, d⟩], st2 ++ [k2], st3 ++ [k3], k2 + 1, k3 + 1, rfl, rfl⟩, ?_⟩
    have e2 : begM g (c ++ [⟨p, d⟩]) = begM g c ++ [(⟨p, d⟩, .agg (cB (restB g ⟨p, d⟩)).toArray)] := by simp
    have e3 : empM g (c ++ [⟨p, d⟩]) = empM g c ++ [(⟨p, d⟩, .bool (restN g ⟨p, d⟩))] := by simp
    rw [e2, e3]
    exact Ent.wk (Ent.wk (Ent.wk (Ent.refl _)))

end Go.Proofs.YtcbaebkkdkdaaaaDoor

namespace Go.Proofs.YtcbaebkkdkdaaaaDoor
set_option linter.all false
open Go.Proofs.YtcbaebkkdkdaaaaDoor.E

theorem ent_oslTake {e : TypeId} {sz n c m : Nat} {A : Option Addr} {xs : List Value} {V : List Asn} (hm : m ≤ n) : Ent (osl e sz (.slice A n c) n xs :: V) (osl e sz (.slice A m c) m (xs.take (m * sz)) :: V) := fun w S ⟨S1, S2, ⟨⟨hlen, h⟩, hS⟩, rest⟩ => by
  have hle : m * sz ≤ n * sz := Nat.mul_le_mul_right _ hm
  refine ⟨S1, S2, ⟨⟨by rw [List.length_take, hlen]; omega, ?_⟩, fun k hk => hS k (by cases A with | none => cases hk | some a => exact hk)⟩, rest⟩
  rcases h with ⟨hv, hn⟩ | ⟨b, cap, cur, hv, hb, hg, hnc, hcm, hcs, ht⟩
  · simp only [Value.slice.injEq] at hv
    obtain ⟨rfl, h1, h2⟩ := hv
    subst h2
    have : m = 0 := by omega
    subst this
    exact .inl ⟨rfl, rfl⟩
  · simp only [Value.slice.injEq, Option.some.injEq] at hv
    obtain ⟨rfl, _, rfl⟩ := hv
    refine .inr ⟨b, c, cur, rfl, hb, hg, by omega, hcm, hcs, ?_⟩
    rw [← ht, List.take_take, Nat.min_eq_left hle]

theorem encP_take : ∀ {l : List Plc} {n : Nat}, (l.take n).flatMap encP = (l.flatMap encP).take (n * 3)
  | [], n => by simp
  | x :: l, 0 => by simp
  | x :: l, n + 1 => by
    rw [List.take_succ_cons, List.flatMap_cons, List.flatMap_cons, encP_take (l := l) (n := n), show (n + 1) * 3 = n * 3 + 3 by omega]
    rfl
theorem encP_get : ∀ {l : List Plc} {i : Nat} (h : i < l.length), ((l.flatMap encP).drop (i * 3)).take 3 = encP l[i]
  | x :: l, 0, _ => by simp [encP]
  | x :: l, i + 1, h => by
    have h2 : i < l.length := by simpa using h
    rw [List.flatMap_cons, List.getElem_cons_succ, ← encP_get h2, show (i + 1) * 3 = 3 + i * 3 by omega, ← List.drop_drop]
    rfl
theorem encP_load {l : List Plc} {i : Nat} (h : i < l.length) {b : Nat} {z : List Value} : loadL ⟨.struct [(0, 1), (1, 2)], 3, b, z⟩ (l.flatMap encP) (0 + i * 3) = some (.agg (encP l[i]).toArray) := by
  unfold loadL
  simp only [aggB, cond_true]
  have : Nat.ble (0 + i * 3 + 3) (l.flatMap encP).length = true := by rw [encP_len]; exact Nat.ble_eq_true_of_le (by omega)
  rw [this, cond_true, Nat.zero_add, encP_get h]

/-- What lies in memory beside the places. -/
structure Mem2 where
  c : List Itm
  s2 : List Nat
  k2 : Nat
  s3 : List Nat
  k3 : Nat

theorem stepN_succ (g : Gram) (GS : List (List Int)) (rB : Itm → Bits) (rN : Itm → Bool) : ∀ (n : Nat) (st : Stt), stepN g GS rB rN (n + 1) st = stepG g GS rB rN (stepN g GS rB rN n st)
  | 0, _ => rfl
  | n + 1, st => by
    show stepN g GS rB rN (n + 1) (stepG g GS rB rN st) = stepG g GS rB rN (stepN g GS rB rN n (stepG g GS rB rN st))
    rw [stepN_succ g GS rB rN n]

/-- The first i places combined. -/
def combTo (a own : Bits) (nl : Bool) (i : Nat) : Bits := (List.range a.length).map fun t => a.getD t false || (decide (t < i) && (nl && own.getD t false))
theorem combTo_len (a own : Bits) (nl : Bool) (i : Nat) : (combTo a own nl i).length = a.length := by unfold combTo; simp
theorem combTo_get {a own : Bits} {nl : Bool} {i t : Nat} (h : t < (combTo a own nl i).length) : (combTo a own nl i)[t] = (a.getD t false || (decide (t < i) && (nl && own.getD t false))) := by
  have h2 : t < ((List.range a.length).map fun t => a.getD t false || (decide (t < i) && (nl && own.getD t false))).length := h
  show ((List.range a.length).map fun t => a.getD t false || (decide (t < i) && (nl && own.getD t false)))[t] = _
  rw [List.getElem_map, List.getElem_range]
theorem combTo_zero (a own : Bits) (nl : Bool) : combTo a own nl 0 = a := by
  apply List.ext_getElem (combTo_len _ _ _ _)
  intro t h1 h2
  rw [combTo_get, List.getD_eq_getElem?_getD, List.getElem?_eq_getElem h2]; simp
theorem combTo_all (a own : Bits) (nl : Bool) : combTo a own nl a.length = comb a own nl := by
  unfold combTo comb
  apply List.map_congr_left
  intro t ht
  rw [decide_eq_true (List.mem_range.1 ht), Bool.true_and]
theorem combTo_succ {a own : Bits} {nl : Bool} {i : Nat} (h : i < a.length) : combTo a own nl (i + 1) = (combTo a own nl i).set i (a.getD i false || (nl && own.getD i false)) := by
  apply List.ext_getElem
  · simp [combTo_len]
  · intro t h1 h2
    rw [combTo_get, List.getElem_set]
    split
    · rename_i e; subst e; simp
    · rename_i e
      rw [combTo_get]
      have : decide (t < i + 1) = decide (t < i) := by rw [Bool.eq_iff_iff]; simp; omega
      rw [this]
theorem combTo_at {a own : Bits} {nl : Bool} {i : Nat} (h : i < (combTo a own nl i).length) : (combTo a own nl i)[i] = a.getD i false := by rw [combTo_get]; simp

theorem ent_bunBack {L : List Asn} {i : Nat} {A : Asn} {V : List Asn} (h : L[i]? = some A) : Ent (A :: bun (L.eraseIdx i) :: V) (bun L :: V) := by
  have := ent_bunSet (V := V) (B := A) h
  have e : L.set i A = L := by
    obtain ⟨hi, rfl⟩ := List.getElem?_eq_some_iff.1 h
    exact List.set_getElem_self hi
  rwa [e] at this

attribute [local irreducible] EVX EVO EVL EV1 NEV
attribute [local irreducible] own osl exA rdA rdL
attribute [local irreducible] bldA mapA bun mapS
set_option maxRecDepth 10000
set_option maxHeartbeats 4000000

theorem growG_w (bm b1 b2 b3 : Nat) (A0 A1 A2 A3 A4 AK AG : Option Addr) (c0 c1 c2 c3 c4 cK cG : Nat) (g : Gram) (hc : checkE g = 0) (KS : List (List Itm)) (GS : List (List Int)) (hF : GoF g KS GS) (st0 : Stt) (hi0 : GInv g KS st0) (hm0 : meas (univ g KS) st0 ≤ 1000000000) (al0 : List Nat) (hal0 : al0.length = st0.ks.length) (At0 : Option Addr) (ct0 : Nat) (m0 : Mem2) :
    Trip Tryd.prog 60 [ptrN bm] ((kGram.rd [.slice A0 g.Terms.length c0, .slice A1 g.Levels.length c1, .slice A2 g.Pats.length c2, .slice A3 g.Nons.length c3, .slice A4 g.Prods.length c4] g).and (kLr.rd [.slice AK KS.length cK, .slice AG GS.length cG] (KS, GS)))
      [mkB bm (.slice A0 g.Terms.length c0) (.slice A1 g.Levels.length c1) (.slice A2 g.Pats.length c2) (.slice A3 g.Nons.length c3) (.slice A4 g.Prods.length c4) (.slice AK KS.length cK) (.slice AG GS.length cG) b1 At0 st0.td.length ct0 b2 b3, mapA keyP b1 (prs st0.ks al0), bun (bitX al0 st0.bs), tdS At0 ct0 st0.td, mapS keyX b2 (begM g m0.c) m0.s2 m0.k2, mapS keyX b3 (empM g m0.c) m0.s3 m0.k3]
      (fun v V => v = .int .i64 0 ∧ ∃ (n : Nat) (st : Stt) (al : List Nat) (At : Option Addr) (ct : Nat) (m : Mem2), st = stepN g GS (restB g) (restN g) n st0 ∧ st.td = [] ∧ GInv g KS st ∧ al.length = st.ks.length ∧
        V = [mkB bm (.slice A0 g.Terms.length c0) (.slice A1 g.Levels.length c1) (.slice A2 g.Pats.length c2) (.slice A3 g.Nons.length c3) (.slice A4 g.Prods.length c4) (.slice AK KS.length cK) (.slice AG GS.length cG) b1 At st.td.length ct b2 b3, mapA keyP b1 (prs st.ks al), bun (bitX al st.bs), tdS At ct st.td, mapS keyX b2 (begM g m.c) m.s2 m.k2, mapS keyX b3 (empM g m.c) m.s3 m.k3]) := by
  refine trip Tryd.tabOk Tryd.func60 rfl rfl rfl rfl ?_
  rintro w SM ⟨hG0, hLr⟩
  obtain ⟨_, _, _, _, _, _, _, _, _, _, e, hG⟩ := kGram_open hG0
  cases e
  obtain ⟨d1, d2, e, ⟨AK', cK', rfl, hk1⟩, ⟨AG', cG', rfl, hg1⟩⟩ := hLr
  simp only [List.cons_append, List.nil_append, List.cons.injEq, Value.slice.injEq, and_true, true_and] at e hk1 hg1
  obtain ⟨⟨rfl, rfl⟩, rfl, rfl⟩ := e
  obtain ⟨hgc, hgb, hge⟩ := hg1
  have hlim := hF.lim
  have hwf := hF.wf
  have hT := hlim.t
  have hNo := hlim.n
  have hPr := hlim.p
  repeat' (first | refine e_nil ?_ | ((refine e_op ?_); (refine o_n (peval_sound rfl) rfl ?_)) | refine s_seq ?_ | refine s_region ?_)
  refine s_scope ?_
  repeat' (first | refine e_nil ?_ | ((refine e_op ?_); (first | refine o_n (peval_sound rfl) rfl ?_ | refine o_n (nl rfl rfl tc rfl) rfl ?_)) | refine s_seq ?_ | refine s_region ?_)
  refine s_label ?_
  repeat' (first | refine s_seq ?_ | refine s_block ?_)
  refine s_loopK (ι := {x : Stt × List Nat × Option Addr × Nat × Mem2 // GInv g KS x.1 ∧ x.2.1.length = x.1.ks.length ∧ meas (univ g KS) x.1 ≤ 1000000000 ∧ ∃ n, x.1 = stepN g GS (restB g) (restN g) n st0}) [0, 3] rfl ⟨(st0, al0, At0, ct0, m0), hi0, hal0, hm0, 0, rfl⟩ (fun _ => [])
    (fun x => [mkB bm (.slice A0 g.Terms.length c0) (.slice A1 g.Levels.length c1) (.slice A2 g.Pats.length c2) (.slice A3 g.Nons.length c3) (.slice A4 g.Prods.length c4) (.slice AK KS.length cK) (.slice AG GS.length cG) b1 x.1.2.2.1 x.1.1.td.length x.1.2.2.2.1 b2 b3, mapA keyP b1 (prs x.1.1.ks x.1.2.1), bun (bitX x.1.2.1 x.1.1.bs), tdS x.1.2.2.1 x.1.2.2.2.1 x.1.1.td, mapS keyX b2 (begM g x.1.2.2.2.2.c) x.1.2.2.2.2.s2 x.1.2.2.2.2.k2, mapS keyX b3 (empM g x.1.2.2.2.2.c) x.1.2.2.2.2.s3 x.1.2.2.2.2.k3]) (fun x => meas (univ g KS) x.1.1) ?_ (Ent.refl _) ?_
  · repeat' (first | exact Sub.nil _ | refine Sub.cons rfl ?_)
  rintro ⟨⟨st, al, At, ct, m⟩, hi, hal, hme, hn⟩
  simp only at hi hal hme hn ⊢
  obtain ⟨n, hn⟩ := hn
  have htl : st.td.length ≤ 1000000000 := by unfold meas at hme; omega
  repeat' (first | refine e_nil ?_ | ((refine e_op ?_); (first | refine o_n (peval_sound rfl) rfl ?_ | refine o_n (nl rfl rfl tc rfl) rfl ?_)) | refine s_seq ?_ | refine s_region ?_)
  by_cases htd : st.td.length = 0
  · have htd0 := List.eq_nil_of_length_eq_zero htd
    rw [decide_eq_false (p := (st.td.length : Int) > 0) (by omega)]
    repeat' (first | refine e_nil ?_ | ((refine e_op ?_); (refine o_n (peval_sound rfl) rfl ?_)) | refine s_seq ?_ | refine s_region ?_ | refine s_exit ?_ | refine s_false rfl ?_ | refine x_hit ?_ | refine x_code ?_ | refine x_back ?_)
    refine s_ret ⟨_, _, res1 rfl rfl, ⟨rfl, n, st, al, At, ct, m, hn, htd0, hi, hal, rfl⟩, Ent.refl _⟩
  · have htp : st.td.length - 1 < st.td.length := by omega
    have hne : st.td ≠ [] := fun e => htd (by rw [e]; rfl)
    rw [decide_eq_true (p := (st.td.length : Int) > 0) (by omega)]
    repeat' (first | refine s_seq ?_ | refine s_block ?_ | refine s_skip ?_ | refine s_true rfl ?_)
    refine s_cap (.s (.s (.s .z))) (fun hcap => ?_)
    refine s_open (.s (.s (.s .z))) (by omega) ?_
    rintro bt rfl
    have hw1 : IntKind.i64.wrap ((st.td.length : Int) - 1) = ((st.td.length - 1 : Nat) : Int) := by rw [wrap_i64] <;> omega
    generalize hp : st.td[st.td.length - 1] = p
    have hpt : p ∈ st.td := by rw [← hp]; exact List.getElem_mem htp
    have hpk := hi.ok.td p hpt
    have hvp := hi.vp p hpk
    have hlast : st.td.getLast? = some p := by rw [List.getLast?_eq_getElem?, List.getElem?_eq_getElem htp, hp]
    have hstep : stepN g GS (restB g) (restN g) (n + 1) st0 = roundG g GS (restB g) (restN g) st p := by
      rw [stepN_succ, ← hn]; unfold stepG; rw [hlast]
    refine s_join (ι := Nat) (fun b4 => [(4, ptrN b4), (3, .int .i64 g.Terms.length), (0, ptrN bm)]) (fun b4 => [blk b4 107 (encP p), mkB bm (.slice A0 g.Terms.length c0) (.slice A1 g.Levels.length c1) (.slice A2 g.Pats.length c2) (.slice A3 g.Nons.length c3) (.slice A4 g.Prods.length c4) (.slice AK KS.length cK) (.slice AG GS.length cG) b1 (some ⟨bt, 0, none⟩) st.td.length ct b2 b3, mapA keyP b1 (prs st.ks al), bun (bitX al st.bs), tdS (some ⟨bt, 0, none⟩) ct st.td, mapS keyX b2 (begM g m.c) m.s2 m.k2, mapS keyX b3 (empM g m.c) m.s3 m.k3]) (fun hj => ?_) ?_
    · refine s_anyU Tryd.mixed ?_
      (refine a_n 0 rfl (peval_sound rfl) (by decide +kernel) (by (exact Ent.refl _)) rfl ?_); (refine a_n 1 rfl (peval_sound rfl) (by decide +kernel) (by (exact Ent.refl _)) rfl ?_); (refine a_n 2 rfl (peval_sound rfl) (by decide +kernel) (by (exact Ent.refl _)) rfl ?_); (first | refine a_n 3 rfl (peval_sound rfl) (by decide +kernel) (by (exact Ent.refl _)) rfl ?_ | refine a_n 3 rfl (nl rfl rfl tc rfl) (by decide +kernel) (by (exact Ent.refl _)) rfl ?_); (refine a_n 4 rfl (peval_sound rfl) (by decide +kernel) (by (exact Ent.refl _)) rfl ?_); (refine a_n 5 rfl (peval_sound rfl) (by decide +kernel) (by (exact Ent.refl _)) rfl ?_); (refine a_n 6 rfl (peval_sound rfl) (by decide +kernel) (by (exact Ent.refl _)) rfl ?_); (first | refine a_n 7 rfl (peval_sound rfl) (by decide +kernel) (by (exact Ent.refl _)) rfl ?_ | refine a_n 7 rfl (nl rfl rfl tc rfl) (by decide +kernel) (by (exact Ent.refl _)) rfl ?_); (refine a_n 8 rfl (peval_sound rfl) (by decide +kernel) (by (exact Ent.refl _)) rfl ?_); (refine a_n 9 rfl (peval_sound rfl) (by decide +kernel) (by (exact Ent.refl _)) rfl ?_)
      rw [hw1]
      refine a_n 10 rfl (n_index rfl rfl rfl rfl (st.td.length - 1) rfl htp) (by decide +kernel) (by (exact Ent.refl _)) rfl ?_
      refine a_n 11 rfl (n_load_osl rfl rfl (.s (.s (.s .z))) (encP_load htp)) (by decide +kernel) (by (exact Ent.refl _)) rfl ?_
      rw [hp]
      refine a_1 12 (by decide +kernel) rfl rfl (o_alloc rfl rfl (fun b4 => ⟨(by (repeat' (first | exact Ent.refl _ | refine Ent.wk ?_))), ?_⟩))
      refine a_1 13 (by decide +kernel) rfl rfl (o_store rfl rfl rfl rfl rfl rfl rfl .z ⟨(by (repeat' (first | exact Ent.refl _ | refine Ent.wk ?_))), ?_⟩)
      refine a_done (by decide +kernel) ?_
      refine s_weak ?_ (Ent.refl _) (hj b4)
      repeat' (first | exact Sub.nil _ | refine Sub.cons rfl ?_)
    · intro b4
      have hin := hvp.in_ hF
      have hin2 := hin
      unfold inG at hin2
      simp only [Bool.and_eq_true, decide_eq_true_eq] at hin2
      obtain ⟨ps, xp, xd⟩ := p
      simp only at hin2
      obtain ⟨q, rfl⟩ : ∃ q : Nat, xp = (q : Int) := ⟨xp.toNat, by omega⟩
      obtain ⟨d, rfl⟩ : ∃ d : Nat, xd = (d : Int) := ⟨xd.toNat, by omega⟩
      have hql : q < g.Prods.length := by omega
      rw [prd_at hql] at hin2
      have hr12 := hlim.r _ (List.getElem_mem hql)
      have hbq := hG.prods.2.2 q hql
      obtain ⟨b9, o9, es9, rfl, hb9, he9, hc9⟩ := hbq
      obtain ⟨Ar, cr, rfl, hl9, hlN, hlK, hri⟩ := kPrd_open he9
      have hdl : st.td.dropLast.length = st.td.length - 1 := by simp
      have hdf : (st.td.flatMap encP).take ((st.td.length - 1) * 3) = st.td.dropLast.flatMap encP := by rw [List.dropLast_eq_take, encP_take]
      refine s_seq ?_
      refine s_P Tryd.mixed (by decide +kernel) ?_
      refine p_barU 14 ?_
      refine q_n 0 rfl (peval_sound rfl) (by decide +kernel) (by decide +kernel) (Ent.refl _) rfl ?_
      refine q_n 1 rfl (peval_sound rfl) (by decide +kernel) (by decide +kernel) (Ent.refl _) rfl ?_
      refine q_n 2 rfl (peval_sound rfl) (by decide +kernel) (by decide +kernel) (Ent.refl _) rfl ?_
      refine q_n 3 rfl (peval_sound rfl) (by decide +kernel) (by decide +kernel) (Ent.refl _) rfl ?_
      refine q_n 4 rfl (nl rfl rfl tc rfl) (by decide +kernel) (by decide +kernel) (Ent.refl _) rfl ?_
      refine q_n 5 rfl (peval_sound rfl) (by decide +kernel) (by decide +kernel) (Ent.refl _) rfl ?_
      refine q_n 6 rfl (peval_sound rfl) (by decide +kernel) (by decide +kernel) (Ent.refl _) rfl ?_
      refine q_n 7 rfl (peval_sound rfl) (by decide +kernel) (by decide +kernel) (Ent.refl _) rfl ?_
      refine q_n 8 rfl (nl rfl rfl tc rfl) (by decide +kernel) (by decide +kernel) (Ent.refl _) rfl ?_
      refine q_n 9 rfl (peval_sound rfl) (by decide +kernel) (by decide +kernel) (Ent.refl _) rfl ?_
      refine q_n 10 rfl (peval_sound rfl) (by decide +kernel) (by decide +kernel) (Ent.refl _) rfl ?_
      rw [hw1]
      refine q_n 11 rfl (n_headV (st.td.length - 1) rfl rfl rfl rfl rfl (by omega)) (by decide +kernel) (by decide +kernel) (Ent.refl _) rfl ?_
      refine q_n 12 rfl (peval_sound rfl) (by decide +kernel) (by decide +kernel) (Ent.refl _) rfl ?_
      refine q_n 13 rfl (peval_sound rfl) (by decide +kernel) (by decide +kernel) (Ent.refl _) rfl ?_
      refine q_z 14 (by decide +kernel) rfl rfl (o_storeC rfl rfl rfl rfl tc uc rfl rfl rfl ?_)
      refine p_done (by decide +kernel) ?_
      have hshr : ∀ V, Ent (tdS (some ⟨bt, 0, none⟩) ct st.td :: V) (tdS (some ⟨bt, 0, none⟩) ct st.td.dropLast :: V) := fun V => by
        have h := ent_oslTake (e := 107) (sz := 3) (n := st.td.length) (c := ct) (m := st.td.length - 1) (A := some ⟨bt, 0, none⟩) (xs := st.td.flatMap encP) (V := V) (by omega)
        rw [hdf] at h
        show Ent _ (osl 107 3 (.slice _ st.td.dropLast.length ct) st.td.dropLast.length _ :: V)
        rw [hdl]
        exact h
      obtain ⟨st1, hst1⟩ : ∃ s : Stt, s = ⟨st.ks, st.bs, st.td.dropLast⟩ := ⟨_, rfl⟩
      have q1 : st1.ks = st.ks := by rw [hst1]
      have q2 : st1.bs = st.bs := by rw [hst1]
      have q3 : st1.td = st.td.dropLast := by rw [hst1]
      have hi1 : GInv g KS st1 := by rw [hst1]; exact hi.pop
      have hme1 : meas (univ g KS) st1 + 1 = meas (univ g KS) st := by rw [hst1]; exact meas_pop hne
      have hal1 : al.length = st1.ks.length := by rw [q1]; exact hal
      refine s_weak (fr' := [(4, ptrN b4), (3, .int .i64 g.Terms.length), (0, ptrN bm)]) (V := [blk b4 107 [.int .i64 ps, .int .i64 q, .int .i64 d], mkB bm (.slice A0 g.Terms.length c0) (.slice A1 g.Levels.length c1) (.slice A2 g.Pats.length c2) (.slice A3 g.Nons.length c3) (.slice (some ⟨b9, o9, none⟩) g.Prods.length c4) (.slice AK KS.length cK) (.slice AG GS.length cG) b1 (some ⟨bt, 0, none⟩) st1.td.length ct b2 b3, mapA keyP b1 (prs st1.ks al), bun (bitX al st1.bs), tdS (some ⟨bt, 0, none⟩) ct st1.td, mapS keyX b2 (begM g m.c) m.s2 m.k2, mapS keyX b3 (empM g m.c) m.s3 m.k3]) ?_ ?_ ?_
      · repeat' (first | exact Sub.nil _ | refine Sub.cons rfl ?_)
      · rw [q1, q2, q3]
        refine Ent.cons ?_
        rw [hdl]
        refine Ent.cons (Ent.cons (Ent.cons ?_))
        exact hshr _
      repeat' (refine s_seq ?_)
      refine s_drawU [] Tryd.mixed (by decide +kernel) ?_
      repeat' (((first | refine l_n (peval_sound rfl) rfl ?_ rfl ?_ | refine l_n (nl rfl rfl tc rfl) rfl ?_ rfl ?_); · (exact Ent.refl _)))
      refine l_n (n_index rfl rfl rfl rfl q rfl hql) rfl (Ent.refl _) rfl ?_
      repeat' (((refine l_n (peval_sound rfl) rfl ?_ rfl ?_); · (exact Ent.refl _)))
      refine l_n (n_load_ro rfl rfl hb9 (loads_one rfl (hc9 1 _ rfl))) rfl (Ent.refl _) rfl ?_
      repeat' (first | refine l_nil ?_ | ((refine l_n (peval_sound rfl) rfl ?_ rfl ?_); · (exact Ent.refl _)))
      repeat' (first | refine e_nil ?_ | ((refine e_op ?_); (first | refine o_n (peval_sound rfl) rfl ?_ | refine o_n (nl rfl rfl tc rfl) rfl ?_)) | refine s_seq ?_ | refine s_region ?_)
      by_cases hdd : d = g.Prods[q].Right.length
      · have hround : roundG g GS (restB g) (restN g) st ⟨ps, ⟨q, d⟩⟩ = st1 := by
          unfold roundG
          rw [prd_at hql, if_pos (by simp only; omega), hst1]
        rw [show ((d : Int) == (g.Prods[q].Right.length : Int)) = true by simp [hdd]]
        repeat' (first | refine s_exit ?_ | refine s_true rfl ?_ | refine x_hit ?_ | refine x_code ?_)
        refine s_back ⟨⟨(st1, al, some ⟨bt, 0, none⟩, ct, m), hi1, hal1, by simp only; omega, n + 1, by rw [hstep, hround]⟩, by simp only; omega, ?_, Ent.wk (Ent.refl _)⟩
        repeat' (first | exact Sub.nil _ | refine Sub.cons rfl ?_)
      · have hdlt : d < g.Prods[q].Right.length := by omega
        rw [show ((d : Int) == (g.Prods[q].Right.length : Int)) = false by simp only [beq_eq_false_iff_ne]; omega]
        obtain ⟨sy, hg1, hg2, j, hbeh, hgs, hnx, hvn⟩ := hvp.next hF (by simp only; rw [prd_at hql]; omega)
        simp only at hg1 hg2 hgs hnx
        have hpk1 : (⟨ps, ⟨q, d⟩⟩ : Plc) ∈ st1.ks := by rw [q1]; exact hpk
        have hix := ix_lt hpk1
        have hown : getB st1.ks st1.bs ⟨ps, ⟨q, d⟩⟩ = getB st.ks st.bs ⟨ps, ⟨q, d⟩⟩ := by rw [q1, q2]
        have hol := getB_len (ks := st1.ks) hi1.ok.l48 ⟨ps, ⟨q, d⟩⟩
        have hab : al.length = st1.bs.length := by rw [hi1.ok.len]; exact hal1
        have hbb : st1.bs[ix st1.ks ⟨ps, ⟨q, d⟩⟩]? = some (getB st1.ks st1.bs ⟨ps, ⟨q, d⟩⟩) := by
          unfold getB
          rw [if_pos hpk1, List.getD_eq_getElem?_getD, List.getElem?_eq_getElem (by rw [hi1.ok.len]; exact hix)]; rfl
        have hbit := bitX_get hab hbb
        have hlk := look_prs (ks := st1.ks) (al := al) (p := ⟨ps, ⟨q, d⟩⟩) hal1
        rw [if_pos hpk1] at hlk
        generalize hba : al.getD (ix st1.ks ⟨ps, ⟨q, d⟩⟩) 0 = ba at hbit hlk
        generalize how : getB st1.ks st1.bs ⟨ps, ⟨q, d⟩⟩ = own at hown hol hbit
        obtain ⟨b5, o5, es5, hA5, hb5, ⟨rfl, hI5⟩, hc5⟩ := hri.2.2 d hdlt
        have hRd : g.Prods[q].Right[d] = (sy : Int) := by
          have := hbeh
          unfold beh at this
          simp only at this
          rw [prd_at hql, if_pos (by omega), Int.toNat_natCast, List.getD_eq_getElem?_getD, List.getElem?_eq_getElem hdlt] at this
          exact this
        rw [hRd] at hc5
        repeat' (first | refine s_seq ?_ | refine s_skip ?_ | refine s_false rfl ?_)
        refine s_weak (Sub.refl _) (Ent.cons (Ent.cons (Ent.cons (ent_bunAt hbit)))) ?_
        refine s_anyU Tryd.mixed ?_
        (refine a_n 0 rfl (peval_sound rfl) (by decide +kernel) (by (exact Ent.refl _)) rfl ?_); (refine a_n 1 rfl (peval_sound rfl) (by decide +kernel) (by (exact Ent.refl _)) rfl ?_); (refine a_n 2 rfl (peval_sound rfl) (by decide +kernel) (by (exact Ent.refl _)) rfl ?_); (first | refine a_n 3 rfl (peval_sound rfl) (by decide +kernel) (by (exact Ent.refl _)) rfl ?_ | refine a_n 3 rfl (nl rfl rfl tc rfl) (by decide +kernel) (by (exact Ent.refl _)) rfl ?_); (first | refine a_n 4 rfl (peval_sound rfl) (by decide +kernel) (by (exact Ent.refl _)) rfl ?_ | refine a_n 4 rfl (nl rfl rfl tc rfl) (by decide +kernel) (by (exact Ent.refl _)) rfl ?_)
        refine a_n 5 rfl (n_lookup (z := .pointer none) (k := ⟨ps, ⟨q, d⟩⟩) rfl mkeyP (fun w => by kernel_rfl) rfl rfl rfl (.s (.s .z))) (by decide +kernel) (by (exact Ent.refl _)) rfl ?_
        rw [hlk]
        simp only [Option.getD_some]
        (refine a_n 6 rfl (peval_sound rfl) (by decide +kernel) (by (exact Ent.refl _)) rfl ?_)
        refine a_n 7 rfl (n_loadA rfl rfl (.s (.s (.s .z))) rfl hol) (by decide +kernel) (by (exact Ent.refl _)) rfl ?_
        refine a_1 8 (by decide +kernel) rfl rfl (o_allocB rfl zer48 rfl (fun b6 => ⟨(by (repeat' (first | exact Ent.refl _ | refine Ent.wk ?_))), ?_⟩))
        refine a_1 9 (by decide +kernel) rfl rfl (o_storeA rfl rfl rfl hol zer_len .z ⟨(by (repeat' (first | exact Ent.refl _ | refine Ent.wk ?_))), ?_⟩)
        refine a_done (by decide +kernel) ?_
        repeat' (first | ((refine e_op ?_); (first | refine o_n (peval_sound rfl) rfl ?_ | refine o_n (nl rfl rfl tc rfl) rfl ?_)) | refine s_seq ?_ | refine s_region ?_)
        rw [hA5]
        refine e_op (o_n (n_index rfl rfl rfl rfl d rfl hdlt) rfl ?_)
        skip
        refine e_op (o_n (n_load_ro rfl rfl hb5 (loads_one rfl (hc5 0 _ rfl))) rfl ?_)
        repeat' (first | refine e_nil ?_ | ((refine e_op ?_); (refine o_n (peval_sound rfl) rfl ?_)) | refine s_seq ?_)
        obtain ⟨bG, oG, esG, rfl, hbG, ⟨ArG, crG, rfl, _, _, hrG⟩, hcG⟩ := hge ps hg1
        obtain ⟨bR, oR, esR, rfl, hbR, ⟨rfl, _⟩, hcR⟩ := hrG sy hg2
        rw [hgs] at hcR
        have hw2 : IntKind.i64.wrap ((d : Int) + 1) = (d : Int) + 1 := by rw [wrap_i64] <;> omega
        refine s_weak (fr' := [(7, .int .i64 sy), (6, ptrN b6), (5, .slice Ar g.Prods[q].Right.length cr), (4, ptrN b4), (3, .int .i64 g.Terms.length), (0, ptrN bm)]) ?_ (Ent.cons (Ent.cons (Ent.cons (Ent.cons (ent_bunBack hbit))))) ?_
        · rw [hA5]
          repeat' (first | exact Sub.nil _ | refine Sub.cons rfl ?_)
        refine s_P Tryd.mixed (by decide +kernel) ?_
        refine p_barU 23 ?_
        refine q_n 0 rfl (peval_sound rfl) (by decide +kernel) (by decide +kernel) (Ent.refl _) rfl ?_
        refine q_n 1 rfl (peval_sound rfl) (by decide +kernel) (by decide +kernel) (Ent.refl _) rfl ?_
        refine q_n 2 rfl (peval_sound rfl) (by decide +kernel) (by decide +kernel) (Ent.refl _) rfl ?_
        refine q_n 3 rfl (peval_sound rfl) (by decide +kernel) (by decide +kernel) (Ent.refl _) rfl ?_
        refine q_n 4 rfl (peval_sound rfl) (by decide +kernel) (by decide +kernel) (Ent.refl _) rfl ?_
        refine q_n 5 rfl (nl rfl rfl tc rfl) (by decide +kernel) (by decide +kernel) (Ent.refl _) rfl ?_
        refine q_n 6 rfl (peval_sound rfl) (by decide +kernel) (by decide +kernel) (Ent.refl _) rfl ?_
        refine q_n 7 rfl (nl rfl rfl tc rfl) (by decide +kernel) (by decide +kernel) (Ent.refl _) rfl ?_
        refine q_n 8 rfl (n_index rfl rfl rfl rfl ps rfl hg1) (by decide +kernel) (by decide +kernel) (Ent.refl _) rfl ?_
        refine q_n 9 rfl (n_load_ro rfl rfl hbG (loads_one rfl (hcG 0 _ rfl))) (by decide +kernel) (by decide +kernel) (Ent.refl _) rfl ?_
        refine q_n 10 rfl (peval_sound rfl) (by decide +kernel) (by decide +kernel) (Ent.refl _) rfl ?_
        refine q_n 11 rfl (n_index rfl rfl rfl rfl sy rfl hg2) (by decide +kernel) (by decide +kernel) (Ent.refl _) rfl ?_
        refine q_n 12 rfl (n_load_ro rfl rfl hbR (loads_one rfl (hcR 0 _ rfl))) (by decide +kernel) (by decide +kernel) (Ent.refl _) rfl ?_
        refine q_n 13 rfl (peval_sound rfl) (by decide +kernel) (by decide +kernel) (Ent.refl _) rfl ?_
        refine q_n 14 rfl (peval_sound rfl) (by decide +kernel) (by decide +kernel) (Ent.refl _) rfl ?_
        refine q_n 15 rfl (nl rfl rfl tc rfl) (by decide +kernel) (by decide +kernel) (Ent.refl _) rfl ?_
        refine q_n 16 rfl (peval_sound rfl) (by decide +kernel) (by decide +kernel) (Ent.refl _) rfl ?_
        refine q_n 17 rfl (peval_sound rfl) (by decide +kernel) (by decide +kernel) (Ent.refl _) rfl ?_
        refine q_n 18 rfl (nl rfl rfl tc rfl) (by decide +kernel) (by decide +kernel) (Ent.refl _) rfl ?_
        refine q_n 19 rfl (peval_sound rfl) (by decide +kernel) (by decide +kernel) (Ent.refl _) rfl ?_
        rw [hw2]
        refine q_n 20 rfl (peval_sound rfl) (by decide +kernel) (by decide +kernel) (Ent.refl _) rfl ?_
        refine q_n 21 rfl (peval_sound rfl) (by decide +kernel) (by decide +kernel) (Ent.refl _) rfl ?_
        refine q_n 22 rfl (n_loadA rfl rfl .z rfl hol) (by decide +kernel) (by decide +kernel) (Ent.refl _) rfl ?_
        have htl1 : st1.td.length ≤ 1000000000 := by rw [q3, hdl]; omega
        refine q_z 23 (by decide +kernel) rfl rfl (o_call (add_w bm b1 b2 b3 (.slice A0 g.Terms.length c0) (.slice A1 g.Levels.length c1) (.slice A2 g.Pats.length c2) (.slice A3 g.Nons.length c3) (.slice (some ⟨b9, o9, none⟩) g.Prods.length c4) (.slice AK KS.length cK) (.slice (some ⟨bG, oG, none⟩) GS.length cG) st1 hi1.ok htl1 al hal1 (some ⟨bt, 0, none⟩) ct ⟨j, ⟨q, (d : Int) + 1⟩⟩ own hol) rfl (.cons (.s (.s .z)) (.cons (.s (.s .z)) (.cons (.s (.s .z)) (.cons (.s (.s .z)) .nil)))) Can.tt rfl ?_)
        rintro v V ⟨al2, At2, ct2, rfl, hal2, rfl⟩
        simp only [List.cons_append, List.nil_append]
        refine p_done (by decide +kernel) ?_
        rw [hnx] at hvn
        have hi2 := hi1.add hvn own
        have hme2 := meas_add (univ := univ g KS) hi1.ok hvn.mem own
        generalize hst2 : addS st1 ⟨j, ⟨q, (d : Int) + 1⟩⟩ own = st2 at hal2 hi2 hme2 ⊢
        repeat' (first | refine e_nil ?_ | ((refine e_op ?_); (refine o_n (peval_sound rfl) rfl ?_)) | refine s_seq ?_ | refine s_region ?_)
        by_cases hsT : sy < g.Terms.length
        · have hround : roundG g GS (restB g) (restN g) st ⟨ps, ⟨q, d⟩⟩ = st2 := by
            unfold roundG
            rw [prd_at hql, if_neg (by simp only; omega), if_pos (by simp only [hbeh]; omega), hnx, ← hst1, ← hown, hst2]
          rw [decide_eq_true (p := (sy : Int) < (g.Terms.length : Int)) (by omega)]
          repeat' (first | refine s_exit ?_ | refine s_true rfl ?_ | refine x_hit ?_ | refine x_code ?_)
          refine s_back ⟨⟨(st2, al2, At2, ct2, m), hi2, hal2, by simp only; omega, n + 1, by rw [hstep, hround]⟩, by simp only; omega, ?_, ?_⟩
          · repeat' (first | exact Sub.nil _ | refine Sub.cons rfl ?_)
          · exact Ent.tak .z (Ent.tak .z (Ent.tak .z (Ent.tak .z (Ent.wk (Ent.wk (Ent.refl _))))))
        · rw [decide_eq_false (p := (sy : Int) < (g.Terms.length : Int)) (by omega)]
          repeat' (first | ((refine e_op ?_); (first | refine o_n (peval_sound rfl) rfl ?_ | refine o_n (nl rfl rfl tc rfl) rfl ?_)) | refine s_seq ?_ | refine s_region ?_ | refine s_skip ?_ | refine s_false rfl ?_)
          refine e_op (o_call (rest_w bm b1 b2 b3 A0 A1 A2 A3 (some ⟨b9, o9, none⟩) c0 c1 c2 c3 c4 (.slice AK KS.length cK) (.slice (some ⟨bG, oG, none⟩) GS.length cG) g hc At2 st2.td.length ct2 ⟨q, d⟩ hin (by simp only; rw [prd_at hql]; omega) m.c m.s2 m.s3 m.k2 m.k3) rfl (.cons .z (.cons (.s (.s (.s (.s (.s .z))))) (.cons (.s (.s (.s (.s (.s .z))))) .nil))) (Can.ro hG0) rfl ?_)
          rintro v V ⟨c', s2', s3', k2', k3', rfl, rfl⟩
          simp only [List.cons_append, List.nil_append]
          have hRl := restB_len hT (⟨q, d⟩ : Itm)
          repeat' (((refine e_op ?_); (first | refine o_n (peval_sound rfl) rfl ?_ | refine o_alloc rfl rfl (fun _ => ?_))))
          rename_i b8
          dsimp only
          rw [zer48]
          refine e_op (o_storeA rfl rfl rfl hRl zer_len .z ?_)
          repeat' (first | refine e_nil ?_ | ((refine e_op ?_); (refine o_n (peval_sound rfl) rfl ?_)) | refine s_seq ?_ | refine s_region ?_ | refine s_block ?_ | refine s_skip ?_ | refine s_false rfl ?_)
          refine s_weak (fr' := [(121, .int .i64 0), (9, .bool (restN g ⟨q, d⟩)), (8, ptrN b8), (7, .int .i64 sy), (6, ptrN b6), (4, ptrN b4), (3, .int .i64 g.Terms.length), (0, ptrN bm)]) ?_ (Ent.refl _) ?_
          · repeat' (first | exact Sub.nil _ | refine Sub.cons rfl ?_)
          obtain ⟨m2, hm2⟩ : ∃ m2 : Mem2, m2 = ⟨c', s2', k2', s3', k3'⟩ := ⟨_, rfl⟩
          have r1 : c' = m2.c := by rw [hm2]
          have r2 : s2' = m2.s2 := by rw [hm2]
          have r3 : k2' = m2.k2 := by rw [hm2]
          have r4 : s3' = m2.s3 := by rw [hm2]
          have r5 : k3' = m2.k3 := by rw [hm2]
          rw [r1, r2, r3, r4, r5]
          clear hm2 r1 r2 r3 r4 r5
          generalize hRB : restB g ⟨q, d⟩ = R at hRl ⊢
          generalize hRN : restN g ⟨q, d⟩ = nz
          refine s_loopK (ι := {x : Nat // x ≤ 48}) [0, 3, 4, 6, 7, 8, 9] rfl ⟨0, by omega⟩ (fun x => [(121, .int .i64 x.1)])
            (fun x => [blk b8 109 (cB (combTo R own nz x.1)), blk b6 109 (cB own), blk b4 107 [.int .i64 ps, .int .i64 q, .int .i64 d], mkB bm (.slice A0 g.Terms.length c0) (.slice A1 g.Levels.length c1) (.slice A2 g.Pats.length c2) (.slice A3 g.Nons.length c3) (.slice (some ⟨b9, o9, none⟩) g.Prods.length c4) (.slice AK KS.length cK) (.slice (some ⟨bG, oG, none⟩) GS.length cG) b1 At2 st2.td.length ct2 b2 b3, mapA keyP b1 (prs st2.ks al2), bun (bitX al2 st2.bs), tdS At2 ct2 st2.td, mapS keyX b2 (begM g m2.c) m2.s2 m2.k2, mapS keyX b3 (empM g m2.c) m2.s3 m2.k3]) (fun x => 48 - x.1) ?_ ?_ ?_
          · repeat' (first | exact Sub.nil _ | refine Sub.cons rfl ?_)
          · simp only [combTo_zero]
            exact Ent.cons (Ent.tak (.s (.s (.s (.s (.s (.s .z)))))) (Ent.tak (.s (.s (.s (.s (.s (.s .z)))))) (Ent.tak .z (Ent.tak (.s (.s .z)) (Ent.tak (.s (.s .z)) (Ent.tak (.s (.s .z)) (Ent.refl _)))))))
          rintro ⟨i, hi48⟩
          simp only at hi48 ⊢
          repeat' (first | refine e_nil ?_ | ((refine e_op ?_); (refine o_n (peval_sound rfl) rfl ?_)) | refine s_seq ?_ | refine s_region ?_)
          by_cases hi8 : i < 48
          · rw [decide_eq_true (p := (i : Int) < 48) (by omega)]
            have hcl : i < (combTo R own nz i).length := by rw [combTo_len]; omega
            have hio : i < own.length := by omega
            have hcs := combTo_succ (a := R) (own := own) (nl := nz) (i := i) (by omega)
            have hca := combTo_at hcl
            have hog : own.getD i false = own[i] := by rw [List.getD_eq_getElem?_getD, List.getElem?_eq_getElem hio]; rfl
            repeat' (first | refine e_nil ?_ | ((refine e_op ?_); (refine o_n (peval_sound rfl) rfl ?_)) | refine s_seq ?_ | refine s_region ?_ | refine s_block ?_ | refine s_skip ?_ | refine s_true rfl ?_)
            refine e_op (o_n (n_indexA rfl rfl rfl rfl i rfl hi8) rfl ?_)
            skip
            refine e_op (o_n (n_loadB rfl rfl .z rfl i hcl (by simp)) rfl ?_)
            rw [hca]
            repeat' (((refine e_op ?_); (refine o_n (peval_sound rfl) rfl ?_)))
            cases hRi : R.getD i false with
            | true =>
              rw [hRi, Bool.true_or] at hcs
              repeat' (first | ((refine e_op ?_); (refine o_n (peval_sound rfl) rfl ?_)) | refine e_noU rfl rfl rfl ?_ | refine e_noN rfl rfl ?_)
              refine e_op (o_n (n_indexA rfl rfl rfl rfl i rfl hi8) rfl ?_)
              refine e_op (o_storeB rfl rfl rfl rfl i hcl (by simp) .z ?_)
              rw [← hcs]
              repeat' (first | refine e_nil ?_ | ((refine e_op ?_); (refine o_n (peval_sound rfl) rfl ?_)) | refine s_region ?_ | refine s_end ?_)
              refine s_back ⟨⟨i + 1, by omega⟩, by simp only; omega, ?_, Ent.refl _⟩
              repeat' (first | exact Sub.nil _ | refine Sub.cons rfl ?_ | refine Sub.consE rfl ?_ ?_)
              exact inc (i := i) (by omega)
            | false =>
              rw [hRi, Bool.false_or] at hcs
              cases nz with
              | false =>
                rw [Bool.false_and] at hcs
                repeat' (first | ((first | refine e_op ?_ | refine e_yes rfl ?_); (refine o_n (peval_sound rfl) rfl ?_)) | refine e_noU rfl rfl rfl ?_)
                refine e_op (o_n (n_indexA rfl rfl rfl rfl i rfl hi8) rfl ?_)
                refine e_op (o_storeB rfl rfl rfl rfl i hcl (by simp) .z ?_)
                rw [← hcs]
                repeat' (first | refine e_nil ?_ | ((refine e_op ?_); (refine o_n (peval_sound rfl) rfl ?_)) | refine s_region ?_ | refine s_end ?_)
                refine s_back ⟨⟨i + 1, by omega⟩, by simp only; omega, ?_, Ent.refl _⟩
                repeat' (first | exact Sub.nil _ | refine Sub.cons rfl ?_ | refine Sub.consE rfl ?_ ?_)
                exact inc (i := i) (by omega)
              | true =>
                rw [Bool.true_and, hog] at hcs
                repeat' (((refine e_yes rfl ?_); (refine o_n (peval_sound rfl) rfl ?_)))
                refine e_yes rfl (o_n (n_indexA rfl rfl rfl rfl i rfl hi8) rfl ?_)
                skip
                refine e_yes rfl (o_n (n_loadB rfl rfl (.s .z) rfl i hio (by simp)) rfl ?_)
                repeat' (((first | refine e_op ?_ | refine e_yes rfl ?_); (refine o_n (peval_sound rfl) rfl ?_)))
                refine e_op (o_n (n_indexA rfl rfl rfl rfl i rfl hi8) rfl ?_)
                refine e_op (o_storeB rfl rfl rfl rfl i hcl (by simp) .z ?_)
                rw [← hcs]
                repeat' (first | refine e_nil ?_ | ((refine e_op ?_); (refine o_n (peval_sound rfl) rfl ?_)) | refine s_region ?_ | refine s_end ?_)
                refine s_back ⟨⟨i + 1, by omega⟩, by simp only; omega, ?_, Ent.refl _⟩
                repeat' (first | exact Sub.nil _ | refine Sub.cons rfl ?_ | refine Sub.consE rfl ?_ ?_)
                exact inc (i := i) (by omega)
          · rw [decide_eq_false (p := (i : Int) < 48) (by omega)]
            obtain rfl : i = 48 := by omega
            have hfin : combTo R own nz 48 = comb R own nz := by rw [← hRl]; exact combTo_all _ _ _
            rw [hfin]
            repeat' (first | refine e_nil ?_ | ((refine e_op ?_); (first | refine o_n (peval_sound rfl) rfl ?_ | refine o_n (nl rfl rfl tc rfl) rfl ?_)) | refine s_seq ?_ | refine s_region ?_ | refine s_block ?_ | refine s_exit ?_ | refine s_false rfl ?_ | refine x_hit ?_ | refine x_code ?_ | refine x_back ?_)
            have hcbl : (comb R own nz).length = 48 := by unfold comb; simp [hRl]
            have hvp2 : VP g KS ⟨ps, ⟨q, d⟩⟩ := hvp
            have hpa := prodsAdd_inv (p := ⟨ps, ⟨q, d⟩⟩) hF hvp2 (comb R own nz) hi2
            refine s_loopK (ι := {x : Nat × List Nat × Option Addr × Nat // x.1 ≤ g.Prods.length ∧ x.2.1.length = (prodsAdd g ⟨ps, ⟨q, d⟩⟩ (comb R own nz) st2 x.1).ks.length}) [0, 3, 4, 7, 8, 142, 143] rfl ⟨(0, al2, At2, ct2), by omega, hal2⟩ (fun x => [(144, .int .i64 x.1.1)])
              (fun x => [blk b8 109 (cB (comb R own nz)), blk b4 107 [.int .i64 ps, .int .i64 q, .int .i64 d], mkB bm (.slice A0 g.Terms.length c0) (.slice A1 g.Levels.length c1) (.slice A2 g.Pats.length c2) (.slice A3 g.Nons.length c3) (.slice (some ⟨b9, o9, none⟩) g.Prods.length c4) (.slice AK KS.length cK) (.slice (some ⟨bG, oG, none⟩) GS.length cG) b1 x.1.2.2.1 (prodsAdd g ⟨ps, ⟨q, d⟩⟩ (comb R own nz) st2 x.1.1).td.length x.1.2.2.2 b2 b3, mapA keyP b1 (prs (prodsAdd g ⟨ps, ⟨q, d⟩⟩ (comb R own nz) st2 x.1.1).ks x.1.2.1), bun (bitX x.1.2.1 (prodsAdd g ⟨ps, ⟨q, d⟩⟩ (comb R own nz) st2 x.1.1).bs), tdS x.1.2.2.1 x.1.2.2.2 (prodsAdd g ⟨ps, ⟨q, d⟩⟩ (comb R own nz) st2 x.1.1).td, mapS keyX b2 (begM g m2.c) m2.s2 m2.k2, mapS keyX b3 (empM g m2.c) m2.s3 m2.k3]) (fun x => g.Prods.length - x.1.1) ?_ (Ent.cons (Ent.wk (Ent.refl _))) ?_
            · repeat' (first | exact Sub.nil _ | refine Sub.cons rfl ?_)
            rintro ⟨⟨k, al3, At3, ct3⟩, hk, hal3⟩
            simp only at hk hal3 ⊢
            obtain ⟨hi3, hme3⟩ := hpa k hk
            have hsu := prodsAdd_succ g ⟨ps, ⟨q, d⟩⟩ (comb R own nz) st2 k
            generalize hst3 : prodsAdd g ⟨ps, ⟨q, d⟩⟩ (comb R own nz) st2 k = st3 at hal3 hi3 hme3 hsu ⊢
            repeat' (first | refine e_nil ?_ | ((refine e_op ?_); (refine o_n (peval_sound rfl) rfl ?_)) | refine s_seq ?_ | refine s_region ?_)
            by_cases hkl : k < g.Prods.length
            · rw [decide_eq_true (p := (k : Int) < (g.Prods.length : Int)) (by omega)]
              repeat' (first | ((refine e_op ?_); (refine o_n (peval_sound rfl) rfl ?_)) | refine s_seq ?_ | refine s_region ?_ | refine s_block ?_ | refine s_skip ?_ | refine s_true rfl ?_)
              refine e_op (o_n (n_index rfl rfl rfl rfl k rfl hkl) rfl ?_)
              obtain ⟨bk2, ok2, esk, ek, hbk, hek, hck⟩ := hG.prods.2.2 k hkl
              cases ek
              obtain ⟨Ak, ck, rfl, hlk9, _, _, _⟩ := kPrd_open hek
              have hLk := prod_ok hwf hkl
              have hw3 : IntKind.i64.wrap ((sy : Int) - (g.Terms.length : Int)) = (sy : Int) - (g.Terms.length : Int) := by rw [wrap_i64] <;> omega
              refine e_op (o_n (n_load_ro rfl rfl hb9 (loads_agg rfl rfl hck)) rfl ?_)
              repeat' (first | refine e_nil ?_ | ((refine e_op ?_); (first | refine o_n (peval_sound rfl) rfl ?_ | refine o_n (nl rfl rfl tc rfl) rfl ?_ | refine o_storeC rfl rfl rfl rfl tc uc rfl rfl rfl ?_ | refine o_alloc rfl rfl (fun _ => ?_))) | refine s_seq ?_ | refine s_region ?_)
              rw [hw3]
              simp only [hbeh] at hsu
              rw [prd_at hkl] at hsu
              by_cases hle : g.Prods[k].Left = (sy : Int) - (g.Terms.length : Int)
              · rw [if_pos hle] at hsu
                rw [show (g.Prods[k].Left == (sy : Int) - (g.Terms.length : Int)) = true by simpa using hle]
                have htl3 : st3.td.length ≤ 1000000000 := by
                  have : st3.td.length ≤ meas (univ g KS) st3 := by unfold meas; omega
                  omega
                repeat' (first | ((refine e_op ?_); (first | refine o_n (peval_sound rfl) rfl ?_ | refine o_n (nl rfl rfl tc rfl) rfl ?_)) | refine s_region ?_ | refine s_true rfl ?_)
                refine e_op (o_n (n_loadA rfl rfl (.s .z) rfl hcbl) rfl ?_)
                refine e_op (o_call (add_w bm b1 b2 b3 (.slice A0 g.Terms.length c0) (.slice A1 g.Levels.length c1) (.slice A2 g.Pats.length c2) (.slice A3 g.Nons.length c3) (.slice (some ⟨b9, o9, none⟩) g.Prods.length c4) (.slice AK KS.length cK) (.slice (some ⟨bG, oG, none⟩) GS.length cG) st3 hi3.ok htl3 al3 hal3 At3 ct3 ⟨ps, ⟨k, 0⟩⟩ (comb R own nz) hcbl) rfl (.cons (.s (.s (.s .z))) (.cons (.s (.s (.s .z))) (.cons (.s (.s (.s .z))) (.cons (.s (.s (.s .z))) .nil)))) Can.tt rfl ?_)
                rintro v V ⟨al4, At4, ct4, rfl, hal4, rfl⟩
                simp only [List.cons_append, List.nil_append]
                rw [← hsu] at hal4 ⊢
                repeat' (first | refine e_nil ?_ | ((refine e_op ?_); (refine o_n (peval_sound rfl) rfl ?_)) | refine s_region ?_ | refine s_end ?_)
                refine s_back ⟨⟨(k + 1, al4, At4, ct4), by simp only; omega, hal4⟩, by simp only; omega, ?_, ?_⟩
                · repeat' (first | exact Sub.nil _ | refine Sub.cons rfl ?_ | refine Sub.consE rfl ?_ ?_)
                  exact inc (i := k) (by omega)
                · simp only
                  exact Ent.tak (.s (.s (.s (.s (.s .z))))) (Ent.tak (.s (.s (.s (.s (.s .z))))) (Ent.tak .z (Ent.tak .z (Ent.tak .z (Ent.tak .z (Ent.wk (Ent.refl _)))))))
              · rw [if_neg hle] at hsu
                rw [show (g.Prods[k].Left == (sy : Int) - (g.Terms.length : Int)) = false by simpa using hle]
                repeat' (first | refine e_nil ?_ | ((refine e_op ?_); (refine o_n (peval_sound rfl) rfl ?_)) | refine s_region ?_ | refine s_end ?_ | refine s_skip ?_ | refine s_false rfl ?_)
                refine s_back ⟨⟨(k + 1, al3, At3, ct3), by simp only; omega, by simp only [hsu]; exact hal3⟩, by simp only; omega, ?_, ?_⟩
                · repeat' (first | exact Sub.nil _ | refine Sub.cons rfl ?_ | refine Sub.consE rfl ?_ ?_)
                  exact inc (i := k) (by omega)
                · simp only [hsu]
                  exact Ent.wk (Ent.refl _)
            · rw [decide_eq_false (p := (k : Int) < (g.Prods.length : Int)) (by omega)]
              have hkE : k = g.Prods.length := by omega
              have hround : roundG g GS (restB g) (restN g) st ⟨ps, ⟨q, d⟩⟩ = st3 := by
                unfold roundG
                rw [prd_at hql, if_neg (by simp only; omega), if_neg (by simp only [hbeh]; omega), hnx, ← hst1, ← hown, hst2, ← hst3, hkE]
                simp only [hRB, hRN]
              repeat' (first | refine s_end ?_ | refine s_exit ?_ | refine s_false rfl ?_ | refine x_hit ?_ | refine x_code ?_ | refine x_back ?_)
              refine s_back ⟨⟨(st3, al3, At3, ct3, m2), hi3, hal3, by simp only; omega, n + 1, by rw [hstep, hround]⟩, by simp only; omega, ?_, Ent.wk (Ent.wk (Ent.refl _))⟩
              repeat' (first | exact Sub.nil _ | refine Sub.cons rfl ?_)

end Go.Proofs.YtcbaebkkdkdaaaaDoor

namespace Go.Proofs.YtcbaebkkdkdaaaaDoor
set_option linter.all false
open Go.Proofs.YtcbaebkkdkdaaaaDoor.E

abbrev p00 : Plc := ⟨0, ⟨0, 0⟩⟩
def one0 : Bits := true :: List.replicate 47 false
def st00 : Stt := ⟨[], [], []⟩
def la0 : Stt := addS st00 p00 one0
def laN (g : Gram) (n : Nat) : Stt := stepN g (lrGs g) (restB g) (restN g) n la0

section steps
variable {g : Gram} {GS : List (List Int)} {rB : Itm → Bits} {rN : Itm → Bool}
theorem stepN_done {st : Stt} (h : st.td = []) : ∀ n, stepN g GS rB rN n st = st
  | 0 => rfl
  | n + 1 => by
    show stepN g GS rB rN n (stepG g GS rB rN st) = st
    have : stepG g GS rB rN st = st := by unfold stepG; rw [h]; rfl
    rw [this]; exact stepN_done h n
theorem stepN_plus : ∀ (m n : Nat) (st : Stt), stepN g GS rB rN (m + n) st = stepN g GS rB rN n (stepN g GS rB rN m st)
  | 0, n, st => by rw [Nat.zero_add]; rfl
  | m + 1, n, st => by
    rw [show m + 1 + n = (m + n) + 1 by omega]
    show stepN g GS rB rN (m + n) (stepG g GS rB rN st) = _
    rw [stepN_plus m n]; rfl
theorem stepN_two {st : Stt} {m n : Nat} (hm : (stepN g GS rB rN m st).td = []) (hn : (stepN g GS rB rN n st).td = []) : stepN g GS rB rN m st = stepN g GS rB rN n st := by
  rcases Nat.le_total m n with h | h
  · rw [show n = m + (n - m) by omega, stepN_plus, stepN_done hm]
  · rw [show m = n + (m - n) by omega, stepN_plus, stepN_done hn]
end steps

open Classical in
/-- Where growing ends. -/
noncomputable def laFin (g : Gram) : Stt := if h : ∃ n, (laN g n).td = [] then laN g (Classical.choose h) else la0
theorem laFin_eq {g : Gram} {n : Nat} (h : (laN g n).td = []) : laFin g = laN g n := by
  have he : ∃ n, (laN g n).td = [] := ⟨n, h⟩
  unfold laFin
  rw [dif_pos he]
  exact stepN_two (Classical.choose_spec he) h

/-- Of a state and a production: the terms behind it, where it is whole; else nothing. -/
noncomputable def laRow (g : Gram) (s k : Nat) : Bits := if (⟨s, ⟨k, (prd g k).Right.length⟩⟩ : Plc) ∈ (laFin g).ks then (getB (laFin g).ks (laFin g).bs ⟨s, ⟨k, (prd g k).Right.length⟩⟩).take g.Terms.length else []
noncomputable def laX (g : Gram) : List (List Bits) := if lrE g = 0 then (List.range (lrKs g).length).map fun s => (List.range g.Prods.length).map fun k => laRow g s k else []

/-! ### the least relation -/
/-- What comes of a term behind a place, at once. -/
inductive Cons (g : Gram) (GS : List (List Int)) : Plc → Nat → Plc → Nat → Prop
  | shift {p : Plc} {t : Nat} : p.x.Dot ≠ (prd g p.x.Prod).Right.length → Cons g GS p t (nextP g GS p) t
  | close {p : Plc} {t k u : Nat} : p.x.Dot ≠ (prd g p.x.Prod).Right.length → ¬ beh g p.x < g.Terms.length → k < g.Prods.length → (prd g k).Left = beh g p.x - g.Terms.length →
      ((restB g p.x).getD u false = true ∨ (restN g p.x = true ∧ u = t)) → Cons g GS p t ⟨p.s, ⟨k, 0⟩⟩ u
inductive LA (g : Gram) (GS : List (List Int)) : Plc → Nat → Prop
  | base : LA g GS p00 0
  | step {p q : Plc} {t u : Nat} : LA g GS p t → Cons g GS p t q u → LA g GS q u

def bit (st : Stt) (p : Plc) (t : Nat) : Bool := (getB st.ks st.bs p).getD t false

theorem getD_lt {l : Bits} {t : Nat} (h : l.getD t false = true) : t < l.length := by
  rcases Nat.lt_or_ge t l.length with h1 | h1
  · exact h1
  · rw [List.getD_eq_getElem?_getD, List.getElem?_eq_none h1] at h; cases h

section adds
variable {st : Stt} (hok : SttOk st) {r : Plc} {l : Bits} (hl : l.length = 48)
include hok hl
theorem bit_add (q : Plc) (t : Nat) : bit (addS st r l) q t = (bit st q t || (decide (q = r) && l.getD t false)) := by
  unfold bit
  rw [getB_add hok]
  split
  · rename_i e; subst e
    rw [decide_eq_true rfl, Bool.true_and]
    by_cases ht : t < 48
    · rw [orB_getD t (by rw [getB_len hok.l48]; exact ht)]
    · have h1 : ∀ b : Bits, b.length = 48 → b.getD t false = false := fun b hb => by rw [List.getD_eq_getElem?_getD, List.getElem?_eq_none (by omega)]; rfl
      rw [h1 _ (by unfold orB; rw [orTo_len, getB_len hok.l48]), h1 _ (getB_len hok.l48 q), h1 _ hl]; rfl
  · rename_i e
    rw [decide_eq_false e]; simp
theorem bit_mono {q : Plc} {t : Nat} (h : bit st q t = true) : bit (addS st r l) q t = true := by rw [bit_add hok hl, h]; rfl
theorem bit_in {t : Nat} (h : l.getD t false = true) : bit (addS st r l) r t = true := by rw [bit_add hok hl, h]; simp
theorem td_new {q : Plc} {t : Nat} (h : bit (addS st r l) q t = true) (h0 : bit st q t = false) : q = r ∧ q ∈ (addS st r l).td := by
  rw [bit_add hok hl, h0, Bool.false_or] at h
  simp only [Bool.and_eq_true, decide_eq_true_eq] at h
  obtain ⟨rfl, h⟩ := h
  refine ⟨rfl, ?_⟩
  have : newB (getB st.ks st.bs q) l = true := by
    unfold newB newTo
    rw [List.any_eq_true]
    refine ⟨t, List.mem_range.2 (by rw [getB_len hok.l48]; have := getD_lt h; omega), ?_⟩
    rw [h]; unfold bit at h0; rw [h0]; rfl
  show q ∈ (if newB (getB st.ks st.bs q) l then st.td ++ [q] else st.td)
  rw [if_pos this]; simp
theorem td_mono {q : Plc} (h : q ∈ st.td) : q ∈ (addS st r l).td := by
  show q ∈ (if newB (getB st.ks st.bs r) l then st.td ++ [r] else st.td)
  split
  · exact List.mem_append_left _ h
  · exact h
theorem td_some (hs : ∀ q ∈ st.td, ∃ t, bit st q t = true) : ∀ q ∈ (addS st r l).td, ∃ t, bit (addS st r l) q t = true := by
  intro q hq
  have hq : q ∈ (if newB (getB st.ks st.bs r) l then st.td ++ [r] else st.td) := hq
  have hold : q ∈ st.td → ∃ t, bit (addS st r l) q t = true := fun h => by obtain ⟨t, ht⟩ := hs q h; exact ⟨t, bit_mono hok hl ht⟩
  split at hq
  · rename_i hn
    rcases List.mem_append.1 hq with h | h
    · exact hold h
    · rw [List.mem_singleton] at h; subst h
      unfold newB newTo at hn
      rw [List.any_eq_true] at hn
      obtain ⟨t, _, ht⟩ := hn
      simp only [Bool.and_eq_true] at ht
      exact ⟨t, bit_in hok hl ht.1⟩
  · exact hold hq
end adds

/-- In the midst of a round: what is told is so, what grew is to do, else what comes of it is there. -/
structure Half (g : Gram) (GS : List (List Int)) (p : Plc) (own : Bits) (st : Stt) : Prop where
  ok : SttOk st
  sound : ∀ q t, bit st q t = true → LA g GS q t
  some_ : ∀ q ∈ st.td, ∃ t, bit st q t = true
  comp : ∀ q t, bit st q t = true → q ∈ st.td ∨ (q = p ∧ own.getD t false = true) ∨ ∀ r u, Cons g GS q t r u → bit st r u = true

theorem Half.add {g : Gram} {GS : List (List Int)} {p : Plc} {own : Bits} {st : Stt} (h : Half g GS p own st) {r : Plc} {l : Bits} (hl : l.length = 48) (hs : ∀ t, l.getD t false = true → LA g GS r t) : Half g GS p own (addS st r l) where
  ok := addS_ok h.ok r l
  sound q t hq := by
    rw [bit_add h.ok hl] at hq
    simp only [Bool.or_eq_true, Bool.and_eq_true, decide_eq_true_eq] at hq
    rcases hq with hq | ⟨rfl, hq⟩
    · exact h.sound q t hq
    · exact hs t hq
  some_ := td_some h.ok hl h.some_
  comp q t hq := by
    cases h0 : bit st q t with
    | true =>
      rcases h.comp q t h0 with h1 | h1 | h1
      · exact .inl (td_mono h.ok hl h1)
      · exact .inr (.inl h1)
      · exact .inr (.inr fun r u hc => bit_mono h.ok hl (h1 r u hc))
    | false => exact .inl (td_new h.ok hl hq h0).2

theorem comb_getD {a own : Bits} {nz : Bool} {t : Nat} (h : (comb a own nz).getD t false = true) : a.getD t false = true ∨ (nz = true ∧ own.getD t false = true) := by
  have ht := getD_lt h
  unfold comb at h ht
  rw [List.length_map, List.length_range] at ht
  rw [List.getD_eq_getElem?_getD, List.getElem?_eq_getElem (by simpa using ht), Option.getD_some, List.getElem_map, List.getElem_range] at h
  simpa using h
theorem comb_set {a own : Bits} {nz : Bool} {t : Nat} (ht : t < a.length) (h : a.getD t false = true ∨ (nz = true ∧ own.getD t false = true)) : (comb a own nz).getD t false = true := by
  unfold comb
  rw [List.getD_eq_getElem?_getD, List.getElem?_eq_getElem (by simpa using ht), Option.getD_some, List.getElem_map, List.getElem_range]
  simpa using h
theorem comb_len (a own : Bits) (nz : Bool) : (comb a own nz).length = a.length := by unfold comb; simp

theorem prods_half {g : Gram} {GS : List (List Int)} {p : Plc} {own : Bits} {st : Stt} (h : Half g GS p own st) {l : Bits} (hl : l.length = 48)
    (hs : ∀ t, l.getD t false = true → ∀ k : Nat, k < g.Prods.length → (prd g k).Left = beh g p.x - g.Terms.length → LA g GS ⟨p.s, ⟨k, 0⟩⟩ t) : ∀ m, m ≤ g.Prods.length → Half g GS p own (prodsAdd g p l st m) ∧ (∀ q t, bit st q t = true → bit (prodsAdd g p l st m) q t = true) ∧
      (∀ k : Nat, k < m → (prd g k).Left = beh g p.x - g.Terms.length → ∀ t, l.getD t false = true → bit (prodsAdd g p l st m) ⟨p.s, ⟨k, 0⟩⟩ t = true)
  | 0, _ => ⟨h, fun _ _ h => h, fun k hk => by omega⟩
  | m + 1, hm => by
    obtain ⟨h1, h2, h3⟩ := prods_half h hl hs m (by omega)
    rw [prodsAdd_succ]
    split
    · rename_i hle
      refine ⟨h1.add hl (fun t ht => hs t ht m (by omega) hle), fun q t hq => bit_mono h1.ok hl (h2 q t hq), fun k hk hlk t ht => ?_⟩
      by_cases e : k = m
      · subst e; exact bit_in h1.ok hl ht
      · exact bit_mono h1.ok hl (h3 k (by omega) hlk t ht)
    · rename_i hle
      refine ⟨h1, h2, fun k hk hlk t ht => ?_⟩
      by_cases e : k = m
      · subst e; exact absurd hlk hle
      · exact h3 k (by omega) hlk t ht

/-- Between rounds. -/
structure Whole (g : Gram) (GS : List (List Int)) (st : Stt) : Prop where
  ok : SttOk st
  sound : ∀ q t, bit st q t = true → LA g GS q t
  some_ : ∀ q ∈ st.td, ∃ t, bit st q t = true
  comp : ∀ q t, bit st q t = true → q ∈ st.td ∨ ∀ r u, Cons g GS q t r u → bit st r u = true

theorem Whole.of {g : Gram} {GS : List (List Int)} {p : Plc} {own : Bits} {st : Stt} (h : Half g GS p own st) (hp : ∀ t, own.getD t false = true → ∀ r u, Cons g GS p t r u → bit st r u = true) : Whole g GS st :=
  ⟨h.ok, h.sound, h.some_, fun q t hq => by
    rcases h.comp q t hq with h1 | ⟨rfl, h1⟩ | h1
    · exact .inl h1
    · exact .inr (hp t h1)
    · exact .inr h1⟩

theorem whole_round {g : Gram} (hT : g.Terms.length ≤ 48) {GS : List (List Int)} {st : Stt} (h : Whole g GS st) {p : Plc} (hp : st.td.getLast? = some p) : Whole g GS (roundG g GS (restB g) (restN g) st p) := by
  obtain ⟨ys, hys⟩ := List.getLast?_eq_some_iff.1 hp
  have hmem : p ∈ st.td := by rw [hys]; simp
  obtain ⟨t0, ht0⟩ := h.some_ p hmem
  have hdl : st.td.dropLast = ys := by rw [hys, List.dropLast_concat]
  have hH : Half g GS p (getB st.ks st.bs p) ⟨st.ks, st.bs, st.td.dropLast⟩ := by
    refine ⟨⟨h.ok.len, h.ok.l48, h.ok.nd, fun p hp => h.ok.td p (List.dropLast_subset _ hp)⟩, h.sound, fun q hq => h.some_ q (List.dropLast_subset _ hq), fun q t hq => ?_⟩
    rcases h.comp q t hq with h1 | h1
    · rw [hys] at h1
      rcases List.mem_append.1 h1 with h1 | h1
      · refine .inl ?_; show q ∈ st.td.dropLast; rw [hdl]; exact h1
      · rw [List.mem_singleton] at h1; subst h1; exact .inr (.inl ⟨rfl, hq⟩)
    · exact .inr (.inr h1)
  have hlo := getB_len (ks := st.ks) h.ok.l48 p
  have hso : ∀ t, (getB st.ks st.bs p).getD t false = true → LA g GS p t := fun t ht => h.sound p t ht
  have hst0 : (getB st.ks st.bs p).getD t0 false = true := ht0
  unfold roundG
  generalize getB st.ks st.bs p = own at *
  split
  · rename_i hd
    exact .of hH fun t ht r u hc => by cases hc with
      | shift h1 => exact absurd hd h1
      | close h1 => exact absurd hd h1
  · rename_i hd
    have hA := hH.add (r := nextP g GS p) hlo (fun t ht => .step (hso t ht) (.shift hd))
    split
    · rename_i hb
      refine .of hA fun t ht r u hc => ?_
      cases hc with
      | shift h1 => exact bit_in hH.ok hlo ht
      | close _ h2 => exact absurd hb h2
    · rename_i hb
      have hlc : (comb (restB g p.x) own (restN g p.x)).length = 48 := by rw [comb_len, restB_len hT]
      obtain ⟨h1, h2, h3⟩ := prods_half hA hlc (fun t ht k hk hle => by
        rcases comb_getD ht with h1 | ⟨h1, h2⟩
        · exact .step (hso t0 hst0) (.close hd hb hk hle (.inl h1))
        · exact .step (hso t h2) (.close hd hb hk hle (.inr ⟨h1, rfl⟩))) g.Prods.length (Nat.le_refl _)
      refine .of h1 fun t ht r u hc => ?_
      cases hc with
      | shift _ => exact h2 _ _ (bit_in hH.ok hlo ht)
      | close _ _ hk hle hu =>
        refine h3 _ hk hle u (comb_set ?_ ?_)
        · rcases hu with hu | ⟨_, rfl⟩
          · exact getD_lt hu
          · rw [restB_len hT]; have := getD_lt ht; omega
        · rcases hu with hu | ⟨hu, rfl⟩
          · exact .inl hu
          · exact .inr ⟨hu, ht⟩

theorem whole_N {g : Gram} (hT : g.Terms.length ≤ 48) {GS : List (List Int)} : ∀ (n : Nat) {st : Stt}, Whole g GS st → Whole g GS (stepN g GS (restB g) (restN g) n st)
  | 0, _, h => h
  | n + 1, st, h => by
    show Whole g GS (stepN g GS (restB g) (restN g) n (stepG g GS (restB g) (restN g) st))
    refine whole_N hT n ?_
    unfold stepG
    cases hl : st.td.getLast? with
    | none => exact h
    | some p => exact whole_round hT h hl

theorem ok00 : SttOk st00 := ⟨rfl, (fun b hb => nomatch hb), List.nodup_nil, (fun p hp => nomatch hp)⟩
theorem one0_len : one0.length = 48 := by decide
theorem one0_get {t : Nat} (h : one0.getD t false = true) : t = 0 := by
  cases t with
  | zero => rfl
  | succ t =>
    exfalso
    unfold one0 at h
    rw [List.getD_cons_succ, List.getD_eq_getElem?_getD] at h
    rcases Nat.lt_or_ge t 47 with h1 | h1
    · rw [List.getElem?_replicate, if_pos h1] at h; cases h
    · rw [List.getElem?_replicate, if_neg (by omega)] at h; cases h

theorem whole0 (g : Gram) (GS : List (List Int)) : Whole g GS la0 := by
  have hb : ∀ q t, bit st00 q t = false := fun q t => by
    unfold bit getB st00
    simp only [List.not_mem_nil, if_false]
    unfold zer
    rw [List.getD_eq_getElem?_getD]
    cases h : (List.replicate 48 false)[t]? with
    | none => rfl
    | some b => have := List.mem_of_getElem? h; rw [List.mem_replicate] at this; rw [this.2]; rfl
  have h0 : Half g GS p00 one0 st00 := ⟨ok00, (fun q t h => by rw [hb] at h; cases h), (fun q hq => nomatch hq), (fun q t h => by rw [hb] at h; cases h)⟩
  have h1 := h0.add (r := p00) one0_len (fun t ht => by rw [one0_get ht]; exact .base)
  refine ⟨h1.ok, h1.sound, h1.some_, fun q t hq => ?_⟩
  exact .inl (td_new ok00 one0_len hq (hb q t)).2

theorem la_end {g : Gram} (hT : g.Terms.length ≤ 48) {n : Nat} (h : (laN g n).td = []) {p : Plc} {t : Nat} : bit (laN g n) p t = true ↔ LA g (lrGs g) p t := by
  have hw := whole_N hT n (whole0 g (lrGs g))
  refine ⟨hw.sound p t, fun hl => ?_⟩
  induction hl with
  | base =>
    have mono : ∀ n, bit (laN g n) p00 0 = true → True := fun _ _ => trivial
    have keep : ∀ (n : Nat) {st : Stt}, Whole g (lrGs g) st → bit st p00 0 = true → bit (stepN g (lrGs g) (restB g) (restN g) n st) p00 0 = true := by
      intro n
      induction n with
      | zero => exact fun _ h => h
      | succ n ih =>
        intro st hw hb
        show bit (stepN g (lrGs g) (restB g) (restN g) n (stepG g (lrGs g) (restB g) (restN g) st)) p00 0 = true
        have hw2 : Whole g (lrGs g) (stepG g (lrGs g) (restB g) (restN g) st) := whole_N hT 1 hw
        refine ih hw2 ?_
        unfold stepG
        cases hl : st.td.getLast? with
        | none => exact hb
        | some p =>
          simp only
          have hok : SttOk ⟨st.ks, st.bs, st.td.dropLast⟩ := ⟨hw.ok.len, hw.ok.l48, hw.ok.nd, fun p hp => hw.ok.td p (List.dropLast_subset _ hp)⟩
          have hlo := getB_len (ks := st.ks) hw.ok.l48 p
          have h1 : bit (addS ⟨st.ks, st.bs, st.td.dropLast⟩ (nextP g (lrGs g) p) (getB st.ks st.bs p)) p00 0 = true := bit_mono hok hlo hb
          have hlc : (comb (restB g p.x) (getB st.ks st.bs p) (restN g p.x)).length = 48 := by rw [comb_len, restB_len hT]
          have hpa : ∀ m, SttOk (prodsAdd g p (comb (restB g p.x) (getB st.ks st.bs p) (restN g p.x)) (addS ⟨st.ks, st.bs, st.td.dropLast⟩ (nextP g (lrGs g) p) (getB st.ks st.bs p)) m) ∧ bit (prodsAdd g p (comb (restB g p.x) (getB st.ks st.bs p) (restN g p.x)) (addS ⟨st.ks, st.bs, st.td.dropLast⟩ (nextP g (lrGs g) p) (getB st.ks st.bs p)) m) p00 0 = true := by
            intro m
            induction m with
            | zero => exact ⟨addS_ok hok _ _, h1⟩
            | succ m ih2 =>
              rw [prodsAdd_succ]
              split
              · exact ⟨addS_ok ih2.1 _ _, bit_mono ih2.1 hlc ih2.2⟩
              · exact ih2
          unfold roundG
          split
          · exact hb
          · split
            · exact h1
            · exact (hpa _).2
    exact keep n (whole0 g (lrGs g)) (bit_in ok00 one0_len rfl)
  | step _ hc ih =>
    rcases hw.comp _ _ ih with h1 | h1
    · rw [show (stepN g (lrGs g) (restB g) (restN g) n la0).td = [] from h] at h1; cases h1
    · exact h1 _ _ hc

theorem vp00 {g : Gram} {KS : List (List Itm)} {GS : List (List Int)} (hF : GoF g KS GS) : VP g KS p00 := by
  refine ⟨hF.p0, ?_⟩
  have o := GOk.of hF.wf
  refine ((closedP_spec o.beh o.left (hF.ok 0 hF.p0).2.1).2 _).2 (.base ?_)
  rw [hF.k0 hF.p0]; simp

theorem la_vp {g : Gram} {KS : List (List Itm)} {GS : List (List Int)} (hF : GoF g KS GS) {p : Plc} {t : Nat} (h : LA g GS p t) : VP g KS p := by
  induction h with
  | base => exact vp00 hF
  | step _ hc ih =>
    cases hc with
    | shift hd =>
      obtain ⟨_, _, _, _, _, _, _, h⟩ := ih.next hF hd
      exact h
    | close _ _ hk hl _ => exact ih.prod hF hk hl

end Go.Proofs.YtcbaebkkdkdaaaaDoor

namespace Go.Proofs.YtcbaebkkdkdaaaaDoor
set_option linter.all false
open Go.Proofs.YtcbaebkkdkdaaaaDoor.E

abbrev AcL := List (Option Addr × Nat)
def rowVs (D : List AcL) (R : List (List Bits)) : List (List Value) := List.zipWith rowC D R
def innB (D : List AcL) (R : List (List Bits)) : List Asn := List.zipWith (fun d r => bun (rowX cB 1 4 d r)) D R
abbrev rowO (acs : AcL) (D : List AcL) (R : List (List Bits)) : Asn := bun (rowX (fun l : List Value => l) 1 70 acs (rowVs D R))
/-- The answer, in memory of one's own. -/
structure AheV (V : List Asn) (AX : Option Addr) (n cX : Nat) (X : List (List Bits)) (acs : AcL) (D : List AcL) : Prop where
  m : n = X.length
  l : acs.length = X.length
  d : D.length = X.length
  r : ∀ (i : Nat) (h1 : i < D.length) (h2 : i < X.length), D[i].length = X[i].length
  v : V = [osl 69 1 (.slice AX n cX) n (rowC acs (rowVs D X)), rowO acs D X, bun (innB D X)]

theorem rowVs_len {D : List AcL} {R : List (List Bits)} (h : D.length = R.length) : (rowVs D R).length = R.length := by unfold rowVs; simp [h]
theorem innB_len {D : List AcL} {R : List (List Bits)} (h : D.length = R.length) : (innB D R).length = R.length := by unfold innB; simp [h]

theorem pad_set {α : Type} (A : List α) (m : Nat) (x v : α) : (A ++ List.replicate (m + 1) x).set A.length v = (A ++ [v]) ++ List.replicate m x := by
  rw [List.set_append_right _ _ (Nat.le_refl _), Nat.sub_self, List.replicate_succ, List.set_cons_zero, List.append_assoc]; rfl

theorem univ_len {g : Gram} {KS : List (List Itm)} {GS : List (List Int)} (hF : GoF g KS GS) : (univ g KS).length ≤ 512 * 2000 := by
  unfold univ
  have h1 : ∀ (l : List Nat), (∀ s ∈ l, s < KS.length) → (l.flatMap fun s => (closedP g (KS.getD s [])).map fun x => (⟨s, x⟩ : Plc)).length ≤ l.length * 2000 := by
    intro l
    induction l with
    | nil => intro _; simp
    | cons s l ih =>
      intro h
      rw [List.flatMap_cons, List.length_append, List.length_map, List.length_cons]
      have h2 := ih (fun x hx => h x (List.mem_cons_of_mem _ hx))
      have h3 := h s (List.mem_cons_self ..)
      have h4 := (hF.cl s h3).2.2.2.2
      rw [List.getD_eq_getElem?_getD, List.getElem?_eq_getElem h3, Option.getD_some]
      have := Nat.add_mul l.length 1 2000
      omega
  have h2 := h1 (List.range KS.length) (fun s hs => List.mem_range.1 hs)
  rw [List.length_range] at h2
  exact Nat.le_trans h2 (Nat.mul_le_mul_right _ hF.n)
theorem sum_bound {f : Plc → Nat} {b : Nat} (h : ∀ q, f q ≤ b) : ∀ l : List Plc, (l.map f).sum ≤ l.length * b
  | [] => by simp
  | x :: l => by
    rw [List.map_cons, List.sum_cons, List.length_cons, Nat.add_mul]
    have := sum_bound h l
    have := h x
    omega
theorem meas0 {g : Gram} {KS : List (List Itm)} {GS : List (List Int)} (hF : GoF g KS GS) : meas (univ g KS) la0 ≤ 1000000000 := by
  have h1 : (univ g KS).length ≤ 1024000 := univ_len hF
  have h2 : miss (univ g KS) la0 ≤ (univ g KS).length * 48 := by
    unfold miss
    refine sum_bound (fun q => ?_) _
    unfold cntZ
    refine Nat.le_trans List.countP_le_length ?_
    rw [List.length_range, getB_len (ks := la0.ks) (bs := la0.bs) (addS_ok ok00 p00 one0).l48]; exact Nat.le_refl _
  have h3 : la0.td.length ≤ 1 := by decide
  unfold meas
  omega

theorem ginv0 {g : Gram} {KS : List (List Itm)} {GS : List (List Int)} (hF : GoF g KS GS) : GInv g KS la0 :=
  GInv.add (st := st00) ⟨ok00, fun p hp => by cases hp⟩ (vp00 hF) one0

noncomputable def YR (g : Gram) (s k : Nat) : List Bits := (List.range k).map fun j => laRow g s j
noncomputable def XR (g : Gram) (s : Nat) : List (List Bits) := (List.range s).map fun i => YR g i g.Prods.length
theorem YR_len (g : Gram) (s k : Nat) : (YR g s k).length = k := by unfold YR; simp
theorem XR_len (g : Gram) (s : Nat) : (XR g s).length = s := by unfold XR; simp
theorem YR_succ (g : Gram) (s k : Nat) : YR g s (k + 1) = YR g s k ++ [laRow g s k] := by unfold YR; rw [List.range_succ, List.map_append]; rfl
theorem XR_succ (g : Gram) (s : Nat) : XR g (s + 1) = XR g s ++ [YR g s g.Prods.length] := by unfold XR; rw [List.range_succ, List.map_append]; rfl
theorem XR_get {g : Gram} {s i : Nat} (h : i < (XR g s).length) : (XR g s)[i] = YR g i g.Prods.length := by
  have h2 : i < ((List.range s).map fun i => YR g i g.Prods.length).length := h
  show ((List.range s).map fun i => YR g i g.Prods.length)[i] = _
  rw [List.getElem_map, List.getElem_range]
theorem laX_ok {g : Gram} (h : lrE g = 0) : laX g = XR g (lrKs g).length := by unfold laX; rw [if_pos h]; rfl
theorem rowC_len0 {α : Type} {acs : AcL} {rows : List (List α)} (h : acs.length = rows.length) : (rowC acs rows).length = rows.length := by unfold rowC; simp [h]
theorem rowVs_snoc {D : List AcL} {R : List (List Bits)} (h : D.length = R.length) (d : AcL) (r : List Bits) : rowVs (D ++ [d]) (R ++ [r]) = rowVs D R ++ [rowC d r] := by unfold rowVs; rw [List.zipWith_append h]; rfl
theorem innB_snoc {D : List AcL} {R : List (List Bits)} (h : D.length = R.length) (d : AcL) (r : List Bits) : innB (D ++ [d]) (R ++ [r]) = innB D R ++ [bun (rowX cB 1 4 d r)] := by unfold innB; rw [List.zipWith_append h]; rfl
theorem flat_cB : ∀ l : List Bool, l.flatMap (fun b => [Value.bool b]) = cB l
  | [] => rfl
  | b :: l => by rw [List.flatMap_cons, flat_cB l]; rfl
theorem load_cell {xs : List Value} {o : Nat} {v : Value} {i : TI} (ha : aggB i.d = false) (h : xs[o]? = some v) : loadL i xs o = some v := by unfold loadL; rw [ha]; exact h
abbrev nilV : Value := .slice none 0 0
theorem pad_set1 {A : List Value} {n s : Nat} {v : Value} (h : A.length = s) (hs : s < n) : setMany (A ++ List.replicate (n - s) nilV) (0 + s * 1) [v] = (A ++ [v]) ++ List.replicate (n - (s + 1)) nilV := by
  subst h
  simp only [setMany, Nat.zero_add, Nat.mul_one]
  rw [show n - A.length = (n - (A.length + 1)) + 1 by omega]
  exact pad_set A _ _ v
theorem pad_len {A : List Value} {n s : Nat} (h : A.length = s) (hs : s ≤ n) : (A ++ List.replicate (n - s) nilV).length = n := by rw [List.length_append, List.length_replicate]; omega

attribute [local irreducible] EVX EVO EVL EV1 NEV
attribute [local irreducible] own osl exA rdA rdL
attribute [local irreducible] bldA mapA bun mapS
set_option maxRecDepth 10000
set_option maxHeartbeats 4000000

theorem aheadOf_w (cs : List Value) (g : Gram) (hp : checkE g = 0 → g.Prods.length ≤ 100) : Trip Tryd.prog 32 [.agg cs.toArray] (kGram.rd cs g) []
    (fun v V => ∃ (AX : Option Addr) (n cX : Nat) (acs : AcL) (D : List AcL), v = .tuple #[.slice AX n cX, .int .i64 (lrE g)] ∧ AheV V AX n cX (laX g) acs D) := by
  refine trip Tryd.tabOk Tryd.func32 rfl rfl rfl rfl ?_
  rintro w SM hG0
  obtain ⟨A0, A1, A2, A3, A4, c0, c1, c2, c3, c4, rfl, hG⟩ := kGram_open hG0
  repeat' (first | refine e_nil ?_ | ((refine e_op ?_); (first | refine o_n (peval_sound rfl) rfl ?_ | refine o_n (nl rfl rfl tc rfl) rfl ?_ | refine o_box rfl rfl (fun _ => ?_))) | refine s_seq ?_ | refine s_region ?_)
  refine e_op (o_call (ofP_w _ g hp) rfl .nil (Can.ro hG0) rfl ?_)
  rintro v V ⟨x, rfl, AK, cK, acs, AG, cG, bcs, hl, hb, rfl, rfl⟩
  simp only [List.cons_append, List.nil_append]
  repeat' (first | refine e_nil ?_ | ((refine e_op ?_); (first | refine o_n (peval_sound rfl) rfl ?_ | refine o_storeC rfl rfl rfl rfl tc uc rfl rfl rfl ?_ | refine o_alloc rfl rfl (fun _ => ?_))) | refine s_seq ?_ | refine s_region ?_)
  by_cases h0 : lrE g ≠ 0
  · rw [show (lrE g != 0) = true by simpa using h0]
    have hX : laX g = [] := by unfold laX; rw [if_neg h0]
    rw [hX]
    repeat' (first | refine e_nil ?_ | ((refine e_op ?_); (refine o_n (peval_sound rfl) rfl ?_)) | refine s_seq ?_ | refine s_region ?_ | refine s_true rfl ?_)
    refine s_ret ⟨_, _, res2 rfl rfl rfl, ⟨none, 0, 0, [], [], rfl, ⟨rfl, rfl, rfl, (fun i h1 => nomatch h1), rfl⟩⟩, ?_⟩
    exact (Ent.nil _).trans (Ent.osl0 (ent_bnil0.trans (Ent.cons (ent_bun (L := [])))))
  replace h0 : lrE g = 0 := Classical.not_not.1 h0
  rw [show (lrE g != 0) = false by simpa using h0]
  have hce := (lr_fin h0).1
  have hF := goF h0
  have hN := lr_num g
  repeat' (first | ((refine e_op ?_); (refine o_n (nl rfl rfl tc rfl) rfl ?_)) | refine s_seq ?_ | refine s_region ?_ | refine s_skip ?_ | refine s_false rfl ?_)
  refine e_op (o_newMap keyP rfl (fun b1 => ?_))
  refine e_op (o_newMapS keyX rfl (fun b2 => ?_))
  refine e_op (o_newMapS keyX rfl (fun b3 => ?_))
  repeat' (((refine e_op ?_); (first | refine o_n (peval_sound rfl) rfl ?_ | refine o_box rfl rfl (fun _ => ?_))))
  rename_i bg bl bm
  refine e_nil ?_
  refine s_weak (fr' := [(6, ptrN bm), (4, ptrN bl), (1, ptrN bg)]) (V := [mkB bm (.slice A0 g.Terms.length c0) (.slice A1 g.Levels.length c1) (.slice A2 g.Pats.length c2) (.slice A3 g.Nons.length c3) (.slice A4 g.Prods.length c4) (.slice AK (lrKs g).length cK) (.slice AG (lrGs g).length cG) b1 none 0 0 b2 b3, mapA keyP b1 (prs st00.ks []), bun (bitX [] st00.bs), tdS none 0 st00.td, mapS keyX b2 (begM g []) [] 0, mapS keyX b3 (empM g []) [] 0,
    blk bl 35 [.slice AK (lrKs g).length cK, .slice AG (lrGs g).length cG], kerS AK (lrKs g).length cK acs (lrKs g), kerB acs (lrKs g), gotS AG (lrGs g).length cG bcs (lrGs g), gotB bcs (lrGs g), blk bg 27 [.slice A0 g.Terms.length c0, .slice A1 g.Levels.length c1, .slice A2 g.Pats.length c2, .slice A3 g.Nons.length c3, .slice A4 g.Prods.length c4]]) ?_ ?_ ?_
  · repeat' (first | exact Sub.nil _ | refine Sub.cons rfl ?_)
  · refine Ent.cons (Ent.tak (.s (.s .z)) (Ent.trans (Ent.tak (.s .z) (Ent.tak .z (Ent.refl _))) ?_))
    exact Ent.trans (Ent.osl0 (e := 107) (sz := 3) (Ent.refl _)) (ent_bun (L := []))
  repeat' (first | ((refine e_op ?_); (refine o_n (peval_sound rfl) rfl ?_)) | refine s_seq ?_ | refine s_region ?_)
  refine e_op (o_n (n_buildA1 rfl rfl rfl rfl rfl rfl) rfl ?_)
  skip
  refine e_op (o_call (add_w bm b1 b2 b3 (.slice A0 g.Terms.length c0) (.slice A1 g.Levels.length c1) (.slice A2 g.Pats.length c2) (.slice A3 g.Nons.length c3) (.slice A4 g.Prods.length c4) (.slice AK (lrKs g).length cK) (.slice AG (lrGs g).length cG) st00 ok00 (by decide) [] rfl none 0 p00 one0 one0_len) rfl (.cons .z (.cons .z (.cons .z (.cons .z .nil)))) Can.tt rfl ?_)
  rintro v V ⟨al, At, ct, rfl, hal, rfl⟩
  simp only [List.cons_append, List.nil_append]
  rw [show addS st00 p00 one0 = la0 from rfl] at hal ⊢
  repeat' (first | refine e_nil ?_ | ((refine e_op ?_); (refine o_n (peval_sound rfl) rfl ?_)) | refine s_seq ?_ | refine s_region ?_)
  refine e_op (o_call (growG_w bm b1 b2 b3 A0 A1 A2 A3 A4 AK AG c0 c1 c2 c3 c4 cK cG g hce (lrKs g) (lrGs g) hF la0 (ginv0 hF) (meas0 hF) al hal At ct ⟨[], [], 0, [], 0⟩) rfl (.cons .z (.cons .z (.cons .z (.cons .z (.cons .z (.cons .z .nil)))))) (Can.and (Can.ro hG0) (can_lr hl hb hN (Ent.wk (Ent.refl _)))) rfl ?_)
  rintro v V ⟨rfl, n, st, al2, At2, ct2, m, hst, htd, hi, hal2, rfl⟩
  simp only [List.cons_append, List.nil_append]
  have hlaN : laN g n = st := hst.symm
  have hfin : laFin g = st := by rw [laFin_eq (n := n) (by rw [hlaN]; exact htd)]; exact hlaN
  have hn512 := hF.n
  have hP100 := hp hce
  have hT48 : g.Terms.length ≤ 48 := hF.lim.t
  repeat' (first | refine e_nil ?_ | ((refine e_op ?_); (first | refine o_n (peval_sound rfl) rfl ?_ | refine o_n (nl rfl rfl tc rfl) rfl ?_)) | refine s_seq ?_ | refine s_region ?_ | refine s_skip ?_ | refine s_false rfl ?_)
  refine e_op (o_make rfl rfl rfl rfl (lrKs g).length rfl rfl (by omega) (by omega) rfl (fun bX => ?_))
  repeat' (first | refine e_nil ?_ | ((refine e_op ?_); (refine o_n (peval_sound rfl) rfl ?_)) | refine s_seq ?_ | refine s_region ?_ | refine s_block ?_)
  refine s_loopK (ι := {x : Nat × AcL × List AcL // x.1 ≤ (lrKs g).length ∧ x.2.1.length = x.1 ∧ x.2.2.length = x.1 ∧ ∀ d ∈ x.2.2, d.length = g.Prods.length}) [1, 6, 8, 42] rfl ⟨(0, [], []), by simp⟩ (fun x => [(43, .int .i64 x.1.1)])
    (fun x => [osl 69 1 (.slice (some ⟨bX, 0, none⟩) (lrKs g).length (lrKs g).length) (lrKs g).length (rowC x.1.2.1 (rowVs x.1.2.2 (XR g x.1.1)) ++ List.replicate ((lrKs g).length - x.1.1) nilV), rowO x.1.2.1 x.1.2.2 (XR g x.1.1), bun (innB x.1.2.2 (XR g x.1.1)),
      mkB bm (.slice A0 g.Terms.length c0) (.slice A1 g.Levels.length c1) (.slice A2 g.Pats.length c2) (.slice A3 g.Nons.length c3) (.slice A4 g.Prods.length c4) (.slice AK (lrKs g).length cK) (.slice AG (lrGs g).length cG) b1 At2 st.td.length ct2 b2 b3, mapA keyP b1 (prs st.ks al2), bun (bitX al2 st.bs), blk bg 27 [.slice A0 g.Terms.length c0, .slice A1 g.Levels.length c1, .slice A2 g.Pats.length c2, .slice A3 g.Nons.length c3, .slice A4 g.Prods.length c4]]) (fun x => (lrKs g).length - x.1.1) ?_ ?_ ?_
  · repeat' (first | exact Sub.nil _ | refine Sub.cons rfl ?_)
  · refine Ent.cons ?_
    refine Ent.trans ?_ (ent_bnil0.trans (Ent.cons (ent_bun (L := []))))
    exact Ent.cons (Ent.cons (Ent.cons (Ent.wk (Ent.wk (Ent.wk (Ent.wk (Ent.wk (Ent.wk (Ent.wk (Ent.wk (Ent.refl _)))))))))))
  rintro ⟨⟨s, acs2, D⟩, hs, ha, hD, hDl⟩
  simp only at hs ha hD hDl ⊢
  repeat' (first | refine e_nil ?_ | ((refine e_op ?_); (refine o_n (peval_sound rfl) rfl ?_)) | refine s_seq ?_ | refine s_region ?_)
  have hvl : (rowVs D (XR g s)).length = s := by rw [rowVs_len (by rw [XR_len]; exact hD), XR_len]
  have hrc : (rowC acs2 (rowVs D (XR g s))).length = s := by rw [rowC_len0 (by rw [hvl]; exact ha), hvl]
  by_cases hlt : s < (lrKs g).length
  · rw [decide_eq_true (p := (s : Int) < ((lrKs g).length : Int)) (by omega)]
    repeat' (first | refine e_nil ?_ | ((refine e_op ?_); (first | refine o_n (peval_sound rfl) rfl ?_ | refine o_n (nl rfl rfl tc rfl) rfl ?_)) | refine s_seq ?_ | refine s_region ?_ | refine s_block ?_ | refine s_skip ?_ | refine s_true rfl ?_)
    refine e_op (o_make rfl rfl rfl rfl g.Prods.length rfl rfl (by omega) (by omega) rfl (fun bR => ?_))
    skip
    refine e_op (o_n (n_index rfl rfl rfl rfl s rfl hlt) rfl ?_)
    refine e_op (o_store_osl (vs := [.slice (some ⟨bR, 0, none⟩) g.Prods.length g.Prods.length]) rfl rfl rfl rfl rfl rfl (by rw [pad_len hrc hs]; simp only; omega) (.s .z) ?_)
    rw [pad_set1 hrc hlt]
    repeat' (first | refine e_nil ?_ | ((refine e_op ?_); (first | refine o_n (peval_sound rfl) rfl ?_ | refine o_n (nl rfl rfl tc rfl) rfl ?_)) | refine s_seq ?_ | refine s_region ?_ | refine s_block ?_)
    obtain ⟨OC, hOC⟩ : ∃ OC, OC = rowC acs2 (rowVs D (XR g s)) ++ [Value.slice (some ⟨bR, 0, none⟩) g.Prods.length g.Prods.length] ++ List.replicate ((lrKs g).length - (s + 1)) nilV := ⟨_, rfl⟩
    have hOCs : OC[s]? = some (Value.slice (some ⟨bR, 0, none⟩) g.Prods.length g.Prods.length) := by
      rw [hOC, List.append_assoc, List.getElem?_append_right (by omega), hrc, Nat.sub_self]; rfl
    rw [← hOC]
    refine s_loopK (ι := {y : Nat × AcL // y.1 ≤ g.Prods.length ∧ y.2.length = y.1}) [1, 6, 8, 9, 42, 43, 54, 55] rfl ⟨(0, []), by simp⟩ (fun y => [(56, .int .i64 y.1.1)])
      (fun y => [osl 70 1 (.slice (some ⟨bR, 0, none⟩) g.Prods.length g.Prods.length) g.Prods.length (rowC y.1.2 (YR g s y.1.1) ++ List.replicate (g.Prods.length - y.1.1) nilV), bun (rowX cB 1 4 y.1.2 (YR g s y.1.1)), osl 69 1 (.slice (some ⟨bX, 0, none⟩) (lrKs g).length (lrKs g).length) (lrKs g).length OC, rowO acs2 D (XR g s), bun (innB D (XR g s)),
        mkB bm (.slice A0 g.Terms.length c0) (.slice A1 g.Levels.length c1) (.slice A2 g.Pats.length c2) (.slice A3 g.Nons.length c3) (.slice A4 g.Prods.length c4) (.slice AK (lrKs g).length cK) (.slice AG (lrGs g).length cG) b1 At2 st.td.length ct2 b2 b3, mapA keyP b1 (prs st.ks al2), bun (bitX al2 st.bs), blk bg 27 [.slice A0 g.Terms.length c0, .slice A1 g.Levels.length c1, .slice A2 g.Pats.length c2, .slice A3 g.Nons.length c3, .slice A4 g.Prods.length c4]])
      (fun y => g.Prods.length - y.1.1) ?_ ?_ ?_
    · repeat' (first | exact Sub.nil _ | refine Sub.cons rfl ?_)
    · exact Ent.cons ent_bnil0
    rintro ⟨⟨k, d⟩, hk, hd⟩
    simp only at hk hd ⊢
    have hdy : d.length = (YR g s k).length := by rw [YR_len]; exact hd
    have hdc : (rowC d (YR g s k)).length = k := by rw [rowC_len0 hdy, YR_len]
    repeat' (first | refine e_nil ?_ | ((refine e_op ?_); (refine o_n (peval_sound rfl) rfl ?_)) | refine s_seq ?_ | refine s_region ?_)
    by_cases hkl : k < g.Prods.length
    · rw [decide_eq_true (p := (k : Int) < (g.Prods.length : Int)) (by omega)]
      obtain ⟨b9, o9, es9, rfl, hb9, he9, hc9⟩ := hG.prods.2.2 k hkl
      obtain ⟨Ar, cr, rfl, hl9, hlN, hlK, hri⟩ := kPrd_open he9
      repeat' (first | ((refine e_op ?_); (refine o_n (peval_sound rfl) rfl ?_)) | refine s_seq ?_ | refine s_region ?_ | refine s_block ?_ | refine s_skip ?_ | refine s_true rfl ?_)
      refine e_op (o_n (n_index rfl rfl rfl rfl k rfl hkl) rfl ?_)
      refine e_op (o_n (n_load_ro rfl rfl hb9 (loads_agg rfl rfl hc9)) rfl ?_)
      repeat' (first | refine e_nil ?_ | ((refine e_op ?_); (first | refine o_n (peval_sound rfl) rfl ?_ | refine o_storeC rfl rfl rfl rfl tc uc rfl rfl rfl ?_ | refine o_alloc rfl rfl (fun _ => ?_))) | refine s_seq ?_)
      rename_i b53
      refine s_drawU [] Tryd.mixed (by decide +kernel) ?_
      repeat' (((first | refine l_n (peval_sound rfl) rfl ?_ rfl ?_ | refine l_n (nl rfl rfl tc rfl) rfl ?_ rfl ?_); · (exact Ent.refl _)))
      refine l_n (n_lookup (z := .pointer none) (k := ⟨s, ⟨(k : Int), (g.Prods[k].Right.length : Int)⟩⟩) rfl mkeyP (fun w => by kernel_rfl) rfl rfl rfl (.s (.s (.s (.s (.s (.s (.s .z)))))))) rfl (Ent.refl _) rfl ?_
      rw [look_prs hal2]
      repeat' (first | refine l_nil ?_ | ((refine l_n (peval_sound rfl) rfl ?_ rfl ?_); · (exact Ent.refl _)))
      have hrow : laRow g s k = if (⟨s, ⟨(k : Int), (g.Prods[k].Right.length : Int)⟩⟩ : Plc) ∈ st.ks then (getB st.ks st.bs ⟨s, ⟨(k : Int), (g.Prods[k].Right.length : Int)⟩⟩).take g.Terms.length else [] := by
        unfold laRow; rw [hfin, prd_at hkl]
      generalize (⟨s, ⟨(k : Int), (g.Prods[k].Right.length : Int)⟩⟩ : Plc) = p at hrow ⊢
      by_cases hpk : p ∈ st.ks
      · rw [if_pos hpk] at hrow ⊢
        simp only [Option.getD_some]
        have hgb : st.bs[ix st.ks p]? = some (getB st.ks st.bs p) := by
          unfold getB
          have := ix_lt hpk
          have hlb := hi.ok.len
          rw [if_pos hpk, List.getD_eq_getElem?_getD, List.getElem?_eq_getElem (by omega)]; rfl
        have hb48 := getB_len (ks := st.ks) hi.ok.l48 p
        generalize getB st.ks st.bs p = b at hrow hgb hb48
        generalize hba : al2.getD (ix st.ks p) 0 = ba
        repeat' (first | ((refine e_op ?_); (refine o_n (peval_sound rfl) rfl ?_)) | refine s_seq ?_ | refine s_region ?_)
        refine e_op (o_n (n_neqP Tryd.underlying111 (by kernel_rfl) rfl rfl) rfl ?_)
        refine e_nil ?_
        refine s_true rfl ?_
        have hat : ∀ V, Ent (bun (bitX al2 st.bs) :: V) (blk ba 109 (cB b) :: bun ((bitX al2 st.bs).eraseIdx (ix st.ks p)) :: V) := fun V => by
          rw [← hba]; exact ent_bunAt (bitX_get (by rw [hal2, hi.ok.len]) hgb)
        have hbk : ∀ V, Ent (blk ba 109 (cB b) :: bun ((bitX al2 st.bs).eraseIdx (ix st.ks p)) :: V) (bun (bitX al2 st.bs) :: V) := fun V => by
          rw [← hba]; exact ent_bunBack (bitX_get (by rw [hal2, hi.ok.len]) hgb)
        refine s_weak (fr' := [(12, ptrN ba), (10, .int .i64 k), (56, .int .i64 k), (1, ptrN bg), (6, ptrN bm), (8, .slice (some ⟨bX, 0, none⟩) (lrKs g).length (lrKs g).length), (9, .int .i64 s), (42, .int .i64 (lrKs g).length), (43, .int .i64 s), (54, .slice (some ⟨b9, o9, none⟩) g.Prods.length c4), (55, .int .i64 g.Prods.length)])
          (V := [blk ba 109 (cB b), bun ((bitX al2 st.bs).eraseIdx (ix st.ks p)), osl 70 1 (.slice (some ⟨bR, 0, none⟩) g.Prods.length g.Prods.length) g.Prods.length (rowC d (YR g s k) ++ List.replicate (g.Prods.length - k) nilV), bun (rowX cB 1 4 d (YR g s k)), osl 69 1 (.slice (some ⟨bX, 0, none⟩) (lrKs g).length (lrKs g).length) (lrKs g).length OC, rowO acs2 D (XR g s), bun (innB D (XR g s)), mkB bm (.slice A0 g.Terms.length c0) (.slice A1 g.Levels.length c1) (.slice A2 g.Pats.length c2) (.slice A3 g.Nons.length c3) (.slice (some ⟨b9, o9, none⟩) g.Prods.length c4) (.slice AK (lrKs g).length cK) (.slice AG (lrGs g).length cG) b1 At2 st.td.length ct2 b2 b3, mapA keyP b1 (prs st.ks al2), blk bg 27 [.slice A0 g.Terms.length c0, .slice A1 g.Levels.length c1, .slice A2 g.Pats.length c2, .slice A3 g.Nons.length c3, .slice (some ⟨b9, o9, none⟩) g.Prods.length c4]]) ?_ ?_ ?_
        · repeat' (first | exact Sub.nil _ | refine Sub.cons rfl ?_)
        · exact Ent.trans (Ent.tak (.s (.s (.s (.s (.s (.s (.s (.s .z)))))))) (Ent.refl _)) (Ent.trans (hat _) (Ent.cons (Ent.cons (Ent.wk (Ent.refl _)))))
        refine s_anyT (.s (.s .z)) Tryd.mixed ?_
        (refine a_n 0 rfl (peval_sound rfl) (by decide +kernel) (by (repeat' (first | exact Ent.refl _ | refine Ent.tak .z ?_ | refine Ent.wk ?_))) rfl ?_); (refine a_n 1 rfl (peval_sound rfl) (by decide +kernel) (by (repeat' (first | exact Ent.refl _ | refine Ent.tak .z ?_ | refine Ent.wk ?_))) rfl ?_)
        refine a_n 2 rfl (n_index rfl rfl rfl rfl s rfl hlt) (by decide +kernel) (by (repeat' (first | exact Ent.refl _ | refine Ent.tak .z ?_ | refine Ent.wk ?_))) rfl ?_
        refine a_n 3 rfl (n_load_osl rfl rfl (.s (.s (.s .z))) (load_cell rfl (by simpa using hOCs))) (by decide +kernel) (by (repeat' (first | exact Ent.refl _ | refine Ent.tak .z ?_ | refine Ent.wk ?_))) rfl ?_
        (refine a_n 4 rfl (peval_sound rfl) (by decide +kernel) (by (repeat' (first | exact Ent.refl _ | refine Ent.tak .z ?_ | refine Ent.wk ?_))) rfl ?_); (refine a_n 5 rfl (peval_sound rfl) (by decide +kernel) (by (repeat' (first | exact Ent.refl _ | refine Ent.tak .z ?_ | refine Ent.wk ?_))) rfl ?_); (refine a_n 6 rfl (peval_sound rfl) (by decide +kernel) (by (repeat' (first | exact Ent.refl _ | refine Ent.tak .z ?_ | refine Ent.wk ?_))) rfl ?_); (refine a_n 7 rfl (peval_sound rfl) (by decide +kernel) (by (repeat' (first | exact Ent.refl _ | refine Ent.tak .z ?_ | refine Ent.wk ?_))) rfl ?_); (first | refine a_n 8 rfl (peval_sound rfl) (by decide +kernel) (by (repeat' (first | exact Ent.refl _ | refine Ent.tak .z ?_ | refine Ent.wk ?_))) rfl ?_ | refine a_n 8 rfl (nl rfl rfl tc rfl) (by decide +kernel) (by (repeat' (first | exact Ent.refl _ | refine Ent.tak .z ?_ | refine Ent.wk ?_))) rfl ?_); (refine a_n 9 rfl (peval_sound rfl) (by decide +kernel) (by (repeat' (first | exact Ent.refl _ | refine Ent.tak .z ?_ | refine Ent.wk ?_))) rfl ?_)
        refine a_n 10 rfl (n_arrTo rfl rfl rfl rfl g.Terms.length rfl hT48) (by decide +kernel) (by (repeat' (first | exact Ent.refl _ | refine Ent.tak .z ?_ | refine Ent.wk ?_))) rfl ?_
        refine a_1 11 (by decide +kernel) rfl rfl (o_copyO (k := kbool) (bytes := 1) (fun b => [.bool b]) kbool_is onec_bool rfl rfl rfl rfl (xs := b.take g.Terms.length) (by rw [List.length_take]; omega) (can_bits (kd := kbool) rfl (fun _ _ _ => rfl) .z (by omega) hT48 (by omega)) rfl rfl (by omega) rfl rfl rfl (fun A' c' => ⟨(by (repeat' (first | exact Ent.refl _ | refine Ent.tak .z ?_ | refine Ent.wk ?_))), ?_⟩))
        rw [flat_cB, ← hrow]
        refine a_n 12 rfl (n_index rfl rfl rfl rfl k rfl hkl) (by decide +kernel) (by (repeat' (first | exact Ent.refl _ | refine Ent.tak .z ?_ | refine Ent.wk ?_))) rfl ?_
        refine a_1 13 (by decide +kernel) rfl rfl (o_store_osl (vs := [.slice A' g.Terms.length c']) rfl rfl rfl rfl rfl rfl (by rw [pad_len hdc hk]; simp only; omega) (.s (.s (.s .z))) ⟨(by (repeat' (first | exact Ent.refl _ | refine Ent.tak .z ?_ | refine Ent.wk ?_))), ?_⟩)
        rw [pad_set1 hdc hkl]
        refine a_done (by decide +kernel) ?_
        repeat' (first | refine e_nil ?_ | ((refine e_op ?_); (refine o_n (peval_sound rfl) rfl ?_)) | refine s_region ?_ | refine s_end ?_)
        have hLr : (laRow g s k).length = g.Terms.length := by rw [hrow, List.length_take]; omega
        have e4 : osl 4 kbool.sz (.slice A' g.Terms.length c') g.Terms.length (cB (laRow g s k)) = rowA cB 1 4 (A', c') (laRow g s k) := by
          show osl 4 1 _ _ _ = osl 4 1 (.slice A' (laRow g s k).length c') (laRow g s k).length _
          rw [hLr]
        refine s_back ⟨⟨(k + 1, d ++ [(A', c')]), by simp only; omega, by simp [hd]⟩, by simp only; omega, ?_, ?_⟩
        · repeat' (first | exact Sub.nil _ | refine Sub.cons rfl ?_ | refine Sub.consE rfl ?_ ?_)
          exact inc (i := k) (by omega)
        · simp only
          rw [YR_succ, rowC_snoc hdy, hLr, e4]
          refine Ent.tak (.s (.s (.s .z))) ?_
          refine Ent.trans (Ent.cons (Ent.tak (.s (.s .z)) (Ent.refl _))) ?_
          refine Ent.trans (ent_bsnoc hdy) (Ent.cons (Ent.trans (hbk _) ?_))
          exact Ent.tak (.s .z) (Ent.tak (.s .z) (Ent.tak (.s .z) (Ent.tak (.s .z) (Ent.tak (.s .z) (Ent.refl _)))))
      · rw [if_neg hpk] at hrow ⊢
        simp only [Option.getD_none]
        repeat' (first | ((refine e_op ?_); (refine o_n (peval_sound rfl) rfl ?_)) | refine s_seq ?_ | refine s_region ?_)
        refine e_op (o_n (n_neqP Tryd.underlying111 (by kernel_rfl) rfl rfl) rfl ?_)
        refine e_nil ?_
        refine s_false rfl ?_
        refine s_skip ?_
        repeat' (first | refine e_nil ?_ | ((refine e_op ?_); (refine o_n (peval_sound rfl) rfl ?_)) | refine s_region ?_ | refine s_end ?_)
        refine s_back ⟨⟨(k + 1, d ++ [(none, 0)]), by simp only; omega, by simp [hd]⟩, by simp only; omega, ?_, ?_⟩
        · repeat' (first | exact Sub.nil _ | refine Sub.cons rfl ?_ | refine Sub.consE rfl ?_ ?_)
          exact inc (i := k) (by omega)
        · simp only
          rw [YR_succ, rowC_snoc hdy, hrow, show g.Prods.length - k = (g.Prods.length - (k + 1)) + 1 by omega, List.replicate_succ, List.append_cons]
          refine Ent.trans (Ent.wk (Ent.refl _)) (Ent.cons ?_)
          refine Ent.trans ?_ (Ent.trans (ent_bsnoc (ac := (none, 0)) (r := ([] : List Bool)) hdy) (Ent.refl _))
          exact Ent.osl0 (Ent.refl _)
    · rw [decide_eq_false (p := (k : Int) < (g.Prods.length : Int)) (by omega)]
      obtain rfl : k = g.Prods.length := by omega
      repeat' (first | refine e_nil ?_ | ((refine e_op ?_); (refine o_n (peval_sound rfl) rfl ?_)) | refine s_region ?_ | refine s_end ?_ | refine s_exit ?_ | refine s_false rfl ?_ | refine x_hit ?_ | refine x_code ?_ | refine x_back ?_)
      have e70 : osl 70 1 (.slice (some ⟨bR, 0, none⟩) g.Prods.length g.Prods.length) g.Prods.length (rowC d (YR g s g.Prods.length)) = rowA (fun l : List Value => l) 1 70 (some ⟨bR, 0, none⟩, g.Prods.length) (rowC d (YR g s g.Prods.length)) := by
        show _ = osl 70 1 (.slice _ (rowC d (YR g s g.Prods.length)).length _) (rowC d (YR g s g.Prods.length)).length _
        rw [hdc]
      have hDX : D.length = (XR g s).length := by rw [XR_len]; exact hD
      refine s_back ⟨⟨(s + 1, acs2 ++ [(some ⟨bR, 0, none⟩, g.Prods.length)], D ++ [d]), by simp only; omega, by simp [ha], by simp [hD], fun x hx => ?_⟩, by simp only; omega, ?_, ?_⟩
      · rcases List.mem_append.1 hx with hx | hx
        · exact hDl x hx
        · rw [List.mem_singleton] at hx; subst hx; exact hd
      · repeat' (first | exact Sub.nil _ | refine Sub.cons rfl ?_ | refine Sub.consE rfl ?_ ?_)
        exact inc (i := s) (by omega)
      · simp only
        have hR : rowO (acs2 ++ [(some ⟨bR, 0, none⟩, g.Prods.length)]) (D ++ [d]) (XR g s ++ [YR g s g.Prods.length]) = bun (rowX (fun l : List Value => l) 1 70 (acs2 ++ [(some ⟨bR, 0, none⟩, g.Prods.length)]) (rowVs D (XR g s) ++ [rowC d (YR g s g.Prods.length)])) := by
          show bun (rowX _ 1 70 _ (rowVs _ _)) = _
          rw [rowVs_snoc hDX]
        rw [XR_succ, hR, rowVs_snoc hDX, innB_snoc hDX, Go.Proofs.YtcbaebkkdkdaaaaDoor.E.rowC_snoc (acs := acs2) (rows := rowVs D (XR g s)) (ac := (some ⟨bR, 0, none⟩, g.Prods.length)) (r := rowC d (YR g s g.Prods.length)) (by rw [hvl]; exact ha), hdc, ← hOC, Nat.sub_self, List.replicate_zero, List.append_nil, e70]
        refine Ent.tak (.s (.s .z)) ?_
        refine Ent.trans (Ent.cons (Ent.tak (.s .z) (Ent.refl _))) ?_
        refine Ent.trans (ent_bsnoc (by rw [hvl]; exact ha)) (Ent.cons ?_)
        exact ent_bunSnoc
  · rw [decide_eq_false (p := (s : Int) < ((lrKs g).length : Int)) (by omega)]
    obtain rfl : s = (lrKs g).length := by omega
    repeat' (first | refine e_nil ?_ | ((refine e_op ?_); (refine o_n (peval_sound rfl) rfl ?_)) | refine s_seq ?_ | refine s_region ?_ | refine s_exit ?_ | refine s_false rfl ?_ | refine x_hit ?_ | refine x_code ?_ | refine x_back ?_)
    rw [h0, laX_ok h0, Nat.sub_self, List.replicate_zero, List.append_nil]
    refine s_ret ⟨_, _, res2 rfl rfl rfl, ⟨some ⟨bX, 0, none⟩, (lrKs g).length, (lrKs g).length, acs2, D, rfl, ⟨by rw [XR_len], by rw [XR_len]; exact ha, by rw [XR_len]; exact hD, fun i h1 h2 => ?_, rfl⟩⟩, ?_⟩
    · rw [XR_get h2, YR_len]; exact hDl _ (List.getElem_mem h1)
    · exact Ent.cons (Ent.cons (Ent.cons (Ent.nil _)))

end Go.Proofs.YtcbaebkkdkdaaaaDoor

namespace Go.Proofs.YtcbaebkkdkdaaaaDoor
set_option linter.all false
open Go.Proofs.YtcbaebkkdkdaaaaDoor.E

/-- A byte of a string. -/
theorem n_idxS {E0 : Go.Proofs.YtcbaebkkdkdaaaaDoor.E.Env} {fr : Frm} {U : List Asn} {t : TypeId} {x ix : Operand} {s1 b1 : Nat} {z1 : List Value} {s : ByteArray} {k : IntKind} {q : Int} (ht : tl E0.T t = some ⟨.str, s1, b1, z1⟩) (hx : val fr x = some (.string s)) (hi : val fr ix = some (.int k q))
    (j : Nat) (hj : q = (j : Int)) (hlt : j < s.size) : NEV E0 (.index t x ix) fr U (.int .u8 (s[j]'hlt).toNat) := by
  subst hj
  intro a w dst ty pos af g hf _
  have h := run_index_string (P := E0.P) w t s k (j : Int) (u_str ht)
  rw [dif_pos (by omega)] at h
  have e : s[(j : Int).toNat]'(by omega) = s[j]'hlt := by simp only [Int.toNat_natCast]
  rw [e] at h
  simp [execOp, hf.eval hx, hf.eval hi, h, Result.andThen]

def alpha : ByteArray := ⟨#[95, 97, 98, 99, 100, 101, 102, 103, 104, 105, 106, 107]⟩
theorem alpha_lt (t : Nat) : t % 12 < alpha.size := Nat.mod_lt _ (by decide)
def letC (t : Nat) : Int := ((alpha[t % 12]'(alpha_lt t)).toNat : Nat)
theorem strOf_size (ns : List Int) : (strOf ns).size = ns.length := by
  have : ∀ (ns : List Int) (r : ByteArray), (ns.foldl (fun r n => r.push (UInt8.ofNat n.toNat)) r).size = r.size + ns.length := by
    intro ns
    induction ns with
    | nil => intro r; rfl
    | cons n ns ih => intro r; rw [List.foldl_cons, ih, ByteArray.size_push, List.length_cons]; omega
  unfold strOf; rw [this]; simp
def letS (l : List Bool) : Nat → ByteArray
  | 0 => ⟨#[]⟩
  | n + 1 => if l.getD n false then letS l n ++ strOf [letC n] else letS l n
theorem letS_size (l : List Bool) : ∀ n, (letS l n).size ≤ n
  | 0 => Nat.le_refl _
  | n + 1 => by
    have ih := letS_size l n
    unfold letS
    split
    · rw [ByteArray.size_append, strOf_size]; simp only [List.length_singleton]; omega
    · omega

attribute [local irreducible] EVX EVO EVL EV1 NEV
attribute [local irreducible] own osl exA rdA rdL
attribute [local irreducible] bldA mapA bun mapS
set_option maxRecDepth 10000
set_option maxHeartbeats 4000000

theorem p20_w (l : Int) (A : Option Addr) (n c : Nat) : Trip Tryd.prog 40 [.int .i64 l, .slice A n c] Rd.tt [] (fun v V => v = .agg #[.int .i64 l, .slice A n c, .int .i64 0, .int .i64 0] ∧ V = []) := by
  refine trip Tryd.tabOk Tryd.func40 rfl rfl rfl rfl ?_
  intro w SM _
  repeat' (first | refine e_nil ?_ | ((refine e_op ?_); (first | refine o_n (peval_sound rfl) rfl ?_ | refine o_storeC rfl rfl rfl rfl tc uc rfl rfl rfl ?_ | refine o_alloc rfl rfl (fun _ => ?_))) | refine s_seq ?_ | refine s_region ?_)
  exact s_ret ⟨_, _, resc rfl rfl rfl .z rfl, ⟨rfl, rfl⟩, Ent.nil _⟩

theorem few20_w (cs : List Value) (g : Gram) : Trip Tryd.prog 31 [.agg cs.toArray] (kGram.rd cs g) [] (fun v V => v = .bool (decide ((g.Prods.length : Int) ≤ 30)) ∧ V = []) := by
  refine trip Tryd.tabOk Tryd.func31 rfl rfl rfl rfl ?_
  rintro w SM hG0
  obtain ⟨A0, A1, A2, A3, A4, c0, c1, c2, c3, c4, rfl, hG⟩ := kGram_open hG0
  repeat' (first | refine e_nil ?_ | ((refine e_op ?_); (first | refine o_n (peval_sound rfl) rfl ?_ | refine o_n (nl rfl rfl tc rfl) rfl ?_ | refine o_box rfl rfl (fun _ => ?_))) | refine s_seq ?_ | refine s_region ?_)
  exact s_ret ⟨_, _, res1 rfl rfl, ⟨rfl, rfl⟩, Ent.nil _⟩

theorem letters_w (A : Option Addr) (n c : Nat) (l : List Bool) (hn : n = l.length) (hl : l.length ≤ 1000) : Trip Tryd.prog 41 [.slice A n c] ((kslice 1 kbool).rd [.slice A n c] l) [] (fun v V => v = .string (letS l l.length) ∧ V = []) := by
  refine trip Tryd.tabOk Tryd.func41 rfl rfl rfl rfl ?_
  rintro w SM ⟨A', c', e, h1, h2, h3⟩
  cases e
  repeat' (first | refine e_nil ?_ | ((refine e_op ?_); (refine o_n (peval_sound rfl) rfl ?_)) | refine s_seq ?_ | refine s_region ?_ | refine s_block ?_)
  refine s_loopK (ι := {k : Nat // k ≤ l.length}) [0] rfl ⟨0, by omega⟩ (fun k => [(4, .int .i64 k.1), (3, .string (letS l k.1))]) (fun _ => []) (fun k => l.length - k.1) ?_ (Ent.refl _) ?_
  · repeat' (first | exact Sub.nil _ | refine Sub.cons rfl ?_)
  rintro ⟨k, hk⟩
  simp only at hk ⊢
  repeat' (first | refine e_nil ?_ | ((refine e_op ?_); (refine o_n (peval_sound rfl) rfl ?_)) | refine s_seq ?_ | refine s_region ?_)
  by_cases hlt : k < l.length
  · rw [decide_eq_true (p := (k : Int) < (l.length : Int)) (by omega)]
    obtain ⟨b, o, es, rfl, hb, rfl, hc⟩ := h3 k hlt
    repeat' (first | ((refine e_op ?_); (refine o_n (peval_sound rfl) rfl ?_)) | refine s_seq ?_ | refine s_region ?_ | refine s_block ?_ | refine s_skip ?_ | refine s_true rfl ?_)
    refine e_op (o_n (n_index rfl rfl rfl rfl k rfl hlt) rfl ?_)
    refine e_op (o_n (n_load_ro rfl rfl hb (loads_one rfl (hc 0 _ rfl))) rfl ?_)
    repeat' (refine e_nil ?_)
    have hg : l.getD k false = l[k] := by rw [List.getD_eq_getElem?_getD, List.getElem?_eq_getElem hlt]; rfl
    have hsu : letS l (k + 1) = if l.getD k false then letS l k ++ strOf [letC k] else letS l k := rfl
    rw [hg] at hsu
    have hsz := letS_size l k
    cases hb2 : l[k] with
    | true =>
      rw [hb2, if_pos rfl] at hsu
      repeat' (first | ((refine e_op ?_); (refine o_n (peval_sound rfl) rfl ?_)) | refine s_region ?_ | refine s_true rfl ?_)
      refine e_op (o_n (n_rem rfl rfl (by decide)) rfl ?_)
      rw [show (k : Int).tmod 12 = ((k % 12 : Nat) : Int) from rfl]
      refine e_op (o_n (n_idxS rfl rfl rfl (k % 12) rfl (alpha_lt k)) rfl ?_)
      refine e_op (o_lit (ps := [(0, .int .u8 (letC k))]) (cs := [.int .u8 (letC k)]) rfl rfl rfl rfl rfl rfl rfl (fun bl => ?_))
      refine e_op (o_n (n_str (ns := [letC k]) rfl rfl rfl rfl .z) rfl ?_)
      refine e_op (o_n (n_cat rfl rfl (by rw [strOf_size]; simp only [List.length_singleton]; omega)) rfl ?_)
      rw [← hsu]
      repeat' (first | refine e_nil ?_ | ((refine e_op ?_); (refine o_n (peval_sound rfl) rfl ?_)) | refine s_region ?_ | refine s_end ?_)
      refine s_back ⟨⟨k + 1, by omega⟩, by simp only; omega, ?_, Ent.nil _⟩
      repeat' (first | exact Sub.nil _ | refine Sub.cons rfl ?_ | refine Sub.consE rfl ?_ ?_)
      exact inc (i := k) (by omega)
    | false =>
      rw [hb2] at hsu
      simp only [Bool.false_eq_true, if_false] at hsu
      repeat' (first | refine e_nil ?_ | ((refine e_op ?_); (refine o_n (peval_sound rfl) rfl ?_)) | refine s_region ?_ | refine s_end ?_ | refine s_skip ?_ | refine s_false rfl ?_)
      refine s_back ⟨⟨k + 1, by omega⟩, by simp only; omega, ?_, Ent.nil _⟩
      simp only [hsu]
      repeat' (first | exact Sub.nil _ | refine Sub.cons rfl ?_ | refine Sub.consE rfl ?_ ?_)
      exact inc (i := k) (by omega)
  · rw [decide_eq_false (p := (k : Int) < (l.length : Int)) (by omega)]
    obtain rfl : k = l.length := by omega
    repeat' (first | refine e_nil ?_ | ((refine e_op ?_); (refine o_n (peval_sound rfl) rfl ?_)) | refine s_seq ?_ | refine s_region ?_ | refine s_exit ?_ | refine s_false rfl ?_ | refine x_hit ?_ | refine x_code ?_ | refine x_back ?_)
    refine s_ret ⟨_, _, res1 rfl rfl, ⟨rfl, rfl⟩, Ent.nil _⟩

end Go.Proofs.YtcbaebkkdkdaaaaDoor

namespace Go.Proofs.YtcbaebkkdkdaaaaDoor
set_option linter.all false
open Go.Proofs.YtcbaebkkdkdaaaaDoor.E

def emS : ByteArray := ⟨#[]⟩
abbrev zL : Lev := ⟨0, 0⟩
def gW : Gram := ⟨List.replicate 3 emS, List.replicate 3 zL, [], List.replicate 3 emS, [⟨0, [4], zL⟩, ⟨1, [5, 1], zL⟩, ⟨1, [2, 5, 2], zL⟩, ⟨2, [], zL⟩]⟩
def gK : Gram := ⟨List.replicate 4 emS, List.replicate 4 zL, [], List.replicate 4 emS, [⟨0, [5], zL⟩, ⟨1, [6, 1, 7], zL⟩, ⟨1, [7], zL⟩, ⟨2, [2, 7], zL⟩, ⟨2, [3], zL⟩, ⟨3, [6], zL⟩]⟩
def gN : Gram := ⟨List.replicate 3 emS, List.replicate 3 zL, [], List.replicate 4 emS, [⟨0, [4], zL⟩, ⟨1, [5, 6], zL⟩, ⟨2, [1], zL⟩, ⟨2, [], zL⟩, ⟨3, [2], zL⟩, ⟨3, [], zL⟩]⟩

theorem w_check : checkE gW = 0 := by decide +kernel
theorem k_check : checkE gK = 0 := by decide +kernel
theorem n_check : checkE gN = 0 := by decide +kernel
theorem w_lrE : lrE gW = 0 := by decide +kernel
theorem k_lrE : lrE gK = 0 := by decide +kernel
theorem n_lrE : lrE gN = 0 := by decide +kernel
theorem w_len : (lrKs gW).length = 7 := by decide +kernel
theorem k_len : (lrKs gK).length = 10 := by decide +kernel
theorem n_len : (lrKs gN).length = 6 := by decide +kernel
theorem w_gs : lrGs gW = [[-1, -1, 1, -1, 2, 3], [-1, -1, -1, -1, -1, 4], [-1, -1, -1, -1, -1, -1], [-1, 5, -1, -1, -1, -1], [-1, -1, 6, -1, -1, -1], [-1, -1, -1, -1, -1, -1], [-1, -1, -1, -1, -1, -1]] := by decide +kernel
theorem k_gs : lrGs gK = [[-1, -1, 1, 2, -1, 3, 4, 5], [-1, -1, 1, 2, -1, -1, 6, 7], [-1, -1, -1, -1, -1, -1, -1, -1], [-1, -1, -1, -1, -1, -1, -1, -1], [-1, 8, -1, -1, -1, -1, -1, -1], [-1, -1, -1, -1, -1, -1, -1, -1], [-1, -1, -1, -1, -1, -1, -1, -1], [-1, -1, -1, -1, -1, -1, -1, -1], [-1, -1, 1, 2, -1, -1, 6, 9], [-1, -1, -1, -1, -1, -1, -1, -1]] := by decide +kernel
theorem n_gs : lrGs gN = [[-1, 1, -1, -1, 2, 3, -1], [-1, -1, -1, -1, -1, -1, -1], [-1, -1, -1, -1, -1, -1, -1], [-1, -1, 4, -1, -1, -1, 5], [-1, -1, -1, -1, -1, -1, -1], [-1, -1, -1, -1, -1, -1, -1]] := by decide +kernel
theorem td_nil {st : Stt} (h : st.td.isEmpty = true) : st.td = [] := List.isEmpty_iff.1 h
theorem w_fin : laFin gW = laN gW 11 := laFin_eq (td_nil (by unfold laN; rw [w_gs]; decide +kernel))
theorem k_fin : laFin gK = laN gK 31 := laFin_eq (td_nil (by unfold laN; rw [k_gs]; decide +kernel))
theorem n_fin : laFin gN = laN gN 11 := laFin_eq (td_nil (by unfold laN; rw [n_gs]; decide +kernel))
theorem w_03 : laRow gW 0 3 = [false, true, false] := by unfold laRow; rw [w_fin]; unfold laN; rw [w_gs]; decide +kernel
theorem w_13 : laRow gW 1 3 = [false, false, true] := by unfold laRow; rw [w_fin]; unfold laN; rw [w_gs]; decide +kernel
theorem w_20 : laRow gW 2 0 = [true, false, false] := by unfold laRow; rw [w_fin]; unfold laN; rw [w_gs]; decide +kernel
theorem w_00 : laRow gW 0 0 = [] := by unfold laRow; rw [w_fin]; unfold laN; rw [w_gs]; decide +kernel
theorem k_45 : laRow gK 4 5 = [true, false, false, false] := by unfold laRow; rw [k_fin]; unfold laN; rw [k_gs]; decide +kernel
theorem k_24 : laRow gK 2 4 = [true, true, false, false] := by unfold laRow; rw [k_fin]; unfold laN; rw [k_gs]; decide +kernel
theorem n_03 : laRow gN 0 3 = [true, false, true] := by unfold laRow; rw [n_fin]; unfold laN; rw [n_gs]; decide +kernel
theorem n_05 : laRow gN 0 5 = [] := by unfold laRow; rw [n_fin]; unfold laN; rw [n_gs]; decide +kernel

theorem laX_len {g : Gram} (h : lrE g = 0) : (laX g).length = (lrKs g).length := by rw [laX_ok h, XR_len]
theorem laX_row {g : Gram} (h : lrE g = 0) {i : Nat} (hi : i < (laX g).length) : (laX g)[i] = YR g i g.Prods.length := by
  have e := laX_ok h
  have : ∀ (X : List (List Bits)) (hi : i < X.length), X = XR g (lrKs g).length → X[i] = YR g i g.Prods.length := fun X hi e => by subst e; exact XR_get hi
  exact this _ hi e
theorem YR_get {g : Gram} {s k j : Nat} (h : j < (YR g s k).length) : (YR g s k)[j] = laRow g s j := by
  have h2 : j < ((List.range k).map fun j => laRow g s j).length := h
  show ((List.range k).map fun j => laRow g s j)[j] = _
  rw [List.getElem_map, List.getElem_range]

theorem laX_at {g : Gram} (h : lrE g = 0) {i j : Nat} (hi : i < (laX g).length) (hj : j < (laX g)[i].length) : (laX g)[i][j] = laRow g i j := by
  have e := laX_row h hi
  have : ∀ (R : List Bits) (hj : j < R.length), R = YR g i g.Prods.length → R[j] = laRow g i j := fun R hj e => by subst e; exact YR_get hj
  exact this _ hj e

end Go.Proofs.YtcbaebkkdkdaaaaDoor

namespace Go.Proofs.YtcbaebkkdkdaaaaDoor
set_option linter.all false
open Go.Proofs.YtcbaebkkdkdaaaaDoor.E

def encZ (x : Lev) : List Value := [.int .i64 x.N, .int .i64 x.Kind]

/-- The cells of productions whose right sides lie apart. -/
def prRow (ac : Option Addr × Nat) (p : Prd) : List Value := [.int .i64 p.Left, .slice ac.1 p.Right.length ac.2, .int .i64 p.L.N, .int .i64 p.L.Kind]
def prC (acs : List (Option Addr × Nat)) (ps : List Prd) : List Value := (List.zipWith prRow acs ps).flatten

theorem prC_snoc {acs : List (Option Addr × Nat)} {ps : List Prd} (hl : acs.length = ps.length) {ac : Option Addr × Nat} {p : Prd} : prC acs ps ++ prRow ac p = prC (acs ++ [ac]) (ps ++ [p]) := by
  unfold prC
  rw [List.zipWith_append hl]
  simp

abbrev prB (acs : List (Option Addr × Nat)) (ps : List Prd) : Asn := bun (rowX (fun l : List Int => l.map (Value.int .i64)) 1 3 acs (ps.map (·.Right)))
abbrev levZ (b : Nat) (l : List Lev) : Asn := osl 51 2 (sl b l.length) l.length (l.flatMap encZ)
abbrev prS (A : Option Addr) (c : Nat) (acs : List (Option Addr × Nat)) (ps : List Prd) : Asn := osl 53 4 (.slice A ps.length c) ps.length (prC acs ps)

/-- Numbers and lengths that fit. -/
structure PrOk (ps : List Prd) : Prop where
  n : ps.length ≤ 1000
  r : ∀ p ∈ ps, p.Right.length ≤ 1000 ∧ (∀ x ∈ p.Right, I64 x) ∧ I64 p.Left ∧ I64 p.L.N ∧ I64 p.L.Kind

theorem gram_rdP {g : Gram} {b0 b1 b2 : Nat} {A : Option Addr} {c : Nat} {acs : List (Option Addr × Nat)} {ps : List Prd} (hl : acs.length = ps.length) (m : Nat) (hm : m ≤ ps.length) (hg : g.Prods = ps.take m) (hP : g.Pats = [])
    (nT : g.Terms.length ≤ 1000) (nL : g.Levels.length ≤ 1000) (nN : g.Nons.length ≤ 1000) (hO : PrOk ps) (hlv : ∀ x ∈ g.Levels, x = ⟨0, 0⟩) {w : World} {S : BSet}
    (h : star [strs b0 g.Terms, levZ b1 g.Levels, strs b2 g.Nons, prS A c acs ps, prB acs ps] w S) :
    kGram.R w S [sl b0 g.Terms.length, sl b1 g.Levels.length, .slice none 0 0, sl b2 g.Nons.length, .slice A m c] g := by
  obtain ⟨_, h0, i0⟩ := star_mem (i := 0) rfl h
  obtain ⟨_, h1, i1⟩ := star_mem (i := 1) rfl h
  obtain ⟨_, h2, i2⟩ := star_mem (i := 2) rfl h
  obtain ⟨_, h3, i3⟩ := star_mem (i := 3) rfl h
  obtain ⟨_, h4, i4⟩ := star_mem (i := 4) rfl h
  have hml : g.Prods.length = m := by rw [hg, List.length_take]; omega
  have hpn := hO.n
  have z : I64 0 := by unfold I64; omega
  have hrow : Els kPrd w S A ps ∧ ps.length ≤ c := by
    refine osl_elsG (kd := kPrd) (ess := List.zipWith prRow acs ps) h3 i3 (by simp [hl]) rfl (fun i g1 g2 => ?_)
    rw [List.getElem_zipWith]
    have hi : i < (ps.map (·.Right)).length := by rw [List.length_map]; exact g2
    have hl2 : acs.length = (ps.map (·.Right)).length := by rw [List.length_map]; exact hl
    obtain ⟨S3, h5, i5⟩ := star_mem (rowX_get (f := fun l : List Int => l.map (Value.int .i64)) (sz := 1) (ei := 3) hl2 hi) h4
    obtain ⟨r1, r2, r3, r4, r5⟩ := hO.r _ (List.getElem_mem g2)
    have hri : (ps.map (·.Right))[i] = ps[i].Right := List.getElem_map _
    rw [hri] at h5
    obtain ⟨A', c', e, k1, k2, k3⟩ := can_to (R := (kslice 8 kint).rd _ _) Tryd.prog (fun E => can_ints .z r2 (by omega)) h5
    simp only [List.cons.injEq, Value.slice.injEq, and_true] at e
    refine kPrd_mk r3 r4 r5 ⟨?_, k2, els_mono (fun b hb => i4 b (i5 b hb)) ?_⟩
    · rw [e.2.2]; exact k1
    · rw [e.1]; exact k3
  have e4 : Sl 48 kPrd w S A c g.Prods := by
    refine ⟨by omega, by omega, fun i hi => ?_⟩
    have hi2 : i < ps.length := by omega
    have := hrow.1 i hi2
    have e : g.Prods[i] = ps[i] := by
      have : ∀ (l : List Prd) (hi : i < l.length), l = ps.take m → l[i] = ps[i] := fun l hi e => by subst e; rw [List.getElem_take]
      exact this _ hi hg
    rw [e]
    exact this
  have hr := kGram_mk (g := g) (A0 := some ⟨b0, 0, none⟩) (A1 := some ⟨b1, 0, none⟩) (A2 := none) (A3 := some ⟨b2, 0, none⟩) (A4 := A) (c0 := g.Terms.length) (c1 := g.Levels.length) (c2 := 0) (c3 := g.Nons.length) (c4 := c)
    ⟨sl_strs h0 i0 (by omega), ?_, by rw [hP]; exact els_nil, sl_strs h2 i2 (by omega), e4⟩
  · rw [hml, hP] at hr; exact hr
  · refine ⟨Nat.le_refl _, by omega, ?_⟩
    unfold levZ at h1
    rw [List.flatMap_def] at h1
    refine (osl_elsG (kd := kLev) (ess := g.Levels.map encZ) h1 i1 (by simp) rfl (fun i g1 g2 => ?_)).1
    rw [List.getElem_map, hlv _ (List.getElem_mem g2)]
    exact ⟨[.int .i64 0], [.int .i64 0], rfl, ⟨rfl, z⟩, ⟨rfl, z⟩⟩

theorem can_gramP {E0 : Go.Proofs.YtcbaebkkdkdaaaaDoor.E.Env} {U V : List Asn} {g : Gram} {b0 b1 b2 : Nat} {A : Option Addr} {c : Nat} {acs : List (Option Addr × Nat)} {ps : List Prd} (hl : acs.length = ps.length) (m : Nat) (hm : m ≤ ps.length) (hg : g.Prods = ps.take m) (hP : g.Pats = [])
    (nT : g.Terms.length ≤ 1000) (nL : g.Levels.length ≤ 1000) (nN : g.Nons.length ≤ 1000) (hO : PrOk ps) (hlv : ∀ x ∈ g.Levels, x = ⟨0, 0⟩)
    (he : Ent V ([strs b0 g.Terms, levZ b1 g.Levels, strs b2 g.Nons, prS A c acs ps, prB acs ps] ++ U)) : Go.Proofs.YtcbaebkkdkdaaaaDoor.E.Can E0 V (kGram.rd [sl b0 g.Terms.length, sl b1 g.Levels.length, .slice none 0 0, sl b2 g.Nons.length, .slice A m c] g) :=
  Can.of fun w S hs => by
    obtain ⟨S1, S2, h1, _, _, i1, _⟩ := star_split (he w S hs)
    exact kGram.mono i1 (gram_rdP hl m hm hg hP nT nL nN hO hlv h1)

end Go.Proofs.YtcbaebkkdkdaaaaDoor

namespace Go.Proofs.YtcbaebkkdkdaaaaDoor
set_option linter.all false
open Go.Proofs.YtcbaebkkdkdaaaaDoor.E

section rd
variable {E0 : Go.Proofs.YtcbaebkkdkdaaaaDoor.E.Env} {fr : Frm} {U U' : List Asn} {α : Type} {f : List α → List Value} {sz : Nat} {ei : TypeId} {acs : AcL} {rows : List (List α)}
abbrev Addrs (acs : AcL) (rows : List (List α)) : Prop := ∀ (i : Nat) (h1 : i < acs.length) (h2 : i < rows.length), 0 < rows[i].length → ∃ b, acs[i].1 = some ⟨b, 0, none⟩
theorem bun_addrs (hl : acs.length = rows.length) {w : World} {S : BSet} (h : (bun (rowX f sz ei acs rows)).P w S) : Addrs acs rows := fun i h1 h2 hp => by
  obtain ⟨S2, h3, _⟩ := star_mem (rowX_get (f := f) (sz := sz) (ei := ei) hl h2) h
  exact osl_form h3 hp
theorem e_addrs {K : Frm → List Asn → Prop} {k : List It} {ops : Array Oper} {l : List Oper} (ht : Tak (bun (rowX f sz ei acs rows)) U U') (hl : acs.length = rows.length) (h : Addrs acs rows → EVO E0 K k ops l fr U) : EVO E0 K k ops l fr U := by
  intro a w hf hme
  obtain ⟨S1, hP, _⟩ := hme.tak ht
  exact h (bun_addrs hl hP) a w hf hme
theorem s_addrs {K : Frm → List Asn → Prop} {k : List It} {c : Code} (ht : Tak (bun (rowX f sz ei acs rows)) U U') (hl : acs.length = rows.length) (h : Addrs acs rows → EVS E0 K (.code c :: k) fr U) : EVS E0 K (.code c :: k) fr U := by
  intro a w hf hme
  obtain ⟨S1, hP, _⟩ := hme.tak ht
  exact h (bun_addrs hl hP) a w hf hme
theorem n_load_row {t : TypeId} {x : Operand} {i : TI} {b o : Nat} {v : Value} (hx : val fr x = some (.pointer (some ⟨b, o, none⟩))) (ht : tl E0.T t = some i) (hU : Tak (bun (rowX f sz ei acs rows)) U U') (hl : acs.length = rows.length) (j : Nat) (hj : j < rows.length) (hb : (acs[j]'(hl ▸ hj)).1 = some ⟨b, 0, none⟩)
    (hv : loadL i (f rows[j]) o = some v) : NEV E0 (.load t x) fr U v := by
  intro a w dst ty pos af g hf hm
  obtain ⟨S1, hP, _⟩ := hm.tak hU
  obtain ⟨S2, h2, _⟩ := star_mem (rowX_get (f := f) (sz := sz) (ei := ei) hl hj) hP
  have h3 : (osl ei sz (.slice (some ⟨b, 0, none⟩) rows[j].length (acs[j]'(hl ▸ hj)).2) rows[j].length (f rows[j])).P w S2 := by rw [← hb]; exact h2
  simp [execOp, hf.eval hx, Instr.loadAt, Instr.sureAddr, run_loadVar ht (osl_cells h3) hv]
end rd

theorem innB_get {D : List AcL} {X : List (List Bits)} (hD : D.length = X.length) {i : Nat} (hi : i < X.length) : (innB D X)[i]? = some (bun (rowX cB 1 4 (D[i]'(hD ▸ hi)) X[i])) := by
  unfold innB
  rw [List.getElem?_zipWith, List.getElem?_eq_getElem (by omega), List.getElem?_eq_getElem hi]
theorem rowVs_get {D : List AcL} {X : List (List Bits)} (hD : D.length = X.length) {i : Nat} (h : i < (rowVs D X).length) (hi : i < X.length) : (rowVs D X)[i] = rowC (D[i]'(hD ▸ hi)) X[i] := by
  have h2 : i < (List.zipWith rowC D X).length := h
  show (List.zipWith rowC D X)[i] = _
  rw [List.getElem_zipWith]
theorem can_inn {E0 : Go.Proofs.YtcbaebkkdkdaaaaDoor.E.Env} {U U' : List Asn} {D : List AcL} {X : List (List Bits)} (ht : Tak (bun (innB D X)) U U') (hD : D.length = X.length) (i : Nat) (hi : i < X.length) (hl : (D[i]'(hD ▸ hi)).length = X[i].length) (j : Nat) (hj : j < X[i].length) (hb : X[i][j].length ≤ 1000) {n : Nat} (hn : n = X[i][j].length) :
    Go.Proofs.YtcbaebkkdkdaaaaDoor.E.Can E0 U ((kslice 1 kbool).rd [.slice ((D[i]'(hD ▸ hi))[j]'(hl ▸ hj)).1 n ((D[i]'(hD ▸ hi))[j]'(hl ▸ hj)).2] X[i][j]) := Can.of fun w S hs => by
  subst hn
  obtain ⟨S1, h1, i1⟩ := ht.mem hs
  obtain ⟨S2, h2, i2⟩ := star_mem (innB_get hD hi) h1
  obtain ⟨S3, h3, i3⟩ := star_mem (rowX_get (f := cB) (sz := 1) (ei := 4) hl hj) h2
  have h4 := can_to (R := (kslice 1 kbool).rd [.slice ((D[i]'(hD ▸ hi))[j]'(hl ▸ hj)).1 X[i][j].length ((D[i]'(hD ▸ hi))[j]'(hl ▸ hj)).2] X[i][j]) Tryd.prog (fun E => Can.osl Value.bool rfl kbool_enc .z (by omega)) h3
  exact (kslice 1 kbool).mono (fun b hb => i1 b (i2 b (i3 b hb))) h4

theorem x_load {acs : AcL} {D : List AcL} {X : List (List Bits)} (hal : acs.length = X.length) (hD : D.length = X.length) (hDr : ∀ (i : Nat) (h1 : i < D.length) (h2 : i < X.length), D[i].length = X[i].length) {i : Nat} (hi : i < X.length) {P b : Nat} (hP : X[i].length = P) (hb : (acs[i]'(hal ▸ hi)).1 = some ⟨b, 0, none⟩) {e : TypeId} {bytes : Nat} {z : List Value} :
    loadL ⟨.slice e, 1, bytes, z⟩ (rowC acs (rowVs D X)) (0 + i * 1) = some (.slice (some ⟨b, 0, none⟩) P (acs[i]'(hal ▸ hi)).2) := by
  have hv : (rowVs D X).length = X.length := rowVs_len hD
  have h := rowC_load (acs := acs) (rows := rowVs D X) (by rw [hv]; exact hal) (i := i) (by rw [hv]; exact hi) (e := e) (bytes := bytes) (z := z)
  rw [h, hb, rowVs_get hD (by rw [hv]; exact hi) hi, rowC_len0 (hDr i (hD ▸ hi) hi), hP]
theorem x_addr {acs : AcL} {D : List AcL} {X : List (List Bits)} (hal : acs.length = X.length) (hD : D.length = X.length) (hDr : ∀ (i : Nat) (h1 : i < D.length) (h2 : i < X.length), D[i].length = X[i].length) (hA : Addrs acs (rowVs D X)) {i : Nat} (hi : i < X.length) (hP : 0 < X[i].length) : ∃ b, (acs[i]'(hal ▸ hi)).1 = some ⟨b, 0, none⟩ := by
  have hv : (rowVs D X).length = X.length := rowVs_len hD
  refine hA i (hal ▸ hi) (by rw [hv]; exact hi) ?_
  rw [rowVs_get hD (by rw [hv]; exact hi) hi, rowC_len0 (hDr i (hD ▸ hi) hi)]; exact hP
/-- A slice of terms, out of the answer. -/
theorem n_xcell {E0 : Go.Proofs.YtcbaebkkdkdaaaaDoor.E.Env} {fr : Frm} {U U' : List Asn} {acs : AcL} {D : List AcL} {X : List (List Bits)} {t e : TypeId} {x : Operand} {bytes : Nat} {z : List Value} {b o : Nat} (hx : val fr x = some (.pointer (some ⟨b, o, none⟩))) (ht : tl E0.T t = some ⟨.slice e, 1, bytes, z⟩) (hU : Tak (rowO acs D X) U U') (hal : acs.length = X.length) (hD : D.length = X.length)
    (hDr : ∀ (i : Nat) (h1 : i < D.length) (h2 : i < X.length), D[i].length = X[i].length) {i : Nat} (hi : i < X.length) (hb : (acs[i]'(hal ▸ hi)).1 = some ⟨b, 0, none⟩) {j : Nat} (hj : j < X[i].length) (ho : o = 0 + j * 1) {n : Nat} (hn : X[i][j].length = n) :
    NEV E0 (.load t x) fr U (.slice ((D[i]'(hD ▸ hi))[j]'((hDr i (hD ▸ hi) hi) ▸ hj)).1 n ((D[i]'(hD ▸ hi))[j]'((hDr i (hD ▸ hi) hi) ▸ hj)).2) := by
  have hv : (rowVs D X).length = X.length := rowVs_len hD
  refine n_load_row hx ht hU (by rw [hv]; exact hal) i (by rw [hv]; exact hi) hb ?_
  rw [rowVs_get hD (by rw [hv]; exact hi) hi, ho, rowC_load (hDr i (hD ▸ hi) hi) hj, hn]

def gwA (b3 b5 b7 : Nat) : List (Option Addr × Nat) := [(some ⟨b3, 0, none⟩, 1), (some ⟨b5, 0, none⟩, 2), (some ⟨b7, 0, none⟩, 3), (none, 0)]
def gwM : List Mk := [
  ⟨8, [0], fun l => sl (l.getD 0 0) 3, fun l => [strs (l.getD 0 0) gW.Terms]⟩,
  ⟨9, [1], fun l => sl (l.getD 0 0) 3, fun l => [levZ (l.getD 0 0) gW.Levels]⟩,
  ⟨10, [2], fun l => sl (l.getD 0 0) 3, fun l => [strs (l.getD 0 0) gW.Nons]⟩,
  ⟨11, [3], fun l => sl (l.getD 0 0) 1, fun l => [ints (l.getD 0 0) [4]]⟩,
  ⟨12, [3], fun l => pv 0 (sl (l.getD 0 0) 1), fun _ => []⟩,
  ⟨13, [5], fun l => sl (l.getD 0 0) 2, fun l => [ints (l.getD 0 0) [5, 1]]⟩,
  ⟨14, [5], fun l => pv 1 (sl (l.getD 0 0) 2), fun _ => []⟩,
  ⟨15, [7], fun l => sl (l.getD 0 0) 3, fun l => [ints (l.getD 0 0) [2, 5, 2]]⟩,
  ⟨16, [7], fun l => pv 1 (sl (l.getD 0 0) 3), fun _ => []⟩,
  ⟨17, [], fun l => pv 2 (.slice none 0 0), fun _ => []⟩,
  ⟨18, [10, 3, 5, 7], fun l => sl (l.getD 0 0) 4, fun l => [prS (some ⟨l.getD 0 0, 0, none⟩) 4 (gwA (l.getD 1 0) (l.getD 2 0) (l.getD 3 0)) gW.Prods]⟩,
  ⟨19, [0, 1, 2, 10], fun l => .agg #[sl (l.getD 0 0) 3, sl (l.getD 1 0) 3, .slice none 0 0, sl (l.getD 2 0) 3, sl (l.getD 3 0) 4], fun _ => []⟩,
  ⟨1, [12], fun l => .pointer (some ⟨l.getD 0 0, 0, none⟩), fun l => [blk (l.getD 0 0) 27 [.slice none 0 0, .slice none 0 0, .slice none 0 0, .slice none 0 0, .slice none 0 0]]⟩]

theorem prOk_of {ps : List Prd} (hn : ps.length ≤ 1000) (h : (ps.all fun p => decide (p.Right.length ≤ 1000) && (p.Right.all fun x => decide (-9223372036854775808 ≤ x) && decide (x ≤ 9223372036854775807)) && decide (-9223372036854775808 ≤ p.Left) && decide (p.Left ≤ 9223372036854775807) && decide (p.L.N = 0) && decide (p.L.Kind = 0)) = true) : PrOk ps := ⟨hn, by
  intro p hp
  have h := List.all_eq_true.1 h p hp
  simp only [Bool.and_eq_true, decide_eq_true_eq, List.all_eq_true] at h
  obtain ⟨⟨⟨⟨⟨h1, h2⟩, h3⟩, h4⟩, h5⟩, h6⟩ := h
  exact ⟨h1, fun x hx => h2 x hx, ⟨h3, h4⟩, by rw [h5]; exact ⟨by decide, by decide⟩, by rw [h6]; exact ⟨by decide, by decide⟩⟩⟩
theorem gw_ok : PrOk gW.Prods := prOk_of (by decide) (by decide +kernel)

attribute [local irreducible] EVX EVO EVL EV1 NEV
attribute [local irreducible] own osl exA rdA rdL
attribute [local irreducible] bldA mapA bun mapS
set_option maxRecDepth 10000
set_option maxHeartbeats 4000000

theorem works20_w : Trip Tryd.prog 30 [] Rd.tt [] (fun v V => v = .bool true ∧ V = []) := by
  refine trip Tryd.tabOk Tryd.func30 rfl rfl rfl rfl ?_
  rintro w SM hW
  clear hW
  repeat' (first | refine e_nil ?_ | ((refine e_op ?_); (refine o_n (peval_sound rfl) rfl ?_)) | refine s_seq ?_ | refine s_region ?_)
  refine s_mk gwM Tryd.mixed (by kernel_rfl) ?_ rfl ?_
  · intro i hi
    match i, hi with
    | 0, _ => exact mk_step [] rfl rfl rfl (by decide +kernel) (fun B U => o_makeS rfl rfl rfl rfl 3 rfl rfl (by decide) (by decide) rfl rfl (fun b => ⟨b, rfl, Ent.refl _⟩))
    | 1, _ => exact mk_step [] rfl rfl rfl (by decide +kernel) (fun B U => o_makeS rfl rfl rfl rfl 3 rfl rfl (by decide) (by decide) rfl rfl (fun b => ⟨b, rfl, Ent.refl _⟩))
    | 2, _ => exact mk_step [] rfl rfl rfl (by decide +kernel) (fun B U => o_makeS rfl rfl rfl rfl 3 rfl rfl (by decide) (by decide) rfl rfl (fun b => ⟨b, rfl, Ent.refl _⟩))
    | 3, _ => exact mk_step [] rfl rfl rfl (by decide +kernel) (fun B U => o_lit rfl rfl rfl rfl rfl rfl rfl (fun b => ⟨b, rfl, Ent.refl _⟩))
    | 4, _ => exact mk_step [3] rfl rfl rfl (by decide +kernel) (fun B U => o_call (p20_w _ _ _ _) rfl .nil Can.tt rfl (by rintro v V ⟨rfl, rfl⟩; exact ⟨0, rfl, Ent.refl _⟩))
    | 5, _ => exact mk_step [] rfl rfl rfl (by decide +kernel) (fun B U => o_lit rfl rfl rfl rfl rfl rfl rfl (fun b => ⟨b, rfl, Ent.refl _⟩))
    | 6, _ => exact mk_step [5] rfl rfl rfl (by decide +kernel) (fun B U => o_call (p20_w _ _ _ _) rfl .nil Can.tt rfl (by rintro v V ⟨rfl, rfl⟩; exact ⟨0, rfl, Ent.refl _⟩))
    | 7, _ => exact mk_step [] rfl rfl rfl (by decide +kernel) (fun B U => o_lit rfl rfl rfl rfl rfl rfl rfl (fun b => ⟨b, rfl, Ent.refl _⟩))
    | 8, _ => exact mk_step [7] rfl rfl rfl (by decide +kernel) (fun B U => o_call (p20_w _ _ _ _) rfl .nil Can.tt rfl (by rintro v V ⟨rfl, rfl⟩; exact ⟨0, rfl, Ent.refl _⟩))
    | 9, _ => exact mk_step [] rfl rfl rfl (by decide +kernel) (fun B U => o_call (p20_w _ _ _ _) rfl .nil Can.tt rfl (by rintro v V ⟨rfl, rfl⟩; exact ⟨0, rfl, Ent.refl _⟩))
    | 10, _ => exact mk_step [4, 6, 8, 9] rfl rfl rfl (by decide +kernel) (fun B U => o_lit (ps := [(0, pv 0 (sl (B 3) 1)), (1, pv 1 (sl (B 5) 2)), (2, pv 1 (sl (B 7) 3)), (3, pv 2 (.slice none 0 0))]) (cs := prC (gwA (B 3) (B 5) (B 7)) gW.Prods) rfl rfl (by kernel_rfl) rfl rfl (by kernel_rfl) rfl (fun b => ⟨b, rfl, Ent.refl _⟩))
    | 11, _ => exact mk_step [0, 1, 2, 10] rfl rfl rfl (by decide +kernel) (fun B U => o_n (peval_sound rfl) rfl ⟨0, rfl, Ent.refl _⟩)
    | 12, _ => exact mk_step [] rfl rfl rfl (by decide +kernel) (fun B U => o_alloc rfl rfl (fun b => ⟨b, rfl, Ent.refl _⟩))
    | n + 13, h => exact absurd h (by simp [gwM])
  · intro B
    refine o_store (b := B 12) (o := 0) (vs := [sl (B 0) 3, sl (B 1) 3, .slice none 0 0, sl (B 2) 3, sl (B 10) 4]) rfl rfl rfl rfl rfl rfl rfl (.s (.s (.s (.s (.s (.s (.s (.z)))))))) ?_
    refine s_weak (fr' := [(1, .pointer (some ⟨B 12, 0, none⟩))]) (V := [blk (B 12) 27 [sl (B 0) 3, sl (B 1) 3, .slice none 0 0, sl (B 2) 3, sl (B 10) 4], strs (B 0) gW.Terms, levZ (B 1) gW.Levels, strs (B 2) gW.Nons, prS (some ⟨B 10, 0, none⟩) 4 (gwA (B 3) (B 5) (B 7)) gW.Prods, prB (gwA (B 3) (B 5) (B 7)) gW.Prods]) ?_ ?_ ?_
    · repeat' (first | exact Sub.nil _ | refine Sub.cons rfl ?_)
    · refine Ent.tak (.s (.s (.s (.s (.s (.s (.s (.z)))))))) (Ent.cons (Ent.cons (Ent.cons ?_)))
      refine Ent.tak (.s (.s (.s (.z)))) ?_
      exact Ent.trans (Ent.cons (Ent.cons (Ent.cons (Ent.osl0 (Ent.refl _))))) (ent_bun (L := [_, _, _, _]))
    generalize B 0 = b0, B 1 = b1, B 2 = b2, B 10 = bp, B 12 = bg
    obtain ⟨pacs, hpacs⟩ : ∃ a, a = (gwA (B 3) (B 5) (B 7)) := ⟨_, rfl⟩
    have hlpacs : pacs.length = gW.Prods.length := by rw [hpacs]; rfl
    rw [← hpacs]
    clear hpacs B
    have hcan : ∀ {E0 : Go.Proofs.YtcbaebkkdkdaaaaDoor.E.Env} {U : List Asn}, Go.Proofs.YtcbaebkkdkdaaaaDoor.E.Can E0 ([blk (bg) 27 [sl (b0) 3, sl (b1) 3, .slice none 0 0, sl (b2) 3, sl (bp) 4], strs (b0) gW.Terms, levZ (b1) gW.Levels, strs (b2) gW.Nons, prS (some ⟨bp, 0, none⟩) 4 pacs gW.Prods, prB pacs gW.Prods] ++ U) (kGram.rd [sl b0 3, sl b1 3, .slice none 0 0, sl b2 3, sl bp 4] gW) :=
      can_gramP hlpacs 4 (by decide) rfl rfl (by decide) (by decide) (by decide) gw_ok (fun x hx => List.eq_of_mem_replicate hx) (Ent.wk (Ent.refl _))
    repeat' (first | ((refine e_op ?_); (refine o_n (nl rfl rfl tc rfl) rfl ?_)) | refine s_seq ?_ | refine s_region ?_)
    refine e_op (o_call (aheadOf_w [sl b0 3, sl b1 3, .slice none 0 0, sl b2 3, sl bp 4] gW (fun _ => by decide)) rfl .nil (hcan (U := [])) rfl ?_)
    rintro v V ⟨AX, n, cX, acs, D, rfl, hn, hal, hD, hDr, rfl⟩
    have hX7 : (laX gW).length = 7 := by rw [laX_len w_lrE, w_len]
    have hP4 : ∀ (i : Nat) (hi : i < (laX gW).length), (laX gW)[i].length = 4 := fun i hi => by rw [laX_row w_lrE hi, YR_len]; rfl
    rw [hX7] at hn
    subst hn
    rw [w_lrE]
    simp only [List.cons_append, List.nil_append]
    repeat' (first | refine e_nil ?_ | ((refine e_op ?_); (first | refine o_n (peval_sound rfl) rfl ?_ | refine o_n (nl rfl rfl tc rfl) rfl ?_)) | refine s_seq ?_ | refine s_region ?_)
    refine e_op (o_call (ofP_w [sl b0 3, sl b1 3, .slice none 0 0, sl b2 3, sl bp 4] gW (fun _ => by decide)) rfl .nil (Can.byEnt (hcan (U := [])) (Ent.wk (Ent.wk (Ent.wk (Ent.refl _))))) rfl ?_)
    rintro v V ⟨x, rfl, AK, cK, kcs, AG, cG, bcs, hl, hb, rfl, rfl⟩
    rw [w_lrE, w_len]
    have hgl : (lrGs gW).length = 7 := by rw [w_gs]; rfl
    rw [hgl]
    simp only [List.cons_append, List.nil_append]
    repeat' (first | refine e_nil ?_ | ((first | refine e_op ?_ | refine e_yes rfl ?_); (first | refine o_n (peval_sound rfl) rfl ?_ | refine o_n (nl rfl rfl tc rfl) rfl ?_ | refine o_storeC rfl rfl rfl rfl tc uc rfl rfl rfl ?_ | refine o_alloc rfl rfl (fun _ => ?_))) | refine s_seq ?_ | refine s_region ?_ | refine s_skip ?_ | refine s_false rfl ?_)
    rename_i bl
    refine e_open (.s (.s (.s .z))) (by decide) ?_
    rintro bG rfl
    refine e_addrs (.s (.s (.s (.s .z)))) hb (fun hGA => ?_)
    have hg0 : 0 < (lrGs gW).length := by rw [hgl]; decide
    have hgr : (lrGs gW)[0] = [-1, -1, 1, -1, 2, 3] := by simp only [w_gs]; rfl
    obtain ⟨bg0, hbg0⟩ := hGA 0 (by rw [hb]; exact hg0) hg0 (by rw [hgr]; decide)
    have hld := rowC_load hb hg0 (e := 3) (bytes := 24) (z := [.slice none 0 0])
    rw [hbg0, hgr] at hld
    refine e_op (o_n (n_index rfl rfl rfl rfl 0 rfl (by decide)) rfl ?_)
    refine e_op (o_n (n_load_osl rfl rfl (.s (.s (.s .z))) hld) rfl ?_)
    refine e_op (o_n (n_index rfl rfl rfl rfl 2 rfl (by decide)) rfl ?_)
    refine e_op (o_n (n_load_row (v := .int .i64 1) rfl rfl (.s (.s (.s (.s .z)))) hb 0 hg0 hbg0 (by rw [hgr]; rfl)) rfl ?_)
    repeat' (first | refine e_nil ?_ | ((refine e_op ?_); (first | refine o_n (peval_sound rfl) rfl ?_ | refine o_n (nl rfl rfl tc rfl) rfl ?_)) | refine s_seq ?_ | refine s_region ?_)
    refine e_op (o_n (n_index rfl rfl rfl rfl 0 rfl (by decide)) rfl ?_)
    refine e_op (o_n (n_load_osl rfl rfl (.s (.s (.s .z))) hld) rfl ?_)
    refine e_op (o_n (n_index rfl rfl rfl rfl 4 rfl (by decide)) rfl ?_)
    refine e_op (o_n (n_load_row (v := .int .i64 2) rfl rfl (.s (.s (.s (.s .z)))) hb 0 hg0 hbg0 (by rw [hgr]; rfl)) rfl ?_)
    repeat' (((refine e_op ?_); (refine o_n (peval_sound rfl) rfl ?_)))
    refine e_nil ?_
    refine s_weak (fr' := [(7, .int .i64 2), (6, .int .i64 1), (2, .slice AX 7 cX)]) (V := [osl 69 1 (.slice AX 7 cX) 7 (rowC acs (rowVs D (laX gW))), rowO acs D (laX gW), bun (innB D (laX gW))]) ?_ (Ent.wk (Ent.wk (Ent.wk (Ent.wk (Ent.wk (Ent.cons (Ent.cons (Ent.cons (Ent.nil _))))))))) ?_
    · repeat' (first | exact Sub.nil _ | refine Sub.cons rfl ?_)
    clear hcan hlpacs hgl hg0 hgr hld hbg0 hGA hl hb
    refine s_open .z (by decide) ?_
    rintro bX rfl
    refine s_addrs (.s .z) (by rw [rowVs_len hD]; exact hal) (fun hXA => ?_)
    have hx0 : 0 < (laX gW).length := by rw [hX7]; decide
    have hx1 : 1 < (laX gW).length := by rw [hX7]; decide
    have hx2 : 2 < (laX gW).length := by rw [hX7]; decide
    obtain ⟨r0, hr0⟩ := x_addr hal hD hDr hXA hx0 (by rw [hP4]; decide)
    obtain ⟨r1, hr1⟩ := x_addr hal hD hDr hXA hx1 (by rw [hP4]; decide)
    obtain ⟨r2, hr2⟩ := x_addr hal hD hDr hXA hx2 (by rw [hP4]; decide)
    repeat' (first | ((first | refine e_op ?_ | refine e_yes rfl ?_); (refine o_n (peval_sound rfl) rfl ?_)) | refine s_seq ?_ | refine s_region ?_)
    refine e_yes rfl (o_n (n_index rfl rfl rfl rfl 0 rfl (show 0 < 7 by decide)) rfl ?_)
    refine e_yes rfl (o_n (n_load_osl rfl rfl .z (x_load hal hD hDr hx0 (hP4 0 hx0) hr0)) rfl ?_)
    repeat' (((first | refine e_op ?_ | refine e_yes rfl ?_); (refine o_n (peval_sound rfl) rfl ?_)))
    refine e_yes rfl (o_n (n_index rfl rfl rfl rfl 1 rfl (show 1 < 7 by decide)) rfl ?_)
    refine e_yes rfl (o_n (n_load_osl rfl rfl .z (x_load hal hD hDr hx1 (hP4 1 hx1) hr1)) rfl ?_)
    repeat' (((first | refine e_op ?_ | refine e_yes rfl ?_); (refine o_n (peval_sound rfl) rfl ?_)))
    refine e_yes rfl (o_n (n_index rfl rfl rfl rfl 2 rfl (show 2 < 7 by decide)) rfl ?_)
    refine e_yes rfl (o_n (n_load_osl rfl rfl .z (x_load hal hD hDr hx2 (hP4 2 hx2) hr2)) rfl ?_)
    repeat' (first | refine e_nil ?_ | ((first | refine e_op ?_ | refine e_yes rfl ?_); (refine o_n (peval_sound rfl) rfl ?_)) | refine s_seq ?_ | refine s_region ?_ | refine s_skip ?_ | refine s_false rfl ?_)
    refine e_op (o_n (n_index rfl rfl rfl rfl 0 rfl (show 0 < 7 by decide)) rfl ?_)
    refine e_op (o_n (n_load_osl rfl rfl .z (x_load hal hD hDr hx0 (hP4 0 hx0) hr0)) rfl ?_)
    refine e_op (o_n (n_index rfl rfl rfl rfl 3 rfl (by decide)) rfl ?_)
    have hj03 : 3 < (laX gW)[0].length := by rw [hP4]; decide
    have hv03 := laX_at w_lrE hx0 hj03
    rw [w_03] at hv03
    refine e_op (o_n (n_xcell rfl rfl (.s .z) hal hD hDr hx0 hr0 hj03 rfl (n := 3) (by rw [hv03]; rfl)) rfl ?_)
    refine e_op (o_call (letters_w _ _ _ (laX gW)[0][3] (by rw [hv03]; rfl) (by rw [hv03]; decide)) rfl .nil (can_inn (.s (.s .z)) hD 0 hx0 (hDr _ _ _) 3 hj03 (by rw [hv03]; decide) (by rw [hv03]; rfl)) rfl ?_)
    rintro v V ⟨rfl, rfl⟩
    rw [hv03, show letS [false, true, false] [false, true, false].length = ⟨#[97]⟩ from by decide +kernel]
    simp only [List.nil_append]
    repeat' (((refine e_op ?_); (refine o_n (peval_sound rfl) rfl ?_)))
    simp only [beq_self_eq_true]
    repeat' (((refine e_yes rfl ?_); (refine o_n (peval_sound rfl) rfl ?_)))
    refine e_yes rfl (o_n (n_index rfl rfl rfl rfl 1 rfl (show 1 < 7 by decide)) rfl ?_)
    refine e_yes rfl (o_n (n_load_osl rfl rfl .z (x_load hal hD hDr hx1 (hP4 1 hx1) hr1)) rfl ?_)
    refine e_yes rfl (o_n (n_index rfl rfl rfl rfl 3 rfl (by decide)) rfl ?_)
    have hj13 : 3 < (laX gW)[1].length := by rw [hP4]; decide
    have hv13 := laX_at w_lrE hx1 hj13
    rw [w_13] at hv13
    refine e_yes rfl (o_n (n_xcell rfl rfl (.s .z) hal hD hDr hx1 hr1 hj13 rfl (n := 3) (by rw [hv13]; rfl)) rfl ?_)
    refine e_yes rfl (o_call (letters_w _ _ _ (laX gW)[1][3] (by rw [hv13]; rfl) (by rw [hv13]; decide)) rfl .nil (can_inn (.s (.s .z)) hD 1 hx1 (hDr _ _ _) 3 hj13 (by rw [hv13]; decide) (by rw [hv13]; rfl)) rfl ?_)
    rintro v V ⟨rfl, rfl⟩
    rw [hv13, show letS [false, false, true] [false, false, true].length = ⟨#[98]⟩ from by decide +kernel]
    simp only [List.nil_append]
    repeat' (((first | refine e_op ?_ | refine e_yes rfl ?_); (refine o_n (peval_sound rfl) rfl ?_)))
    simp only [beq_self_eq_true]
    repeat' (((refine e_yes rfl ?_); (refine o_n (peval_sound rfl) rfl ?_)))
    refine e_yes rfl (o_n (n_index rfl rfl rfl rfl 2 rfl (show 2 < 7 by decide)) rfl ?_)
    refine e_yes rfl (o_n (n_load_osl rfl rfl .z (x_load hal hD hDr hx2 (hP4 2 hx2) hr2)) rfl ?_)
    refine e_yes rfl (o_n (n_index rfl rfl rfl rfl 0 rfl (by decide)) rfl ?_)
    have hj20 : 0 < (laX gW)[2].length := by rw [hP4]; decide
    have hv20 := laX_at w_lrE hx2 hj20
    rw [w_20] at hv20
    refine e_yes rfl (o_n (n_xcell rfl rfl (.s .z) hal hD hDr hx2 hr2 hj20 rfl (n := 3) (by rw [hv20]; rfl)) rfl ?_)
    refine e_yes rfl (o_call (letters_w _ _ _ (laX gW)[2][0] (by rw [hv20]; rfl) (by rw [hv20]; decide)) rfl .nil (can_inn (.s (.s .z)) hD 2 hx2 (hDr _ _ _) 0 hj20 (by rw [hv20]; decide) (by rw [hv20]; rfl)) rfl ?_)
    rintro v V ⟨rfl, rfl⟩
    rw [hv20, show letS [true, false, false] [true, false, false].length = ⟨#[95]⟩ from by decide +kernel]
    simp only [List.nil_append]
    repeat' (((first | refine e_op ?_ | refine e_yes rfl ?_); (refine o_n (peval_sound rfl) rfl ?_)))
    simp only [beq_self_eq_true]
    repeat' (((refine e_yes rfl ?_); (refine o_n (peval_sound rfl) rfl ?_)))
    refine e_yes rfl (o_n (n_index rfl rfl rfl rfl 0 rfl (show 0 < 7 by decide)) rfl ?_)
    refine e_yes rfl (o_n (n_load_osl rfl rfl .z (x_load hal hD hDr hx0 (hP4 0 hx0) hr0)) rfl ?_)
    refine e_yes rfl (o_n (n_index rfl rfl rfl rfl 0 rfl (by decide)) rfl ?_)
    have hj00 : 0 < (laX gW)[0].length := by rw [hP4]; decide
    have hv00 := laX_at w_lrE hx0 hj00
    rw [w_00] at hv00
    refine e_yes rfl (o_n (n_xcell rfl rfl (.s .z) hal hD hDr hx0 hr0 hj00 rfl (n := 0) (by rw [hv00]; rfl)) rfl ?_)
    repeat' (first | refine e_nil ?_ | ((first | refine e_op ?_ | refine e_yes rfl ?_); (refine o_n (peval_sound rfl) rfl ?_)))
    refine s_ret ⟨_, _, res1 rfl rfl, ⟨rfl, rfl⟩, Ent.nil _⟩

end Go.Proofs.YtcbaebkkdkdaaaaDoor

namespace Go.Proofs.YtcbaebkkdkdaaaaDoor
set_option linter.all false
open Go.Proofs.YtcbaebkkdkdaaaaDoor.E

def sumsG : Gram := ⟨List.replicate 6 (⟨#[]⟩ : ByteArray), List.replicate 6 ⟨0, 0⟩, [], List.replicate 4 (⟨#[]⟩ : ByteArray), [⟨0, [7], ⟨0, 0⟩⟩, ⟨1, [7, 2, 8], ⟨0, 0⟩⟩, ⟨1, [8], ⟨0, 0⟩⟩, ⟨2, [8, 3, 9], ⟨0, 0⟩⟩, ⟨2, [9], ⟨0, 0⟩⟩, ⟨3, [4, 7, 5], ⟨0, 0⟩⟩, ⟨3, [1], ⟨0, 0⟩⟩]⟩
def noneG : Gram := ⟨[], [], [], [], []⟩

set_option maxRecDepth 100000
theorem sums_check : checkE sumsG = 0 := by decide +kernel
theorem sums_lrE : lrE sumsG = 0 := by decide +kernel
theorem sums_len : (lrKs sumsG).length = 12 := by decide +kernel
theorem none_lrE : lrE noneG = 2 := by decide +kernel
theorem sums_c1 : closeE sumsG [⟨7, 0⟩] = 9 := by decide +kernel
theorem sums_c2 : closeE sumsG [⟨-1, 0⟩] = 9 := by decide +kernel
theorem sums_c3 : closeE sumsG [⟨1, 4⟩] = 9 := by decide +kernel
theorem sums_c4 : closeE sumsG [⟨1, -1⟩] = 9 := by decide +kernel
theorem sums_c5 : closeE sumsG (List.replicate 2001 ⟨0, 0⟩) = 5 := by decide +kernel
theorem sums_c6 : closeE sumsG (List.replicate 2000 ⟨0, 0⟩) = 0 := by decide +kernel
theorem sums_c7 : closeE sumsG [] = 0 := by decide +kernel
theorem sums_l6 : (closeL sumsG (List.replicate 2000 ⟨0, 0⟩)).length = 7 := by decide +kernel
theorem sums_l7 : closeL sumsG [] = [] := by decide +kernel

end Go.Proofs.YtcbaebkkdkdaaaaDoor

namespace Go.Proofs.YtcbaebkkdkdaaaaDoor
set_option linter.all false
open Go.Proofs.YtcbaebkkdkdaaaaDoor.E

theorem op3 : Opn Tryd.prog 3 kint := op_int Tryd.underlying3
theorem op9 : Opn Tryd.prog 9 kstr := op_str Tryd.underlying9
theorem op24 : Opn Tryd.prog 44 (kslice 8 kint) := op_slice Tryd.underlying44 (by kernel_rfl) (by kernel_rfl) (by decide) op3
theorem op39 : Opn Tryd.prog 22 (kslice 16 kstr) := op_slice Tryd.underlying22 (by kernel_rfl) (by kernel_rfl) (by decide) op9
theorem op65 : Opn Tryd.prog 51 kLev := op_iso (fun y => ⟨⟨y.1, y.2⟩, rfl⟩) (op_struct Tryd.underlying51 (by kernel_rfl) (ops_cons (by kernel_rfl) op3 rfl (ops_one (by kernel_rfl) op3)))
theorem op40 : Opn Tryd.prog 23 (kslice 16 kLev) := op_slice Tryd.underlying23 (by kernel_rfl) (by kernel_rfl) (by decide) op65
theorem op146 : Opn Tryd.prog 201 kPt := op_iso (fun y => ⟨⟨y.1, y.2⟩, rfl⟩) (op_struct Tryd.underlying201 (by kernel_rfl) (ops_cons (by kernel_rfl) op3 rfl (ops_one (by kernel_rfl) op9)))
theorem op41 : Opn Tryd.prog 24 (kslice 24 kPt) := op_slice Tryd.underlying24 (by kernel_rfl) (by kernel_rfl) (by decide) op146
theorem op67 : Opn Tryd.prog 53 kPrd := op_iso (fun y => ⟨⟨y.1, y.2.1, y.2.2⟩, rfl⟩) (op_struct Tryd.underlying53 (by kernel_rfl) (ops_cons (by kernel_rfl) op3 rfl (ops_cons (by kernel_rfl) op24 rfl (ops_one (by kernel_rfl) op65))))
theorem op42 : Opn Tryd.prog 25 (kslice 48 kPrd) := op_slice Tryd.underlying25 (by kernel_rfl) (by kernel_rfl) (by decide) op67
theorem op44 : Opn Tryd.prog 27 kGram := op_iso (fun y => ⟨⟨y.1, y.2.1, y.2.2.1, y.2.2.2.1, y.2.2.2.2⟩, rfl⟩) (op_struct Tryd.underlying27 (by kernel_rfl)
  (ops_cons (by kernel_rfl) op39 rfl (ops_cons (by kernel_rfl) op40 rfl (ops_cons (by kernel_rfl) op41 rfl (ops_cons (by kernel_rfl) op39 rfl (ops_one (by kernel_rfl) op42))))))

theorem Tryd.laidOut : laidOutB Tryd.prog = true := by kernel_rfl
theorem Tryd.own : ownKnob Tryd.prog.godebug = none := by kernel_rfl

end Go.Proofs.YtcbaebkkdkdaaaaDoor

namespace Go.Proofs.YtcbaebkkdkdaaaaDoor
set_option linter.all false
open Go.Proofs.YtcbaebkkdkdaaaaDoor.E

theorem opI42 : Opn Tryd.prog 42 kItm := op_iso (fun y => ⟨⟨y.1, y.2⟩, rfl⟩) (op_struct Tryd.underlying42 (by kernel_rfl) (ops_cons (by kernel_rfl) op3 rfl (ops_one (by kernel_rfl) op3)))
theorem opI43 : Opn Tryd.prog 43 (kslice 16 kItm) := op_slice Tryd.underlying43 (by kernel_rfl) (by kernel_rfl) (by decide) opI42

end Go.Proofs.YtcbaebkkdkdaaaaDoor

namespace Go.Proofs.YtcbaebkkdkdaaaaDoor
set_option linter.all false
open Go.Proofs.YtcbaebkkdkdaaaaDoor.E

theorem round_inv {g : Gram} {KS : List (List Itm)} {GS : List (List Int)} (hF : GoF g KS GS) {st : Stt} (hi : GInv g KS st) {p : Plc} (hp : st.td.getLast? = some p) :
    GInv g KS (roundG g GS (restB g) (restN g) st p) ∧ meas (univ g KS) (roundG g GS (restB g) (restN g) st p) + 1 ≤ meas (univ g KS) st := by
  obtain ⟨ys, hys⟩ := List.getLast?_eq_some_iff.1 hp
  have hmem : p ∈ st.td := by rw [hys]; simp
  have hne : st.td ≠ [] := fun e => by rw [e] at hmem; cases hmem
  have hm := meas_pop (u := univ g KS) hne
  have hip := hi.pop
  have hvp := hi.vp p (hi.ok.td p hmem)
  unfold roundG
  split
  · exact ⟨hip, by omega⟩
  · rename_i hd
    obtain ⟨_, _, _, _, _, _, _, hvn⟩ := hvp.next hF hd
    have h1 := hip.add hvn (getB st.ks st.bs p)
    have h2 := meas_add hip.ok hvn.mem (getB st.ks st.bs p)
    split
    · exact ⟨h1, by omega⟩
    · obtain ⟨h3, h4⟩ := prodsAdd_inv hF hvp (comb (restB g p.x) (getB st.ks st.bs p) (restN g p.x)) h1 g.Prods.length (Nat.le_refl _)
      exact ⟨h3, by omega⟩

theorem step_end {g : Gram} {KS : List (List Itm)} {GS : List (List Int)} (hF : GoF g KS GS) : ∀ (m : Nat) {st : Stt}, GInv g KS st → meas (univ g KS) st ≤ m → (stepN g GS (restB g) (restN g) m st).td = []
  | 0, st, _, h => by
    have : st.td.length = 0 := by unfold meas at h; omega
    exact List.eq_nil_of_length_eq_zero this
  | m + 1, st, hi, h => by
    show (stepN g GS (restB g) (restN g) m (stepG g GS (restB g) (restN g) st)).td = []
    unfold stepG
    cases hl : st.td.getLast? with
    | none =>
      have : st.td = [] := List.getLast?_eq_none_iff.1 hl
      exact (by rw [stepN_done this]; exact this)
    | some p =>
      obtain ⟨h1, h2⟩ := round_inv hF hi hl
      show (stepN g GS (restB g) (restN g) m (roundG g GS (restB g) (restN g) st p)).td = []
      exact step_end hF m h1 (by omega)

theorem la_fin {g : Gram} (h : lrE g = 0) : ∃ n, (laN g n).td = [] := by
  have hF := goF h
  exact ⟨_, step_end hF (meas (univ g (lrKs g)) la0) (ginv0 hF) (Nat.le_refl _)⟩

theorem zer_get (t : Nat) : zer.getD t false = false := by
  unfold zer
  rw [List.getD_eq_getElem?_getD]
  cases h : (List.replicate 48 false)[t]? with
  | none => rfl
  | some b => have := List.mem_of_getElem? h; rw [List.mem_replicate] at this; rw [this.2]; rfl

/-- Terms behind whole productions. -/
theorem laRow_bit {g : Gram} (h : lrE g = 0) {s k a : Nat} : (laRow g s k).getD a false = true ↔ a < g.Terms.length ∧ LA g (lrGs g) ⟨s, ⟨k, (prd g k).Right.length⟩⟩ a := by
  obtain ⟨n, hn⟩ := la_fin h
  have hT := (goF h).lim.t
  have he := la_end hT hn (p := ⟨s, ⟨k, (prd g k).Right.length⟩⟩) (t := a)
  unfold laRow
  rw [laFin_eq hn, ← he]
  unfold bit
  split
  · rename_i hp
    rw [List.getD_eq_getElem?_getD, List.getElem?_take]
    split
    · rename_i ha; rw [← List.getD_eq_getElem?_getD]; simp [ha]
    · rename_i ha; simp [ha]
  · rename_i hp
    have : getB (laN g n).ks (laN g n).bs ⟨s, ⟨k, (prd g k).Right.length⟩⟩ = zer := by unfold getB; rw [if_neg hp]
    rw [this, zer_get]
    simp

theorem laRow_len {g : Gram} (h : lrE g = 0) (s k : Nat) : (laRow g s k).length = g.Terms.length ∨ laRow g s k = [] := by
  obtain ⟨n, hn⟩ := la_fin h
  have hT := (goF h).lim.t
  have hw := whole_N hT n (whole0 g (lrGs g))
  unfold laRow
  rw [laFin_eq hn]
  split
  · refine .inl ?_
    rw [List.length_take, getB_len (ks := (laN g n).ks) (bs := (laN g n).bs) hw.ok.l48]; omega
  · exact .inr rfl

theorem left0 {g : Gram} (hw : Wf0 g) : (prd g 0).Left = 0 := by
  have h := hw.prod 0 hw.prods
  unfold prodOk at h
  simp only [Bool.and_eq_true, decide_eq_true_eq, beq_iff_eq] at h
  have e : prd g 0 = g.Prods[0]'hw.prods := prd_at (k := 0) hw.prods
  rw [e]
  have := h.2.2.1
  simpa using this

end Go.Proofs.YtcbaebkkdkdaaaaDoor

namespace Go.Proofs.YtcbaebkkdkdaaaaDoor
set_option linter.all false
open Go.Proofs.YtcbaebkkdkdaaaaDoor.E

theorem EV1_ent {E0 : Go.Proofs.YtcbaebkkdkdaaaaDoor.E.Env} {o : Oper} {fr : Frm} {U U2 : List Asn} {N : Frm → List Asn → Prop} (he : Ent U U2) (h : EV1 E0 o fr U2 (fun fr' V' => ∃ U', Ent V' U' ∧ N fr' U')) : EV1 E0 o fr U N := fun a w hf hm =>
  Oper.wp_mono2 (fun a' w' ⟨fr', V', ⟨U', h1, h2⟩, h3, h4⟩ => ⟨fr', U', h2, h3, h4.ent h1⟩) (h a w hf (hm.ent he))

theorem o_store_row {E0 : Go.Proofs.YtcbaebkkdkdaaaaDoor.E.Env} {fr : Frm} {U W : List Asn} {N : Frm → List Asn → Prop} {α : Type} {f : List α → List Value} {sz : Nat} {ei : TypeId} {acs : AcL} {rows : List (List α)} {t : TypeId} {x y : Operand} {ty : TypeId} {pos : String} {af : Array Edge} {g : Option (Nat × Bool)} {i : TI} {b o : Nat} {vs : List Value} {v : Value}
    (hx : val fr x = some (.pointer (some ⟨b, o, none⟩))) (hy : val fr y = some v) (ht : tl E0.T t = some i) (hv : v.cells.toList = vs) (hl1 : Nat.beq vs.length i.size = true) (h1 : vs.all oneB = true) (hl : acs.length = rows.length) (j : Nat) (hj : j < rows.length) (hb : (acs[j]'(hl ▸ hj)).1 = some ⟨b, 0, none⟩)
    (hle : o + i.size ≤ (f rows[j]).length) (hU : Tak (bun (rowX f sz ei acs rows)) U W) (r' : List α) (hr : r'.length = rows[j].length) (hf : setMany (f rows[j]) o vs = f r') (h : N fr (bun (rowX f sz ei acs (rows.set j r')) :: W)) : EV1 E0 ⟨none, .store t x y, ty, pos, af, g⟩ fr U N := by
  have e1 : rowA f sz ei (acs[j]'(hl ▸ hj)) rows[j] = osl ei sz (.slice (some ⟨b, 0, none⟩) rows[j].length (acs[j]'(hl ▸ hj)).2) rows[j].length (f rows[j]) := by
    show osl ei sz (.slice (acs[j]'(hl ▸ hj)).1 _ _) _ _ = _
    rw [hb]
  have e2 : rowA f sz ei (acs[j]'(hl ▸ hj)) r' = osl ei sz (.slice (some ⟨b, 0, none⟩) rows[j].length (acs[j]'(hl ▸ hj)).2) rows[j].length (f r') := by
    show osl ei sz (.slice (acs[j]'(hl ▸ hj)).1 r'.length _) r'.length _ = _
    rw [hb, hr]
  have hin := ent_btake (f := f) (sz := sz) (ei := ei) (V := W) hl hj
  rw [e1] at hin
  refine EV1_ent (Ent.trans (Ent.tak hU (Ent.refl _)) hin) (o_store_osl hx hy ht hv hl1 h1 hle .z ⟨_, ?_, h⟩)
  rw [hf, ← e2]
  have := ent_bput (f := f) (sz := sz) (ei := ei) (V := W) hl hj (ac := acs[j]'(hl ▸ hj)) (r := r')
  rwa [List.set_getElem_self] at this

section rows
variable {α : Type} {acs : AcL} {F F2 : List (List α)}
/-- Slices of rows that are as long. -/
theorem rowC_same : ∀ {acs : AcL} {F F2 : List (List α)}, F.length = F2.length → (∀ (i : Nat) (h1 : i < F.length) (h2 : i < F2.length), F[i].length = F2[i].length) → rowC acs F = rowC acs F2
  | [], _, _, _, _ => rfl
  | _ :: _, [], [], _, _ => rfl
  | _ :: _, [], _ :: _, h, _ => by simp at h
  | _ :: _, _ :: _, [], h, _ => by simp at h
  | a :: acs, r :: F, r2 :: F2, h, hr => by
    have ih := rowC_same (acs := acs) (F := F) (F2 := F2) (by simpa using h) (fun i h1 h2 => hr (i + 1) (Nat.succ_lt_succ h1) (Nat.succ_lt_succ h2))
    have h0 : r.length = r2.length := hr 0 (Nat.succ_pos _) (Nat.succ_pos _)
    unfold rowC at ih ⊢
    rw [List.zipWith_cons_cons, List.zipWith_cons_cons, ih, h0]
end rows

/-! ### single terms of the answer -/
section inn
variable {E0 : Go.Proofs.YtcbaebkkdkdaaaaDoor.E.Env} {fr : Frm} {U U' : List Asn} {D : List AcL} {X : List (List Bits)}
abbrev InnA (D : List AcL) (X : List (List Bits)) : Prop := ∀ (i : Nat) (h1 : i < D.length) (h2 : i < X.length) (j : Nat) (h3 : j < D[i].length) (h4 : j < X[i].length), 0 < X[i][j].length → ∃ b, D[i][j].1 = some ⟨b, 0, none⟩
theorem inn_addrs (hD : D.length = X.length) (hDr : ∀ (i : Nat) (h1 : i < D.length) (h2 : i < X.length), D[i].length = X[i].length) {w : World} {S : BSet} (h : (bun (innB D X)).P w S) : InnA D X := fun i h1 h2 j h3 h4 hp => by
  obtain ⟨S2, h5, _⟩ := star_mem (innB_get hD h2) h
  exact bun_addrs (hDr i h1 h2) h5 j h3 h4 hp
theorem s_innA {K : Frm → List Asn → Prop} {k : List It} {c : Code} (ht : Tak (bun (innB D X)) U U') (hD : D.length = X.length) (hDr : ∀ (i : Nat) (h1 : i < D.length) (h2 : i < X.length), D[i].length = X[i].length) (h : InnA D X → EVS E0 K (.code c :: k) fr U) : EVS E0 K (.code c :: k) fr U := by
  intro a w hf hme
  obtain ⟨S1, hP, _⟩ := hme.tak ht
  exact h (inn_addrs hD hDr hP) a w hf hme
theorem n_load_inn {t : TypeId} {x : Operand} {i : TI} {b o : Nat} {v : Value} (hx : val fr x = some (.pointer (some ⟨b, o, none⟩))) (ht : tl E0.T t = some i) (hU : Tak (bun (innB D X)) U U') (hD : D.length = X.length) (p : Nat) (hp : p < X.length) (hl : (D[p]'(hD ▸ hp)).length = X[p].length) (q : Nat) (hq : q < X[p].length) (hb : ((D[p]'(hD ▸ hp))[q]'(hl ▸ hq)).1 = some ⟨b, 0, none⟩)
    (hv : loadL i (cB X[p][q]) o = some v) : NEV E0 (.load t x) fr U v := by
  intro a w dst ty pos af g hf hm
  obtain ⟨S1, hP, _⟩ := hm.tak hU
  obtain ⟨S2, h2, _⟩ := star_mem (innB_get hD hp) hP
  obtain ⟨S3, h3, _⟩ := star_mem (rowX_get (f := cB) (sz := 1) (ei := 4) hl hq) h2
  have h4 : (osl 4 1 (.slice (some ⟨b, 0, none⟩) X[p][q].length ((D[p]'(hD ▸ hp))[q]'(hl ▸ hq)).2) X[p][q].length (cB X[p][q])).P w S3 := by rw [← hb]; exact h3
  simp [execOp, hf.eval hx, Instr.loadAt, Instr.sureAddr, run_loadVar ht (osl_cells h4) hv]
end inn

theorem loadB {r : List Bool} {j o : Nat} (hj : j < r.length) (ho : o = j) {bytes : Nat} {z : List Value} : loadL ⟨.bool, 1, bytes, z⟩ (cB r) o = some (.bool (r.getD j false)) := by
  subst ho
  refine load_cell rfl ?_
  rw [List.getElem?_map, List.getElem?_eq_getElem hj, List.getD_eq_getElem?_getD, List.getElem?_eq_getElem hj]; rfl

end Go.Proofs.YtcbaebkkdkdaaaaDoor
