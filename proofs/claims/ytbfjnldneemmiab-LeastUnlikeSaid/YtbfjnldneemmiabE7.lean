/-
  The engine, seventh part: regions in which several acting operations may come up in more than one order: all orders are walked.
-/
import Derived.Test.YtbfjnldneemmiabE6
namespace Go.Proofs.Ytbfjnldneemmiab.E
set_option linter.all false
variable {E : Env} {fr : Frm} {U : List Asn} {K : Frm → List Asn → Prop} {k : List It} {ops : Array Oper} {V : List Asn}

def lset (ops : Array Oper) (done : List Nat) : Array Bool := (Array.range ops.size).map (fun j => done.contains j)

theorem lset_nil (ops : Array Oper) : lset ops [] = Array.replicate ops.size false := by
  apply Array.ext
  · simp [lset]
  · intro j h1 h2; simp [lset]

theorem lset_cons (ops : Array Oper) (done : List Nat) (i : Nat) : (lset ops done).setIfInBounds i true = lset ops (i :: done) := by
  apply Array.toList_inj.1
  apply List.ext_getElem?
  intro j
  simp only [lset, Array.toList_setIfInBounds, Array.toList_map, Array.toList_range, List.getElem?_set, List.getElem?_map, List.length_map, List.length_range]
  by_cases hj : j < ops.size
  · have e : (List.range ops.size)[j]? = some j := by simp [hj]
    by_cases hij : i = j
    · subst hij; simp [hj, e]
    · rw [if_neg hij]
      simp only [e, Option.map_some]
      congr 1
      rw [Bool.eq_iff_iff]
      simp only [List.contains_iff_mem, List.mem_cons]
      exact ⟨fun h => .inr h, fun h => h.resolve_left (fun h2 => hij h2.symm)⟩
  · have e : (List.range ops.size)[j]? = none := by simp; omega
    by_cases hij : i = j
    · subst hij; simp [e, hj]
    · rw [if_neg hij, e]; rfl

/-- What is left of a region when the operations 'done' have come up. -/
def EVA (E : Env) (K : Frm → List Asn → Prop) (k : List It) (ops : Array Oper) (V : List Asn) (fuel : Nat) (done : List Nat) (fr : Frm) (U : List Asn) : Prop :=
  ∀ a w, Fr E fr a → Mem E U w → wpAnyH E.P .any ops (post E K k) (fun w => Mem E V w) fuel (lset ops done) a w

theorem s_any {id : Nat} (V : List Asn) (hm : E.P.follows .mixedOrders = true) (h : EVA E K k ops V ops.size [] fr U) :
    EVS E K (.code (.region id ops true) :: k) fr U := by
  intro a w hf hmem
  refine wp_region_held (S := fun w => Mem E V w) hm ?_
  have := h a { w with drawn := w.drawn + 1 } hf hmem.drew
  rw [lset_nil] at this
  exact this
theorem s_anyU {id : Nat} (hm : E.P.follows .mixedOrders = true) (h : EVA E K k ops U ops.size [] fr U) : EVS E K (.code (.region id ops true) :: k) fr U := s_any U hm h
theorem s_anyT {id : Nat} {A : Asn} (_ht : Tak A U V) (hm : E.P.follows .mixedOrders = true) (h : EVA E K k ops V ops.size [] fr U) : EVS E K (.code (.region id ops true) :: k) fr U := s_any V hm h

theorem a_done {fuel : Nat} {done : List Nat} (hr : Region.ready .any ops (lset ops done) = []) (h : EVS E K k fr U) : EVA E K k ops V fuel done fr U :=
  fun _ _ hf hm => wpAnyH_done hr ⟨fr, U, h, hf, hm⟩ _

/-- May the operation i be taken first? -/
def takeOk (ops : Array Oper) (done : List Nat) (i : Nat) : Bool :=
  Region.noSelect ops && ((Region.ready .any ops (lset ops done)).contains i && Region.free .any ops (lset ops done) i)

theorem a_n {fuel : Nat} {done : List Nat} (i : Nat) {d : Nat} {o : Op} {ty : TypeId} {pos : String} {af : Array Edge} {v : Value} (hi : ops[i]? = some ⟨some d, o, ty, pos, af, none⟩)
    (hn : NEV E o fr V v) (hok : takeOk ops done i = true) (hV : Ent U V) (hd : Nat.ble (d + 1) E.n = true) (h : EVA E K k ops V fuel (i :: done) ((d, v) :: fr) U) : EVA E K k ops V (fuel + 1) done fr U := by
  intro a w hf hm
  simp only [takeOk, Bool.and_eq_true] at hok
  refine wpAnyH_take hi hok.1 hok.2.2 hok.2.1 (fun c a w h => post_panic h) (.inl ⟨rfl, fun w hw => hn a w _ _ _ _ _ hf hw⟩) (hm.ent hV) ?_
  rw [lset_cons]
  exact h _ w (hf.put (Nat.le_of_ble_eq_true hd) _) hm

theorem a_ny {fuel : Nat} {done : List Nat} (i : Nat) {d : Nat} {o : Op} {ty : TypeId} {pos : String} {af : Array Edge} {v : Value} {j : Nat} {b : Bool} (hi : ops[i]? = some ⟨some d, o, ty, pos, af, some (j, b)⟩)
    (hg : gval ops fr j = some b)
    (hn : NEV E o fr V v) (hok : takeOk ops done i = true) (hV : Ent U V) (hd : Nat.ble (d + 1) E.n = true) (h : EVA E K k ops V fuel (i :: done) ((d, v) :: fr) U) : EVA E K k ops V (fuel + 1) done fr U := by
  intro a w hf hm
  simp only [takeOk, Bool.and_eq_true] at hok
  refine wpAnyH_take hi hok.1 hok.2.2 hok.2.1 (fun c a w h => post_panic h) (.inl ⟨by simp [Region.wanted, gval_yielded hf hg], fun w hw => hn a w _ _ _ _ _ hf hw⟩) (hm.ent hV) ?_
  rw [lset_cons]
  exact h _ w (hf.put (Nat.le_of_ble_eq_true hd) _) hm

theorem a_all {fuel : Nat} {done : List Nat} (rs : List Nat) (hr : Region.ready .any ops (lset ops done) = rs) (hne : rs ≠ [])
    (h : ∀ i ∈ rs, ∃ o, ops[i]? = some o ∧ o.guard = none ∧ EV1 E o fr U (fun fr' U' => Ent U' V ∧ EVA E K k ops V fuel (i :: done) fr' U')) : EVA E K k ops V (fuel + 1) done fr U := by
  intro a w hf hm
  refine wpAnyH_all hr hne ?_
  intro i hi
  obtain ⟨o, ho, hg, h1⟩ := h i hi
  unfold wpOp
  have hw : Region.wanted o (yielded ops a.tmps) = true := by simp [Region.wanted, hg]
  simp only [ho, hw, if_true]
  refine .inl (Oper.wp_mono2 ?_ (h1 a w hf hm))
  rintro a' w' ⟨fr', U', ⟨he', hk⟩, hf', hm'⟩
  refine ⟨hm'.ent he', ?_⟩
  rw [lset_cons]
  exact hk a' w' hf' hm'

theorem a_1 {fuel : Nat} {done : List Nat} (i : Nat) {o : Oper} (hr : Region.ready .any ops (lset ops done) = [i]) (ho : ops[i]? = some o) (hg : o.guard = none)
    (h : EV1 E o fr U (fun fr' U' => Ent U' V ∧ EVA E K k ops V fuel (i :: done) fr' U')) : EVA E K k ops V (fuel + 1) done fr U :=
  a_all [i] hr (by simp) (fun j hj => by simp only [List.mem_singleton] at hj; subst hj; exact ⟨o, ho, hg, h⟩)
theorem a_2 {fuel : Nat} {done : List Nat} (i j : Nat) {o o2 : Oper} (hr : Region.ready .any ops (lset ops done) = [i, j]) (ho : ops[i]? = some o) (ho2 : ops[j]? = some o2) (hg : o.guard = none) (hg2 : o2.guard = none)
    (h : EV1 E o fr U (fun fr' U' => Ent U' V ∧ EVA E K k ops V fuel (i :: done) fr' U'))
    (h2 : EV1 E o2 fr U (fun fr' U' => Ent U' V ∧ EVA E K k ops V fuel (j :: done) fr' U')) : EVA E K k ops V (fuel + 1) done fr U :=
  a_all [i, j] hr (by simp) (fun l hl => by
    simp only [List.mem_cons, List.not_mem_nil, or_false] at hl
    rcases hl with rfl | rfl
    · exact ⟨o, ho, hg, h⟩
    · exact ⟨o2, ho2, hg2, h2⟩)
theorem a_3 {fuel : Nat} {done : List Nat} (i j l : Nat) {o o2 o3 : Oper} (hr : Region.ready .any ops (lset ops done) = [i, j, l]) (ho : ops[i]? = some o) (ho2 : ops[j]? = some o2) (ho3 : ops[l]? = some o3)
    (hg : o.guard = none) (hg2 : o2.guard = none) (hg3 : o3.guard = none)
    (h : EV1 E o fr U (fun fr' U' => Ent U' V ∧ EVA E K k ops V fuel (i :: done) fr' U'))
    (h2 : EV1 E o2 fr U (fun fr' U' => Ent U' V ∧ EVA E K k ops V fuel (j :: done) fr' U'))
    (h3 : EV1 E o3 fr U (fun fr' U' => Ent U' V ∧ EVA E K k ops V fuel (l :: done) fr' U')) : EVA E K k ops V (fuel + 1) done fr U :=
  a_all [i, j, l] hr (by simp) (fun q hq => by
    simp only [List.mem_cons, List.not_mem_nil, or_false] at hq
    rcases hq with rfl | rfl | rfl
    · exact ⟨o, ho, hg, h⟩
    · exact ⟨o2, ho2, hg2, h2⟩
    · exact ⟨o3, ho3, hg3, h3⟩)

/-- The orders meet again. -/
theorem a_join {fuel : Nat} {done : List Nat} {ι : Type} (frX : ι → Frm) (UX : ι → List Asn) (hfin : ∀ x, EVS E K k (frX x) (UX x)) (h : (∀ x, EVS E K k (frX x) (UX x)) → EVA E K k ops V fuel done fr U) :
    EVA E K k ops V fuel done fr U := h hfin

/-! ### what is skipped, and what hangs on what is skipped -/
def gno (ops : Array Oper) (fr : Frm) (j : Nat) : Bool :=
  match (ops[j]?).bind (·.dst) with
  | some t => match look fr t with
    | some (.tuple _) => true
    | _ => false
  | none => false

theorem gno_yielded {ops : Array Oper} {j : Nat} {a : Act} (hf : Fr E fr a) (h : gno ops fr j = true) : yielded ops a.tmps j = none := by
  unfold gno at h
  unfold yielded
  cases hd : (ops[j]?).bind (·.dst) with
  | none => simp [hd] at h
  | some t =>
    simp only [hd] at h
    cases hl : look fr t with
    | none => simp [hl] at h
    | some v =>
      rw [hl] at h
      have := hf.frm t v hl
      cases v <;> simp_all

theorem e_noU {d : Nat} {o : Op} {ty : TypeId} {pos : String} {af : Array Edge} {l : List Oper} {j : Nat} {b b' : Bool}
    (hg : gval ops fr j = some b') (hb : Bool.xor b b' = true) (hd : Nat.ble (d + 1) E.n = true)
    (h : EVO E K k ops l ((d, undef) :: fr) U) : EVO E K k ops (⟨some d, o, ty, pos, af, some (j, b)⟩ :: l) fr U := by
  intro a w hf hm
  have hw : Region.wanted ⟨some d, o, ty, pos, af, some (j, b)⟩ (yielded ops a.tmps) = false := by
    simp only [Region.wanted, gval_yielded hf hg]
    cases b <;> cases b' <;> first | rfl | (simp at hb)
  unfold wpList
  rw [hw]
  exact h _ w (hf.put (Nat.le_of_ble_eq_true hd) undef) hm

theorem e_noN {d : Nat} {o : Op} {ty : TypeId} {pos : String} {af : Array Edge} {l : List Oper} {j : Nat} {b : Bool}
    (hg : gno ops fr j = true) (hd : Nat.ble (d + 1) E.n = true)
    (h : EVO E K k ops l ((d, undef) :: fr) U) : EVO E K k ops (⟨some d, o, ty, pos, af, some (j, b)⟩ :: l) fr U := by
  intro a w hf hm
  have hw : Region.wanted ⟨some d, o, ty, pos, af, some (j, b)⟩ (yielded ops a.tmps) = false := by
    simp only [Region.wanted, gno_yielded hf hg]; rfl
  unfold wpList
  rw [hw]
  exact h _ w (hf.put (Nat.le_of_ble_eq_true hd) undef) hm

theorem l_noN {es : List Nat} {i : Nat} {d : Nat} {o : Op} {ty : TypeId} {pos : String} {af : Array Edge} {l : List Oper} {j : Nat} {b : Bool} (hg : gno ops fr j = true)
    (he : es.contains i = false) (hV : Ent U V) (hd : Nat.ble (d + 1) E.n = true)
    (h : EVL E K k ops es V (i + 1) l ((d, undef) :: fr) U) : EVL E K k ops es V i (⟨some d, o, ty, pos, af, some (j, b)⟩ :: l) fr U :=
  l_take he hV hd (fun a hf => .inr ⟨by simp only [Region.wanted, gno_yielded hf hg]; rfl, rfl⟩) h

end Go.Proofs.Ytbfjnldneemmiab.E
