/-
  The engine, sixth part: what is owned but for its places; rows of rows; reading what is owned.
-/
import Derived.Test.YtbfjnldneemmiabE5
namespace Go.Proofs.Ytbfjnldneemmiab.E
set_option linter.all false
variable {E : Env} {fr : Frm} {U : List Asn} {N : Frm → List Asn → Prop}

/-- Some x with φ x; and what is owned then. -/
def exA {α : Type} (φ : α → Prop) (f : α → List Asn) : Asn where
  P := fun w S => ∃ x, φ x ∧ star (f x) w S
  fr := fun w w' S h ⟨x, h1, h2⟩ => ⟨x, h1, star_fr _ w w' S h h2⟩

theorem star_ex {α : Type} {φ : α → Prop} {f : α → List Asn} {U' : List Asn} (ht : Tak (exA φ f) U U') {w : World} {S : BSet} (h : star U w S) : ∃ x, φ x ∧ star (f x ++ U') w S := by
  obtain ⟨S1, S2, ⟨x, hx, h1⟩, h2, hd, i1, i2⟩ := ht.star h
  refine ⟨x, hx, star_mono ?_ (star_append h1 h2 hd)⟩
  rintro b (hb | hb)
  · exact i1 b hb
  · exact i2 b hb

theorem mem_ex {α : Type} {φ : α → Prop} {f : α → List Asn} {U' : List Asn} (ht : Tak (exA φ f) U U') {w : World} (h : Mem E U w) : ∃ x, φ x ∧ Mem E (f x ++ U') w := by
  obtain ⟨S, hs, hb⟩ := h.own
  obtain ⟨x, hx, h1⟩ := star_ex ht hs
  exact ⟨x, hx, h.os, h.tape, h.output, h.size, h.same, S, h1, hb⟩

theorem e_ex {K : Frm → List Asn → Prop} {k : List It} {ops : Array Oper} {l : List Oper} {α : Type} {φ : α → Prop} {f : α → List Asn} {U' : List Asn} (ht : Tak (exA φ f) U U')
    (h : ∀ x, φ x → EVO E K k ops l fr (f x ++ U')) : EVO E K k ops l fr U := by
  intro a w hf hm
  obtain ⟨x, hx, hm'⟩ := mem_ex ht hm
  exact h x hx a w hf hm'

theorem l_ex {K : Frm → List Asn → Prop} {k : List It} {ops : Array Oper} {es : List Nat} {V : List Asn} {i : Nat} {l : List Oper} {α : Type} {φ : α → Prop} {f : α → List Asn} {U' : List Asn} (ht : Tak (exA φ f) U U')
    (h : ∀ x, φ x → EVL E K k ops es V i l fr (f x ++ U')) : EVL E K k ops es V i l fr U := by
  intro h0 h3 a w hf hm
  obtain ⟨x, hx, hm'⟩ := mem_ex ht hm
  exact h x hx h0 h3 a w hf hm'

theorem s_ex {K : Frm → List Asn → Prop} {k : List It} {c : Code} {α : Type} {φ : α → Prop} {f : α → List Asn} {U' : List Asn} (ht : Tak (exA φ f) U U')
    (h : ∀ x, φ x → EVS E K (.code c :: k) fr (f x ++ U')) : EVS E K (.code c :: k) fr U := by
  intro a w hf hm
  obtain ⟨x, hx, hm'⟩ := mem_ex ht hm
  exact h x hx a w hf hm'

theorem Ent.ex {α : Type} {φ : α → Prop} {f : α → List Asn} {V : List Asn} (x : α) (hx : φ x) (h : Ent U (f x ++ V)) : Ent U (exA φ f :: V) := by
  intro w S hs
  obtain ⟨S1, S2, h1, h2, hd, i1, i2⟩ := star_split (h w S hs)
  exact ⟨S1, S2, ⟨x, hx, h1⟩, h2, hd, i1, i2⟩

theorem Ent.cons {A : Asn} {U V : List Asn} (h : Ent U V) : Ent (A :: U) (A :: V) := fun w S ⟨S1, S2, h1, h2, hd, i1, i2⟩ => ⟨S1, S2, h1, h w S2 h2, hd, i1, i2⟩
theorem Ent.app {L U V : List Asn} (h : Ent U V) : Ent (L ++ U) (L ++ V) := by
  induction L with
  | nil => exact h
  | cons A L ih => exact ih.cons
theorem Ent.swap {A B : Asn} {U : List Asn} : Ent (A :: B :: U) (B :: A :: U) := Ent.tak (.s .z) (Ent.refl _)
theorem Ent.eq {U V : List Asn} (h : U = V) : Ent U V := h ▸ Ent.refl _
theorem Ent.mid {A : Asn} : ∀ {L U : List Asn}, Ent (A :: (L ++ U)) (L ++ A :: U)
  | [], _ => Ent.refl _
  | _ :: _, _ => Ent.swap.trans (Ent.cons Ent.mid)
theorem Ent.mid' {A : Asn} : ∀ {L U : List Asn}, Ent (L ++ A :: U) (A :: (L ++ U))
  | [], _ => Ent.refl _
  | _ :: _, _ => (Ent.cons Ent.mid').trans Ent.swap

theorem tak_get {A : Asn} : ∀ {L V : List Asn} {i : Nat}, L[i]? = some A → Tak A (L ++ V) (L.eraseIdx i ++ V)
  | [], _, _, h => by simp at h
  | B :: L, V, 0, h => by simp at h; subst h; exact .z
  | B :: L, V, i + 1, h => by simp at h; exact .s (tak_get h)

theorem upd_get {A A' : Asn} : ∀ {L V : List Asn} {i : Nat}, L[i]? = some A → Upd A A' (L ++ V) (L.set i A' ++ V)
  | [], _, _, h => by simp at h
  | B :: L, V, 0, h => by simp at h; subst h; exact .z
  | B :: L, V, i + 1, h => by simp at h; exact .s (upd_get h)

/-- What was taken out is put back, as it now is. -/
theorem ent_put {A A' : Asn} : ∀ {L V : List Asn} {i : Nat}, L[i]? = some A → Ent (A' :: (L.eraseIdx i ++ V)) (L.set i A' ++ V)
  | [], _, _, h => by simp at h
  | _ :: _, _, 0, _ => Ent.refl _
  | B :: L, V, i + 1, h => by
    simp at h
    exact Ent.swap.trans (Ent.cons (ent_put h))

/-! ### reading what is owned -/
theorem loads_blk {w : World} {i : TI} {b o : Nat} {T : TypeId} {cs : List Value} {v : Value} (h : w.heap[b]? = some (.cells cs.toArray T)) (hl : loadL i cs o = some v) : loads w i b o v := by
  have hc : ∀ j u, cs[j]? = some u → w.cell? ⟨b, j, none⟩ = some u := fun j u hu => by rw [cell_of_row w b j _ _ _ h]; simpa using hu
  unfold loadL at hl
  cases ha : aggB i.d with
  | false =>
    simp only [ha, cond_false] at hl
    exact loads_one ha (hc o v hl)
  | true =>
    simp only [ha, cond_true] at hl
    cases hb : Nat.ble (o + i.size) cs.length with
    | false => simp [hb] at hl
    | true =>
      simp only [hb, cond_true, Option.some.injEq] at hl
      subst hl
      have := Nat.le_of_ble_eq_true hb
      refine loads_agg ha (by simp; omega) ?_
      intro j u hu
      apply hc
      rw [List.getElem?_take] at hu
      split at hu
      · rw [List.getElem?_drop] at hu; exact hu
      · cases hu

/-- A block, to be read. -/
def rblk (b : Nat) (T : TypeId) (cs : List Value) : Rd where
  P := fun w S => S b ∧ w.heap[b]? = some (.cells cs.toArray T)
  fr := fun _ _ _ h ⟨h1, h2⟩ => ⟨h1, (h b h1).trans h2⟩
  mono := fun _ _ _ h ⟨h1, h2⟩ => ⟨h b h1, h2⟩

theorem Can.blk {b : Nat} {T : TypeId} {cs : List Value} {U' : List Asn} (ht : Tak (blk b T cs) U U') : Can E U (rblk b T cs) := by
  intro w S _ hs
  obtain ⟨S1, ⟨h1, h2⟩, hsub⟩ := ht.mem hs
  exact ⟨.inr (hsub b h1), h2⟩

theorem Can.of {R : Rd} (h : ∀ w S, star U w S → R.P w S) : Can E U R := fun w S _ hs => R.mono w S _ (fun _ hb => .inr hb) (h w S hs)

/-- A slice of one's own, read: elements of one cell. -/
theorem osl_els {α : Type} {k : Kd α} (enc : α → Value) (hk : k.sz = 1) (henc : ∀ w S x, k.R w S [enc x] x) {e : TypeId} {A : Option Addr} {n c : Nat} {xs : List α} {w : World} {S : BSet}
    (h : (osl e 1 (.slice A n c) n (xs.map enc)).P w S) : Els k w S A xs ∧ n = xs.length ∧ xs.length ≤ c := by
  obtain ⟨⟨hl, h2⟩, hS⟩ := h
  have hn : n = xs.length := by simpa using hl.symm
  subst hn
  rcases h2 with ⟨h3, h4⟩ | ⟨g, cap, cur, hv, _, hg, hnc, _, _, htake⟩
  · refine ⟨fun i hi => by omega, rfl, by omega⟩
  · simp only [Value.slice.injEq] at hv
    obtain ⟨rfl, _, rfl⟩ := hv
    refine ⟨fun i hi => ⟨g, 0, [enc xs[i]], rfl, hS g rfl, henc _ _ _, ?_⟩, rfl, hnc⟩
    intro j u hu
    cases j with
    | succ j => simp at hu
    | zero =>
      simp at hu
      subst hu
      rw [cell_of_row w g _ cur e _ hg, hk]
      have h5 : (cur.toList.take (xs.length * 1))[i]? = some (enc xs[i]) := by rw [htake]; simp [hi]
      rw [List.getElem?_take] at h5
      split at h5
      · simpa using h5
      · cases h5

theorem Can.osl {α : Type} {k : Kd α} (enc : α → Value) (hk : k.sz = 1) (henc : ∀ w S x, k.R w S [enc x] x) {e : TypeId} {A : Option Addr} {n c bytes : Nat} {xs : List α} {U' : List Asn}
    (ht : Tak (osl e 1 (.slice A n c) n (xs.map enc)) U U') (hb : n * bytes ≤ 140737488355328) : Can E U ((kslice bytes k).rd [.slice A n c] xs) := by
  refine Can.of fun w S hs => ?_
  obtain ⟨S1, h1, hsub⟩ := ht.mem hs
  obtain ⟨h2, h3, h4⟩ := osl_els enc hk henc h1
  subst h3
  exact ⟨A, c, rfl, h4, hb, els_mono hsub h2⟩

/-! ### rows of rows -/
section rows
variable {α : Type}

def rowC (acs : List (Option Addr × Nat)) (rows : List (List α)) : List Value := List.zipWith (fun ac (r : List α) => Value.slice ac.1 r.length ac.2) acs rows
def rowL (enc : α → Value) (ei : TypeId) (acs : List (Option Addr × Nat)) (rows : List (List α)) : List Asn :=
  List.zipWith (fun ac (r : List α) => osl ei 1 (.slice ac.1 r.length ac.2) r.length (r.map enc)) acs rows

/-- A slice of slices of one's own: each row a block of its own. -/
def orow (enc : α → Value) (eo ei : TypeId) (v : Value) (n : Nat) (rows : List (List α)) : Asn :=
  exA (fun acs : List (Option Addr × Nat) => acs.length = rows.length) (fun acs => osl eo 1 v n (rowC acs rows) :: rowL enc ei acs rows)

theorem rowC_get {acs : List (Option Addr × Nat)} {rows : List (List α)} (hl : acs.length = rows.length) {i : Nat} (hi : i < rows.length) :
    (rowC acs rows)[i]? = some (.slice (acs[i]'(hl ▸ hi)).1 rows[i].length (acs[i]'(hl ▸ hi)).2) := by
  unfold rowC
  rw [List.getElem?_zipWith, List.getElem?_eq_getElem (hl ▸ hi), List.getElem?_eq_getElem hi]

theorem rowL_get {enc : α → Value} {ei : TypeId} {acs : List (Option Addr × Nat)} {rows : List (List α)} (hl : acs.length = rows.length) {i : Nat} (hi : i < rows.length) :
    (rowL enc ei acs rows)[i]? = some (osl ei 1 (.slice (acs[i]'(hl ▸ hi)).1 rows[i].length (acs[i]'(hl ▸ hi)).2) rows[i].length (rows[i].map enc)) := by
  unfold rowL
  rw [List.getElem?_zipWith, List.getElem?_eq_getElem (hl ▸ hi), List.getElem?_eq_getElem hi]

theorem zipWith_set {β γ : Type} (f : β → List α → γ) : ∀ (l : List β) (rows : List (List α)) (i : Nat) (b : β) (r : List α), l[i]? = some b → (List.zipWith f l rows).set i (f b r) = List.zipWith f l (rows.set i r)
  | [], _, _, _, _, h => by simp at h
  | x :: l, [], i, b, r, _ => by simp
  | x :: l, y :: rows, 0, b, r, h => by simp at h; subst h; simp
  | x :: l, y :: rows, i + 1, b, r, h => by simp at h; simp [zipWith_set f l rows i b r h]

theorem rowC_set {acs : List (Option Addr × Nat)} {rows : List (List α)} {i : Nat} {r : List α} (hr : ∀ h : i < rows.length, r.length = rows[i].length) : rowC acs (rows.set i r) = rowC acs rows := by
  unfold rowC
  apply List.ext_getElem?
  intro j
  simp only [List.getElem?_zipWith, List.getElem?_set]
  by_cases h : i = j
  · subst h
    by_cases h2 : i < rows.length
    · simp only [if_true, h2, List.getElem?_eq_getElem h2]
      cases acs[i]? <;> simp [hr h2]
    · simp [h2]
  · simp [h]

theorem rowL_set {enc : α → Value} {ei : TypeId} {acs : List (Option Addr × Nat)} {rows : List (List α)} {i : Nat} {r : List α} {ac : Option Addr × Nat} (ha : acs[i]? = some ac) :
    (rowL enc ei acs rows).set i (osl ei 1 (.slice ac.1 r.length ac.2) r.length (r.map enc)) = rowL enc ei acs (rows.set i r) := by
  unfold rowL
  exact zipWith_set (fun ac (r : List α) => osl ei 1 (.slice ac.1 r.length ac.2) r.length (r.map enc)) acs rows i ac r ha

/-- A row of one's own slice of slices is written. -/
theorem ent_row {enc : α → Value} {eo ei : TypeId} {v : Value} {n : Nat} {acs : List (Option Addr × Nat)} {rows : List (List α)} {V : List Asn} {i : Nat} {r : List α} (hl : acs.length = rows.length) (hi : i < rows.length)
    (hr : r.length = rows[i].length) :
    Ent (osl ei 1 (.slice (acs[i]'(hl ▸ hi)).1 rows[i].length (acs[i]'(hl ▸ hi)).2) rows[i].length (r.map enc) :: osl eo 1 v n (rowC acs rows) :: ((rowL enc ei acs rows).eraseIdx i ++ V)) (orow enc eo ei v n (rows.set i r) :: V) := by
  refine Ent.swap.trans (Ent.ex (φ := fun acs : List (Option Addr × Nat) => acs.length = (rows.set i r).length) acs (by simpa using hl) ?_)
  rw [rowC_set (fun _ => hr), List.cons_append]
  refine Ent.cons ?_
  have h1 := ent_put (A' := osl ei 1 (.slice (acs[i]'(hl ▸ hi)).1 r.length (acs[i]'(hl ▸ hi)).2) r.length (r.map enc)) (V := V) (rowL_get (enc := enc) (ei := ei) hl hi)
  rw [rowL_set (List.getElem?_eq_getElem (hl ▸ hi))] at h1
  rw [hr] at h1
  exact h1

theorem star_mem {A : Asn} {L : List Asn} {i : Nat} (h : L[i]? = some A) {w : World} {S : BSet} (hs : star L w S) : ∃ S1, A.P w S1 ∧ ∀ b, S1 b → S b := by
  have := tak_get (V := []) h
  simp only [List.append_nil] at this
  exact this.mem hs

theorem Can.orow {k : Kd α} (enc : α → Value) (hk : k.sz = 1) (henc : ∀ w S x, k.R w S [enc x] x) {eo ei : TypeId} {A : Option Addr} {n c bo bi : Nat} {rows : List (List α)} {U' : List Asn}
    (ht : Tak (orow enc eo ei (.slice A n c) n rows) U U') (hbo : n * bo ≤ 140737488355328) (hbi : ∀ r ∈ rows, r.length * bi ≤ 140737488355328) : Can E U ((kslice bo (kslice bi k)).rd [.slice A n c] rows) := by
  refine Can.of fun w S hs => ?_
  obtain ⟨S1, ⟨acs, hl, T1, T2, h1, h2, _, i1, i2⟩, hsub⟩ := ht.mem hs
  obtain ⟨⟨hlen, hO⟩, hS⟩ := h1
  have hn : n = rows.length := by
    have : (rowC acs rows).length = rows.length := by unfold rowC; simp [hl]
    omega
  subst hn
  have cells : ∀ i (hi : i < rows.length), ∃ g, A = some ⟨g, 0, none⟩ ∧ T1 g ∧ w.cell? ⟨g, i, none⟩ = some (.slice (acs[i]'(hl ▸ hi)).1 rows[i].length (acs[i]'(hl ▸ hi)).2) := by
    intro i hi
    rcases hO with ⟨h3, h4⟩ | ⟨g, cap, cur, hv, _, hg, hnc, _, _, htake⟩
    · omega
    · simp only [Value.slice.injEq] at hv
      obtain ⟨rfl, _, rfl⟩ := hv
      refine ⟨g, rfl, hS g rfl, ?_⟩
      rw [cell_of_row w g _ cur eo _ hg]
      have h5 : (cur.toList.take (rows.length * 1))[i]? = some (.slice (acs[i]'(hl ▸ hi)).1 rows[i].length (acs[i]'(hl ▸ hi)).2) := by rw [htake]; exact rowC_get hl hi
      rw [List.getElem?_take] at h5
      split at h5
      · simpa using h5
      · cases h5
  have hcap : rows.length ≤ c := by
    rcases hO with ⟨h3, h4⟩ | ⟨g, cap, cur, hv, _, hg, hnc, _, _, htake⟩
    · omega
    · simp only [Value.slice.injEq] at hv
      obtain ⟨_, _, rfl⟩ := hv
      exact hnc
  refine ⟨A, c, rfl, hcap, hbo, ?_⟩
  intro i hi
  obtain ⟨g, hA, hT, hc⟩ := cells i hi
  obtain ⟨S3, hP, hsub3⟩ := star_mem (rowL_get (enc := enc) (ei := ei) hl hi) h2
  obtain ⟨he, _, hle⟩ := osl_els enc hk henc hP
  refine ⟨g, 0, [.slice (acs[i]'(hl ▸ hi)).1 rows[i].length (acs[i]'(hl ▸ hi)).2], hA, hsub g (i1 g hT), ⟨_, _, rfl, hle, hbi _ (List.getElem_mem _), els_mono (fun b hb => hsub b (i2 b (hsub3 b hb))) he⟩, ?_⟩
  intro j u hu
  cases j with
  | succ j => simp at hu
  | zero =>
    simp at hu; subst hu
    simpa [kslice] using hc
end rows

end Go.Proofs.Ytbfjnldneemmiab.E
