/-
  The engine, eighth part: regions that draw, phase by phase: each operation that acts waits for all that stand before it in its phase; what it leaves may differ from what was.
-/
import Derived.Test.YtbfjnldneemmiabE7
namespace Go.Proofs.Ytbfjnldneemmiab.E
set_option linter.all false
variable {E : Env} {fr : Frm} {U : List Asn} {K : Frm → List Asn → Prop} {k : List It} {ops : Array Oper}

/-- Until z comes up the world stays w0. -/
def wpAnyZ (P : Program) (ops : Array Oper) (Q : Exit → Act → World → Prop) (z : Nat) (w0 : World) : Nat → Array Bool → Act → World → Prop
  | 0, listed, a, w => Region.ready .any ops listed = [] ∧ Q .normal a w
  | fuel + 1, listed, a, w =>
    (Region.ready .any ops listed = [] → Q .normal a w) ∧
    ∀ i ∈ Region.ready .any ops listed, wpOp P ops Q i (fun a' w' => (i = z → wpAny P .any ops Q fuel (listed.setIfInBounds i true) a' w') ∧
      (i ≠ z → w' = w0 ∧ wpAnyZ P ops Q z w0 fuel (listed.setIfInBounds i true) a' w')) a w

section
variable {P : Program} {Q : Exit → Act → World → Prop} {z : Nat} {w0 : World}

theorem wpAny_of_Z : ∀ (fuel : Nat) (listed : Array Bool) (a : Act) (w : World), wpAnyZ P ops Q z w0 fuel listed a w → wpAny P .any ops Q fuel listed a w
  | 0, _, _, _, h => h
  | fuel + 1, _, _, _, h => ⟨h.1, fun i hi => wpOp_mono (fun a' w' h' => by
      by_cases hz : i = z
      · exact h'.1 hz
      · exact wpAny_of_Z fuel _ a' w' (h'.2 hz).2) (h.2 i hi)⟩

theorem wpAnyZ_first {i : Nat} {oi : Oper} {v : Value} (hi : ops[i]? = some oi) (hsel : ∀ (j : Nat) (o : Oper) cs b, ops[j]? = some o → o.op ≠ .select cs b)
    (hQ : ∀ c a w, Q (.panic c) (a.put oi.dst v) w → Q (.panic c) a w) (hiz : i ≠ z)
    (hz : ∀ oz, ops[z]? = some oz → ∃ e ∈ oz.after, Region.binds .any e = true ∧ e.on = i) :
    ∀ (fuel : Nat) (listed : Array Bool) (a : Act) (w : World),
      (∀ j oj, ops[j]? = some oj → j ≠ i → listed.getD j true = false → (∀ e ∈ oj.after, Region.binds .any e = true → e.on ≠ i) → oi.apart ops oj = true) →
      i ∈ Region.ready .any ops listed → YieldsIf P ops (fun w => w = w0) oi v a → w = w0 →
      wpAnyZ P ops Q z w0 fuel (listed.setIfInBounds i true) (a.put oi.dst v) w → wpAnyZ P ops Q z w0 (fuel + 1) listed a w := by
  intro fuel
  induction fuel with
  | zero =>
    intro listed a w _ hr hy hS H
    refine ⟨fun h => (by rw [h] at hr; cases hr), fun j hj => ?_⟩
    by_cases hji : j = i
    · subst hji; exact hy.wpOp (S := fun w => w = w0) hi hS ⟨fun h => absurd h hiz, fun _ => ⟨hS, H⟩⟩
    · have := ready_mono hj hji
      rw [H.1] at this
      cases this
  | succ fuel ih =>
    intro listed a w hfree hr hy hS H
    refine ⟨fun h => (by rw [h] at hr; cases hr), fun j hj => ?_⟩
    by_cases hji : j = i
    · subst hji; exact hy.wpOp (S := fun w => w = w0) hi hS ⟨fun h => absurd h hiz, fun _ => ⟨hS, H⟩⟩
    · have h1 := H.2 j (ready_mono hj hji)
      obtain ⟨hjun, oj, hoj, hall⟩ := mem_ready.1 hj
      have hnot : ∀ e ∈ oj.after, Region.binds .any e = true → e.on ≠ i := fun e he hb heq => by
        have h1 := hall e he hb
        have h0 := (mem_ready.1 hr).1
        rw [heq] at h1
        rcases Nat.lt_or_ge i listed.size with h' | h'
        · simp [h'] at h0 h1; rw [h0] at h1; cases h1
        · simp [Array.getElem?_eq_none h'] at h1
      have hjz : j ≠ z := fun e => by
        subst e
        obtain ⟨e, he, hb, hon⟩ := hz oj hoj
        exact hnot e he hb hon
      have h2 := wpOp_putIf (S := fun w => w = w0) hoj (hfree j oj hoj hji hjun hnot) (fun cs b => hsel i oi cs b hi) (fun cs b => hsel j oj cs b hoj) hQ hy h1
      have hfree' : ∀ k ok, ops[k]? = some ok → k ≠ i → (listed.setIfInBounds j true).getD k true = false →
          (∀ e ∈ ok.after, Region.binds .any e = true → e.on ≠ i) → oi.apart ops ok = true := fun k ok hk hki hun hno => by
        refine hfree k ok hk hki ?_ hno
        by_cases hjk : j = k
        · subst hjk; exact hjun
        · rw [getD_set_ne true hjk] at hun; exact hun
      refine wpOp_mono (fun a' w' h3 => ⟨fun h => absurd h hjz, fun _ => ⟨(h3.2.2 hjz).1, ?_⟩⟩) h2
      have h4 := h3.2.2 hjz
      refine ih (listed.setIfInBounds j true) a' w' hfree' (ready_mono hr (Ne.symm hji)) h3.1 h4.1 ?_
      rw [Array.setIfInBounds_comm _ _ hji]
      exact h4.2
end

/-- The next that acts. -/
def nextz (n : Nat) : List Nat → Nat → Nat
  | [], _ => n
  | z :: zs, i => bif Nat.ble i z then z else nextz n zs i

def phOk (ops : Array Oper) (zs : List Nat) : Bool :=
  Region.noSelect ops && (List.range ops.size).all fun i =>
    bif zs.contains i then Region.ready .any ops (lst ops i) == [i] && Nat.beq (nextz ops.size zs i) i else
      (Region.ready .any ops (lst ops i)).contains i && (Region.free .any ops (lst ops i) i && (!Nat.beq (nextz ops.size zs i) i &&
        match ops[nextz ops.size zs i]? with
        | none => true
        | some oz => oz.after.any fun e => Region.binds .any e && Nat.beq e.on i))

/-- The rest of a region that draws, phase by phase. -/
def EVZ (E : Env) (K : Frm → List Asn → Prop) (k : List It) (ops : Array Oper) (zs : List Nat) (i : Nat) (l : List Oper) (fr : Frm) (U : List Asn) : Prop :=
  phOk ops zs = true → ops.toList.drop i = l → ∀ a w, Fr E fr a → Mem E U w → wpAnyZ E.P ops (post E K k) (nextz ops.size zs i) w (ops.size - i) (lst ops i) a w

variable {zs : List Nat} {i : Nat}

theorem s_drawZ {id : Nat} (zs : List Nat) (hm : E.P.follows .mixedOrders = true) (hph : phOk ops zs = true) (h : EVZ E K k ops zs 0 ops.toList fr U) :
    EVS E K (.code (.region id ops true) :: k) fr U := by
  intro a w hf hmem
  refine wp_region_any hm ?_
  have := h hph rfl a { w with drawn := w.drawn + 1 } hf hmem.drew
  rw [lst_zero, Nat.sub_zero] at this
  exact wpAny_of_Z _ _ _ _ this

theorem z_nil (h : EVS E K k fr U) : EVZ E K k ops zs i [] fr U := by
  intro _ hl a w hf hm
  have hsz : ops.size ≤ i := by
    have := congrArg List.length hl
    simp at this; omega
  have hr : Region.ready .any ops (lst ops i) = [] := by
    unfold Region.ready
    rw [List.filter_eq_nil_iff]
    intro j hj
    simp only [List.mem_range] at hj
    have : (lst ops i).getD j true = true := by
      simp [lst, hj, Nat.blt_eq]; omega
    simp [this]
  rw [Nat.sub_eq_zero_of_le hsz]
  exact ⟨hr, fr, U, h, hf, hm⟩

theorem phOk_s (h : phOk ops zs = true) : Region.noSelect ops = true := by
  simp only [phOk, Bool.and_eq_true] at h; exact h.1

theorem phOk_n (h : phOk ops zs = true) {i : Nat} (hi : i < ops.size) (he : zs.contains i = false) :
    (Region.ready .any ops (lst ops i)).contains i = true ∧ Region.free .any ops (lst ops i) i = true ∧ i ≠ nextz ops.size zs i ∧
      ∀ oz, ops[nextz ops.size zs i]? = some oz → ∃ e ∈ oz.after, Region.binds .any e = true ∧ e.on = i := by
  simp only [phOk, Bool.and_eq_true, List.all_eq_true, List.mem_range] at h
  have := h.2 i hi
  simp only [he, cond_false, Bool.and_eq_true] at this
  refine ⟨this.1, this.2.1, ?_, ?_⟩
  · intro e
    have := this.2.2.1
    rw [← e] at this
    simp at this
  · intro oz hoz
    have h2 := this.2.2.2
    rw [hoz] at h2
    obtain ⟨e, he, hb⟩ := Array.any_eq_true'.1 h2
    rw [Bool.and_eq_true] at hb
    exact ⟨e, he, hb.1, Nat.eq_of_beq_eq_true hb.2⟩

theorem phOk_e (h : phOk ops zs = true) {i : Nat} (hi : i < ops.size) (he : zs.contains i = true) : Region.ready .any ops (lst ops i) = [i] ∧ nextz ops.size zs i = i := by
  simp only [phOk, Bool.and_eq_true, List.all_eq_true, List.mem_range] at h
  have := h.2 i hi
  simp only [he, cond_true, Bool.and_eq_true] at this
  exact ⟨eq_of_beq this.1, Nat.eq_of_beq_eq_true this.2⟩

theorem nextz_succ : ∀ (zs : List Nat) (n i : Nat), i ≠ nextz n zs i → (zs.contains i = false) → nextz n zs (i + 1) = nextz n zs i
  | [], _, _, _, _ => rfl
  | z :: zs, n, i, h, hc => by
    simp only [List.contains_cons, Bool.or_eq_false_iff] at hc
    simp only [nextz] at *
    cases hb : Nat.ble i z with
    | true =>
      have h1 := Nat.le_of_ble_eq_true hb
      have h2 : i ≠ z := fun e => by subst e; simp at hc
      have : Nat.ble (i + 1) z = true := Nat.ble_eq_true_of_le (by omega)
      rw [this]; rfl
    | false =>
      have h1 : ¬ i ≤ z := fun h => by rw [Nat.ble_eq_true_of_le h] at hb; cases hb
      have : Nat.ble (i + 1) z = false := by
        cases hb2 : Nat.ble (i + 1) z with
        | false => rfl
        | true => have := Nat.le_of_ble_eq_true hb2; omega
      rw [this]
      rw [hb] at h
      exact nextz_succ zs n i h hc.2

theorem z_take {d : Nat} {o : Op} {ty : TypeId} {pos : String} {af : Array Edge} {g : Option (Nat × Bool)} {l : List Oper} {v : Value}
    (he : zs.contains i = false) (hd : Nat.ble (d + 1) E.n = true)
    (hy : ∀ a w, Fr E fr a → Mem E U w → YieldsIf E.P ops (fun w' => w' = w) ⟨some d, o, ty, pos, af, g⟩ v a)
    (h : EVZ E K k ops zs (i + 1) l ((d, v) :: fr) U) : EVZ E K k ops zs i (⟨some d, o, ty, pos, af, g⟩ :: l) fr U := by
  intro hph hl a w hf hm
  obtain ⟨hlt, hi, hl'⟩ := drop_at hl
  obtain ⟨hr, hfree, hne, hz⟩ := phOk_n hph hlt he
  rw [show ops.size - i = (ops.size - (i + 1)) + 1 from by omega]
  have key := h hph hl' _ w (hf.put (Nat.le_of_ble_eq_true hd) v) hm
  rw [nextz_succ zs ops.size i hne he, ← lst_succ] at key
  exact wpAnyZ_first hi (Region.noSelect_spec (phOk_s hph)) (fun c a w h => post_panic h) hne hz _ _ _ _ (Region.free_spec hi hfree) (by simpa using hr) (hy a w hf hm) rfl key

theorem z_n {d : Nat} {o : Op} {ty : TypeId} {pos : String} {af : Array Edge} {l : List Oper} {v : Value}
    (hn : NEV E o fr U v) (he : zs.contains i = false) (hd : Nat.ble (d + 1) E.n = true)
    (h : EVZ E K k ops zs (i + 1) l ((d, v) :: fr) U) : EVZ E K k ops zs i (⟨some d, o, ty, pos, af, none⟩ :: l) fr U :=
  z_take he hd (fun a w hf hm => .inl ⟨rfl, fun _ hw => hw ▸ hn a w _ _ _ _ _ hf hm⟩) h

theorem z_ny {d : Nat} {o : Op} {ty : TypeId} {pos : String} {af : Array Edge} {l : List Oper} {v : Value} {j : Nat} {b : Bool} (hg : gval ops fr j = some b)
    (hn : NEV E o fr U v) (he : zs.contains i = false) (hd : Nat.ble (d + 1) E.n = true)
    (h : EVZ E K k ops zs (i + 1) l ((d, v) :: fr) U) : EVZ E K k ops zs i (⟨some d, o, ty, pos, af, some (j, b)⟩ :: l) fr U :=
  z_take he hd (fun a w hf hm => .inl ⟨by simp [Region.wanted, gval_yielded hf hg], fun _ hw => hw ▸ hn a w _ _ _ _ _ hf hm⟩) h

theorem z_no {d : Nat} {o : Op} {ty : TypeId} {pos : String} {af : Array Edge} {l : List Oper} {j : Nat} {b b' : Bool} (hg : gval ops fr j = some b') (hb : Bool.xor b b' = true)
    (he : zs.contains i = false) (hd : Nat.ble (d + 1) E.n = true)
    (h : EVZ E K k ops zs (i + 1) l ((d, undef) :: fr) U) : EVZ E K k ops zs i (⟨some d, o, ty, pos, af, some (j, b)⟩ :: l) fr U :=
  z_take he hd (fun a w hf _ => .inr ⟨by
    simp only [Region.wanted, gval_yielded hf hg]
    cases b <;> cases b' <;> first | rfl | (simp at hb), rfl⟩) h

theorem z_noN {d : Nat} {o : Op} {ty : TypeId} {pos : String} {af : Array Edge} {l : List Oper} {j : Nat} {b : Bool} (hg : gno ops fr j = true)
    (he : zs.contains i = false) (hd : Nat.ble (d + 1) E.n = true)
    (h : EVZ E K k ops zs (i + 1) l ((d, undef) :: fr) U) : EVZ E K k ops zs i (⟨some d, o, ty, pos, af, some (j, b)⟩ :: l) fr U :=
  z_take he hd (fun a w hf _ => .inr ⟨by simp only [Region.wanted, gno_yielded hf hg]; rfl, rfl⟩) h

theorem z_dec (b' : Bool) {d : Option Tmp} {o : Op} {ty : TypeId} {pos : String} {af : Array Edge} {l : List Oper} {j : Nat} {b : Bool} (_hg : gval ops fr j = some b')
    (h : EVZ E K k ops zs i (⟨d, o, ty, pos, af, some (j, b)⟩ :: l) fr U) : EVZ E K k ops zs i (⟨d, o, ty, pos, af, some (j, b)⟩ :: l) fr U := h

theorem z_part {d : Option Tmp} {o : Op} {ty : TypeId} {pos : String} {af : Array Edge} {l : List Oper} {j s : Nat} {b t : Bool}
    (_hs : (ops[j]?).bind (·.dst) = some s) (hl : look fr s = some (.bool t))
    (h1 : t = true → EVZ E K k ops zs i (⟨d, o, ty, pos, af, some (j, b)⟩ :: l) ((s, .bool true) :: fr) U)
    (h2 : t = false → EVZ E K k ops zs i (⟨d, o, ty, pos, af, some (j, b)⟩ :: l) ((s, .bool false) :: fr) U) : EVZ E K k ops zs i (⟨d, o, ty, pos, af, some (j, b)⟩ :: l) fr U := by
  intro h0 h3 a w hf hm
  cases t
  · exact h2 rfl h0 h3 a w (hf.again hl) hm
  · exact h1 rfl h0 h3 a w (hf.again hl) hm

theorem z_act {d : Option Tmp} {o : Op} {ty : TypeId} {pos : String} {af : Array Edge} {g : Option (Nat × Bool)} {l : List Oper} (he : zs.contains i = true)
    (hw : ∀ a, Fr E fr a → Region.wanted ⟨d, o, ty, pos, af, g⟩ (yielded ops a.tmps) = true)
    (h : EV1 E ⟨d, o, ty, pos, af, g⟩ fr U (EVZ E K k ops zs (i + 1) l)) : EVZ E K k ops zs i (⟨d, o, ty, pos, af, g⟩ :: l) fr U := by
  intro hph hl a w hf hm
  obtain ⟨hlt, hi, hl'⟩ := drop_at hl
  obtain ⟨hr, hz⟩ := phOk_e hph hlt he
  rw [show ops.size - i = (ops.size - (i + 1)) + 1 from by omega]
  refine ⟨fun h0 => (by rw [hr] at h0; cases h0), ?_⟩
  intro j hj
  rw [hr, List.mem_singleton] at hj
  subst hj
  unfold wpOp
  simp only [hi, hw a hf, if_true]
  refine .inl (Oper.wp_mono2 ?_ (h a w hf hm))
  rintro a' w' ⟨fr', U', hk, hf', hm'⟩
  refine ⟨fun _ => ?_, fun hne => absurd hz.symm hne⟩
  rw [lst_succ]
  exact wpAny_of_Z _ _ _ _ (hk hph hl' a' w' hf' hm')

theorem z_e {d : Option Tmp} {o : Op} {ty : TypeId} {pos : String} {af : Array Edge} {l : List Oper} (he : zs.contains i = true)
    (h : EV1 E ⟨d, o, ty, pos, af, none⟩ fr U (EVZ E K k ops zs (i + 1) l)) : EVZ E K k ops zs i (⟨d, o, ty, pos, af, none⟩ :: l) fr U :=
  z_act he (fun _ _ => rfl) h

theorem z_ey {d : Option Tmp} {o : Op} {ty : TypeId} {pos : String} {af : Array Edge} {l : List Oper} {j : Nat} {b : Bool} (hg : gval ops fr j = some b) (he : zs.contains i = true)
    (h : EV1 E ⟨d, o, ty, pos, af, some (j, b)⟩ fr U (EVZ E K k ops zs (i + 1) l)) : EVZ E K k ops zs i (⟨d, o, ty, pos, af, some (j, b)⟩ :: l) fr U :=
  z_act he (fun a hf => by simp [Region.wanted, gval_yielded hf hg]) h

/-- A branch whose ways meet again behind it. -/
theorem s_condJ {x : Operand} {c d : Code} {t : Bool} {ι : Type} (frX : ι → Frm) (UX : ι → List Asn) (hv : val fr x = some (.bool t))
    (h1 : t = true → (∀ y, EVS E K k (frX y) (UX y)) → EVS E K (.code c :: k) fr U) (h2 : t = false → (∀ y, EVS E K k (frX y) (UX y)) → EVS E K (.code d :: k) fr U)
    (hfin : ∀ y, EVS E K k (frX y) (UX y)) : EVS E K (.code (.cond x c d) :: k) fr U :=
  s_cond hv (fun h => h1 h hfin) (fun h => h2 h hfin)

theorem s_ent {c : Code} {V : List Asn} (he : Ent U V) (h : EVS E K (.code c :: k) fr V) : EVS E K (.code c :: k) fr U := fun a w hf hm => h a w hf (hm.ent he)

theorem Tak.right {A : Asn} : ∀ {L V V' : List Asn}, Tak A V V' → Tak A (L ++ V) (L ++ V')
  | [], _, _, h => h
  | _ :: _, _, _, h => .s (Tak.right h)

end Go.Proofs.Ytbfjnldneemmiab.E
