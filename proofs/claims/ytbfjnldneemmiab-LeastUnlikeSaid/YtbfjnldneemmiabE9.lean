/-
  The engine, ninth part: regions that draw, with barriers: between two barriers a condition V stays true; at a barrier all may change.
-/
import Derived.Test.YtbfjnldneemmiabE8
namespace Go.Proofs.Ytbfjnldneemmiab.E
set_option linter.all false
variable {E : Env} {fr : Frm} {U V : List Asn} {K : Frm → List Asn → Prop} {k : List It} {ops : Array Oper}

/-- Until z comes up S stays true. -/
def wpAnyB (P : Program) (ops : Array Oper) (Q : Exit → Act → World → Prop) (z : Nat) (S : World → Prop) : Nat → Array Bool → Act → World → Prop
  | 0, listed, a, w => Region.ready .any ops listed = [] ∧ Q .normal a w
  | fuel + 1, listed, a, w =>
    (Region.ready .any ops listed = [] → Q .normal a w) ∧
    ∀ i ∈ Region.ready .any ops listed, wpOp P ops Q i (fun a' w' => (i = z → wpAny P .any ops Q fuel (listed.setIfInBounds i true) a' w') ∧
      (i ≠ z → S w' ∧ wpAnyB P ops Q z S fuel (listed.setIfInBounds i true) a' w')) a w

section
variable {P : Program} {Q : Exit → Act → World → Prop} {z : Nat} {S : World → Prop}

theorem wpAny_of_B : ∀ (fuel : Nat) (listed : Array Bool) (a : Act) (w : World), wpAnyB P ops Q z S fuel listed a w → wpAny P .any ops Q fuel listed a w
  | 0, _, _, _, h => h
  | fuel + 1, _, _, _, h => ⟨h.1, fun i hi => wpOp_mono (fun a' w' h' => by
      by_cases hz : i = z
      · exact h'.1 hz
      · exact wpAny_of_B fuel _ a' w' (h'.2 hz).2) (h.2 i hi)⟩

/-- Does m wait for i, at once or through others? -/
def waits (ops : Array Oper) : Nat → Nat → Nat → Bool
  | 0, _, _ => false
  | f + 1, m, i => match ops[m]? with
    | none => false
    | some o => o.after.any fun e => Region.binds .any e && (Nat.beq e.on i || waits ops f e.on i)

/-- What is listed has all that it waits for listed. -/
def Clo (ops : Array Oper) (listed : Array Bool) : Prop :=
  ∀ (m : Nat) (o : Oper), ops[m]? = some o → listed.getD m false = true → ∀ e ∈ o.after, Region.binds .any e = true → listed.getD e.on false = true

theorem waits_listed {listed : Array Bool} (hc : Clo ops listed) {i : Nat} : ∀ (f m : Nat), waits ops f m i = true →
    (∀ o, ops[m]? = some o → ∀ e ∈ o.after, Region.binds .any e = true → listed.getD e.on false = true) → listed.getD i false = true
  | 0, _, h, _ => by simp [waits] at h
  | f + 1, m, h, hm => by
    unfold waits at h
    cases ho : ops[m]? with
    | none => simp [ho] at h
    | some o =>
      simp only [ho] at h
      obtain ⟨e, he, hb⟩ := Array.any_eq_true'.1 h
      simp only [Bool.and_eq_true, Bool.or_eq_true] at hb
      have hl := hm o ho e he hb.1
      rcases hb.2 with h2 | h2
      · rw [← Nat.eq_of_beq_eq_true h2]; exact hl
      · exact waits_listed hc f e.on h2 (fun o' ho' e' he' hb' => hc e.on o' ho' hl e' he' hb')

theorem Clo.set {listed : Array Bool} (hc : Clo ops listed) {j : Nat} (hj : j ∈ Region.ready .any ops listed) : Clo ops (listed.setIfInBounds j true) := by
  obtain ⟨_, oj, hoj, hall⟩ := mem_ready.1 hj
  intro m o ho hl e he hb
  by_cases hmj : j = m
  · subst hmj
    rw [hoj] at ho
    cases ho
    exact getD_set_true (hall e he hb)
  · rw [getD_set_ne false hmj] at hl
    exact getD_set_true (hc m o ho hl e he hb)

theorem wpAnyB_first {i : Nat} {oi : Oper} {v : Value} (hi : ops[i]? = some oi) (hsel : ∀ (j : Nat) (o : Oper) cs b, ops[j]? = some o → o.op ≠ .select cs b)
    (hQ : ∀ c a w, Q (.panic c) (a.put oi.dst v) w → Q (.panic c) a w) (hiz : i ≠ z)
    (hz : z < ops.size → ∃ f, waits ops f z i = true) :
    ∀ (fuel : Nat) (listed : Array Bool) (a : Act) (w : World), Clo ops listed →
      (∀ j oj, ops[j]? = some oj → j ≠ i → listed.getD j true = false → (∀ e ∈ oj.after, Region.binds .any e = true → e.on ≠ i) → oi.apart ops oj = true) →
      i ∈ Region.ready .any ops listed → YieldsIf P ops S oi v a → S w →
      wpAnyB P ops Q z S fuel (listed.setIfInBounds i true) (a.put oi.dst v) w → wpAnyB P ops Q z S (fuel + 1) listed a w := by
  intro fuel
  induction fuel with
  | zero =>
    intro listed a w _ _ hr hy hS H
    refine ⟨fun h => (by rw [h] at hr; cases hr), fun j hj => ?_⟩
    by_cases hji : j = i
    · subst hji; exact hy.wpOp hi hS ⟨fun h => absurd h hiz, fun _ => ⟨hS, H⟩⟩
    · have := ready_mono hj hji
      rw [H.1] at this
      cases this
  | succ fuel ih =>
    intro listed a w hclo hfree hr hy hS H
    refine ⟨fun h => (by rw [h] at hr; cases hr), fun j hj => ?_⟩
    by_cases hji : j = i
    · subst hji; exact hy.wpOp hi hS ⟨fun h => absurd h hiz, fun _ => ⟨hS, H⟩⟩
    · have h1 := H.2 j (ready_mono hj hji)
      obtain ⟨hjun, oj, hoj, hall⟩ := mem_ready.1 hj
      have hnot : ∀ e ∈ oj.after, Region.binds .any e = true → e.on ≠ i := fun e he hb heq => by
        have h1 := hall e he hb
        have h0 := (mem_ready.1 hr).1
        rw [heq] at h1
        rcases Nat.lt_or_ge i listed.size with h' | h'
        · simp [h'] at h0 h1; rw [h0] at h1; cases h1
        · simp [Array.getElem?_eq_none h'] at h1
      have hjz : j ≠ z := fun e => by
        subst e
        obtain ⟨f, hf⟩ := hz (Array.getElem?_eq_some_iff.1 hoj).1
        have h1 := waits_listed hclo f j hf (fun o ho => by rw [hoj] at ho; cases ho; exact hall)
        have h0 := (mem_ready.1 hr).1
        rcases Nat.lt_or_ge i listed.size with h' | h'
        · simp [h'] at h0 h1; rw [h0] at h1; cases h1
        · simp [Array.getElem?_eq_none h'] at h1
      have h2 := wpOp_putIf hoj (hfree j oj hoj hji hjun hnot) (fun cs b => hsel i oi cs b hi) (fun cs b => hsel j oj cs b hoj) hQ hy h1
      have hfree' : ∀ k ok, ops[k]? = some ok → k ≠ i → (listed.setIfInBounds j true).getD k true = false →
          (∀ e ∈ ok.after, Region.binds .any e = true → e.on ≠ i) → oi.apart ops ok = true := fun k ok hk hki hun hno => by
        refine hfree k ok hk hki ?_ hno
        by_cases hjk : j = k
        · subst hjk; exact hjun
        · rw [getD_set_ne true hjk] at hun; exact hun
      refine wpOp_mono (fun a' w' h3 => ⟨fun h => absurd h hjz, fun _ => ⟨(h3.2.2 hjz).1, ?_⟩⟩) h2
      have h4 := h3.2.2 hjz
      refine ih (listed.setIfInBounds j true) a' w' (hclo.set hj) hfree' (ready_mono hr (Ne.symm hji)) h3.1 h4.1 ?_
      rw [Array.setIfInBounds_comm _ _ hji]
      exact h4.2
end

def inOrder (ops : Array Oper) : Bool := (List.range ops.size).all fun m => match ops[m]? with
  | none => true
  | some o => o.after.all fun e => Nat.blt e.on m

/-- zs: the barriers; es: what else acts. -/
def baOk (ops : Array Oper) (zs es : List Nat) : Bool :=
  (Region.noSelect ops && inOrder ops) && (List.range ops.size).all fun i =>
    bif zs.contains i then Region.ready .any ops (lst ops i) == [i] && Nat.beq (nextz ops.size zs i) i else
    bif es.contains i then Region.ready .any ops (lst ops i) == [i] && !Nat.beq (nextz ops.size zs i) i else
      (Region.ready .any ops (lst ops i)).contains i && (Region.free .any ops (lst ops i) i && (!Nat.beq (nextz ops.size zs i) i &&
        (!Nat.blt (nextz ops.size zs i) ops.size || waits ops 4 (nextz ops.size zs i) i)))

theorem clo_lst {ops : Array Oper} (h : inOrder ops = true) (i : Nat) : Clo ops (lst ops i) := by
  intro m o ho hl e he _
  have hm : m < ops.size := (Array.getElem?_eq_some_iff.1 ho).1
  simp only [inOrder, List.all_eq_true, List.mem_range] at h
  have h1 := h m hm
  simp only [ho] at h1
  have h2 := Array.all_eq_true_iff_forall_mem.1 h1 e he
  rw [Nat.blt_eq] at h2
  have h3 : m < i := by
    simp [lst, hm] at hl
    exact hl
  have h4 : e.on < ops.size := by omega
  simp [lst, h4]
  omega

def EVB (E : Env) (K : Frm → List Asn → Prop) (k : List It) (ops : Array Oper) (zs es : List Nat) (V : List Asn) (i : Nat) (l : List Oper) (fr : Frm) (U : List Asn) : Prop :=
  baOk ops zs es = true → ops.toList.drop i = l → ∀ a w, Fr E fr a → Mem E U w → wpAnyB E.P ops (post E K k) (nextz ops.size zs i) (fun w => Mem E V w) (ops.size - i) (lst ops i) a w

variable {zs es : List Nat} {i : Nat}

theorem s_drawB {id : Nat} (zs es : List Nat) (V : List Asn) (hm : E.P.follows .mixedOrders = true) (hph : baOk ops zs es = true) (h : EVB E K k ops zs es V 0 ops.toList fr U) :
    EVS E K (.code (.region id ops true) :: k) fr U := by
  intro a w hf hmem
  refine wp_region_any hm ?_
  have := h hph rfl a { w with drawn := w.drawn + 1 } hf hmem.drew
  rw [lst_zero, Nat.sub_zero] at this
  exact wpAny_of_B _ _ _ _ this

theorem b_nil (h : EVS E K k fr U) : EVB E K k ops zs es V i [] fr U := by
  intro _ hl a w hf hm
  have hsz : ops.size ≤ i := by
    have := congrArg List.length hl
    simp at this; omega
  have hr : Region.ready .any ops (lst ops i) = [] := by
    unfold Region.ready
    rw [List.filter_eq_nil_iff]
    intro j hj
    simp only [List.mem_range] at hj
    have : (lst ops i).getD j true = true := by
      simp [lst, hj, Nat.blt_eq]; omega
    simp [this]
  rw [Nat.sub_eq_zero_of_le hsz]
  exact ⟨hr, fr, U, h, hf, hm⟩

theorem baOk_s (h : baOk ops zs es = true) : Region.noSelect ops = true ∧ inOrder ops = true := by
  simp only [baOk, Bool.and_eq_true] at h; exact h.1

theorem baOk_n (h : baOk ops zs es = true) {i : Nat} (hi : i < ops.size) (hz : zs.contains i = false) (he : es.contains i = false) :
    (Region.ready .any ops (lst ops i)).contains i = true ∧ Region.free .any ops (lst ops i) i = true ∧ i ≠ nextz ops.size zs i ∧
      (nextz ops.size zs i < ops.size → ∃ f, waits ops f (nextz ops.size zs i) i = true) := by
  simp only [baOk, Bool.and_eq_true, List.all_eq_true, List.mem_range] at h
  have := h.2 i hi
  simp only [hz, he, cond_false, Bool.and_eq_true] at this
  refine ⟨this.1, this.2.1, ?_, ?_⟩
  · intro e
    have := this.2.2.1
    rw [← e] at this
    simp at this
  · intro hlt
    have h2 := this.2.2.2
    rw [Bool.or_eq_true] at h2
    rcases h2 with h2 | h2
    · have : Nat.blt (nextz ops.size zs i) ops.size = true := by rw [Nat.blt_eq]; exact hlt
      rw [this] at h2; cases h2
    · exact ⟨4, h2⟩

theorem baOk_z (h : baOk ops zs es = true) {i : Nat} (hi : i < ops.size) (hz : zs.contains i = true) : Region.ready .any ops (lst ops i) = [i] ∧ nextz ops.size zs i = i := by
  simp only [baOk, Bool.and_eq_true, List.all_eq_true, List.mem_range] at h
  have := h.2 i hi
  simp only [hz, cond_true, Bool.and_eq_true] at this
  exact ⟨eq_of_beq this.1, Nat.eq_of_beq_eq_true this.2⟩

theorem baOk_e (h : baOk ops zs es = true) {i : Nat} (hi : i < ops.size) (hz : zs.contains i = false) (he : es.contains i = true) : Region.ready .any ops (lst ops i) = [i] ∧ i ≠ nextz ops.size zs i := by
  simp only [baOk, Bool.and_eq_true, List.all_eq_true, List.mem_range] at h
  have := h.2 i hi
  simp only [hz, he, cond_true, cond_false, Bool.and_eq_true] at this
  refine ⟨eq_of_beq this.1, fun e => ?_⟩
  have h2 := this.2
  rw [← e] at h2
  simp at h2

theorem b_take {d : Nat} {o : Op} {ty : TypeId} {pos : String} {af : Array Edge} {g : Option (Nat × Bool)} {l : List Oper} {v : Value}
    (hz : zs.contains i = false) (he : es.contains i = false) (hV : Ent U V) (hd : Nat.ble (d + 1) E.n = true)
    (hy : ∀ a, Fr E fr a → YieldsIf E.P ops (fun w => Mem E V w) ⟨some d, o, ty, pos, af, g⟩ v a)
    (h : EVB E K k ops zs es V (i + 1) l ((d, v) :: fr) U) : EVB E K k ops zs es V i (⟨some d, o, ty, pos, af, g⟩ :: l) fr U := by
  intro hph hl a w hf hm
  obtain ⟨hlt, hi, hl'⟩ := drop_at hl
  obtain ⟨hr, hfree, hne, hzz⟩ := baOk_n hph hlt hz he
  rw [show ops.size - i = (ops.size - (i + 1)) + 1 from by omega]
  have key := h hph hl' _ w (hf.put (Nat.le_of_ble_eq_true hd) v) hm
  rw [nextz_succ zs ops.size i hne hz, ← lst_succ] at key
  exact wpAnyB_first hi (Region.noSelect_spec (baOk_s hph).1) (fun c a w h => post_panic h) hne hzz _ _ _ _ (clo_lst (baOk_s hph).2 i) (Region.free_spec hi hfree) (by simpa using hr) (hy a hf) (hm.ent hV) key

theorem b_n {d : Nat} {o : Op} {ty : TypeId} {pos : String} {af : Array Edge} {l : List Oper} {v : Value}
    (hn : NEV E o fr V v) (hz : zs.contains i = false) (he : es.contains i = false) (hV : Ent U V) (hd : Nat.ble (d + 1) E.n = true)
    (h : EVB E K k ops zs es V (i + 1) l ((d, v) :: fr) U) : EVB E K k ops zs es V i (⟨some d, o, ty, pos, af, none⟩ :: l) fr U :=
  b_take hz he hV hd (fun a hf => .inl ⟨rfl, fun w hw => hn a w _ _ _ _ _ hf hw⟩) h

theorem b_ny {d : Nat} {o : Op} {ty : TypeId} {pos : String} {af : Array Edge} {l : List Oper} {v : Value} {j : Nat} {b : Bool} (hg : gval ops fr j = some b)
    (hn : NEV E o fr V v) (hz : zs.contains i = false) (he : es.contains i = false) (hV : Ent U V) (hd : Nat.ble (d + 1) E.n = true)
    (h : EVB E K k ops zs es V (i + 1) l ((d, v) :: fr) U) : EVB E K k ops zs es V i (⟨some d, o, ty, pos, af, some (j, b)⟩ :: l) fr U :=
  b_take hz he hV hd (fun a hf => .inl ⟨by simp [Region.wanted, gval_yielded hf hg], fun w hw => hn a w _ _ _ _ _ hf hw⟩) h

theorem b_no {d : Nat} {o : Op} {ty : TypeId} {pos : String} {af : Array Edge} {l : List Oper} {j : Nat} {b b' : Bool} (hg : gval ops fr j = some b') (hb : Bool.xor b b' = true)
    (hz : zs.contains i = false) (he : es.contains i = false) (hV : Ent U V) (hd : Nat.ble (d + 1) E.n = true)
    (h : EVB E K k ops zs es V (i + 1) l ((d, undef) :: fr) U) : EVB E K k ops zs es V i (⟨some d, o, ty, pos, af, some (j, b)⟩ :: l) fr U :=
  b_take hz he hV hd (fun a hf => .inr ⟨by
    simp only [Region.wanted, gval_yielded hf hg]
    cases b <;> cases b' <;> first | rfl | (simp at hb), rfl⟩) h

theorem b_noN {d : Nat} {o : Op} {ty : TypeId} {pos : String} {af : Array Edge} {l : List Oper} {j : Nat} {b : Bool} (hg : gno ops fr j = true)
    (hz : zs.contains i = false) (he : es.contains i = false) (hV : Ent U V) (hd : Nat.ble (d + 1) E.n = true)
    (h : EVB E K k ops zs es V (i + 1) l ((d, undef) :: fr) U) : EVB E K k ops zs es V i (⟨some d, o, ty, pos, af, some (j, b)⟩ :: l) fr U :=
  b_take hz he hV hd (fun a hf => .inr ⟨by simp only [Region.wanted, gno_yielded hf hg]; rfl, rfl⟩) h

theorem b_dec (b' : Bool) {d : Option Tmp} {o : Op} {ty : TypeId} {pos : String} {af : Array Edge} {l : List Oper} {j : Nat} {b : Bool} (_hg : gval ops fr j = some b')
    (h : EVB E K k ops zs es V i (⟨d, o, ty, pos, af, some (j, b)⟩ :: l) fr U) : EVB E K k ops zs es V i (⟨d, o, ty, pos, af, some (j, b)⟩ :: l) fr U := h

theorem b_part {d : Option Tmp} {o : Op} {ty : TypeId} {pos : String} {af : Array Edge} {l : List Oper} {j s : Nat} {b t : Bool}
    (_hs : (ops[j]?).bind (·.dst) = some s) (hl : look fr s = some (.bool t))
    (h1 : t = true → EVB E K k ops zs es V i (⟨d, o, ty, pos, af, some (j, b)⟩ :: l) ((s, .bool true) :: fr) U)
    (h2 : t = false → EVB E K k ops zs es V i (⟨d, o, ty, pos, af, some (j, b)⟩ :: l) ((s, .bool false) :: fr) U) : EVB E K k ops zs es V i (⟨d, o, ty, pos, af, some (j, b)⟩ :: l) fr U := by
  intro h0 h3 a w hf hm
  cases t
  · exact h2 rfl h0 h3 a w (hf.again hl) hm
  · exact h1 rfl h0 h3 a w (hf.again hl) hm

/-- An operation that acts, and leaves V. -/
theorem b_e {d : Option Tmp} {o : Op} {ty : TypeId} {pos : String} {af : Array Edge} {l : List Oper} (hz : zs.contains i = false) (he : es.contains i = true)
    (h : EV1 E ⟨d, o, ty, pos, af, none⟩ fr U (fun fr' U' => Ent U' V ∧ EVB E K k ops zs es V (i + 1) l fr' U')) : EVB E K k ops zs es V i (⟨d, o, ty, pos, af, none⟩ :: l) fr U := by
  intro hph hl a w hf hm
  obtain ⟨hlt, hi, hl'⟩ := drop_at hl
  obtain ⟨hr, hne⟩ := baOk_e hph hlt hz he
  rw [show ops.size - i = (ops.size - (i + 1)) + 1 from by omega]
  refine ⟨fun h0 => (by rw [hr] at h0; cases h0), ?_⟩
  intro j hj
  rw [hr, List.mem_singleton] at hj
  subst hj
  unfold wpOp
  have hw : Region.wanted ⟨d, o, ty, pos, af, none⟩ (yielded ops a.tmps) = true := rfl
  simp only [hi, hw, if_true]
  refine .inl (Oper.wp_mono2 ?_ (h a w hf hm))
  rintro a' w' ⟨fr', U', ⟨he', hk⟩, hf', hm'⟩
  refine ⟨fun e => absurd e hne, fun _ => ⟨hm'.ent he', ?_⟩⟩
  have key := hk hph hl' a' w' hf' hm'
  rw [nextz_succ zs ops.size j hne hz, ← lst_succ] at key
  exact key

/-- A barrier: all may change. -/
theorem b_z {d : Option Tmp} {o : Op} {ty : TypeId} {pos : String} {af : Array Edge} {l : List Oper} (hz : zs.contains i = true)
    (h : EV1 E ⟨d, o, ty, pos, af, none⟩ fr U (fun fr' U' => ∃ V2, EVB E K k ops zs es V2 (i + 1) l fr' U')) : EVB E K k ops zs es V i (⟨d, o, ty, pos, af, none⟩ :: l) fr U := by
  intro hph hl a w hf hm
  obtain ⟨hlt, hi, hl'⟩ := drop_at hl
  obtain ⟨hr, hzz⟩ := baOk_z hph hlt hz
  rw [show ops.size - i = (ops.size - (i + 1)) + 1 from by omega]
  refine ⟨fun h0 => (by rw [hr] at h0; cases h0), ?_⟩
  intro j hj
  rw [hr, List.mem_singleton] at hj
  subst hj
  unfold wpOp
  have hw : Region.wanted ⟨d, o, ty, pos, af, none⟩ (yielded ops a.tmps) = true := rfl
  simp only [hi, hw, if_true]
  refine .inl (Oper.wp_mono2 ?_ (h a w hf hm))
  rintro a' w' ⟨fr', U', ⟨V2, hk⟩, hf', hm'⟩
  refine ⟨fun _ => ?_, fun hne => absurd hzz.symm hne⟩
  rw [lst_succ]
  exact wpAny_of_B _ _ _ _ (hk hph hl' a' w' hf' hm')

/-- An empty slice is owned for nothing. -/
theorem Ent.osl0 {e : TypeId} {sz : Nat} (h : Ent U V) : Ent U (osl e sz (.slice none 0 0) 0 [] :: V) := fun w S hs =>
  ⟨fun _ => False, S, ⟨⟨by simp, .inl ⟨rfl, rfl⟩⟩, fun k hk => by simp [Value.ownBlock] at hk⟩, h w S hs, fun _ hb => hb.elim, fun _ hb => hb.elim, fun _ hb => hb⟩

end Go.Proofs.Ytbfjnldneemmiab.E
