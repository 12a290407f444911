/-
  The engine, tenth part: regions of makers: operations that only make new memory come up in any order; the last operation waits for all.
-/
import Derived.Test.YtbfjnldneemmiabE9
namespace Go.Proofs.Ytbfjnldneemmiab.E
set_option linter.all false
variable {E : Env} {fr : Frm} {U V : List Asn} {K : Frm → List Asn → Prop} {k : List It} {ops : Array Oper}

/-- A maker: where its value goes; the makers whose blocks it names (itself among them); its value and what it owns, by those blocks. -/
structure Mk where
  d : Nat
  use : List Nat
  v : List Nat → Value
  A : List Nat → List Asn

def setB (B : Nat → Nat) (i b : Nat) : Nat → Nat := fun j => bif Nat.beq j i then b else B j
theorem setB_ne {B : Nat → Nat} {i b j : Nat} (h : j ≠ i) : setB B i b j = B j := by
  unfold setB
  cases hb : Nat.beq j i with
  | false => rfl
  | true => exact absurd (Nat.eq_of_beq_eq_true hb) h

def Mk.val (m : Mk) (B : Nat → Nat) : Value := m.v (m.use.map B)
def Mk.own (m : Mk) (B : Nat → Nat) : List Asn := m.A (m.use.map B)

def ownAll (ms : List Mk) (B : Nat → Nat) : List Nat → List Asn
  | [] => []
  | j :: js => (match ms[j]? with | some m => m.own B | none => []) ++ ownAll ms B js

/-- The region's shape, as a Bool. -/
def mkOk (ops : Array Oper) (ms : List Mk) (fr : Frm) : Bool :=
  Nat.beq ops.size (ms.length + 1) && (inOrder ops &&
  ((List.range ms.length).all (fun j => match ms[j]?, ops[j]? with
    | some m, some o => o.guard.isNone && ((look fr m.d).isNone && ((List.range ms.length).all (fun i => Nat.beq i j || match ms[i]? with
        | some m2 => !Nat.beq m.d m2.d
        | none => true) && m.use.all (fun u => Nat.beq u j || waits ops 12 j u)))
    | _, _ => false) &&
  match ops[ms.length]? with
    | some o => o.guard.isNone && (List.range ms.length).all (fun j => o.after.any (fun e => Region.binds .any e && Nat.beq e.on j))
    | none => false))

/-- A step of a maker, in whatever frame knows what it waits for. -/
def MkStep (E : Env) (ops : Array Oper) (ms : List Mk) (fr0 : Frm) (i : Nat) : Prop :=
  ∀ (o : Oper) (m : Mk), ops[i]? = some o → ms[i]? = some m → ∀ (B : Nat → Nat) (fr : Frm) (U : List Asn), Sub fr fr0 →
    (∀ e ∈ o.after, Region.binds .any e = true → ∀ m2, ms[e.on]? = some m2 → look fr m2.d = some (m2.val B)) →
    EV1 E o fr U (fun fr' U' => ∃ b, Sub fr' ((m.d, m.val (setB B i b)) :: fr) ∧ Ent U' (m.own (setB B i b) ++ U))

theorem mem_unlisted {n : Nat} {done : List Nat} {i : Nat} (hi : i < n) (hd : done.contains i = false) :
    ((List.range n).filter (fun j => !(i :: done).contains j)).length < ((List.range n).filter (fun j => !done.contains j)).length := by
  have h1 : (List.range n).filter (fun j => !(i :: done).contains j) = ((List.range n).filter (fun j => !done.contains j)).filter (fun j => !(j == i)) := by
    rw [List.filter_filter]
    congr 1
    funext j
    rw [List.contains_cons, Bool.not_or]
  rw [h1, List.length_filter_lt_length_iff_exists]
  refine ⟨i, ?_, by simp⟩
  rw [List.mem_filter]
  exact ⟨List.mem_range.2 hi, by rw [hd]; rfl⟩

theorem lset_get {done : List Nat} {j : Nat} (hj : j < ops.size) : (lset ops done).getD j false = done.contains j := by
  simp [lset, hj]
theorem lset_get_t {done : List Nat} {j : Nat} (hj : j < ops.size) : (lset ops done).getD j true = done.contains j := by
  simp [lset, hj]

theorem mkOk_spec {ms : List Mk} (h : mkOk ops ms fr = true) : ops.size = ms.length + 1 ∧ inOrder ops = true ∧
    (∀ (j : Nat) (m : Mk) (o : Oper), ms[j]? = some m → ops[j]? = some o → o.guard = none ∧ look fr m.d = none ∧ (∀ (i : Nat) (m2 : Mk), i ≠ j → ms[i]? = some m2 → m.d ≠ m2.d) ∧ (∀ u ∈ m.use, u = j ∨ waits ops 12 j u = true)) ∧
    (∀ (o : Oper), ops[ms.length]? = some o → o.guard = none ∧ ∀ j < ms.length, ∃ e ∈ o.after, Region.binds .any e = true ∧ e.on = j) := by
  simp only [mkOk, Bool.and_eq_true] at h
  obtain ⟨h1, h2, h3, h4⟩ := h
  refine ⟨Nat.eq_of_beq_eq_true h1, h2, ?_, ?_⟩
  · intro j m o hm ho
    have hj : j < ms.length := by
      rcases Nat.lt_or_ge j ms.length with h | h
      · exact h
      · rw [List.getElem?_eq_none h] at hm; cases hm
    have := List.all_eq_true.1 h3 j (List.mem_range.2 hj)
    simp only [hm, ho, Bool.and_eq_true] at this
    obtain ⟨a, b, c, d⟩ := this
    refine ⟨Option.isNone_iff_eq_none.1 a, Option.isNone_iff_eq_none.1 b, ?_, ?_⟩
    · intro i m2 hne hm2 he
      have hi : i < ms.length := by
        rcases Nat.lt_or_ge i ms.length with h | h
        · exact h
        · rw [List.getElem?_eq_none h] at hm2; cases hm2
      have := List.all_eq_true.1 c i (List.mem_range.2 hi)
      rw [hm2, Bool.or_eq_true] at this
      rcases this with h | h
      · exact hne (Nat.eq_of_beq_eq_true h)
      · simp [he] at h
    · intro u hu
      have := List.all_eq_true.1 d u hu
      rw [Bool.or_eq_true] at this
      exact this.imp Nat.eq_of_beq_eq_true id
  · intro o ho
    rw [ho] at h4
    simp only [Bool.and_eq_true] at h4
    refine ⟨Option.isNone_iff_eq_none.1 h4.1, fun j hj => ?_⟩
    have := List.all_eq_true.1 h4.2 j (List.mem_range.2 hj)
    obtain ⟨e, he, hb⟩ := Array.any_eq_true'.1 this
    rw [Bool.and_eq_true] at hb
    exact ⟨e, he, hb.1, Nat.eq_of_beq_eq_true hb.2⟩

theorem clo_lset {done : List Nat} (hdone : ∀ j ∈ done, ∀ o, ops[j]? = some o → ∀ e ∈ o.after, Region.binds .any e = true → done.contains e.on = true) (hin : inOrder ops = true) : Clo ops (lset ops done) := by
  intro m o ho hl e he hb
  have hm : m < ops.size := (Array.getElem?_eq_some_iff.1 ho).1
  rw [lset_get hm] at hl
  simp only [inOrder, List.all_eq_true, List.mem_range] at hin
  have h1 := hin m hm
  simp only [ho] at h1
  have h2 := Array.all_eq_true_iff_forall_mem.1 h1 e he
  rw [Nat.blt_eq] at h2
  rw [lset_get (by omega)]
  exact hdone m (by simpa using hl) o ho e he hb

theorem ownAll_set {ms : List Mk} {B : Nat → Nat} {i b : Nat} : ∀ {done : List Nat}, (∀ j ∈ done, ∀ (m : Mk), ms[j]? = some m → ∀ u ∈ m.use, u ≠ i) → ownAll ms (setB B i b) done = ownAll ms B done
  | [], _ => rfl
  | j :: done, h => by
    unfold ownAll
    rw [ownAll_set (fun j' hj' => h j' (List.mem_cons_of_mem _ hj'))]
    congr 1
    cases hm : ms[j]? with
    | none => rfl
    | some m =>
      simp only [Mk.own]
      congr 1
      apply List.map_congr_left
      intro u hu
      exact setB_ne (h j (List.mem_cons_self ..) m hm u hu)

theorem mk_core {ms : List Mk} {fr0 : Frm} {U0 : List Asn} (hok : mkOk ops ms fr0 = true) (hstep : ∀ i, i < ms.length → MkStep E ops ms fr0 i)
    (hlast : ∀ (o : Oper), ops[ms.length]? = some o → ∀ (B : Nat → Nat) (fr : Frm) (U : List Asn) (done : List Nat), Sub fr fr0 → (∀ (j : Nat) (m : Mk), ms[j]? = some m → look fr m.d = some (m.val B)) →
      (∀ j, j < ms.length → done.contains j = true) → done.Nodup → (∀ j ∈ done, j < ms.length) → Ent U (ownAll ms B done ++ U0) → EV1 E o fr U (EVS E K k)) :
    ∀ (fuel : Nat) (done : List Nat) (B : Nat → Nat) (fr : Frm) (U : List Asn) (a : Act) (w : World),
      ((List.range ops.size).filter (fun j => !done.contains j)).length ≤ fuel → done.Nodup → (∀ j ∈ done, j < ms.length) →
      (∀ j ∈ done, ∀ o, ops[j]? = some o → ∀ e ∈ o.after, Region.binds .any e = true → done.contains e.on = true) →
      Sub fr fr0 → (∀ j ∈ done, ∀ (m : Mk), ms[j]? = some m → look fr m.d = some (m.val B)) → Ent U (ownAll ms B done ++ U0) → Fr E fr a → Mem E U w →
      wpAny E.P .any ops (post E K k) fuel (lset ops done) a w := by
  obtain ⟨hsz, hin, hms, hla⟩ := mkOk_spec hok
  intro fuel
  induction fuel with
  | zero =>
    intro done B fr U a w hfu hnd hlt _ _ _ _ _ _
    have hnil : (List.range ops.size).filter (fun j => !done.contains j) = [] := List.length_eq_zero_iff.1 (by omega)
    rw [List.filter_eq_nil_iff] at hnil
    have := hnil ms.length (List.mem_range.2 (by omega))
    have h2 : done.contains ms.length = true := by
      cases hc : done.contains ms.length with
      | true => rfl
      | false => rw [hc] at this; exact absurd rfl this
    have := hlt ms.length (by simpa using h2)
    omega
  | succ fuel ih =>
    intro done B fr U a w hfu hnd hlt hcl hsub hlook hent hf hm
    have hclo := clo_lset hcl hin
    refine ⟨fun h0 => ?_, fun i hi => ?_⟩
    · exfalso
      have hall : ∀ j, j < ops.size → done.contains j = true := by
        intro j
        induction j using Nat.strongRecOn with
        | _ j ihj =>
          intro hj
          cases hc : done.contains j with
          | true => rfl
          | false =>
            exfalso
            have : j ∈ Region.ready .any ops (lset ops done) := by
              obtain ⟨o, ho⟩ : ∃ o, ops[j]? = some o := ⟨ops[j], Array.getElem?_eq_getElem hj⟩
              refine mem_ready.2 ⟨by rw [lset_get_t hj]; exact hc, o, ho, fun e he hb => ?_⟩
              simp only [inOrder, List.all_eq_true, List.mem_range] at hin
              have h1 := hin j hj
              simp only [ho] at h1
              have h2 := Array.all_eq_true_iff_forall_mem.1 h1 e he
              rw [Nat.blt_eq] at h2
              rw [lset_get (by omega)]
              exact ihj e.on h2 (by omega)
            rw [h0] at this; cases this
      have h1 := hall ms.length (by omega)
      have := hlt ms.length (by simpa using h1)
      omega
    · obtain ⟨hun, o, ho, hdep⟩ := mem_ready.1 hi
      have hio : i < ops.size := (Array.getElem?_eq_some_iff.1 ho).1
      rw [lset_get_t hio] at hun
      by_cases him : i < ms.length
      · obtain ⟨m, hmm⟩ : ∃ m, ms[i]? = some m := ⟨ms[i], List.getElem?_eq_getElem him⟩
        obtain ⟨hg, hbase, hdif, huse⟩ := hms i m o hmm ho
        have hdep' : ∀ e ∈ o.after, Region.binds .any e = true → done.contains e.on = true := fun e he hb => by
          have h1 := hdep e he hb
          simp only [inOrder, List.all_eq_true, List.mem_range] at hin
          have h2 := hin i hio
          simp only [ho] at h2
          have h3 := Array.all_eq_true_iff_forall_mem.1 h2 e he
          rw [Nat.blt_eq] at h3
          rw [lset_get (by omega)] at h1
          exact h1
        have hnu : ∀ j ∈ done, ∀ (m2 : Mk), ms[j]? = some m2 → ∀ u ∈ m2.use, u ≠ i := by
          intro j hj m2 hm2 u hu he
          subst he
          have hjm := hlt j hj
          obtain ⟨oj, hoj⟩ : ∃ oj, ops[j]? = some oj := ⟨ops[j], Array.getElem?_eq_getElem (by omega)⟩
          rcases (hms j m2 oj hm2 hoj).2.2.2 u hu with h | h
          · subst h
            rw [List.contains_eq_mem, decide_eq_false_iff_not] at hun
            exact hun hj
          · have := waits_listed hclo 12 j h (fun o' ho' e he hb => hclo j o' ho' (by rw [lset_get (by omega)]; simpa using hj) e he hb)
            rw [lset_get hio, hun] at this
            cases this
        have hst := hstep i him o m ho hmm B fr U hsub (fun e he hb m2 hm2 => hlook e.on (by simpa using hdep' e he hb) m2 hm2)
        unfold wpOp
        have hw : Region.wanted o (yielded ops a.tmps) = true := by simp [Region.wanted, hg]
        simp only [ho, hw, if_true]
        refine .inl (Oper.wp_mono2 ?_ (hst a w hf hm))
        rintro a' w' ⟨fr', U', ⟨b, hs', he'⟩, hf', hm'⟩
        rw [lset_cons]
        have hlook0 : ∀ (j : Nat) (m2 : Mk), j ≠ i → ms[j]? = some m2 → ∀ u, look fr m2.d = some u → look fr' m2.d = some u := by
          intro j m2 hj hm2 u hu
          refine hs' _ _ ?_
          have hne := hdif j m2 hj hm2
          simp only [look]
          cases hb : Nat.beq m.d m2.d with
          | true => exact absurd (Nat.eq_of_beq_eq_true hb) hne
          | false => exact hu
        refine ih (i :: done) (setB B i b) fr' U' a' w' ?_ ?_ ?_ ?_ ?_ ?_ ?_ hf' hm'
        · have := mem_unlisted hio hun
          omega
        · rw [List.nodup_cons]
          exact ⟨by rw [List.contains_eq_mem, decide_eq_false_iff_not] at hun; exact hun, hnd⟩
        · intro j hj
          rcases List.mem_cons.1 hj with h | h
          · rw [h]; exact him
          · exact hlt j h
        · intro j hj o' ho' e he hb
          rw [List.contains_cons, Bool.or_eq_true]
          rcases List.mem_cons.1 hj with h | h
          · rw [h, ho] at ho'
            cases ho'
            exact .inr (hdep' e he hb)
          · exact .inr (hcl j h o' ho' e he hb)
        · intro d u hu
          refine hs' d u ?_
          simp only [look]
          cases hb : Nat.beq m.d d with
          | true =>
            rw [← Nat.eq_of_beq_eq_true hb, hbase] at hu; cases hu
          | false => exact hsub d u hu
        · intro j hj m2 hm2
          rcases List.mem_cons.1 hj with h | h
          · subst h
            rw [hmm] at hm2
            cases hm2
            refine hs' _ _ ?_
            simp [look]
          · have hji : j ≠ i := fun e => by
              subst e
              rw [List.contains_eq_mem, decide_eq_false_iff_not] at hun
              exact hun h
            have h1 := hlook0 j m2 hji hm2 _ (hlook j h m2 hm2)
            rw [h1]
            congr 1
            unfold Mk.val
            congr 1
            apply List.map_congr_left
            intro u hu
            exact (setB_ne (hnu j h m2 hm2 u hu)).symm
        · refine he'.trans ?_
          show Ent _ (ownAll ms (setB B i b) (i :: done) ++ U0)
          unfold ownAll
          rw [hmm, ownAll_set hnu, List.append_assoc]
          exact Ent.app hent
      · have hie : i = ms.length := by omega
        subst hie
        obtain ⟨hg, hall⟩ := hla o ho
        have hcon : ∀ j, j < ms.length → done.contains j = true := by
          intro j hj
          obtain ⟨e, he, hb, hon⟩ := hall j hj
          have h1 := hdep e he hb
          rw [hon, lset_get (by omega)] at h1
          exact h1
        have hst := hlast o ho B fr U done hsub (fun j m hm => hlook j (by
          have hj : j < ms.length := by
            rcases Nat.lt_or_ge j ms.length with h | h
            · exact h
            · rw [List.getElem?_eq_none h] at hm; cases hm
          simpa using hcon j hj) m hm) hcon hnd hlt hent
        unfold wpOp
        have hw : Region.wanted o (yielded ops a.tmps) = true := by simp [Region.wanted, hg]
        simp only [ho, hw, if_true]
        refine .inl (Oper.wp_mono2 ?_ (hst a w hf hm))
        rintro a' w' ⟨fr', U', hk, hf', hm'⟩
        rw [lset_cons]
        refine wpAny_done ?_ ⟨fr', U', hk, hf', hm'⟩ fuel
        unfold Region.ready
        rw [List.filter_eq_nil_iff]
        intro j hj
        simp only [List.mem_range] at hj
        have : (lset ops (ms.length :: done)).getD j true = true := by
          rw [lset_get_t hj, List.contains_cons]
          by_cases h : j = ms.length
          · subst h; simp
          · rw [hcon j (by omega)]; simp
        simp [this]

/-! ### what the others keep -/
theorem put_keep {a : Act} {dst : Option Tmp} {v : Value} {t : Nat} (h : dst ≠ some t) : (a.put dst v).tmps[t]? = a.tmps[t]? := by
  cases dst with
  | none => rfl
  | some d =>
    have : d ≠ t := fun e => h (by rw [e])
    simp [Act.put, Array.getElem?_setIfInBounds_ne this]

theorem wp_keep {P : Program} {o : Oper} {a : Act} {w : World} {N : Act → World → Prop} (hh : o.wp P a w N (fun _ _ _ => False)) :
    o.wp P a w (fun a' w' => N a' w' ∧ ∀ t, o.dst ≠ some t → a'.tmps[t]? = a.tmps[t]?) (fun _ _ _ => False) := by
  unfold Oper.wp at *
  generalize (execOp a.eval o).run P w = r at *
  cases r with
  | ok n w' =>
    cases n <;> simp only [Oper.upon] at hh ⊢ <;>
      first
        | exact ⟨hh, fun t ht => put_keep ht⟩
        | exact Calls.mono hh (fun e w'' he => by
            cases e with
            | returned v => exact ⟨he, fun t ht => put_keep ht⟩
            | panicked c => exact he.elim
            | outgrown => exact he)
        | exact Rows.mono hh (fun _ _ he => ⟨he, fun t ht => put_keep ht⟩)
  | halt x w' => cases x <;> simp only [Oper.upon] at hh ⊢ <;> exact hh

/-- What a maker waits for, as a frame. -/
def depFr (ms : List Mk) (B : Nat → Nat) : List Nat → Frm → Frm
  | [], fr => fr
  | j :: js, fr => match ms[j]? with
    | some m => (m.d, m.val B) :: depFr ms B js fr
    | none => depFr ms B js fr

theorem depFr_sub {ms : List Mk} {B : Nat → Nat} {fr0 : Frm} (hs : Sub fr fr0) : ∀ (js : List Nat), (∀ j ∈ js, ∀ m, ms[j]? = some m → look fr m.d = some (m.val B)) → Sub fr (depFr ms B js fr0)
  | [], _ => hs
  | j :: js, h => by
    unfold depFr
    have ih := depFr_sub hs js (fun j' hj' => h j' (List.mem_cons_of_mem _ hj'))
    cases hm : ms[j]? with
    | none => exact ih
    | some m => exact Sub.cons (h j (List.mem_cons_self ..) m hm) ih

theorem mk_step {ms : List Mk} {fr0 : Frm} {i : Nat} (deps : List Nat) {o : Oper} {m : Mk} (ho : ops[i]? = some o) (hm : ms[i]? = some m) (hd : o.dst = some m.d)
    (hdeps : deps.all (fun j => o.after.any (fun e => Region.binds .any e && Nat.beq e.on j)) = true)
    (h : ∀ (B : Nat → Nat) (U : List Asn), EV1 E o (depFr ms B deps fr0) U (fun fr' U' => ∃ b, look fr' m.d = some (m.val (setB B i b)) ∧ Ent U' (m.own (setB B i b) ++ U))) : MkStep E ops ms fr0 i := by
  intro o' m' ho' hm' B fr U hsub hlk
  rw [ho] at ho'
  rw [hm] at hm'
  cases ho'
  cases hm'
  have hs := depFr_sub (ms := ms) (B := B) hsub deps (fun j hj m2 hm2 => by
    obtain ⟨e, he, hb⟩ := Array.any_eq_true'.1 (List.all_eq_true.1 hdeps j hj)
    rw [Bool.and_eq_true] at hb
    have hon := Nat.eq_of_beq_eq_true hb.2
    exact hlk e he hb.1 m2 (by rw [hon]; exact hm2))
  intro a w hf hmm
  refine Oper.wp_mono2 ?_ (wp_keep (h B U a w (hf.sub hs) hmm))
  rintro a' w' ⟨⟨fr', U', ⟨b, hl, he⟩, hf', hm'⟩, hkeep⟩
  refine ⟨(m.d, m.val (setB B i b)) :: fr, U', ⟨b, Sub.refl _, he⟩, ⟨hf'.defers, hf'.size, fun t u hu => ?_⟩, hm'⟩
  simp only [look] at hu
  cases hb : Nat.beq m.d t with
  | true =>
    rw [hb] at hu
    have := Nat.eq_of_beq_eq_true hb
    subst this
    rw [← hu]
    exact hf'.frm _ _ hl
  | false =>
    rw [hb] at hu
    rw [hkeep t (by rw [hd]; intro e; cases e; simp at hb)]
    exact hf.frm t u hu

theorem Ent.comm3 : ∀ {L M R : List Asn}, Ent (L ++ (M ++ R)) (M ++ (L ++ R))
  | [], _, _ => Ent.refl _
  | _ :: _, _, _ => (Ent.cons Ent.comm3).trans Ent.mid

theorem ownAll_perm {ms : List Mk} {B : Nat → Nat} {l l' : List Nat} (h : l.Perm l') : ∀ U, Ent (ownAll ms B l ++ U) (ownAll ms B l' ++ U) := by
  induction h with
  | nil => exact fun U => Ent.refl _
  | cons x _ ih =>
    intro U
    simp only [ownAll, List.append_assoc]
    exact Ent.app (ih U)
  | swap x y l =>
    intro U
    simp only [ownAll, List.append_assoc]
    exact Ent.comm3
  | trans _ _ ih1 ih2 => exact fun U => (ih1 U).trans (ih2 U)

/-- **A region of makers.** -/
theorem s_mk {id : Nat} (ms : List Mk) (hmx : E.P.follows .mixedOrders = true) (hok : mkOk ops ms fr = true) (hstep : ∀ i, i < ms.length → MkStep E ops ms fr i)
    {o : Oper} (ho : ops[ms.length]? = some o)
    (hlast : ∀ (B : Nat → Nat), EV1 E o (depFr ms B (List.range ms.length) fr) (ownAll ms B (List.range ms.length) ++ U) (EVS E K k)) : EVS E K (.code (.region id ops true) :: k) fr U := by
  intro a w hf hmem
  refine wp_region_any hmx ?_
  have := mk_core (U0 := U) hok hstep (K := K) (k := k) (fun o' ho' B fr' U' done hsub hlk hcon hnd hlt hent a' w' hf' hm' => by
    rw [ho] at ho'
    cases ho'
    have hp : done.Perm (List.range ms.length) := by
      rw [List.perm_ext_iff_of_nodup hnd List.nodup_range]
      intro j
      constructor
      · intro hj; exact List.mem_range.2 (hlt j hj)
      · intro hj; have := hcon j (List.mem_range.1 hj); simpa using this
    exact hlast B a' w' (hf'.sub (depFr_sub hsub _ (fun j _ m hm => hlk j m hm))) (hm'.ent (hent.trans (ownAll_perm hp U))))
    ops.size [] (fun _ => 0) fr U a { w with drawn := w.drawn + 1 } (by
      have := List.length_filter_le (fun j => !([] : List Nat).contains j) (List.range ops.size)
      rw [List.length_range] at this
      exact this) List.nodup_nil (fun j hj => by cases hj) (fun j hj => by cases hj) (Sub.refl _) (fun j hj => by cases hj) (Ent.refl _) hf hmem.drew
  rw [lset_nil] at this
  exact this

/-! ### elements of several cells -/
/-- make([]T, n), an element of any size. -/
theorem o_makeS {N : Frm → List Asn → Prop} {d : Nat} {t e : TypeId} {x y : Operand} {ty : TypeId} {pos : String} {af : Array Edge} {g : Option (Nat × Bool)} {s1 b1 : Nat} {z1 : List Value} {i : TI} {cs : List Value}
    {k1 k2 : IntKind} {q q' : Int}
    (ht : tl E.T t = some ⟨.slice e, s1, b1, z1⟩) (he : tl E.T e = some i) (hx : val fr x = some (.int k1 q)) (hy : val fr y = some (.int k2 q'))
    (n : Nat) (hq : q = (n : Int)) (hq' : q' = (n : Int)) (hb : i.bytes * n ≤ 281474976710656) (h63 : n ≤ 9223372036854775807) (hd : Nat.ble (d + 1) E.n = true)
    (hcs : ((List.range (n * i.size)).map fun j => i.zero[j % i.zero.length]!) = cs)
    (h : ∀ b, N ((d, .slice (some ⟨b, 0, none⟩) n n) :: fr) (osl e i.size (.slice (some ⟨b, 0, none⟩) n n) n cs :: U)) : EV1 E ⟨some d, .makeSlice t x y, ty, pos, af, g⟩ fr U N := by
  intro a w hf hm
  obtain ⟨dd, sz, bytes, z⟩ := i
  obtain ⟨inf, zv, hinf, hz, hs, hby, hzc⟩ := ti_info he
  subst hq; subst hq'
  have hbi : (inf.bytes : Int) * (n : Int) ≤ 281474976710656 := by
    rw [hby]
    have : ((bytes * n : Nat) : Int) ≤ 281474976710656 := by simp only at hb; omega
    rwa [Int.natCast_mul] at this
  have hr := run_make (P := E.P) w t e inf zv (u_slice ht) hinf hz k1 k2 n n (by omega) (Int.le_refl _) hbi (by omega)
  have hcl : (madeCells zv.cells ((n : Int).toNat * inf.size)) = cs.toArray := by
    rw [hs, Int.toNat_natCast, hzc, ← hcs]
    apply Array.toList_inj.1
    simp [madeCells]
  rw [hcl, Int.toNat_natCast] at hr
  have hlen : cs.length = n * sz := by rw [← hcs]; simp
  unfold Oper.wp execOp
  simp only [hf.eval hx, hf.eval hy, Sem.run_bind, hr, Result.andThen_ok, Sem.run_pure]
  refine ⟨_, _, h w.heap.size, hf.put (Nat.le_of_ble_eq_true hd) _, hm.new (step_alloc w _) (osl_alloc (by rw [maxLen_eq]; exact h63) hlen) ?_⟩
  rintro b rfl; simp

/-- A slice of one's own, read: elements of several cells, whose own parts are read elsewhere. -/
theorem osl_elsG {α : Type} {kd : Kd α} {e : TypeId} {A : Option Addr} {n c : Nat} {xs : List α} {ess : List (List Value)} {w : World} {S1 S : BSet} (h : (osl e kd.sz (.slice A n c) n ess.flatten).P w S1) (hS : ∀ b, S1 b → S b)
    (hl : ess.length = xs.length) (hn : n = xs.length) (hR : ∀ i (h1 : i < ess.length) (h2 : i < xs.length), kd.R w S ess[i] xs[i]) : Els kd w S A xs ∧ xs.length ≤ c := by
  obtain ⟨⟨hlen, h2⟩, hSS⟩ := h
  subst hn
  have hsz : ∀ es ∈ ess, es.length = kd.sz := by
    intro es hes
    obtain ⟨i, hi, rfl⟩ := List.getElem_of_mem hes
    exact kd.len (hR i hi (by omega))
  have hflat : ∀ (ess : List (List Value)), (∀ es ∈ ess, es.length = kd.sz) → ∀ i (hi : i < ess.length) j u, ess[i][j]? = some u → ess.flatten[i * kd.sz + j]? = some u := by
    intro ess
    induction ess with
    | nil => intro _ i hi; simp at hi
    | cons e0 ess ih =>
      intro hall i hi j u hu
      have h0 := hall e0 (List.mem_cons_self ..)
      rw [List.flatten_cons]
      cases i with
      | zero =>
        have hj : j < e0.length := by
          rcases Nat.lt_or_ge j e0.length with h | h
          · exact h
          · rw [List.getElem_cons_zero, List.getElem?_eq_none h] at hu; cases hu
        rw [Nat.zero_mul, Nat.zero_add, List.getElem?_append_left hj]
        exact hu
      | succ i =>
        have : (i + 1) * kd.sz + j = e0.length + (i * kd.sz + j) := by rw [h0, Nat.succ_mul]; omega
        rw [this, List.getElem?_append_right (by omega), Nat.add_sub_cancel_left]
        exact ih (fun es hes => hall es (List.mem_cons_of_mem _ hes)) i (by simpa using hi) j u (by simpa using hu)
  rcases h2 with ⟨h3, h4⟩ | ⟨g, cap, cur, hv, _, hg, hnc, _, _, htake⟩
  · refine ⟨fun i hi => by omega, by omega⟩
  · simp only [Value.slice.injEq] at hv
    obtain ⟨rfl, _, rfl⟩ := hv
    refine ⟨fun i hi => ⟨g, 0, ess[i]'(by omega), rfl, hS g (hSS g rfl), hR i (by omega) hi, ?_⟩, hnc⟩
    intro j u hu
    rw [cell_of_row w g _ cur e _ hg, Nat.zero_add]
    have h5 := hflat ess hsz i (by omega) j u hu
    rw [← htake, List.getElem?_take] at h5
    split at h5
    · simpa using h5
    · cases h5

end Go.Proofs.Ytbfjnldneemmiab.E
