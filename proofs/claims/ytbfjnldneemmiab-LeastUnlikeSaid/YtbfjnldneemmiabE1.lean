/-
  The engine, first part: assertions over owned blocks, frames as lists, the judgements for code, regions and calls, and the rules that do not touch memory.
-/
import Derived.OrdersHeld
import Derived.Tactics
namespace Go.Proofs.Ytbfjnldneemmiab.E
set_option linter.all false

abbrev BSet := Nat → Prop

/-- An assertion on a world and the blocks that it owns; it looks at no other block. -/
structure Asn where
  P : World → BSet → Prop
  fr : ∀ (w w' : World) (S : BSet), (∀ b, S b → w'.heap[b]? = w.heap[b]?) → P w S → P w' S

def star : List Asn → World → BSet → Prop
  | [], _, _ => True
  | A :: U, w, S => ∃ S1 S2 : BSet, A.P w S1 ∧ star U w S2 ∧ (∀ b, S1 b → ¬ S2 b) ∧ (∀ b, S1 b → S b) ∧ (∀ b, S2 b → S b)

theorem star_fr : ∀ (U : List Asn) (w w' : World) (S : BSet), (∀ b, S b → w'.heap[b]? = w.heap[b]?) → star U w S → star U w' S
  | [], _, _, _, _, _ => trivial
  | A :: U, w, w', S, h, hs => by
    obtain ⟨S1, S2, h1, h2, hd, i1, i2⟩ := hs
    exact ⟨S1, S2, A.fr w w' S1 (fun b hb => h b (i1 b hb)) h1, star_fr U w w' S2 (fun b hb => h b (i2 b hb)) h2, hd, i1, i2⟩

theorem star_mono {U : List Asn} {w : World} {S S' : BSet} (h : ∀ b, S b → S' b) (hs : star U w S) : star U w S' := by
  cases U with
  | nil => trivial
  | cons A U =>
    obtain ⟨S1, S2, h1, h2, hd, i1, i2⟩ := hs
    exact ⟨S1, S2, h1, h2, hd, fun b hb => h b (i1 b hb), fun b hb => h b (i2 b hb)⟩

theorem star_append {U V : List Asn} {w : World} {S1 S2 : BSet} (h1 : star U w S1) (h2 : star V w S2) (hd : ∀ b, S1 b → ¬ S2 b) :
    star (U ++ V) w (fun b => S1 b ∨ S2 b) := by
  induction U generalizing S1 with
  | nil => exact star_mono (fun b hb => .inr hb) h2
  | cons A U ih =>
    obtain ⟨T1, T2, g1, g2, gd, i1, i2⟩ := h1
    refine ⟨T1, fun b => T2 b ∨ S2 b, g1, ih g2 (fun b hb => hd b (i2 b hb)), ?_, fun b hb => .inl (i1 b hb), ?_⟩
    · rintro b hb (h | h)
      · exact gd b hb h
      · exact hd b (i1 b hb) h
    · rintro b (h | h)
      · exact .inl (i2 b h)
      · exact .inr h

theorem star_split {U V : List Asn} {w : World} {S : BSet} (h : star (U ++ V) w S) :
    ∃ S1 S2, star U w S1 ∧ star V w S2 ∧ (∀ b, S1 b → ¬ S2 b) ∧ (∀ b, S1 b → S b) ∧ (∀ b, S2 b → S b) := by
  induction U generalizing S with
  | nil => exact ⟨fun _ => False, S, trivial, h, fun _ h => h.elim, fun _ h => h.elim, fun _ h => h⟩
  | cons A U ih =>
    obtain ⟨T1, T2, g1, g2, gd, i1, i2⟩ := h
    obtain ⟨S1, S2, a1, a2, ad, j1, j2⟩ := ih g2
    refine ⟨fun b => T1 b ∨ S1 b, S2, ⟨T1, S1, g1, a1, fun b hb hc => gd b hb (j1 b hc), fun b hb => .inl hb, fun b hb => .inr hb⟩, a2, ?_, ?_, fun b hb => i2 b (j2 b hb)⟩
    · rintro b (hb | hb) hc
      · exact gd b hb (j2 b hc)
      · exact ad b hb hc
    · rintro b (hb | hb)
      · exact i1 b hb
      · exact i2 b (j1 b hb)

/-- U has A at some place, and U' is U with A' there. -/
inductive Upd (A A' : Asn) : List Asn → List Asn → Prop
  | z {U} : Upd A A' (A :: U) (A' :: U)
  | s {B U U'} : Upd A A' U U' → Upd A A' (B :: U) (B :: U')

/-- U has A at some place, and U' is what is left. -/
inductive Tak (A : Asn) : List Asn → List Asn → Prop
  | z {U} : Tak A (A :: U) U
  | s {B U U'} : Tak A U U' → Tak A (B :: U) (B :: U')

theorem Upd.star {A A' : Asn} {U U' : List Asn} (h : Upd A A' U U') {w : World} {S : BSet} (hs : star U w S) :
    ∃ S1, A.P w S1 ∧ (∀ b, S1 b → S b) ∧ ∀ (w' : World) (T1 : BSet), A'.P w' T1 → (∀ b, T1 b → ¬ S b ∨ S1 b) → (∀ b, S b → ¬ S1 b → w'.heap[b]? = w.heap[b]?) →
      star U' w' (fun b => S b ∨ T1 b) := by
  induction h generalizing S with
  | z =>
    obtain ⟨S1, S2, h1, h2, hd, i1, i2⟩ := hs
    refine ⟨S1, h1, i1, fun w' T1 hT hsub hsame => ⟨T1, S2, hT, star_fr _ _ _ _ (fun b hb => hsame b (i2 b hb) (fun h => hd b h hb)) h2, ?_, fun b hb => .inr hb, fun b hb => .inl (i2 b hb)⟩⟩
    intro b hb hc
    rcases hsub b hb with h | h
    · exact h (i2 b hc)
    · exact hd b h hc
  | @s B U U' _ ih =>
    obtain ⟨S1, S2, h1, h2, hd, i1, i2⟩ := hs
    obtain ⟨R1, r1, ri, rk⟩ := ih h2
    refine ⟨R1, r1, fun b hb => i2 b (ri b hb), fun w' T1 hT hsub hsame => ?_⟩
    refine ⟨S1, fun b => S2 b ∨ T1 b, B.fr _ _ _ (fun b hb => hsame b (i1 b hb) (fun h => hd b hb (ri b h))) h1, rk w' T1 hT ?_ (fun b hb hn => hsame b (i2 b hb) hn), ?_, fun b hb => .inl (i1 b hb), ?_⟩
    · intro b hb
      rcases hsub b hb with h | h
      · exact .inl (fun h2 => h (i2 b h2))
      · exact .inr h
    · rintro b hb (hc | hc)
      · exact hd b hb hc
      · rcases hsub b hc with h | h
        · exact h (i1 b hb)
        · exact hd b hb (ri b h)
    · rintro b (hb | hb)
      · exact .inl (i2 b hb)
      · exact .inr hb

theorem Tak.star {A : Asn} {U U' : List Asn} (h : Tak A U U') {w : World} {S : BSet} (hs : star U w S) : star (A :: U') w S := by
  induction h generalizing S with
  | z => exact hs
  | s _ ih =>
    obtain ⟨S1, S2, h1, h2, hd, i1, i2⟩ := hs
    obtain ⟨T1, T2, g1, g2, gd, j1, j2⟩ := ih h2
    refine ⟨T1, fun b => S1 b ∨ T2 b, g1, ⟨S1, T2, h1, g2, fun b hb hc => hd b hb (j2 b hc), fun b hb => .inl hb, fun b hb => .inr hb⟩, ?_, fun b hb => i2 b (j1 b hb), ?_⟩
    · rintro b hb (hc | hc)
      · exact hd b hc (j1 b hb)
      · exact gd b hb hc
    · rintro b (hb | hb)
      · exact i1 b hb
      · exact i2 b (j2 b hb)

theorem Tak.mem {A : Asn} {U U' : List Asn} (h : Tak A U U') {w : World} {S : BSet} (hs : E.star U w S) : ∃ S1, A.P w S1 ∧ ∀ b, S1 b → S b := by
  obtain ⟨S1, _, h1, _, _, i1, _⟩ := h.star hs
  exact ⟨S1, h1, i1⟩

/-- A block of the heap that is owned. -/
def own (b : Nat) (o : Obj) : Asn where
  P := fun w S => S b ∧ w.heap[b]? = some o
  fr := fun _ _ _ h ⟨h1, h2⟩ => ⟨h1, (h b h1).trans h2⟩

/-- A row of cells. -/
abbrev blk (b : Nat) (T : TypeId) (cs : List Value) : Asn := own b (.cells cs.toArray T)

/-! ### frames -/
abbrev Frm := List (Nat × Value)

def look : Frm → Nat → Option Value
  | [], _ => none
  | (d, v) :: fr, k => bif Nat.beq d k then some v else look fr k

def val (fr : Frm) : Operand → Option Value
  | .tmp t => look fr t
  | .const v => some v
  | .global g => some (.pointer (some ⟨g, 0, none⟩))
  | .func f => some (.func (.func f) #[] #[])

/-- What is known of a type. -/
inductive TD where
  | int (k : IntKind)
  | bool
  | str
  | struct (fs : List (Nat × Nat))
  | slice (e : TypeId)
  | arr (n : Nat) (e : TypeId)
  | map (k e : TypeId)
  | ptr (e : TypeId)
  | other

structure TI where
  d : TD
  size : Nat
  bytes : Nat
  zero : List Value

def tdOf (P : Program) : TypeDesc → TD
  | .int k => .int k
  | .bool => .bool
  | .string => .str
  | .struct fs => .struct (fs.toList.map fun f => (f.offset, P.cellsOf f.type))
  | .slice e => .slice e
  | .array n e => .arr n e
  | .map k e => .map k e
  | .pointer e => .ptr e
  | _ => .other

def tiOf (P : Program) (t : TypeId) : Option TI :=
  match P.info? t, P.underlying t with
  | some i, some d => match i.zero with
    | some z => some ⟨tdOf P d, i.size, i.bytes, z.cells.toList⟩
    | none => none
  | _, _ => none

abbrev Tab := List (Nat × TI)

def tl : Tab → Nat → Option TI
  | [], _ => none
  | (t, i) :: r, k => bif Nat.beq t k then some i else tl r k

def TabOk (P : Program) (T : Tab) : Prop := ∀ e ∈ T, tiOf P e.1 = some e.2

theorem tabOk_of {P : Program} {T : Tab} (h : T.map (fun e => tiOf P e.1) = T.map (fun e => some e.2)) : TabOk P T := by
  induction T with
  | nil => intro e he; cases he
  | cons x T ih =>
    simp only [List.map_cons, List.cons.injEq] at h
    intro e he
    rcases List.mem_cons.1 he with rfl | he
    · exact h.1
    · exact ih h.2 e he

theorem tl_mem {T : Tab} {t : Nat} {i : TI} (h : tl T t = some i) : (t, i) ∈ T := by
  induction T with
  | nil => simp [tl] at h
  | cons x T ih =>
    obtain ⟨k, j⟩ := x
    simp only [tl] at h
    cases hk : Nat.beq k t with
    | true =>
      have := Nat.eq_of_beq_eq_true hk
      simp only [hk, cond_true, Option.some.injEq] at h
      subst this; subst h; exact List.mem_cons_self
    | false => simp only [hk, cond_false] at h; exact List.mem_cons_of_mem _ (ih h)

/-- The place of a proof: the program, the table of its types, the frame's size, the world at the beginning, the blocks that were handed over. -/
structure Env where
  P : Program
  T : Tab
  hT : TabOk P T
  n : Nat
  w0 : World
  SM : BSet

variable {E : Env}

theorem Env.ti {t : TypeId} {i : TI} (h : tl E.T t = some i) : tiOf E.P t = some i := E.hT _ (tl_mem h)

/-- A block that was there, and was not handed over. -/
def Env.ro (E : Env) : BSet := fun b => b < E.w0.heap.size ∧ ¬ E.SM b

structure Mem (E : Env) (U : List Asn) (w : World) : Prop where
  os : w.os = E.w0.os
  tape : w.tape = E.w0.tape
  output : w.output = E.w0.output
  size : E.w0.heap.size ≤ w.heap.size
  same : ∀ b, E.ro b → w.heap[b]? = E.w0.heap[b]?
  own : ∃ S, star U w S ∧ ∀ b, S b → b < w.heap.size ∧ (E.w0.heap.size ≤ b ∨ E.SM b)

structure Fr (E : Env) (fr : Frm) (a : Act) : Prop where
  defers : a.defers = []
  size : a.tmps.size = E.n
  frm : ∀ d v, look fr d = some v → a.tmps[d]? = some v

theorem Fr.eval {fr : Frm} {a : Act} (h : Fr E fr a) {x : Operand} {v : Value} (hv : val fr x = some v) : a.eval x = v := by
  cases x with
  | tmp t => simp only [val] at hv; have := h.frm t v hv; simp [Act.eval, this]
  | const u => simpa [val, Act.eval] using hv
  | global g => simpa [val, Act.eval] using hv
  | func f => simpa [val, Act.eval] using hv

theorem Fr.put {fr : Frm} {a : Act} (h : Fr E fr a) {d : Nat} (hd : d < E.n) (v : Value) : Fr E ((d, v) :: fr) (a.put (some d) v) := by
  refine ⟨h.defers, by simp [Act.put, h.size], fun k u hk => ?_⟩
  simp only [look] at hk
  cases hb : Nat.beq d k with
  | true =>
    have := Nat.eq_of_beq_eq_true hb
    simp only [hb, cond_true, Option.some.injEq] at hk
    subst this; subst hk
    simp [Act.put, h.size, hd]
  | false =>
    have hne : d ≠ k := fun e => by subst e; simp at hb
    simp only [hb, cond_false] at hk
    simp only [Act.put, Array.getElem?_setIfInBounds_ne hne]
    exact h.frm k u hk

/-- A slot that is written with what nobody needs. -/
theorem Fr.put_none {fr : Frm} {a : Act} (h : Fr E fr a) (v : Value) : Fr E fr (a.put none v) := h

def drop (fr : Frm) (d : Nat) : Frm := fr.filter fun p => !(Nat.beq p.1 d)

theorem look_drop {fr : Frm} {d k : Nat} {v : Value} (h : look (drop fr d) k = some v) : k ≠ d ∧ look fr k = some v := by
  induction fr with
  | nil => simp [drop, look] at h
  | cons x fr ih =>
    obtain ⟨e, u⟩ := x
    simp only [drop, List.filter_cons] at h
    cases hb : Nat.beq e d with
    | true =>
      have h2 := Nat.eq_of_beq_eq_true hb
      subst h2
      simp only [hb, Bool.not_true, Bool.false_eq_true, if_false] at h
      obtain ⟨h1, h3⟩ := ih h
      refine ⟨h1, ?_⟩
      have : Nat.beq e k = false := by
        cases hh : Nat.beq e k with
        | true => exact absurd (Nat.eq_of_beq_eq_true hh).symm h1
        | false => rfl
      simp only [look, this, cond_false]; exact h3
    | false =>
      simp only [hb, Bool.not_false, if_true, look] at h
      cases hk : Nat.beq e k with
      | true =>
        have h2 := Nat.eq_of_beq_eq_true hk
        subst h2
        simp only [hk, cond_true] at h
        exact ⟨fun e2 => by subst e2; simp at hb, by simp only [look, hk, cond_true]; exact h⟩
      | false =>
        simp only [hk, cond_false] at h
        obtain ⟨h1, h3⟩ := ih h
        exact ⟨h1, by simp only [look, hk, cond_false]; exact h3⟩

theorem Fr.put_drop {fr : Frm} {a : Act} (h : Fr E fr a) (d : Nat) (v : Value) : Fr E (drop fr d) (a.put (some d) v) := by
  refine ⟨h.defers, by simp [Act.put, h.size], fun k u hk => ?_⟩
  obtain ⟨hne, hl⟩ := look_drop hk
  simp only [Act.put, Array.getElem?_setIfInBounds_ne (Ne.symm hne)]
  exact h.frm k u hl

/-! ### judgements -/

/-- In the state an operation leaves v, and does nothing else. -/
def NEV (E : Env) (o : Op) (fr : Frm) (U : List Asn) (v : Value) : Prop :=
  ∀ a w (dst : Option Tmp) (ty : TypeId) (pos : String) (af : Array Edge) (g : Option (Nat × Bool)), Fr E fr a → Mem E U w → (execOp a.eval ⟨dst, o, ty, pos, af, g⟩).run E.P w = .ok (.value v) w

/-- An operation, carried out. -/
def EV1 (E : Env) (o : Oper) (fr : Frm) (U : List Asn) (K : Frm → List Asn → Prop) : Prop :=
  ∀ a w, Fr E fr a → Mem E U w → o.wp E.P a w (fun a' w' => ∃ fr' U', K fr' U' ∧ Fr E fr' a' ∧ Mem E U' w') (fun _ _ _ => False)

/-- What stands behind a piece of code. -/
inductive It where
  | code (c : Code)
  | blk (id : Nat)
  | back (R : Frm → List Asn → Prop)

def EVX (E : Env) (K : Frm → List Asn → Prop) : Exit → List It → Frm → List Asn → Prop
  | .normal, [], fr, U => K fr U
  | .normal, .code c :: k, fr, U => ∀ a w, Fr E fr a → Mem E U w → c.wp E.P (fun e a' w' => ∃ fr' U', EVX E K e k fr' U' ∧ Fr E fr' a' ∧ Mem E U' w') a w
  | .normal, .blk _ :: k, fr, U => EVX E K .normal k fr U
  | .normal, .back R :: _, fr, U => R fr U
  | .exit _, [], _, _ => False
  | .exit id, .code _ :: k, fr, U => EVX E K (.exit id) k fr U
  | .exit id, .back _ :: k, fr, U => EVX E K (.exit id) k fr U
  | .exit id, .blk id' :: k, fr, U => bif Nat.beq id id' then EVX E K .normal k fr U else EVX E K (.exit id) k fr U
  | .ret, _, fr, U => K fr U
  | _, _, _, _ => False

abbrev EVS (E : Env) (K : Frm → List Asn → Prop) (k : List It) (fr : Frm) (U : List Asn) : Prop := EVX E K .normal k fr U

def post (E : Env) (K : Frm → List Asn → Prop) (k : List It) : Exit → Act → World → Prop :=
  fun e a' w' => ∃ fr' U', EVX E K e k fr' U' ∧ Fr E fr' a' ∧ Mem E U' w'

/-- The rest of a region, in the text's order. -/
def EVO (E : Env) (K : Frm → List Asn → Prop) (k : List It) (ops : Array Oper) (l : List Oper) (fr : Frm) (U : List Asn) : Prop :=
  ∀ a w, Fr E fr a → Mem E U w → wpList E.P ops (post E K k) l a w

variable {K : Frm → List Asn → Prop} {k : List It} {fr : Frm} {U : List Asn}

theorem EVX_ret (k : List It) : EVX E K .ret k fr U = K fr U := by
  cases k with
  | nil => rfl
  | cons x k => cases x <;> rfl

theorem s_seq {a b : Code} (h : EVS E K (.code a :: .code b :: k) fr U) : EVS E K (.code (.seq a b) :: k) fr U := by
  intro x w hf hm
  refine wp_seq (wp_mono (h x w hf hm) ?_)
  rintro e a' w' ⟨fr', U', he, hf', hm'⟩
  cases e with
  | normal => exact he a' w' hf' hm'
  | exit id => exact ⟨fr', U', he, hf', hm'⟩
  | goto l => exact he.elim
  | ret => exact ⟨fr', U', by rw [EVX_ret] at he ⊢; exact he, hf', hm'⟩
  | panic c => exact he.elim
  | outgrown => exact he.elim

theorem s_skip (h : EVS E K k fr U) : EVS E K (.code .skip :: k) fr U :=
  fun _ _ hf hm => wp_skip ⟨fr, U, h, hf, hm⟩

theorem s_ret (h : K fr U) : EVS E K (.code .ret :: k) fr U :=
  fun _ _ hf hm => wp_ret ⟨fr, U, by rw [EVX_ret]; exact h, hf, hm⟩

theorem s_exit {id : Nat} (h : EVX E K (.exit id) k fr U) : EVS E K (.code (.exit id) :: k) fr U :=
  fun _ _ hf hm => wp_exit ⟨fr, U, h, hf, hm⟩

theorem x_code {id : Nat} {c : Code} (h : EVX E K (.exit id) k fr U) : EVX E K (.exit id) (.code c :: k) fr U := h
theorem x_back {id : Nat} {R : Frm → List Asn → Prop} (h : EVX E K (.exit id) k fr U) : EVX E K (.exit id) (.back R :: k) fr U := h
theorem x_hit {id : Nat} (h : EVS E K k fr U) : EVX E K (.exit id) (.blk id :: k) fr U := by
  simp only [EVX, Nat.beq_refl, cond_true]; exact h
theorem x_miss {id id' : Nat} (hne : Nat.beq id id' = false) (h : EVX E K (.exit id) k fr U) : EVX E K (.exit id) (.blk id' :: k) fr U := by
  simp only [EVX, hne, cond_false]; exact h

theorem s_end {id : Nat} (h : EVS E K k fr U) : EVS E K (.blk id :: k) fr U := h
theorem s_nil (h : K fr U) : EVS E K [] fr U := h
theorem s_back {R : Frm → List Asn → Prop} (h : R fr U) : EVS E K (.back R :: k) fr U := h

theorem s_block {id : Nat} {c : Code} (h : EVS E K (.code c :: .blk id :: k) fr U) : EVS E K (.code (.block id c) :: k) fr U := by
  intro x w hf hm
  refine wp_block (wp_mono (h x w hf hm) ?_)
  rintro e a' w' ⟨fr', U', he, hf', hm'⟩
  cases e with
  | normal => exact ⟨fr', U', he, hf', hm'⟩
  | exit id' =>
    simp only [Exit.inBlock]
    simp only [EVX] at he
    by_cases hid : id' = id
    · subst hid; simp only [Nat.beq_refl, cond_true] at he; rw [if_pos rfl]; exact ⟨fr', U', he, hf', hm'⟩
    · have : Nat.beq id' id = false := by
        cases hh : Nat.beq id' id with
        | true => exact absurd (Nat.eq_of_beq_eq_true hh) hid
        | false => rfl
      simp only [this, cond_false] at he
      rw [if_neg hid]; exact ⟨fr', U', he, hf', hm'⟩
  | goto l => exact he.elim
  | ret => exact ⟨fr', U', by rw [EVX_ret] at he ⊢; exact he, hf', hm'⟩
  | panic c => exact he.elim
  | outgrown => exact he.elim

theorem s_cond {c : Operand} {x y : Code} {t : Bool} (hc : val fr c = some (.bool t)) (h1 : t = true → EVS E K (.code x :: k) fr U)
    (h2 : t = false → EVS E K (.code y :: k) fr U) : EVS E K (.code (.cond c x y) :: k) fr U :=
  fun _ _ hf hm => wp_cond_split (hf.eval hc) (fun ht => h1 ht _ _ hf hm) (fun ht => h2 ht _ _ hf hm)

theorem s_true {c : Operand} {x y : Code} (hc : val fr c = some (.bool true)) (h1 : EVS E K (.code x :: k) fr U) : EVS E K (.code (.cond c x y) :: k) fr U :=
  s_cond hc (fun _ => h1) (fun h => Bool.noConfusion h)
theorem s_false {c : Operand} {x y : Code} (hc : val fr c = some (.bool false)) (h1 : EVS E K (.code y :: k) fr U) : EVS E K (.code (.cond c x y) :: k) fr U :=
  s_cond hc (fun h => Bool.noConfusion h) (fun _ => h1)

theorem s_region {id : Nat} {ops : Array Oper} (h : EVO E K k ops ops.toList fr U) : EVS E K (.code (.region id ops false) :: k) fr U :=
  fun a w hf hm => wp_region_list (h a w hf hm)

theorem e_nil {ops : Array Oper} (h : EVS E K k fr U) : EVO E K k ops [] fr U :=
  fun _ _ hf hm => wpList_nil ⟨fr, U, h, hf, hm⟩

/-! A guard: what the frame says of it. -/
def gval (ops : Array Oper) (fr : Frm) (j : Nat) : Option Bool :=
  match (ops[j]?).bind (·.dst) with
  | some t => match look fr t with
    | some (.bool b) => some b
    | _ => none
  | none => none

theorem gval_yielded {ops : Array Oper} {j : Nat} {b : Bool} {a : Act} (hf : Fr E fr a) (h : gval ops fr j = some b) : yielded ops a.tmps j = some b := by
  unfold gval at h
  unfold yielded
  cases hd : (ops[j]?).bind (·.dst) with
  | none => simp [hd] at h
  | some t =>
    simp only [hd] at h
    cases hl : look fr t with
    | none => simp [hl] at h
    | some v =>
      rw [hl] at h
      have := hf.frm t v hl
      cases v <;> simp_all

theorem wpList_go {P : Program} {ops : Array Oper} {Q : Exit → Act → World → Prop} {a : Act} {w : World} {rest : List Oper} {o : Oper}
    (hw : Region.wanted o (yielded ops a.tmps) = true) (h : o.wp P a w (wpList P ops Q rest) Q) : wpList P ops Q (o :: rest) a w := by
  unfold wpList; rw [if_pos hw]; exact .inl h

theorem Oper.wp_mono2 {P : Program} {o : Oper} {a : Act} {w : World} {N N' : Act → World → Prop} {Q : Exit → Act → World → Prop} (h : ∀ a w, N a w → N' a w)
    (hh : o.wp P a w N (fun _ _ _ => False)) : o.wp P a w N' Q := by
  unfold Oper.wp at *
  generalize (execOp a.eval o).run P w = r at *
  cases r with
  | ok n w' =>
    cases n <;> simp only [Oper.upon] at hh ⊢ <;>
      first
        | exact h _ _ hh
        | exact Calls.mono hh (fun e w'' he => by
            cases e with
            | returned v => exact h _ _ he
            | panicked c => exact he.elim
            | outgrown => exact he.elim fun _ h => h.elim fun _ h => h.elim)
        | exact Rows.mono hh (fun _ _ he => h _ _ he)
  | halt x w' => cases x <;> simp only [Oper.upon] at hh <;> exact hh.elim

/-- The next operation, which has no guard. -/
theorem e_op {ops : Array Oper} {d : Option Tmp} {o : Op} {ty : TypeId} {pos : String} {af : Array Edge} {l : List Oper} 
    (h : EV1 E ⟨d, o, ty, pos, af, none⟩ fr U (fun fr' U' => EVO E K k ops l fr' U')) : EVO E K k ops (⟨d, o, ty, pos, af, none⟩ :: l) fr U := by
  intro a w hf hm
  refine wpList_go rfl (Oper.wp_mono2 ?_ (h a w hf hm))
  rintro a' w' ⟨fr', U', hk, hf', hm'⟩
  exact hk a' w' hf' hm'

/-- The next operation has a guard that lets it by. -/
theorem e_yes {ops : Array Oper} {d : Option Tmp} {o : Op} {ty : TypeId} {pos : String} {af : Array Edge} {l : List Oper} {j : Nat} {b : Bool}
    (hg : gval ops fr j = some b)
    (h : EV1 E ⟨d, o, ty, pos, af, some (j, b)⟩ fr U (fun fr' U' => EVO E K k ops l fr' U')) : EVO E K k ops (⟨d, o, ty, pos, af, some (j, b)⟩ :: l) fr U := by
  intro a w hf hm
  refine wpList_go (by simp [Region.wanted, gval_yielded hf hg]) (Oper.wp_mono2 ?_ (h a w hf hm))
  rintro a' w' ⟨fr', U', hk, hf', hm'⟩
  exact hk a' w' hf' hm'

/-- The next operation has a guard that bars it. -/
theorem e_no {ops : Array Oper} {d : Nat} {o : Op} {ty : TypeId} {pos : String} {af : Array Edge} {l : List Oper} {j : Nat} {b b' : Bool}
    (hg : gval ops fr j = some b') (hb : Bool.xor b b' = true)
    (h : EVO E K k ops l fr U) (hd : look fr d = none) : EVO E K k ops (⟨some d, o, ty, pos, af, some (j, b)⟩ :: l) fr U := by
  intro a w hf hm
  have hw : Region.wanted ⟨some d, o, ty, pos, af, some (j, b)⟩ (yielded ops a.tmps) = false := by
    simp only [Region.wanted, gval_yielded hf hg]
    cases b <;> cases b' <;> first | rfl | (simp at hb)
  unfold wpList
  rw [hw]
  refine h _ w ?_ hm
  have := hf.put_drop d undef
  refine ⟨this.defers, this.size, fun k v hk => ?_⟩
  have hne : d ≠ k := fun e => by subst e; rw [hd] at hk; cases hk
  simp only [Act.put, Array.getElem?_setIfInBounds_ne hne]
  exact hf.frm k v hk

theorem e_no' {ops : Array Oper} {d : Nat} {o : Op} {ty : TypeId} {pos : String} {af : Array Edge} {l : List Oper} {j : Nat} {b b' : Bool}
    (hg : gval ops fr j = some b') (hb : Bool.xor b b' = true)
    (h : EVO E K k ops l (drop fr d) U) : EVO E K k ops (⟨some d, o, ty, pos, af, some (j, b)⟩ :: l) fr U := by
  intro a w hf hm
  have hw : Region.wanted ⟨some d, o, ty, pos, af, some (j, b)⟩ (yielded ops a.tmps) = false := by
    simp only [Region.wanted, gval_yielded hf hg]
    cases b <;> cases b' <;> first | rfl | (simp at hb)
  unfold wpList
  rw [hw]
  exact h _ w (hf.put_drop d undef) hm

theorem Fr.again {fr : Frm} {a : Act} {d : Nat} {v : Value} (h : Fr E fr a) (hl : look fr d = some v) : Fr E ((d, v) :: fr) a := by
  refine ⟨h.defers, h.size, fun k u hk => ?_⟩
  simp only [look] at hk
  cases hb : Nat.beq d k with
  | true =>
    have := Nat.eq_of_beq_eq_true hb
    simp only [hb, cond_true, Option.some.injEq] at hk
    subst this; subst hk; exact h.frm d v hl
  | false => simp only [hb, cond_false] at hk; exact h.frm k u hk

/-- The guard is not known yet: it is parted on. -/
theorem e_part {ops : Array Oper} {d : Option Tmp} {o : Op} {ty : TypeId} {pos : String} {af : Array Edge} {l : List Oper} {j s : Nat} {b t : Bool}
    (_hs : (ops[j]?).bind (·.dst) = some s) (hl : look fr s = some (.bool t))
    (h1 : t = true → EVO E K k ops (⟨d, o, ty, pos, af, some (j, b)⟩ :: l) ((s, .bool true) :: fr) U)
    (h2 : t = false → EVO E K k ops (⟨d, o, ty, pos, af, some (j, b)⟩ :: l) ((s, .bool false) :: fr) U) : EVO E K k ops (⟨d, o, ty, pos, af, some (j, b)⟩ :: l) fr U := by
  intro a w hf hm
  cases t
  · exact h2 rfl a w (hf.again hl) hm
  · exact h1 rfl a w (hf.again hl) hm

/-- An operation that only yields a value. -/
theorem o_n {d : Nat} {o : Op} {ty : TypeId} {pos : String} {af : Array Edge} {g : Option (Nat × Bool)} {v : Value} {N : Frm → List Asn → Prop}
    (hn : NEV E o fr U v) (hd : Nat.ble (d + 1) E.n = true) (h : N ((d, v) :: fr) U) : EV1 E ⟨some d, o, ty, pos, af, g⟩ fr U N := by
  intro a w hf hm
  unfold Oper.wp
  rw [hn a w _ _ _ _ _ hf hm]
  exact ⟨_, U, h, hf.put (Nat.le_of_ble_eq_true hd) v, hm⟩

/-! ### entailment, frames that say less -/
def Ent (U V : List Asn) : Prop := ∀ w S, star U w S → star V w S
theorem Ent.refl (U : List Asn) : Ent U U := fun _ _ h => h
theorem Ent.trans {U V W : List Asn} (h : Ent U V) (h' : Ent V W) : Ent U W := fun w S x => h' w S (h w S x)
theorem Ent.nil (U : List Asn) : Ent U [] := fun _ _ _ => trivial
theorem Ent.wk {A : Asn} {U V : List Asn} (h : Ent U V) : Ent (A :: U) V := fun w S ⟨_, S2, _, h2, _, _, i2⟩ => star_mono i2 (h w S2 h2)
theorem Ent.tak {A : Asn} {U U' V : List Asn} (h : Tak A U U') (h' : Ent U' V) : Ent U (A :: V) := fun w S x => by
  obtain ⟨S1, S2, h1, h2, hd, i1, i2⟩ := h.star x
  exact ⟨S1, S2, h1, h' w S2 h2, hd, i1, i2⟩
theorem Ent.impl {A B : Asn} {U U' V : List Asn} (h : Tak A U U') (hi : ∀ w S, A.P w S → B.P w S) (h' : Ent U' V) : Ent U (B :: V) := fun w S x => by
  obtain ⟨S1, S2, h1, h2, hd, i1, i2⟩ := h.star x
  exact ⟨S1, S2, hi _ _ h1, h' w S2 h2, hd, i1, i2⟩

theorem Mem.ent {w : World} {V : List Asn} (h : Mem E U w) (he : Ent U V) : Mem E V w := by
  obtain ⟨S, hs, hb⟩ := h.own
  exact ⟨h.os, h.tape, h.output, h.size, h.same, S, he w S hs, hb⟩

def Sub (fr fr' : Frm) : Prop := ∀ d v, look fr' d = some v → look fr d = some v
theorem Fr.sub {fr' : Frm} {a : Act} (h : Fr E fr a) (hs : Sub fr fr') : Fr E fr' a := ⟨h.defers, h.size, fun d v hv => h.frm d v (hs d v hv)⟩
theorem Sub.refl (fr : Frm) : Sub fr fr := fun _ _ h => h
theorem Sub.nil (fr : Frm) : Sub fr [] := fun _ _ h => by simp [look] at h
theorem Sub.cons {fr fr' : Frm} {d : Nat} {v : Value} (h : look fr d = some v) (hs : Sub fr fr') : Sub fr ((d, v) :: fr') := by
  intro k u hk
  simp only [look] at hk
  cases hb : Nat.beq d k with
  | true =>
    have := Nat.eq_of_beq_eq_true hb
    simp only [hb, cond_true, Option.some.injEq] at hk
    subst this; subst hk; exact h
  | false => simp only [hb, cond_false] at hk; exact hs k u hk

theorem EVX.weak {e : Exit} : ∀ {k : List It} {fr fr' : Frm} {U V : List Asn}, (∀ fr fr' U V, Sub fr fr' → Ent U V → K fr' V → K fr U) →
    (∀ it ∈ k, match it with | .back R => (∀ fr fr' U V, Sub fr fr' → Ent U V → R fr' V → R fr U) | _ => True) →
    Sub fr fr' → Ent U V → EVX E K e k fr' V → EVX E K e k fr U
  | k, fr, fr', U, V, hK, hk, hs, he, h => by
    induction k generalizing e with
    | nil => cases e <;> simp only [EVX] at h ⊢ <;> first | exact hK _ _ _ _ hs he h | exact h.elim
    | cons it k ih =>
      have hk' := fun it hit => hk it (List.mem_cons_of_mem _ hit)
      cases e with
      | normal =>
        cases it with
        | code c => exact fun a w hf hm => h a w (hf.sub hs) (hm.ent he)
        | blk id => exact ih hk' h
        | back R => exact hk (.back R) List.mem_cons_self _ _ _ _ hs he h
      | exit id =>
        cases it with
        | code c => exact ih hk' h
        | blk id' =>
          simp only [EVX] at h ⊢
          cases hb : Nat.beq id id' with
          | true => simp only [hb, cond_true] at h ⊢; exact ih hk' h
          | false => simp only [hb, cond_false] at h ⊢; exact ih hk' h
        | back R => exact ih hk' h
      | ret => simp only [EVX] at h ⊢; exact hK _ _ _ _ hs he h
      | goto l => simp only [EVX] at h
      | panic c => simp only [EVX] at h
      | outgrown => simp only [EVX] at h

/-- Before a piece of code the state may be told more weakly. -/
theorem s_weak {c : Code} {fr' : Frm} {V : List Asn} (hs : Sub fr fr') (he : Ent U V) (h : EVS E K (.code c :: k) fr' V) : EVS E K (.code c :: k) fr U :=
  fun a w hf hm => h a w (hf.sub hs) (hm.ent he)

theorem e_weak {ops : Array Oper} {l : List Oper} {fr' : Frm} {V : List Asn} (hs : Sub fr fr') (he : Ent U V) (h : EVO E K k ops l fr' V) : EVO E K k ops l fr U :=
  fun a w hf hm => h a w (hf.sub hs) (hm.ent he)

/-! ### loops -/
/-- A loop: at its head the state is that of some x; each round comes to another x with a smaller measure, or leaves. -/
theorem s_loop {c : Code} {ι : Type} (x : ι) (F : ι → Frm) (V : ι → List Asn) (μ : ι → Nat) (hs : Sub fr (F x)) (he : Ent U (V x))
    (round : ∀ i, EVS E K (.code c :: .back (fun fr' U' => ∃ j, μ j < μ i ∧ Sub fr' (F j) ∧ Ent U' (V j)) :: k) (F i) (V i)) :
    EVS E K (.code (.loop c) :: k) fr U := by
  intro a w hf hm
  classical
  let I : Act → World → ι → Prop := fun a w i => Fr E (F i) a ∧ Mem E (V i) w
  -- the measure: the least of those that fit
  let M : Act → World → Nat → Prop := fun a w m => ∃ i, I a w i ∧ μ i = m
  have least : ∀ a w, (∃ i, I a w i) → ∃ i, I a w i ∧ ∀ j, I a w j → μ i ≤ μ j := by
    intro a w ⟨i, hi⟩
    have key : ∀ m i, I a w i → μ i = m → ∃ i, I a w i ∧ ∀ j, I a w j → μ i ≤ μ j := by
      intro m
      induction m using Nat.strongRecOn with
      | _ m ih =>
        intro i hi hm
        by_cases hx : ∃ j, I a w j ∧ μ j < m
        · obtain ⟨j, hj, hlt⟩ := hx
          exact ih (μ j) hlt j hj rfl
        · exact ⟨i, hi, fun j hj => by
            rcases Nat.lt_or_ge (μ j) m with h | h
            · exact absurd ⟨j, hj, h⟩ hx
            · omega⟩
    exact key _ i hi rfl
  let mu : Act → World → Nat := fun a w => if h : ∃ i, I a w i then μ (Classical.choose (least a w h)) else 0
  refine wp_loop (fun a w => ∃ i, I a w i) mu ⟨x, hf.sub hs, hm.ent he⟩ ?_
  intro a w hI
  have hc := Classical.choose_spec (least a w hI)
  have hmu : mu a w = μ (Classical.choose (least a w hI)) := by simp only [mu]; rw [dif_pos hI]
  refine wp_mono (round (Classical.choose (least a w hI)) a w hc.1.1 hc.1.2) ?_
  rintro e a' w' ⟨fr', U', he', hf', hm'⟩
  cases e with
  | normal =>
    obtain ⟨j, hj, hsub, hent⟩ := he'
    have hIj : I a' w' j := ⟨hf'.sub hsub, hm'.ent hent⟩
    refine ⟨⟨j, hIj⟩, ?_⟩
    have hx : ∃ i, I a' w' i := ⟨j, hIj⟩
    have h2 := (Classical.choose_spec (least a' w' hx)).2 j hIj
    have h3 : mu a' w' = μ (Classical.choose (least a' w' hx)) := by simp only [mu]; rw [dif_pos hx]
    omega
  | exit id => exact ⟨fr', U', he', hf', hm'⟩
  | goto l => exact he'.elim
  | ret => exact ⟨fr', U', by rw [EVX_ret] at he' ⊢; exact he', hf', hm'⟩
  | panic c => exact he'.elim
  | outgrown => exact he'.elim

end Go.Proofs.Ytbfjnldneemmiab.E
