/-
  Part 1 of what the law's walk stands on: lemmas and contracts, each proved here without a condition but those that it names.
-/
import Derived.OrdersHeld
import Derived.Tactics
import Derived.Laws.AppendOwn
import Derived.Laws.MakeOwn
import Derived.Laws.OwnMore
import Derived.Laws.BytesString
import Derived.Laws.Cells
import Derived.Test.YtjeimmekhfhepaaProg
import Derived.KernelRfl

namespace Go.Proofs.Ytjeimmekhfhepaa.E
set_option linter.all false

abbrev BSet := Nat → Prop

/-- An assertion on a world and the blocks that it owns; it looks at no other block. -/
structure Asn where
  P : World → BSet → Prop
  fr : ∀ (w w' : World) (S : BSet), (∀ b, S b → w'.heap[b]? = w.heap[b]?) → P w S → P w' S

def star : List Asn → World → BSet → Prop
  | [], _, _ => True
  | A :: U, w, S => ∃ S1 S2 : BSet, A.P w S1 ∧ star U w S2 ∧ (∀ b, S1 b → ¬ S2 b) ∧ (∀ b, S1 b → S b) ∧ (∀ b, S2 b → S b)

theorem star_fr : ∀ (U : List Asn) (w w' : World) (S : BSet), (∀ b, S b → w'.heap[b]? = w.heap[b]?) → star U w S → star U w' S
  | [], _, _, _, _, _ => trivial
  | A :: U, w, w', S, h, hs => by
    obtain ⟨S1, S2, h1, h2, hd, i1, i2⟩ := hs
    exact ⟨S1, S2, A.fr w w' S1 (fun b hb => h b (i1 b hb)) h1, star_fr U w w' S2 (fun b hb => h b (i2 b hb)) h2, hd, i1, i2⟩

theorem star_mono {U : List Asn} {w : World} {S S' : BSet} (h : ∀ b, S b → S' b) (hs : star U w S) : star U w S' := by
  cases U with
  | nil => trivial
  | cons A U =>
    obtain ⟨S1, S2, h1, h2, hd, i1, i2⟩ := hs
    exact ⟨S1, S2, h1, h2, hd, fun b hb => h b (i1 b hb), fun b hb => h b (i2 b hb)⟩

theorem star_append {U V : List Asn} {w : World} {S1 S2 : BSet} (h1 : star U w S1) (h2 : star V w S2) (hd : ∀ b, S1 b → ¬ S2 b) :
    star (U ++ V) w (fun b => S1 b ∨ S2 b) := by
  induction U generalizing S1 with
  | nil => exact star_mono (fun b hb => .inr hb) h2
  | cons A U ih =>
    obtain ⟨T1, T2, g1, g2, gd, i1, i2⟩ := h1
    refine ⟨T1, fun b => T2 b ∨ S2 b, g1, ih g2 (fun b hb => hd b (i2 b hb)), ?_, fun b hb => .inl (i1 b hb), ?_⟩
    · rintro b hb (h | h)
      · exact gd b hb h
      · exact hd b (i1 b hb) h
    · rintro b (h | h)
      · exact .inl (i2 b h)
      · exact .inr h

theorem star_split {U V : List Asn} {w : World} {S : BSet} (h : star (U ++ V) w S) :
    ∃ S1 S2, star U w S1 ∧ star V w S2 ∧ (∀ b, S1 b → ¬ S2 b) ∧ (∀ b, S1 b → S b) ∧ (∀ b, S2 b → S b) := by
  induction U generalizing S with
  | nil => exact ⟨fun _ => False, S, trivial, h, fun _ h => h.elim, fun _ h => h.elim, fun _ h => h⟩
  | cons A U ih =>
    obtain ⟨T1, T2, g1, g2, gd, i1, i2⟩ := h
    obtain ⟨S1, S2, a1, a2, ad, j1, j2⟩ := ih g2
    refine ⟨fun b => T1 b ∨ S1 b, S2, ⟨T1, S1, g1, a1, fun b hb hc => gd b hb (j1 b hc), fun b hb => .inl hb, fun b hb => .inr hb⟩, a2, ?_, ?_, fun b hb => i2 b (j2 b hb)⟩
    · rintro b (hb | hb) hc
      · exact gd b hb (j2 b hc)
      · exact ad b hb hc
    · rintro b (hb | hb)
      · exact i1 b hb
      · exact i2 b (j1 b hb)

/-- U has A at some place, and U' is U with A' there. -/
inductive Upd (A A' : Asn) : List Asn → List Asn → Prop
  | z {U} : Upd A A' (A :: U) (A' :: U)
  | s {B U U'} : Upd A A' U U' → Upd A A' (B :: U) (B :: U')

/-- U has A at some place, and U' is what is left. -/
inductive Tak (A : Asn) : List Asn → List Asn → Prop
  | z {U} : Tak A (A :: U) U
  | s {B U U'} : Tak A U U' → Tak A (B :: U) (B :: U')

theorem Upd.star {A A' : Asn} {U U' : List Asn} (h : Upd A A' U U') {w : World} {S : BSet} (hs : star U w S) :
    ∃ S1, A.P w S1 ∧ (∀ b, S1 b → S b) ∧ ∀ (w' : World) (T1 : BSet), A'.P w' T1 → (∀ b, T1 b → ¬ S b ∨ S1 b) → (∀ b, S b → ¬ S1 b → w'.heap[b]? = w.heap[b]?) →
      star U' w' (fun b => S b ∨ T1 b) := by
  induction h generalizing S with
  | z =>
    obtain ⟨S1, S2, h1, h2, hd, i1, i2⟩ := hs
    refine ⟨S1, h1, i1, fun w' T1 hT hsub hsame => ⟨T1, S2, hT, star_fr _ _ _ _ (fun b hb => hsame b (i2 b hb) (fun h => hd b h hb)) h2, ?_, fun b hb => .inr hb, fun b hb => .inl (i2 b hb)⟩⟩
    intro b hb hc
    rcases hsub b hb with h | h
    · exact h (i2 b hc)
    · exact hd b h hc
  | @s B U U' _ ih =>
    obtain ⟨S1, S2, h1, h2, hd, i1, i2⟩ := hs
    obtain ⟨R1, r1, ri, rk⟩ := ih h2
    refine ⟨R1, r1, fun b hb => i2 b (ri b hb), fun w' T1 hT hsub hsame => ?_⟩
    refine ⟨S1, fun b => S2 b ∨ T1 b, B.fr _ _ _ (fun b hb => hsame b (i1 b hb) (fun h => hd b hb (ri b h))) h1, rk w' T1 hT ?_ (fun b hb hn => hsame b (i2 b hb) hn), ?_, fun b hb => .inl (i1 b hb), ?_⟩
    · intro b hb
      rcases hsub b hb with h | h
      · exact .inl (fun h2 => h (i2 b h2))
      · exact .inr h
    · rintro b hb (hc | hc)
      · exact hd b hb hc
      · rcases hsub b hc with h | h
        · exact h (i1 b hb)
        · exact hd b hb (ri b h)
    · rintro b (hb | hb)
      · exact .inl (i2 b hb)
      · exact .inr hb

theorem Tak.star {A : Asn} {U U' : List Asn} (h : Tak A U U') {w : World} {S : BSet} (hs : star U w S) : star (A :: U') w S := by
  induction h generalizing S with
  | z => exact hs
  | s _ ih =>
    obtain ⟨S1, S2, h1, h2, hd, i1, i2⟩ := hs
    obtain ⟨T1, T2, g1, g2, gd, j1, j2⟩ := ih h2
    refine ⟨T1, fun b => S1 b ∨ T2 b, g1, ⟨S1, T2, h1, g2, fun b hb hc => hd b hb (j2 b hc), fun b hb => .inl hb, fun b hb => .inr hb⟩, ?_, fun b hb => i2 b (j1 b hb), ?_⟩
    · rintro b hb (hc | hc)
      · exact hd b hc (j1 b hb)
      · exact gd b hb hc
    · rintro b (hb | hb)
      · exact i1 b hb
      · exact i2 b (j2 b hb)

theorem Tak.mem {A : Asn} {U U' : List Asn} (h : Tak A U U') {w : World} {S : BSet} (hs : E.star U w S) : ∃ S1, A.P w S1 ∧ ∀ b, S1 b → S b := by
  obtain ⟨S1, _, h1, _, _, i1, _⟩ := h.star hs
  exact ⟨S1, h1, i1⟩

/-- A block of the heap that is owned. -/
def own (b : Nat) (o : Obj) : Asn where
  P := fun w S => S b ∧ w.heap[b]? = some o
  fr := fun _ _ _ h ⟨h1, h2⟩ => ⟨h1, (h b h1).trans h2⟩

/-- A row of cells. -/
abbrev blk (b : Nat) (T : TypeId) (cs : List Value) : Asn := own b (.cells cs.toArray T)

/-! ### frames -/
abbrev Frm := List (Nat × Value)

def look : Frm → Nat → Option Value
  | [], _ => none
  | (d, v) :: fr, k => bif Nat.beq d k then some v else look fr k

def val (fr : Frm) : Operand → Option Value
  | .tmp t => look fr t
  | .const v => some v
  | .global g => some (.pointer (some ⟨g, 0, none⟩))
  | .func f => some (.func (.func f) #[] #[])

/-- What is known of a type. -/
inductive TD where
  | int (k : IntKind)
  | bool
  | str
  | struct (fs : List (Nat × Nat))
  | slice (e : TypeId)
  | arr (n : Nat) (e : TypeId)
  | map (k e : TypeId)
  | ptr (e : TypeId)
  | other

structure TI where
  d : TD
  size : Nat
  bytes : Nat
  zero : List Value

def tdOf (P : Program) : TypeDesc → TD
  | .int k => .int k
  | .bool => .bool
  | .string => .str
  | .struct fs => .struct (fs.toList.map fun f => (f.offset, P.cellsOf f.type))
  | .slice e => .slice e
  | .array n e => .arr n e
  | .map k e => .map k e
  | .pointer e => .ptr e
  | _ => .other

def tiOf (P : Program) (t : TypeId) : Option TI :=
  match P.info? t, P.underlying t with
  | some i, some d => match i.zero with
    | some z => some ⟨tdOf P d, i.size, i.bytes, z.cells.toList⟩
    | none => none
  | _, _ => none

abbrev Tab := List (Nat × TI)

def tl : Tab → Nat → Option TI
  | [], _ => none
  | (t, i) :: r, k => bif Nat.beq t k then some i else tl r k

def TabOk (P : Program) (T : Tab) : Prop := ∀ e ∈ T, tiOf P e.1 = some e.2

theorem tabOk_of {P : Program} {T : Tab} (h : T.map (fun e => tiOf P e.1) = T.map (fun e => some e.2)) : TabOk P T := by
  induction T with
  | nil => intro e he; cases he
  | cons x T ih =>
    simp only [List.map_cons, List.cons.injEq] at h
    intro e he
    rcases List.mem_cons.1 he with rfl | he
    · exact h.1
    · exact ih h.2 e he

theorem tl_mem {T : Tab} {t : Nat} {i : TI} (h : tl T t = some i) : (t, i) ∈ T := by
  induction T with
  | nil => simp [tl] at h
  | cons x T ih =>
    obtain ⟨k, j⟩ := x
    simp only [tl] at h
    cases hk : Nat.beq k t with
    | true =>
      have := Nat.eq_of_beq_eq_true hk
      simp only [hk, cond_true, Option.some.injEq] at h
      subst this; subst h; exact List.mem_cons_self
    | false => simp only [hk, cond_false] at h; exact List.mem_cons_of_mem _ (ih h)

/-- The place of a proof: the program, the table of its types, the frame's size, the world at the beginning, the blocks that were handed over. -/
structure Env where
  P : Program
  T : Tab
  hT : TabOk P T
  n : Nat
  w0 : World
  SM : BSet

variable {E : Env}

theorem Env.ti {t : TypeId} {i : TI} (h : tl E.T t = some i) : tiOf E.P t = some i := E.hT _ (tl_mem h)

/-- A block that was there, and was not handed over. -/
def Env.ro (E : Env) : BSet := fun b => b < E.w0.heap.size ∧ ¬ E.SM b

structure Mem (E : Env) (U : List Asn) (w : World) : Prop where
  os : w.os = E.w0.os
  tape : w.tape = E.w0.tape
  output : w.output = E.w0.output
  size : E.w0.heap.size ≤ w.heap.size
  same : ∀ b, E.ro b → w.heap[b]? = E.w0.heap[b]?
  own : ∃ S, star U w S ∧ ∀ b, S b → b < w.heap.size ∧ (E.w0.heap.size ≤ b ∨ E.SM b)

structure Fr (E : Env) (fr : Frm) (a : Act) : Prop where
  defers : a.defers = []
  size : a.tmps.size = E.n
  frm : ∀ d v, look fr d = some v → a.tmps[d]? = some v

theorem Fr.eval {fr : Frm} {a : Act} (h : Fr E fr a) {x : Operand} {v : Value} (hv : val fr x = some v) : a.eval x = v := by
  cases x with
  | tmp t => simp only [val] at hv; have := h.frm t v hv; simp [Act.eval, this]
  | const u => simpa [val, Act.eval] using hv
  | global g => simpa [val, Act.eval] using hv
  | func f => simpa [val, Act.eval] using hv

theorem Fr.put {fr : Frm} {a : Act} (h : Fr E fr a) {d : Nat} (hd : d < E.n) (v : Value) : Fr E ((d, v) :: fr) (a.put (some d) v) := by
  refine ⟨h.defers, by simp [Act.put, h.size], fun k u hk => ?_⟩
  simp only [look] at hk
  cases hb : Nat.beq d k with
  | true =>
    have := Nat.eq_of_beq_eq_true hb
    simp only [hb, cond_true, Option.some.injEq] at hk
    subst this; subst hk
    simp [Act.put, h.size, hd]
  | false =>
    have hne : d ≠ k := fun e => by subst e; simp at hb
    simp only [hb, cond_false] at hk
    simp only [Act.put, Array.getElem?_setIfInBounds_ne hne]
    exact h.frm k u hk

/-- A slot that is written with what nobody needs. -/
theorem Fr.put_none {fr : Frm} {a : Act} (h : Fr E fr a) (v : Value) : Fr E fr (a.put none v) := h

def drop (fr : Frm) (d : Nat) : Frm := fr.filter fun p => !(Nat.beq p.1 d)

theorem look_drop {fr : Frm} {d k : Nat} {v : Value} (h : look (drop fr d) k = some v) : k ≠ d ∧ look fr k = some v := by
  induction fr with
  | nil => simp [drop, look] at h
  | cons x fr ih =>
    obtain ⟨e, u⟩ := x
    simp only [drop, List.filter_cons] at h
    cases hb : Nat.beq e d with
    | true =>
      have h2 := Nat.eq_of_beq_eq_true hb
      subst h2
      simp only [hb, Bool.not_true, Bool.false_eq_true, if_false] at h
      obtain ⟨h1, h3⟩ := ih h
      refine ⟨h1, ?_⟩
      have : Nat.beq e k = false := by
        cases hh : Nat.beq e k with
        | true => exact absurd (Nat.eq_of_beq_eq_true hh).symm h1
        | false => rfl
      simp only [look, this, cond_false]; exact h3
    | false =>
      simp only [hb, Bool.not_false, if_true, look] at h
      cases hk : Nat.beq e k with
      | true =>
        have h2 := Nat.eq_of_beq_eq_true hk
        subst h2
        simp only [hk, cond_true] at h
        exact ⟨fun e2 => by subst e2; simp at hb, by simp only [look, hk, cond_true]; exact h⟩
      | false =>
        simp only [hk, cond_false] at h
        obtain ⟨h1, h3⟩ := ih h
        exact ⟨h1, by simp only [look, hk, cond_false]; exact h3⟩

theorem Fr.put_drop {fr : Frm} {a : Act} (h : Fr E fr a) (d : Nat) (v : Value) : Fr E (drop fr d) (a.put (some d) v) := by
  refine ⟨h.defers, by simp [Act.put, h.size], fun k u hk => ?_⟩
  obtain ⟨hne, hl⟩ := look_drop hk
  simp only [Act.put, Array.getElem?_setIfInBounds_ne (Ne.symm hne)]
  exact h.frm k u hl

/-! ### judgements -/

/-- In the state an operation leaves v, and does nothing else. -/
def NEV (E : Env) (o : Op) (fr : Frm) (U : List Asn) (v : Value) : Prop :=
  ∀ a w (dst : Option Tmp) (ty : TypeId) (pos : String) (af : Array Edge) (g : Option (Nat × Bool)), Fr E fr a → Mem E U w → (execOp a.eval ⟨dst, o, ty, pos, af, g⟩).run E.P w = .ok (.value v) w

/-- An operation, carried out. -/
def EV1 (E : Env) (o : Oper) (fr : Frm) (U : List Asn) (K : Frm → List Asn → Prop) : Prop :=
  ∀ a w, Fr E fr a → Mem E U w → o.wp E.P a w (fun a' w' => ∃ fr' U', K fr' U' ∧ Fr E fr' a' ∧ Mem E U' w') (fun _ _ _ => False)

/-- What stands behind a piece of code. -/
inductive It where
  | code (c : Code)
  | blk (id : Nat)
  | back (R : Frm → List Asn → Prop)

def EVX (E : Env) (K : Frm → List Asn → Prop) : Exit → List It → Frm → List Asn → Prop
  | .normal, [], fr, U => K fr U
  | .normal, .code c :: k, fr, U => ∀ a w, Fr E fr a → Mem E U w → c.wp E.P (fun e a' w' => ∃ fr' U', EVX E K e k fr' U' ∧ Fr E fr' a' ∧ Mem E U' w') a w
  | .normal, .blk _ :: k, fr, U => EVX E K .normal k fr U
  | .normal, .back R :: _, fr, U => R fr U
  | .exit _, [], _, _ => False
  | .exit id, .code _ :: k, fr, U => EVX E K (.exit id) k fr U
  | .exit id, .back _ :: k, fr, U => EVX E K (.exit id) k fr U
  | .exit id, .blk id' :: k, fr, U => bif Nat.beq id id' then EVX E K .normal k fr U else EVX E K (.exit id) k fr U
  | .ret, _, fr, U => K fr U
  | _, _, _, _ => False

abbrev EVS (E : Env) (K : Frm → List Asn → Prop) (k : List It) (fr : Frm) (U : List Asn) : Prop := EVX E K .normal k fr U

def post (E : Env) (K : Frm → List Asn → Prop) (k : List It) : Exit → Act → World → Prop :=
  fun e a' w' => ∃ fr' U', EVX E K e k fr' U' ∧ Fr E fr' a' ∧ Mem E U' w'

/-- The rest of a region, in the text's order. -/
def EVO (E : Env) (K : Frm → List Asn → Prop) (k : List It) (ops : Array Oper) (l : List Oper) (fr : Frm) (U : List Asn) : Prop :=
  ∀ a w, Fr E fr a → Mem E U w → wpList E.P ops (post E K k) l a w

variable {K : Frm → List Asn → Prop} {k : List It} {fr : Frm} {U : List Asn}

theorem EVX_ret (k : List It) : EVX E K .ret k fr U = K fr U := by
  cases k with
  | nil => rfl
  | cons x k => cases x <;> rfl

theorem s_seq {a b : Code} (h : EVS E K (.code a :: .code b :: k) fr U) : EVS E K (.code (.seq a b) :: k) fr U := by
  intro x w hf hm
  refine wp_seq (wp_mono (h x w hf hm) ?_)
  rintro e a' w' ⟨fr', U', he, hf', hm'⟩
  cases e with
  | normal => exact he a' w' hf' hm'
  | exit id => exact ⟨fr', U', he, hf', hm'⟩
  | goto l => exact he.elim
  | ret => exact ⟨fr', U', by rw [EVX_ret] at he ⊢; exact he, hf', hm'⟩
  | panic c => exact he.elim
  | outgrown => exact he.elim

theorem s_skip (h : EVS E K k fr U) : EVS E K (.code .skip :: k) fr U :=
  fun _ _ hf hm => wp_skip ⟨fr, U, h, hf, hm⟩

theorem s_ret (h : K fr U) : EVS E K (.code .ret :: k) fr U :=
  fun _ _ hf hm => wp_ret ⟨fr, U, by rw [EVX_ret]; exact h, hf, hm⟩

theorem s_exit {id : Nat} (h : EVX E K (.exit id) k fr U) : EVS E K (.code (.exit id) :: k) fr U :=
  fun _ _ hf hm => wp_exit ⟨fr, U, h, hf, hm⟩

theorem x_code {id : Nat} {c : Code} (h : EVX E K (.exit id) k fr U) : EVX E K (.exit id) (.code c :: k) fr U := h
theorem x_back {id : Nat} {R : Frm → List Asn → Prop} (h : EVX E K (.exit id) k fr U) : EVX E K (.exit id) (.back R :: k) fr U := h
theorem x_hit {id : Nat} (h : EVS E K k fr U) : EVX E K (.exit id) (.blk id :: k) fr U := by
  simp only [EVX, Nat.beq_refl, cond_true]; exact h
theorem x_miss {id id' : Nat} (hne : Nat.beq id id' = false) (h : EVX E K (.exit id) k fr U) : EVX E K (.exit id) (.blk id' :: k) fr U := by
  simp only [EVX, hne, cond_false]; exact h

theorem s_end {id : Nat} (h : EVS E K k fr U) : EVS E K (.blk id :: k) fr U := h
theorem s_nil (h : K fr U) : EVS E K [] fr U := h
theorem s_back {R : Frm → List Asn → Prop} (h : R fr U) : EVS E K (.back R :: k) fr U := h

theorem s_block {id : Nat} {c : Code} (h : EVS E K (.code c :: .blk id :: k) fr U) : EVS E K (.code (.block id c) :: k) fr U := by
  intro x w hf hm
  refine wp_block (wp_mono (h x w hf hm) ?_)
  rintro e a' w' ⟨fr', U', he, hf', hm'⟩
  cases e with
  | normal => exact ⟨fr', U', he, hf', hm'⟩
  | exit id' =>
    simp only [Exit.inBlock]
    simp only [EVX] at he
    by_cases hid : id' = id
    · subst hid; simp only [Nat.beq_refl, cond_true] at he; rw [if_pos rfl]; exact ⟨fr', U', he, hf', hm'⟩
    · have : Nat.beq id' id = false := by
        cases hh : Nat.beq id' id with
        | true => exact absurd (Nat.eq_of_beq_eq_true hh) hid
        | false => rfl
      simp only [this, cond_false] at he
      rw [if_neg hid]; exact ⟨fr', U', he, hf', hm'⟩
  | goto l => exact he.elim
  | ret => exact ⟨fr', U', by rw [EVX_ret] at he ⊢; exact he, hf', hm'⟩
  | panic c => exact he.elim
  | outgrown => exact he.elim

theorem s_cond {c : Operand} {x y : Code} {t : Bool} (hc : val fr c = some (.bool t)) (h1 : t = true → EVS E K (.code x :: k) fr U)
    (h2 : t = false → EVS E K (.code y :: k) fr U) : EVS E K (.code (.cond c x y) :: k) fr U :=
  fun _ _ hf hm => wp_cond_split (hf.eval hc) (fun ht => h1 ht _ _ hf hm) (fun ht => h2 ht _ _ hf hm)

theorem s_true {c : Operand} {x y : Code} (hc : val fr c = some (.bool true)) (h1 : EVS E K (.code x :: k) fr U) : EVS E K (.code (.cond c x y) :: k) fr U :=
  s_cond hc (fun _ => h1) (fun h => Bool.noConfusion h)
theorem s_false {c : Operand} {x y : Code} (hc : val fr c = some (.bool false)) (h1 : EVS E K (.code y :: k) fr U) : EVS E K (.code (.cond c x y) :: k) fr U :=
  s_cond hc (fun h => Bool.noConfusion h) (fun _ => h1)

theorem s_region {id : Nat} {ops : Array Oper} (h : EVO E K k ops ops.toList fr U) : EVS E K (.code (.region id ops false) :: k) fr U :=
  fun a w hf hm => wp_region_list (h a w hf hm)

theorem e_nil {ops : Array Oper} (h : EVS E K k fr U) : EVO E K k ops [] fr U :=
  fun _ _ hf hm => wpList_nil ⟨fr, U, h, hf, hm⟩

/-! A guard: what the frame says of it. -/
def gval (ops : Array Oper) (fr : Frm) (j : Nat) : Option Bool :=
  match (ops[j]?).bind (·.dst) with
  | some t => match look fr t with
    | some (.bool b) => some b
    | _ => none
  | none => none

theorem gval_yielded {ops : Array Oper} {j : Nat} {b : Bool} {a : Act} (hf : Fr E fr a) (h : gval ops fr j = some b) : yielded ops a.tmps j = some b := by
  unfold gval at h
  unfold yielded
  cases hd : (ops[j]?).bind (·.dst) with
  | none => simp [hd] at h
  | some t =>
    simp only [hd] at h
    cases hl : look fr t with
    | none => simp [hl] at h
    | some v =>
      rw [hl] at h
      have := hf.frm t v hl
      cases v <;> simp_all

theorem wpList_go {P : Program} {ops : Array Oper} {Q : Exit → Act → World → Prop} {a : Act} {w : World} {rest : List Oper} {o : Oper}
    (hw : Region.wanted o (yielded ops a.tmps) = true) (h : o.wp P a w (wpList P ops Q rest) Q) : wpList P ops Q (o :: rest) a w := by
  unfold wpList; rw [if_pos hw]; exact .inl h

theorem Oper.wp_mono2 {P : Program} {o : Oper} {a : Act} {w : World} {N N' : Act → World → Prop} {Q : Exit → Act → World → Prop} (h : ∀ a w, N a w → N' a w)
    (hh : o.wp P a w N (fun _ _ _ => False)) : o.wp P a w N' Q := by
  unfold Oper.wp at *
  generalize (execOp a.eval o).run P w = r at *
  cases r with
  | ok n w' =>
    cases n <;> simp only [Oper.upon] at hh ⊢ <;>
      first
        | exact h _ _ hh
        | exact Calls.mono hh (fun e w'' he => by
            cases e with
            | returned v => exact h _ _ he
            | panicked c => exact he.elim
            | outgrown => exact he.elim fun _ h => h.elim fun _ h => h.elim)
        | exact Rows.mono hh (fun _ _ he => h _ _ he)
  | halt x w' => cases x <;> simp only [Oper.upon] at hh <;> exact hh.elim

/-- The next operation, which has no guard. -/
theorem e_op {ops : Array Oper} {d : Option Tmp} {o : Op} {ty : TypeId} {pos : String} {af : Array Edge} {l : List Oper} 
    (h : EV1 E ⟨d, o, ty, pos, af, none⟩ fr U (fun fr' U' => EVO E K k ops l fr' U')) : EVO E K k ops (⟨d, o, ty, pos, af, none⟩ :: l) fr U := by
  intro a w hf hm
  refine wpList_go rfl (Oper.wp_mono2 ?_ (h a w hf hm))
  rintro a' w' ⟨fr', U', hk, hf', hm'⟩
  exact hk a' w' hf' hm'

/-- The next operation has a guard that lets it by. -/
theorem e_yes {ops : Array Oper} {d : Option Tmp} {o : Op} {ty : TypeId} {pos : String} {af : Array Edge} {l : List Oper} {j : Nat} {b : Bool}
    (hg : gval ops fr j = some b)
    (h : EV1 E ⟨d, o, ty, pos, af, some (j, b)⟩ fr U (fun fr' U' => EVO E K k ops l fr' U')) : EVO E K k ops (⟨d, o, ty, pos, af, some (j, b)⟩ :: l) fr U := by
  intro a w hf hm
  refine wpList_go (by simp [Region.wanted, gval_yielded hf hg]) (Oper.wp_mono2 ?_ (h a w hf hm))
  rintro a' w' ⟨fr', U', hk, hf', hm'⟩
  exact hk a' w' hf' hm'

/-- The next operation has a guard that bars it. -/
theorem e_no {ops : Array Oper} {d : Nat} {o : Op} {ty : TypeId} {pos : String} {af : Array Edge} {l : List Oper} {j : Nat} {b b' : Bool}
    (hg : gval ops fr j = some b') (hb : Bool.xor b b' = true)
    (h : EVO E K k ops l fr U) (hd : look fr d = none) : EVO E K k ops (⟨some d, o, ty, pos, af, some (j, b)⟩ :: l) fr U := by
  intro a w hf hm
  have hw : Region.wanted ⟨some d, o, ty, pos, af, some (j, b)⟩ (yielded ops a.tmps) = false := by
    simp only [Region.wanted, gval_yielded hf hg]
    cases b <;> cases b' <;> first | rfl | (simp at hb)
  unfold wpList
  rw [hw]
  refine h _ w ?_ hm
  have := hf.put_drop d undef
  refine ⟨this.defers, this.size, fun k v hk => ?_⟩
  have hne : d ≠ k := fun e => by subst e; rw [hd] at hk; cases hk
  simp only [Act.put, Array.getElem?_setIfInBounds_ne hne]
  exact hf.frm k v hk

theorem e_no' {ops : Array Oper} {d : Nat} {o : Op} {ty : TypeId} {pos : String} {af : Array Edge} {l : List Oper} {j : Nat} {b b' : Bool}
    (hg : gval ops fr j = some b') (hb : Bool.xor b b' = true)
    (h : EVO E K k ops l (drop fr d) U) : EVO E K k ops (⟨some d, o, ty, pos, af, some (j, b)⟩ :: l) fr U := by
  intro a w hf hm
  have hw : Region.wanted ⟨some d, o, ty, pos, af, some (j, b)⟩ (yielded ops a.tmps) = false := by
    simp only [Region.wanted, gval_yielded hf hg]
    cases b <;> cases b' <;> first | rfl | (simp at hb)
  unfold wpList
  rw [hw]
  exact h _ w (hf.put_drop d undef) hm

theorem Fr.again {fr : Frm} {a : Act} {d : Nat} {v : Value} (h : Fr E fr a) (hl : look fr d = some v) : Fr E ((d, v) :: fr) a := by
  refine ⟨h.defers, h.size, fun k u hk => ?_⟩
  simp only [look] at hk
  cases hb : Nat.beq d k with
  | true =>
    have := Nat.eq_of_beq_eq_true hb
    simp only [hb, cond_true, Option.some.injEq] at hk
    subst this; subst hk; exact h.frm d v hl
  | false => simp only [hb, cond_false] at hk; exact h.frm k u hk

/-- The guard is not known yet: it is parted on. -/
theorem e_part {ops : Array Oper} {d : Option Tmp} {o : Op} {ty : TypeId} {pos : String} {af : Array Edge} {l : List Oper} {j s : Nat} {b t : Bool}
    (_hs : (ops[j]?).bind (·.dst) = some s) (hl : look fr s = some (.bool t))
    (h1 : t = true → EVO E K k ops (⟨d, o, ty, pos, af, some (j, b)⟩ :: l) ((s, .bool true) :: fr) U)
    (h2 : t = false → EVO E K k ops (⟨d, o, ty, pos, af, some (j, b)⟩ :: l) ((s, .bool false) :: fr) U) : EVO E K k ops (⟨d, o, ty, pos, af, some (j, b)⟩ :: l) fr U := by
  intro a w hf hm
  cases t
  · exact h2 rfl a w (hf.again hl) hm
  · exact h1 rfl a w (hf.again hl) hm

/-- An operation that only yields a value. -/
theorem o_n {d : Nat} {o : Op} {ty : TypeId} {pos : String} {af : Array Edge} {g : Option (Nat × Bool)} {v : Value} {N : Frm → List Asn → Prop}
    (hn : NEV E o fr U v) (hd : Nat.ble (d + 1) E.n = true) (h : N ((d, v) :: fr) U) : EV1 E ⟨some d, o, ty, pos, af, g⟩ fr U N := by
  intro a w hf hm
  unfold Oper.wp
  rw [hn a w _ _ _ _ _ hf hm]
  exact ⟨_, U, h, hf.put (Nat.le_of_ble_eq_true hd) v, hm⟩

/-! ### entailment, frames that say less -/
def Ent (U V : List Asn) : Prop := ∀ w S, star U w S → star V w S
theorem Ent.refl (U : List Asn) : Ent U U := fun _ _ h => h
theorem Ent.trans {U V W : List Asn} (h : Ent U V) (h' : Ent V W) : Ent U W := fun w S x => h' w S (h w S x)
theorem Ent.nil (U : List Asn) : Ent U [] := fun _ _ _ => trivial
theorem Ent.wk {A : Asn} {U V : List Asn} (h : Ent U V) : Ent (A :: U) V := fun w S ⟨_, S2, _, h2, _, _, i2⟩ => star_mono i2 (h w S2 h2)
theorem Ent.tak {A : Asn} {U U' V : List Asn} (h : Tak A U U') (h' : Ent U' V) : Ent U (A :: V) := fun w S x => by
  obtain ⟨S1, S2, h1, h2, hd, i1, i2⟩ := h.star x
  exact ⟨S1, S2, h1, h' w S2 h2, hd, i1, i2⟩
theorem Ent.impl {A B : Asn} {U U' V : List Asn} (h : Tak A U U') (hi : ∀ w S, A.P w S → B.P w S) (h' : Ent U' V) : Ent U (B :: V) := fun w S x => by
  obtain ⟨S1, S2, h1, h2, hd, i1, i2⟩ := h.star x
  exact ⟨S1, S2, hi _ _ h1, h' w S2 h2, hd, i1, i2⟩

theorem Mem.ent {w : World} {V : List Asn} (h : Mem E U w) (he : Ent U V) : Mem E V w := by
  obtain ⟨S, hs, hb⟩ := h.own
  exact ⟨h.os, h.tape, h.output, h.size, h.same, S, he w S hs, hb⟩

def Sub (fr fr' : Frm) : Prop := ∀ d v, look fr' d = some v → look fr d = some v
theorem Fr.sub {fr' : Frm} {a : Act} (h : Fr E fr a) (hs : Sub fr fr') : Fr E fr' a := ⟨h.defers, h.size, fun d v hv => h.frm d v (hs d v hv)⟩
theorem Sub.refl (fr : Frm) : Sub fr fr := fun _ _ h => h
theorem Sub.nil (fr : Frm) : Sub fr [] := fun _ _ h => by simp [look] at h
theorem Sub.cons {fr fr' : Frm} {d : Nat} {v : Value} (h : look fr d = some v) (hs : Sub fr fr') : Sub fr ((d, v) :: fr') := by
  intro k u hk
  simp only [look] at hk
  cases hb : Nat.beq d k with
  | true =>
    have := Nat.eq_of_beq_eq_true hb
    simp only [hb, cond_true, Option.some.injEq] at hk
    subst this; subst hk; exact h
  | false => simp only [hb, cond_false] at hk; exact hs k u hk

theorem EVX.weak {e : Exit} : ∀ {k : List It} {fr fr' : Frm} {U V : List Asn}, (∀ fr fr' U V, Sub fr fr' → Ent U V → K fr' V → K fr U) →
    (∀ it ∈ k, match it with | .back R => (∀ fr fr' U V, Sub fr fr' → Ent U V → R fr' V → R fr U) | _ => True) →
    Sub fr fr' → Ent U V → EVX E K e k fr' V → EVX E K e k fr U
  | k, fr, fr', U, V, hK, hk, hs, he, h => by
    induction k generalizing e with
    | nil => cases e <;> simp only [EVX] at h ⊢ <;> first | exact hK _ _ _ _ hs he h | exact h.elim
    | cons it k ih =>
      have hk' := fun it hit => hk it (List.mem_cons_of_mem _ hit)
      cases e with
      | normal =>
        cases it with
        | code c => exact fun a w hf hm => h a w (hf.sub hs) (hm.ent he)
        | blk id => exact ih hk' h
        | back R => exact hk (.back R) List.mem_cons_self _ _ _ _ hs he h
      | exit id =>
        cases it with
        | code c => exact ih hk' h
        | blk id' =>
          simp only [EVX] at h ⊢
          cases hb : Nat.beq id id' with
          | true => simp only [hb, cond_true] at h ⊢; exact ih hk' h
          | false => simp only [hb, cond_false] at h ⊢; exact ih hk' h
        | back R => exact ih hk' h
      | ret => simp only [EVX] at h ⊢; exact hK _ _ _ _ hs he h
      | goto l => simp only [EVX] at h
      | panic c => simp only [EVX] at h
      | outgrown => simp only [EVX] at h

/-- Before a piece of code the state may be told more weakly. -/
theorem s_weak {c : Code} {fr' : Frm} {V : List Asn} (hs : Sub fr fr') (he : Ent U V) (h : EVS E K (.code c :: k) fr' V) : EVS E K (.code c :: k) fr U :=
  fun a w hf hm => h a w (hf.sub hs) (hm.ent he)

theorem e_weak {ops : Array Oper} {l : List Oper} {fr' : Frm} {V : List Asn} (hs : Sub fr fr') (he : Ent U V) (h : EVO E K k ops l fr' V) : EVO E K k ops l fr U :=
  fun a w hf hm => h a w (hf.sub hs) (hm.ent he)

/-! ### loops -/
/-- A loop: at its head the state is that of some x; each round comes to another x with a smaller measure, or leaves. -/
theorem s_loop {c : Code} {ι : Type} (x : ι) (F : ι → Frm) (V : ι → List Asn) (μ : ι → Nat) (hs : Sub fr (F x)) (he : Ent U (V x))
    (round : ∀ i, EVS E K (.code c :: .back (fun fr' U' => ∃ j, μ j < μ i ∧ Sub fr' (F j) ∧ Ent U' (V j)) :: k) (F i) (V i)) :
    EVS E K (.code (.loop c) :: k) fr U := by
  intro a w hf hm
  classical
  let I : Act → World → ι → Prop := fun a w i => Fr E (F i) a ∧ Mem E (V i) w
  -- the measure: the least of those that fit
  let M : Act → World → Nat → Prop := fun a w m => ∃ i, I a w i ∧ μ i = m
  have least : ∀ a w, (∃ i, I a w i) → ∃ i, I a w i ∧ ∀ j, I a w j → μ i ≤ μ j := by
    intro a w ⟨i, hi⟩
    have key : ∀ m i, I a w i → μ i = m → ∃ i, I a w i ∧ ∀ j, I a w j → μ i ≤ μ j := by
      intro m
      induction m using Nat.strongRecOn with
      | _ m ih =>
        intro i hi hm
        by_cases hx : ∃ j, I a w j ∧ μ j < m
        · obtain ⟨j, hj, hlt⟩ := hx
          exact ih (μ j) hlt j hj rfl
        · exact ⟨i, hi, fun j hj => by
            rcases Nat.lt_or_ge (μ j) m with h | h
            · exact absurd ⟨j, hj, h⟩ hx
            · omega⟩
    exact key _ i hi rfl
  let mu : Act → World → Nat := fun a w => if h : ∃ i, I a w i then μ (Classical.choose (least a w h)) else 0
  refine wp_loop (fun a w => ∃ i, I a w i) mu ⟨x, hf.sub hs, hm.ent he⟩ ?_
  intro a w hI
  have hc := Classical.choose_spec (least a w hI)
  have hmu : mu a w = μ (Classical.choose (least a w hI)) := by simp only [mu]; rw [dif_pos hI]
  refine wp_mono (round (Classical.choose (least a w hI)) a w hc.1.1 hc.1.2) ?_
  rintro e a' w' ⟨fr', U', he', hf', hm'⟩
  cases e with
  | normal =>
    obtain ⟨j, hj, hsub, hent⟩ := he'
    have hIj : I a' w' j := ⟨hf'.sub hsub, hm'.ent hent⟩
    refine ⟨⟨j, hIj⟩, ?_⟩
    have hx : ∃ i, I a' w' i := ⟨j, hIj⟩
    have h2 := (Classical.choose_spec (least a' w' hx)).2 j hIj
    have h3 : mu a' w' = μ (Classical.choose (least a' w' hx)) := by simp only [mu]; rw [dif_pos hx]
    omega
  | exit id => exact ⟨fr', U', he', hf', hm'⟩
  | goto l => exact he'.elim
  | ret => exact ⟨fr', U', by rw [EVX_ret] at he' ⊢; exact he', hf', hm'⟩
  | panic c => exact he'.elim
  | outgrown => exact he'.elim

end Go.Proofs.Ytjeimmekhfhepaa.E

namespace Go.Proofs.Ytjeimmekhfhepaa.E
set_option linter.all false
variable {E : Env}

def vals (fr : Frm) : List Operand → Option (List Value)
  | [] => some []
  | x :: l => match val fr x, vals fr l with
    | some v, some vs => some (v :: vs)
    | _, _ => none

theorem Fr.evals {fr : Frm} {a : Act} (h : Fr E fr a) : ∀ {l : List Operand} {vs : List Value}, vals fr l = some vs → l.map a.eval = vs
  | [], vs, hv => by simp only [vals, Option.some.injEq] at hv; subst hv; rfl
  | x :: l, vs, hv => by
    simp only [vals] at hv
    cases hx : val fr x with
    | none => simp [hx] at hv
    | some v => cases hl : vals fr l with
      | none => simp [hx, hl] at hv
      | some us =>
        simp only [hx, hl, Option.some.injEq] at hv
        subst hv
        simp [h.eval hx, h.evals hl]

def intBin (op : BinOp) (k : IntKind) (a b : Int) : Option Value :=
  match op with
  | .add => some (.int k (k.wrap (a + b)))
  | .sub => some (.int k (k.wrap (a - b)))
  | .mul => some (.int k (k.wrap (a * b)))
  | .eql => some (.bool (a == b))
  | .neq => some (.bool (a != b))
  | .lss => some (.bool (decide (a < b)))
  | .leq => some (.bool (decide (a ≤ b)))
  | .gtr => some (.bool (decide (a > b)))
  | .geq => some (.bool (decide (a ≥ b)))
  | _ => none

def setMany : List Value → Nat → List Value → List Value
  | cells, _, [] => cells
  | cells, off, c :: cs => setMany (cells.set off c) (off + 1) cs

def fillL (fs : List (Nat × Nat)) : List Value → List (Nat × Value) → Option (List Value)
  | cells, [] => some cells
  | cells, (i, v) :: rest => match fs[i]? with
    | none => none
    | some (off, size) => if v.cells.toList.length ≠ size then none else if off + size ≤ cells.length then fillL fs (setMany cells off v.cells.toList) rest else none

def partVals (fr : Frm) : List (Nat × Operand) → Option (List (Nat × Value))
  | [] => some []
  | (i, x) :: l => match val fr x, partVals fr l with
    | some v, some vs => some ((i, v) :: vs)
    | _, _ => none

theorem Fr.parts {fr : Frm} {a : Act} (h : Fr E fr a) : ∀ {l : List (Nat × Operand)} {vs : List (Nat × Value)}, partVals fr l = some vs → l.map (fun (i, x) => (i, a.eval x)) = vs
  | [], vs, hv => by simp only [partVals, Option.some.injEq] at hv; subst hv; rfl
  | (i, x) :: l, vs, hv => by
    simp only [partVals] at hv
    cases hx : val fr x with
    | none => simp [hx] at hv
    | some v => cases hl : partVals fr l with
      | none => simp [hx, hl] at hv
      | some us =>
        simp only [hx, hl, Option.some.injEq] at hv
        subst hv
        simp [h.eval hx, h.parts hl]

/-- The value of an operation that only computes. -/
def peval (T : Tab) (fr : Frm) : Op → Option Value
  | .move x => val fr x
  | .assign x => val fr x
  | .pick c a b => match val fr c with
    | some (.bool true) => val fr a
    | some (.bool false) => val fr b
    | _ => none
  | .binOp op t x y _ => match val fr x, val fr y with
    | some (.int k a), some (.int k' b) => if k = k' then intBin op k a b else none
    | some (.bool a), some (.bool b) => match tl T t, op with
      | some ⟨.bool, _, _, _⟩, .eql => some (.bool (a == b))
      | some ⟨.bool, _, _, _⟩, .neq => some (.bool (!(a == b)))
      | _, _ => none
    | some (.string a), some (.string b) => match op with
      | .eql => some (.bool (a.toList == b.toList))
      | .neq => some (.bool (!(a.toList == b.toList)))
      | _ => none
    | _, _ => none
  | .unOp op _ x => match op, val fr x with
    | .not, some (.bool b) => some (.bool (!b))
    | .neg, some (.int k n) => some (.int k (k.wrap (0 - n)))
    | _, _ => none
  | .convert src dst x => match tl T src, tl T dst, val fr x with
    | some _, some ⟨.int k, _, _, _⟩, some (.int _ n) => some (.int k (k.wrap n))
    | _, _, _ => none
  | .nilCheck x => match val fr x with
    | some (.pointer (some a)) => some (.pointer (some a))
    | some (.func (.func f) l m) => some (.func (.func f) l m)
    | _ => none
  | .makeFunc fn first captured => match vals fr first.toList, vals fr captured.toList with
    | some a, some b => some (.func fn a.toArray b.toArray)
    | _, _ => none
  | .fieldAddr s x f => match tl T s, val fr x with
    | some ⟨.struct fs, _, _, _⟩, some (.pointer (some ⟨b, o, none⟩)) => match fs[f]? with
      | some (off, n + 1) => some (.pointer (some ⟨b, o + off, none⟩))
      | _ => none
    | _, _ => none
  | .extract x i => match val fr x with
    | some (.tuple vs) => vs.toList[i]?
    | _ => none
  | .build t parts => match tl T t, partVals fr parts.toList with
    | some ⟨.struct fs, _, _, z⟩, some ps => match fs.all (fun p => Nat.ble 1 p.2), fillL fs z ps with
      | true, some cs => some (.agg cs.toArray)
      | _, _ => none
    | _, _ => none
  | .call ⟨.builtin .len, args, ts⟩ => match args.toList, ts.toList with
    | [x], [t] => match tl T t, val fr x with
      | some ⟨.slice _, _, _, _⟩, some (.slice _ n _) => some (.int .i64 n)
      | some ⟨.str, _, _, _⟩, some (.string s) => some (.int .i64 s.size)
      | some ⟨.arr n _, _, _, _⟩, some _ => some (.int .i64 n)
      | _, _ => none
    | _, _ => none
  | .call ⟨.builtin .max, args, _⟩ => match args.toList with
    | [x, y] => match val fr x, val fr y with
      | some (.int k a), some (.int _ b) => some (.int k (if b > a then b else a))
      | _, _ => none
    | _ => none
  | .call ⟨.builtin .min, args, _⟩ => match args.toList with
    | [x, y] => match val fr x, val fr y with
      | some (.int k a), some (.int _ b) => some (.int k (if b < a then b else a))
      | _, _ => none
    | _ => none
  | _ => none

section facts
variable {t : TypeId} {i : TI}

theorem ti_under {d : TD} {s b : Nat} {z : List Value} (h : tl E.T t = some ⟨d, s, b, z⟩) : ∃ td, E.P.underlying t = some td ∧ tdOf E.P td = d := by
  have h2 := Env.ti h
  unfold tiOf at h2
  cases hi : E.P.info? t with
  | none => simp [hi] at h2
  | some inf => cases hu : E.P.underlying t with
    | none => simp [hi, hu] at h2
    | some td => cases hz : inf.zero with
      | none => simp [hi, hu, hz] at h2
      | some zz => simp [hi, hu, hz] at h2; exact ⟨td, rfl, h2.1⟩

theorem ti_info {d : TD} {s b : Nat} {z : List Value} (h : tl E.T t = some ⟨d, s, b, z⟩) :
    ∃ inf v, E.P.info? t = some inf ∧ inf.zero = some v ∧ inf.size = s ∧ inf.bytes = b ∧ v.cells = z.toArray := by
  have h2 := Env.ti h
  unfold tiOf at h2
  cases hi : E.P.info? t with
  | none => simp [hi] at h2
  | some inf => cases hu : E.P.underlying t with
    | none => simp [hi, hu] at h2
    | some td => cases hz : inf.zero with
      | none => simp [hi, hu, hz] at h2
      | some zz =>
        simp [hi, hu, hz] at h2
        refine ⟨inf, zz, rfl, hz, h2.2.1, h2.2.2.1, ?_⟩
        have := h2.2.2.2
        rw [← this]

theorem td_int {td : TypeDesc} {k : IntKind} (h : tdOf E.P td = .int k) : td = .int k := by
  cases td <;> simp_all [tdOf]
theorem td_bool {td : TypeDesc} (h : tdOf E.P td = .bool) : td = .bool := by
  cases td <;> simp_all [tdOf]
theorem td_str {td : TypeDesc} (h : tdOf E.P td = .str) : td = .string := by
  cases td <;> simp_all [tdOf]
theorem td_slice {td : TypeDesc} {e : TypeId} (h : tdOf E.P td = .slice e) : td = .slice e := by
  cases td <;> simp_all [tdOf]
theorem td_arr {td : TypeDesc} {n : Nat} {e : TypeId} (h : tdOf E.P td = .arr n e) : td = .array n e := by
  cases td <;> simp_all [tdOf]
theorem td_map {td : TypeDesc} {n : TypeId} {e : TypeId} (h : tdOf E.P td = .map n e) : td = .map n e := by
  cases td <;> simp_all [tdOf]
theorem td_ptr {td : TypeDesc} {e : TypeId} (h : tdOf E.P td = .ptr e) : td = .pointer e := by
  cases td <;> simp_all [tdOf]
theorem td_struct {td : TypeDesc} {fs : List (Nat × Nat)} (h : tdOf E.P td = .struct fs) : ∃ l, td = .struct l ∧ l.toList.map (fun f => (f.offset, E.P.cellsOf f.type)) = fs := by
  cases td <;> simp_all [tdOf]

theorem u_int {k : IntKind} {s b : Nat} {z : List Value} (h : tl E.T t = some ⟨.int k, s, b, z⟩) : E.P.underlying t = some (.int k) := by
  obtain ⟨td, h1, h2⟩ := ti_under h; rw [h1, td_int h2]
theorem u_bool {s b : Nat} {z : List Value} (h : tl E.T t = some ⟨.bool, s, b, z⟩) : E.P.underlying t = some .bool := by
  obtain ⟨td, h1, h2⟩ := ti_under h; rw [h1, td_bool h2]
theorem u_str {s b : Nat} {z : List Value} (h : tl E.T t = some ⟨.str, s, b, z⟩) : E.P.underlying t = some .string := by
  obtain ⟨td, h1, h2⟩ := ti_under h; rw [h1, td_str h2]
theorem u_slice {e : TypeId} {s b : Nat} {z : List Value} (h : tl E.T t = some ⟨.slice e, s, b, z⟩) : E.P.underlying t = some (.slice e) := by
  obtain ⟨td, h1, h2⟩ := ti_under h; rw [h1, td_slice h2]
theorem u_arr {n : Nat} {e : TypeId} {s b : Nat} {z : List Value} (h : tl E.T t = some ⟨.arr n e, s, b, z⟩) : E.P.underlying t = some (.array n e) := by
  obtain ⟨td, h1, h2⟩ := ti_under h; rw [h1, td_arr h2]
theorem u_map {n e : TypeId} {s b : Nat} {z : List Value} (h : tl E.T t = some ⟨.map n e, s, b, z⟩) : E.P.underlying t = some (.map n e) := by
  obtain ⟨td, h1, h2⟩ := ti_under h; rw [h1, td_map h2]
theorem u_ptr {e : TypeId} {s b : Nat} {z : List Value} (h : tl E.T t = some ⟨.ptr e, s, b, z⟩) : E.P.underlying t = some (.pointer e) := by
  obtain ⟨td, h1, h2⟩ := ti_under h; rw [h1, td_ptr h2]
theorem u_struct {fs : List (Nat × Nat)} {s b : Nat} {z : List Value} (h : tl E.T t = some ⟨.struct fs, s, b, z⟩) :
    ∃ l, E.P.underlying t = some (.struct l) ∧ l.toList.map (fun f => (f.offset, E.P.cellsOf f.type)) = fs := by
  obtain ⟨td, h1, h2⟩ := ti_under h
  obtain ⟨l, rfl, hl⟩ := td_struct h2
  exact ⟨l, h1, hl⟩
end facts

theorem run_under {P : Program} {w : World} {t : TypeId} {d : TypeDesc} (h : P.underlying t = some d) : (underlying t).run P w = .ok d w := by
  simp [underlying, h]
theorem run_info {P : Program} {w : World} {t : TypeId} {d : TypeInfo} (h : P.info? t = some d) : (typeInfo t).run P w = .ok d w := by
  simp [typeInfo, h]
theorem run_size {P : Program} {w : World} {t : TypeId} {d : TypeInfo} (h : P.info? t = some d) : (sizeOf t).run P w = .ok d.size w := by
  simp [sizeOf, run_info h]
theorem run_zero {P : Program} {w : World} {t : TypeId} {d : TypeInfo} {v : Value} (h : P.info? t = some d) (hz : d.zero = some v) : (zeroValue t).run P w = .ok v w := by
  simp [zeroValue, run_info h, hz]

theorem cellsOf_info {P : Program} {t : TypeId} {n : Nat} (h : P.cellsOf t = n + 1) : ∃ d, P.info? t = some d ∧ d.size = n + 1 := by
  unfold Program.cellsOf at h
  cases hi : P.info? t with
  | none => simp [hi] at h
  | some d => simp [hi] at h; exact ⟨d, rfl, h⟩

theorem add_at (b o n : Nat) : (⟨b, o, none⟩ : Addr).add n = ⟨b, o + n, none⟩ := by
  unfold Addr.add; split
  · rename_i h; subst h; rfl
  · rfl

theorem setMany_eq (l : List Value) : ∀ (cells : Array Value) (off k : Nat),
    ((l.zipIdx k).foldl (fun cs (p : Value × Nat) => cs.setIfInBounds (off + p.2) p.1) cells) = (setMany cells.toList (off + k) l).toArray := by
  induction l with
  | nil => intro cells off k; simp [setMany]
  | cons c l ih =>
    intro cells off k
    simp only [List.zipIdx_cons, List.foldl_cons, setMany]
    rw [ih]
    simp [Array.toList_setIfInBounds, Nat.add_assoc]

theorem setMany_length (l : List Value) : ∀ (cells : List Value) (off : Nat), (setMany cells off l).length = cells.length := by
  induction l with
  | nil => intro _ _; rfl
  | cons c l ih => intro cells off; simp [setMany, ih]

theorem fill_eq {fs : List (Nat × Nat)} (place : Nat → Option (Nat × Nat)) (hp : ∀ i, place i = fs[i]?) :
    ∀ (ps : List (Nat × Value)) (cells : List Value) (cs : List Value), fillL fs cells ps = some cs → Instr.fill place cells.toArray ps = some cs.toArray
  | [], cells, cs, h => by simp only [fillL, Option.some.injEq] at h; subst h; rfl
  | (i, v) :: rest, cells, cs, h => by
    simp only [fillL] at h
    unfold Instr.fill
    rw [hp i]
    cases hf : fs[i]? with
    | none => simp [hf] at h
    | some p =>
      obtain ⟨off, size⟩ := p
      simp only [hf] at h
      simp only
      by_cases h1 : v.cells.toList.length ≠ size
      · rw [if_pos h1] at h; cases h
      · rw [if_neg h1] at h
        by_cases h2 : off + size ≤ cells.length
        · rw [if_pos h2] at h
          have h1' : v.cells.size = size := by simpa using h1
          have hc : (decide (v.cells.size ≠ size) || decide (off + v.cells.size > cells.toArray.size)) = false := by
            simp [h1']; omega
          simp only [hc, Bool.false_eq_true, if_false]
          have := setMany_eq v.cells.toList cells.toArray off 0
          simp only [Nat.add_zero] at this
          rw [show (v.cells.zipIdx.foldl (fun cs (x : Value × Nat) => cs.setIfInBounds (off + x.2) x.1) cells.toArray) = (setMany cells off v.cells.toList).toArray from by
            rw [← this, ← Array.foldl_toList, Array.toList_zipIdx]]
          exact fill_eq place hp rest _ cs h
        · rw [if_neg h2] at h; cases h

theorem map_arr {α β : Type} (l : Array α) (f : α → β) : (l.toList.map f).toArray = l.map f := by
  apply Array.toList_inj.1; simp

theorem run_equalIn_bool {P : Program} {w : World} {t : TypeId} (n : Nat) (h : P.underlying t = some .bool) (a b : Bool) : (Op.equalIn (n + 1) t (.bool a) (.bool b)).run P w = .ok (a == b) w := by
  simp [Op.equalIn, run_under h]

theorem run_equal_bool {P : Program} {w : World} {t : TypeId} (h : P.underlying t = some .bool) (a b : Bool) : (Op.equal t (.bool a) (.bool b)).run P w = .ok (a == b) w := by
  exact run_equalIn_bool 9999 h a b

theorem mapM_sizes {P : Program} {w : World} : ∀ (l : List Field), (∀ f ∈ l, ∃ d, P.info? f.type = some d) →
    (l.mapM (fun f => do pure (f.offset, ← sizeOf f.type) : Field → Sem (Nat × Nat))).run P w = .ok (l.map fun f => (f.offset, P.cellsOf f.type)) w
  | [], _ => by simp
  | f :: l, h => by
    obtain ⟨d, hd⟩ := h f List.mem_cons_self
    have ih := mapM_sizes (P := P) (w := w) l (fun g hg => h g (List.mem_cons_of_mem _ hg))
    simp only [List.mapM_cons, Sem.run_bind, run_size hd, Result.andThen_ok, Sem.run_pure, ih, List.map_cons]
    simp [Program.cellsOf, hd]

theorem intBin_run {P : Program} {op : BinOp} {k : IntKind} {a b : Int} {v : Value} (t : TypeId) (x y : Operand) (h : intBin op k a b = some v) (w : World) :
    (do eqGuard op t x y (.int k a) (.int k b); binOp op t (.int k a) (.int k b) : Sem Value).run P w = .ok v w := by
  cases op <;> simp only [intBin, Option.some.injEq, reduceCtorEq] at h <;> subst h <;>
    simp [eqGuard, binOp, Op.intArith, Op.intCmp]

theorem peval_sound {U : List Asn} {fr : Frm} {o : Op} {v : Value} (h : peval E.T fr o = some v) : NEV E o fr U v := by
  intro a w dst ty pos af g hf _
  unfold execOp
  cases o with
  | move x => simp only [peval] at h; simp [hf.eval h]
  | assign x => simp only [peval] at h; simp [hf.eval h]
  | pick c x y =>
    simp only [peval] at h
    cases hc : val fr c with
    | none => simp [hc] at h
    | some u =>
      cases u <;> simp only [hc, reduceCtorEq] at h
      rename_i b
      cases b <;> simp [hf.eval hc, asBool, hf.eval h]
  | binOp op t x y ty' =>
    simp only [peval] at h
    cases hx : val fr x with
    | none => simp [hx] at h
    | some u => cases hy : val fr y with
      | none => cases u <;> simp [hx, hy] at h
      | some u' =>
        simp only [hf.eval hx, hf.eval hy]
        cases u <;> cases u' <;> simp only [hx, hy, reduceCtorEq] at h
        case bool.bool p q =>
          cases ht : tl E.T t with
          | none => simp [ht] at h
          | some i =>
            obtain ⟨d, s, b, z⟩ := i
            cases d <;> cases op <;> simp only [ht, reduceCtorEq, Option.some.injEq] at h
            · subst h; simp [eqGuard, binOp, run_equal_bool (u_bool ht)]
            · subst h; simp [eqGuard, binOp, run_equal_bool (u_bool ht)]
        case int.int k p k' q =>
          by_cases hk : k = k'
          · subst hk
            rw [if_pos rfl] at h
            have := intBin_run (P := E.P) t x y h w
            rw [Sem.run_bind, this]; rfl
          · rw [if_neg hk] at h; cases h
        case string.string p q =>
          cases op <;> simp only [reduceCtorEq, Option.some.injEq] at h
          · subst h; simp [eqGuard, binOp, Op.stringOp]
          · subst h; simp [eqGuard, binOp, Op.stringOp]
  | unOp op t x =>
    simp only [peval] at h
    cases op <;> cases hx : val fr x <;> simp only [hx, reduceCtorEq] at h <;> rename_i u <;> cases u <;> simp only [reduceCtorEq, Option.some.injEq] at h
    all_goals (subst h; simp [hf.eval hx, Op.unary, Op.intArith])
  | convert s d x =>
    simp only [peval] at h
    split at h
    · rename_i i0 k sz b z kk n hs ht hx
      simp only [Option.some.injEq] at h
      subst h
      obtain ⟨d0, s0, b0, z0⟩ := i0
      obtain ⟨sd, hsd, _⟩ := ti_under hs
      simp [hf.eval hx, convert, run_under (u_int ht), run_under hsd, Conv.intToInt]
    · cases h
  | nilCheck x =>
    simp only [peval] at h
    cases hx : val fr x with
    | none => simp [hx] at h
    | some u =>
      simp only [hf.eval hx]
      cases u <;> simp only [hx, reduceCtorEq] at h
      case pointer q =>
        cases q <;> simp only [reduceCtorEq, Option.some.injEq] at h
        subst h; simp
      case func fn l m =>
        cases fn <;> simp only [reduceCtorEq, Option.some.injEq] at h
        subst h; simp
  | makeFunc fn first captured =>
    simp only [peval] at h
    cases h1 : vals fr first.toList with
    | none => simp [h1] at h
    | some l1 => cases h2 : vals fr captured.toList with
      | none => simp [h1, h2] at h
      | some l2 =>
        simp only [h1, h2, Option.some.injEq] at h
        subst h
        have e1 : first.map a.eval = l1.toArray := by rw [← hf.evals h1, map_arr]
        have e2 : captured.map a.eval = l2.toArray := by rw [← hf.evals h2, map_arr]
        simp [e1, e2, Instr.makeFunc]
  | fieldAddr s x f =>
    simp only [peval] at h
    split at h
    · rename_i fs sz b z bb oo ht hx
      split at h
      · rename_i off n hfi
        simp only [Option.some.injEq] at h
        subst h
        obtain ⟨l, hu, hl⟩ := u_struct ht
        have hlf : (l.toList.map (fun f => (f.offset, E.P.cellsOf f.type)))[f]? = some (off, n + 1) := by rw [hl]; exact hfi
        simp only [List.getElem?_map, Option.map_eq_some_iff, Prod.mk.injEq] at hlf
        obtain ⟨fd, hfd, ho, hc⟩ := hlf
        obtain ⟨d, hd, hds⟩ := cellsOf_info hc
        have hfd' : l[f]? = some fd := by rw [← Array.getElem?_toList]; exact hfd
        simp [hf.eval hx, Instr.fieldAt, run_under hu, hfd', Instr.sureAddr, fieldPlace, run_size hd, hds, ho, add_at]
      · cases h
    · cases h
  | extract x i =>
    simp only [peval] at h
    cases hx : val fr x with
    | none => simp [hx] at h
    | some u =>
      cases u <;> simp only [hx, reduceCtorEq] at h
      rename_i vs
      have h' : vs[i]? = some v := by simpa using h
      simp [hf.eval hx, Instr.extract, h']
  | build t parts =>
    simp only [peval] at h
    cases ht : tl E.T t with
    | none => simp [ht] at h
    | some i =>
      obtain ⟨dd, sz, b, z⟩ := i
      cases dd <;> simp only [ht, reduceCtorEq] at h
      rename_i fs
      cases hp : partVals fr parts.toList with
      | none => simp [hp] at h
      | some ps =>
        simp only [hp] at h
        cases hall : fs.all (fun p => Nat.ble 1 p.2) with
        | false => simp [hall] at h
        | true => cases hfl : fillL fs z ps with
          | none => simp [hall, hfl] at h
          | some cs =>
            simp only [hall, hfl, Option.some.injEq] at h
            subst h
            obtain ⟨l, hu, hl⟩ := u_struct ht
            obtain ⟨inf, zv, hi, hz, _, _, hzc⟩ := ti_info ht
            have hsz : ∀ f ∈ l.toList, ∃ d, E.P.info? f.type = some d := by
              intro f hfm
              have : (f.offset, E.P.cellsOf f.type) ∈ fs := by rw [← hl]; exact List.mem_map.2 ⟨f, hfm, rfl⟩
              have := List.all_eq_true.1 hall _ this
              have h1 : 1 ≤ E.P.cellsOf f.type := Nat.le_of_ble_eq_true this
              obtain ⟨n, hn⟩ : ∃ n, E.P.cellsOf f.type = n + 1 := ⟨_, (Nat.sub_add_cancel h1).symm⟩
              obtain ⟨d, hd, _⟩ := cellsOf_info hn
              exact ⟨d, hd⟩
            have hm : (l.mapM (fun f => do pure (f.offset, ← sizeOf f.type) : Field → Sem (Nat × Nat))).run E.P w = .ok (l.map fun f => (f.offset, E.P.cellsOf f.type)) w := by
              rw [Array.mapM_eq_mapM_toList, Sem.run_map, mapM_sizes _ hsz, Result.andThen_ok, map_arr]
            have hpl : ∀ i : Nat, (l.map fun f => (f.offset, E.P.cellsOf f.type))[i]? = fs[i]? := by
              intro i; rw [← hl]; simp
            have hfill := fill_eq (fs := fs) (fun (i : Nat) => (l.map fun f => (f.offset, E.P.cellsOf f.type))[i]?) hpl ps z cs hfl
            have hparts : (parts.map (fun (x : Nat × Operand) => (x.1, a.eval x.2))).toList = ps := by rw [← hf.parts hp]; simp
            simp only [Instr.build, Sem.run_bind, run_zero hi hz, Result.andThen_ok, run_under hu, hm, hzc, hparts, hfill, Sem.run_pure]
  | call c =>
    obtain ⟨callee, args, ts⟩ := c
    cases callee with
    | value _ => simp [peval] at h
    | invoke _ _ => simp [peval] at h
    | builtin bi =>
      cases bi <;> simp only [peval, reduceCtorEq] at h
      case len =>
        split at h
        · rename_i x t hx ht
          obtain rfl : args = #[x] := by rw [← Array.toArray_toList (xs := args), hx]
          obtain rfl : ts = #[t] := by rw [← Array.toArray_toList (xs := ts), ht]
          split at h
          · rename_i e s b z aa n cc h1 h2
            simp only [Option.some.injEq] at h; subst h
            simp [resolve, invoke, builtin, Builtin.len_, run_under (u_slice h1), hf.eval h2, goInt]
          · rename_i s b z st h1 h2
            simp only [Option.some.injEq] at h; subst h
            simp [resolve, invoke, builtin, Builtin.len_, run_under (u_str h1), hf.eval h2, goInt]
          · rename_i n e s b z st h1 h2
            simp only [Option.some.injEq] at h; subst h
            simp [resolve, invoke, builtin, Builtin.len_, run_under (u_arr h1), goInt]
          · cases h
        · cases h
      case max =>
        split at h
        · rename_i x y hx
          obtain rfl : args = #[x, y] := by rw [← Array.toArray_toList (xs := args), hx]
          split at h
          · rename_i k p k' q h1 h2
            simp only [Option.some.injEq] at h; subst h
            simp [resolve, invoke, builtin, Builtin.max_, Builtin.max2, hf.eval h1, hf.eval h2]
          · cases h
        · cases h
      case min =>
        split at h
        · rename_i x y hx
          obtain rfl : args = #[x, y] := by rw [← Array.toArray_toList (xs := args), hx]
          split at h
          · rename_i k p k' q h1 h2
            simp only [Option.some.injEq] at h; subst h
            simp [resolve, invoke, builtin, Builtin.min_, Builtin.min2, hf.eval h1, hf.eval h2]
          · cases h
        · cases h
  | _ => simp [peval] at h

end Go.Proofs.Ytjeimmekhfhepaa.E

namespace Go.Proofs.Ytjeimmekhfhepaa.E
set_option linter.all false
variable {E : Env} {fr : Frm} {U : List Asn} {N : Frm → List Asn → Prop}

/-- What became of the world, but for the blocks S1. -/
structure Step (w w' : World) (S1 : BSet) : Prop where
  os : w'.os = w.os
  tape : w'.tape = w.tape
  output : w'.output = w.output
  size : w.heap.size ≤ w'.heap.size
  same : ∀ b, b < w.heap.size → ¬ S1 b → w'.heap[b]? = w.heap[b]?

theorem Step.refl (w : World) (S : BSet) : Step w w S := ⟨rfl, rfl, rfl, Nat.le_refl _, fun _ _ _ => rfl⟩

theorem Mem.upd {A A' : Asn} {U' : List Asn} {w : World} (hm : Mem E U w) (hu : Upd A A' U U') :
    ∃ S1, A.P w S1 ∧ (∀ b, S1 b → b < w.heap.size) ∧ ∀ (w' : World) (T1 : BSet), Step w w' S1 → A'.P w' T1 →
      (∀ b, T1 b → b < w'.heap.size ∧ (S1 b ∨ w.heap.size ≤ b)) → Mem E U' w' := by
  obtain ⟨S, hs, hb⟩ := hm.own
  obtain ⟨S1, h1, hsub, hk⟩ := hu.star hs
  refine ⟨S1, h1, fun b h => (hb b (hsub b h)).1, fun w' T1 st hA hT => ?_⟩
  have hS := hk w' T1 hA (fun b hb' => by
      rcases (hT b hb').2 with h | h
      · exact .inr h
      · exact .inl fun hSb => by have := (hb b hSb).1; omega)
    (fun b hSb hn => st.same b (hb b hSb).1 hn)
  refine ⟨st.os.trans hm.os, st.tape.trans hm.tape, st.output.trans hm.output, Nat.le_trans hm.size st.size, ?_, _, hS, ?_⟩
  · intro b hro
    rw [st.same b (Nat.lt_of_lt_of_le hro.1 hm.size) (fun h => by
      rcases (hb b (hsub b h)).2 with h2 | h2
      · have := hro.1; omega
      · exact hro.2 h2)]
    exact hm.same b hro
  · rintro b (h | h)
    · have := hb b h; exact ⟨Nat.lt_of_lt_of_le this.1 st.size, this.2⟩
    · have := hT b h
      refine ⟨this.1, ?_⟩
      rcases this.2 with h2 | h2
      · exact (hb b (hsub b h2)).2
      · exact .inl (Nat.le_trans hm.size h2)

theorem Mem.new {A : Asn} {w w' : World} {T1 : BSet} (hm : Mem E U w) (st : Step w w' (fun _ => False)) (hA : A.P w' T1)
    (hT : ∀ b, T1 b → b < w'.heap.size ∧ w.heap.size ≤ b) : Mem E (A :: U) w' := by
  obtain ⟨S, hs, hb⟩ := hm.own
  refine ⟨st.os.trans hm.os, st.tape.trans hm.tape, st.output.trans hm.output, Nat.le_trans hm.size st.size, ?_, fun b => T1 b ∨ S b, ⟨T1, S, hA, star_fr _ _ _ _ (fun b h => st.same b (hb b h).1 (fun h => h)) hs, ?_, fun b h => .inl h, fun b h => .inr h⟩, ?_⟩
  · intro b hro
    rw [st.same b (Nat.lt_of_lt_of_le hro.1 hm.size) (fun h => h)]
    exact hm.same b hro
  · intro b h1 h2; have := (hT b h1).2; have := (hb b h2).1; omega
  · rintro b (h | h)
    · exact ⟨(hT b h).1, .inl (Nat.le_trans hm.size (hT b h).2)⟩
    · exact ⟨Nat.lt_of_lt_of_le (hb b h).1 st.size, (hb b h).2⟩

theorem Mem.tak {A : Asn} {U' : List Asn} {w : World} (hm : Mem E U w) (ht : Tak A U U') : ∃ S1, A.P w S1 ∧ ∀ b, S1 b → b < w.heap.size := by
  obtain ⟨S, hs, hb⟩ := hm.own
  obtain ⟨S1, h1, h2⟩ := ht.mem hs
  exact ⟨S1, h1, fun b h => (hb b (h2 b h)).1⟩

theorem Mem.drew {w : World} (hm : Mem E U w) : Mem E U { w with drawn := w.drawn + 1 } := by
  obtain ⟨S, hs, hb⟩ := hm.own
  exact ⟨hm.os, hm.tape, hm.output, hm.size, hm.same, S, star_fr U w _ S (fun _ _ => rfl) hs, hb⟩

theorem step_alloc (w : World) (o : Obj) : Step w (w.alloc o) (fun _ => False) :=
  ⟨rfl, rfl, rfl, by simp, fun b hb _ => @heap_alloc_old w o b hb⟩

theorem step_grown {w w' : World} {row : Option Nat} (h : w.grownBy w' row) : Step w w' (fun b => some b = row) :=
  ⟨h.os, h.tape, h.output, h.size, fun b hb hn => h.block b hb hn⟩

/-! ### loads -/
def aggB : TD → Bool
  | .struct _ => true
  | .arr _ _ => true
  | _ => false

theorem run_isAgg {t : TypeId} {i : TI} (h : tl E.T t = some i) (w : World) : (isAgg t).run E.P w = .ok (aggB i.d) w := by
  obtain ⟨d, s, b, z⟩ := i
  obtain ⟨td, h1, h2⟩ := ti_under h
  unfold isAgg
  simp only [Sem.run_bind, run_under h1, Result.andThen_ok]
  subst h2
  cases td <;> simp [tdOf, aggB]

/-- What a load takes out of a row of cells. -/
def loadL (i : TI) (cs : List Value) (o : Nat) : Option Value :=
  bif aggB i.d then (bif Nat.ble (o + i.size) cs.length then some (.agg ((cs.drop o).take i.size).toArray) else none) else cs[o]?

theorem run_loadVar {t : TypeId} {i : TI} (h : tl E.T t = some i) {w : World} {b o : Nat} {cs : List Value} {v : Value}
    (hc : ∀ j u, cs[j]? = some u → w.cell? ⟨b, j, none⟩ = some u) (hl : loadL i cs o = some v) : (loadVar t ⟨b, o, none⟩).run E.P w = .ok v w := by
  unfold loadVar
  simp only [Sem.run_bind, run_isAgg h, Result.andThen_ok]
  unfold loadL at hl
  obtain ⟨d, s, by_, z⟩ := i
  obtain ⟨inf, zv, hi, _, hs, _, _⟩ := ti_info h
  cases ha : aggB d with
  | false =>
    simp only [ha, cond_false] at hl
    simp only [Bool.false_eq_true, if_false, run_load, hc _ _ hl]
  | true =>
    simp only [ha, cond_true] at hl
    cases hb : Nat.ble (o + s) cs.length with
    | false => simp [hb] at hl
    | true =>
      simp only [hb, cond_true, Option.some.injEq] at hl
      have hle := Nat.le_of_ble_eq_true hb
      have hlen : ((cs.drop o).take s).length = s := by simp; omega
      have := run_loadCells_list (P := E.P) w ⟨b, o, none⟩ ((cs.drop o).take s) (by
        intro j u hu
        rw [add_at]
        apply hc
        rw [List.getElem?_take] at hu
        split at hu
        · rw [List.getElem?_drop] at hu; exact hu
        · cases hu)
      rw [hlen] at this
      simp only [if_true, Sem.run_bind, run_size hi, hs, Result.andThen_ok, this, Sem.run_pure, hl]

theorem n_load {t : TypeId} {x : Operand} {i : TI} {b o : Nat} {T : TypeId} {cs : List Value} {v : Value} {U' : List Asn}
    (hx : val fr x = some (.pointer (some ⟨b, o, none⟩))) (ht : tl E.T t = some i) (hU : Tak (blk b T cs) U U') (hl : loadL i cs o = some v) : NEV E (.load t x) fr U v := by
  intro a w dst ty pos af g hf hm
  obtain ⟨S1, ⟨_, hb⟩, _⟩ := hm.tak hU
  have hc : ∀ j u, cs[j]? = some u → w.cell? ⟨b, j, none⟩ = some u := fun j u hu => by rw [cell_of_row w b j _ _ _ hb]; simpa using hu
  simp [execOp, hf.eval hx, Instr.loadAt, Instr.sureAddr, run_loadVar ht hc hl]

/-- What a load finds at a place. -/
def loads (w : World) (i : TI) (b o : Nat) (v : Value) : Prop :=
  ∃ cs : List Value, (∀ j u, cs[j]? = some u → w.cell? ⟨b, o + j, none⟩ = some u) ∧ loadL i cs 0 = some v

theorem run_loads {t : TypeId} {i : TI} (h : tl E.T t = some i) {w : World} {b o : Nat} {v : Value} (hl : loads w i b o v) :
    (loadVar t ⟨b, o, none⟩).run E.P w = .ok v w := by
  obtain ⟨cs, hc, hl⟩ := hl
  unfold loadVar
  simp only [Sem.run_bind, run_isAgg h, Result.andThen_ok]
  unfold loadL at hl
  obtain ⟨d, s, by_, z⟩ := i
  obtain ⟨inf, zv, hi, _, hs, _, _⟩ := ti_info h
  cases ha : aggB d with
  | false =>
    simp only [ha, cond_false] at hl
    have := hc 0 v hl
    simp only [Nat.add_zero] at this
    simp only [Bool.false_eq_true, if_false, run_load, this]
  | true =>
    simp only [ha, cond_true, Nat.zero_add] at hl
    cases hb : Nat.ble s cs.length with
    | false => simp [hb] at hl
    | true =>
      simp only [hb, cond_true, Option.some.injEq, List.drop_zero] at hl
      have hle := Nat.le_of_ble_eq_true hb
      have hlen : (cs.take s).length = s := by simp; omega
      have := run_loadCells_list (P := E.P) w ⟨b, o, none⟩ (cs.take s) (by
        intro j u hu
        rw [add_at]
        apply hc
        rw [List.getElem?_take] at hu
        split at hu
        · exact hu
        · cases hu)
      rw [hlen] at this
      simp only [if_true, Sem.run_bind, run_size hi, hs, Result.andThen_ok, this, Sem.run_pure, hl]

theorem cell_block {w w' : World} {b o : Nat} (h : w'.heap[b]? = w.heap[b]?) : w'.cell? ⟨b, o, none⟩ = w.cell? ⟨b, o, none⟩ := by
  simp [World.cell?, h]

theorem loads_fr {w w' : World} {i : TI} {b o : Nat} {v : Value} (h : loads w i b o v) (hb : w'.heap[b]? = w.heap[b]?) : loads w' i b o v := by
  obtain ⟨cs, hc, hl⟩ := h
  exact ⟨cs, fun j u hu => by rw [cell_block hb]; exact hc j u hu, hl⟩

/-- A load out of what was there, and was not handed over. -/
theorem n_load_ro {t : TypeId} {x : Operand} {i : TI} {b o : Nat} {v : Value}
    (hx : val fr x = some (.pointer (some ⟨b, o, none⟩))) (ht : tl E.T t = some i) (hb : E.ro b) (hl : loads E.w0 i b o v) : NEV E (.load t x) fr U v := by
  intro a w dst ty pos af g hf hm
  simp [execOp, hf.eval hx, Instr.loadAt, Instr.sureAddr, run_loads ht (loads_fr hl (hm.same b hb))]

/-- A load, whatever it is known by. -/
theorem n_load_of {t : TypeId} {x : Operand} {i : TI} {b o : Nat} {v : Value}
    (hx : val fr x = some (.pointer (some ⟨b, o, none⟩))) (ht : tl E.T t = some i) (hl : ∀ w S, star U w S → loads w i b o v) : NEV E (.load t x) fr U v := by
  intro a w dst ty pos af g hf hm
  obtain ⟨S, hs, _⟩ := hm.own
  simp [execOp, hf.eval hx, Instr.loadAt, Instr.sureAddr, run_loads ht (hl w S hs)]

/-! ### slices of one's own -/
/-- The slice v of n elements of type e (sz cells each) holds the cells xs; nobody else sees its row. -/
def osl (e : TypeId) (sz : Nat) (v : Value) (n : Nat) (xs : List Value) : Asn where
  P := fun w S => w.ownsRow 0 e sz v n xs ∧ ∀ k, v.ownBlock = some k → S k
  fr := by
    rintro w w' S h ⟨h1, h2⟩
    refine ⟨⟨h1.1, ?_⟩, h2⟩
    rcases h1.2 with hn | ⟨g, cap, cur, hv, hb, hg, r⟩
    · exact .inl hn
    · exact .inr ⟨g, cap, cur, hv, hb, (h g (h2 g (by rw [hv]; rfl))).trans hg, r⟩

theorem osl_cells {e : TypeId} {sz : Nat} {g o n c : Nat} {k : Nat} {xs : List Value} {w : World} {S : BSet} (h : (osl e sz (.slice (some ⟨g, o, none⟩) n c) k xs).P w S) :
    ∀ j u, xs[j]? = some u → w.cell? ⟨g, j, none⟩ = some u := by
  intro j u hu
  have := World.ownsRow.cells h.1 (g := g) rfl j u hu
  rwa [add_at, Nat.zero_add] at this

theorem n_load_osl {t : TypeId} {x : Operand} {i : TI} {b o : Nat} {e : TypeId} {sz n c k : Nat} {xs : List Value} {v : Value} {U' : List Asn}
    (hx : val fr x = some (.pointer (some ⟨b, o, none⟩))) (ht : tl E.T t = some i) (hU : Tak (osl e sz (.slice (some ⟨b, 0, none⟩) n c) k xs) U U') (hl : loadL i xs o = some v) :
    NEV E (.load t x) fr U v := by
  intro a w dst ty pos af g hf hm
  obtain ⟨S1, hP, _⟩ := hm.tak hU
  simp [execOp, hf.eval hx, Instr.loadAt, Instr.sureAddr, run_loadVar ht (osl_cells hP) hl]

/-- The place of an element. -/
theorem n_index {t e : TypeId} {x ix : Operand} {s1 b1 : Nat} {z1 : List Value} {i : TI} {g o n c : Nat} {k : IntKind} {q : Int}
    (hx : val fr x = some (.slice (some ⟨g, o, none⟩) n c)) (hi : val fr ix = some (.int k q)) (ht : tl E.T t = some ⟨.slice e, s1, b1, z1⟩) (he : tl E.T e = some i)
    (j : Nat) (hj : q = (j : Int)) (hlt : j < n) : NEV E (.indexAddr t x ix) fr U (.pointer (some ⟨g, o + j * i.size, none⟩)) := by
  intro a w dst ty pos af g' hf _
  obtain ⟨d, sz, by_, z⟩ := i
  obtain ⟨inf, zv, hinf, _, hs, _, _⟩ := ti_info he
  subst hj
  have h2 : (j : Int) < (n : Int) := by omega
  simp [execOp, hf.eval hx, hf.eval hi, Instr.indexAt, asIntOf, run_under (u_slice ht), h2, run_size hinf, hs, add_at, show ¬ n ≤ j from by omega]

/-- The place of an element of an array behind a pointer. -/
theorem n_indexA {t e : TypeId} {x ix : Operand} {s1 b1 len : Nat} {z1 : List Value} {i : TI} {g o : Nat} {k : IntKind} {q : Int}
    (hx : val fr x = some (.pointer (some ⟨g, o, none⟩))) (hi : val fr ix = some (.int k q)) (ht : tl E.T t = some ⟨.arr len e, s1, b1, z1⟩) (he : tl E.T e = some i)
    (j : Nat) (hj : q = (j : Int)) (hlt : j < len) : NEV E (.indexAddr t x ix) fr U (.pointer (some ⟨g, o + j * i.size, none⟩)) := by
  intro a w dst ty pos af g' hf _
  obtain ⟨d, sz, by_, z⟩ := i
  obtain ⟨inf, zv, hinf, _, hs, _, _⟩ := ti_info he
  subst hj
  have h2 : (j : Int) < (len : Int) := by omega
  simp [execOp, hf.eval hx, hf.eval hi, Instr.indexAt, asIntOf, run_under (u_arr ht), Instr.sureAddr, h2, run_size hinf, hs, add_at, show ¬ len ≤ j from by omega]

/-! ### stores -/
def oneB : Value → Bool
  | .agg _ => false
  | .tuple _ => false
  | _ => true

theorem oneB_eq {v : Value} (h : oneB v = true) : v.oneCell' = true := by cases v <;> simp_all [oneB, Value.oneCell']

theorem setMany_splice (l : List Value) : ∀ (cs : List Value) (o : Nat), o + l.length ≤ cs.length → setMany cs o l = cs.take o ++ l ++ cs.drop (o + l.length) := by
  induction l with
  | nil => intro cs o _; simp [setMany]
  | cons c l ih =>
    intro cs o h
    simp only [List.length_cons] at h
    simp only [setMany]
    rw [ih (cs.set o c) (o + 1) (by simp; omega)]
    apply List.ext_getElem?
    intro j
    simp only [List.append_assoc, List.getElem?_append, List.length_take, List.length_set, List.getElem?_take, List.getElem?_drop, List.getElem?_set, List.length_cons, List.getElem?_cons]
    grind

theorem run_storeAt {w : World} {T : TypeId} {b o : Nat} {cur : Array Value} {t : TypeId} {i : TI} (ht : tl E.T t = some i) {v : Value}
    (hb : w.heap[b]? = some (.cells cur T (0, 0))) (hs : v.cells.toList.length = i.size) (h1 : ∀ u ∈ v.cells.toList, oneB u = true) (hle : o + i.size ≤ cur.size) :
    (Instr.storeAt t (.pointer (some ⟨b, o, none⟩)) v).run E.P w = .ok () (w.setRow b (cur.toList.take o ++ v.cells.toList ++ cur.toList.drop (o + i.size)).toArray) := by
  obtain ⟨d, sz, by_, z⟩ := i
  obtain ⟨inf, zv, hinf, _, hsz, _, _⟩ := ti_info ht
  have := run_storeCells_at E.P b o T v.cells.toList 0 cur w hb (by simp only [Nat.add_zero]; rw [hs]; exact hle) (fun u hu => oneB_eq (h1 u hu))
  simp only [Nat.add_zero, hs] at this
  have hs' : v.cells.size = sz := by simpa using hs
  simp [Instr.storeAt, Instr.sureAddr, storeVar, run_size hinf, hsz, hs', this]

theorem step_setRow (w : World) (b : Nat) (cs : Array Value) : Step w (w.setRow b cs) (fun k => k = b) :=
  ⟨rfl, rfl, rfl, by simp, fun k _ hk => setRow_other w b k cs hk⟩

theorem o_store {t : TypeId} {x y : Operand} {ty : TypeId} {pos : String} {af : Array Edge} {g : Option (Nat × Bool)} {i : TI} {b o : Nat} {T : TypeId} {cs vs : List Value} {v : Value} {U' : List Asn}
    (hx : val fr x = some (.pointer (some ⟨b, o, none⟩))) (hy : val fr y = some v) (ht : tl E.T t = some i) (hv : v.cells.toList = vs) (hl : Nat.beq vs.length i.size = true) (h1 : vs.all oneB = true)
    (hle : Nat.ble (o + i.size) cs.length = true) (hU : Upd (blk b T cs) (blk b T (setMany cs o vs)) U U') (h : N fr U') : EV1 E ⟨none, .store t x y, ty, pos, af, g⟩ fr U N := by
  intro a w hf hm
  subst hv
  obtain ⟨S1, ⟨hS, hb⟩, hlt, hk⟩ := hm.upd hU
  have hle' := Nat.le_of_ble_eq_true hle
  have hlen := Nat.eq_of_beq_eq_true hl
  have hr := run_storeAt (E := E) ht (v := v) (o := o) hb hlen (fun u hu => List.all_eq_true.1 h1 u hu) (by simpa using hle')
  have hsp := setMany_splice v.cells.toList cs o (by rw [hlen]; exact hle')
  rw [hlen] at hsp
  unfold Oper.wp execOp
  simp only [hf.eval hx, hf.eval hy, Sem.run_bind, hr, Result.andThen_ok, Sem.run_pure]
  have hst := step_setRow w b (cs.take o ++ v.cells.toList ++ cs.drop (o + i.size)).toArray
  refine ⟨fr, U', h, hf.put_none undef, hk _ (fun k => k = b) ⟨hst.os, hst.tape, hst.output, hst.size, fun k hk1 hk2 => hst.same k hk1 (fun e => hk2 (e ▸ hS))⟩ ⟨rfl, ?_⟩ ?_⟩
  · rw [hsp]
    simpa using setRow_heap w b cs.toArray (cs.take o ++ v.cells.toList ++ cs.drop (o + i.size)).toArray T (0, 0) hb
  · rintro k rfl
    exact ⟨Nat.lt_of_lt_of_le (hlt k hS) hst.size, .inl hS⟩

/-! ### places found by the class search -/
/-- The block b stands somewhere in U. -/
class TakC (b : Nat) (U : List Asn) (T : outParam TypeId) (cs : outParam (List Value)) (W : outParam (List Asn)) : Prop where
  tak : Tak (blk b T cs) U W
instance TakC.s {b : Nat} {U : List Asn} {T : TypeId} {cs : List Value} {W : List Asn} {B : Asn} [h : TakC b U T cs W] : TakC b (B :: U) T cs (B :: W) := ⟨.s h.tak⟩
instance TakC.z {b : Nat} {U : List Asn} {T : TypeId} {cs : List Value} : TakC b (blk b T cs :: U) T cs U := ⟨.z⟩
instance TakC.n {b : Nat} {U : List Asn} {T : TypeId} {cs : List Value} {W : List Asn} [h : TakC b U T cs W] : TakC b ([] ++ U) T cs W := h
instance TakC.a {b : Nat} {L U : List Asn} {T : TypeId} {cs : List Value} {W : List Asn} {B : Asn} [h : TakC b (B :: (L ++ U)) T cs W] : TakC b ((B :: L) ++ U) T cs W := h
/-- A thing stands somewhere in U. -/
class TakA (A : Asn) (U : List Asn) (W : outParam (List Asn)) : Prop where
  tak : Tak A U W
instance TakA.s {A : Asn} {U : List Asn} {W : List Asn} {B : Asn} [h : TakA A U W] : TakA A (B :: U) (B :: W) := ⟨.s h.tak⟩
instance TakA.z {A : Asn} {U : List Asn} : TakA A (A :: U) U := ⟨.z⟩
instance TakA.n {A : Asn} {U : List Asn} {W : List Asn} [h : TakA A U W] : TakA A ([] ++ U) W := h
instance TakA.a {A : Asn} {L U : List Asn} {W : List Asn} {B : Asn} [h : TakA A (B :: (L ++ U)) W] : TakA A ((B :: L) ++ U) W := h
/-- It is written. -/
class UpdC (A A' : Asn) (U : List Asn) (W : outParam (List Asn)) : Prop where
  upd : Upd A A' U W
instance UpdC.s {A A' : Asn} {U : List Asn} {W : List Asn} {B : Asn} [h : UpdC A A' U W] : UpdC A A' (B :: U) (B :: W) := ⟨.s h.upd⟩
instance UpdC.z {A A' : Asn} {U : List Asn} : UpdC A A' (A :: U) (A' :: U) := ⟨.z⟩

instance UpdC.n {A A' : Asn} {U : List Asn} {W : List Asn} [h : UpdC A A' U W] : UpdC A A' ([] ++ U) W := h
instance UpdC.a {A A' : Asn} {L U : List Asn} {W : List Asn} {B : Asn} [h : UpdC A A' (B :: (L ++ U)) W] : UpdC A A' ((B :: L) ++ U) W := h
theorem tc {b : Nat} {U : List Asn} {T : TypeId} {cs : List Value} {W : List Asn} [h : TakC b U T cs W] : TakC b U T cs W := h
theorem uc {A A' : Asn} {U W : List Asn} [h : UpdC A A' U W] : UpdC A A' U W := h
theorem tk {A : Asn} {U W : List Asn} [h : TakA A U W] : Tak A U W := h.tak

theorem nl {t : TypeId} {x : Operand} {i : TI} {b o : Nat} {T : TypeId} {cs : List Value} {v : Value} {W : List Asn}
    (hx : val fr x = some (.pointer (some ⟨b, o, none⟩))) (ht : tl E.T t = some i) (hU : TakC b U T cs W) (hl : loadL i cs o = some v) : NEV E (.load t x) fr U v := n_load hx ht hU.tak hl

theorem o_storeC {t : TypeId} {x y : Operand} {ty : TypeId} {pos : String} {af : Array Edge} {g : Option (Nat × Bool)} {i : TI} {b o : Nat} {T : TypeId} {cs vs : List Value} {v : Value} {W U' : List Asn}
    (hx : val fr x = some (.pointer (some ⟨b, o, none⟩))) (hy : val fr y = some v) (ht : tl E.T t = some i) (hv : v.cells.toList = vs) (hW : TakC b U T cs W) (hU : UpdC (blk b T cs) (blk b T (setMany cs o vs)) U U') (hl : Nat.beq vs.length i.size = true) (h1 : vs.all oneB = true)
    (hle : Nat.ble (o + i.size) cs.length = true) (h : N fr U') : EV1 E ⟨none, .store t x y, ty, pos, af, g⟩ fr U N := o_store hx hy ht hv hl h1 hle hU.upd h

theorem o_store_osl {t : TypeId} {x y : Operand} {ty : TypeId} {pos : String} {af : Array Edge} {g : Option (Nat × Bool)} {i : TI} {b o : Nat} {e : TypeId} {sz n c k : Nat} {xs vs : List Value} {v : Value} {U' : List Asn}
    (hx : val fr x = some (.pointer (some ⟨b, o, none⟩))) (hy : val fr y = some v) (ht : tl E.T t = some i) (hv : v.cells.toList = vs) (hl : Nat.beq vs.length i.size = true) (h1 : vs.all oneB = true)
    (hle : o + i.size ≤ xs.length) (hU : Upd (osl e sz (.slice (some ⟨b, 0, none⟩) n c) k xs) (osl e sz (.slice (some ⟨b, 0, none⟩) n c) k (setMany xs o vs)) U U') (h : N fr U') :
    EV1 E ⟨none, .store t x y, ty, pos, af, g⟩ fr U N := by
  intro a w hf hm
  subst hv
  obtain ⟨S1, ⟨hO, hS⟩, hlt, hk⟩ := hm.upd hU
  have hSb := hS b rfl
  have hlen := Nat.eq_of_beq_eq_true hl
  rcases hO.2 with ⟨he, _⟩ | ⟨g', cap, cur, hv, _, hg, hnc, hcm, hcs, htake⟩
  · cases he
  · simp only [Value.slice.injEq, Option.some.injEq, Addr.mk.injEq, and_true] at hv
    obtain ⟨rfl, hn, rfl⟩ := hv
    have hxl : xs.length ≤ cur.size := by rw [← htake, List.length_take, Array.length_toList]; exact Nat.min_le_right _ _
    have hle2 : o + i.size ≤ cur.size := Nat.le_trans hle hxl
    have hr := run_storeAt (E := E) ht (v := v) (o := o) hg hlen (fun u hu => List.all_eq_true.1 h1 u hu) hle2
    unfold Oper.wp execOp
    simp only [hf.eval hx, hf.eval hy, Sem.run_bind, hr, Result.andThen_ok, Sem.run_pure]
    have hst := step_setRow w b (cur.toList.take o ++ v.cells.toList ++ cur.toList.drop (o + i.size)).toArray
    refine ⟨fr, U', h, hf.put_none undef, hk _ (fun k => k = b) ⟨hst.os, hst.tape, hst.output, hst.size, fun k hk1 hk2 => hst.same k hk1 (fun e => hk2 (e ▸ hSb))⟩ ⟨⟨?_, .inr ⟨b, c, _, by rw [hn], Nat.zero_le _, setRow_heap w b cur _ e _ hg, hnc, hcm, ?_, ?_⟩⟩, ?_⟩ ?_⟩
    · rw [setMany_length]; exact hO.1
    · have hlen' : v.cells.size = i.size := by simpa using hlen
      simp only [List.size_toArray, List.length_append, List.length_take, List.length_drop, Array.length_toList]; omega
    · have hsp := setMany_splice v.cells.toList cur.toList o (by rw [hlen]; simp; omega)
      rw [hlen] at hsp
      have hsp2 := setMany_splice v.cells.toList xs o (by rw [hlen]; exact hle)
      rw [hlen] at hsp2
      rw [hsp2, ← htake]
      have hol : o + i.size ≤ k * sz := by have := hO.1; omega
      apply List.ext_getElem?
      intro j
      simp only [List.append_assoc, List.getElem?_append, List.length_take, List.getElem?_take, List.getElem?_drop, hlen, Array.length_toList]
      grind
    · intro k hk; simp [Value.ownBlock] at hk; exact hk.symm
    · rintro k rfl
      exact ⟨Nat.lt_of_lt_of_le (hlt k hSb) hst.size, .inl hSb⟩

/-! ### new blocks -/
theorem own_new (w : World) (o : Obj) : (own w.heap.size o).P (w.alloc o) (fun k => k = w.heap.size) := ⟨rfl, heap_alloc_new w o⟩

theorem mem_newBlk {w : World} (hm : Mem E U w) (o : Obj) : Mem E (own w.heap.size o :: U) (w.alloc o) :=
  hm.new (step_alloc w o) (own_new w o) (by rintro b rfl; simp)

theorem o_alloc {d : Nat} {t : TypeId} {ty : TypeId} {pos : String} {af : Array Edge} {g : Option (Nat × Bool)} {i : TI} (ht : tl E.T t = some i) (hd : Nat.ble (d + 1) E.n = true)
    (h : ∀ b, N ((d, .pointer (some ⟨b, 0, none⟩)) :: fr) (blk b t i.zero :: U)) : EV1 E ⟨some d, .alloc t, ty, pos, af, g⟩ fr U N := by
  intro a w hf hm
  obtain ⟨dd, sz, by_, z⟩ := i
  obtain ⟨inf, zv, hinf, hz, _, _, hzc⟩ := ti_info ht
  unfold Oper.wp execOp
  simp only [Instr.alloc, Sem.run_bind, run_zero hinf hz, Result.andThen_ok, newVar, newRow, run_newObj, Sem.run_pure, hzc]
  exact ⟨_, _, h w.heap.size, hf.put (Nat.le_of_ble_eq_true hd) _, mem_newBlk hm _⟩

theorem o_box {d : Nat} {t : TypeId} {x : Operand} {ty : TypeId} {pos : String} {af : Array Edge} {g : Option (Nat × Bool)} {cs : List Value} (hx : val fr x = some (.agg cs.toArray)) (hd : Nat.ble (d + 1) E.n = true)
    (h : ∀ b, N ((d, .pointer (some ⟨b, 0, none⟩)) :: fr) (blk b t cs :: U)) : EV1 E ⟨some d, .box t x, ty, pos, af, g⟩ fr U N := by
  intro a w hf hm
  unfold Oper.wp execOp
  simp only [Instr.box, hf.eval hx, Sem.run_bind, newVar, newRow, Value.cells, run_newObj, Result.andThen_ok, Sem.run_pure]
  exact ⟨_, _, h w.heap.size, hf.put (Nat.le_of_ble_eq_true hd) _, mem_newBlk hm _⟩

theorem o_box1 {d : Nat} {t : TypeId} {x : Operand} {ty : TypeId} {pos : String} {af : Array Edge} {g : Option (Nat × Bool)} {v : Value} (hx : val fr x = some v) (hv : oneB v = true) (hd : Nat.ble (d + 1) E.n = true)
    (h : ∀ b, N ((d, .pointer (some ⟨b, 0, none⟩)) :: fr) (blk b t [v] :: U)) : EV1 E ⟨some d, .box t x, ty, pos, af, g⟩ fr U N := by
  intro a w hf hm
  have hc : v.cells = [v].toArray := by cases v <;> simp_all [Value.cells, oneB]
  unfold Oper.wp execOp
  simp only [Instr.box, hf.eval hx, Sem.run_bind, newVar, newRow, hc, run_newObj, Result.andThen_ok, Sem.run_pure]
  exact ⟨_, _, h w.heap.size, hf.put (Nat.le_of_ble_eq_true hd) _, mem_newBlk hm _⟩

theorem o_makeMap {d : Nat} {t : TypeId} {ty : TypeId} {pos : String} {af : Array Edge} {g : Option (Nat × Bool)} (hd : Nat.ble (d + 1) E.n = true)
    (h : ∀ b, N ((d, .map (some b)) :: fr) (own b (.map #[] 0) :: U)) : EV1 E ⟨some d, .makeMap t none, ty, pos, af, g⟩ fr U N := by
  intro a w hf hm
  unfold Oper.wp execOp
  simp only [Instr.makeMap, Option.map_none, Sem.run_bind, newObj, Sem.run, Result.andThen_ok, Sem.run_pure, pure, Sem.bind, bind]
  exact ⟨_, _, h w.heap.size, hf.put (Nat.le_of_ble_eq_true hd) _, mem_newBlk hm _⟩

theorem maxLen_eq : maxLen = 9223372036854775807 := by unfold maxLen; rfl

theorem osl_alloc {w : World} {e : TypeId} {sz n : Nat} {cs : List Value} (hn : n ≤ maxLen) (hl : cs.length = n * sz) :
    (osl e sz (.slice (some ⟨w.heap.size, 0, none⟩) n n) n cs).P (w.alloc (.cells cs.toArray e)) (fun k => k = w.heap.size) := by
  refine ⟨⟨hl, .inr ⟨w.heap.size, n, cs.toArray, rfl, Nat.zero_le _, heap_alloc_new w _, Nat.le_refl _, hn, by simpa using hl, ?_⟩⟩, fun k hk => ?_⟩
  · simp [← hl]
  · simp [Value.ownBlock] at hk; exact hk.symm

/-- make([]T, n), an element of one cell. -/
theorem o_make {d : Nat} {t e : TypeId} {x y : Operand} {ty : TypeId} {pos : String} {af : Array Edge} {g : Option (Nat × Bool)} {s1 b1 : Nat} {z1 : List Value} {de : TD} {bytes : Nat} {z : Value}
    {k1 k2 : IntKind} {q q' : Int}
    (ht : tl E.T t = some ⟨.slice e, s1, b1, z1⟩) (he : tl E.T e = some ⟨de, 1, bytes, [z]⟩) (hx : val fr x = some (.int k1 q)) (hy : val fr y = some (.int k2 q'))
    (n : Nat) (hq : q = (n : Int)) (hq' : q' = (n : Int)) (hb : bytes * n ≤ 281474976710656) (h63 : n ≤ 9223372036854775807) (hd : Nat.ble (d + 1) E.n = true)
    (h : ∀ b, N ((d, .slice (some ⟨b, 0, none⟩) n n) :: fr) (osl e 1 (.slice (some ⟨b, 0, none⟩) n n) n (List.replicate n z) :: U)) : EV1 E ⟨some d, .makeSlice t x y, ty, pos, af, g⟩ fr U N := by
  intro a w hf hm
  obtain ⟨inf, zv, hinf, hz, hs, hby, hzc⟩ := ti_info he
  subst hq; subst hq'
  have hbi : (inf.bytes : Int) * (n : Int) ≤ 281474976710656 := by
    rw [hby]
    have : ((bytes * n : Nat) : Int) ≤ 281474976710656 := by omega
    rwa [Int.natCast_mul] at this
  have hr := run_make (P := E.P) w t e inf zv (u_slice ht) hinf hz k1 k2 n n (by omega) (Int.le_refl _) hbi (by omega)
  have hcl : (madeCells zv.cells ((n : Int).toNat * inf.size)) = (List.replicate n z).toArray := by
    rw [hs, Int.toNat_natCast, Nat.mul_one, hzc, ← toList_madeCells_one]
  rw [hcl, Int.toNat_natCast] at hr
  unfold Oper.wp execOp
  simp only [hf.eval hx, hf.eval hy, Sem.run_bind, hr, Result.andThen_ok, Sem.run_pure]
  refine ⟨_, _, h w.heap.size, hf.put (Nat.le_of_ble_eq_true hd) _, hm.new (step_alloc w _) (osl_alloc (by rw [maxLen_eq]; exact h63) (by simp)) ?_⟩
  rintro b rfl; simp

/-- make([]T, 0, n). -/
theorem o_make0 {d : Nat} {t e : TypeId} {x y : Operand} {ty : TypeId} {pos : String} {af : Array Edge} {g : Option (Nat × Bool)} {s1 b1 : Nat} {z1 : List Value} {i : TI}
    {k1 k2 : IntKind} {q' : Int}
    (ht : tl E.T t = some ⟨.slice e, s1, b1, z1⟩) (he : tl E.T e = some i) (hx : val fr x = some (.int k1 0)) (hy : val fr y = some (.int k2 q'))
    (n : Nat) (hq' : q' = (n : Int)) (hb : i.bytes * n ≤ 281474976710656) (h63 : n ≤ 9223372036854775807) (hd : Nat.ble (d + 1) E.n = true)
    (h : ∀ b, N ((d, .slice (some ⟨b, 0, none⟩) 0 n) :: fr) (osl e i.size (.slice (some ⟨b, 0, none⟩) 0 n) 0 [] :: U)) : EV1 E ⟨some d, .makeSlice t x y, ty, pos, af, g⟩ fr U N := by
  intro a w hf hm
  obtain ⟨dd, sz, bytes, z⟩ := i
  obtain ⟨inf, zv, hinf, hz, hs, hby, hzc⟩ := ti_info he
  subst hq'
  have hbi : (inf.bytes : Int) * (n : Int) ≤ 281474976710656 := by
    rw [hby]
    have : ((bytes * n : Nat) : Int) ≤ 281474976710656 := by simp only at hb; omega
    rwa [Int.natCast_mul] at this
  have hr := run_make (P := E.P) w t e inf zv (u_slice ht) hinf hz k1 k2 0 n (Int.le_refl _) (by omega) hbi (by omega)
  rw [Int.toNat_natCast] at hr
  unfold Oper.wp execOp
  simp only [hf.eval hx, hf.eval hy, Sem.run_bind, hr, Result.andThen_ok, Sem.run_pure]
  refine ⟨_, _, h w.heap.size, hf.put (Nat.le_of_ble_eq_true hd) _, hm.new (step_alloc w _) (T1 := fun k => k = w.heap.size) ⟨?_, ?_⟩ ?_⟩
  · have := World.ownsRow_made (base := 0) (e := e) (size := sz) w (madeCells zv.cells (n * inf.size)) n (Nat.zero_le _) (by rw [maxLen_eq]; exact h63) (by rw [hs]; exact size_madeCells _ _)
    exact this
  · intro k hk; simp [Value.ownBlock] at hk; exact hk.symm
  · rintro b rfl; simp

/-- A slice literal. -/
theorem o_lit {d : Nat} {t e : TypeId} {len : Nat} {parts : Array (Nat × Operand)} {ty : TypeId} {pos : String} {af : Array Edge} {g : Option (Nat × Bool)} {s1 b1 : Nat} {z1 : List Value} {i : TI}
    {ps : List (Nat × Value)} {cs : List Value}
    (ht : tl E.T t = some ⟨.slice e, s1, b1, z1⟩) (he : tl E.T e = some i) (hp : partVals fr parts.toList = some ps) (hsz : Nat.ble (len * i.size) 16777216 = true) (hln : Nat.ble len 16777216 = true)
    (hf0 : fillL ((List.range len).map fun j => (j * i.size, i.size)) ((List.range (len * i.size)).map fun j => i.zero[j % i.zero.length]!) ps = some cs) (hd : Nat.ble (d + 1) E.n = true)
    (h : ∀ b, N ((d, .slice (some ⟨b, 0, none⟩) len len) :: fr) (osl e i.size (.slice (some ⟨b, 0, none⟩) len len) len cs :: U)) : EV1 E ⟨some d, .buildSlice t len parts, ty, pos, af, g⟩ fr U N := by
  intro a w hf hm
  obtain ⟨dd, sz, bytes, z⟩ := i
  obtain ⟨inf, zv, hinf, hz, hs, hby, hzc⟩ := ti_info he
  have hparts : (parts.map (fun (x : Nat × Operand) => (x.1, a.eval x.2))).toList = ps := by rw [← hf.parts hp]; simp
  have hle := Nat.le_of_ble_eq_true hsz
  simp only at hle hf0
  have fillLen : ∀ (fs : List (Nat × Nat)) (ps : List (Nat × Value)) (c c' : List Value), fillL fs c ps = some c' → c'.length = c.length := by
    intro fs ps
    induction ps with
    | nil => intro c c' h; simp only [fillL, Option.some.injEq] at h; rw [h]
    | cons p ps ih =>
      intro c c' h
      obtain ⟨i, v⟩ := p
      simp only [fillL] at h
      split at h
      · cases h
      · split at h
        · cases h
        · split at h
          · rw [ih _ _ h, setMany_length]
          · cases h
  -- the places beyond the last are never asked: a fill that succeeds names none
  have fill2 : ∀ (ps : List (Nat × Value)) (cells cs : List Value), cells.length = len * sz → fillL ((List.range len).map fun j => (j * sz, sz)) cells ps = some cs →
      Instr.fill (fun i => some (i * sz, sz)) cells.toArray ps = some cs.toArray := by
    intro ps
    induction ps with
    | nil => intro cells cs _ h; simp only [fillL, Option.some.injEq] at h; subst h; rfl
    | cons p ps ih =>
      intro cells cs hcl h
      obtain ⟨i, v⟩ := p
      simp only [fillL, List.getElem?_map] at h
      unfold Instr.fill
      cases hi : (List.range len)[i]? with
      | none => simp [hi] at h
      | some i' =>
        have hii : i' = i := by
          rw [List.getElem?_eq_some_iff] at hi
          obtain ⟨_, h2⟩ := hi
          simpa using h2.symm
        subst hii
        simp only [hi, Option.map_some] at h
        by_cases h1 : v.cells.toList.length ≠ sz
        · rw [if_pos h1] at h; cases h
        · rw [if_neg h1] at h
          by_cases h2 : i' * sz + sz ≤ cells.length
          · rw [if_pos h2] at h
            have h1' : v.cells.size = sz := by simpa using h1
            have hc : (decide (v.cells.size ≠ sz) || decide (i' * sz + v.cells.size > cells.toArray.size)) = false := by
              simp [h1']; omega
            simp only [hc, Bool.false_eq_true, if_false]
            have := setMany_eq v.cells.toList cells.toArray (i' * sz) 0
            simp only [Nat.add_zero] at this
            rw [show (v.cells.zipIdx.foldl (fun cs (x : Value × Nat) => cs.setIfInBounds (i' * sz + x.2) x.1) cells.toArray) = (setMany cells (i' * sz) v.cells.toList).toArray from by
              rw [← this, ← Array.foldl_toList, Array.toList_zipIdx]]
            exact ih _ cs (by rw [setMany_length]; exact hcl) h
          · rw [if_neg h2] at h; cases h
  have hfill := fill2 ps _ cs (by simp) hf0
  have hcl : cs.length = len * sz := by rw [fillLen _ _ _ _ hf0]; simp
  have hr : (Instr.buildSlice t len (parts.map (fun (x : Nat × Operand) => (x.1, a.eval x.2)))).run E.P w = .ok (.slice (some ⟨w.heap.size, 0, none⟩) len len) (w.alloc (.cells cs.toArray e)) := by
    have hcells0 : ∀ zz : Array Value, len * sz = 0 → (Array.map (fun j => zz[j % zz.size]!) (Array.range (len * sz))) = ((List.range (len * sz)).map fun j => z[j % z.length]!).toArray := by
      intro zz h0; simp [h0]
    have hcells1 : (Array.map (fun j => zv.cells[j % zv.cells.size]!) (Array.range (len * sz))) = ((List.range (len * sz)).map fun j => z[j % z.length]!).toArray := by
      rw [hzc]; apply Array.toList_inj.1; simp
    unfold Instr.buildSlice
    simp only [Sem.run_bind, run_under (u_slice ht), Result.andThen_ok, run_size hinf]
    rw [if_neg (by rw [hs]; omega), hs]
    by_cases h0 : len * sz = 0
    · rw [if_pos h0]
      simp only [Sem.run_bind, Sem.run_pure, Result.andThen_ok, hparts, hcells0 _ h0, hfill]
      simp [newRow]
    · rw [if_neg h0]
      simp only [Sem.run_bind, run_zero hinf hz, Sem.run_pure, Result.andThen_ok, hparts, hcells1, hfill]
      simp [newRow]
  unfold Oper.wp execOp
  simp only [Sem.run_bind, hr, Result.andThen_ok, Sem.run_pure]
  refine ⟨_, _, h w.heap.size, hf.put (Nat.le_of_ble_eq_true hd) _, hm.new (step_alloc w _) (osl_alloc (by rw [maxLen_eq]; have := Nat.le_of_ble_eq_true hln; omega) hcl) ?_⟩
  rintro b rfl; simp

/-! ### append -/
theorem append_own2 {P : Program} (w : World) (t ty e : TypeId) (i : TypeInfo) (z : Value) (ht : P.underlying t = some (.slice e)) (hi : P.info? e = some i) (hz : i.zero = some z)
    (hzs : z.cells.size = i.size) (v : Value) (n : Nat) (xs : List Value) (hown : w.ownsRow 0 e i.size v n xs)
    (a : Addr) (m c : Nat) (news : List Value) (hl : news.length = m * i.size) (hnews : ∀ j u, news[j]? = some u → w.cell? (a.add j) = some u) (h1 : ∀ u ∈ news, u.oneCell' = true)
    (h63 : n + m ≤ 9223372036854775807) (hm0 : 0 < m) (hbytes : (n + m) * i.bytes ≤ 140737488355328) :
    ∃ b cap w', (Builtin.append_ #[t, t] ty #[v, .slice (some a) m c]).run P w = .ok (.slice (some ⟨b, 0, none⟩) (n + m) cap) w' ∧
      w'.ownsRow 0 e i.size (.slice (some ⟨b, 0, none⟩) (n + m) cap) (n + m) (xs ++ news) ∧ w.grownBy w' v.ownBlock ∧ (v.ownBlock = some b ∨ b = w.heap.size) := by
  have hlen : (xs ++ news).length = (n + m) * i.size := by rw [List.length_append, hown.1, hl, Nat.add_mul]
  have grown : ∀ (old : Nat) (row : Option Nat),
      (w.drew.alloc (.cells (xs.toArray ++ news.toArray ++ Builtin.zeroCells z.cells (grownCap w (n + m) old e - (n + m))) e)).ownsRow 0 e i.size
        (.slice (some ⟨w.heap.size, 0, none⟩) (n + m) (grownCap w (n + m) old e)) (n + m) (xs ++ news) ∧
      w.grownBy (w.drew.alloc (.cells (xs.toArray ++ news.toArray ++ Builtin.zeroCells z.cells (grownCap w (n + m) old e - (n + m))) e)) row := by
    intro old row
    have hge := grownCap_ge w (n + m) old e
    have hcm : grownCap w (n + m) old e ≤ maxLen := grownCap_le_maxLen w (n + m) old e (by rw [maxLen_eq]; exact h63)
    refine ⟨⟨hlen, .inr ⟨w.heap.size, _, _, rfl, Nat.zero_le _, heap_alloc_new w.drew _, hge, hcm, ?_, ?_⟩⟩, ⟨rfl, rfl, rfl, by simp, fun k hk _ => @heap_alloc_old w.drew _ k hk⟩⟩
    · simp only [Array.size_append, List.size_toArray, size_zeroCells, hzs, hown.1, hl, ← Nat.add_mul]
      congr 1
      omega
    · simp only [Array.toList_append, List.append_assoc]
      rw [← List.append_assoc, ← hlen]
      exact List.take_left
  have hrest := hown.2
  rcases hrest with ⟨rfl, rfl⟩ | ⟨g, cap, cur, rfl, hbg, hg, hnc, hcm, hcs, htake⟩
  · have hx : xs = [] := List.eq_nil_of_length_eq_zero (by simpa using hown.1)
    subst hx
    have hr := run_append_nil (P := P) w t ty e i z ht hi hz a m c news hl hnews (by omega) (by omega) (by have hb := hbytes; simp only [Nat.zero_add] at hb; omega)
    have hgr := grown 0 (Value.ownBlock (.slice none 0 0))
    simp only [Nat.zero_add, List.nil_append, Array.empty_append] at hgr ⊢
    exact ⟨_, _, _, hr, hgr.1, hgr.2, .inr rfl⟩
  · by_cases hroom : n + m ≤ cap
    · have hfit : n * i.size + news.length ≤ cur.size := by rw [hl, hcs, ← Nat.add_mul]; exact Nat.mul_le_mul_right _ hroom
      have hr := run_append_room (P := P) w t ty e i ht hi g n cap cur hg a m c news hl hnews h1 hroom hfit
      refine ⟨g, _, _, hr, ⟨hlen, .inr ⟨g, cap, _, rfl, hbg, setRow_heap w g cur _ e _ hg, hroom, hcm, ?_, ?_⟩⟩, ⟨rfl, rfl, rfl, by simp, fun k _ hk => setRow_other w g k _ (fun e => hk (by simp [Value.ownBlock, e]))⟩, .inl rfl⟩
      · simp only [List.size_toArray, List.length_append, List.length_take, List.length_drop, Array.length_toList]
        omega
      · rw [htake, ← hlen]
        exact List.take_left
    · have holds : ∀ j u, xs[j]? = some u → w.cell? ((⟨g, 0, none⟩ : Addr).add j) = some u := hown.cells (g := g) rfl
      have hr := run_append_grow (P := P) w t ty e i z ht hi hz ⟨g, 0, none⟩ n cap xs hown.1 holds a m c news hl hnews (by omega) (by omega) (growslice_fits (by omega) hbytes)
      have hgr := grown cap (Value.ownBlock (.slice (some ⟨g, 0, none⟩) n cap))
      exact ⟨_, _, _, hr, hgr.1, hgr.2, .inr rfl⟩

theorem o_append {d : Nat} {t e : TypeId} {x y : Operand} {ty : TypeId} {pos : String} {af : Array Edge} {g : Option (Nat × Bool)} {s1 b1 : Nat} {z1 : List Value} {i : TI} {v : Value} {n : Nat} {xs : List Value}
    {g2 o2 m c2 : Nat} {news : List Value} (U' : Nat → Nat → List Asn)
    (ht : tl E.T t = some ⟨.slice e, s1, b1, z1⟩) (he : tl E.T e = some i) (hx : val fr x = some v) (hy : val fr y = some (.slice (some ⟨g2, o2, none⟩) m c2))
    (hsrc : ∀ w, Mem E U w → ∀ j u, news[j]? = some u → w.cell? ⟨g2, o2 + j, none⟩ = some u) (hl : news.length = m * i.size) (h1 : ∀ u ∈ news, oneB u = true)
    (hzl : Nat.beq i.zero.length i.size = true) (hm0 : 0 < m) (hby : (n + m) * i.bytes ≤ 140737488355328) (h63 : n + m ≤ 9223372036854775807) (hd : Nat.ble (d + 1) E.n = true)
    (hU : ∀ b c, Upd (osl e i.size v n xs) (osl e i.size (.slice (some ⟨b, 0, none⟩) (n + m) c) (n + m) (xs ++ news)) U (U' b c))
    (h : ∀ b c, N ((d, .slice (some ⟨b, 0, none⟩) (n + m) c) :: fr) (U' b c)) :
    EV1 E ⟨some d, .call ⟨.builtin .append, #[x, y], #[t, t]⟩, ty, pos, af, g⟩ fr U N := by
  intro a w hf hm
  obtain ⟨dd, sz, bytes, z⟩ := i
  obtain ⟨inf, zv, hinf, hzv, hs, hbb, hzc⟩ := ti_info he
  obtain ⟨_, ⟨hO0, _⟩, _⟩ := hm.upd (hU 0 0)
  have hzsize : zv.cells.size = inf.size := by rw [hzc, hs]; simpa using Nat.eq_of_beq_eq_true hzl
  simp only at hl hby hO0 hU
  subst hs
  subst hbb
  obtain ⟨b, c, w', hr, hO', hgr, hb⟩ := append_own2 (P := E.P) w t ty e inf zv (u_slice ht) hinf hzv hzsize v n xs hO0 ⟨g2, o2, none⟩ m c2 news hl
    (fun j u hu => by rw [add_at]; exact hsrc w hm j u hu) (fun u hu => oneB_eq (h1 u hu)) h63 hm0 hby
  obtain ⟨S1, ⟨hO, hS⟩, hlt, hk⟩ := hm.upd (hU b c)
  have hst := step_grown hgr
  have hblt : b < w'.heap.size := (World.ownsRow.lt hO' b rfl).2
  unfold Oper.wp execOp
  simp only [resolve, invoke, builtin, Sem.run_bind, Sem.run_pure, Result.andThen_ok, List.map_toArray, List.map_cons, List.map_nil, hf.eval hx, hf.eval hy, hr]
  refine ⟨_, _, h b c, hf.put (Nat.le_of_ble_eq_true hd) _, hk w' (fun k => k = b) ⟨hst.os, hst.tape, hst.output, hst.size, fun k hk1 hk2 => hst.same k hk1 (fun e => hk2 (hS k e.symm))⟩ ⟨hO', ?_⟩ ?_⟩
  · intro k hk; simp [Value.ownBlock] at hk; exact hk.symm
  · rintro k rfl
    refine ⟨hblt, ?_⟩
    rcases hb with h | h
    · exact .inl (hS k h)
    · exact .inr (by omega)

/-- append of a nil slice, or of one without elements: nothing is done. -/
theorem n_append0 {t e : TypeId} {x y : Operand} {s1 b1 : Nat} {z1 : List Value} {i : TI} {A B : Option Addr} {n c c2 : Nat}
    (ht : tl E.T t = some ⟨.slice e, s1, b1, z1⟩) (he : tl E.T e = some i) (hx : val fr x = some (.slice A n c)) (hy : val fr y = some (.slice B 0 c2)) (hnc : n ≤ c) :
    NEV E (.call ⟨.builtin .append, #[x, y], #[t, t]⟩) fr U (.slice A n c) := by
  intro a w dst ty pos af g hf _
  obtain ⟨dd, sz, bytes, z⟩ := i
  obtain ⟨inf, zv, hinf, hzv, hs, hbb, hzc⟩ := ti_info he
  have h2 : n + 0 ≤ c := by omega
  cases A <;> cases B <;>
    simp [execOp, resolve, invoke, builtin, hf.eval hx, hf.eval hy, Builtin.append_, run_under (u_slice ht), sizeOf, run_info hinf, Builtin.lenOf, hnc, Builtin.firstCells, loadCells, loadCellsFrom, storeCells]

end Go.Proofs.Ytjeimmekhfhepaa.E

namespace Go.Proofs.Ytjeimmekhfhepaa.E
set_option linter.all false
variable {E : Env} {fr : Frm} {U : List Asn} {N : Frm → List Asn → Prop}

/-- What is read, and not written: it hangs on the blocks of a set alone, and on no more if the set grows. -/
structure Rd where
  P : World → BSet → Prop
  fr : ∀ (w w' : World) (S : BSet), (∀ b, S b → w'.heap[b]? = w.heap[b]?) → P w S → P w' S
  mono : ∀ (w : World) (S S' : BSet), (∀ b, S b → S' b) → P w S → P w S'

def Rd.tt : Rd := ⟨fun _ _ => True, fun _ _ _ _ _ => trivial, fun _ _ _ _ _ => trivial⟩
def Rd.and (A B : Rd) : Rd := ⟨fun w S => A.P w S ∧ B.P w S, fun w w' S h ⟨a, b⟩ => ⟨A.fr w w' S h a, B.fr w w' S h b⟩, fun w S S' h ⟨a, b⟩ => ⟨A.mono w S S' h a, B.mono w S S' h b⟩⟩
def Rd.pure (p : Prop) : Rd := ⟨fun _ _ => p, fun _ _ _ _ h => h, fun _ _ _ _ h => h⟩

/-- The function is entered by a call. -/
def Enters (P : Program) (f : FuncId) : Prop := ∀ args w, (callFunc f args).run P w = .ok (.enter f args) w

theorem enters_of {P : Program} {f : FuncId} {fn : Func} (h : P.funcs[f]? = some fn) (hn : (fn.name == "runtime.NumGoroutine") = false) (hb : fn.body.isNone = false) : Enters P f := by
  intro args w
  have hn' : ¬ fn.name = "runtime.NumGoroutine" := by simpa using hn
  have hb' : ¬ fn.body = none := by intro e; rw [e] at hb; simp at hb
  simp [callFunc, h, hn', hb']

/-- What a call does: from owned blocks Ms, reading R, it comes back with a value and owned blocks; all else is as it was. -/
structure Trip (P : Program) (f : FuncId) (args : List Value) (R : Rd) (Ms : List Asn) (Q : Value → List Asn → Prop) : Prop where
  enters : Enters P f
  calls : ∀ (w : World) (SM : BSet), (∀ b, SM b → b < w.heap.size) → star Ms w SM → R.P w (fun b => b < w.heap.size ∧ ¬ SM b) →
    Calls P f args.toArray w fun e w' => ∃ v V S, e = .returned v ∧ Q v V ∧ star V w' S ∧ (∀ b, S b → b < w'.heap.size ∧ (w.heap.size ≤ b ∨ SM b)) ∧ Step w w' SM

theorem Trip.mono {P : Program} {f : FuncId} {args : List Value} {R R' : Rd} {Ms : List Asn} {Q Q' : Value → List Asn → Prop} (h : Trip P f args R Ms Q)
    (hr : ∀ w S, R'.P w S → R.P w S) (hq : ∀ v V, Q v V → Q' v V) : Trip P f args R' Ms Q' :=
  ⟨h.enters, fun w SM h1 h2 h3 => (h.calls w SM h1 h2 (hr _ _ h3)).mono fun _ _ ⟨v, V, S, a, b, c⟩ => ⟨v, V, S, a, hq v V b, c⟩⟩

/-- Ms are taken out of U; U' is left. -/
inductive Pic : List Asn → List Asn → List Asn → Prop
  | nil {X} : Pic [] X X
  | cons {A Ms X X1 X2} : Tak A X X1 → Pic Ms X1 X2 → Pic (A :: Ms) X X2

theorem Pic.star {Ms U U' : List Asn} (h : Pic Ms U U') {w : World} {S : BSet} (hs : star U w S) : star (Ms ++ U') w S := by
  induction h generalizing S with
  | nil => exact hs
  | cons ht _ ih =>
    obtain ⟨S1, S2, h1, h2, hd, i1, i2⟩ := ht.star hs
    exact ⟨S1, S2, h1, ih h2, hd, i1, i2⟩

/-- R can be read: out of what was there, and the owned blocks U. -/
def Can (E : Env) (U : List Asn) (R : Rd) : Prop :=
  ∀ (w : World) (S : BSet), (∀ b, E.ro b → w.heap[b]? = E.w0.heap[b]?) → star U w S → R.P w (fun b => E.ro b ∨ S b)

theorem Can.tt : Can E U Rd.tt := fun _ _ _ _ => trivial
theorem Can.ro {R : Rd} (h : R.P E.w0 E.ro) : Can E U R := fun w _ ha _ => R.mono w E.ro _ (fun _ hb => .inl hb) (R.fr E.w0 w E.ro ha h)
theorem Can.and {A B : Rd} (h : Can E U A) (h' : Can E U B) : Can E U (A.and B) := fun w S ha hs => ⟨h w S ha hs, h' w S ha hs⟩
theorem Can.pure {p : Prop} (h : p) : Can E U (Rd.pure p) := fun _ _ _ _ => h

theorem call_core {P : Program} (hP : P = E.P) {f : FuncId} {vs : List Value} {R : Rd} {Ms U' : List Asn} {Q : Value → List Asn → Prop} (ht : Trip P f vs R Ms Q) (hp : Pic Ms U U') (hR : Can E U' R)
    {w : World} (hm : Mem E U w) {R2 : Ending → World → Prop} (h : ∀ v V w', Q v V → Mem E (V ++ U') w' → R2 (.returned v) w') : Calls E.P f vs.toArray w R2 := by
  subst hP
  obtain ⟨S, hs, hb⟩ := hm.own
  obtain ⟨S1, S2, h1, h2, hd, i1, i2⟩ := star_split (hp.star hs)
  refine (ht.calls w S1 (fun b h => (hb b (i1 b h)).1) h1 (R.mono _ _ _ ?_ (hR w S2 hm.same h2))).mono ?_
  · rintro b (hro | hS)
    · refine ⟨Nat.lt_of_lt_of_le hro.1 hm.size, fun hc => ?_⟩
      rcases (hb b (i1 b hc)).2 with h | h
      · have := hro.1; omega
      · exact hro.2 h
    · exact ⟨(hb b (i2 b hS)).1, fun hc => hd b hc hS⟩
  · rintro e w' ⟨v, V, T, rfl, hQ, hV, hT, hst⟩
    refine h v V w' hQ ⟨hst.os.trans hm.os, hst.tape.trans hm.tape, hst.output.trans hm.output, Nat.le_trans hm.size hst.size, ?_, fun b => T b ∨ S2 b, star_append hV ?_ ?_, ?_⟩
    · intro b hro
      rw [hst.same b (Nat.lt_of_lt_of_le hro.1 hm.size) (fun hc => by
        rcases (hb b (i1 b hc)).2 with h | h
        · have := hro.1; omega
        · exact hro.2 h)]
      exact hm.same b hro
    · exact star_fr _ _ _ _ (fun b h => hst.same b (hb b (i2 b h)).1 (fun hc => hd b hc h)) h2
    · intro b h1 h2
      rcases (hT b h1).2 with h | h
      · have := (hb b (i2 b h2)).1; omega
      · exact hd b h h2
    · rintro b (h | h)
      · refine ⟨(hT b h).1, ?_⟩
        rcases (hT b h).2 with h2 | h2
        · exact .inl (Nat.le_trans hm.size h2)
        · exact (hb b (i1 b h2)).2
      · exact ⟨Nat.lt_of_lt_of_le (hb b (i2 b h)).1 hst.size, (hb b (i2 b h)).2⟩

/-- A call of a function by its name. -/
theorem o_call {d : Nat} {f : FuncId} {args : Array Operand} {ts : Array TypeId} {ty : TypeId} {pos : String} {af : Array Edge} {g : Option (Nat × Bool)} {vs : List Value} {R : Rd} {Ms U' : List Asn}
    {Q : Value → List Asn → Prop} (ht : Trip E.P f vs R Ms Q) (hv : vals fr args.toList = some vs) (hp : Pic Ms U U') (hR : Can E U' R) (hd : Nat.ble (d + 1) E.n = true)
    (h : ∀ v V, Q v V → N ((d, v) :: fr) (V ++ U')) : EV1 E ⟨some d, .call ⟨.value (.func f), args, ts⟩, ty, pos, af, g⟩ fr U N := by
  intro a w hf hm
  have ha : args.map a.eval = vs.toArray := by rw [← hf.evals hv, map_arr]
  unfold Oper.wp execOp
  simp only [resolve, Act.eval, Deferred.ofValue, Sem.run_bind, Sem.run_pure, Result.andThen_ok, invoke, ha, Array.empty_append, Array.append_empty, ht.enters _ _]
  refine call_core rfl ht hp hR hm (R2 := _) ?_
  intro v V w' hQ hm'
  exact ⟨_, _, h v V hQ, hf.put (Nat.le_of_ble_eq_true hd) _, hm'⟩

/-- A call of a function value. -/
theorem o_callv {d : Nat} {x : Operand} {f : FuncId} {l m : List Value} {args : Array Operand} {ts : Array TypeId} {ty : TypeId} {pos : String} {af : Array Edge} {g : Option (Nat × Bool)} {vs : List Value} {R : Rd} {Ms U' : List Asn}
    {Q : Value → List Asn → Prop} (hx : val fr x = some (.func (.func f) l.toArray m.toArray)) (ht : Trip E.P f (l ++ vs ++ m) R Ms Q) (hv : vals fr args.toList = some vs) (hp : Pic Ms U U') (hR : Can E U' R)
    (hd : Nat.ble (d + 1) E.n = true) (h : ∀ v V, Q v V → N ((d, v) :: fr) (V ++ U')) : EV1 E ⟨some d, .call ⟨.value x, args, ts⟩, ty, pos, af, g⟩ fr U N := by
  intro a w hf hm
  have ha : args.map a.eval = vs.toArray := by rw [← hf.evals hv, map_arr]
  have hargs : l.toArray ++ vs.toArray ++ m.toArray = (l ++ vs ++ m).toArray := by simp
  unfold Oper.wp execOp
  simp only [resolve, hf.eval hx, Deferred.ofValue, Sem.run_bind, Sem.run_pure, Result.andThen_ok, invoke, ha, hargs, ht.enters _ _]
  refine call_core rfl ht hp hR hm (R2 := _) ?_
  intro v V w' hQ hm'
  exact ⟨_, _, h v V hQ, hf.put (Nat.le_of_ble_eq_true hd) _, hm'⟩

/-! ### a function -/
def argFr : List Value → Nat → Frm
  | [], _ => []
  | v :: vs, k => (k, v) :: argFr vs (k + 1)

theorem look_argFr : ∀ (vs : List Value) (k d : Nat) (v : Value), look (argFr vs k) d = some v → k ≤ d ∧ vs[d - k]? = some v
  | [], _, _, _, h => by simp [argFr, look] at h
  | u :: vs, k, d, v, h => by
    simp only [argFr, look] at h
    cases hb : Nat.beq k d with
    | true =>
      have := Nat.eq_of_beq_eq_true hb
      subst this
      simp only [hb, cond_true, Option.some.injEq] at h
      subst h; simp
    | false =>
      simp only [hb, cond_false] at h
      obtain ⟨h1, h2⟩ := look_argFr vs (k + 1) d v h
      refine ⟨by omega, ?_⟩
      rw [show d - k = (d - (k + 1)) + 1 from by omega]
      simpa using h2

/-- What the function hands back. -/
def Res (E : Env) (fn : Func) (fr : Frm) (U : List Asn) (v : Value) : Prop :=
  ∀ a w, Fr E fr a → Mem E U w → (results fn a.tmps).run E.P w = .ok v w

theorem res0 {fn : Func} (h : fn.results = #[]) : Res E fn fr U (.tuple #[]) := fun a w _ _ => results_none h a.tmps E.P w
theorem res1 {fn : Func} {t : Tmp} {v : Value} (h : fn.results = #[.tmp t]) (hv : look fr t = some v) : Res E fn fr U v := fun a w hf _ => by
  rw [results_tmp h, Array.getD_eq_getD_getElem?, hf.frm t v hv]; rfl
theorem res2 {fn : Func} {t t2 : Tmp} {v v2 : Value} (h : fn.results = #[.tmp t, .tmp t2]) (hv : look fr t = some v) (hv2 : look fr t2 = some v2) : Res E fn fr U (.tuple #[v, v2]) := fun a w hf _ => by
  simp [results, h, hf.frm t v hv, hf.frm t2 v2 hv2]
theorem res3 {fn : Func} {t t2 t3 : Tmp} {v v2 v3 : Value} (h : fn.results = #[.tmp t, .tmp t2, .tmp t3]) (hv : look fr t = some v) (hv2 : look fr t2 = some v2) (hv3 : look fr t3 = some v3) :
    Res E fn fr U (.tuple #[v, v2, v3]) := fun a w hf _ => by
  simp [results, h, hf.frm t v hv, hf.frm t2 v2 hv2, hf.frm t3 v3 hv3]
/-- A result that lies in a variable of its own. -/
theorem resc {fn : Func} {p : Tmp} {t : TypeId} {i : TI} {b : Nat} {T : TypeId} {cs : List Value} {v : Value} {U' : List Asn} (h : fn.results = #[.cell p t]) (hp : look fr p = some (.pointer (some ⟨b, 0, none⟩)))
    (ht : tl E.T t = some i) (hU : Tak (blk b T cs) U U') (hl : loadL i cs 0 = some v) : Res E fn fr U v := fun a w hf hm => by
  obtain ⟨S1, ⟨_, hb⟩, _⟩ := hm.tak hU
  have hc : ∀ j u, cs[j]? = some u → w.cell? ⟨b, j, none⟩ = some u := fun j u hu => by rw [cell_of_row w b j _ _ _ hb]; simpa using hu
  have := hf.frm p _ hp
  simp [results, h, this, asAddr, run_loadVar ht hc hl]

/-- From the beginning of a function to its end. -/
theorem trip {P : Program} {T : Tab} (hT : TabOk P T) {f : FuncId} {fn : Func} {c : Code} {n : Nat} {args : List Value} {R : Rd} {Ms : List Asn} {Q : Value → List Asn → Prop}
    (hf : P.funcs[f]? = some fn) (hn : (fn.name == "runtime.NumGoroutine") = false) (hb : fn.body = some c) (hnt : fn.ntmps = n) (hle : Nat.ble args.length n = true)
    (h : ∀ (w : World) (SM : BSet), R.P w (fun b => b < w.heap.size ∧ ¬ SM b) →
      EVS ⟨P, T, hT, n, w, SM⟩ (fun fr U => ∃ v V, Res ⟨P, T, hT, n, w, SM⟩ fn fr U v ∧ Q v V ∧ Ent U V) [.code c] (argFr args 0) Ms) : Trip P f args R Ms Q := by
  refine ⟨enters_of hf hn (by rw [hb]; rfl), fun w SM hlt hs hR => ?_⟩
  have hle' := Nat.le_of_ble_eq_true hle
  have key := h w SM hR { tmps := args.toArray ++ Array.replicate (fn.ntmps - args.toArray.size) undef, defers := [] } w ?_ ?_
  · refine calls_of_wp hf hb (wp_mono key ?_)
    rintro e a' w' ⟨fr', U', he, hf', hm'⟩
    have fin : ∀ (fr' : Frm) (U' : List Asn), Fr ⟨P, T, hT, n, w, SM⟩ fr' a' → Mem ⟨P, T, hT, n, w, SM⟩ U' w' → (∃ v V, Res ⟨P, T, hT, n, w, SM⟩ fn fr' U' v ∧ Q v V ∧ Ent U' V) →
        a'.defers = [] ∧ ∃ v, (results fn a'.tmps).run P w' = .ok v w' ∧ ∃ v' V S, Ending.returned v = .returned v' ∧ Q v' V ∧ star V w' S ∧ (∀ b, S b → b < w'.heap.size ∧ (w.heap.size ≤ b ∨ SM b)) ∧ Step w w' SM := by
      rintro fr' U' hf' hm' ⟨v, V, hr, hQ, hE⟩
      obtain ⟨S, hs', hb'⟩ := hm'.own
      refine ⟨hf'.defers, v, hr a' w' hf' hm', v, V, S, rfl, hQ, hE w' S hs', hb', ⟨hm'.os, hm'.tape, hm'.output, hm'.size, fun b h1 h2 => hm'.same b ⟨h1, h2⟩⟩⟩
    cases e with
    | normal => exact fin fr' U' hf' hm' he
    | ret => rw [EVX_ret] at he; exact fin fr' U' hf' hm' he
    | exit id => exact he.elim
    | goto l => exact he.elim
    | panic ch => exact he.elim
    | outgrown => exact he.elim
  · refine ⟨rfl, by simp [hnt]; omega, fun d v hl => ?_⟩
    obtain ⟨_, h2⟩ := look_argFr args 0 d v hl
    simp only [Nat.sub_zero] at h2
    have hd : d < args.length := (List.getElem?_eq_some_iff.1 h2).1
    rw [Array.getElem?_append_left (by simpa using hd)]
    simpa using h2
  · exact ⟨rfl, rfl, rfl, Nat.le_refl _, fun _ _ => rfl, SM, hs, fun b hb => ⟨hlt b hb, .inr hb⟩⟩

/-! ### regions that draw their order -/
def lst (ops : Array Oper) (i : Nat) : Array Bool := (Array.range ops.size).map (fun j => Nat.blt j i)

theorem lst_zero (ops : Array Oper) : lst ops 0 = Array.replicate ops.size false := by
  apply Array.ext
  · simp [lst]
  · intro j h1 h2
    simp only [lst, Array.getElem_map, Array.getElem_range, Array.getElem_replicate]
    rfl

theorem lst_succ (ops : Array Oper) (i : Nat) : (lst ops i).setIfInBounds i true = lst ops (i + 1) := by
  apply Array.toList_inj.1
  apply List.ext_getElem?
  intro j
  simp only [lst, Array.toList_setIfInBounds, Array.toList_map, Array.toList_range, List.getElem?_set, List.getElem?_map, List.length_map, List.length_range]
  by_cases hj : j < ops.size
  · have e : (List.range ops.size)[j]? = some j := by simp [hj]
    by_cases hij : i = j
    · subst hij
      simp only [if_true, hj, e, Option.map_some]
      congr 1
      symm; rw [Nat.blt_eq]; exact Nat.lt_succ_self i
    · rw [if_neg hij]
      simp only [e, Option.map_some]
      congr 1
      rw [Bool.eq_iff_iff, Nat.blt_eq, Nat.blt_eq]; omega
  · have e : (List.range ops.size)[j]? = none := by simp; omega
    by_cases hij : i = j
    · subst hij; simp [e, hj]
    · rw [if_neg hij, e]; rfl

/-- The text's order is as good as any: each operation may come up in its turn; es are those that act: nothing else may come up beside them. -/
def lexOk (ops : Array Oper) (es : List Nat) : Bool :=
  Region.noSelect ops && (List.range ops.size).all fun i =>
    bif es.contains i then Region.ready .any ops (lst ops i) == [i] else (Region.ready .any ops (lst ops i)).contains i && Region.free .any ops (lst ops i) i

theorem lexOk_e {ops : Array Oper} {es : List Nat} (h : lexOk ops es = true) {i : Nat} (hi : i < ops.size) (he : es.contains i = true) : Region.ready .any ops (lst ops i) = [i] := by
  simp only [lexOk, Bool.and_eq_true, List.all_eq_true, List.mem_range] at h
  have := h.2 i hi
  simp only [he, cond_true] at this
  exact eq_of_beq this

theorem lexOk_n {ops : Array Oper} {es : List Nat} (h : lexOk ops es = true) {i : Nat} (hi : i < ops.size) (he : es.contains i = false) :
    (Region.ready .any ops (lst ops i)).contains i = true ∧ Region.free .any ops (lst ops i) i = true := by
  simp only [lexOk, Bool.and_eq_true, List.all_eq_true, List.mem_range] at h
  have := h.2 i hi
  simp only [he, cond_false, Bool.and_eq_true] at this
  exact this

theorem lexOk_s {ops : Array Oper} {es : List Nat} (h : lexOk ops es = true) : Region.noSelect ops = true := by
  simp only [lexOk, Bool.and_eq_true] at h; exact h.1

/-- The rest of a region that draws: V stays true till its end. -/
def EVL (E : Env) (K : Frm → List Asn → Prop) (k : List It) (ops : Array Oper) (es : List Nat) (V : List Asn) (i : Nat) (l : List Oper) (fr : Frm) (U : List Asn) : Prop :=
  lexOk ops es = true → ops.toList.drop i = l → ∀ a w, Fr E fr a → Mem E U w → wpAnyH E.P .any ops (post E K k) (fun w => Mem E V w) (ops.size - i) (lst ops i) a w

variable {K : Frm → List Asn → Prop} {k : List It} {ops : Array Oper} {es : List Nat} {V : List Asn} {i : Nat}

theorem s_draw {id : Nat} (es : List Nat) (V : List Asn) (hm : E.P.follows .mixedOrders = true) (hlex : lexOk ops es = true) (h : EVL E K k ops es V 0 ops.toList fr U) :
    EVS E K (.code (.region id ops true) :: k) fr U := by
  intro a w hf hmem
  refine wp_region_held (S := fun w => Mem E V w) hm ?_
  have := h hlex rfl a { w with drawn := w.drawn + 1 } hf hmem.drew
  rw [lst_zero, Nat.sub_zero] at this
  exact this

/-- All that is owned stays. -/
theorem s_drawU {id : Nat} (es : List Nat) (hm : E.P.follows .mixedOrders = true) (hlex : lexOk ops es = true) (h : EVL E K k ops es U 0 ops.toList fr U) :
    EVS E K (.code (.region id ops true) :: k) fr U := s_draw es U hm hlex h

/-- All that is owned stays, but for one thing. -/
theorem s_drawT {id : Nat} {A : Asn} (es : List Nat) (_ht : Tak A U V) (hm : E.P.follows .mixedOrders = true) (hlex : lexOk ops es = true) (h : EVL E K k ops es V 0 ops.toList fr U) :
    EVS E K (.code (.region id ops true) :: k) fr U := s_draw es V hm hlex h

theorem l_nil (h : EVS E K k fr U) : EVL E K k ops es V i [] fr U := by
  intro _ hl a w hf hm
  have hsz : ops.size ≤ i := by
    have := congrArg List.length hl
    simp at this; omega
  refine wpAnyH_done ?_ ⟨fr, U, h, hf, hm⟩ _
  unfold Region.ready
  rw [List.filter_eq_nil_iff]
  intro j hj
  simp only [List.mem_range] at hj
  have : (lst ops i).getD j true = true := by
    simp [lst, hj, Nat.blt_eq]; omega
  simp [this]

theorem drop_at {o : Oper} {l : List Oper} (h : ops.toList.drop i = o :: l) : i < ops.size ∧ ops[i]? = some o ∧ ops.toList.drop (i + 1) = l := by
  have hlt : i < ops.toList.length := by
    rcases Nat.lt_or_ge i ops.toList.length with h2 | h2
    · exact h2
    · rw [List.drop_eq_nil_of_le h2] at h; cases h
  rw [List.drop_eq_getElem_cons hlt, List.cons.injEq] at h
  refine ⟨by simpa using hlt, ?_, h.2⟩
  rw [← h.1]; simp

theorem post_panic {c : List PanicEntry} {a : Act} {w : World} {p : Prop} (h : post E K k (.panic c) a w) : p := by
  obtain ⟨_, _, he, _⟩ := h
  cases k with
  | nil => exact he.elim
  | cons x k => cases x <;> exact he.elim

theorem l_take {d : Nat} {o : Op} {ty : TypeId} {pos : String} {af : Array Edge} {g : Option (Nat × Bool)} {l : List Oper} {v : Value}
    (he : es.contains i = false) (hV : Ent U V) (hd : Nat.ble (d + 1) E.n = true)
    (hy : ∀ a, Fr E fr a → YieldsIf E.P ops (fun w => Mem E V w) ⟨some d, o, ty, pos, af, g⟩ v a)
    (h : EVL E K k ops es V (i + 1) l ((d, v) :: fr) U) : EVL E K k ops es V i (⟨some d, o, ty, pos, af, g⟩ :: l) fr U := by
  intro hlex hl a w hf hm
  obtain ⟨hlt, hi, hl'⟩ := drop_at hl
  obtain ⟨hr, hfree⟩ := lexOk_n hlex hlt he
  rw [show ops.size - i = (ops.size - (i + 1)) + 1 from by omega]
  refine wpAnyH_take hi (lexOk_s hlex) hfree hr (fun c a w h => post_panic h) (hy a hf) (hm.ent hV) ?_
  rw [lst_succ]
  exact h hlex hl' _ w (hf.put (Nat.le_of_ble_eq_true hd) _) hm

theorem l_n {d : Nat} {o : Op} {ty : TypeId} {pos : String} {af : Array Edge} {l : List Oper} {v : Value}
    (hn : NEV E o fr V v) (he : es.contains i = false) (hV : Ent U V) (hd : Nat.ble (d + 1) E.n = true)
    (h : EVL E K k ops es V (i + 1) l ((d, v) :: fr) U) : EVL E K k ops es V i (⟨some d, o, ty, pos, af, none⟩ :: l) fr U :=
  l_take he hV hd (fun a hf => .inl ⟨rfl, fun w hw => hn a w _ _ _ _ _ hf hw⟩) h

theorem l_ny {d : Nat} {o : Op} {ty : TypeId} {pos : String} {af : Array Edge} {l : List Oper} {v : Value} {j : Nat} {b : Bool} (hg : gval ops fr j = some b)
    (hn : NEV E o fr V v) (he : es.contains i = false) (hV : Ent U V) (hd : Nat.ble (d + 1) E.n = true)
    (h : EVL E K k ops es V (i + 1) l ((d, v) :: fr) U) : EVL E K k ops es V i (⟨some d, o, ty, pos, af, some (j, b)⟩ :: l) fr U :=
  l_take he hV hd (fun a hf => .inl ⟨by simp [Region.wanted, gval_yielded hf hg], fun w hw => hn a w _ _ _ _ _ hf hw⟩) h

/-- An operation that its guard bars. -/
theorem l_no {d : Nat} {o : Op} {ty : TypeId} {pos : String} {af : Array Edge} {l : List Oper} {j : Nat} {b b' : Bool} (hg : gval ops fr j = some b') (hb : Bool.xor b b' = true)
    (he : es.contains i = false) (hV : Ent U V) (hd : Nat.ble (d + 1) E.n = true)
    (h : EVL E K k ops es V (i + 1) l ((d, undef) :: fr) U) : EVL E K k ops es V i (⟨some d, o, ty, pos, af, some (j, b)⟩ :: l) fr U :=
  l_take he hV hd (fun a hf => .inr ⟨by
    simp only [Region.wanted, gval_yielded hf hg]
    cases b <;> cases b' <;> first | rfl | (simp at hb), rfl⟩) h

/-- For asking whether a guard is decided. -/
theorem e_dec (b' : Bool) {d : Option Tmp} {o : Op} {ty : TypeId} {pos : String} {af : Array Edge} {l : List Oper} {j : Nat} {b : Bool} (_hg : gval ops fr j = some b')
    (h : EVO E K k ops (⟨d, o, ty, pos, af, some (j, b)⟩ :: l) fr U) : EVO E K k ops (⟨d, o, ty, pos, af, some (j, b)⟩ :: l) fr U := h
theorem l_dec (b' : Bool) {d : Option Tmp} {o : Op} {ty : TypeId} {pos : String} {af : Array Edge} {l : List Oper} {j : Nat} {b : Bool} (_hg : gval ops fr j = some b')
    (h : EVL E K k ops es V i (⟨d, o, ty, pos, af, some (j, b)⟩ :: l) fr U) : EVL E K k ops es V i (⟨d, o, ty, pos, af, some (j, b)⟩ :: l) fr U := h

theorem l_part {d : Option Tmp} {o : Op} {ty : TypeId} {pos : String} {af : Array Edge} {l : List Oper} {j s : Nat} {b t : Bool}
    (_hs : (ops[j]?).bind (·.dst) = some s) (hl : look fr s = some (.bool t))
    (h1 : t = true → EVL E K k ops es V i (⟨d, o, ty, pos, af, some (j, b)⟩ :: l) ((s, .bool true) :: fr) U)
    (h2 : t = false → EVL E K k ops es V i (⟨d, o, ty, pos, af, some (j, b)⟩ :: l) ((s, .bool false) :: fr) U) : EVL E K k ops es V i (⟨d, o, ty, pos, af, some (j, b)⟩ :: l) fr U := by
  intro h0 h3 a w hf hm
  cases t
  · exact h2 rfl h0 h3 a w (hf.again hl) hm
  · exact h1 rfl h0 h3 a w (hf.again hl) hm

/-- An operation that acts, when nothing else may come up. -/
theorem l_act {d : Option Tmp} {o : Op} {ty : TypeId} {pos : String} {af : Array Edge} {g : Option (Nat × Bool)} {l : List Oper} (he : es.contains i = true)
    (hw : ∀ a, Fr E fr a → Region.wanted ⟨d, o, ty, pos, af, g⟩ (yielded ops a.tmps) = true)
    (h : EV1 E ⟨d, o, ty, pos, af, g⟩ fr U (fun fr' U' => Ent U' V ∧ EVL E K k ops es V (i + 1) l fr' U')) : EVL E K k ops es V i (⟨d, o, ty, pos, af, g⟩ :: l) fr U := by
  intro hlex hl a w hf hm
  obtain ⟨hlt, hi, hl'⟩ := drop_at hl
  have hr := lexOk_e hlex hlt he
  rw [show ops.size - i = (ops.size - (i + 1)) + 1 from by omega]
  refine wpAnyH_all hr (by simp) ?_
  intro j hj
  simp only [List.mem_singleton] at hj
  subst hj
  unfold wpOp
  simp only [hi, hw a hf, if_true]
  refine .inl (Oper.wp_mono2 ?_ (h a w hf hm))
  rintro a' w' ⟨fr', U', ⟨he', hk⟩, hf', hm'⟩
  refine ⟨hm'.ent he', ?_⟩
  rw [lst_succ]
  exact hk hlex hl' a' w' hf' hm'

theorem l_e {d : Option Tmp} {o : Op} {ty : TypeId} {pos : String} {af : Array Edge} {l : List Oper} (he : es.contains i = true)
    (h : EV1 E ⟨d, o, ty, pos, af, none⟩ fr U (fun fr' U' => Ent U' V ∧ EVL E K k ops es V (i + 1) l fr' U')) : EVL E K k ops es V i (⟨d, o, ty, pos, af, none⟩ :: l) fr U :=
  l_act he (fun _ _ => rfl) h

theorem l_ey {d : Option Tmp} {o : Op} {ty : TypeId} {pos : String} {af : Array Edge} {l : List Oper} {j : Nat} {b : Bool} (hg : gval ops fr j = some b) (he : es.contains i = true)
    (h : EV1 E ⟨d, o, ty, pos, af, some (j, b)⟩ fr U (fun fr' U' => Ent U' V ∧ EVL E K k ops es V (i + 1) l fr' U')) : EVL E K k ops es V i (⟨d, o, ty, pos, af, some (j, b)⟩ :: l) fr U :=
  l_act he (fun a hf => by simp [Region.wanted, gval_yielded hf hg]) h



end Go.Proofs.Ytjeimmekhfhepaa.E

namespace Go.Proofs.Ytjeimmekhfhepaa.E
set_option linter.all false
variable {E : Env} {fr : Frm} {U : List Asn} {N : Frm → List Asn → Prop}

/-- How a value of a type lies in cells. -/
structure Kd (α : Type) where
  sz : Nat
  R : World → BSet → List Value → α → Prop
  len : ∀ {w S cs x}, R w S cs x → cs.length = sz
  fr : ∀ {w w' : World} {S : BSet} {cs x}, (∀ b, S b → w'.heap[b]? = w.heap[b]?) → R w S cs x → R w' S cs x
  mono : ∀ {w : World} {S S' : BSet} {cs x}, (∀ b, S b → S' b) → R w S cs x → R w S' cs x

def Kd.rd {α : Type} (k : Kd α) (cs : List Value) (x : α) : Rd := ⟨fun w S => k.R w S cs x, fun _ _ _ h hr => k.fr h hr, fun _ _ _ h hr => k.mono h hr⟩

/-- Numbers of the kind int. -/
def I64 (x : Int) : Prop := -9223372036854775808 ≤ x ∧ x ≤ 9223372036854775807

def kint : Kd Int where
  sz := 1
  R := fun _ _ cs x => cs = [.int .i64 x] ∧ I64 x
  len := by rintro w S cs x ⟨rfl, _⟩; rfl
  fr := fun _ h => h
  mono := fun _ h => h

def kbool : Kd Bool where
  sz := 1
  R := fun _ _ cs x => cs = [.bool x]
  len := by rintro w S cs x rfl; rfl
  fr := fun _ h => h
  mono := fun _ h => h

def kstr : Kd ByteArray where
  sz := 1
  R := fun _ _ cs x => cs = [.string x]
  len := by rintro w S cs x rfl; rfl
  fr := fun _ h => h
  mono := fun _ h => h

/-- The elements of a row from an address on. -/
def Els {α : Type} (k : Kd α) (w : World) (S : BSet) (A : Option Addr) (xs : List α) : Prop :=
  ∀ i (h : i < xs.length), ∃ b o es, A = some ⟨b, o, none⟩ ∧ S b ∧ k.R w S es xs[i] ∧ ∀ j u, es[j]? = some u → w.cell? ⟨b, o + i * k.sz + j, none⟩ = some u

theorem els_fr {α : Type} {k : Kd α} {w w' : World} {S : BSet} {A : Option Addr} {xs : List α} (h : ∀ b, S b → w'.heap[b]? = w.heap[b]?) (hr : Els k w S A xs) : Els k w' S A xs := by
  intro i hi
  obtain ⟨b, o, es, hA, hb, he, hc⟩ := hr i hi
  exact ⟨b, o, es, hA, hb, k.fr h he, fun j u hu => by rw [cell_block (h b hb)]; exact hc j u hu⟩

theorem els_mono {α : Type} {k : Kd α} {w : World} {S S' : BSet} {A : Option Addr} {xs : List α} (h : ∀ b, S b → S' b) (hr : Els k w S A xs) : Els k w S' A xs := by
  intro i hi
  obtain ⟨b, o, es, hA, hb, he, hc⟩ := hr i hi
  exact ⟨b, o, es, hA, h b hb, k.mono h he, hc⟩

/-- A slice; an element has so many bytes. -/
def kslice {α : Type} (bytes : Nat) (k : Kd α) : Kd (List α) where
  sz := 1
  R := fun w S cs xs => ∃ A c, cs = [.slice A xs.length c] ∧ xs.length ≤ c ∧ xs.length * bytes ≤ 140737488355328 ∧ Els k w S A xs
  len := by rintro w S cs x ⟨A, c, rfl, _⟩; rfl
  fr := by rintro w w' S cs x h ⟨A, c, h1, h2, h3, h4⟩; exact ⟨A, c, h1, h2, h3, els_fr h h4⟩
  mono := by rintro w S S' cs x h ⟨A, c, h1, h2, h3, h4⟩; exact ⟨A, c, h1, h2, h3, els_mono h h4⟩

def kpair {α β : Type} (a : Kd α) (b : Kd β) : Kd (α × β) where
  sz := a.sz + b.sz
  R := fun w S cs x => ∃ c1 c2, cs = c1 ++ c2 ∧ a.R w S c1 x.1 ∧ b.R w S c2 x.2
  len := by rintro w S cs x ⟨c1, c2, rfl, h1, h2⟩; rw [List.length_append, a.len h1, b.len h2]
  fr := by rintro w w' S cs x h ⟨c1, c2, h1, h2, h3⟩; exact ⟨c1, c2, h1, a.fr h h2, b.fr h h3⟩
  mono := by rintro w S S' cs x h ⟨c1, c2, h1, h2, h3⟩; exact ⟨c1, c2, h1, a.mono h h2, b.mono h h3⟩

def kiso {α β : Type} (a : Kd α) (f : β → α) : Kd β where
  sz := a.sz
  R := fun w S cs x => a.R w S cs (f x)
  len := fun h => a.len h
  fr := fun h hr => a.fr h hr
  mono := fun h hr => a.mono h hr

/-- What a load of an element finds: several cells. -/
theorem loads_agg {w : World} {i : TI} {b o : Nat} {es : List Value} (ha : aggB i.d = true) (hl : es.length = i.size) (hc : ∀ j u, es[j]? = some u → w.cell? ⟨b, o + j, none⟩ = some u) :
    loads w i b o (.agg es.toArray) := by
  refine ⟨es, hc, ?_⟩
  unfold loadL
  have : Nat.ble (0 + i.size) es.length = true := by rw [Nat.ble_eq, Nat.zero_add]; omega
  simp only [ha, cond_true, this, List.drop_zero]
  rw [← hl, List.take_length]

/-- One cell. -/
theorem loads_one {w : World} {i : TI} {b o : Nat} {v : Value} (ha : aggB i.d = false) (hc : w.cell? ⟨b, o, none⟩ = some v) : loads w i b o v :=
  ⟨[v], fun j u hu => by
    cases j with
    | zero => simp at hu; subst hu; simpa using hc
    | succ j => simp at hu, by unfold loadL; simp [ha]⟩

/-! ### numbers -/
theorem wrap_i64 {x : Int} (h1 : -9223372036854775808 ≤ x) (h2 : x ≤ 9223372036854775807) : IntKind.i64.wrap x = x := by
  rw [IntKind.wrap_i64]; omega

theorem int_eq {k : IntKind} {a b : Int} (h : a = b) : Value.int k a = Value.int k b := by rw [h]

/-! ### loops -/
def pickFr (fr : Frm) : List Nat → Option Frm
  | [] => some []
  | d :: ds => match look fr d, pickFr fr ds with
    | some v, some r => some ((d, v) :: r)
    | _, _ => none

theorem s_loopK {K : Frm → List Asn → Prop} {k : List It} {c : Code} {ι : Type} {base : Frm} (keep : List Nat) (hk : pickFr fr keep = some base) (x : ι) (vars : ι → Frm) (V : ι → List Asn) (μ : ι → Nat)
    (hs : Sub fr (vars x ++ base)) (he : Ent U (V x))
    (round : ∀ i, EVS E K (.code c :: .back (fun fr' U' => ∃ j, μ j < μ i ∧ Sub fr' (vars j ++ base) ∧ Ent U' (V j)) :: k) (vars i ++ base) (V i)) :
    EVS E K (.code (.loop c) :: k) fr U :=
  s_loop x (fun i => vars i ++ base) V μ hs he round

theorem Sub.consE {fr fr' : Frm} {d : Nat} {u v : Value} (h : look fr d = some u) (e : u = v) (hs : Sub fr fr') : Sub fr ((d, v) :: fr') := Sub.cons (e ▸ h) hs

/-- What is owned may be told otherwise. -/
theorem e_ent {K : Frm → List Asn → Prop} {k : List It} {ops : Array Oper} {l : List Oper} {V : List Asn} (he : Ent U V) (h : EVO E K k ops l fr V) : EVO E K k ops l fr U :=
  e_weak (Sub.refl _) he h

/-- A slice that is one's own: where it is not nil it begins at a block. -/
theorem osl_form {e : TypeId} {sz n c k : Nat} {A : Option Addr} {xs : List Value} {w : World} {S : BSet} (h : (osl e sz (.slice A n c) k xs).P w S) (hk : 0 < k) : ∃ b, A = some ⟨b, 0, none⟩ := by
  rcases h.1.2 with ⟨h1, h2⟩ | ⟨g, cap, cur, hv, _⟩
  · omega
  · simp only [Value.slice.injEq] at hv; exact ⟨g, hv.1⟩

theorem e_open {K : Frm → List Asn → Prop} {k : List It} {ops : Array Oper} {l : List Oper} {e : TypeId} {sz n c m : Nat} {A : Option Addr} {xs : List Value} {U' : List Asn}
    (ht : Tak (osl e sz (.slice A n c) m xs) U U') (hm : 0 < m) (h : ∀ b, A = some ⟨b, 0, none⟩ → EVO E K k ops l fr U) : EVO E K k ops l fr U := by
  intro a w hf hme
  obtain ⟨S1, hP, _⟩ := hme.tak ht
  obtain ⟨b, hb⟩ := osl_form hP hm
  exact h b hb a w hf hme

theorem l_open {K : Frm → List Asn → Prop} {k : List It} {ops : Array Oper} {es : List Nat} {V : List Asn} {i : Nat} {l : List Oper} {e : TypeId} {sz n c m : Nat} {A : Option Addr} {xs : List Value} {U' : List Asn}
    (ht : Tak (osl e sz (.slice A n c) m xs) U U') (hm : 0 < m) (h : ∀ b, A = some ⟨b, 0, none⟩ → EVL E K k ops es V i l fr U) : EVL E K k ops es V i l fr U := by
  intro h0 h3 a w hf hme
  obtain ⟨S1, hP, _⟩ := hme.tak ht
  obtain ⟨b, hb⟩ := osl_form hP hm
  exact h b hb h0 h3 a w hf hme

end Go.Proofs.Ytjeimmekhfhepaa.E

namespace Go.Proofs.Ytjeimmekhfhepaa.E
set_option linter.all false
variable {E : Env} {fr : Frm} {U : List Asn} {N : Frm → List Asn → Prop}

/-- Some x with φ x; and what is owned then. -/
def exA {α : Type} (φ : α → Prop) (f : α → List Asn) : Asn where
  P := fun w S => ∃ x, φ x ∧ star (f x) w S
  fr := fun w w' S h ⟨x, h1, h2⟩ => ⟨x, h1, star_fr _ w w' S h h2⟩

theorem star_ex {α : Type} {φ : α → Prop} {f : α → List Asn} {U' : List Asn} (ht : Tak (exA φ f) U U') {w : World} {S : BSet} (h : star U w S) : ∃ x, φ x ∧ star (f x ++ U') w S := by
  obtain ⟨S1, S2, ⟨x, hx, h1⟩, h2, hd, i1, i2⟩ := ht.star h
  refine ⟨x, hx, star_mono ?_ (star_append h1 h2 hd)⟩
  rintro b (hb | hb)
  · exact i1 b hb
  · exact i2 b hb

theorem mem_ex {α : Type} {φ : α → Prop} {f : α → List Asn} {U' : List Asn} (ht : Tak (exA φ f) U U') {w : World} (h : Mem E U w) : ∃ x, φ x ∧ Mem E (f x ++ U') w := by
  obtain ⟨S, hs, hb⟩ := h.own
  obtain ⟨x, hx, h1⟩ := star_ex ht hs
  exact ⟨x, hx, h.os, h.tape, h.output, h.size, h.same, S, h1, hb⟩

theorem e_ex {K : Frm → List Asn → Prop} {k : List It} {ops : Array Oper} {l : List Oper} {α : Type} {φ : α → Prop} {f : α → List Asn} {U' : List Asn} (ht : Tak (exA φ f) U U')
    (h : ∀ x, φ x → EVO E K k ops l fr (f x ++ U')) : EVO E K k ops l fr U := by
  intro a w hf hm
  obtain ⟨x, hx, hm'⟩ := mem_ex ht hm
  exact h x hx a w hf hm'

theorem l_ex {K : Frm → List Asn → Prop} {k : List It} {ops : Array Oper} {es : List Nat} {V : List Asn} {i : Nat} {l : List Oper} {α : Type} {φ : α → Prop} {f : α → List Asn} {U' : List Asn} (ht : Tak (exA φ f) U U')
    (h : ∀ x, φ x → EVL E K k ops es V i l fr (f x ++ U')) : EVL E K k ops es V i l fr U := by
  intro h0 h3 a w hf hm
  obtain ⟨x, hx, hm'⟩ := mem_ex ht hm
  exact h x hx h0 h3 a w hf hm'

theorem s_ex {K : Frm → List Asn → Prop} {k : List It} {c : Code} {α : Type} {φ : α → Prop} {f : α → List Asn} {U' : List Asn} (ht : Tak (exA φ f) U U')
    (h : ∀ x, φ x → EVS E K (.code c :: k) fr (f x ++ U')) : EVS E K (.code c :: k) fr U := by
  intro a w hf hm
  obtain ⟨x, hx, hm'⟩ := mem_ex ht hm
  exact h x hx a w hf hm'

theorem Ent.ex {α : Type} {φ : α → Prop} {f : α → List Asn} {V : List Asn} (x : α) (hx : φ x) (h : Ent U (f x ++ V)) : Ent U (exA φ f :: V) := by
  intro w S hs
  obtain ⟨S1, S2, h1, h2, hd, i1, i2⟩ := star_split (h w S hs)
  exact ⟨S1, S2, ⟨x, hx, h1⟩, h2, hd, i1, i2⟩

theorem Ent.cons {A : Asn} {U V : List Asn} (h : Ent U V) : Ent (A :: U) (A :: V) := fun w S ⟨S1, S2, h1, h2, hd, i1, i2⟩ => ⟨S1, S2, h1, h w S2 h2, hd, i1, i2⟩
theorem Ent.app {L U V : List Asn} (h : Ent U V) : Ent (L ++ U) (L ++ V) := by
  induction L with
  | nil => exact h
  | cons A L ih => exact ih.cons
theorem Ent.swap {A B : Asn} {U : List Asn} : Ent (A :: B :: U) (B :: A :: U) := Ent.tak (.s .z) (Ent.refl _)
theorem Ent.eq {U V : List Asn} (h : U = V) : Ent U V := h ▸ Ent.refl _
theorem Ent.mid {A : Asn} : ∀ {L U : List Asn}, Ent (A :: (L ++ U)) (L ++ A :: U)
  | [], _ => Ent.refl _
  | _ :: _, _ => Ent.swap.trans (Ent.cons Ent.mid)
theorem Ent.mid' {A : Asn} : ∀ {L U : List Asn}, Ent (L ++ A :: U) (A :: (L ++ U))
  | [], _ => Ent.refl _
  | _ :: _, _ => (Ent.cons Ent.mid').trans Ent.swap

theorem tak_get {A : Asn} : ∀ {L V : List Asn} {i : Nat}, L[i]? = some A → Tak A (L ++ V) (L.eraseIdx i ++ V)
  | [], _, _, h => by simp at h
  | B :: L, V, 0, h => by simp at h; subst h; exact .z
  | B :: L, V, i + 1, h => by simp at h; exact .s (tak_get h)

theorem upd_get {A A' : Asn} : ∀ {L V : List Asn} {i : Nat}, L[i]? = some A → Upd A A' (L ++ V) (L.set i A' ++ V)
  | [], _, _, h => by simp at h
  | B :: L, V, 0, h => by simp at h; subst h; exact .z
  | B :: L, V, i + 1, h => by simp at h; exact .s (upd_get h)

/-- What was taken out is put back, as it now is. -/
theorem ent_put {A A' : Asn} : ∀ {L V : List Asn} {i : Nat}, L[i]? = some A → Ent (A' :: (L.eraseIdx i ++ V)) (L.set i A' ++ V)
  | [], _, _, h => by simp at h
  | _ :: _, _, 0, _ => Ent.refl _
  | B :: L, V, i + 1, h => by
    simp at h
    exact Ent.swap.trans (Ent.cons (ent_put h))

/-! ### reading what is owned -/
theorem loads_blk {w : World} {i : TI} {b o : Nat} {T : TypeId} {cs : List Value} {v : Value} (h : w.heap[b]? = some (.cells cs.toArray T)) (hl : loadL i cs o = some v) : loads w i b o v := by
  have hc : ∀ j u, cs[j]? = some u → w.cell? ⟨b, j, none⟩ = some u := fun j u hu => by rw [cell_of_row w b j _ _ _ h]; simpa using hu
  unfold loadL at hl
  cases ha : aggB i.d with
  | false =>
    simp only [ha, cond_false] at hl
    exact loads_one ha (hc o v hl)
  | true =>
    simp only [ha, cond_true] at hl
    cases hb : Nat.ble (o + i.size) cs.length with
    | false => simp [hb] at hl
    | true =>
      simp only [hb, cond_true, Option.some.injEq] at hl
      subst hl
      have := Nat.le_of_ble_eq_true hb
      refine loads_agg ha (by simp; omega) ?_
      intro j u hu
      apply hc
      rw [List.getElem?_take] at hu
      split at hu
      · rw [List.getElem?_drop] at hu; exact hu
      · cases hu

/-- A block, to be read. -/
def rblk (b : Nat) (T : TypeId) (cs : List Value) : Rd where
  P := fun w S => S b ∧ w.heap[b]? = some (.cells cs.toArray T)
  fr := fun _ _ _ h ⟨h1, h2⟩ => ⟨h1, (h b h1).trans h2⟩
  mono := fun _ _ _ h ⟨h1, h2⟩ => ⟨h b h1, h2⟩

theorem Can.blk {b : Nat} {T : TypeId} {cs : List Value} {U' : List Asn} (ht : Tak (blk b T cs) U U') : Can E U (rblk b T cs) := by
  intro w S _ hs
  obtain ⟨S1, ⟨h1, h2⟩, hsub⟩ := ht.mem hs
  exact ⟨.inr (hsub b h1), h2⟩

theorem Can.of {R : Rd} (h : ∀ w S, star U w S → R.P w S) : Can E U R := fun w S _ hs => R.mono w S _ (fun _ hb => .inr hb) (h w S hs)

/-- A slice of one's own, read: elements of one cell. -/
theorem osl_els {α : Type} {k : Kd α} (enc : α → Value) (hk : k.sz = 1) (henc : ∀ w S x, k.R w S [enc x] x) {e : TypeId} {A : Option Addr} {n c : Nat} {xs : List α} {w : World} {S : BSet}
    (h : (osl e 1 (.slice A n c) n (xs.map enc)).P w S) : Els k w S A xs ∧ n = xs.length ∧ xs.length ≤ c := by
  obtain ⟨⟨hl, h2⟩, hS⟩ := h
  have hn : n = xs.length := by simpa using hl.symm
  subst hn
  rcases h2 with ⟨h3, h4⟩ | ⟨g, cap, cur, hv, _, hg, hnc, _, _, htake⟩
  · refine ⟨fun i hi => by omega, rfl, by omega⟩
  · simp only [Value.slice.injEq] at hv
    obtain ⟨rfl, _, rfl⟩ := hv
    refine ⟨fun i hi => ⟨g, 0, [enc xs[i]], rfl, hS g rfl, henc _ _ _, ?_⟩, rfl, hnc⟩
    intro j u hu
    cases j with
    | succ j => simp at hu
    | zero =>
      simp at hu
      subst hu
      rw [cell_of_row w g _ cur e _ hg, hk]
      have h5 : (cur.toList.take (xs.length * 1))[i]? = some (enc xs[i]) := by rw [htake]; simp [hi]
      rw [List.getElem?_take] at h5
      split at h5
      · simpa using h5
      · cases h5

theorem Can.osl {α : Type} {k : Kd α} (enc : α → Value) (hk : k.sz = 1) (henc : ∀ w S x, k.R w S [enc x] x) {e : TypeId} {A : Option Addr} {n c bytes : Nat} {xs : List α} {U' : List Asn}
    (ht : Tak (osl e 1 (.slice A n c) n (xs.map enc)) U U') (hb : n * bytes ≤ 140737488355328) : Can E U ((kslice bytes k).rd [.slice A n c] xs) := by
  refine Can.of fun w S hs => ?_
  obtain ⟨S1, h1, hsub⟩ := ht.mem hs
  obtain ⟨h2, h3, h4⟩ := osl_els enc hk henc h1
  subst h3
  exact ⟨A, c, rfl, h4, hb, els_mono hsub h2⟩

/-! ### rows of rows -/
section rows
variable {α : Type}

def rowC (acs : List (Option Addr × Nat)) (rows : List (List α)) : List Value := List.zipWith (fun ac (r : List α) => Value.slice ac.1 r.length ac.2) acs rows
def rowL (enc : α → Value) (ei : TypeId) (acs : List (Option Addr × Nat)) (rows : List (List α)) : List Asn :=
  List.zipWith (fun ac (r : List α) => osl ei 1 (.slice ac.1 r.length ac.2) r.length (r.map enc)) acs rows

/-- A slice of slices of one's own: each row a block of its own. -/
def orow (enc : α → Value) (eo ei : TypeId) (v : Value) (n : Nat) (rows : List (List α)) : Asn :=
  exA (fun acs : List (Option Addr × Nat) => acs.length = rows.length) (fun acs => osl eo 1 v n (rowC acs rows) :: rowL enc ei acs rows)

theorem rowC_get {acs : List (Option Addr × Nat)} {rows : List (List α)} (hl : acs.length = rows.length) {i : Nat} (hi : i < rows.length) :
    (rowC acs rows)[i]? = some (.slice (acs[i]'(hl ▸ hi)).1 rows[i].length (acs[i]'(hl ▸ hi)).2) := by
  unfold rowC
  rw [List.getElem?_zipWith, List.getElem?_eq_getElem (hl ▸ hi), List.getElem?_eq_getElem hi]

theorem rowL_get {enc : α → Value} {ei : TypeId} {acs : List (Option Addr × Nat)} {rows : List (List α)} (hl : acs.length = rows.length) {i : Nat} (hi : i < rows.length) :
    (rowL enc ei acs rows)[i]? = some (osl ei 1 (.slice (acs[i]'(hl ▸ hi)).1 rows[i].length (acs[i]'(hl ▸ hi)).2) rows[i].length (rows[i].map enc)) := by
  unfold rowL
  rw [List.getElem?_zipWith, List.getElem?_eq_getElem (hl ▸ hi), List.getElem?_eq_getElem hi]

theorem zipWith_set {β γ : Type} (f : β → List α → γ) : ∀ (l : List β) (rows : List (List α)) (i : Nat) (b : β) (r : List α), l[i]? = some b → (List.zipWith f l rows).set i (f b r) = List.zipWith f l (rows.set i r)
  | [], _, _, _, _, h => by simp at h
  | x :: l, [], i, b, r, _ => by simp
  | x :: l, y :: rows, 0, b, r, h => by simp at h; subst h; simp
  | x :: l, y :: rows, i + 1, b, r, h => by simp at h; simp [zipWith_set f l rows i b r h]

theorem rowC_set {acs : List (Option Addr × Nat)} {rows : List (List α)} {i : Nat} {r : List α} (hr : ∀ h : i < rows.length, r.length = rows[i].length) : rowC acs (rows.set i r) = rowC acs rows := by
  unfold rowC
  apply List.ext_getElem?
  intro j
  simp only [List.getElem?_zipWith, List.getElem?_set]
  by_cases h : i = j
  · subst h
    by_cases h2 : i < rows.length
    · simp only [if_true, h2, List.getElem?_eq_getElem h2]
      cases acs[i]? <;> simp [hr h2]
    · simp [h2]
  · simp [h]

theorem rowL_set {enc : α → Value} {ei : TypeId} {acs : List (Option Addr × Nat)} {rows : List (List α)} {i : Nat} {r : List α} {ac : Option Addr × Nat} (ha : acs[i]? = some ac) :
    (rowL enc ei acs rows).set i (osl ei 1 (.slice ac.1 r.length ac.2) r.length (r.map enc)) = rowL enc ei acs (rows.set i r) := by
  unfold rowL
  exact zipWith_set (fun ac (r : List α) => osl ei 1 (.slice ac.1 r.length ac.2) r.length (r.map enc)) acs rows i ac r ha

/-- A row of one's own slice of slices is written. -/
theorem ent_row {enc : α → Value} {eo ei : TypeId} {v : Value} {n : Nat} {acs : List (Option Addr × Nat)} {rows : List (List α)} {V : List Asn} {i : Nat} {r : List α} (hl : acs.length = rows.length) (hi : i < rows.length)
    (hr : r.length = rows[i].length) :
    Ent (osl ei 1 (.slice (acs[i]'(hl ▸ hi)).1 rows[i].length (acs[i]'(hl ▸ hi)).2) rows[i].length (r.map enc) :: osl eo 1 v n (rowC acs rows) :: ((rowL enc ei acs rows).eraseIdx i ++ V)) (orow enc eo ei v n (rows.set i r) :: V) := by
  refine Ent.swap.trans (Ent.ex (φ := fun acs : List (Option Addr × Nat) => acs.length = (rows.set i r).length) acs (by simpa using hl) ?_)
  rw [rowC_set (fun _ => hr), List.cons_append]
  refine Ent.cons ?_
  have h1 := ent_put (A' := osl ei 1 (.slice (acs[i]'(hl ▸ hi)).1 r.length (acs[i]'(hl ▸ hi)).2) r.length (r.map enc)) (V := V) (rowL_get (enc := enc) (ei := ei) hl hi)
  rw [rowL_set (List.getElem?_eq_getElem (hl ▸ hi))] at h1
  rw [hr] at h1
  exact h1

theorem star_mem {A : Asn} {L : List Asn} {i : Nat} (h : L[i]? = some A) {w : World} {S : BSet} (hs : star L w S) : ∃ S1, A.P w S1 ∧ ∀ b, S1 b → S b := by
  have := tak_get (V := []) h
  simp only [List.append_nil] at this
  exact this.mem hs

theorem Can.orow {k : Kd α} (enc : α → Value) (hk : k.sz = 1) (henc : ∀ w S x, k.R w S [enc x] x) {eo ei : TypeId} {A : Option Addr} {n c bo bi : Nat} {rows : List (List α)} {U' : List Asn}
    (ht : Tak (orow enc eo ei (.slice A n c) n rows) U U') (hbo : n * bo ≤ 140737488355328) (hbi : ∀ r ∈ rows, r.length * bi ≤ 140737488355328) : Can E U ((kslice bo (kslice bi k)).rd [.slice A n c] rows) := by
  refine Can.of fun w S hs => ?_
  obtain ⟨S1, ⟨acs, hl, T1, T2, h1, h2, _, i1, i2⟩, hsub⟩ := ht.mem hs
  obtain ⟨⟨hlen, hO⟩, hS⟩ := h1
  have hn : n = rows.length := by
    have : (rowC acs rows).length = rows.length := by unfold rowC; simp [hl]
    omega
  subst hn
  have cells : ∀ i (hi : i < rows.length), ∃ g, A = some ⟨g, 0, none⟩ ∧ T1 g ∧ w.cell? ⟨g, i, none⟩ = some (.slice (acs[i]'(hl ▸ hi)).1 rows[i].length (acs[i]'(hl ▸ hi)).2) := by
    intro i hi
    rcases hO with ⟨h3, h4⟩ | ⟨g, cap, cur, hv, _, hg, hnc, _, _, htake⟩
    · omega
    · simp only [Value.slice.injEq] at hv
      obtain ⟨rfl, _, rfl⟩ := hv
      refine ⟨g, rfl, hS g rfl, ?_⟩
      rw [cell_of_row w g _ cur eo _ hg]
      have h5 : (cur.toList.take (rows.length * 1))[i]? = some (.slice (acs[i]'(hl ▸ hi)).1 rows[i].length (acs[i]'(hl ▸ hi)).2) := by rw [htake]; exact rowC_get hl hi
      rw [List.getElem?_take] at h5
      split at h5
      · simpa using h5
      · cases h5
  have hcap : rows.length ≤ c := by
    rcases hO with ⟨h3, h4⟩ | ⟨g, cap, cur, hv, _, hg, hnc, _, _, htake⟩
    · omega
    · simp only [Value.slice.injEq] at hv
      obtain ⟨_, _, rfl⟩ := hv
      exact hnc
  refine ⟨A, c, rfl, hcap, hbo, ?_⟩
  intro i hi
  obtain ⟨g, hA, hT, hc⟩ := cells i hi
  obtain ⟨S3, hP, hsub3⟩ := star_mem (rowL_get (enc := enc) (ei := ei) hl hi) h2
  obtain ⟨he, _, hle⟩ := osl_els enc hk henc hP
  refine ⟨g, 0, [.slice (acs[i]'(hl ▸ hi)).1 rows[i].length (acs[i]'(hl ▸ hi)).2], hA, hsub g (i1 g hT), ⟨_, _, rfl, hle, hbi _ (List.getElem_mem _), els_mono (fun b hb => hsub b (i2 b (hsub3 b hb))) he⟩, ?_⟩
  intro j u hu
  cases j with
  | succ j => simp at hu
  | zero =>
    simp at hu; subst hu
    simpa [kslice] using hc
end rows

end Go.Proofs.Ytjeimmekhfhepaa.E

namespace Go.Proofs.Ytjeimmekhfhepaa.E
set_option linter.all false
variable {E : Env} {fr : Frm} {U : List Asn} {K : Frm → List Asn → Prop} {k : List It} {ops : Array Oper} {V : List Asn}

def lset (ops : Array Oper) (done : List Nat) : Array Bool := (Array.range ops.size).map (fun j => done.contains j)

theorem lset_nil (ops : Array Oper) : lset ops [] = Array.replicate ops.size false := by
  apply Array.ext
  · simp [lset]
  · intro j h1 h2; simp [lset]

theorem lset_cons (ops : Array Oper) (done : List Nat) (i : Nat) : (lset ops done).setIfInBounds i true = lset ops (i :: done) := by
  apply Array.toList_inj.1
  apply List.ext_getElem?
  intro j
  simp only [lset, Array.toList_setIfInBounds, Array.toList_map, Array.toList_range, List.getElem?_set, List.getElem?_map, List.length_map, List.length_range]
  by_cases hj : j < ops.size
  · have e : (List.range ops.size)[j]? = some j := by simp [hj]
    by_cases hij : i = j
    · subst hij; simp [hj, e]
    · rw [if_neg hij]
      simp only [e, Option.map_some]
      congr 1
      rw [Bool.eq_iff_iff]
      simp only [List.contains_iff_mem, List.mem_cons]
      exact ⟨fun h => .inr h, fun h => h.resolve_left (fun h2 => hij h2.symm)⟩
  · have e : (List.range ops.size)[j]? = none := by simp; omega
    by_cases hij : i = j
    · subst hij; simp [e, hj]
    · rw [if_neg hij, e]; rfl

/-- What is left of a region when the operations 'done' have come up. -/
def EVA (E : Env) (K : Frm → List Asn → Prop) (k : List It) (ops : Array Oper) (V : List Asn) (fuel : Nat) (done : List Nat) (fr : Frm) (U : List Asn) : Prop :=
  ∀ a w, Fr E fr a → Mem E U w → wpAnyH E.P .any ops (post E K k) (fun w => Mem E V w) fuel (lset ops done) a w

theorem s_any {id : Nat} (V : List Asn) (hm : E.P.follows .mixedOrders = true) (h : EVA E K k ops V ops.size [] fr U) :
    EVS E K (.code (.region id ops true) :: k) fr U := by
  intro a w hf hmem
  refine wp_region_held (S := fun w => Mem E V w) hm ?_
  have := h a { w with drawn := w.drawn + 1 } hf hmem.drew
  rw [lset_nil] at this
  exact this
theorem s_anyU {id : Nat} (hm : E.P.follows .mixedOrders = true) (h : EVA E K k ops U ops.size [] fr U) : EVS E K (.code (.region id ops true) :: k) fr U := s_any U hm h
theorem s_anyT {id : Nat} {A : Asn} (_ht : Tak A U V) (hm : E.P.follows .mixedOrders = true) (h : EVA E K k ops V ops.size [] fr U) : EVS E K (.code (.region id ops true) :: k) fr U := s_any V hm h

theorem a_done {fuel : Nat} {done : List Nat} (hr : Region.ready .any ops (lset ops done) = []) (h : EVS E K k fr U) : EVA E K k ops V fuel done fr U :=
  fun _ _ hf hm => wpAnyH_done hr ⟨fr, U, h, hf, hm⟩ _

/-- May the operation i be taken first? -/
def takeOk (ops : Array Oper) (done : List Nat) (i : Nat) : Bool :=
  Region.noSelect ops && ((Region.ready .any ops (lset ops done)).contains i && Region.free .any ops (lset ops done) i)

theorem a_n {fuel : Nat} {done : List Nat} (i : Nat) {d : Nat} {o : Op} {ty : TypeId} {pos : String} {af : Array Edge} {v : Value} (hi : ops[i]? = some ⟨some d, o, ty, pos, af, none⟩)
    (hn : NEV E o fr V v) (hok : takeOk ops done i = true) (hV : Ent U V) (hd : Nat.ble (d + 1) E.n = true) (h : EVA E K k ops V fuel (i :: done) ((d, v) :: fr) U) : EVA E K k ops V (fuel + 1) done fr U := by
  intro a w hf hm
  simp only [takeOk, Bool.and_eq_true] at hok
  refine wpAnyH_take hi hok.1 hok.2.2 hok.2.1 (fun c a w h => post_panic h) (.inl ⟨rfl, fun w hw => hn a w _ _ _ _ _ hf hw⟩) (hm.ent hV) ?_
  rw [lset_cons]
  exact h _ w (hf.put (Nat.le_of_ble_eq_true hd) _) hm

theorem a_ny {fuel : Nat} {done : List Nat} (i : Nat) {d : Nat} {o : Op} {ty : TypeId} {pos : String} {af : Array Edge} {v : Value} {j : Nat} {b : Bool} (hi : ops[i]? = some ⟨some d, o, ty, pos, af, some (j, b)⟩)
    (hg : gval ops fr j = some b)
    (hn : NEV E o fr V v) (hok : takeOk ops done i = true) (hV : Ent U V) (hd : Nat.ble (d + 1) E.n = true) (h : EVA E K k ops V fuel (i :: done) ((d, v) :: fr) U) : EVA E K k ops V (fuel + 1) done fr U := by
  intro a w hf hm
  simp only [takeOk, Bool.and_eq_true] at hok
  refine wpAnyH_take hi hok.1 hok.2.2 hok.2.1 (fun c a w h => post_panic h) (.inl ⟨by simp [Region.wanted, gval_yielded hf hg], fun w hw => hn a w _ _ _ _ _ hf hw⟩) (hm.ent hV) ?_
  rw [lset_cons]
  exact h _ w (hf.put (Nat.le_of_ble_eq_true hd) _) hm

theorem a_all {fuel : Nat} {done : List Nat} (rs : List Nat) (hr : Region.ready .any ops (lset ops done) = rs) (hne : rs ≠ [])
    (h : ∀ i ∈ rs, ∃ o, ops[i]? = some o ∧ o.guard = none ∧ EV1 E o fr U (fun fr' U' => Ent U' V ∧ EVA E K k ops V fuel (i :: done) fr' U')) : EVA E K k ops V (fuel + 1) done fr U := by
  intro a w hf hm
  refine wpAnyH_all hr hne ?_
  intro i hi
  obtain ⟨o, ho, hg, h1⟩ := h i hi
  unfold wpOp
  have hw : Region.wanted o (yielded ops a.tmps) = true := by simp [Region.wanted, hg]
  simp only [ho, hw, if_true]
  refine .inl (Oper.wp_mono2 ?_ (h1 a w hf hm))
  rintro a' w' ⟨fr', U', ⟨he', hk⟩, hf', hm'⟩
  refine ⟨hm'.ent he', ?_⟩
  rw [lset_cons]
  exact hk a' w' hf' hm'

theorem a_1 {fuel : Nat} {done : List Nat} (i : Nat) {o : Oper} (hr : Region.ready .any ops (lset ops done) = [i]) (ho : ops[i]? = some o) (hg : o.guard = none)
    (h : EV1 E o fr U (fun fr' U' => Ent U' V ∧ EVA E K k ops V fuel (i :: done) fr' U')) : EVA E K k ops V (fuel + 1) done fr U :=
  a_all [i] hr (by simp) (fun j hj => by simp only [List.mem_singleton] at hj; subst hj; exact ⟨o, ho, hg, h⟩)
theorem a_2 {fuel : Nat} {done : List Nat} (i j : Nat) {o o2 : Oper} (hr : Region.ready .any ops (lset ops done) = [i, j]) (ho : ops[i]? = some o) (ho2 : ops[j]? = some o2) (hg : o.guard = none) (hg2 : o2.guard = none)
    (h : EV1 E o fr U (fun fr' U' => Ent U' V ∧ EVA E K k ops V fuel (i :: done) fr' U'))
    (h2 : EV1 E o2 fr U (fun fr' U' => Ent U' V ∧ EVA E K k ops V fuel (j :: done) fr' U')) : EVA E K k ops V (fuel + 1) done fr U :=
  a_all [i, j] hr (by simp) (fun l hl => by
    simp only [List.mem_cons, List.not_mem_nil, or_false] at hl
    rcases hl with rfl | rfl
    · exact ⟨o, ho, hg, h⟩
    · exact ⟨o2, ho2, hg2, h2⟩)
theorem a_3 {fuel : Nat} {done : List Nat} (i j l : Nat) {o o2 o3 : Oper} (hr : Region.ready .any ops (lset ops done) = [i, j, l]) (ho : ops[i]? = some o) (ho2 : ops[j]? = some o2) (ho3 : ops[l]? = some o3)
    (hg : o.guard = none) (hg2 : o2.guard = none) (hg3 : o3.guard = none)
    (h : EV1 E o fr U (fun fr' U' => Ent U' V ∧ EVA E K k ops V fuel (i :: done) fr' U'))
    (h2 : EV1 E o2 fr U (fun fr' U' => Ent U' V ∧ EVA E K k ops V fuel (j :: done) fr' U'))
    (h3 : EV1 E o3 fr U (fun fr' U' => Ent U' V ∧ EVA E K k ops V fuel (l :: done) fr' U')) : EVA E K k ops V (fuel + 1) done fr U :=
  a_all [i, j, l] hr (by simp) (fun q hq => by
    simp only [List.mem_cons, List.not_mem_nil, or_false] at hq
    rcases hq with rfl | rfl | rfl
    · exact ⟨o, ho, hg, h⟩
    · exact ⟨o2, ho2, hg2, h2⟩
    · exact ⟨o3, ho3, hg3, h3⟩)

/-- The orders meet again. -/
theorem a_join {fuel : Nat} {done : List Nat} {ι : Type} (frX : ι → Frm) (UX : ι → List Asn) (hfin : ∀ x, EVS E K k (frX x) (UX x)) (h : (∀ x, EVS E K k (frX x) (UX x)) → EVA E K k ops V fuel done fr U) :
    EVA E K k ops V fuel done fr U := h hfin

/-! ### what is skipped, and what hangs on what is skipped -/
def gno (ops : Array Oper) (fr : Frm) (j : Nat) : Bool :=
  match (ops[j]?).bind (·.dst) with
  | some t => match look fr t with
    | some (.tuple _) => true
    | _ => false
  | none => false

theorem gno_yielded {ops : Array Oper} {j : Nat} {a : Act} (hf : Fr E fr a) (h : gno ops fr j = true) : yielded ops a.tmps j = none := by
  unfold gno at h
  unfold yielded
  cases hd : (ops[j]?).bind (·.dst) with
  | none => simp [hd] at h
  | some t =>
    simp only [hd] at h
    cases hl : look fr t with
    | none => simp [hl] at h
    | some v =>
      rw [hl] at h
      have := hf.frm t v hl
      cases v <;> simp_all

theorem e_noU {d : Nat} {o : Op} {ty : TypeId} {pos : String} {af : Array Edge} {l : List Oper} {j : Nat} {b b' : Bool}
    (hg : gval ops fr j = some b') (hb : Bool.xor b b' = true) (hd : Nat.ble (d + 1) E.n = true)
    (h : EVO E K k ops l ((d, undef) :: fr) U) : EVO E K k ops (⟨some d, o, ty, pos, af, some (j, b)⟩ :: l) fr U := by
  intro a w hf hm
  have hw : Region.wanted ⟨some d, o, ty, pos, af, some (j, b)⟩ (yielded ops a.tmps) = false := by
    simp only [Region.wanted, gval_yielded hf hg]
    cases b <;> cases b' <;> first | rfl | (simp at hb)
  unfold wpList
  rw [hw]
  exact h _ w (hf.put (Nat.le_of_ble_eq_true hd) undef) hm

theorem e_noN {d : Nat} {o : Op} {ty : TypeId} {pos : String} {af : Array Edge} {l : List Oper} {j : Nat} {b : Bool}
    (hg : gno ops fr j = true) (hd : Nat.ble (d + 1) E.n = true)
    (h : EVO E K k ops l ((d, undef) :: fr) U) : EVO E K k ops (⟨some d, o, ty, pos, af, some (j, b)⟩ :: l) fr U := by
  intro a w hf hm
  have hw : Region.wanted ⟨some d, o, ty, pos, af, some (j, b)⟩ (yielded ops a.tmps) = false := by
    simp only [Region.wanted, gno_yielded hf hg]; rfl
  unfold wpList
  rw [hw]
  exact h _ w (hf.put (Nat.le_of_ble_eq_true hd) undef) hm

theorem l_noN {es : List Nat} {i : Nat} {d : Nat} {o : Op} {ty : TypeId} {pos : String} {af : Array Edge} {l : List Oper} {j : Nat} {b : Bool} (hg : gno ops fr j = true)
    (he : es.contains i = false) (hV : Ent U V) (hd : Nat.ble (d + 1) E.n = true)
    (h : EVL E K k ops es V (i + 1) l ((d, undef) :: fr) U) : EVL E K k ops es V i (⟨some d, o, ty, pos, af, some (j, b)⟩ :: l) fr U :=
  l_take he hV hd (fun a hf => .inr ⟨by simp only [Region.wanted, gno_yielded hf hg]; rfl, rfl⟩) h

end Go.Proofs.Ytjeimmekhfhepaa.E

namespace Go.Proofs.Ytjeimmekhfhepaa.E
set_option linter.all false
variable {E : Env} {fr : Frm} {U : List Asn} {K : Frm → List Asn → Prop} {k : List It} {ops : Array Oper}

/-- Until z comes up the world stays w0. -/
def wpAnyZ (P : Program) (ops : Array Oper) (Q : Exit → Act → World → Prop) (z : Nat) (w0 : World) : Nat → Array Bool → Act → World → Prop
  | 0, listed, a, w => Region.ready .any ops listed = [] ∧ Q .normal a w
  | fuel + 1, listed, a, w =>
    (Region.ready .any ops listed = [] → Q .normal a w) ∧
    ∀ i ∈ Region.ready .any ops listed, wpOp P ops Q i (fun a' w' => (i = z → wpAny P .any ops Q fuel (listed.setIfInBounds i true) a' w') ∧
      (i ≠ z → w' = w0 ∧ wpAnyZ P ops Q z w0 fuel (listed.setIfInBounds i true) a' w')) a w

section
variable {P : Program} {Q : Exit → Act → World → Prop} {z : Nat} {w0 : World}

theorem wpAny_of_Z : ∀ (fuel : Nat) (listed : Array Bool) (a : Act) (w : World), wpAnyZ P ops Q z w0 fuel listed a w → wpAny P .any ops Q fuel listed a w
  | 0, _, _, _, h => h
  | fuel + 1, _, _, _, h => ⟨h.1, fun i hi => wpOp_mono (fun a' w' h' => by
      by_cases hz : i = z
      · exact h'.1 hz
      · exact wpAny_of_Z fuel _ a' w' (h'.2 hz).2) (h.2 i hi)⟩

theorem wpAnyZ_first {i : Nat} {oi : Oper} {v : Value} (hi : ops[i]? = some oi) (hsel : ∀ (j : Nat) (o : Oper) cs b, ops[j]? = some o → o.op ≠ .select cs b)
    (hQ : ∀ c a w, Q (.panic c) (a.put oi.dst v) w → Q (.panic c) a w) (hiz : i ≠ z)
    (hz : ∀ oz, ops[z]? = some oz → ∃ e ∈ oz.after, Region.binds .any e = true ∧ e.on = i) :
    ∀ (fuel : Nat) (listed : Array Bool) (a : Act) (w : World),
      (∀ j oj, ops[j]? = some oj → j ≠ i → listed.getD j true = false → (∀ e ∈ oj.after, Region.binds .any e = true → e.on ≠ i) → oi.apart ops oj = true) →
      i ∈ Region.ready .any ops listed → YieldsIf P ops (fun w => w = w0) oi v a → w = w0 →
      wpAnyZ P ops Q z w0 fuel (listed.setIfInBounds i true) (a.put oi.dst v) w → wpAnyZ P ops Q z w0 (fuel + 1) listed a w := by
  intro fuel
  induction fuel with
  | zero =>
    intro listed a w _ hr hy hS H
    refine ⟨fun h => (by rw [h] at hr; cases hr), fun j hj => ?_⟩
    by_cases hji : j = i
    · subst hji; exact hy.wpOp (S := fun w => w = w0) hi hS ⟨fun h => absurd h hiz, fun _ => ⟨hS, H⟩⟩
    · have := ready_mono hj hji
      rw [H.1] at this
      cases this
  | succ fuel ih =>
    intro listed a w hfree hr hy hS H
    refine ⟨fun h => (by rw [h] at hr; cases hr), fun j hj => ?_⟩
    by_cases hji : j = i
    · subst hji; exact hy.wpOp (S := fun w => w = w0) hi hS ⟨fun h => absurd h hiz, fun _ => ⟨hS, H⟩⟩
    · have h1 := H.2 j (ready_mono hj hji)
      obtain ⟨hjun, oj, hoj, hall⟩ := mem_ready.1 hj
      have hnot : ∀ e ∈ oj.after, Region.binds .any e = true → e.on ≠ i := fun e he hb heq => by
        have h1 := hall e he hb
        have h0 := (mem_ready.1 hr).1
        rw [heq] at h1
        rcases Nat.lt_or_ge i listed.size with h' | h'
        · simp [h'] at h0 h1; rw [h0] at h1; cases h1
        · simp [Array.getElem?_eq_none h'] at h1
      have hjz : j ≠ z := fun e => by
        subst e
        obtain ⟨e, he, hb, hon⟩ := hz oj hoj
        exact hnot e he hb hon
      have h2 := wpOp_putIf (S := fun w => w = w0) hoj (hfree j oj hoj hji hjun hnot) (fun cs b => hsel i oi cs b hi) (fun cs b => hsel j oj cs b hoj) hQ hy h1
      have hfree' : ∀ k ok, ops[k]? = some ok → k ≠ i → (listed.setIfInBounds j true).getD k true = false →
          (∀ e ∈ ok.after, Region.binds .any e = true → e.on ≠ i) → oi.apart ops ok = true := fun k ok hk hki hun hno => by
        refine hfree k ok hk hki ?_ hno
        by_cases hjk : j = k
        · subst hjk; exact hjun
        · rw [getD_set_ne true hjk] at hun; exact hun
      refine wpOp_mono (fun a' w' h3 => ⟨fun h => absurd h hjz, fun _ => ⟨(h3.2.2 hjz).1, ?_⟩⟩) h2
      have h4 := h3.2.2 hjz
      refine ih (listed.setIfInBounds j true) a' w' hfree' (ready_mono hr (Ne.symm hji)) h3.1 h4.1 ?_
      rw [Array.setIfInBounds_comm _ _ hji]
      exact h4.2
end

/-- The next that acts. -/
def nextz (n : Nat) : List Nat → Nat → Nat
  | [], _ => n
  | z :: zs, i => bif Nat.ble i z then z else nextz n zs i

def phOk (ops : Array Oper) (zs : List Nat) : Bool :=
  Region.noSelect ops && (List.range ops.size).all fun i =>
    bif zs.contains i then Region.ready .any ops (lst ops i) == [i] && Nat.beq (nextz ops.size zs i) i else
      (Region.ready .any ops (lst ops i)).contains i && (Region.free .any ops (lst ops i) i && (!Nat.beq (nextz ops.size zs i) i &&
        match ops[nextz ops.size zs i]? with
        | none => true
        | some oz => oz.after.any fun e => Region.binds .any e && Nat.beq e.on i))

/-- The rest of a region that draws, phase by phase. -/
def EVZ (E : Env) (K : Frm → List Asn → Prop) (k : List It) (ops : Array Oper) (zs : List Nat) (i : Nat) (l : List Oper) (fr : Frm) (U : List Asn) : Prop :=
  phOk ops zs = true → ops.toList.drop i = l → ∀ a w, Fr E fr a → Mem E U w → wpAnyZ E.P ops (post E K k) (nextz ops.size zs i) w (ops.size - i) (lst ops i) a w

variable {zs : List Nat} {i : Nat}

theorem s_drawZ {id : Nat} (zs : List Nat) (hm : E.P.follows .mixedOrders = true) (hph : phOk ops zs = true) (h : EVZ E K k ops zs 0 ops.toList fr U) :
    EVS E K (.code (.region id ops true) :: k) fr U := by
  intro a w hf hmem
  refine wp_region_any hm ?_
  have := h hph rfl a { w with drawn := w.drawn + 1 } hf hmem.drew
  rw [lst_zero, Nat.sub_zero] at this
  exact wpAny_of_Z _ _ _ _ this

theorem z_nil (h : EVS E K k fr U) : EVZ E K k ops zs i [] fr U := by
  intro _ hl a w hf hm
  have hsz : ops.size ≤ i := by
    have := congrArg List.length hl
    simp at this; omega
  have hr : Region.ready .any ops (lst ops i) = [] := by
    unfold Region.ready
    rw [List.filter_eq_nil_iff]
    intro j hj
    simp only [List.mem_range] at hj
    have : (lst ops i).getD j true = true := by
      simp [lst, hj, Nat.blt_eq]; omega
    simp [this]
  rw [Nat.sub_eq_zero_of_le hsz]
  exact ⟨hr, fr, U, h, hf, hm⟩

theorem phOk_s (h : phOk ops zs = true) : Region.noSelect ops = true := by
  simp only [phOk, Bool.and_eq_true] at h; exact h.1

theorem phOk_n (h : phOk ops zs = true) {i : Nat} (hi : i < ops.size) (he : zs.contains i = false) :
    (Region.ready .any ops (lst ops i)).contains i = true ∧ Region.free .any ops (lst ops i) i = true ∧ i ≠ nextz ops.size zs i ∧
      ∀ oz, ops[nextz ops.size zs i]? = some oz → ∃ e ∈ oz.after, Region.binds .any e = true ∧ e.on = i := by
  simp only [phOk, Bool.and_eq_true, List.all_eq_true, List.mem_range] at h
  have := h.2 i hi
  simp only [he, cond_false, Bool.and_eq_true] at this
  refine ⟨this.1, this.2.1, ?_, ?_⟩
  · intro e
    have := this.2.2.1
    rw [← e] at this
    simp at this
  · intro oz hoz
    have h2 := this.2.2.2
    rw [hoz] at h2
    obtain ⟨e, he, hb⟩ := Array.any_eq_true'.1 h2
    rw [Bool.and_eq_true] at hb
    exact ⟨e, he, hb.1, Nat.eq_of_beq_eq_true hb.2⟩

theorem phOk_e (h : phOk ops zs = true) {i : Nat} (hi : i < ops.size) (he : zs.contains i = true) : Region.ready .any ops (lst ops i) = [i] ∧ nextz ops.size zs i = i := by
  simp only [phOk, Bool.and_eq_true, List.all_eq_true, List.mem_range] at h
  have := h.2 i hi
  simp only [he, cond_true, Bool.and_eq_true] at this
  exact ⟨eq_of_beq this.1, Nat.eq_of_beq_eq_true this.2⟩

theorem nextz_succ : ∀ (zs : List Nat) (n i : Nat), i ≠ nextz n zs i → (zs.contains i = false) → nextz n zs (i + 1) = nextz n zs i
  | [], _, _, _, _ => rfl
  | z :: zs, n, i, h, hc => by
    simp only [List.contains_cons, Bool.or_eq_false_iff] at hc
    simp only [nextz] at *
    cases hb : Nat.ble i z with
    | true =>
      have h1 := Nat.le_of_ble_eq_true hb
      have h2 : i ≠ z := fun e => by subst e; simp at hc
      have : Nat.ble (i + 1) z = true := Nat.ble_eq_true_of_le (by omega)
      rw [this]; rfl
    | false =>
      have h1 : ¬ i ≤ z := fun h => by rw [Nat.ble_eq_true_of_le h] at hb; cases hb
      have : Nat.ble (i + 1) z = false := by
        cases hb2 : Nat.ble (i + 1) z with
        | false => rfl
        | true => have := Nat.le_of_ble_eq_true hb2; omega
      rw [this]
      rw [hb] at h
      exact nextz_succ zs n i h hc.2

theorem z_take {d : Nat} {o : Op} {ty : TypeId} {pos : String} {af : Array Edge} {g : Option (Nat × Bool)} {l : List Oper} {v : Value}
    (he : zs.contains i = false) (hd : Nat.ble (d + 1) E.n = true)
    (hy : ∀ a w, Fr E fr a → Mem E U w → YieldsIf E.P ops (fun w' => w' = w) ⟨some d, o, ty, pos, af, g⟩ v a)
    (h : EVZ E K k ops zs (i + 1) l ((d, v) :: fr) U) : EVZ E K k ops zs i (⟨some d, o, ty, pos, af, g⟩ :: l) fr U := by
  intro hph hl a w hf hm
  obtain ⟨hlt, hi, hl'⟩ := drop_at hl
  obtain ⟨hr, hfree, hne, hz⟩ := phOk_n hph hlt he
  rw [show ops.size - i = (ops.size - (i + 1)) + 1 from by omega]
  have key := h hph hl' _ w (hf.put (Nat.le_of_ble_eq_true hd) v) hm
  rw [nextz_succ zs ops.size i hne he, ← lst_succ] at key
  exact wpAnyZ_first hi (Region.noSelect_spec (phOk_s hph)) (fun c a w h => post_panic h) hne hz _ _ _ _ (Region.free_spec hi hfree) (by simpa using hr) (hy a w hf hm) rfl key

theorem z_n {d : Nat} {o : Op} {ty : TypeId} {pos : String} {af : Array Edge} {l : List Oper} {v : Value}
    (hn : NEV E o fr U v) (he : zs.contains i = false) (hd : Nat.ble (d + 1) E.n = true)
    (h : EVZ E K k ops zs (i + 1) l ((d, v) :: fr) U) : EVZ E K k ops zs i (⟨some d, o, ty, pos, af, none⟩ :: l) fr U :=
  z_take he hd (fun a w hf hm => .inl ⟨rfl, fun _ hw => hw ▸ hn a w _ _ _ _ _ hf hm⟩) h

theorem z_ny {d : Nat} {o : Op} {ty : TypeId} {pos : String} {af : Array Edge} {l : List Oper} {v : Value} {j : Nat} {b : Bool} (hg : gval ops fr j = some b)
    (hn : NEV E o fr U v) (he : zs.contains i = false) (hd : Nat.ble (d + 1) E.n = true)
    (h : EVZ E K k ops zs (i + 1) l ((d, v) :: fr) U) : EVZ E K k ops zs i (⟨some d, o, ty, pos, af, some (j, b)⟩ :: l) fr U :=
  z_take he hd (fun a w hf hm => .inl ⟨by simp [Region.wanted, gval_yielded hf hg], fun _ hw => hw ▸ hn a w _ _ _ _ _ hf hm⟩) h

theorem z_no {d : Nat} {o : Op} {ty : TypeId} {pos : String} {af : Array Edge} {l : List Oper} {j : Nat} {b b' : Bool} (hg : gval ops fr j = some b') (hb : Bool.xor b b' = true)
    (he : zs.contains i = false) (hd : Nat.ble (d + 1) E.n = true)
    (h : EVZ E K k ops zs (i + 1) l ((d, undef) :: fr) U) : EVZ E K k ops zs i (⟨some d, o, ty, pos, af, some (j, b)⟩ :: l) fr U :=
  z_take he hd (fun a w hf _ => .inr ⟨by
    simp only [Region.wanted, gval_yielded hf hg]
    cases b <;> cases b' <;> first | rfl | (simp at hb), rfl⟩) h

theorem z_noN {d : Nat} {o : Op} {ty : TypeId} {pos : String} {af : Array Edge} {l : List Oper} {j : Nat} {b : Bool} (hg : gno ops fr j = true)
    (he : zs.contains i = false) (hd : Nat.ble (d + 1) E.n = true)
    (h : EVZ E K k ops zs (i + 1) l ((d, undef) :: fr) U) : EVZ E K k ops zs i (⟨some d, o, ty, pos, af, some (j, b)⟩ :: l) fr U :=
  z_take he hd (fun a w hf _ => .inr ⟨by simp only [Region.wanted, gno_yielded hf hg]; rfl, rfl⟩) h

theorem z_dec (b' : Bool) {d : Option Tmp} {o : Op} {ty : TypeId} {pos : String} {af : Array Edge} {l : List Oper} {j : Nat} {b : Bool} (_hg : gval ops fr j = some b')
    (h : EVZ E K k ops zs i (⟨d, o, ty, pos, af, some (j, b)⟩ :: l) fr U) : EVZ E K k ops zs i (⟨d, o, ty, pos, af, some (j, b)⟩ :: l) fr U := h

theorem z_part {d : Option Tmp} {o : Op} {ty : TypeId} {pos : String} {af : Array Edge} {l : List Oper} {j s : Nat} {b t : Bool}
    (_hs : (ops[j]?).bind (·.dst) = some s) (hl : look fr s = some (.bool t))
    (h1 : t = true → EVZ E K k ops zs i (⟨d, o, ty, pos, af, some (j, b)⟩ :: l) ((s, .bool true) :: fr) U)
    (h2 : t = false → EVZ E K k ops zs i (⟨d, o, ty, pos, af, some (j, b)⟩ :: l) ((s, .bool false) :: fr) U) : EVZ E K k ops zs i (⟨d, o, ty, pos, af, some (j, b)⟩ :: l) fr U := by
  intro h0 h3 a w hf hm
  cases t
  · exact h2 rfl h0 h3 a w (hf.again hl) hm
  · exact h1 rfl h0 h3 a w (hf.again hl) hm

theorem z_act {d : Option Tmp} {o : Op} {ty : TypeId} {pos : String} {af : Array Edge} {g : Option (Nat × Bool)} {l : List Oper} (he : zs.contains i = true)
    (hw : ∀ a, Fr E fr a → Region.wanted ⟨d, o, ty, pos, af, g⟩ (yielded ops a.tmps) = true)
    (h : EV1 E ⟨d, o, ty, pos, af, g⟩ fr U (EVZ E K k ops zs (i + 1) l)) : EVZ E K k ops zs i (⟨d, o, ty, pos, af, g⟩ :: l) fr U := by
  intro hph hl a w hf hm
  obtain ⟨hlt, hi, hl'⟩ := drop_at hl
  obtain ⟨hr, hz⟩ := phOk_e hph hlt he
  rw [show ops.size - i = (ops.size - (i + 1)) + 1 from by omega]
  refine ⟨fun h0 => (by rw [hr] at h0; cases h0), ?_⟩
  intro j hj
  rw [hr, List.mem_singleton] at hj
  subst hj
  unfold wpOp
  simp only [hi, hw a hf, if_true]
  refine .inl (Oper.wp_mono2 ?_ (h a w hf hm))
  rintro a' w' ⟨fr', U', hk, hf', hm'⟩
  refine ⟨fun _ => ?_, fun hne => absurd hz.symm hne⟩
  rw [lst_succ]
  exact wpAny_of_Z _ _ _ _ (hk hph hl' a' w' hf' hm')

theorem z_e {d : Option Tmp} {o : Op} {ty : TypeId} {pos : String} {af : Array Edge} {l : List Oper} (he : zs.contains i = true)
    (h : EV1 E ⟨d, o, ty, pos, af, none⟩ fr U (EVZ E K k ops zs (i + 1) l)) : EVZ E K k ops zs i (⟨d, o, ty, pos, af, none⟩ :: l) fr U :=
  z_act he (fun _ _ => rfl) h

theorem z_ey {d : Option Tmp} {o : Op} {ty : TypeId} {pos : String} {af : Array Edge} {l : List Oper} {j : Nat} {b : Bool} (hg : gval ops fr j = some b) (he : zs.contains i = true)
    (h : EV1 E ⟨d, o, ty, pos, af, some (j, b)⟩ fr U (EVZ E K k ops zs (i + 1) l)) : EVZ E K k ops zs i (⟨d, o, ty, pos, af, some (j, b)⟩ :: l) fr U :=
  z_act he (fun a hf => by simp [Region.wanted, gval_yielded hf hg]) h

/-- A branch whose ways meet again behind it. -/
theorem s_condJ {x : Operand} {c d : Code} {t : Bool} {ι : Type} (frX : ι → Frm) (UX : ι → List Asn) (hv : val fr x = some (.bool t))
    (h1 : t = true → (∀ y, EVS E K k (frX y) (UX y)) → EVS E K (.code c :: k) fr U) (h2 : t = false → (∀ y, EVS E K k (frX y) (UX y)) → EVS E K (.code d :: k) fr U)
    (hfin : ∀ y, EVS E K k (frX y) (UX y)) : EVS E K (.code (.cond x c d) :: k) fr U :=
  s_cond hv (fun h => h1 h hfin) (fun h => h2 h hfin)

theorem s_ent {c : Code} {V : List Asn} (he : Ent U V) (h : EVS E K (.code c :: k) fr V) : EVS E K (.code c :: k) fr U := fun a w hf hm => h a w hf (hm.ent he)

theorem Tak.right {A : Asn} : ∀ {L V V' : List Asn}, Tak A V V' → Tak A (L ++ V) (L ++ V')
  | [], _, _, h => h
  | _ :: _, _, _, h => .s (Tak.right h)

end Go.Proofs.Ytjeimmekhfhepaa.E

namespace Go.Proofs.Ytjeimmekhfhepaa.E
set_option linter.all false
variable {E : Env} {fr : Frm} {U V : List Asn} {K : Frm → List Asn → Prop} {k : List It} {ops : Array Oper}

/-- Until z comes up S stays true. -/
def wpAnyB (P : Program) (ops : Array Oper) (Q : Exit → Act → World → Prop) (z : Nat) (S : World → Prop) : Nat → Array Bool → Act → World → Prop
  | 0, listed, a, w => Region.ready .any ops listed = [] ∧ Q .normal a w
  | fuel + 1, listed, a, w =>
    (Region.ready .any ops listed = [] → Q .normal a w) ∧
    ∀ i ∈ Region.ready .any ops listed, wpOp P ops Q i (fun a' w' => (i = z → wpAny P .any ops Q fuel (listed.setIfInBounds i true) a' w') ∧
      (i ≠ z → S w' ∧ wpAnyB P ops Q z S fuel (listed.setIfInBounds i true) a' w')) a w

section
variable {P : Program} {Q : Exit → Act → World → Prop} {z : Nat} {S : World → Prop}

theorem wpAny_of_B : ∀ (fuel : Nat) (listed : Array Bool) (a : Act) (w : World), wpAnyB P ops Q z S fuel listed a w → wpAny P .any ops Q fuel listed a w
  | 0, _, _, _, h => h
  | fuel + 1, _, _, _, h => ⟨h.1, fun i hi => wpOp_mono (fun a' w' h' => by
      by_cases hz : i = z
      · exact h'.1 hz
      · exact wpAny_of_B fuel _ a' w' (h'.2 hz).2) (h.2 i hi)⟩

/-- Does m wait for i, at once or through others? -/
def waits (ops : Array Oper) : Nat → Nat → Nat → Bool
  | 0, _, _ => false
  | f + 1, m, i => match ops[m]? with
    | none => false
    | some o => o.after.any fun e => Region.binds .any e && (Nat.beq e.on i || waits ops f e.on i)

/-- What is listed has all that it waits for listed. -/
def Clo (ops : Array Oper) (listed : Array Bool) : Prop :=
  ∀ (m : Nat) (o : Oper), ops[m]? = some o → listed.getD m false = true → ∀ e ∈ o.after, Region.binds .any e = true → listed.getD e.on false = true

theorem waits_listed {listed : Array Bool} (hc : Clo ops listed) {i : Nat} : ∀ (f m : Nat), waits ops f m i = true →
    (∀ o, ops[m]? = some o → ∀ e ∈ o.after, Region.binds .any e = true → listed.getD e.on false = true) → listed.getD i false = true
  | 0, _, h, _ => by simp [waits] at h
  | f + 1, m, h, hm => by
    unfold waits at h
    cases ho : ops[m]? with
    | none => simp [ho] at h
    | some o =>
      simp only [ho] at h
      obtain ⟨e, he, hb⟩ := Array.any_eq_true'.1 h
      simp only [Bool.and_eq_true, Bool.or_eq_true] at hb
      have hl := hm o ho e he hb.1
      rcases hb.2 with h2 | h2
      · rw [← Nat.eq_of_beq_eq_true h2]; exact hl
      · exact waits_listed hc f e.on h2 (fun o' ho' e' he' hb' => hc e.on o' ho' hl e' he' hb')

theorem Clo.set {listed : Array Bool} (hc : Clo ops listed) {j : Nat} (hj : j ∈ Region.ready .any ops listed) : Clo ops (listed.setIfInBounds j true) := by
  obtain ⟨_, oj, hoj, hall⟩ := mem_ready.1 hj
  intro m o ho hl e he hb
  by_cases hmj : j = m
  · subst hmj
    rw [hoj] at ho
    cases ho
    exact getD_set_true (hall e he hb)
  · rw [getD_set_ne false hmj] at hl
    exact getD_set_true (hc m o ho hl e he hb)

theorem wpAnyB_first {i : Nat} {oi : Oper} {v : Value} (hi : ops[i]? = some oi) (hsel : ∀ (j : Nat) (o : Oper) cs b, ops[j]? = some o → o.op ≠ .select cs b)
    (hQ : ∀ c a w, Q (.panic c) (a.put oi.dst v) w → Q (.panic c) a w) (hiz : i ≠ z)
    (hz : z < ops.size → ∃ f, waits ops f z i = true) :
    ∀ (fuel : Nat) (listed : Array Bool) (a : Act) (w : World), Clo ops listed →
      (∀ j oj, ops[j]? = some oj → j ≠ i → listed.getD j true = false → (∀ e ∈ oj.after, Region.binds .any e = true → e.on ≠ i) → oi.apart ops oj = true) →
      i ∈ Region.ready .any ops listed → YieldsIf P ops S oi v a → S w →
      wpAnyB P ops Q z S fuel (listed.setIfInBounds i true) (a.put oi.dst v) w → wpAnyB P ops Q z S (fuel + 1) listed a w := by
  intro fuel
  induction fuel with
  | zero =>
    intro listed a w _ _ hr hy hS H
    refine ⟨fun h => (by rw [h] at hr; cases hr), fun j hj => ?_⟩
    by_cases hji : j = i
    · subst hji; exact hy.wpOp hi hS ⟨fun h => absurd h hiz, fun _ => ⟨hS, H⟩⟩
    · have := ready_mono hj hji
      rw [H.1] at this
      cases this
  | succ fuel ih =>
    intro listed a w hclo hfree hr hy hS H
    refine ⟨fun h => (by rw [h] at hr; cases hr), fun j hj => ?_⟩
    by_cases hji : j = i
    · subst hji; exact hy.wpOp hi hS ⟨fun h => absurd h hiz, fun _ => ⟨hS, H⟩⟩
    · have h1 := H.2 j (ready_mono hj hji)
      obtain ⟨hjun, oj, hoj, hall⟩ := mem_ready.1 hj
      have hnot : ∀ e ∈ oj.after, Region.binds .any e = true → e.on ≠ i := fun e he hb heq => by
        have h1 := hall e he hb
        have h0 := (mem_ready.1 hr).1
        rw [heq] at h1
        rcases Nat.lt_or_ge i listed.size with h' | h'
        · simp [h'] at h0 h1; rw [h0] at h1; cases h1
        · simp [Array.getElem?_eq_none h'] at h1
      have hjz : j ≠ z := fun e => by
        subst e
        obtain ⟨f, hf⟩ := hz (Array.getElem?_eq_some_iff.1 hoj).1
        have h1 := waits_listed hclo f j hf (fun o ho => by rw [hoj] at ho; cases ho; exact hall)
        have h0 := (mem_ready.1 hr).1
        rcases Nat.lt_or_ge i listed.size with h' | h'
        · simp [h'] at h0 h1; rw [h0] at h1; cases h1
        · simp [Array.getElem?_eq_none h'] at h1
      have h2 := wpOp_putIf hoj (hfree j oj hoj hji hjun hnot) (fun cs b => hsel i oi cs b hi) (fun cs b => hsel j oj cs b hoj) hQ hy h1
      have hfree' : ∀ k ok, ops[k]? = some ok → k ≠ i → (listed.setIfInBounds j true).getD k true = false →
          (∀ e ∈ ok.after, Region.binds .any e = true → e.on ≠ i) → oi.apart ops ok = true := fun k ok hk hki hun hno => by
        refine hfree k ok hk hki ?_ hno
        by_cases hjk : j = k
        · subst hjk; exact hjun
        · rw [getD_set_ne true hjk] at hun; exact hun
      refine wpOp_mono (fun a' w' h3 => ⟨fun h => absurd h hjz, fun _ => ⟨(h3.2.2 hjz).1, ?_⟩⟩) h2
      have h4 := h3.2.2 hjz
      refine ih (listed.setIfInBounds j true) a' w' (hclo.set hj) hfree' (ready_mono hr (Ne.symm hji)) h3.1 h4.1 ?_
      rw [Array.setIfInBounds_comm _ _ hji]
      exact h4.2
end

def inOrder (ops : Array Oper) : Bool := (List.range ops.size).all fun m => match ops[m]? with
  | none => true
  | some o => o.after.all fun e => Nat.blt e.on m

/-- zs: the barriers; es: what else acts. -/
def baOk (ops : Array Oper) (zs es : List Nat) : Bool :=
  (Region.noSelect ops && inOrder ops) && (List.range ops.size).all fun i =>
    bif zs.contains i then Region.ready .any ops (lst ops i) == [i] && Nat.beq (nextz ops.size zs i) i else
    bif es.contains i then Region.ready .any ops (lst ops i) == [i] && !Nat.beq (nextz ops.size zs i) i else
      (Region.ready .any ops (lst ops i)).contains i && (Region.free .any ops (lst ops i) i && (!Nat.beq (nextz ops.size zs i) i &&
        (!Nat.blt (nextz ops.size zs i) ops.size || waits ops 4 (nextz ops.size zs i) i)))

theorem clo_lst {ops : Array Oper} (h : inOrder ops = true) (i : Nat) : Clo ops (lst ops i) := by
  intro m o ho hl e he _
  have hm : m < ops.size := (Array.getElem?_eq_some_iff.1 ho).1
  simp only [inOrder, List.all_eq_true, List.mem_range] at h
  have h1 := h m hm
  simp only [ho] at h1
  have h2 := Array.all_eq_true_iff_forall_mem.1 h1 e he
  rw [Nat.blt_eq] at h2
  have h3 : m < i := by
    simp [lst, hm] at hl
    exact hl
  have h4 : e.on < ops.size := by omega
  simp [lst, h4]
  omega

def EVB (E : Env) (K : Frm → List Asn → Prop) (k : List It) (ops : Array Oper) (zs es : List Nat) (V : List Asn) (i : Nat) (l : List Oper) (fr : Frm) (U : List Asn) : Prop :=
  baOk ops zs es = true → ops.toList.drop i = l → ∀ a w, Fr E fr a → Mem E U w → wpAnyB E.P ops (post E K k) (nextz ops.size zs i) (fun w => Mem E V w) (ops.size - i) (lst ops i) a w

variable {zs es : List Nat} {i : Nat}

theorem s_drawB {id : Nat} (zs es : List Nat) (V : List Asn) (hm : E.P.follows .mixedOrders = true) (hph : baOk ops zs es = true) (h : EVB E K k ops zs es V 0 ops.toList fr U) :
    EVS E K (.code (.region id ops true) :: k) fr U := by
  intro a w hf hmem
  refine wp_region_any hm ?_
  have := h hph rfl a { w with drawn := w.drawn + 1 } hf hmem.drew
  rw [lst_zero, Nat.sub_zero] at this
  exact wpAny_of_B _ _ _ _ this

theorem b_nil (h : EVS E K k fr U) : EVB E K k ops zs es V i [] fr U := by
  intro _ hl a w hf hm
  have hsz : ops.size ≤ i := by
    have := congrArg List.length hl
    simp at this; omega
  have hr : Region.ready .any ops (lst ops i) = [] := by
    unfold Region.ready
    rw [List.filter_eq_nil_iff]
    intro j hj
    simp only [List.mem_range] at hj
    have : (lst ops i).getD j true = true := by
      simp [lst, hj, Nat.blt_eq]; omega
    simp [this]
  rw [Nat.sub_eq_zero_of_le hsz]
  exact ⟨hr, fr, U, h, hf, hm⟩

theorem baOk_s (h : baOk ops zs es = true) : Region.noSelect ops = true ∧ inOrder ops = true := by
  simp only [baOk, Bool.and_eq_true] at h; exact h.1

theorem baOk_n (h : baOk ops zs es = true) {i : Nat} (hi : i < ops.size) (hz : zs.contains i = false) (he : es.contains i = false) :
    (Region.ready .any ops (lst ops i)).contains i = true ∧ Region.free .any ops (lst ops i) i = true ∧ i ≠ nextz ops.size zs i ∧
      (nextz ops.size zs i < ops.size → ∃ f, waits ops f (nextz ops.size zs i) i = true) := by
  simp only [baOk, Bool.and_eq_true, List.all_eq_true, List.mem_range] at h
  have := h.2 i hi
  simp only [hz, he, cond_false, Bool.and_eq_true] at this
  refine ⟨this.1, this.2.1, ?_, ?_⟩
  · intro e
    have := this.2.2.1
    rw [← e] at this
    simp at this
  · intro hlt
    have h2 := this.2.2.2
    rw [Bool.or_eq_true] at h2
    rcases h2 with h2 | h2
    · have : Nat.blt (nextz ops.size zs i) ops.size = true := by rw [Nat.blt_eq]; exact hlt
      rw [this] at h2; cases h2
    · exact ⟨4, h2⟩

theorem baOk_z (h : baOk ops zs es = true) {i : Nat} (hi : i < ops.size) (hz : zs.contains i = true) : Region.ready .any ops (lst ops i) = [i] ∧ nextz ops.size zs i = i := by
  simp only [baOk, Bool.and_eq_true, List.all_eq_true, List.mem_range] at h
  have := h.2 i hi
  simp only [hz, cond_true, Bool.and_eq_true] at this
  exact ⟨eq_of_beq this.1, Nat.eq_of_beq_eq_true this.2⟩

theorem baOk_e (h : baOk ops zs es = true) {i : Nat} (hi : i < ops.size) (hz : zs.contains i = false) (he : es.contains i = true) : Region.ready .any ops (lst ops i) = [i] ∧ i ≠ nextz ops.size zs i := by
  simp only [baOk, Bool.and_eq_true, List.all_eq_true, List.mem_range] at h
  have := h.2 i hi
  simp only [hz, he, cond_true, cond_false, Bool.and_eq_true] at this
  refine ⟨eq_of_beq this.1, fun e => ?_⟩
  have h2 := this.2
  rw [← e] at h2
  simp at h2

theorem b_take {d : Nat} {o : Op} {ty : TypeId} {pos : String} {af : Array Edge} {g : Option (Nat × Bool)} {l : List Oper} {v : Value}
    (hz : zs.contains i = false) (he : es.contains i = false) (hV : Ent U V) (hd : Nat.ble (d + 1) E.n = true)
    (hy : ∀ a, Fr E fr a → YieldsIf E.P ops (fun w => Mem E V w) ⟨some d, o, ty, pos, af, g⟩ v a)
    (h : EVB E K k ops zs es V (i + 1) l ((d, v) :: fr) U) : EVB E K k ops zs es V i (⟨some d, o, ty, pos, af, g⟩ :: l) fr U := by
  intro hph hl a w hf hm
  obtain ⟨hlt, hi, hl'⟩ := drop_at hl
  obtain ⟨hr, hfree, hne, hzz⟩ := baOk_n hph hlt hz he
  rw [show ops.size - i = (ops.size - (i + 1)) + 1 from by omega]
  have key := h hph hl' _ w (hf.put (Nat.le_of_ble_eq_true hd) v) hm
  rw [nextz_succ zs ops.size i hne hz, ← lst_succ] at key
  exact wpAnyB_first hi (Region.noSelect_spec (baOk_s hph).1) (fun c a w h => post_panic h) hne hzz _ _ _ _ (clo_lst (baOk_s hph).2 i) (Region.free_spec hi hfree) (by simpa using hr) (hy a hf) (hm.ent hV) key

theorem b_n {d : Nat} {o : Op} {ty : TypeId} {pos : String} {af : Array Edge} {l : List Oper} {v : Value}
    (hn : NEV E o fr V v) (hz : zs.contains i = false) (he : es.contains i = false) (hV : Ent U V) (hd : Nat.ble (d + 1) E.n = true)
    (h : EVB E K k ops zs es V (i + 1) l ((d, v) :: fr) U) : EVB E K k ops zs es V i (⟨some d, o, ty, pos, af, none⟩ :: l) fr U :=
  b_take hz he hV hd (fun a hf => .inl ⟨rfl, fun w hw => hn a w _ _ _ _ _ hf hw⟩) h

theorem b_ny {d : Nat} {o : Op} {ty : TypeId} {pos : String} {af : Array Edge} {l : List Oper} {v : Value} {j : Nat} {b : Bool} (hg : gval ops fr j = some b)
    (hn : NEV E o fr V v) (hz : zs.contains i = false) (he : es.contains i = false) (hV : Ent U V) (hd : Nat.ble (d + 1) E.n = true)
    (h : EVB E K k ops zs es V (i + 1) l ((d, v) :: fr) U) : EVB E K k ops zs es V i (⟨some d, o, ty, pos, af, some (j, b)⟩ :: l) fr U :=
  b_take hz he hV hd (fun a hf => .inl ⟨by simp [Region.wanted, gval_yielded hf hg], fun w hw => hn a w _ _ _ _ _ hf hw⟩) h

theorem b_no {d : Nat} {o : Op} {ty : TypeId} {pos : String} {af : Array Edge} {l : List Oper} {j : Nat} {b b' : Bool} (hg : gval ops fr j = some b') (hb : Bool.xor b b' = true)
    (hz : zs.contains i = false) (he : es.contains i = false) (hV : Ent U V) (hd : Nat.ble (d + 1) E.n = true)
    (h : EVB E K k ops zs es V (i + 1) l ((d, undef) :: fr) U) : EVB E K k ops zs es V i (⟨some d, o, ty, pos, af, some (j, b)⟩ :: l) fr U :=
  b_take hz he hV hd (fun a hf => .inr ⟨by
    simp only [Region.wanted, gval_yielded hf hg]
    cases b <;> cases b' <;> first | rfl | (simp at hb), rfl⟩) h

theorem b_noN {d : Nat} {o : Op} {ty : TypeId} {pos : String} {af : Array Edge} {l : List Oper} {j : Nat} {b : Bool} (hg : gno ops fr j = true)
    (hz : zs.contains i = false) (he : es.contains i = false) (hV : Ent U V) (hd : Nat.ble (d + 1) E.n = true)
    (h : EVB E K k ops zs es V (i + 1) l ((d, undef) :: fr) U) : EVB E K k ops zs es V i (⟨some d, o, ty, pos, af, some (j, b)⟩ :: l) fr U :=
  b_take hz he hV hd (fun a hf => .inr ⟨by simp only [Region.wanted, gno_yielded hf hg]; rfl, rfl⟩) h

theorem b_dec (b' : Bool) {d : Option Tmp} {o : Op} {ty : TypeId} {pos : String} {af : Array Edge} {l : List Oper} {j : Nat} {b : Bool} (_hg : gval ops fr j = some b')
    (h : EVB E K k ops zs es V i (⟨d, o, ty, pos, af, some (j, b)⟩ :: l) fr U) : EVB E K k ops zs es V i (⟨d, o, ty, pos, af, some (j, b)⟩ :: l) fr U := h

theorem b_part {d : Option Tmp} {o : Op} {ty : TypeId} {pos : String} {af : Array Edge} {l : List Oper} {j s : Nat} {b t : Bool}
    (_hs : (ops[j]?).bind (·.dst) = some s) (hl : look fr s = some (.bool t))
    (h1 : t = true → EVB E K k ops zs es V i (⟨d, o, ty, pos, af, some (j, b)⟩ :: l) ((s, .bool true) :: fr) U)
    (h2 : t = false → EVB E K k ops zs es V i (⟨d, o, ty, pos, af, some (j, b)⟩ :: l) ((s, .bool false) :: fr) U) : EVB E K k ops zs es V i (⟨d, o, ty, pos, af, some (j, b)⟩ :: l) fr U := by
  intro h0 h3 a w hf hm
  cases t
  · exact h2 rfl h0 h3 a w (hf.again hl) hm
  · exact h1 rfl h0 h3 a w (hf.again hl) hm

/-- An operation that acts, and leaves V. -/
theorem b_e {d : Option Tmp} {o : Op} {ty : TypeId} {pos : String} {af : Array Edge} {l : List Oper} (hz : zs.contains i = false) (he : es.contains i = true)
    (h : EV1 E ⟨d, o, ty, pos, af, none⟩ fr U (fun fr' U' => Ent U' V ∧ EVB E K k ops zs es V (i + 1) l fr' U')) : EVB E K k ops zs es V i (⟨d, o, ty, pos, af, none⟩ :: l) fr U := by
  intro hph hl a w hf hm
  obtain ⟨hlt, hi, hl'⟩ := drop_at hl
  obtain ⟨hr, hne⟩ := baOk_e hph hlt hz he
  rw [show ops.size - i = (ops.size - (i + 1)) + 1 from by omega]
  refine ⟨fun h0 => (by rw [hr] at h0; cases h0), ?_⟩
  intro j hj
  rw [hr, List.mem_singleton] at hj
  subst hj
  unfold wpOp
  have hw : Region.wanted ⟨d, o, ty, pos, af, none⟩ (yielded ops a.tmps) = true := rfl
  simp only [hi, hw, if_true]
  refine .inl (Oper.wp_mono2 ?_ (h a w hf hm))
  rintro a' w' ⟨fr', U', ⟨he', hk⟩, hf', hm'⟩
  refine ⟨fun e => absurd e hne, fun _ => ⟨hm'.ent he', ?_⟩⟩
  have key := hk hph hl' a' w' hf' hm'
  rw [nextz_succ zs ops.size j hne hz, ← lst_succ] at key
  exact key

/-- A barrier: all may change. -/
theorem b_z {d : Option Tmp} {o : Op} {ty : TypeId} {pos : String} {af : Array Edge} {l : List Oper} (hz : zs.contains i = true)
    (h : EV1 E ⟨d, o, ty, pos, af, none⟩ fr U (fun fr' U' => ∃ V2, EVB E K k ops zs es V2 (i + 1) l fr' U')) : EVB E K k ops zs es V i (⟨d, o, ty, pos, af, none⟩ :: l) fr U := by
  intro hph hl a w hf hm
  obtain ⟨hlt, hi, hl'⟩ := drop_at hl
  obtain ⟨hr, hzz⟩ := baOk_z hph hlt hz
  rw [show ops.size - i = (ops.size - (i + 1)) + 1 from by omega]
  refine ⟨fun h0 => (by rw [hr] at h0; cases h0), ?_⟩
  intro j hj
  rw [hr, List.mem_singleton] at hj
  subst hj
  unfold wpOp
  have hw : Region.wanted ⟨d, o, ty, pos, af, none⟩ (yielded ops a.tmps) = true := rfl
  simp only [hi, hw, if_true]
  refine .inl (Oper.wp_mono2 ?_ (h a w hf hm))
  rintro a' w' ⟨fr', U', ⟨V2, hk⟩, hf', hm'⟩
  refine ⟨fun _ => ?_, fun hne => absurd hzz.symm hne⟩
  rw [lst_succ]
  exact wpAny_of_B _ _ _ _ (hk hph hl' a' w' hf' hm')

/-- An empty slice is owned for nothing. -/
theorem Ent.osl0 {e : TypeId} {sz : Nat} (h : Ent U V) : Ent U (osl e sz (.slice none 0 0) 0 [] :: V) := fun w S hs =>
  ⟨fun _ => False, S, ⟨⟨by simp, .inl ⟨rfl, rfl⟩⟩, fun k hk => by simp [Value.ownBlock] at hk⟩, h w S hs, fun _ hb => hb.elim, fun _ hb => hb.elim, fun _ hb => hb⟩

end Go.Proofs.Ytjeimmekhfhepaa.E

namespace Go.Proofs.Ytjeimmekhfhepaa.E
set_option linter.all false
variable {E : Env} {fr : Frm} {U V : List Asn} {K : Frm → List Asn → Prop} {k : List It} {ops : Array Oper}

/-- A maker: where its value goes; the makers whose blocks it names (itself among them); its value and what it owns, by those blocks. -/
structure Mk where
  d : Nat
  use : List Nat
  v : List Nat → Value
  A : List Nat → List Asn

def setB (B : Nat → Nat) (i b : Nat) : Nat → Nat := fun j => bif Nat.beq j i then b else B j
theorem setB_ne {B : Nat → Nat} {i b j : Nat} (h : j ≠ i) : setB B i b j = B j := by
  unfold setB
  cases hb : Nat.beq j i with
  | false => rfl
  | true => exact absurd (Nat.eq_of_beq_eq_true hb) h

def Mk.val (m : Mk) (B : Nat → Nat) : Value := m.v (m.use.map B)
def Mk.own (m : Mk) (B : Nat → Nat) : List Asn := m.A (m.use.map B)

def ownAll (ms : List Mk) (B : Nat → Nat) : List Nat → List Asn
  | [] => []
  | j :: js => (match ms[j]? with | some m => m.own B | none => []) ++ ownAll ms B js

/-- The region's shape, as a Bool. -/
def mkOk (ops : Array Oper) (ms : List Mk) (fr : Frm) : Bool :=
  Nat.beq ops.size (ms.length + 1) && (inOrder ops &&
  ((List.range ms.length).all (fun j => match ms[j]?, ops[j]? with
    | some m, some o => o.guard.isNone && ((look fr m.d).isNone && ((List.range ms.length).all (fun i => Nat.beq i j || match ms[i]? with
        | some m2 => !Nat.beq m.d m2.d
        | none => true) && m.use.all (fun u => Nat.beq u j || waits ops 12 j u)))
    | _, _ => false) &&
  match ops[ms.length]? with
    | some o => o.guard.isNone && (List.range ms.length).all (fun j => o.after.any (fun e => Region.binds .any e && Nat.beq e.on j))
    | none => false))

/-- A step of a maker, in whatever frame knows what it waits for. -/
def MkStep (E : Env) (ops : Array Oper) (ms : List Mk) (fr0 : Frm) (i : Nat) : Prop :=
  ∀ (o : Oper) (m : Mk), ops[i]? = some o → ms[i]? = some m → ∀ (B : Nat → Nat) (fr : Frm) (U : List Asn), Sub fr fr0 →
    (∀ e ∈ o.after, Region.binds .any e = true → ∀ m2, ms[e.on]? = some m2 → look fr m2.d = some (m2.val B)) →
    EV1 E o fr U (fun fr' U' => ∃ b, Sub fr' ((m.d, m.val (setB B i b)) :: fr) ∧ Ent U' (m.own (setB B i b) ++ U))

theorem mem_unlisted {n : Nat} {done : List Nat} {i : Nat} (hi : i < n) (hd : done.contains i = false) :
    ((List.range n).filter (fun j => !(i :: done).contains j)).length < ((List.range n).filter (fun j => !done.contains j)).length := by
  have h1 : (List.range n).filter (fun j => !(i :: done).contains j) = ((List.range n).filter (fun j => !done.contains j)).filter (fun j => !(j == i)) := by
    rw [List.filter_filter]
    congr 1
    funext j
    rw [List.contains_cons, Bool.not_or]
  rw [h1, List.length_filter_lt_length_iff_exists]
  refine ⟨i, ?_, by simp⟩
  rw [List.mem_filter]
  exact ⟨List.mem_range.2 hi, by rw [hd]; rfl⟩

theorem lset_get {done : List Nat} {j : Nat} (hj : j < ops.size) : (lset ops done).getD j false = done.contains j := by
  simp [lset, hj]
theorem lset_get_t {done : List Nat} {j : Nat} (hj : j < ops.size) : (lset ops done).getD j true = done.contains j := by
  simp [lset, hj]

theorem mkOk_spec {ms : List Mk} (h : mkOk ops ms fr = true) : ops.size = ms.length + 1 ∧ inOrder ops = true ∧
    (∀ (j : Nat) (m : Mk) (o : Oper), ms[j]? = some m → ops[j]? = some o → o.guard = none ∧ look fr m.d = none ∧ (∀ (i : Nat) (m2 : Mk), i ≠ j → ms[i]? = some m2 → m.d ≠ m2.d) ∧ (∀ u ∈ m.use, u = j ∨ waits ops 12 j u = true)) ∧
    (∀ (o : Oper), ops[ms.length]? = some o → o.guard = none ∧ ∀ j < ms.length, ∃ e ∈ o.after, Region.binds .any e = true ∧ e.on = j) := by
  simp only [mkOk, Bool.and_eq_true] at h
  obtain ⟨h1, h2, h3, h4⟩ := h
  refine ⟨Nat.eq_of_beq_eq_true h1, h2, ?_, ?_⟩
  · intro j m o hm ho
    have hj : j < ms.length := by
      rcases Nat.lt_or_ge j ms.length with h | h
      · exact h
      · rw [List.getElem?_eq_none h] at hm; cases hm
    have := List.all_eq_true.1 h3 j (List.mem_range.2 hj)
    simp only [hm, ho, Bool.and_eq_true] at this
    obtain ⟨a, b, c, d⟩ := this
    refine ⟨Option.isNone_iff_eq_none.1 a, Option.isNone_iff_eq_none.1 b, ?_, ?_⟩
    · intro i m2 hne hm2 he
      have hi : i < ms.length := by
        rcases Nat.lt_or_ge i ms.length with h | h
        · exact h
        · rw [List.getElem?_eq_none h] at hm2; cases hm2
      have := List.all_eq_true.1 c i (List.mem_range.2 hi)
      rw [hm2, Bool.or_eq_true] at this
      rcases this with h | h
      · exact hne (Nat.eq_of_beq_eq_true h)
      · simp [he] at h
    · intro u hu
      have := List.all_eq_true.1 d u hu
      rw [Bool.or_eq_true] at this
      exact this.imp Nat.eq_of_beq_eq_true id
  · intro o ho
    rw [ho] at h4
    simp only [Bool.and_eq_true] at h4
    refine ⟨Option.isNone_iff_eq_none.1 h4.1, fun j hj => ?_⟩
    have := List.all_eq_true.1 h4.2 j (List.mem_range.2 hj)
    obtain ⟨e, he, hb⟩ := Array.any_eq_true'.1 this
    rw [Bool.and_eq_true] at hb
    exact ⟨e, he, hb.1, Nat.eq_of_beq_eq_true hb.2⟩

theorem clo_lset {done : List Nat} (hdone : ∀ j ∈ done, ∀ o, ops[j]? = some o → ∀ e ∈ o.after, Region.binds .any e = true → done.contains e.on = true) (hin : inOrder ops = true) : Clo ops (lset ops done) := by
  intro m o ho hl e he hb
  have hm : m < ops.size := (Array.getElem?_eq_some_iff.1 ho).1
  rw [lset_get hm] at hl
  simp only [inOrder, List.all_eq_true, List.mem_range] at hin
  have h1 := hin m hm
  simp only [ho] at h1
  have h2 := Array.all_eq_true_iff_forall_mem.1 h1 e he
  rw [Nat.blt_eq] at h2
  rw [lset_get (by omega)]
  exact hdone m (by simpa using hl) o ho e he hb

theorem ownAll_set {ms : List Mk} {B : Nat → Nat} {i b : Nat} : ∀ {done : List Nat}, (∀ j ∈ done, ∀ (m : Mk), ms[j]? = some m → ∀ u ∈ m.use, u ≠ i) → ownAll ms (setB B i b) done = ownAll ms B done
  | [], _ => rfl
  | j :: done, h => by
    unfold ownAll
    rw [ownAll_set (fun j' hj' => h j' (List.mem_cons_of_mem _ hj'))]
    congr 1
    cases hm : ms[j]? with
    | none => rfl
    | some m =>
      simp only [Mk.own]
      congr 1
      apply List.map_congr_left
      intro u hu
      exact setB_ne (h j (List.mem_cons_self ..) m hm u hu)

theorem mk_core {ms : List Mk} {fr0 : Frm} {U0 : List Asn} (hok : mkOk ops ms fr0 = true) (hstep : ∀ i, i < ms.length → MkStep E ops ms fr0 i)
    (hlast : ∀ (o : Oper), ops[ms.length]? = some o → ∀ (B : Nat → Nat) (fr : Frm) (U : List Asn) (done : List Nat), Sub fr fr0 → (∀ (j : Nat) (m : Mk), ms[j]? = some m → look fr m.d = some (m.val B)) →
      (∀ j, j < ms.length → done.contains j = true) → done.Nodup → (∀ j ∈ done, j < ms.length) → Ent U (ownAll ms B done ++ U0) → EV1 E o fr U (EVS E K k)) :
    ∀ (fuel : Nat) (done : List Nat) (B : Nat → Nat) (fr : Frm) (U : List Asn) (a : Act) (w : World),
      ((List.range ops.size).filter (fun j => !done.contains j)).length ≤ fuel → done.Nodup → (∀ j ∈ done, j < ms.length) →
      (∀ j ∈ done, ∀ o, ops[j]? = some o → ∀ e ∈ o.after, Region.binds .any e = true → done.contains e.on = true) →
      Sub fr fr0 → (∀ j ∈ done, ∀ (m : Mk), ms[j]? = some m → look fr m.d = some (m.val B)) → Ent U (ownAll ms B done ++ U0) → Fr E fr a → Mem E U w →
      wpAny E.P .any ops (post E K k) fuel (lset ops done) a w := by
  obtain ⟨hsz, hin, hms, hla⟩ := mkOk_spec hok
  intro fuel
  induction fuel with
  | zero =>
    intro done B fr U a w hfu hnd hlt _ _ _ _ _ _
    have hnil : (List.range ops.size).filter (fun j => !done.contains j) = [] := List.length_eq_zero_iff.1 (by omega)
    rw [List.filter_eq_nil_iff] at hnil
    have := hnil ms.length (List.mem_range.2 (by omega))
    have h2 : done.contains ms.length = true := by
      cases hc : done.contains ms.length with
      | true => rfl
      | false => rw [hc] at this; exact absurd rfl this
    have := hlt ms.length (by simpa using h2)
    omega
  | succ fuel ih =>
    intro done B fr U a w hfu hnd hlt hcl hsub hlook hent hf hm
    have hclo := clo_lset hcl hin
    refine ⟨fun h0 => ?_, fun i hi => ?_⟩
    · exfalso
      have hall : ∀ j, j < ops.size → done.contains j = true := by
        intro j
        induction j using Nat.strongRecOn with
        | _ j ihj =>
          intro hj
          cases hc : done.contains j with
          | true => rfl
          | false =>
            exfalso
            have : j ∈ Region.ready .any ops (lset ops done) := by
              obtain ⟨o, ho⟩ : ∃ o, ops[j]? = some o := ⟨ops[j], Array.getElem?_eq_getElem hj⟩
              refine mem_ready.2 ⟨by rw [lset_get_t hj]; exact hc, o, ho, fun e he hb => ?_⟩
              simp only [inOrder, List.all_eq_true, List.mem_range] at hin
              have h1 := hin j hj
              simp only [ho] at h1
              have h2 := Array.all_eq_true_iff_forall_mem.1 h1 e he
              rw [Nat.blt_eq] at h2
              rw [lset_get (by omega)]
              exact ihj e.on h2 (by omega)
            rw [h0] at this; cases this
      have h1 := hall ms.length (by omega)
      have := hlt ms.length (by simpa using h1)
      omega
    · obtain ⟨hun, o, ho, hdep⟩ := mem_ready.1 hi
      have hio : i < ops.size := (Array.getElem?_eq_some_iff.1 ho).1
      rw [lset_get_t hio] at hun
      by_cases him : i < ms.length
      · obtain ⟨m, hmm⟩ : ∃ m, ms[i]? = some m := ⟨ms[i], List.getElem?_eq_getElem him⟩
        obtain ⟨hg, hbase, hdif, huse⟩ := hms i m o hmm ho
        have hdep' : ∀ e ∈ o.after, Region.binds .any e = true → done.contains e.on = true := fun e he hb => by
          have h1 := hdep e he hb
          simp only [inOrder, List.all_eq_true, List.mem_range] at hin
          have h2 := hin i hio
          simp only [ho] at h2
          have h3 := Array.all_eq_true_iff_forall_mem.1 h2 e he
          rw [Nat.blt_eq] at h3
          rw [lset_get (by omega)] at h1
          exact h1
        have hnu : ∀ j ∈ done, ∀ (m2 : Mk), ms[j]? = some m2 → ∀ u ∈ m2.use, u ≠ i := by
          intro j hj m2 hm2 u hu he
          subst he
          have hjm := hlt j hj
          obtain ⟨oj, hoj⟩ : ∃ oj, ops[j]? = some oj := ⟨ops[j], Array.getElem?_eq_getElem (by omega)⟩
          rcases (hms j m2 oj hm2 hoj).2.2.2 u hu with h | h
          · subst h
            rw [List.contains_eq_mem, decide_eq_false_iff_not] at hun
            exact hun hj
          · have := waits_listed hclo 12 j h (fun o' ho' e he hb => hclo j o' ho' (by rw [lset_get (by omega)]; simpa using hj) e he hb)
            rw [lset_get hio, hun] at this
            cases this
        have hst := hstep i him o m ho hmm B fr U hsub (fun e he hb m2 hm2 => hlook e.on (by simpa using hdep' e he hb) m2 hm2)
        unfold wpOp
        have hw : Region.wanted o (yielded ops a.tmps) = true := by simp [Region.wanted, hg]
        simp only [ho, hw, if_true]
        refine .inl (Oper.wp_mono2 ?_ (hst a w hf hm))
        rintro a' w' ⟨fr', U', ⟨b, hs', he'⟩, hf', hm'⟩
        rw [lset_cons]
        have hlook0 : ∀ (j : Nat) (m2 : Mk), j ≠ i → ms[j]? = some m2 → ∀ u, look fr m2.d = some u → look fr' m2.d = some u := by
          intro j m2 hj hm2 u hu
          refine hs' _ _ ?_
          have hne := hdif j m2 hj hm2
          simp only [look]
          cases hb : Nat.beq m.d m2.d with
          | true => exact absurd (Nat.eq_of_beq_eq_true hb) hne
          | false => exact hu
        refine ih (i :: done) (setB B i b) fr' U' a' w' ?_ ?_ ?_ ?_ ?_ ?_ ?_ hf' hm'
        · have := mem_unlisted hio hun
          omega
        · rw [List.nodup_cons]
          exact ⟨by rw [List.contains_eq_mem, decide_eq_false_iff_not] at hun; exact hun, hnd⟩
        · intro j hj
          rcases List.mem_cons.1 hj with h | h
          · rw [h]; exact him
          · exact hlt j h
        · intro j hj o' ho' e he hb
          rw [List.contains_cons, Bool.or_eq_true]
          rcases List.mem_cons.1 hj with h | h
          · rw [h, ho] at ho'
            cases ho'
            exact .inr (hdep' e he hb)
          · exact .inr (hcl j h o' ho' e he hb)
        · intro d u hu
          refine hs' d u ?_
          simp only [look]
          cases hb : Nat.beq m.d d with
          | true =>
            rw [← Nat.eq_of_beq_eq_true hb, hbase] at hu; cases hu
          | false => exact hsub d u hu
        · intro j hj m2 hm2
          rcases List.mem_cons.1 hj with h | h
          · subst h
            rw [hmm] at hm2
            cases hm2
            refine hs' _ _ ?_
            simp [look]
          · have hji : j ≠ i := fun e => by
              subst e
              rw [List.contains_eq_mem, decide_eq_false_iff_not] at hun
              exact hun h
            have h1 := hlook0 j m2 hji hm2 _ (hlook j h m2 hm2)
            rw [h1]
            congr 1
            unfold Mk.val
            congr 1
            apply List.map_congr_left
            intro u hu
            exact (setB_ne (hnu j h m2 hm2 u hu)).symm
        · refine he'.trans ?_
          show Ent _ (ownAll ms (setB B i b) (i :: done) ++ U0)
          unfold ownAll
          rw [hmm, ownAll_set hnu, List.append_assoc]
          exact Ent.app hent
      · have hie : i = ms.length := by omega
        subst hie
        obtain ⟨hg, hall⟩ := hla o ho
        have hcon : ∀ j, j < ms.length → done.contains j = true := by
          intro j hj
          obtain ⟨e, he, hb, hon⟩ := hall j hj
          have h1 := hdep e he hb
          rw [hon, lset_get (by omega)] at h1
          exact h1
        have hst := hlast o ho B fr U done hsub (fun j m hm => hlook j (by
          have hj : j < ms.length := by
            rcases Nat.lt_or_ge j ms.length with h | h
            · exact h
            · rw [List.getElem?_eq_none h] at hm; cases hm
          simpa using hcon j hj) m hm) hcon hnd hlt hent
        unfold wpOp
        have hw : Region.wanted o (yielded ops a.tmps) = true := by simp [Region.wanted, hg]
        simp only [ho, hw, if_true]
        refine .inl (Oper.wp_mono2 ?_ (hst a w hf hm))
        rintro a' w' ⟨fr', U', hk, hf', hm'⟩
        rw [lset_cons]
        refine wpAny_done ?_ ⟨fr', U', hk, hf', hm'⟩ fuel
        unfold Region.ready
        rw [List.filter_eq_nil_iff]
        intro j hj
        simp only [List.mem_range] at hj
        have : (lset ops (ms.length :: done)).getD j true = true := by
          rw [lset_get_t hj, List.contains_cons]
          by_cases h : j = ms.length
          · subst h; simp
          · rw [hcon j (by omega)]; simp
        simp [this]

/-! ### what the others keep -/
theorem put_keep {a : Act} {dst : Option Tmp} {v : Value} {t : Nat} (h : dst ≠ some t) : (a.put dst v).tmps[t]? = a.tmps[t]? := by
  cases dst with
  | none => rfl
  | some d =>
    have : d ≠ t := fun e => h (by rw [e])
    simp [Act.put, Array.getElem?_setIfInBounds_ne this]

theorem wp_keep {P : Program} {o : Oper} {a : Act} {w : World} {N : Act → World → Prop} (hh : o.wp P a w N (fun _ _ _ => False)) :
    o.wp P a w (fun a' w' => N a' w' ∧ ∀ t, o.dst ≠ some t → a'.tmps[t]? = a.tmps[t]?) (fun _ _ _ => False) := by
  unfold Oper.wp at *
  generalize (execOp a.eval o).run P w = r at *
  cases r with
  | ok n w' =>
    cases n <;> simp only [Oper.upon] at hh ⊢ <;>
      first
        | exact ⟨hh, fun t ht => put_keep ht⟩
        | exact Calls.mono hh (fun e w'' he => by
            cases e with
            | returned v => exact ⟨he, fun t ht => put_keep ht⟩
            | panicked c => exact he.elim
            | outgrown => exact he)
        | exact Rows.mono hh (fun _ _ he => ⟨he, fun t ht => put_keep ht⟩)
  | halt x w' => cases x <;> simp only [Oper.upon] at hh ⊢ <;> exact hh

/-- What a maker waits for, as a frame. -/
def depFr (ms : List Mk) (B : Nat → Nat) : List Nat → Frm → Frm
  | [], fr => fr
  | j :: js, fr => match ms[j]? with
    | some m => (m.d, m.val B) :: depFr ms B js fr
    | none => depFr ms B js fr

theorem depFr_sub {ms : List Mk} {B : Nat → Nat} {fr0 : Frm} (hs : Sub fr fr0) : ∀ (js : List Nat), (∀ j ∈ js, ∀ m, ms[j]? = some m → look fr m.d = some (m.val B)) → Sub fr (depFr ms B js fr0)
  | [], _ => hs
  | j :: js, h => by
    unfold depFr
    have ih := depFr_sub hs js (fun j' hj' => h j' (List.mem_cons_of_mem _ hj'))
    cases hm : ms[j]? with
    | none => exact ih
    | some m => exact Sub.cons (h j (List.mem_cons_self ..) m hm) ih

theorem mk_step {ms : List Mk} {fr0 : Frm} {i : Nat} (deps : List Nat) {o : Oper} {m : Mk} (ho : ops[i]? = some o) (hm : ms[i]? = some m) (hd : o.dst = some m.d)
    (hdeps : deps.all (fun j => o.after.any (fun e => Region.binds .any e && Nat.beq e.on j)) = true)
    (h : ∀ (B : Nat → Nat) (U : List Asn), EV1 E o (depFr ms B deps fr0) U (fun fr' U' => ∃ b, look fr' m.d = some (m.val (setB B i b)) ∧ Ent U' (m.own (setB B i b) ++ U))) : MkStep E ops ms fr0 i := by
  intro o' m' ho' hm' B fr U hsub hlk
  rw [ho] at ho'
  rw [hm] at hm'
  cases ho'
  cases hm'
  have hs := depFr_sub (ms := ms) (B := B) hsub deps (fun j hj m2 hm2 => by
    obtain ⟨e, he, hb⟩ := Array.any_eq_true'.1 (List.all_eq_true.1 hdeps j hj)
    rw [Bool.and_eq_true] at hb
    have hon := Nat.eq_of_beq_eq_true hb.2
    exact hlk e he hb.1 m2 (by rw [hon]; exact hm2))
  intro a w hf hmm
  refine Oper.wp_mono2 ?_ (wp_keep (h B U a w (hf.sub hs) hmm))
  rintro a' w' ⟨⟨fr', U', ⟨b, hl, he⟩, hf', hm'⟩, hkeep⟩
  refine ⟨(m.d, m.val (setB B i b)) :: fr, U', ⟨b, Sub.refl _, he⟩, ⟨hf'.defers, hf'.size, fun t u hu => ?_⟩, hm'⟩
  simp only [look] at hu
  cases hb : Nat.beq m.d t with
  | true =>
    rw [hb] at hu
    have := Nat.eq_of_beq_eq_true hb
    subst this
    rw [← hu]
    exact hf'.frm _ _ hl
  | false =>
    rw [hb] at hu
    rw [hkeep t (by rw [hd]; intro e; cases e; simp at hb)]
    exact hf.frm t u hu

theorem Ent.comm3 : ∀ {L M R : List Asn}, Ent (L ++ (M ++ R)) (M ++ (L ++ R))
  | [], _, _ => Ent.refl _
  | _ :: _, _, _ => (Ent.cons Ent.comm3).trans Ent.mid

theorem ownAll_perm {ms : List Mk} {B : Nat → Nat} {l l' : List Nat} (h : l.Perm l') : ∀ U, Ent (ownAll ms B l ++ U) (ownAll ms B l' ++ U) := by
  induction h with
  | nil => exact fun U => Ent.refl _
  | cons x _ ih =>
    intro U
    simp only [ownAll, List.append_assoc]
    exact Ent.app (ih U)
  | swap x y l =>
    intro U
    simp only [ownAll, List.append_assoc]
    exact Ent.comm3
  | trans _ _ ih1 ih2 => exact fun U => (ih1 U).trans (ih2 U)

/-- **A region of makers.** -/
theorem s_mk {id : Nat} (ms : List Mk) (hmx : E.P.follows .mixedOrders = true) (hok : mkOk ops ms fr = true) (hstep : ∀ i, i < ms.length → MkStep E ops ms fr i)
    {o : Oper} (ho : ops[ms.length]? = some o)
    (hlast : ∀ (B : Nat → Nat), EV1 E o (depFr ms B (List.range ms.length) fr) (ownAll ms B (List.range ms.length) ++ U) (EVS E K k)) : EVS E K (.code (.region id ops true) :: k) fr U := by
  intro a w hf hmem
  refine wp_region_any hmx ?_
  have := mk_core (U0 := U) hok hstep (K := K) (k := k) (fun o' ho' B fr' U' done hsub hlk hcon hnd hlt hent a' w' hf' hm' => by
    rw [ho] at ho'
    cases ho'
    have hp : done.Perm (List.range ms.length) := by
      rw [List.perm_ext_iff_of_nodup hnd List.nodup_range]
      intro j
      constructor
      · intro hj; exact List.mem_range.2 (hlt j hj)
      · intro hj; have := hcon j (List.mem_range.1 hj); simpa using this
    exact hlast B a' w' (hf'.sub (depFr_sub hsub _ (fun j _ m hm => hlk j m hm))) (hm'.ent (hent.trans (ownAll_perm hp U))))
    ops.size [] (fun _ => 0) fr U a { w with drawn := w.drawn + 1 } (by
      have := List.length_filter_le (fun j => !([] : List Nat).contains j) (List.range ops.size)
      rw [List.length_range] at this
      exact this) List.nodup_nil (fun j hj => by cases hj) (fun j hj => by cases hj) (Sub.refl _) (fun j hj => by cases hj) (Ent.refl _) hf hmem.drew
  rw [lset_nil] at this
  exact this

/-! ### elements of several cells -/
/-- make([]T, n), an element of any size. -/
theorem o_makeS {N : Frm → List Asn → Prop} {d : Nat} {t e : TypeId} {x y : Operand} {ty : TypeId} {pos : String} {af : Array Edge} {g : Option (Nat × Bool)} {s1 b1 : Nat} {z1 : List Value} {i : TI} {cs : List Value}
    {k1 k2 : IntKind} {q q' : Int}
    (ht : tl E.T t = some ⟨.slice e, s1, b1, z1⟩) (he : tl E.T e = some i) (hx : val fr x = some (.int k1 q)) (hy : val fr y = some (.int k2 q'))
    (n : Nat) (hq : q = (n : Int)) (hq' : q' = (n : Int)) (hb : i.bytes * n ≤ 281474976710656) (h63 : n ≤ 9223372036854775807) (hd : Nat.ble (d + 1) E.n = true)
    (hcs : ((List.range (n * i.size)).map fun j => i.zero[j % i.zero.length]!) = cs)
    (h : ∀ b, N ((d, .slice (some ⟨b, 0, none⟩) n n) :: fr) (osl e i.size (.slice (some ⟨b, 0, none⟩) n n) n cs :: U)) : EV1 E ⟨some d, .makeSlice t x y, ty, pos, af, g⟩ fr U N := by
  intro a w hf hm
  obtain ⟨dd, sz, bytes, z⟩ := i
  obtain ⟨inf, zv, hinf, hz, hs, hby, hzc⟩ := ti_info he
  subst hq; subst hq'
  have hbi : (inf.bytes : Int) * (n : Int) ≤ 281474976710656 := by
    rw [hby]
    have : ((bytes * n : Nat) : Int) ≤ 281474976710656 := by simp only at hb; omega
    rwa [Int.natCast_mul] at this
  have hr := run_make (P := E.P) w t e inf zv (u_slice ht) hinf hz k1 k2 n n (by omega) (Int.le_refl _) hbi (by omega)
  have hcl : (madeCells zv.cells ((n : Int).toNat * inf.size)) = cs.toArray := by
    rw [hs, Int.toNat_natCast, hzc, ← hcs]
    apply Array.toList_inj.1
    simp [madeCells]
  rw [hcl, Int.toNat_natCast] at hr
  have hlen : cs.length = n * sz := by rw [← hcs]; simp
  unfold Oper.wp execOp
  simp only [hf.eval hx, hf.eval hy, Sem.run_bind, hr, Result.andThen_ok, Sem.run_pure]
  refine ⟨_, _, h w.heap.size, hf.put (Nat.le_of_ble_eq_true hd) _, hm.new (step_alloc w _) (osl_alloc (by rw [maxLen_eq]; exact h63) hlen) ?_⟩
  rintro b rfl; simp

/-- A slice of one's own, read: elements of several cells, whose own parts are read elsewhere. -/
theorem osl_elsG {α : Type} {kd : Kd α} {e : TypeId} {A : Option Addr} {n c : Nat} {xs : List α} {ess : List (List Value)} {w : World} {S1 S : BSet} (h : (osl e kd.sz (.slice A n c) n ess.flatten).P w S1) (hS : ∀ b, S1 b → S b)
    (hl : ess.length = xs.length) (hn : n = xs.length) (hR : ∀ i (h1 : i < ess.length) (h2 : i < xs.length), kd.R w S ess[i] xs[i]) : Els kd w S A xs ∧ xs.length ≤ c := by
  obtain ⟨⟨hlen, h2⟩, hSS⟩ := h
  subst hn
  have hsz : ∀ es ∈ ess, es.length = kd.sz := by
    intro es hes
    obtain ⟨i, hi, rfl⟩ := List.getElem_of_mem hes
    exact kd.len (hR i hi (by omega))
  have hflat : ∀ (ess : List (List Value)), (∀ es ∈ ess, es.length = kd.sz) → ∀ i (hi : i < ess.length) j u, ess[i][j]? = some u → ess.flatten[i * kd.sz + j]? = some u := by
    intro ess
    induction ess with
    | nil => intro _ i hi; simp at hi
    | cons e0 ess ih =>
      intro hall i hi j u hu
      have h0 := hall e0 (List.mem_cons_self ..)
      rw [List.flatten_cons]
      cases i with
      | zero =>
        have hj : j < e0.length := by
          rcases Nat.lt_or_ge j e0.length with h | h
          · exact h
          · rw [List.getElem_cons_zero, List.getElem?_eq_none h] at hu; cases hu
        rw [Nat.zero_mul, Nat.zero_add, List.getElem?_append_left hj]
        exact hu
      | succ i =>
        have : (i + 1) * kd.sz + j = e0.length + (i * kd.sz + j) := by rw [h0, Nat.succ_mul]; omega
        rw [this, List.getElem?_append_right (by omega), Nat.add_sub_cancel_left]
        exact ih (fun es hes => hall es (List.mem_cons_of_mem _ hes)) i (by simpa using hi) j u (by simpa using hu)
  rcases h2 with ⟨h3, h4⟩ | ⟨g, cap, cur, hv, _, hg, hnc, _, _, htake⟩
  · refine ⟨fun i hi => by omega, by omega⟩
  · simp only [Value.slice.injEq] at hv
    obtain ⟨rfl, _, rfl⟩ := hv
    refine ⟨fun i hi => ⟨g, 0, ess[i]'(by omega), rfl, hS g (hSS g rfl), hR i (by omega) hi, ?_⟩, hnc⟩
    intro j u hu
    rw [cell_of_row w g _ cur e _ hg, Nat.zero_add]
    have h5 := hflat ess hsz i (by omega) j u hu
    rw [← htake, List.getElem?_take] at h5
    split at h5
    · simpa using h5
    · cases h5

end Go.Proofs.Ytjeimmekhfhepaa.E

namespace Go.Proofs.Ytjeimmekhfhepaa.E
set_option linter.all false
variable {E : Env} {fr : Frm} {U : List Asn}

def strOf (ns : List Int) : ByteArray := ns.foldl (fun r n => r.push (UInt8.ofNat n.toNat)) ByteArray.empty

theorem n_str {src dst e : TypeId} {x : Operand} {s1 b1 s2 b2 s3 b3 : Nat} {z1 z2 z3 : List Value} {b n c : Nat} {ns : List Int} {U' : List Asn}
    (hx : val fr x = some (.slice (some ⟨b, 0, none⟩) n c)) (hs : tl E.T src = some ⟨.slice e, s1, b1, z1⟩) (he : tl E.T e = some ⟨.int .u8, s2, b2, z2⟩) (hd : tl E.T dst = some ⟨.str, s3, b3, z3⟩)
    (hU : Tak (osl e 1 (.slice (some ⟨b, 0, none⟩) n c) n (ns.map (Value.int .u8))) U U') : NEV E (.convert src dst x) fr U (.string (strOf ns)) := by
  intro a w dst' ty pos af g hf hm
  obtain ⟨S1, hP, _⟩ := hm.tak hU
  have hlen : ns.length = n := by have := hP.1.1; simpa using this
  have hc := osl_cells hP
  have hl : (loadCells ⟨b, 0, none⟩ n).run E.P w = .ok (ns.map (Value.int .u8)).toArray w := by
    have := run_loadCells_list (P := E.P) w ⟨b, 0, none⟩ (ns.map (Value.int .u8)) (fun j v hj => by
      have hplain : (⟨b, 0, none⟩ : Addr).add j = ⟨b, j, none⟩ := by unfold Addr.add; split <;> simp_all
      rw [hplain]
      exact hc j v hj)
    simpa [hlen] using this
  have h1 := run_convert_bytes_string (P := E.P) w src dst e (some ⟨b, 0, none⟩) n c (u_slice hs) (u_int he) (u_str hd)
  rw [run_bytesToString w _ n c ns hl] at h1
  simp [execOp, hf.eval hx, h1, strOf]

/-- Two strings, one behind the other. -/
theorem n_cat {x y : Operand} {t t2 : TypeId} {a b : ByteArray} (hx : val fr x = some (.string a)) (hy : val fr y = some (.string b)) (hl : a.size + b.size ≤ 9223372036854775807) :
    NEV E (.binOp .add t x y t2) fr U (.string (a ++ b)) := by
  intro ac w dst' ty pos af g hf hm
  have h1 : ¬ (((a.size + b.size : Nat) : Int) > IntKind.i64.max) := by
    have : IntKind.i64.max = 9223372036854775807 := by decide
    rw [this]; omega
  have h2 : (Op.stringOp .add a b).run E.P w = .ok (.string (a ++ b)) w := by
    unfold Op.stringOp
    simp only [if_neg h1]
    rfl
  simp [execOp, hf.eval hx, hf.eval hy, eqGuard, binOp, h2]

/-- An operation that acts behind a guard that lets it. -/
theorem a_1y {K : Frm → List Asn → Prop} {k : List It} {ops : Array Oper} {V : List Asn} {fuel : Nat} {done : List Nat} (i : Nat) {o : Oper} {j : Nat} {b : Bool} (hr : Region.ready .any ops (lset ops done) = [i]) (ho : ops[i]? = some o) (hg : o.guard = some (j, b))
    (hgv : gval ops fr j = some b) (h : EV1 E o fr U (fun fr' U' => Ent U' V ∧ EVA E K k ops V fuel (i :: done) fr' U')) : EVA E K k ops V (fuel + 1) done fr U := by
  intro a w hf hm
  refine wpAnyH_all hr (by simp) ?_
  intro q hq
  simp only [List.mem_singleton] at hq
  subst hq
  unfold wpOp
  have hw : Region.wanted o (yielded ops a.tmps) = true := by simp [Region.wanted, hg, gval_yielded hf hgv]
  simp only [ho, hw, if_true]
  refine .inl (Oper.wp_mono2 ?_ (h a w hf hm))
  rintro a' w' ⟨fr', U', ⟨he', hk⟩, hf', hm'⟩
  refine ⟨hm'.ent he', ?_⟩
  rw [lset_cons]
  exact hk a' w' hf' hm'

end Go.Proofs.Ytjeimmekhfhepaa.E

namespace Go.Proofs.Ytjeimmekhfhepaa
open Go.Proofs.Ytjeimmekhfhepaa.E
def Try.tab : Tab := [
  (3, ⟨(.int .i64), 1, 8, [(.int .i64 0)]⟩),
  (27, ⟨(.struct [(0, 1), (1, 1), (2, 1), (3, 1), (4, 1)]), 5, 120, [(.slice none 0 0), (.slice none 0 0), (.slice none 0 0), (.slice none 0 0), (.slice none 0 0)]⟩),
  (28, ⟨(.slice 3), 1, 24, [(.slice none 0 0)]⟩),
  (25, ⟨(.slice 44), 1, 24, [(.slice none 0 0)]⟩),
  (44, ⟨(.struct [(0, 1), (1, 1), (2, 2)]), 4, 48, [(.int .i64 0), (.slice none 0 0), (.int .i64 0), (.int .i64 0)]⟩),
  (22, ⟨(.slice 9), 1, 24, [(.slice none 0 0)]⟩),
  (68, ⟨(.struct [(0, 1), (1, 1), (2, 1)]), 3, 24, [(.int .i64 0), (.int .i64 0), (.int .i64 0)]⟩),
  (30, ⟨(.int .i64), 1, 8, [(.int .i64 0)]⟩),
  (66, ⟨(.struct [(0, 5), (5, 1), (6, 61), (67, 61)]), 128, 2096, List.replicate 67 (.slice none 0 0) ++ List.replicate 61 (.map none)⟩),
  (62, ⟨(.slice 68), 1, 24, [(.slice none 0 0)]⟩),
  (23, ⟨(.slice 42), 1, 24, [(.slice none 0 0)]⟩),
  (73, ⟨(.struct [(0, 5), (5, 1), (6, 1)]), 7, 152, [(.slice none 0 0), (.slice none 0 0), (.slice none 0 0), (.slice none 0 0), (.slice none 0 0), (.slice none 0 0), (.map none)]⟩),
  (42, ⟨(.struct [(0, 1), (1, 1)]), 2, 16, [(.int .i64 0), (.int .i64 0)]⟩),
  (4, ⟨.bool, 1, 1, [(.bool false)]⟩),
  (71, ⟨(.map 75 3), 1, 8, [(.map none)]⟩),
  (52, ⟨(.slice 4), 1, 24, [(.slice none 0 0)]⟩),
  (61, ⟨(.map 68 4), 1, 8, [(.map none)]⟩),
  (55, ⟨(.struct [(0, 5), (5, 1), (6, 1), (7, 1)]), 8, 192, [(.slice none 0 0), (.slice none 0 0), (.slice none 0 0), (.slice none 0 0), (.slice none 0 0), (.slice none 0 0), (.slice none 0 0), (.slice none 0 0)]⟩),
  (75, ⟨(.struct [(0, 1), (1, 1), (2, 1)]), 3, 24, [(.int .i64 0), (.int .i64 0), (.int .i64 0)]⟩),
  (63, ⟨(.arr 61 62), 61, 1464, List.replicate 61 (.slice none 0 0)⟩),
  (64, ⟨(.arr 61 61), 61, 488, List.replicate 61 (.map none)⟩),
  (79, ⟨(.ptr 55), 1, 8, [(.pointer none)]⟩),
  (39, ⟨(.arr 2 3), 2, 16, [(.int .i64 0), (.int .i64 0)]⟩),
  (24, ⟨(.slice 110), 1, 24, [(.slice none 0 0)]⟩),
  (110, ⟨(.struct [(0, 1), (1, 1)]), 2, 24, [(.int .i64 0), (.string ⟨#[]⟩)]⟩),
  (9, ⟨.str, 1, 16, [(.string ⟨#[]⟩)]⟩),
  (53, ⟨(.slice 52), 1, 24, [(.slice none 0 0)]⟩)]
theorem Try.tabOk : TabOk Try.prog Try.tab := tabOk_of (by kernel_rfl)
theorem Try.mixed : Try.prog.follows .mixedOrders = true := by kernel_rfl
end Go.Proofs.Ytjeimmekhfhepaa

namespace Go.Proofs.Ytjeimmekhfhepaa
set_option linter.all false
open Go.Proofs.Ytjeimmekhfhepaa.E

structure Lev where
  N : Int
  Kind : Int
deriving DecidableEq
structure Pt where
  Term : Int
  Pattern : ByteArray
structure Prd where
  Left : Int
  Right : List Int
  L : Lev
structure Gram where
  Terms : List ByteArray
  Levels : List Lev
  Pats : List Pt
  Nons : List ByteArray
  Prods : List Prd

def kLev : Kd Lev := kiso (kpair kint kint) (fun x => (x.N, x.Kind))
def kPt : Kd Pt := kiso (kpair kint kstr) (fun x => (x.Term, x.Pattern))
def kPrd : Kd Prd := kiso (kpair kint (kpair (kslice 8 kint) kLev)) (fun x => (x.Left, x.Right, x.L))
def kGram : Kd Gram := kiso (kpair (kslice 16 kstr) (kpair (kslice 16 kLev) (kpair (kslice 24 kPt) (kpair (kslice 16 kstr) (kslice 48 kPrd))))) (fun x => (x.Terms, x.Levels, x.Pats, x.Nons, x.Prods))

theorem inc {i : Nat} (h : i ≤ 9223372036854775806) : Value.int .i64 (IntKind.i64.wrap ((i : Int) + 1)) = Value.int .i64 ((i + 1 : Nat) : Int) := by
  rw [wrap_i64 (by omega) (by omega)]; rfl

/-- A slice that is read. -/
def Sl {α : Type} (bytes : Nat) (k : Kd α) (w : World) (S : BSet) (A : Option Addr) (c : Nat) (xs : List α) : Prop :=
  xs.length ≤ c ∧ xs.length * bytes ≤ 140737488355328 ∧ Els k w S A xs

theorem sl_mk {α : Type} {bytes : Nat} {k : Kd α} {w : World} {S : BSet} {A : Option Addr} {c : Nat} {xs : List α} (h : Sl bytes k w S A c xs) : (kslice bytes k).R w S [.slice A xs.length c] xs := ⟨A, c, rfl, h⟩

theorem kLev_open {w : World} {S : BSet} {cs : List Value} {x : Lev} (h : kLev.R w S cs x) : cs = [.int .i64 x.N, .int .i64 x.Kind] ∧ I64 x.N ∧ I64 x.Kind := by
  obtain ⟨c1, c2, rfl, ⟨rfl, h1⟩, ⟨rfl, h2⟩⟩ := h
  exact ⟨rfl, h1, h2⟩

theorem kPrd_open {w : World} {S : BSet} {cs : List Value} {x : Prd} (h : kPrd.R w S cs x) :
    ∃ A c, cs = [.int .i64 x.Left, .slice A x.Right.length c, .int .i64 x.L.N, .int .i64 x.L.Kind] ∧ I64 x.Left ∧ I64 x.L.N ∧ I64 x.L.Kind ∧ Sl 8 kint w S A c x.Right := by
  obtain ⟨c1, c2, rfl, ⟨rfl, h1⟩, c3, c4, rfl, ⟨A, c, rfl, h2⟩, h3⟩ := h
  obtain ⟨rfl, h4, h5⟩ := kLev_open h3
  exact ⟨A, c, rfl, h1, h4, h5, h2⟩

theorem kPrd_mk {w : World} {S : BSet} {x : Prd} {A : Option Addr} {c : Nat} (h1 : I64 x.Left) (h2 : I64 x.L.N) (h3 : I64 x.L.Kind) (h4 : Sl 8 kint w S A c x.Right) :
    kPrd.R w S [.int .i64 x.Left, .slice A x.Right.length c, .int .i64 x.L.N, .int .i64 x.L.Kind] x :=
  ⟨[.int .i64 x.Left], _, rfl, ⟨rfl, h1⟩, [.slice A x.Right.length c], _, rfl, ⟨A, c, rfl, h4⟩, [.int .i64 x.L.N], [.int .i64 x.L.Kind], rfl, ⟨rfl, h2⟩, ⟨rfl, h3⟩⟩

/-- The five slices of a grammar. -/
structure GSl (w : World) (S : BSet) (g : Gram) (A0 A1 A2 A3 A4 : Option Addr) (c0 c1 c2 c3 c4 : Nat) : Prop where
  terms : Sl 16 kstr w S A0 c0 g.Terms
  levels : Sl 16 kLev w S A1 c1 g.Levels
  pats : Sl 24 kPt w S A2 c2 g.Pats
  nons : Sl 16 kstr w S A3 c3 g.Nons
  prods : Sl 48 kPrd w S A4 c4 g.Prods

theorem kGram_open {w : World} {S : BSet} {cs : List Value} {g : Gram} (h : kGram.R w S cs g) :
    ∃ A0 A1 A2 A3 A4 c0 c1 c2 c3 c4, cs = [.slice A0 g.Terms.length c0, .slice A1 g.Levels.length c1, .slice A2 g.Pats.length c2, .slice A3 g.Nons.length c3, .slice A4 g.Prods.length c4] ∧
      GSl w S g A0 A1 A2 A3 A4 c0 c1 c2 c3 c4 := by
  obtain ⟨_, _, rfl, ⟨A0, c0, rfl, h0⟩, _, _, rfl, ⟨A1, c1, rfl, h1⟩, _, _, rfl, ⟨A2, c2, rfl, h2⟩, _, _, rfl, ⟨A3, c3, rfl, h3⟩, A4, c4, rfl, h4⟩ := h
  exact ⟨A0, A1, A2, A3, A4, c0, c1, c2, c3, c4, rfl, h0, h1, h2, h3, h4⟩

theorem kGram_mk {w : World} {S : BSet} {g : Gram} {A0 A1 A2 A3 A4 : Option Addr} {c0 c1 c2 c3 c4 : Nat} (h : GSl w S g A0 A1 A2 A3 A4 c0 c1 c2 c3 c4) :
    kGram.R w S [.slice A0 g.Terms.length c0, .slice A1 g.Levels.length c1, .slice A2 g.Pats.length c2, .slice A3 g.Nons.length c3, .slice A4 g.Prods.length c4] g :=
  ⟨[_], _, rfl, ⟨A0, c0, rfl, h.terms⟩, [_], _, rfl, ⟨A1, c1, rfl, h.levels⟩, [_], _, rfl, ⟨A2, c2, rfl, h.pats⟩, [_], _, rfl, ⟨A3, c3, rfl, h.nons⟩, A4, c4, rfl, h.prods⟩

end Go.Proofs.Ytjeimmekhfhepaa

namespace Go.Proofs.Ytjeimmekhfhepaa
set_option linter.all false

def mayBind (n k : Int) : Bool := decide (k ≥ 0) && (decide (k ≤ 3) && (decide (n ≥ 0) && (decide (n ≤ 128) && ((n == 0) == (k == 0)))))
def limitsB (g : Gram) : Bool := decide (g.Terms.length > 48) || (decide (g.Nons.length > 48) || (decide (g.Prods.length > 128) || g.Prods.any fun p => decide (p.Right.length > 12)))

/-! ### rounds -/
def it {α : Type} (f : α → α) : Nat → α → α
  | 0, x => x
  | n + 1, x => it f n (f x)

theorem it_succ {α : Type} (f : α → α) : ∀ (n : Nat) (x : α), it f (n + 1) x = f (it f n x)
  | 0, _ => rfl
  | n + 1, x => it_succ f n (f x)

theorem it_add {α : Type} (f : α → α) (m : Nat) : ∀ (n : Nat) (x : α), it f (m + n) x = it f m (it f n x)
  | 0, _ => rfl
  | n + 1, x => it_add f m n (f x)

theorem it_of_fix {α : Type} {f : α → α} {x : α} (h : f x = x) : ∀ n, it f n x = x
  | 0 => rfl
  | n + 1 => by rw [it, h]; exact it_of_fix h n

section
variable {α : Type} {f : α → α} {I : α → Prop} {μ : α → Nat} {N : Nat} (hI : ∀ x, I x → I (f x)) (hμ : ∀ x, I x → f x ≠ x → μ x < μ (f x)) (hN : ∀ x, I x → μ x ≤ N)
include hI
theorem it_inv {x : α} (hx : I x) : ∀ n, I (it f n x)
  | 0 => hx
  | n + 1 => by rw [it_succ]; exact hI _ (it_inv hx n)
include hμ
theorem it_grow {x : α} (hx : I x) (n : Nat) : f (it f n x) = it f n x ∨ n ≤ μ (it f n x) := by
  induction n with
  | zero => exact .inr (Nat.zero_le _)
  | succ n ih =>
    rw [it_succ]
    rcases ih with h | h
    · exact .inl (by rw [h, h])
    · by_cases h2 : f (it f n x) = it f n x
      · exact .inl (by rw [h2, h2])
      · have := hμ _ (it_inv hI hx n) h2
        exact .inr (by omega)
include hN
theorem it_stable {x : α} (hx : I x) {n : Nat} (hn : N < n) : f (it f n x) = it f n x := by
  rcases it_grow hI hμ hx n with h | h
  · exact h
  · have := hN _ (it_inv hI hx n); omega
theorem it_unique {x : α} (hx : I x) {n m : Nat} (hn : N < n) (hm : f (it f m x) = it f m x) : it f m x = it f n x := by
  have hs := it_stable hI hμ hN hx hn
  rcases Nat.le_total m n with h | h
  · obtain ⟨d, rfl⟩ := Nat.exists_eq_add_of_le h
    rw [Nat.add_comm, it_add, it_of_fix hm]
  · obtain ⟨d, rfl⟩ := Nat.exists_eq_add_of_le h
    rw [Nat.add_comm, it_add, it_of_fix hs]
end

/-! ### names of use -/
def okSym (t : Nat) (use : List Bool) (s : Int) : Bool := decide (s < t) || use.getD (s - t).toNat false
def uStep (t : Nat) (use : List Bool) (p : Prd) : List Bool := if p.Right.all (okSym t use) then use.set p.Left.toNat true else use
def uRound (t : Nat) (ps : List Prd) (use : List Bool) : List Bool := ps.foldl (uStep t) use
def uFix (g : Gram) : List Bool := it (uRound g.Terms.length g.Prods) (g.Nons.length + 1) (List.replicate g.Nons.length false)

def cnt (l : List Bool) : Nat := l.count true

theorem cnt_le (l : List Bool) : cnt l ≤ l.length := List.count_le_length

theorem cnt_set {l : List Bool} {i : Nat} (h : l[i]? = some false) : cnt (l.set i true) = cnt l + 1 := by
  induction l generalizing i with
  | nil => simp at h
  | cons b l ih =>
    cases i with
    | zero => simp at h; subst h; simp [cnt]
    | succ i => simp at h; have := ih h; simp [cnt, List.count_cons] at this ⊢; omega

theorem set_true {l : List Bool} {i : Nat} (h : l[i]? ≠ some false) : l.set i true = l := by
  apply List.ext_getElem?
  intro j
  rw [List.getElem?_set]
  split
  · rename_i hij; subst hij
    split
    · rename_i hlt; rw [List.getElem?_eq_getElem hlt] at h ⊢; cases hb : l[i] <;> simp_all
    · rename_i hlt; simp at hlt; simp [hlt]
  · rfl

theorem uStep_len (t : Nat) (use : List Bool) (p : Prd) : (uStep t use p).length = use.length := by
  unfold uStep; split <;> simp
theorem uRound_len (t : Nat) (ps : List Prd) : ∀ use : List Bool, (uRound t ps use).length = use.length := by
  induction ps with
  | nil => intro _; rfl
  | cons p ps ih => intro use; show (uRound t ps (uStep t use p)).length = _; rw [ih, uStep_len]

theorem uStep_cnt (t : Nat) (use : List Bool) (p : Prd) : uStep t use p = use ∨ cnt (uStep t use p) = cnt use + 1 := by
  unfold uStep
  split
  · by_cases h : use[p.Left.toNat]? = some false
    · exact .inr (cnt_set h)
    · exact .inl (set_true h)
  · exact .inl rfl

theorem uRound_cnt (t : Nat) (ps : List Prd) : ∀ use : List Bool, uRound t ps use = use ∨ cnt use < cnt (uRound t ps use) := by
  induction ps with
  | nil => intro _; exact .inl rfl
  | cons p ps ih =>
    intro use
    show uRound t ps (uStep t use p) = use ∨ _ < cnt (uRound t ps (uStep t use p))
    rcases uStep_cnt t use p with h | h
    · rw [h]; exact ih use
    · rcases ih (uStep t use p) with h2 | h2
      · rw [h2]; exact .inr (by omega)
      · exact .inr (by omega)

theorem uFix_unique {g : Gram} {m : Nat} (hm : uRound g.Terms.length g.Prods (it (uRound g.Terms.length g.Prods) m (List.replicate g.Nons.length false)) = it (uRound g.Terms.length g.Prods) m (List.replicate g.Nons.length false)) :
    it (uRound g.Terms.length g.Prods) m (List.replicate g.Nons.length false) = uFix g :=
  it_unique (I := fun l => l.length = g.Nons.length) (μ := cnt) (N := g.Nons.length) (fun x hx => by rw [uRound_len]; exact hx)
    (fun x _ hne => by rcases uRound_cnt g.Terms.length g.Prods x with h | h; exact absurd h hne; exact h) (fun x hx => hx ▸ cnt_le x) (by simp) (Nat.lt_succ_self _) hm

theorem uFix_fix (g : Gram) : uRound g.Terms.length g.Prods (uFix g) = uFix g :=
  it_stable (I := fun l => l.length = g.Nons.length) (μ := cnt) (N := g.Nons.length) (fun x hx => by rw [uRound_len]; exact hx)
    (fun x _ hne => by rcases uRound_cnt g.Terms.length g.Prods x with h | h; exact absurd h hne; exact h) (fun x hx => hx ▸ cnt_le x) (by simp) (Nat.lt_succ_self _)

/-! ### which grammars may be -/
def symOk (t n : Nat) (s : Int) : Bool := decide (1 ≤ s) && (decide (s < (t : Int) + n) && decide (s ≠ t))
def prodOk (t n i : Nat) (p : Prd) : Bool :=
  decide (0 ≤ p.Left) && (decide (p.Left < n) && ((decide (p.Left = 0) == decide (i = 0)) && (mayBind p.L.N p.L.Kind && p.Right.all (symOk t n))))
def prodsOk (t n : Nat) : Nat → List Prd → Bool
  | _, [] => true
  | i, p :: ps => prodOk t n i p && prodsOk t n (i + 1) ps
def startOk (t : Nat) : List Prd → Bool
  | p :: _ => match p.Right with
    | [s] => decide ((t : Int) ≤ s)
    | _ => false
  | [] => false

def wf0 (g : Gram) : Bool :=
  decide (1 ≤ g.Terms.length) && (decide (2 ≤ g.Nons.length) && (decide (g.Levels.length = g.Terms.length) && (decide (0 < g.Prods.length) && (g.Levels.all (fun l => mayBind l.N l.Kind) &&
    (prodsOk g.Terms.length g.Nons.length 0 g.Prods && startOk g.Terms.length g.Prods)))))
def wf (g : Gram) : Bool := wf0 g && (uFix g).all id
def checkE (g : Gram) : Int := if limitsB g then 5 else if wf g then 0 else 2

theorem prodsOk_iff (t n : Nat) : ∀ (ps : List Prd) (k : Nat), prodsOk t n k ps = true ↔ ∀ i (h : i < ps.length), prodOk t n (k + i) ps[i] = true
  | [], k => by simp [prodsOk]
  | p :: ps, k => by
    simp only [prodsOk, Bool.and_eq_true, prodsOk_iff t n ps (k + 1)]
    constructor
    · rintro ⟨h1, h2⟩ i hi
      cases i with
      | zero => simpa using h1
      | succ i => have := h2 i (by simpa using hi); rw [show k + 1 + i = k + (i + 1) from by omega] at this; simpa using this
    · intro h
      refine ⟨by have := h 0 (by simp); rw [Nat.add_zero] at this; exact this, fun i hi => ?_⟩
      have := h (i + 1) (by simpa using hi)
      rw [show k + 1 + i = k + (i + 1) from by omega]; simpa using this

structure Wf0 (g : Gram) : Prop where
  t : 1 ≤ g.Terms.length
  n : 2 ≤ g.Nons.length
  lev : g.Levels.length = g.Terms.length
  prods : 0 < g.Prods.length
  bind : ∀ l ∈ g.Levels, mayBind l.N l.Kind = true
  prod : ∀ i (h : i < g.Prods.length), prodOk g.Terms.length g.Nons.length i g.Prods[i] = true
  start : startOk g.Terms.length g.Prods = true

theorem wf0_iff (g : Gram) : wf0 g = true ↔ Wf0 g := by
  simp only [wf0, Bool.and_eq_true, decide_eq_true_eq, List.all_eq_true, prodsOk_iff, Nat.zero_add]
  exact ⟨fun ⟨a, b, c, d, e, f, h⟩ => ⟨a, b, c, d, e, f, h⟩, fun ⟨a, b, c, d, e, f, h⟩ => ⟨a, b, c, d, e, f, h⟩⟩

theorem checkE_5 {g : Gram} (h : limitsB g = true) : checkE g = 5 := by unfold checkE; rw [if_pos h]
theorem checkE_2 {g : Gram} (h : limitsB g = false) (h2 : ¬ Wf0 g) : checkE g = 2 := by
  unfold checkE wf
  have : wf0 g = false := by
    cases hw : wf0 g with
    | true => exact absurd ((wf0_iff g).1 hw) h2
    | false => rfl
  simp [h, this]
theorem checkE_u {g : Gram} (h : limitsB g = false) (h2 : Wf0 g) : checkE g = if (uFix g).all id then 0 else 2 := by
  unfold checkE wf
  rw [(wf0_iff g).2 h2]; simp [h]

structure ProdOk (t n i : Nat) (p : Prd) : Prop where
  lo : 0 ≤ p.Left
  hi : p.Left < n
  zero : p.Left = 0 ↔ i = 0
  bind : mayBind p.L.N p.L.Kind = true
  right : ∀ s ∈ p.Right, 1 ≤ s ∧ s < (t : Int) + n ∧ s ≠ t

theorem prodOk_iff (t n i : Nat) (p : Prd) : prodOk t n i p = true ↔ ProdOk t n i p := by
  simp only [prodOk, symOk, Bool.and_eq_true, decide_eq_true_eq, List.all_eq_true, beq_iff_eq, decide_eq_decide]
  exact ⟨fun ⟨a, b, c, d, e⟩ => ⟨a, b, c, d, e⟩, fun ⟨a, b, c, d, e⟩ => ⟨a, b, c, d, e⟩⟩

theorem startOk_iff (t : Nat) (ps : List Prd) : startOk t ps = true ↔ ∃ (h : 0 < ps.length) (h2 : ps[0].Right.length = 1), (t : Int) ≤ ps[0].Right[0] := by
  cases ps with
  | nil => simp [startOk]
  | cons p ps =>
    simp only [startOk]
    split
    · rename_i s hs; simp [hs]
    · rename_i hs
      constructor
      · intro h; cases h
      · rintro ⟨_, h2, _⟩
        simp at h2
        obtain ⟨s, hs'⟩ := List.length_eq_one_iff.1 h2
        exact absurd hs' (hs s)

end Go.Proofs.Ytjeimmekhfhepaa

namespace Go.Proofs.Ytjeimmekhfhepaa
set_option linter.all false
open Go.Proofs.Ytjeimmekhfhepaa.E
attribute [local irreducible] EVX EVO EVL EV1 NEV
set_option maxRecDepth 10000

theorem mayBind_w (n k : Int) : Trip Try.prog 20 [.agg #[.int .i64 n, .int .i64 k]] Rd.tt [] (fun v V => v = .bool (mayBind n k) ∧ V = []) := by
  refine trip Try.tabOk Try.func20 rfl rfl rfl rfl ?_
  intro w SM _
  repeat' (first | refine e_nil ?_ | ((first | refine e_op ?_ | refine e_yes rfl ?_); (first | refine o_n (peval_sound rfl) rfl ?_ | refine o_n (nl rfl rfl tc rfl) rfl ?_ | refine o_box rfl rfl (fun _ => ?_))) | refine e_noU rfl rfl rfl ?_ | refine s_seq ?_ | refine s_region ?_ | ((fail_if_success (refine e_dec true (by exact rfl) ?_)); (fail_if_success (refine e_dec false (by exact rfl) ?_)); refine e_part rfl rfl (fun h => ?_) (fun h => ?_)))
  all_goals
    refine s_ret ?_
    refine ⟨_, _, res1 rfl rfl, ⟨?_, rfl⟩, Ent.nil _⟩
    simp_all [mayBind]
    try omega

theorem limits1_w (l : Int) (A : Option Addr) (m c : Nat) (n k : Int) : Trip Try.prog 28 [.agg #[.int .i64 l, .slice A m c, .int .i64 n, .int .i64 k]] Rd.tt [] (fun v V => v = .bool (decide (m > 12)) ∧ V = []) := by
  refine trip Try.tabOk Try.func28 rfl rfl rfl rfl ?_
  intro w SM _
  repeat' (first | refine e_nil ?_ | ((refine e_op ?_); (first | refine o_n (peval_sound rfl) rfl ?_ | refine o_n (nl rfl rfl tc rfl) rfl ?_ | refine o_box rfl rfl (fun _ => ?_))) | refine s_seq ?_ | refine s_region ?_)
  refine s_ret ?_
  refine ⟨_, _, res1 rfl rfl, ⟨?_, rfl⟩, Ent.nil _⟩
  congr 2
  simp; omega

theorem check1_w (n k : Int) : Trip Try.prog 19 [.agg #[.int .i64 n, .int .i64 k]] Rd.tt [] (fun v V => v = .bool (!mayBind n k) ∧ V = []) := by
  refine trip Try.tabOk Try.func19 rfl rfl rfl rfl ?_
  intro w SM _
  repeat' (first | refine e_nil ?_ | ((refine e_op ?_); (first | refine o_n (peval_sound rfl) rfl ?_ | refine o_n (nl rfl rfl tc rfl) rfl ?_ | refine o_box rfl rfl (fun _ => ?_))) | refine s_seq ?_ | refine s_region ?_)
  refine e_op (o_call (mayBind_w n k) rfl .nil Can.tt rfl ?_)
  rintro v V ⟨rfl, rfl⟩
  repeat' (first | refine e_nil ?_ | ((refine e_op ?_); (refine o_n (peval_sound rfl) rfl ?_)))
  refine s_ret ?_
  exact ⟨_, _, res1 rfl rfl, ⟨rfl, rfl⟩, Ent.nil _⟩

theorem learn_w (A : Option Addr) (c : Nat) (n : Nat) (xs : List Bool) (hn : n = xs.length) (i : Nat) (hi : i < xs.length) :
    Trip Try.prog 32 [.slice A n c, .int .i64 i] Rd.tt [osl 4 1 (.slice A n c) n (xs.map Value.bool)]
      (fun v V => v = .bool (!xs[i]) ∧ V = [osl 4 1 (.slice A n c) n ((xs.set i true).map Value.bool)]) := by
  subst hn
  refine trip Try.tabOk Try.func32 rfl rfl rfl rfl ?_
  intro w SM _
  repeat' (first | refine e_nil ?_ | ((refine e_op ?_); (refine o_n (peval_sound rfl) rfl ?_)) | refine s_seq ?_ | refine s_region ?_)
  refine e_open .z (by omega) ?_
  rintro b rfl
  refine e_op (o_n (n_index rfl rfl rfl rfl i rfl hi) rfl ?_)
  refine e_op (o_n (n_load_osl (v := .bool xs[i]) rfl rfl .z (by simp [loadL, aggB, hi])) rfl ?_)
  repeat' (first | refine e_nil ?_ | ((refine e_op ?_); (refine o_n (peval_sound rfl) rfl ?_)) | refine s_seq ?_ | refine s_region ?_)
  refine e_op (o_n (n_index rfl rfl rfl rfl i rfl hi) rfl ?_)
  refine e_op (o_store_osl (vs := [.bool true]) rfl rfl rfl rfl rfl rfl (by simp; omega) .z ?_)
  repeat' (first | refine e_nil ?_ | ((refine e_op ?_); (refine o_n (peval_sound rfl) rfl ?_)) | refine s_seq ?_ | refine s_region ?_)
  refine s_ret ?_
  refine ⟨_, _, res1 rfl rfl, ⟨rfl, rfl⟩, ?_⟩
  simp only [setMany, Nat.zero_add, Nat.mul_one, List.map_set]
  exact Ent.refl _

end Go.Proofs.Ytjeimmekhfhepaa

namespace Go.Proofs.Ytjeimmekhfhepaa
set_option linter.all false
open Go.Proofs.Ytjeimmekhfhepaa.E
attribute [local irreducible] EVX EVO EVL EV1 NEV
set_option maxRecDepth 10000

def idxf {α : Type} (p : α → Bool) (xs : List α) : Int := match xs.findIdx? p with | some i => (i : Int) | none => -1

theorem idxf_at {α : Type} {p : α → Bool} {xs : List α} {i : Nat} (hi : i < xs.length) (ht : (xs.take i).any p = false) (h : p xs[i] = true) : idxf p xs = i := by
  unfold idxf
  have : xs.findIdx? p = some i := by
    rw [List.findIdx?_eq_some_iff_getElem]
    refine ⟨hi, h, fun j hj => ?_⟩
    rw [List.any_eq_false] at ht
    have := ht xs[j] (by rw [List.mem_take_iff_getElem]; exact ⟨j, by omega, rfl⟩)
    simpa using this
  rw [this]

theorem idxf_none {α : Type} {p : α → Bool} {xs : List α} (h : xs.any p = false) : idxf p xs = -1 := by
  unfold idxf
  have : xs.findIdx? p = none := by rw [List.findIdx?_eq_none_iff]; simpa using h
  rw [this]

theorem idxf_ge {α : Type} {p : α → Bool} {xs : List α} : decide (idxf p xs ≥ 0) = xs.any p := by
  unfold idxf
  cases h : xs.findIdx? p with
  | none =>
    rw [List.findIdx?_eq_none_iff] at h
    have : xs.any p = false := by simpa using h
    rw [this]; rfl
  | some i =>
    rw [List.findIdx?_eq_some_iff_getElem] at h
    obtain ⟨hi, hp, _⟩ := h
    have : xs.any p = true := List.any_eq_true.2 ⟨_, List.getElem_mem hi, hp⟩
    rw [this]; simp

theorem any_take_succ {α : Type} {p : α → Bool} {xs : List α} {i : Nat} (hi : i < xs.length) (ht : (xs.take i).any p = false) (h : p xs[i] = false) : (xs.take (i + 1)).any p = false := by
  rw [List.take_succ_eq_append_getElem hi, List.any_append, ht]; simp [h]

theorem idxPrd_w {α : Type} (k : Kd α) (hk : k.sz = 4) (g : Nat) (l m : List Value) (RF : Rd) (p : α → Bool) (A : Option Addr) (c : Nat) (xs : List α)
    (hF : ∀ es x, x ∈ xs → Trip Try.prog g (l ++ [.agg es.toArray] ++ m) (RF.and (k.rd es x)) [] (fun v V => v = .bool (p x) ∧ V = [])) :
    Trip Try.prog 38 [.slice A xs.length c, .func (.func g) l.toArray m.toArray] (RF.and ((kslice 48 k).rd [.slice A xs.length c] xs)) [] (fun v V => v = .int .i64 (idxf p xs) ∧ V = []) := by
  refine trip Try.tabOk Try.func38 rfl rfl rfl rfl ?_
  rintro w SM ⟨hRF, A', c', e1, h1⟩
  cases e1
  repeat' (first | refine e_nil ?_ | ((refine e_op ?_); (refine o_n (peval_sound rfl) rfl ?_)) | refine s_seq ?_ | refine s_region ?_ | refine s_block ?_)
  refine s_loopK (ι := {i : Nat // i ≤ xs.length ∧ (xs.take i).any p = false}) [0, 1, 7] rfl ⟨0, by omega, rfl⟩ (fun i => [(8, .int .i64 i.1)]) (fun _ => []) (fun i => xs.length - i.1) ?_ (Ent.nil _) ?_
  · repeat' (first | exact Sub.nil _ | refine Sub.cons rfl ?_)
  rintro ⟨i, hi, ht⟩
  repeat' (first | refine e_nil ?_ | ((refine e_op ?_); (refine o_n (peval_sound rfl) rfl ?_)) | refine s_seq ?_ | refine s_region ?_)
  refine s_cond rfl (fun h => ?_) (fun h => ?_)
  · have hlt : i < xs.length := by simpa using h
    obtain ⟨b, o, es, rfl, hb, he, hc⟩ := h1.2.2 i hlt
    repeat' (first | refine e_nil ?_ | ((refine e_op ?_); (refine o_n (peval_sound rfl) rfl ?_)) | refine s_seq ?_ | refine s_region ?_ | refine s_block ?_ | refine s_skip ?_)
    refine e_op (o_n (n_index rfl rfl rfl rfl i rfl hlt) rfl ?_)
    refine e_op (o_n (n_load_ro rfl rfl hb (loads_agg (es := es) rfl (by rw [k.len he, hk]) (by rw [hk] at hc; exact hc))) rfl ?_)
    refine e_op (o_callv rfl (hF es xs[i] (List.getElem_mem _)) rfl .nil (Can.ro ⟨hRF, he⟩) rfl ?_)
    rintro v V ⟨rfl, rfl⟩
    repeat' (refine e_nil ?_)
    refine s_cond rfl (fun h => ?_) (fun h => ?_)
    · repeat' (first | refine e_nil ?_ | ((refine e_op ?_); (refine o_n (peval_sound rfl) rfl ?_)) | refine s_seq ?_ | refine s_region ?_)
      refine s_ret ⟨_, _, res1 rfl rfl, ⟨?_, rfl⟩, Ent.nil _⟩
      rw [idxf_at hlt ht h]
    · repeat' (first | refine e_nil ?_ | ((refine e_op ?_); (refine o_n (peval_sound rfl) rfl ?_)) | refine s_region ?_ | refine s_end ?_ | refine s_skip ?_)
      refine s_back ⟨⟨i + 1, by omega, any_take_succ hlt ht h⟩, by simp only; omega, ?_, Ent.nil _⟩
      repeat' (first | exact Sub.nil _ | refine Sub.cons rfl ?_ | refine Sub.consE rfl ?_ ?_)
      exact inc (i := i) (by have := h1.2.1; omega)
  · have hge : i = xs.length := by simp at h; omega
    repeat' (first | refine e_nil ?_ | ((refine e_op ?_); (refine o_n (peval_sound rfl) rfl ?_)) | refine s_seq ?_ | refine s_region ?_ | refine s_exit ?_ | refine x_hit ?_ | refine x_code ?_ | refine x_back ?_)
    refine s_ret ⟨_, _, res1 rfl rfl, ⟨?_, rfl⟩, Ent.nil _⟩
    subst hge
    rw [List.take_length] at ht
    rw [idxf_none ht]

theorem hasPrd_w {α : Type} (k : Kd α) (hk : k.sz = 4) (g : Nat) (l m : List Value) (RF : Rd) (p : α → Bool) (A : Option Addr) (c : Nat) (xs : List α)
    (hF : ∀ es x, x ∈ xs → Trip Try.prog g (l ++ [.agg es.toArray] ++ m) (RF.and (k.rd es x)) [] (fun v V => v = .bool (p x) ∧ V = [])) :
    Trip Try.prog 27 [.slice A xs.length c, .func (.func g) l.toArray m.toArray] (RF.and ((kslice 48 k).rd [.slice A xs.length c] xs)) [] (fun v V => v = .bool (xs.any p) ∧ V = []) := by
  refine trip Try.tabOk Try.func27 rfl rfl rfl rfl ?_
  rintro w SM hR
  repeat' (first | refine e_nil ?_ | ((refine e_op ?_); (refine o_n (peval_sound rfl) rfl ?_)) | refine s_seq ?_ | refine s_region ?_)
  refine e_op (o_call (idxPrd_w k hk g l m RF p A c xs hF) rfl .nil (Can.ro hR) rfl ?_)
  rintro v V ⟨rfl, rfl⟩
  repeat' (first | refine e_nil ?_ | ((refine e_op ?_); (refine o_n (peval_sound rfl) rfl ?_)))
  refine s_ret ⟨_, _, res1 rfl rfl, ⟨?_, rfl⟩, Ent.nil _⟩
  rw [idxf_ge]


theorem idxLev_w {α : Type} (k : Kd α) (hk : k.sz = 2) (g : Nat) (l m : List Value) (RF : Rd) (p : α → Bool) (A : Option Addr) (c : Nat) (xs : List α)
    (hF : ∀ es x, x ∈ xs → Trip Try.prog g (l ++ [.agg es.toArray] ++ m) (RF.and (k.rd es x)) [] (fun v V => v = .bool (p x) ∧ V = [])) :
    Trip Try.prog 29 [.slice A xs.length c, .func (.func g) l.toArray m.toArray] (RF.and ((kslice 16 k).rd [.slice A xs.length c] xs)) [] (fun v V => v = .int .i64 (idxf p xs) ∧ V = []) := by
  refine trip Try.tabOk Try.func29 rfl rfl rfl rfl ?_
  rintro w SM ⟨hRF, A', c', e1, h1⟩
  cases e1
  repeat' (first | refine e_nil ?_ | ((refine e_op ?_); (refine o_n (peval_sound rfl) rfl ?_)) | refine s_seq ?_ | refine s_region ?_ | refine s_block ?_)
  refine s_loopK (ι := {i : Nat // i ≤ xs.length ∧ (xs.take i).any p = false}) [0, 1, 7] rfl ⟨0, by omega, rfl⟩ (fun i => [(8, .int .i64 i.1)]) (fun _ => []) (fun i => xs.length - i.1) ?_ (Ent.nil _) ?_
  · repeat' (first | exact Sub.nil _ | refine Sub.cons rfl ?_)
  rintro ⟨i, hi, ht⟩
  repeat' (first | refine e_nil ?_ | ((refine e_op ?_); (refine o_n (peval_sound rfl) rfl ?_)) | refine s_seq ?_ | refine s_region ?_)
  refine s_cond rfl (fun h => ?_) (fun h => ?_)
  · have hlt : i < xs.length := by simpa using h
    obtain ⟨b, o, es, rfl, hb, he, hc⟩ := h1.2.2 i hlt
    repeat' (first | refine e_nil ?_ | ((refine e_op ?_); (refine o_n (peval_sound rfl) rfl ?_)) | refine s_seq ?_ | refine s_region ?_ | refine s_block ?_ | refine s_skip ?_)
    refine e_op (o_n (n_index rfl rfl rfl rfl i rfl hlt) rfl ?_)
    refine e_op (o_n (n_load_ro rfl rfl hb (loads_agg (es := es) rfl (by rw [k.len he, hk]) (by rw [hk] at hc; exact hc))) rfl ?_)
    refine e_op (o_callv rfl (hF es xs[i] (List.getElem_mem _)) rfl .nil (Can.ro ⟨hRF, he⟩) rfl ?_)
    rintro v V ⟨rfl, rfl⟩
    repeat' (refine e_nil ?_)
    refine s_cond rfl (fun h => ?_) (fun h => ?_)
    · repeat' (first | refine e_nil ?_ | ((refine e_op ?_); (refine o_n (peval_sound rfl) rfl ?_)) | refine s_seq ?_ | refine s_region ?_)
      refine s_ret ⟨_, _, res1 rfl rfl, ⟨?_, rfl⟩, Ent.nil _⟩
      rw [idxf_at hlt ht h]
    · repeat' (first | refine e_nil ?_ | ((refine e_op ?_); (refine o_n (peval_sound rfl) rfl ?_)) | refine s_region ?_ | refine s_end ?_ | refine s_skip ?_)
      refine s_back ⟨⟨i + 1, by omega, any_take_succ hlt ht h⟩, by simp only; omega, ?_, Ent.nil _⟩
      repeat' (first | exact Sub.nil _ | refine Sub.cons rfl ?_ | refine Sub.consE rfl ?_ ?_)
      exact inc (i := i) (by have := h1.2.1; omega)
  · have hge : i = xs.length := by simp at h; omega
    repeat' (first | refine e_nil ?_ | ((refine e_op ?_); (refine o_n (peval_sound rfl) rfl ?_)) | refine s_seq ?_ | refine s_region ?_ | refine s_exit ?_ | refine x_hit ?_ | refine x_code ?_ | refine x_back ?_)
    refine s_ret ⟨_, _, res1 rfl rfl, ⟨?_, rfl⟩, Ent.nil _⟩
    subst hge
    rw [List.take_length] at ht
    rw [idxf_none ht]

theorem hasLev_w {α : Type} (k : Kd α) (hk : k.sz = 2) (g : Nat) (l m : List Value) (RF : Rd) (p : α → Bool) (A : Option Addr) (c : Nat) (xs : List α)
    (hF : ∀ es x, x ∈ xs → Trip Try.prog g (l ++ [.agg es.toArray] ++ m) (RF.and (k.rd es x)) [] (fun v V => v = .bool (p x) ∧ V = [])) :
    Trip Try.prog 18 [.slice A xs.length c, .func (.func g) l.toArray m.toArray] (RF.and ((kslice 16 k).rd [.slice A xs.length c] xs)) [] (fun v V => v = .bool (xs.any p) ∧ V = []) := by
  refine trip Try.tabOk Try.func18 rfl rfl rfl rfl ?_
  rintro w SM hR
  repeat' (first | refine e_nil ?_ | ((refine e_op ?_); (refine o_n (peval_sound rfl) rfl ?_)) | refine s_seq ?_ | refine s_region ?_)
  refine e_op (o_call (idxLev_w k hk g l m RF p A c xs hF) rfl .nil (Can.ro hR) rfl ?_)
  rintro v V ⟨rfl, rfl⟩
  repeat' (first | refine e_nil ?_ | ((refine e_op ?_); (refine o_n (peval_sound rfl) rfl ?_)))
  refine s_ret ⟨_, _, res1 rfl rfl, ⟨?_, rfl⟩, Ent.nil _⟩
  rw [idxf_ge]


theorem idxInt_w {α : Type} (k : Kd α) (hk : k.sz = 1) (g : Nat) (l m : List Value) (RF : Rd) (p : α → Bool) (A : Option Addr) (c : Nat) (xs : List α)
    (hF : ∀ u x, x ∈ xs → Trip Try.prog g (l ++ [u] ++ m) (RF.and (k.rd [u] x)) [] (fun v V => v = .bool (p x) ∧ V = [])) :
    Trip Try.prog 39 [.slice A xs.length c, .func (.func g) l.toArray m.toArray] (RF.and ((kslice 8 k).rd [.slice A xs.length c] xs)) [] (fun v V => v = .int .i64 (idxf p xs) ∧ V = []) := by
  refine trip Try.tabOk Try.func39 rfl rfl rfl rfl ?_
  rintro w SM ⟨hRF, A', c', e1, h1⟩
  cases e1
  repeat' (first | refine e_nil ?_ | ((refine e_op ?_); (refine o_n (peval_sound rfl) rfl ?_)) | refine s_seq ?_ | refine s_region ?_ | refine s_block ?_)
  refine s_loopK (ι := {i : Nat // i ≤ xs.length ∧ (xs.take i).any p = false}) [0, 1, 7] rfl ⟨0, by omega, rfl⟩ (fun i => [(8, .int .i64 i.1)]) (fun _ => []) (fun i => xs.length - i.1) ?_ (Ent.nil _) ?_
  · repeat' (first | exact Sub.nil _ | refine Sub.cons rfl ?_)
  rintro ⟨i, hi, ht⟩
  repeat' (first | refine e_nil ?_ | ((refine e_op ?_); (refine o_n (peval_sound rfl) rfl ?_)) | refine s_seq ?_ | refine s_region ?_)
  refine s_cond rfl (fun h => ?_) (fun h => ?_)
  · have hlt : i < xs.length := by simpa using h
    obtain ⟨b, o, es, rfl, hb, he, hc⟩ := h1.2.2 i hlt
    obtain ⟨u, rfl⟩ : ∃ u, es = [u] := by have := k.len he; rw [hk] at this; exact List.length_eq_one_iff.1 this
    have hc0 := hc 0 u rfl
    rw [hk] at hc0
    repeat' (first | refine e_nil ?_ | ((refine e_op ?_); (refine o_n (peval_sound rfl) rfl ?_)) | refine s_seq ?_ | refine s_region ?_ | refine s_block ?_ | refine s_skip ?_)
    refine e_op (o_n (n_index rfl rfl rfl rfl i rfl hlt) rfl ?_)
    refine e_op (o_n (n_load_ro rfl rfl hb (loads_one rfl hc0)) rfl ?_)
    refine e_op (o_callv rfl (hF u xs[i] (List.getElem_mem _)) rfl .nil (Can.ro ⟨hRF, he⟩) rfl ?_)
    rintro v V ⟨rfl, rfl⟩
    repeat' (refine e_nil ?_)
    refine s_cond rfl (fun h => ?_) (fun h => ?_)
    · repeat' (first | refine e_nil ?_ | ((refine e_op ?_); (refine o_n (peval_sound rfl) rfl ?_)) | refine s_seq ?_ | refine s_region ?_)
      refine s_ret ⟨_, _, res1 rfl rfl, ⟨?_, rfl⟩, Ent.nil _⟩
      rw [idxf_at hlt ht h]
    · repeat' (first | refine e_nil ?_ | ((refine e_op ?_); (refine o_n (peval_sound rfl) rfl ?_)) | refine s_region ?_ | refine s_end ?_ | refine s_skip ?_)
      refine s_back ⟨⟨i + 1, by omega, any_take_succ hlt ht h⟩, by simp only; omega, ?_, Ent.nil _⟩
      repeat' (first | exact Sub.nil _ | refine Sub.cons rfl ?_ | refine Sub.consE rfl ?_ ?_)
      exact inc (i := i) (by have := h1.2.1; omega)
  · have hge : i = xs.length := by simp at h; omega
    repeat' (first | refine e_nil ?_ | ((refine e_op ?_); (refine o_n (peval_sound rfl) rfl ?_)) | refine s_seq ?_ | refine s_region ?_ | refine s_exit ?_ | refine x_hit ?_ | refine x_code ?_ | refine x_back ?_)
    refine s_ret ⟨_, _, res1 rfl rfl, ⟨?_, rfl⟩, Ent.nil _⟩
    subst hge
    rw [List.take_length] at ht
    rw [idxf_none ht]

theorem hasInt_w {α : Type} (k : Kd α) (hk : k.sz = 1) (g : Nat) (l m : List Value) (RF : Rd) (p : α → Bool) (A : Option Addr) (c : Nat) (xs : List α)
    (hF : ∀ u x, x ∈ xs → Trip Try.prog g (l ++ [u] ++ m) (RF.and (k.rd [u] x)) [] (fun v V => v = .bool (p x) ∧ V = [])) :
    Trip Try.prog 30 [.slice A xs.length c, .func (.func g) l.toArray m.toArray] (RF.and ((kslice 8 k).rd [.slice A xs.length c] xs)) [] (fun v V => v = .bool (xs.any p) ∧ V = []) := by
  refine trip Try.tabOk Try.func30 rfl rfl rfl rfl ?_
  rintro w SM hR
  repeat' (first | refine e_nil ?_ | ((refine e_op ?_); (refine o_n (peval_sound rfl) rfl ?_)) | refine s_seq ?_ | refine s_region ?_)
  refine e_op (o_call (idxInt_w k hk g l m RF p A c xs hF) rfl .nil (Can.ro hR) rfl ?_)
  rintro v V ⟨rfl, rfl⟩
  repeat' (first | refine e_nil ?_ | ((refine e_op ?_); (refine o_n (peval_sound rfl) rfl ?_)))
  refine s_ret ⟨_, _, res1 rfl rfl, ⟨?_, rfl⟩, Ent.nil _⟩
  rw [idxf_ge]


end Go.Proofs.Ytjeimmekhfhepaa

namespace Go.Proofs.Ytjeimmekhfhepaa
set_option linter.all false
open Go.Proofs.Ytjeimmekhfhepaa.E
attribute [local irreducible] EVX EVO EVL EV1 NEV
set_option maxRecDepth 10000

theorem limits_w (cs : List Value) (g : Gram) : Trip Try.prog 17 [.agg cs.toArray] (kGram.rd cs g) [] (fun v V => v = .bool (limitsB g) ∧ V = []) := by
  refine trip Try.tabOk Try.func17 rfl rfl rfl rfl ?_
  intro w SM hR
  obtain ⟨A0, A1, A2, A3, A4, c0, c1, c2, c3, c4, rfl, hG⟩ := kGram_open hR
  have hF : ∀ es (x : Prd), x ∈ g.Prods → Trip Try.prog 28 ([] ++ [.agg es.toArray] ++ []) (Rd.tt.and (kPrd.rd es x)) [] (fun v V => v = .bool (decide (x.Right.length > 12)) ∧ V = []) := by
    intro es x _
    refine ⟨(limits1_w 0 none 0 0 0 0).enters, fun w SM h1 h2 h3 => ?_⟩
    obtain ⟨A, c, rfl, _⟩ := kPrd_open h3.2
    exact (limits1_w _ _ _ _ _ _).calls w SM h1 h2 trivial
  repeat' (first | refine e_nil ?_ | ((first | refine e_op ?_ | refine e_yes rfl ?_); (first | refine o_n (peval_sound rfl) rfl ?_ | refine o_n (nl rfl rfl tc rfl) rfl ?_ | refine o_box rfl rfl (fun _ => ?_))) | refine e_noU rfl rfl rfl ?_ | refine s_seq ?_ | refine s_region ?_ | ((fail_if_success (refine e_dec true (by exact rfl) ?_)); (fail_if_success (refine e_dec false (by exact rfl) ?_)); refine e_part rfl rfl (fun h => ?_) (fun h => ?_)))

  all_goals try
    refine s_ret ⟨_, _, res1 rfl rfl, ⟨?_, rfl⟩, Ent.nil _⟩
    unfold limitsB
    clear hF hG hR
    congr 1
    simp_all
    try omega
  refine e_yes rfl (o_call (hasPrd_w kPrd rfl 28 [] [] Rd.tt (fun x => decide (x.Right.length > 12)) A4 c4 g.Prods hF) rfl .nil (Can.ro ⟨trivial, sl_mk hG.prods⟩) rfl ?_)
  rintro v V ⟨rfl, rfl⟩
  repeat' (first | refine e_nil ?_ | ((refine e_op ?_); (refine o_n (peval_sound rfl) rfl ?_)))
  refine s_ret ⟨_, _, res1 rfl rfl, ⟨?_, rfl⟩, Ent.nil _⟩
  unfold limitsB
  clear hF hG hR
  have e1 : decide (g.Terms.length > 48) = false := by simp_all; omega
  have e2 : decide (g.Nons.length > 48) = false := by simp_all; omega
  have e3 : decide (g.Prods.length > 128) = false := by simp_all; omega
  rw [e1, e2, e3]; rfl

theorem indexBool_w (A : Option Addr) (c : Nat) (xs : List Bool) (y : Bool) : Trip Try.prog 33 [.slice A xs.length c, .bool y] ((kslice 1 kbool).rd [.slice A xs.length c] xs) []
    (fun v V => v = .int .i64 (idxf (fun x => y == x) xs) ∧ V = []) := by
  refine trip Try.tabOk Try.func33 rfl rfl rfl rfl ?_
  rintro w SM ⟨A', c', e1, h1⟩
  cases e1
  repeat' (first | refine e_nil ?_ | ((refine e_op ?_); (refine o_n (peval_sound rfl) rfl ?_)) | refine s_seq ?_ | refine s_region ?_ | refine s_block ?_)
  refine s_loopK (ι := {i : Nat // i ≤ xs.length ∧ (xs.take i).any (fun x => y == x) = false}) [0, 1, 7] rfl ⟨0, by omega, rfl⟩ (fun i => [(8, .int .i64 i.1)]) (fun _ => []) (fun i => xs.length - i.1) ?_ (Ent.nil _) ?_
  · repeat' (first | exact Sub.nil _ | refine Sub.cons rfl ?_)
  rintro ⟨i, hi, ht⟩
  repeat' (first | refine e_nil ?_ | ((refine e_op ?_); (refine o_n (peval_sound rfl) rfl ?_)) | refine s_seq ?_ | refine s_region ?_)
  refine s_cond rfl (fun h => ?_) (fun h => ?_)
  · have hlt : i < xs.length := by simpa using h
    obtain ⟨b, o, es, rfl, hb, rfl, hc⟩ := h1.2.2 i hlt
    repeat' (first | refine e_nil ?_ | ((refine e_op ?_); (refine o_n (peval_sound rfl) rfl ?_)) | refine s_seq ?_ | refine s_region ?_ | refine s_block ?_ | refine s_skip ?_)
    refine e_op (o_n (n_index rfl rfl rfl rfl i rfl hlt) rfl ?_)
    refine e_op (o_n (n_load_ro rfl rfl hb (loads_one rfl (hc 0 _ rfl))) rfl ?_)
    repeat' (first | refine e_nil ?_ | ((refine e_op ?_); (refine o_n (peval_sound rfl) rfl ?_)))
    refine s_cond rfl (fun h => ?_) (fun h => ?_)
    · repeat' (first | refine e_nil ?_ | ((refine e_op ?_); (refine o_n (peval_sound rfl) rfl ?_)) | refine s_seq ?_ | refine s_region ?_)
      refine s_ret ⟨_, _, res1 rfl rfl, ⟨?_, rfl⟩, Ent.nil _⟩
      rw [idxf_at hlt ht h]
    · repeat' (first | refine e_nil ?_ | ((refine e_op ?_); (refine o_n (peval_sound rfl) rfl ?_)) | refine s_region ?_ | refine s_end ?_ | refine s_skip ?_)
      refine s_back ⟨⟨i + 1, by omega, any_take_succ hlt ht h⟩, by simp only; omega, ?_, Ent.nil _⟩
      repeat' (first | exact Sub.nil _ | refine Sub.cons rfl ?_ | refine Sub.consE rfl ?_ ?_)
      exact inc (i := i) (by have := h1.2.1; omega)
  · have hge : i = xs.length := by simp at h; omega
    repeat' (first | refine e_nil ?_ | ((refine e_op ?_); (refine o_n (peval_sound rfl) rfl ?_)) | refine s_seq ?_ | refine s_region ?_ | refine s_exit ?_ | refine x_hit ?_ | refine x_code ?_ | refine x_back ?_)
    refine s_ret ⟨_, _, res1 rfl rfl, ⟨?_, rfl⟩, Ent.nil _⟩
    subst hge
    rw [List.take_length] at ht
    rw [idxf_none ht]

theorem hasBool_w (A : Option Addr) (c : Nat) (xs : List Bool) (y : Bool) : Trip Try.prog 23 [.slice A xs.length c, .bool y] ((kslice 1 kbool).rd [.slice A xs.length c] xs) []
    (fun v V => v = .bool (xs.any (fun x => y == x)) ∧ V = []) := by
  refine trip Try.tabOk Try.func23 rfl rfl rfl rfl ?_
  rintro w SM hR
  repeat' (first | refine e_nil ?_ | ((refine e_op ?_); (refine o_n (peval_sound rfl) rfl ?_)) | refine s_seq ?_ | refine s_region ?_)
  refine e_op (o_call (indexBool_w A c xs y) rfl .nil (Can.ro hR) rfl ?_)
  rintro v V ⟨rfl, rfl⟩
  repeat' (first | refine e_nil ?_ | ((refine e_op ?_); (refine o_n (peval_sound rfl) rfl ?_)))
  refine s_ret ⟨_, _, res1 rfl rfl, ⟨?_, rfl⟩, Ent.nil _⟩
  rw [idxf_ge]

end Go.Proofs.Ytjeimmekhfhepaa

namespace Go.Proofs.Ytjeimmekhfhepaa
set_option linter.all false
open Go.Proofs.Ytjeimmekhfhepaa.E
attribute [local irreducible] EVX EVO EVL EV1 NEV
set_option maxRecDepth 10000

/-- A kbool of its own value. -/
theorem kbool_enc (w : World) (S : BSet) (x : Bool) : kbool.R w S [Value.bool x] x := rfl

def kwC (gcs : List Value) (Au : Option Addr) (nu cu : Nat) (v2 v3 : Value) : List Value := gcs ++ [.slice Au nu cu, v2, v3]

theorem useful1_w (b4 b1 bk : Nat) (t : Nat) (gcs : List Value) (hg : gcs.length = 5) (Au : Option Addr) (n cu : Nat) (use : List Bool) (hn : n = use.length) (v2 v3 : Value) (s : Int) (hs : I64 s) (ht : t ≤ 140737488355328) (hs2 : s < t + use.length) :
    Trip Try.prog 31 [.int .i64 s, .pointer (some ⟨b4, 0, none⟩), .pointer (some ⟨b1, 0, none⟩)]
      ((rblk b4 3 [.int .i64 t]).and ((rblk b1 79 [.pointer (some ⟨bk, 0, none⟩)]).and ((rblk bk 55 (kwC gcs Au n cu v2 v3)).and ((kslice 1 kbool).rd [.slice Au n cu] use)))) []
      (fun v V => v = .bool (!okSym t use s) ∧ V = []) := by
  subst hn
  refine trip Try.tabOk Try.func31 rfl rfl rfl rfl ?_
  rintro w SM ⟨⟨h4, h4'⟩, ⟨h1, h1'⟩, ⟨hk, hk'⟩, A', c', e1, hu⟩
  cases e1
  obtain ⟨g0, g1, g2, g3, g4, rfl⟩ : ∃ g0 g1 g2 g3 g4, gcs = [g0, g1, g2, g3, g4] := by
    match gcs, hg with
    | [g0, g1, g2, g3, g4], _ => exact ⟨g0, g1, g2, g3, g4, rfl⟩
  repeat' (first | refine e_nil ?_ | ((refine e_op ?_); (refine o_n (peval_sound rfl) rfl ?_)) | refine s_seq ?_ | refine s_region ?_)
  refine s_drawU [] Try.mixed (by decide +kernel) ?_
  repeat' (((refine l_n (peval_sound rfl) rfl ?_ rfl ?_); · (exact Ent.refl _)))
  refine l_n (n_load_ro rfl rfl h4 (loads_blk h4' rfl)) rfl (Ent.refl _) rfl ?_
  repeat' (first | refine l_nil ?_ | ((first | refine l_no rfl rfl rfl ?_ rfl ?_ | refine l_n (peval_sound rfl) rfl ?_ rfl ?_); · (exact Ent.refl _)) | ((fail_if_success (refine l_dec true (by exact rfl) ?_)); (fail_if_success (refine l_dec false (by exact rfl) ?_)); refine l_part rfl rfl (fun h => ?_) (fun h => ?_)))
  · -- at or beyond the first name
    have hge : (t : Int) ≤ s := by simpa using h
    have hlt : (s - t).toNat < use.length := by omega
    refine l_ny rfl (n_load_ro rfl rfl h1 (loads_blk h1' rfl)) rfl (Ent.refl _) rfl ?_
    repeat' (((refine l_ny rfl (peval_sound rfl) rfl ?_ rfl ?_); · (exact Ent.refl _)))
    refine l_ny rfl (n_load_ro rfl rfl hk (loads_blk hk' rfl)) rfl (Ent.refl _) rfl ?_
    repeat' (((refine l_ny rfl (peval_sound rfl) rfl ?_ rfl ?_); · (exact Ent.refl _)))
    refine l_ny rfl (n_load_ro rfl rfl h4 (loads_blk h4' rfl)) rfl (Ent.refl _) rfl ?_
    repeat' (((refine l_ny rfl (peval_sound rfl) rfl ?_ rfl ?_); · (exact Ent.refl _)))
    obtain ⟨b, o, es, rfl, hb, rfl, hc⟩ := hu.2.2 _ hlt
    refine l_ny rfl (n_index rfl rfl rfl rfl (s - t).toNat (by rw [wrap_i64] <;> (unfold I64 at hs; omega)) hlt) rfl (Ent.refl _) rfl ?_
    refine l_ny rfl (n_load_ro rfl rfl hb (loads_one rfl (hc 0 _ rfl))) rfl (Ent.refl _) rfl ?_
    repeat' (first | refine l_nil ?_ | ((first | refine l_n (peval_sound rfl) rfl ?_ rfl ?_ | refine l_ny rfl (peval_sound rfl) rfl ?_ rfl ?_); · (exact Ent.refl _)))
    refine s_ret ⟨_, _, res1 rfl rfl, ⟨?_, rfl⟩, Ent.nil _⟩
    congr 1
    have : decide (s < (t : Int)) = false := by simp; omega
    unfold okSym
    rw [this, List.getD_eq_getElem?_getD, List.getElem?_eq_getElem hlt]; simp
  · have hlt : s < (t : Int) := by simpa using h
    refine s_ret ⟨_, _, res1 rfl rfl, ⟨?_, rfl⟩, Ent.nil _⟩
    simp [okSym, hlt]


structure PsOk (t n : Nat) (ps : List Prd) : Prop where
  left : ∀ i (h : i < ps.length), 0 ≤ ps[i].Left ∧ ps[i].Left < n
  right : ∀ i (h : i < ps.length), ∀ s ∈ ps[i].Right, 1 ≤ s ∧ s < (t : Int) + n

theorem useful_w (bk : Nat) (gcs : List Value) (g : Gram) (Au : Option Addr) (n cu : Nat) (use : List Bool) (hn : n = use.length) (hn2 : n = g.Nons.length) (v2 v3 : Value) (hps : PsOk g.Terms.length n g.Prods) :
    Trip Try.prog 22 [.pointer (some ⟨bk, 0, none⟩)] (kGram.rd gcs g) [blk bk 55 (kwC gcs Au n cu v2 v3), osl 4 1 (.slice Au n cu) n (use.map Value.bool)]
      (fun v V => v = .bool (decide (uRound g.Terms.length g.Prods use ≠ use)) ∧ V = [blk bk 55 (kwC gcs Au n cu v2 v3), osl 4 1 (.slice Au n cu) n ((uRound g.Terms.length g.Prods use).map Value.bool)]) := by
  refine trip Try.tabOk Try.func22 rfl rfl rfl rfl ?_
  intro w SM hR
  obtain ⟨A0, A1, A2, A3, A4, c0, c1, c2, c3, c4, rfl, hG⟩ := kGram_open hR
  have hT := hG.terms.2.1
  have hN := hG.nons.2.1
  have hP := hG.prods.2.1
  repeat' (first | refine e_nil ?_ | ((refine e_op ?_); (first | refine o_n (peval_sound rfl) rfl ?_ | refine o_n (nl rfl rfl tc rfl) rfl ?_ | refine o_storeC rfl rfl rfl rfl tc uc rfl rfl rfl ?_ | refine o_box1 rfl rfl rfl (fun _ => ?_) | refine o_alloc rfl rfl (fun _ => ?_))) | refine s_seq ?_ | refine s_region ?_ | refine s_block ?_)
  refine s_loopK (ι := {x : Nat × Bool // x.1 ≤ g.Prods.length ∧ x.2 = decide (uRound g.Terms.length (g.Prods.take x.1) use ≠ use)}) [1, 4, 17, 18] rfl ⟨(0, false), by simp, by simp [uRound]⟩
    (fun x => [(19, .int .i64 x.1.1), (3, .bool x.1.2)])
    (fun x => [blk _ 3 [.int .i64 g.Terms.length], blk _ 79 [.pointer (some ⟨bk, 0, none⟩)], blk bk 55 (kwC _ Au n cu v2 v3), osl 4 1 (.slice Au n cu) n ((uRound g.Terms.length (g.Prods.take x.1.1) use).map Value.bool)])
    (fun x => g.Prods.length - x.1.1) ?_ (Ent.refl _) ?_
  · repeat' (first | exact Sub.nil _ | refine Sub.cons rfl ?_)
  rintro ⟨⟨i, fresh⟩, hi, hfr⟩
  simp only at hi hfr ⊢
  repeat' (first | refine e_nil ?_ | ((refine e_op ?_); (refine o_n (peval_sound rfl) rfl ?_)) | refine s_seq ?_ | refine s_region ?_)
  refine s_cond rfl (fun h => ?_) (fun h => ?_)
  · have hlt : i < g.Prods.length := by simpa using h
    obtain ⟨b, o, es, rfl, hb, he, hc⟩ := hG.prods.2.2 i hlt
    obtain ⟨Ar, cr, rfl, hl, hlN, hlK, hr⟩ := kPrd_open he
    repeat' (first | refine s_seq ?_ | refine s_region ?_ | refine s_block ?_ | refine s_skip ?_)
    refine e_op (o_n (n_index rfl rfl rfl rfl i rfl hlt) rfl ?_)
    refine e_op (o_n (n_load_ro rfl rfl hb (loads_agg rfl rfl hc)) rfl ?_)
    repeat' (first | refine e_nil ?_ | ((refine e_op ?_); (first | refine o_n (peval_sound rfl) rfl ?_ | refine o_n (nl rfl rfl tc rfl) rfl ?_ | refine o_storeC rfl rfl rfl rfl tc uc rfl rfl rfl ?_ | refine o_alloc rfl rfl (fun _ => ?_))) | refine s_seq ?_ | refine s_region ?_)
    rename_i b1 b4 b6
    have hcur := uRound_len g.Terms.length (g.Prods.take i) use
    generalize hcu : uRound g.Terms.length (g.Prods.take i) use = cur at *
    have hnc : n = cur.length := by omega
    have hF : ∀ (u : Value) (x : Int), x ∈ g.Prods[i].Right → Trip Try.prog 31 ([] ++ [u] ++ [.pointer (some ⟨b4, 0, none⟩), .pointer (some ⟨b1, 0, none⟩)])
        (((rblk b4 3 [.int .i64 g.Terms.length]).and ((rblk b1 79 [.pointer (some ⟨bk, 0, none⟩)]).and ((rblk bk 55 (kwC [Value.slice A0 g.Terms.length c0, Value.slice A1 g.Levels.length c1, Value.slice A2 g.Pats.length c2,
        Value.slice A3 g.Nons.length c3, Value.slice (some ⟨b, o, none⟩) g.Prods.length c4] Au n cu v2 v3)).and ((kslice 1 kbool).rd [.slice Au n cu] cur)))).and (kint.rd [u] x)) [] (fun v V => v = .bool (!okSym g.Terms.length cur x) ∧ V = []) := by
      intro u x hx
      have hx2 := hps.right i hlt x hx
      refine ⟨(useful1_w b4 b1 bk g.Terms.length [.nilFunc, .nilFunc, .nilFunc, .nilFunc, .nilFunc] rfl Au n cu cur hnc v2 v3 0 (by unfold I64; omega) (by omega) (by omega)).enters, fun w SM h1 h2 h3 => ?_⟩
      obtain ⟨h4, h5, hI⟩ := h3
      cases h5
      exact (useful1_w b4 b1 bk g.Terms.length _ rfl Au n cu cur hnc v2 v3 x hI (by omega) (by omega)).calls w SM h1 h2 h4
    refine e_op (o_call (hasInt_w kint rfl 31 [] [.pointer (some ⟨b4, 0, none⟩), .pointer (some ⟨b1, 0, none⟩)] _ (fun s => !okSym g.Terms.length cur s) Ar cr g.Prods[i].Right hF) rfl .nil
      (Can.and (Can.and (Can.blk (.s .z)) (Can.and (Can.blk (.s (.s .z))) (Can.and (Can.blk (.s (.s (.s .z)))) (Can.osl Value.bool rfl kbool_enc (.s (.s (.s (.s .z)))) (by omega))))) (Can.ro (sl_mk hr))) rfl ?_)
    rintro v V ⟨rfl, rfl⟩
    repeat' (first | refine e_nil ?_ | ((refine e_op ?_); (refine o_n (peval_sound rfl) rfl ?_)))
    have hstep : uRound g.Terms.length (g.Prods.take (i + 1)) use = uStep g.Terms.length cur g.Prods[i] := by
      rw [List.take_succ_eq_append_getElem hlt, uRound, List.foldl_append, ← hcu]; rfl
    have hne0 := uRound_cnt g.Terms.length (g.Prods.take i) use
    rw [hcu] at hne0
    refine s_cond rfl (fun h => ?_) (fun h => ?_)
    · have hall : g.Prods[i].Right.all (okSym g.Terms.length cur) = true := by
        rw [Bool.not_eq_true', List.any_eq_false] at h
        rw [List.all_eq_true]
        intro x hx; simpa using h x hx
      have hst : uStep g.Terms.length cur g.Prods[i] = cur.set g.Prods[i].Left.toNat true := by unfold uStep; rw [if_pos hall]
      obtain ⟨hl0, hl1⟩ := hps.left i hlt
      have hli : g.Prods[i].Left.toNat < cur.length := by omega
      skip
      refine s_drawT [6] (.s (.s (.s (.s .z)))) Try.mixed (by decide +kernel) ?_
      repeat' (((first | refine l_n (peval_sound rfl) rfl ?_ rfl ?_ | refine l_n (nl rfl rfl tc rfl) rfl ?_ rfl ?_); · (repeat' (first | exact Ent.nil _ | refine Ent.tak .z ?_))))
      refine l_e rfl (o_call (learn_w Au cu n cur hnc g.Prods[i].Left.toNat hli) (by rw [Int.toNat_of_nonneg hl0]; rfl) (.cons (.s (.s (.s (.s .z)))) .nil) Can.tt rfl ?_)
      rintro v V ⟨rfl, rfl⟩
      refine ⟨(by (repeat' (first | exact Ent.refl _ | refine Ent.wk ?_))), ?_⟩
      repeat' (first | refine l_nil ?_ | ((first | refine l_no rfl rfl rfl ?_ rfl ?_ | refine l_n (peval_sound rfl) rfl ?_ rfl ?_ | refine l_ny rfl (peval_sound rfl) rfl ?_ rfl ?_); · (repeat' (first | exact Ent.refl _ | refine Ent.wk ?_))) | ((fail_if_success (refine l_dec true (by exact rfl) ?_)); (fail_if_success (refine l_dec false (by exact rfl) ?_)); refine l_part rfl rfl (fun h => ?_) (fun h => ?_)))
      · repeat' (first | refine e_nil ?_ | ((refine e_op ?_); (refine o_n (peval_sound rfl) rfl ?_)) | refine s_region ?_ | refine s_end ?_)
        refine s_back ⟨⟨(i + 1, true), by simp only; omega, ?_⟩, by simp only; omega, ?_, ?_⟩
        · simp only [hstep, hst]
          symm; rw [decide_eq_true_eq]
          intro heq
          have h2 : cur[g.Prods[i].Left.toNat]? = some false := by rw [List.getElem?_eq_getElem hli]; simpa using h
          have h3 := cnt_set h2
          rw [heq] at h3
          rcases hne0 with h4 | h4
          · rw [h4] at h3; omega
          · omega
        · repeat' (first | exact Sub.nil _ | refine Sub.cons rfl ?_ | refine Sub.consE rfl ?_ ?_)
          exact inc (i := i) (by omega)
        · simp only [hstep, hst]
          repeat' (first | exact Ent.nil _ | refine Ent.tak tk ?_)
      · repeat' (first | refine e_nil ?_ | ((refine e_op ?_); (refine o_n (peval_sound rfl) rfl ?_)) | refine s_region ?_ | refine s_end ?_)
        refine s_back ⟨⟨(i + 1, fresh), by simp only; omega, ?_⟩, by simp only; omega, ?_, ?_⟩
        · simp only [hstep, hst]
          have h2 : cur[g.Prods[i].Left.toNat]? ≠ some false := by rw [List.getElem?_eq_getElem hli]; simpa using h
          rw [set_true h2, hfr]
        · repeat' (first | exact Sub.nil _ | refine Sub.cons rfl ?_ | refine Sub.consE rfl ?_ ?_)
          exact inc (i := i) (by omega)
        · simp only [hstep, hst]
          repeat' (first | exact Ent.nil _ | refine Ent.tak tk ?_)
    · have hall : g.Prods[i].Right.all (okSym g.Terms.length cur) = false := by
        cases hh : g.Prods[i].Right.all (okSym g.Terms.length cur) with
        | false => rfl
        | true =>
          rw [Bool.not_eq_false', List.any_eq_true] at h
          obtain ⟨x, hx, hx2⟩ := h
          rw [List.all_eq_true] at hh
          simp [hh x hx] at hx2
      have hst : uStep g.Terms.length cur g.Prods[i] = cur := by unfold uStep; rw [hall]; rfl
      repeat' (first | refine e_nil ?_ | ((refine e_op ?_); (refine o_n (peval_sound rfl) rfl ?_)) | refine s_region ?_ | refine s_end ?_ | refine s_skip ?_)
      refine s_back ⟨⟨(i + 1, fresh), by simp only; omega, ?_⟩, by simp only; omega, ?_, ?_⟩
      · simp only [hstep, hst]; exact hfr
      · repeat' (first | exact Sub.nil _ | refine Sub.cons rfl ?_ | refine Sub.consE rfl ?_ ?_)
        exact inc (i := i) (by omega)
      · simp only [hstep, hst]
        repeat' (first | exact Ent.nil _ | refine Ent.tak tk ?_)
  · have hge : i = g.Prods.length := by simp at h; omega
    subst hge
    repeat' (first | refine e_nil ?_ | ((refine e_op ?_); (refine o_n (peval_sound rfl) rfl ?_)) | refine s_seq ?_ | refine s_region ?_ | refine s_exit ?_ | refine x_hit ?_ | refine x_code ?_ | refine x_back ?_)
    refine s_ret ⟨_, _, res1 rfl rfl, ⟨?_, rfl⟩, ?_⟩
    · rw [hfr, List.take_length]
    · rw [List.take_length]
      repeat' (first | exact Ent.nil _ | refine Ent.tak tk ?_)

end Go.Proofs.Ytjeimmekhfhepaa

namespace Go.Proofs.Ytjeimmekhfhepaa
set_option linter.all false
open Go.Proofs.Ytjeimmekhfhepaa.E
attribute [local irreducible] EVX EVO EVL EV1 NEV
set_option maxRecDepth 10000

/-- States that follow one another for as long as something is new. -/
inductive Reach {σ : Type} (nxt : σ → σ) (fresh : σ → Bool) : σ → σ → Prop
  | refl (s) : Reach nxt fresh s s
  | step {s t} : Reach nxt fresh s t → fresh t = true → Reach nxt fresh s (nxt t)

theorem grow_w {σ : Type} (f : Nat) (l m : List Value) (R : Rd) (Ms : σ → List Asn) (nxt : σ → σ) (fresh : σ → Bool) (μ : σ → Nat) (Iv : σ → Prop)
    (hF : ∀ s, Iv s → Trip Try.prog f (l ++ [] ++ m) R (Ms s) (fun v V => v = .bool (fresh s) ∧ V = Ms (nxt s))) (hI : ∀ s, Iv s → Iv (nxt s)) (hμ : ∀ s, Iv s → fresh s = true → μ (nxt s) < μ s) (s0 : σ) (h0 : Iv s0) :
    Trip Try.prog 21 [.func (.func f) l.toArray m.toArray] R (Ms s0) (fun v V => v = .tuple #[] ∧ ∃ s, Iv s ∧ Reach nxt fresh s0 s ∧ fresh s = false ∧ V = Ms (nxt s)) := by
  refine trip Try.tabOk Try.func21 rfl rfl rfl rfl ?_
  intro w SM hR
  repeat' (refine s_block ?_)
  refine s_loopK (ι := {s : σ // Iv s ∧ Reach nxt fresh s0 s}) [0] rfl ⟨s0, h0, .refl _⟩ (fun _ => []) (fun s => Ms s.1) (fun s => μ s.1) ?_ (Ent.refl _) ?_
  · repeat' (first | exact Sub.nil _ | refine Sub.cons rfl ?_)
  rintro ⟨s, hs, hreach⟩
  repeat' (first | ((refine e_op ?_); (refine o_n (peval_sound rfl) rfl ?_)) | refine s_seq ?_ | refine s_region ?_)
  have hp : ∀ L : List Asn, Pic L L [] := by
    intro L
    induction L with
    | nil => exact .nil
    | cons A L ih => exact .cons .z ih
  refine e_op (o_callv rfl (hF s hs) rfl (hp _) (Can.ro hR) rfl ?_)
  rintro v V ⟨rfl, rfl⟩
  rw [List.append_nil]
  repeat' (refine e_nil ?_)
  refine s_cond rfl (fun h => ?_) (fun h => ?_)
  · repeat' (first | refine s_block ?_ | refine s_end ?_ | refine s_skip ?_)
    refine s_back ⟨⟨nxt s, hI s hs, .step hreach h⟩, hμ s hs h, ?_, Ent.refl _⟩
    repeat' (first | exact Sub.nil _ | refine Sub.cons rfl ?_)
  · repeat' (first | refine s_exit ?_ | refine x_hit ?_ | refine x_code ?_ | refine x_back ?_)
    refine s_nil ?_
    exact ⟨_, _, res0 rfl, ⟨rfl, s, hs, hreach, h, rfl⟩, Ent.refl _⟩

end Go.Proofs.Ytjeimmekhfhepaa
