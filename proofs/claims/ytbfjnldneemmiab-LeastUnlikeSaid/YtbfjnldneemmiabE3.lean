/-
  The engine, third part: operations that read and write memory, calls, a function from its beginning to its end.
-/
import Derived.Test.YtbfjnldneemmiabE2
import Derived.Laws.AppendOwn
import Derived.Laws.MakeOwn
import Derived.Laws.OwnMore
namespace Go.Proofs.Ytbfjnldneemmiab.E
set_option linter.all false
variable {E : Env} {fr : Frm} {U : List Asn} {N : Frm → List Asn → Prop}

/-- What became of the world, but for the blocks S1. -/
structure Step (w w' : World) (S1 : BSet) : Prop where
  os : w'.os = w.os
  tape : w'.tape = w.tape
  output : w'.output = w.output
  size : w.heap.size ≤ w'.heap.size
  same : ∀ b, b < w.heap.size → ¬ S1 b → w'.heap[b]? = w.heap[b]?

theorem Step.refl (w : World) (S : BSet) : Step w w S := ⟨rfl, rfl, rfl, Nat.le_refl _, fun _ _ _ => rfl⟩

theorem Mem.upd {A A' : Asn} {U' : List Asn} {w : World} (hm : Mem E U w) (hu : Upd A A' U U') :
    ∃ S1, A.P w S1 ∧ (∀ b, S1 b → b < w.heap.size) ∧ ∀ (w' : World) (T1 : BSet), Step w w' S1 → A'.P w' T1 →
      (∀ b, T1 b → b < w'.heap.size ∧ (S1 b ∨ w.heap.size ≤ b)) → Mem E U' w' := by
  obtain ⟨S, hs, hb⟩ := hm.own
  obtain ⟨S1, h1, hsub, hk⟩ := hu.star hs
  refine ⟨S1, h1, fun b h => (hb b (hsub b h)).1, fun w' T1 st hA hT => ?_⟩
  have hS := hk w' T1 hA (fun b hb' => by
      rcases (hT b hb').2 with h | h
      · exact .inr h
      · exact .inl fun hSb => by have := (hb b hSb).1; omega)
    (fun b hSb hn => st.same b (hb b hSb).1 hn)
  refine ⟨st.os.trans hm.os, st.tape.trans hm.tape, st.output.trans hm.output, Nat.le_trans hm.size st.size, ?_, _, hS, ?_⟩
  · intro b hro
    rw [st.same b (Nat.lt_of_lt_of_le hro.1 hm.size) (fun h => by
      rcases (hb b (hsub b h)).2 with h2 | h2
      · have := hro.1; omega
      · exact hro.2 h2)]
    exact hm.same b hro
  · rintro b (h | h)
    · have := hb b h; exact ⟨Nat.lt_of_lt_of_le this.1 st.size, this.2⟩
    · have := hT b h
      refine ⟨this.1, ?_⟩
      rcases this.2 with h2 | h2
      · exact (hb b (hsub b h2)).2
      · exact .inl (Nat.le_trans hm.size h2)

theorem Mem.new {A : Asn} {w w' : World} {T1 : BSet} (hm : Mem E U w) (st : Step w w' (fun _ => False)) (hA : A.P w' T1)
    (hT : ∀ b, T1 b → b < w'.heap.size ∧ w.heap.size ≤ b) : Mem E (A :: U) w' := by
  obtain ⟨S, hs, hb⟩ := hm.own
  refine ⟨st.os.trans hm.os, st.tape.trans hm.tape, st.output.trans hm.output, Nat.le_trans hm.size st.size, ?_, fun b => T1 b ∨ S b, ⟨T1, S, hA, star_fr _ _ _ _ (fun b h => st.same b (hb b h).1 (fun h => h)) hs, ?_, fun b h => .inl h, fun b h => .inr h⟩, ?_⟩
  · intro b hro
    rw [st.same b (Nat.lt_of_lt_of_le hro.1 hm.size) (fun h => h)]
    exact hm.same b hro
  · intro b h1 h2; have := (hT b h1).2; have := (hb b h2).1; omega
  · rintro b (h | h)
    · exact ⟨(hT b h).1, .inl (Nat.le_trans hm.size (hT b h).2)⟩
    · exact ⟨Nat.lt_of_lt_of_le (hb b h).1 st.size, (hb b h).2⟩

theorem Mem.tak {A : Asn} {U' : List Asn} {w : World} (hm : Mem E U w) (ht : Tak A U U') : ∃ S1, A.P w S1 ∧ ∀ b, S1 b → b < w.heap.size := by
  obtain ⟨S, hs, hb⟩ := hm.own
  obtain ⟨S1, h1, h2⟩ := ht.mem hs
  exact ⟨S1, h1, fun b h => (hb b (h2 b h)).1⟩

theorem Mem.drew {w : World} (hm : Mem E U w) : Mem E U { w with drawn := w.drawn + 1 } := by
  obtain ⟨S, hs, hb⟩ := hm.own
  exact ⟨hm.os, hm.tape, hm.output, hm.size, hm.same, S, star_fr U w _ S (fun _ _ => rfl) hs, hb⟩

theorem step_alloc (w : World) (o : Obj) : Step w (w.alloc o) (fun _ => False) :=
  ⟨rfl, rfl, rfl, by simp, fun b hb _ => heap_alloc_old w o b hb⟩

theorem step_grown {w w' : World} {row : Option Nat} (h : w.grownBy w' row) : Step w w' (fun b => some b = row) :=
  ⟨h.os, h.tape, h.output, h.size, fun b hb hn => h.block b hb hn⟩

/-! ### loads -/
def aggB : TD → Bool
  | .struct _ => true
  | .arr _ _ => true
  | _ => false

theorem run_isAgg {t : TypeId} {i : TI} (h : tl E.T t = some i) (w : World) : (isAgg t).run E.P w = .ok (aggB i.d) w := by
  obtain ⟨d, s, b, z⟩ := i
  obtain ⟨td, h1, h2⟩ := ti_under h
  unfold isAgg
  simp only [Sem.run_bind, run_under h1, Result.andThen_ok]
  subst h2
  cases td <;> simp [tdOf, aggB]

/-- What a load takes out of a row of cells. -/
def loadL (i : TI) (cs : List Value) (o : Nat) : Option Value :=
  bif aggB i.d then (bif Nat.ble (o + i.size) cs.length then some (.agg ((cs.drop o).take i.size).toArray) else none) else cs[o]?

theorem run_loadVar {t : TypeId} {i : TI} (h : tl E.T t = some i) {w : World} {b o : Nat} {cs : List Value} {v : Value}
    (hc : ∀ j u, cs[j]? = some u → w.cell? ⟨b, j, none⟩ = some u) (hl : loadL i cs o = some v) : (loadVar t ⟨b, o, none⟩).run E.P w = .ok v w := by
  unfold loadVar
  simp only [Sem.run_bind, run_isAgg h, Result.andThen_ok]
  unfold loadL at hl
  obtain ⟨d, s, by_, z⟩ := i
  obtain ⟨inf, zv, hi, _, hs, _, _⟩ := ti_info h
  cases ha : aggB d with
  | false =>
    simp only [ha, cond_false] at hl
    simp only [Bool.false_eq_true, if_false, run_load, hc _ _ hl]
  | true =>
    simp only [ha, cond_true] at hl
    cases hb : Nat.ble (o + s) cs.length with
    | false => simp [hb] at hl
    | true =>
      simp only [hb, cond_true, Option.some.injEq] at hl
      have hle := Nat.le_of_ble_eq_true hb
      have hlen : ((cs.drop o).take s).length = s := by simp; omega
      have := run_loadCells_list (P := E.P) w ⟨b, o, none⟩ ((cs.drop o).take s) (by
        intro j u hu
        rw [add_at]
        apply hc
        rw [List.getElem?_take] at hu
        split at hu
        · rw [List.getElem?_drop] at hu; exact hu
        · cases hu)
      rw [hlen] at this
      simp only [if_true, Sem.run_bind, run_size hi, hs, Result.andThen_ok, this, Sem.run_pure, hl]

theorem n_load {t : TypeId} {x : Operand} {i : TI} {b o : Nat} {T : TypeId} {cs : List Value} {v : Value} {U' : List Asn}
    (hx : val fr x = some (.pointer (some ⟨b, o, none⟩))) (ht : tl E.T t = some i) (hU : Tak (blk b T cs) U U') (hl : loadL i cs o = some v) : NEV E (.load t x) fr U v := by
  intro a w dst ty pos af g hf hm
  obtain ⟨S1, ⟨_, hb⟩, _⟩ := hm.tak hU
  have hc : ∀ j u, cs[j]? = some u → w.cell? ⟨b, j, none⟩ = some u := fun j u hu => by rw [cell_of_row w b j _ _ _ hb]; simpa using hu
  simp [execOp, hf.eval hx, Instr.loadAt, Instr.sureAddr, run_loadVar ht hc hl]

/-- What a load finds at a place. -/
def loads (w : World) (i : TI) (b o : Nat) (v : Value) : Prop :=
  ∃ cs : List Value, (∀ j u, cs[j]? = some u → w.cell? ⟨b, o + j, none⟩ = some u) ∧ loadL i cs 0 = some v

theorem run_loads {t : TypeId} {i : TI} (h : tl E.T t = some i) {w : World} {b o : Nat} {v : Value} (hl : loads w i b o v) :
    (loadVar t ⟨b, o, none⟩).run E.P w = .ok v w := by
  obtain ⟨cs, hc, hl⟩ := hl
  unfold loadVar
  simp only [Sem.run_bind, run_isAgg h, Result.andThen_ok]
  unfold loadL at hl
  obtain ⟨d, s, by_, z⟩ := i
  obtain ⟨inf, zv, hi, _, hs, _, _⟩ := ti_info h
  cases ha : aggB d with
  | false =>
    simp only [ha, cond_false] at hl
    have := hc 0 v hl
    simp only [Nat.add_zero] at this
    simp only [Bool.false_eq_true, if_false, run_load, this]
  | true =>
    simp only [ha, cond_true, Nat.zero_add] at hl
    cases hb : Nat.ble s cs.length with
    | false => simp [hb] at hl
    | true =>
      simp only [hb, cond_true, Option.some.injEq, List.drop_zero] at hl
      have hle := Nat.le_of_ble_eq_true hb
      have hlen : (cs.take s).length = s := by simp; omega
      have := run_loadCells_list (P := E.P) w ⟨b, o, none⟩ (cs.take s) (by
        intro j u hu
        rw [add_at]
        apply hc
        rw [List.getElem?_take] at hu
        split at hu
        · exact hu
        · cases hu)
      rw [hlen] at this
      simp only [if_true, Sem.run_bind, run_size hi, hs, Result.andThen_ok, this, Sem.run_pure, hl]

theorem cell_block {w w' : World} {b o : Nat} (h : w'.heap[b]? = w.heap[b]?) : w'.cell? ⟨b, o, none⟩ = w.cell? ⟨b, o, none⟩ := by
  simp [World.cell?, h]

theorem loads_fr {w w' : World} {i : TI} {b o : Nat} {v : Value} (h : loads w i b o v) (hb : w'.heap[b]? = w.heap[b]?) : loads w' i b o v := by
  obtain ⟨cs, hc, hl⟩ := h
  exact ⟨cs, fun j u hu => by rw [cell_block hb]; exact hc j u hu, hl⟩

/-- A load out of what was there, and was not handed over. -/
theorem n_load_ro {t : TypeId} {x : Operand} {i : TI} {b o : Nat} {v : Value}
    (hx : val fr x = some (.pointer (some ⟨b, o, none⟩))) (ht : tl E.T t = some i) (hb : E.ro b) (hl : loads E.w0 i b o v) : NEV E (.load t x) fr U v := by
  intro a w dst ty pos af g hf hm
  simp [execOp, hf.eval hx, Instr.loadAt, Instr.sureAddr, run_loads ht (loads_fr hl (hm.same b hb))]

/-- A load, whatever it is known by. -/
theorem n_load_of {t : TypeId} {x : Operand} {i : TI} {b o : Nat} {v : Value}
    (hx : val fr x = some (.pointer (some ⟨b, o, none⟩))) (ht : tl E.T t = some i) (hl : ∀ w S, star U w S → loads w i b o v) : NEV E (.load t x) fr U v := by
  intro a w dst ty pos af g hf hm
  obtain ⟨S, hs, _⟩ := hm.own
  simp [execOp, hf.eval hx, Instr.loadAt, Instr.sureAddr, run_loads ht (hl w S hs)]

/-! ### slices of one's own -/
/-- The slice v of n elements of type e (sz cells each) holds the cells xs; nobody else sees its row. -/
def osl (e : TypeId) (sz : Nat) (v : Value) (n : Nat) (xs : List Value) : Asn where
  P := fun w S => w.ownsRow 0 e sz v n xs ∧ ∀ k, v.ownBlock = some k → S k
  fr := by
    rintro w w' S h ⟨h1, h2⟩
    refine ⟨⟨h1.1, ?_⟩, h2⟩
    rcases h1.2 with hn | ⟨g, cap, cur, hv, hb, hg, r⟩
    · exact .inl hn
    · exact .inr ⟨g, cap, cur, hv, hb, (h g (h2 g (by rw [hv]; rfl))).trans hg, r⟩

theorem osl_cells {e : TypeId} {sz : Nat} {g o n c : Nat} {k : Nat} {xs : List Value} {w : World} {S : BSet} (h : (osl e sz (.slice (some ⟨g, o, none⟩) n c) k xs).P w S) :
    ∀ j u, xs[j]? = some u → w.cell? ⟨g, j, none⟩ = some u := by
  intro j u hu
  have := World.ownsRow.cells h.1 (g := g) rfl j u hu
  rwa [add_at, Nat.zero_add] at this

theorem n_load_osl {t : TypeId} {x : Operand} {i : TI} {b o : Nat} {e : TypeId} {sz n c k : Nat} {xs : List Value} {v : Value} {U' : List Asn}
    (hx : val fr x = some (.pointer (some ⟨b, o, none⟩))) (ht : tl E.T t = some i) (hU : Tak (osl e sz (.slice (some ⟨b, 0, none⟩) n c) k xs) U U') (hl : loadL i xs o = some v) :
    NEV E (.load t x) fr U v := by
  intro a w dst ty pos af g hf hm
  obtain ⟨S1, hP, _⟩ := hm.tak hU
  simp [execOp, hf.eval hx, Instr.loadAt, Instr.sureAddr, run_loadVar ht (osl_cells hP) hl]

/-- The place of an element. -/
theorem n_index {t e : TypeId} {x ix : Operand} {s1 b1 : Nat} {z1 : List Value} {i : TI} {g o n c : Nat} {k : IntKind} {q : Int}
    (hx : val fr x = some (.slice (some ⟨g, o, none⟩) n c)) (hi : val fr ix = some (.int k q)) (ht : tl E.T t = some ⟨.slice e, s1, b1, z1⟩) (he : tl E.T e = some i)
    (j : Nat) (hj : q = (j : Int)) (hlt : j < n) : NEV E (.indexAddr t x ix) fr U (.pointer (some ⟨g, o + j * i.size, none⟩)) := by
  intro a w dst ty pos af g' hf _
  obtain ⟨d, sz, by_, z⟩ := i
  obtain ⟨inf, zv, hinf, _, hs, _, _⟩ := ti_info he
  subst hj
  have h2 : (j : Int) < (n : Int) := by omega
  simp [execOp, hf.eval hx, hf.eval hi, Instr.indexAt, asIntOf, run_under (u_slice ht), h2, run_size hinf, hs, add_at, show ¬ n ≤ j from by omega]

/-- The place of an element of an array behind a pointer. -/
theorem n_indexA {t e : TypeId} {x ix : Operand} {s1 b1 len : Nat} {z1 : List Value} {i : TI} {g o : Nat} {k : IntKind} {q : Int}
    (hx : val fr x = some (.pointer (some ⟨g, o, none⟩))) (hi : val fr ix = some (.int k q)) (ht : tl E.T t = some ⟨.arr len e, s1, b1, z1⟩) (he : tl E.T e = some i)
    (j : Nat) (hj : q = (j : Int)) (hlt : j < len) : NEV E (.indexAddr t x ix) fr U (.pointer (some ⟨g, o + j * i.size, none⟩)) := by
  intro a w dst ty pos af g' hf _
  obtain ⟨d, sz, by_, z⟩ := i
  obtain ⟨inf, zv, hinf, _, hs, _, _⟩ := ti_info he
  subst hj
  have h2 : (j : Int) < (len : Int) := by omega
  simp [execOp, hf.eval hx, hf.eval hi, Instr.indexAt, asIntOf, run_under (u_arr ht), Instr.sureAddr, h2, run_size hinf, hs, add_at, show ¬ len ≤ j from by omega]

/-! ### stores -/
def oneB : Value → Bool
  | .agg _ => false
  | .tuple _ => false
  | _ => true

theorem oneB_eq {v : Value} (h : oneB v = true) : v.oneCell' = true := by cases v <;> simp_all [oneB, Value.oneCell']

theorem setMany_splice (l : List Value) : ∀ (cs : List Value) (o : Nat), o + l.length ≤ cs.length → setMany cs o l = cs.take o ++ l ++ cs.drop (o + l.length) := by
  induction l with
  | nil => intro cs o _; simp [setMany]
  | cons c l ih =>
    intro cs o h
    simp only [List.length_cons] at h
    simp only [setMany]
    rw [ih (cs.set o c) (o + 1) (by simp; omega)]
    apply List.ext_getElem?
    intro j
    simp only [List.append_assoc, List.getElem?_append, List.length_take, List.length_set, List.getElem?_take, List.getElem?_drop, List.getElem?_set, List.length_cons, List.getElem?_cons]
    grind

theorem run_storeAt {w : World} {T : TypeId} {b o : Nat} {cur : Array Value} {t : TypeId} {i : TI} (ht : tl E.T t = some i) {v : Value}
    (hb : w.heap[b]? = some (.cells cur T (0, 0))) (hs : v.cells.toList.length = i.size) (h1 : ∀ u ∈ v.cells.toList, oneB u = true) (hle : o + i.size ≤ cur.size) :
    (Instr.storeAt t (.pointer (some ⟨b, o, none⟩)) v).run E.P w = .ok () (w.setRow b (cur.toList.take o ++ v.cells.toList ++ cur.toList.drop (o + i.size)).toArray) := by
  obtain ⟨d, sz, by_, z⟩ := i
  obtain ⟨inf, zv, hinf, _, hsz, _, _⟩ := ti_info ht
  have := run_storeCells_at E.P b o T v.cells.toList 0 cur w hb (by simp only [Nat.add_zero]; rw [hs]; exact hle) (fun u hu => oneB_eq (h1 u hu))
  simp only [Nat.add_zero, hs] at this
  have hs' : v.cells.size = sz := by simpa using hs
  simp [Instr.storeAt, Instr.sureAddr, storeVar, run_size hinf, hsz, hs', this]

theorem step_setRow (w : World) (b : Nat) (cs : Array Value) : Step w (w.setRow b cs) (fun k => k = b) :=
  ⟨rfl, rfl, rfl, by simp, fun k _ hk => setRow_other w b k cs hk⟩

theorem o_store {t : TypeId} {x y : Operand} {ty : TypeId} {pos : String} {af : Array Edge} {g : Option (Nat × Bool)} {i : TI} {b o : Nat} {T : TypeId} {cs vs : List Value} {v : Value} {U' : List Asn}
    (hx : val fr x = some (.pointer (some ⟨b, o, none⟩))) (hy : val fr y = some v) (ht : tl E.T t = some i) (hv : v.cells.toList = vs) (hl : Nat.beq vs.length i.size = true) (h1 : vs.all oneB = true)
    (hle : Nat.ble (o + i.size) cs.length = true) (hU : Upd (blk b T cs) (blk b T (setMany cs o vs)) U U') (h : N fr U') : EV1 E ⟨none, .store t x y, ty, pos, af, g⟩ fr U N := by
  intro a w hf hm
  subst hv
  obtain ⟨S1, ⟨hS, hb⟩, hlt, hk⟩ := hm.upd hU
  have hle' := Nat.le_of_ble_eq_true hle
  have hlen := Nat.eq_of_beq_eq_true hl
  have hr := run_storeAt (E := E) ht (v := v) (o := o) hb hlen (fun u hu => List.all_eq_true.1 h1 u hu) (by simpa using hle')
  have hsp := setMany_splice v.cells.toList cs o (by rw [hlen]; exact hle')
  rw [hlen] at hsp
  unfold Oper.wp execOp
  simp only [hf.eval hx, hf.eval hy, Sem.run_bind, hr, Result.andThen_ok, Sem.run_pure]
  have hst := step_setRow w b (cs.take o ++ v.cells.toList ++ cs.drop (o + i.size)).toArray
  refine ⟨fr, U', h, hf.put_none undef, hk _ (fun k => k = b) ⟨hst.os, hst.tape, hst.output, hst.size, fun k hk1 hk2 => hst.same k hk1 (fun e => hk2 (e ▸ hS))⟩ ⟨rfl, ?_⟩ ?_⟩
  · rw [hsp]
    simpa using setRow_heap w b cs.toArray (cs.take o ++ v.cells.toList ++ cs.drop (o + i.size)).toArray T (0, 0) hb
  · rintro k rfl
    exact ⟨Nat.lt_of_lt_of_le (hlt k hS) hst.size, .inl hS⟩

/-! ### places found by the class search -/
/-- The block b stands somewhere in U. -/
class TakC (b : Nat) (U : List Asn) (T : outParam TypeId) (cs : outParam (List Value)) (W : outParam (List Asn)) : Prop where
  tak : Tak (blk b T cs) U W
instance TakC.s {b : Nat} {U : List Asn} {T : TypeId} {cs : List Value} {W : List Asn} {B : Asn} [h : TakC b U T cs W] : TakC b (B :: U) T cs (B :: W) := ⟨.s h.tak⟩
instance TakC.z {b : Nat} {U : List Asn} {T : TypeId} {cs : List Value} : TakC b (blk b T cs :: U) T cs U := ⟨.z⟩
instance TakC.n {b : Nat} {U : List Asn} {T : TypeId} {cs : List Value} {W : List Asn} [h : TakC b U T cs W] : TakC b ([] ++ U) T cs W := h
instance TakC.a {b : Nat} {L U : List Asn} {T : TypeId} {cs : List Value} {W : List Asn} {B : Asn} [h : TakC b (B :: (L ++ U)) T cs W] : TakC b ((B :: L) ++ U) T cs W := h
/-- A thing stands somewhere in U. -/
class TakA (A : Asn) (U : List Asn) (W : outParam (List Asn)) : Prop where
  tak : Tak A U W
instance TakA.s {A : Asn} {U : List Asn} {W : List Asn} {B : Asn} [h : TakA A U W] : TakA A (B :: U) (B :: W) := ⟨.s h.tak⟩
instance TakA.z {A : Asn} {U : List Asn} : TakA A (A :: U) U := ⟨.z⟩
instance TakA.n {A : Asn} {U : List Asn} {W : List Asn} [h : TakA A U W] : TakA A ([] ++ U) W := h
instance TakA.a {A : Asn} {L U : List Asn} {W : List Asn} {B : Asn} [h : TakA A (B :: (L ++ U)) W] : TakA A ((B :: L) ++ U) W := h
/-- It is written. -/
class UpdC (A A' : Asn) (U : List Asn) (W : outParam (List Asn)) : Prop where
  upd : Upd A A' U W
instance UpdC.s {A A' : Asn} {U : List Asn} {W : List Asn} {B : Asn} [h : UpdC A A' U W] : UpdC A A' (B :: U) (B :: W) := ⟨.s h.upd⟩
instance UpdC.z {A A' : Asn} {U : List Asn} : UpdC A A' (A :: U) (A' :: U) := ⟨.z⟩

instance UpdC.n {A A' : Asn} {U : List Asn} {W : List Asn} [h : UpdC A A' U W] : UpdC A A' ([] ++ U) W := h
instance UpdC.a {A A' : Asn} {L U : List Asn} {W : List Asn} {B : Asn} [h : UpdC A A' (B :: (L ++ U)) W] : UpdC A A' ((B :: L) ++ U) W := h
theorem tc {b : Nat} {U : List Asn} {T : TypeId} {cs : List Value} {W : List Asn} [h : TakC b U T cs W] : TakC b U T cs W := h
theorem uc {A A' : Asn} {U W : List Asn} [h : UpdC A A' U W] : UpdC A A' U W := h
theorem tk {A : Asn} {U W : List Asn} [h : TakA A U W] : Tak A U W := h.tak

theorem nl {t : TypeId} {x : Operand} {i : TI} {b o : Nat} {T : TypeId} {cs : List Value} {v : Value} {W : List Asn}
    (hx : val fr x = some (.pointer (some ⟨b, o, none⟩))) (ht : tl E.T t = some i) (hU : TakC b U T cs W) (hl : loadL i cs o = some v) : NEV E (.load t x) fr U v := n_load hx ht hU.tak hl

theorem o_storeC {t : TypeId} {x y : Operand} {ty : TypeId} {pos : String} {af : Array Edge} {g : Option (Nat × Bool)} {i : TI} {b o : Nat} {T : TypeId} {cs vs : List Value} {v : Value} {W U' : List Asn}
    (hx : val fr x = some (.pointer (some ⟨b, o, none⟩))) (hy : val fr y = some v) (ht : tl E.T t = some i) (hv : v.cells.toList = vs) (hW : TakC b U T cs W) (hU : UpdC (blk b T cs) (blk b T (setMany cs o vs)) U U') (hl : Nat.beq vs.length i.size = true) (h1 : vs.all oneB = true)
    (hle : Nat.ble (o + i.size) cs.length = true) (h : N fr U') : EV1 E ⟨none, .store t x y, ty, pos, af, g⟩ fr U N := o_store hx hy ht hv hl h1 hle hU.upd h

theorem o_store_osl {t : TypeId} {x y : Operand} {ty : TypeId} {pos : String} {af : Array Edge} {g : Option (Nat × Bool)} {i : TI} {b o : Nat} {e : TypeId} {sz n c k : Nat} {xs vs : List Value} {v : Value} {U' : List Asn}
    (hx : val fr x = some (.pointer (some ⟨b, o, none⟩))) (hy : val fr y = some v) (ht : tl E.T t = some i) (hv : v.cells.toList = vs) (hl : Nat.beq vs.length i.size = true) (h1 : vs.all oneB = true)
    (hle : o + i.size ≤ xs.length) (hU : Upd (osl e sz (.slice (some ⟨b, 0, none⟩) n c) k xs) (osl e sz (.slice (some ⟨b, 0, none⟩) n c) k (setMany xs o vs)) U U') (h : N fr U') :
    EV1 E ⟨none, .store t x y, ty, pos, af, g⟩ fr U N := by
  intro a w hf hm
  subst hv
  obtain ⟨S1, ⟨hO, hS⟩, hlt, hk⟩ := hm.upd hU
  have hSb := hS b rfl
  have hlen := Nat.eq_of_beq_eq_true hl
  rcases hO.2 with ⟨he, _⟩ | ⟨g', cap, cur, hv, _, hg, hnc, hcm, hcs, htake⟩
  · cases he
  · simp only [Value.slice.injEq, Option.some.injEq, Addr.mk.injEq, and_true] at hv
    obtain ⟨rfl, hn, rfl⟩ := hv
    have hxl : xs.length ≤ cur.size := by rw [← htake, List.length_take, Array.length_toList]; exact Nat.min_le_right _ _
    have hle2 : o + i.size ≤ cur.size := Nat.le_trans hle hxl
    have hr := run_storeAt (E := E) ht (v := v) (o := o) hg hlen (fun u hu => List.all_eq_true.1 h1 u hu) hle2
    unfold Oper.wp execOp
    simp only [hf.eval hx, hf.eval hy, Sem.run_bind, hr, Result.andThen_ok, Sem.run_pure]
    have hst := step_setRow w b (cur.toList.take o ++ v.cells.toList ++ cur.toList.drop (o + i.size)).toArray
    refine ⟨fr, U', h, hf.put_none undef, hk _ (fun k => k = b) ⟨hst.os, hst.tape, hst.output, hst.size, fun k hk1 hk2 => hst.same k hk1 (fun e => hk2 (e ▸ hSb))⟩ ⟨⟨?_, .inr ⟨b, c, _, by rw [hn], Nat.zero_le _, setRow_heap w b cur _ e _ hg, hnc, hcm, ?_, ?_⟩⟩, ?_⟩ ?_⟩
    · rw [setMany_length]; exact hO.1
    · have hlen' : v.cells.size = i.size := by simpa using hlen
      simp only [List.size_toArray, List.length_append, List.length_take, List.length_drop, Array.length_toList]; omega
    · have hsp := setMany_splice v.cells.toList cur.toList o (by rw [hlen]; simp; omega)
      rw [hlen] at hsp
      have hsp2 := setMany_splice v.cells.toList xs o (by rw [hlen]; exact hle)
      rw [hlen] at hsp2
      rw [hsp2, ← htake]
      have hol : o + i.size ≤ k * sz := by have := hO.1; omega
      apply List.ext_getElem?
      intro j
      simp only [List.append_assoc, List.getElem?_append, List.length_take, List.getElem?_take, List.getElem?_drop, hlen, Array.length_toList]
      grind
    · intro k hk; simp [Value.ownBlock] at hk; exact hk.symm
    · rintro k rfl
      exact ⟨Nat.lt_of_lt_of_le (hlt k hSb) hst.size, .inl hSb⟩

/-! ### new blocks -/
theorem own_new (w : World) (o : Obj) : (own w.heap.size o).P (w.alloc o) (fun k => k = w.heap.size) := ⟨rfl, heap_alloc_new w o⟩

theorem mem_newBlk {w : World} (hm : Mem E U w) (o : Obj) : Mem E (own w.heap.size o :: U) (w.alloc o) :=
  hm.new (step_alloc w o) (own_new w o) (by rintro b rfl; simp)

theorem o_alloc {d : Nat} {t : TypeId} {ty : TypeId} {pos : String} {af : Array Edge} {g : Option (Nat × Bool)} {i : TI} (ht : tl E.T t = some i) (hd : Nat.ble (d + 1) E.n = true)
    (h : ∀ b, N ((d, .pointer (some ⟨b, 0, none⟩)) :: fr) (blk b t i.zero :: U)) : EV1 E ⟨some d, .alloc t, ty, pos, af, g⟩ fr U N := by
  intro a w hf hm
  obtain ⟨dd, sz, by_, z⟩ := i
  obtain ⟨inf, zv, hinf, hz, _, _, hzc⟩ := ti_info ht
  unfold Oper.wp execOp
  simp only [Instr.alloc, Sem.run_bind, run_zero hinf hz, Result.andThen_ok, newVar, newRow, run_newObj, Sem.run_pure, hzc]
  exact ⟨_, _, h w.heap.size, hf.put (Nat.le_of_ble_eq_true hd) _, mem_newBlk hm _⟩

theorem o_box {d : Nat} {t : TypeId} {x : Operand} {ty : TypeId} {pos : String} {af : Array Edge} {g : Option (Nat × Bool)} {cs : List Value} (hx : val fr x = some (.agg cs.toArray)) (hd : Nat.ble (d + 1) E.n = true)
    (h : ∀ b, N ((d, .pointer (some ⟨b, 0, none⟩)) :: fr) (blk b t cs :: U)) : EV1 E ⟨some d, .box t x, ty, pos, af, g⟩ fr U N := by
  intro a w hf hm
  unfold Oper.wp execOp
  simp only [Instr.box, hf.eval hx, Sem.run_bind, newVar, newRow, Value.cells, run_newObj, Result.andThen_ok, Sem.run_pure]
  exact ⟨_, _, h w.heap.size, hf.put (Nat.le_of_ble_eq_true hd) _, mem_newBlk hm _⟩

theorem o_box1 {d : Nat} {t : TypeId} {x : Operand} {ty : TypeId} {pos : String} {af : Array Edge} {g : Option (Nat × Bool)} {v : Value} (hx : val fr x = some v) (hv : oneB v = true) (hd : Nat.ble (d + 1) E.n = true)
    (h : ∀ b, N ((d, .pointer (some ⟨b, 0, none⟩)) :: fr) (blk b t [v] :: U)) : EV1 E ⟨some d, .box t x, ty, pos, af, g⟩ fr U N := by
  intro a w hf hm
  have hc : v.cells = [v].toArray := by cases v <;> simp_all [Value.cells, oneB]
  unfold Oper.wp execOp
  simp only [Instr.box, hf.eval hx, Sem.run_bind, newVar, newRow, hc, run_newObj, Result.andThen_ok, Sem.run_pure]
  exact ⟨_, _, h w.heap.size, hf.put (Nat.le_of_ble_eq_true hd) _, mem_newBlk hm _⟩

theorem o_makeMap {d : Nat} {t : TypeId} {ty : TypeId} {pos : String} {af : Array Edge} {g : Option (Nat × Bool)} (hd : Nat.ble (d + 1) E.n = true)
    (h : ∀ b, N ((d, .map (some b)) :: fr) (own b (.map #[] 0) :: U)) : EV1 E ⟨some d, .makeMap t none, ty, pos, af, g⟩ fr U N := by
  intro a w hf hm
  unfold Oper.wp execOp
  simp only [Instr.makeMap, Option.map_none, Sem.run_bind, newObj, Sem.run, Result.andThen_ok, Sem.run_pure, pure, Sem.bind, bind]
  exact ⟨_, _, h w.heap.size, hf.put (Nat.le_of_ble_eq_true hd) _, mem_newBlk hm _⟩

theorem maxLen_eq : maxLen = 9223372036854775807 := by unfold maxLen; rfl

theorem osl_alloc {w : World} {e : TypeId} {sz n : Nat} {cs : List Value} (hn : n ≤ maxLen) (hl : cs.length = n * sz) :
    (osl e sz (.slice (some ⟨w.heap.size, 0, none⟩) n n) n cs).P (w.alloc (.cells cs.toArray e)) (fun k => k = w.heap.size) := by
  refine ⟨⟨hl, .inr ⟨w.heap.size, n, cs.toArray, rfl, Nat.zero_le _, heap_alloc_new w _, Nat.le_refl _, hn, by simpa using hl, ?_⟩⟩, fun k hk => ?_⟩
  · simp [← hl]
  · simp [Value.ownBlock] at hk; exact hk.symm

/-- make([]T, n), an element of one cell. -/
theorem o_make {d : Nat} {t e : TypeId} {x y : Operand} {ty : TypeId} {pos : String} {af : Array Edge} {g : Option (Nat × Bool)} {s1 b1 : Nat} {z1 : List Value} {de : TD} {bytes : Nat} {z : Value}
    {k1 k2 : IntKind} {q q' : Int}
    (ht : tl E.T t = some ⟨.slice e, s1, b1, z1⟩) (he : tl E.T e = some ⟨de, 1, bytes, [z]⟩) (hx : val fr x = some (.int k1 q)) (hy : val fr y = some (.int k2 q'))
    (n : Nat) (hq : q = (n : Int)) (hq' : q' = (n : Int)) (hb : bytes * n ≤ 281474976710656) (h63 : n ≤ 9223372036854775807) (hd : Nat.ble (d + 1) E.n = true)
    (h : ∀ b, N ((d, .slice (some ⟨b, 0, none⟩) n n) :: fr) (osl e 1 (.slice (some ⟨b, 0, none⟩) n n) n (List.replicate n z) :: U)) : EV1 E ⟨some d, .makeSlice t x y, ty, pos, af, g⟩ fr U N := by
  intro a w hf hm
  obtain ⟨inf, zv, hinf, hz, hs, hby, hzc⟩ := ti_info he
  subst hq; subst hq'
  have hbi : (inf.bytes : Int) * (n : Int) ≤ 281474976710656 := by
    rw [hby]
    have : ((bytes * n : Nat) : Int) ≤ 281474976710656 := by omega
    rwa [Int.natCast_mul] at this
  have hr := run_make (P := E.P) w t e inf zv (u_slice ht) hinf hz k1 k2 n n (by omega) (Int.le_refl _) hbi (by omega)
  have hcl : (madeCells zv.cells ((n : Int).toNat * inf.size)) = (List.replicate n z).toArray := by
    rw [hs, Int.toNat_natCast, Nat.mul_one, hzc, ← toList_madeCells_one]
  rw [hcl, Int.toNat_natCast] at hr
  unfold Oper.wp execOp
  simp only [hf.eval hx, hf.eval hy, Sem.run_bind, hr, Result.andThen_ok, Sem.run_pure]
  refine ⟨_, _, h w.heap.size, hf.put (Nat.le_of_ble_eq_true hd) _, hm.new (step_alloc w _) (osl_alloc (by rw [maxLen_eq]; exact h63) (by simp)) ?_⟩
  rintro b rfl; simp

/-- make([]T, 0, n). -/
theorem o_make0 {d : Nat} {t e : TypeId} {x y : Operand} {ty : TypeId} {pos : String} {af : Array Edge} {g : Option (Nat × Bool)} {s1 b1 : Nat} {z1 : List Value} {i : TI}
    {k1 k2 : IntKind} {q' : Int}
    (ht : tl E.T t = some ⟨.slice e, s1, b1, z1⟩) (he : tl E.T e = some i) (hx : val fr x = some (.int k1 0)) (hy : val fr y = some (.int k2 q'))
    (n : Nat) (hq' : q' = (n : Int)) (hb : i.bytes * n ≤ 281474976710656) (h63 : n ≤ 9223372036854775807) (hd : Nat.ble (d + 1) E.n = true)
    (h : ∀ b, N ((d, .slice (some ⟨b, 0, none⟩) 0 n) :: fr) (osl e i.size (.slice (some ⟨b, 0, none⟩) 0 n) 0 [] :: U)) : EV1 E ⟨some d, .makeSlice t x y, ty, pos, af, g⟩ fr U N := by
  intro a w hf hm
  obtain ⟨dd, sz, bytes, z⟩ := i
  obtain ⟨inf, zv, hinf, hz, hs, hby, hzc⟩ := ti_info he
  subst hq'
  have hbi : (inf.bytes : Int) * (n : Int) ≤ 281474976710656 := by
    rw [hby]
    have : ((bytes * n : Nat) : Int) ≤ 281474976710656 := by simp only at hb; omega
    rwa [Int.natCast_mul] at this
  have hr := run_make (P := E.P) w t e inf zv (u_slice ht) hinf hz k1 k2 0 n (Int.le_refl _) (by omega) hbi (by omega)
  rw [Int.toNat_natCast] at hr
  unfold Oper.wp execOp
  simp only [hf.eval hx, hf.eval hy, Sem.run_bind, hr, Result.andThen_ok, Sem.run_pure]
  refine ⟨_, _, h w.heap.size, hf.put (Nat.le_of_ble_eq_true hd) _, hm.new (step_alloc w _) (T1 := fun k => k = w.heap.size) ⟨?_, ?_⟩ ?_⟩
  · have := World.ownsRow_made (base := 0) (e := e) (size := sz) w (madeCells zv.cells (n * inf.size)) n (Nat.zero_le _) (by rw [maxLen_eq]; exact h63) (by rw [hs]; exact size_madeCells _ _)
    exact this
  · intro k hk; simp [Value.ownBlock] at hk; exact hk.symm
  · rintro b rfl; simp

/-- A slice literal. -/
theorem o_lit {d : Nat} {t e : TypeId} {len : Nat} {parts : Array (Nat × Operand)} {ty : TypeId} {pos : String} {af : Array Edge} {g : Option (Nat × Bool)} {s1 b1 : Nat} {z1 : List Value} {i : TI}
    {ps : List (Nat × Value)} {cs : List Value}
    (ht : tl E.T t = some ⟨.slice e, s1, b1, z1⟩) (he : tl E.T e = some i) (hp : partVals fr parts.toList = some ps) (hsz : Nat.ble (len * i.size) 16777216 = true) (hln : Nat.ble len 16777216 = true)
    (hf0 : fillL ((List.range len).map fun j => (j * i.size, i.size)) ((List.range (len * i.size)).map fun j => i.zero[j % i.zero.length]!) ps = some cs) (hd : Nat.ble (d + 1) E.n = true)
    (h : ∀ b, N ((d, .slice (some ⟨b, 0, none⟩) len len) :: fr) (osl e i.size (.slice (some ⟨b, 0, none⟩) len len) len cs :: U)) : EV1 E ⟨some d, .buildSlice t len parts, ty, pos, af, g⟩ fr U N := by
  intro a w hf hm
  obtain ⟨dd, sz, bytes, z⟩ := i
  obtain ⟨inf, zv, hinf, hz, hs, hby, hzc⟩ := ti_info he
  have hparts : (parts.map (fun (x : Nat × Operand) => (x.1, a.eval x.2))).toList = ps := by rw [← hf.parts hp]; simp
  have hle := Nat.le_of_ble_eq_true hsz
  simp only at hle hf0
  have fillLen : ∀ (fs : List (Nat × Nat)) (ps : List (Nat × Value)) (c c' : List Value), fillL fs c ps = some c' → c'.length = c.length := by
    intro fs ps
    induction ps with
    | nil => intro c c' h; simp only [fillL, Option.some.injEq] at h; rw [h]
    | cons p ps ih =>
      intro c c' h
      obtain ⟨i, v⟩ := p
      simp only [fillL] at h
      split at h
      · cases h
      · split at h
        · cases h
        · split at h
          · rw [ih _ _ h, setMany_length]
          · cases h
  -- the places beyond the last are never asked: a fill that succeeds names none
  have fill2 : ∀ (ps : List (Nat × Value)) (cells cs : List Value), cells.length = len * sz → fillL ((List.range len).map fun j => (j * sz, sz)) cells ps = some cs →
      Instr.fill (fun i => some (i * sz, sz)) cells.toArray ps = some cs.toArray := by
    intro ps
    induction ps with
    | nil => intro cells cs _ h; simp only [fillL, Option.some.injEq] at h; subst h; rfl
    | cons p ps ih =>
      intro cells cs hcl h
      obtain ⟨i, v⟩ := p
      simp only [fillL, List.getElem?_map] at h
      unfold Instr.fill
      cases hi : (List.range len)[i]? with
      | none => simp [hi] at h
      | some i' =>
        have hii : i' = i := by
          rw [List.getElem?_eq_some_iff] at hi
          obtain ⟨_, h2⟩ := hi
          simpa using h2.symm
        subst hii
        simp only [hi, Option.map_some] at h
        by_cases h1 : v.cells.toList.length ≠ sz
        · rw [if_pos h1] at h; cases h
        · rw [if_neg h1] at h
          by_cases h2 : i' * sz + sz ≤ cells.length
          · rw [if_pos h2] at h
            have h1' : v.cells.size = sz := by simpa using h1
            have hc : (decide (v.cells.size ≠ sz) || decide (i' * sz + v.cells.size > cells.toArray.size)) = false := by
              simp [h1']; omega
            simp only [hc, Bool.false_eq_true, if_false]
            have := setMany_eq v.cells.toList cells.toArray (i' * sz) 0
            simp only [Nat.add_zero] at this
            rw [show (v.cells.zipIdx.foldl (fun cs (x : Value × Nat) => cs.setIfInBounds (i' * sz + x.2) x.1) cells.toArray) = (setMany cells (i' * sz) v.cells.toList).toArray from by
              rw [← this, ← Array.foldl_toList, Array.toList_zipIdx]]
            exact ih _ cs (by rw [setMany_length]; exact hcl) h
          · rw [if_neg h2] at h; cases h
  have hfill := fill2 ps _ cs (by simp) hf0
  have hcl : cs.length = len * sz := by rw [fillLen _ _ _ _ hf0]; simp
  have hr : (Instr.buildSlice t len (parts.map (fun (x : Nat × Operand) => (x.1, a.eval x.2)))).run E.P w = .ok (.slice (some ⟨w.heap.size, 0, none⟩) len len) (w.alloc (.cells cs.toArray e)) := by
    have hcells0 : ∀ zz : Array Value, len * sz = 0 → (Array.map (fun j => zz[j % zz.size]!) (Array.range (len * sz))) = ((List.range (len * sz)).map fun j => z[j % z.length]!).toArray := by
      intro zz h0; simp [h0]
    have hcells1 : (Array.map (fun j => zv.cells[j % zv.cells.size]!) (Array.range (len * sz))) = ((List.range (len * sz)).map fun j => z[j % z.length]!).toArray := by
      rw [hzc]; apply Array.toList_inj.1; simp
    unfold Instr.buildSlice
    simp only [Sem.run_bind, run_under (u_slice ht), Result.andThen_ok, run_size hinf]
    rw [if_neg (by rw [hs]; omega), hs]
    by_cases h0 : len * sz = 0
    · rw [if_pos h0]
      simp only [Sem.run_bind, Sem.run_pure, Result.andThen_ok, hparts, hcells0 _ h0, hfill]
      simp [newRow]
    · rw [if_neg h0]
      simp only [Sem.run_bind, run_zero hinf hz, Sem.run_pure, Result.andThen_ok, hparts, hcells1, hfill]
      simp [newRow]
  unfold Oper.wp execOp
  simp only [Sem.run_bind, hr, Result.andThen_ok, Sem.run_pure]
  refine ⟨_, _, h w.heap.size, hf.put (Nat.le_of_ble_eq_true hd) _, hm.new (step_alloc w _) (osl_alloc (by rw [maxLen_eq]; have := Nat.le_of_ble_eq_true hln; omega) hcl) ?_⟩
  rintro b rfl; simp

/-! ### append -/
theorem append_own2 {P : Program} (w : World) (t ty e : TypeId) (i : TypeInfo) (z : Value) (ht : P.underlying t = some (.slice e)) (hi : P.info? e = some i) (hz : i.zero = some z)
    (hzs : z.cells.size = i.size) (v : Value) (n : Nat) (xs : List Value) (hown : w.ownsRow 0 e i.size v n xs)
    (a : Addr) (m c : Nat) (news : List Value) (hl : news.length = m * i.size) (hnews : ∀ j u, news[j]? = some u → w.cell? (a.add j) = some u) (h1 : ∀ u ∈ news, u.oneCell' = true)
    (h63 : n + m ≤ 9223372036854775807) (hm0 : 0 < m) (hbytes : (n + m) * i.bytes ≤ 140737488355328) :
    ∃ b cap w', (Builtin.append_ #[t, t] ty #[v, .slice (some a) m c]).run P w = .ok (.slice (some ⟨b, 0, none⟩) (n + m) cap) w' ∧
      w'.ownsRow 0 e i.size (.slice (some ⟨b, 0, none⟩) (n + m) cap) (n + m) (xs ++ news) ∧ w.grownBy w' v.ownBlock ∧ (v.ownBlock = some b ∨ b = w.heap.size) := by
  have hlen : (xs ++ news).length = (n + m) * i.size := by rw [List.length_append, hown.1, hl, Nat.add_mul]
  have grown : ∀ (old : Nat) (row : Option Nat),
      (w.drew.alloc (.cells (xs.toArray ++ news.toArray ++ Builtin.zeroCells z.cells (grownCap w (n + m) old e - (n + m))) e)).ownsRow 0 e i.size
        (.slice (some ⟨w.heap.size, 0, none⟩) (n + m) (grownCap w (n + m) old e)) (n + m) (xs ++ news) ∧
      w.grownBy (w.drew.alloc (.cells (xs.toArray ++ news.toArray ++ Builtin.zeroCells z.cells (grownCap w (n + m) old e - (n + m))) e)) row := by
    intro old row
    have hge := grownCap_ge w (n + m) old e
    have hcm : grownCap w (n + m) old e ≤ maxLen := grownCap_le_maxLen w (n + m) old e (by rw [maxLen_eq]; exact h63)
    refine ⟨⟨hlen, .inr ⟨w.heap.size, _, _, rfl, Nat.zero_le _, heap_alloc_new w.drew _, hge, hcm, ?_, ?_⟩⟩, ⟨rfl, rfl, rfl, by simp, fun k hk _ => heap_alloc_old w.drew _ k hk⟩⟩
    · simp only [Array.size_append, List.size_toArray, size_zeroCells, hzs, hown.1, hl, ← Nat.add_mul]
      congr 1
      omega
    · simp only [Array.toList_append, List.append_assoc]
      rw [← List.append_assoc, ← hlen]
      exact List.take_left
  have hrest := hown.2
  rcases hrest with ⟨rfl, rfl⟩ | ⟨g, cap, cur, rfl, hbg, hg, hnc, hcm, hcs, htake⟩
  · have hx : xs = [] := List.eq_nil_of_length_eq_zero (by simpa using hown.1)
    subst hx
    have hr := run_append_nil (P := P) w t ty e i z ht hi hz a m c news hl hnews (by omega) (by omega) (by have hb := hbytes; simp only [Nat.zero_add] at hb; omega)
    have hgr := grown 0 (Value.ownBlock (.slice none 0 0))
    simp only [Nat.zero_add, List.nil_append, Array.empty_append] at hgr ⊢
    exact ⟨_, _, _, hr, hgr.1, hgr.2, .inr rfl⟩
  · by_cases hroom : n + m ≤ cap
    · have hfit : n * i.size + news.length ≤ cur.size := by rw [hl, hcs, ← Nat.add_mul]; exact Nat.mul_le_mul_right _ hroom
      have hr := run_append_room (P := P) w t ty e i ht hi g n cap cur hg a m c news hl hnews h1 hroom hfit
      refine ⟨g, _, _, hr, ⟨hlen, .inr ⟨g, cap, _, rfl, hbg, setRow_heap w g cur _ e _ hg, hroom, hcm, ?_, ?_⟩⟩, ⟨rfl, rfl, rfl, by simp, fun k _ hk => setRow_other w g k _ (fun e => hk (by simp [Value.ownBlock, e]))⟩, .inl rfl⟩
      · simp only [List.size_toArray, List.length_append, List.length_take, List.length_drop, Array.length_toList]
        omega
      · rw [htake, ← hlen]
        exact List.take_left
    · have holds : ∀ j u, xs[j]? = some u → w.cell? ((⟨g, 0, none⟩ : Addr).add j) = some u := hown.cells (g := g) rfl
      have hr := run_append_grow (P := P) w t ty e i z ht hi hz ⟨g, 0, none⟩ n cap xs hown.1 holds a m c news hl hnews (by omega) (by omega) (growslice_fits (by omega) hbytes)
      have hgr := grown cap (Value.ownBlock (.slice (some ⟨g, 0, none⟩) n cap))
      exact ⟨_, _, _, hr, hgr.1, hgr.2, .inr rfl⟩

theorem o_append {d : Nat} {t e : TypeId} {x y : Operand} {ty : TypeId} {pos : String} {af : Array Edge} {g : Option (Nat × Bool)} {s1 b1 : Nat} {z1 : List Value} {i : TI} {v : Value} {n : Nat} {xs : List Value}
    {g2 o2 m c2 : Nat} {news : List Value} (U' : Nat → Nat → List Asn)
    (ht : tl E.T t = some ⟨.slice e, s1, b1, z1⟩) (he : tl E.T e = some i) (hx : val fr x = some v) (hy : val fr y = some (.slice (some ⟨g2, o2, none⟩) m c2))
    (hsrc : ∀ w, Mem E U w → ∀ j u, news[j]? = some u → w.cell? ⟨g2, o2 + j, none⟩ = some u) (hl : news.length = m * i.size) (h1 : ∀ u ∈ news, oneB u = true)
    (hzl : Nat.beq i.zero.length i.size = true) (hm0 : 0 < m) (hby : (n + m) * i.bytes ≤ 140737488355328) (h63 : n + m ≤ 9223372036854775807) (hd : Nat.ble (d + 1) E.n = true)
    (hU : ∀ b c, Upd (osl e i.size v n xs) (osl e i.size (.slice (some ⟨b, 0, none⟩) (n + m) c) (n + m) (xs ++ news)) U (U' b c))
    (h : ∀ b c, N ((d, .slice (some ⟨b, 0, none⟩) (n + m) c) :: fr) (U' b c)) :
    EV1 E ⟨some d, .call ⟨.builtin .append, #[x, y], #[t, t]⟩, ty, pos, af, g⟩ fr U N := by
  intro a w hf hm
  obtain ⟨dd, sz, bytes, z⟩ := i
  obtain ⟨inf, zv, hinf, hzv, hs, hbb, hzc⟩ := ti_info he
  obtain ⟨_, ⟨hO0, _⟩, _⟩ := hm.upd (hU 0 0)
  have hzsize : zv.cells.size = inf.size := by rw [hzc, hs]; simpa using Nat.eq_of_beq_eq_true hzl
  simp only at hl hby hO0 hU
  subst hs
  subst hbb
  obtain ⟨b, c, w', hr, hO', hgr, hb⟩ := append_own2 (P := E.P) w t ty e inf zv (u_slice ht) hinf hzv hzsize v n xs hO0 ⟨g2, o2, none⟩ m c2 news hl
    (fun j u hu => by rw [add_at]; exact hsrc w hm j u hu) (fun u hu => oneB_eq (h1 u hu)) h63 hm0 hby
  obtain ⟨S1, ⟨hO, hS⟩, hlt, hk⟩ := hm.upd (hU b c)
  have hst := step_grown hgr
  have hblt : b < w'.heap.size := (World.ownsRow.lt hO' b rfl).2
  unfold Oper.wp execOp
  simp only [resolve, invoke, builtin, Sem.run_bind, Sem.run_pure, Result.andThen_ok, List.map_toArray, List.map_cons, List.map_nil, hf.eval hx, hf.eval hy, hr]
  refine ⟨_, _, h b c, hf.put (Nat.le_of_ble_eq_true hd) _, hk w' (fun k => k = b) ⟨hst.os, hst.tape, hst.output, hst.size, fun k hk1 hk2 => hst.same k hk1 (fun e => hk2 (hS k e.symm))⟩ ⟨hO', ?_⟩ ?_⟩
  · intro k hk; simp [Value.ownBlock] at hk; exact hk.symm
  · rintro k rfl
    refine ⟨hblt, ?_⟩
    rcases hb with h | h
    · exact .inl (hS k h)
    · exact .inr (by omega)

/-- append of a nil slice, or of one without elements: nothing is done. -/
theorem n_append0 {t e : TypeId} {x y : Operand} {s1 b1 : Nat} {z1 : List Value} {i : TI} {A B : Option Addr} {n c c2 : Nat}
    (ht : tl E.T t = some ⟨.slice e, s1, b1, z1⟩) (he : tl E.T e = some i) (hx : val fr x = some (.slice A n c)) (hy : val fr y = some (.slice B 0 c2)) (hnc : n ≤ c) :
    NEV E (.call ⟨.builtin .append, #[x, y], #[t, t]⟩) fr U (.slice A n c) := by
  intro a w dst ty pos af g hf _
  obtain ⟨dd, sz, bytes, z⟩ := i
  obtain ⟨inf, zv, hinf, hzv, hs, hbb, hzc⟩ := ti_info he
  have h2 : n + 0 ≤ c := by omega
  cases A <;> cases B <;>
    simp [execOp, resolve, invoke, builtin, hf.eval hx, hf.eval hy, Builtin.append_, run_under (u_slice ht), sizeOf, run_info hinf, Builtin.lenOf, hnc, Builtin.firstCells, loadCells, loadCellsFrom, storeCells]

end Go.Proofs.Ytbfjnldneemmiab.E
