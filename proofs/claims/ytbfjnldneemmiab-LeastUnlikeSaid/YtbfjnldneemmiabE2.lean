/-
  The engine, second part: operations that only compute.
-/
import Derived.Test.YtbfjnldneemmiabE1
namespace Go.Proofs.Ytbfjnldneemmiab.E
set_option linter.all false
variable {E : Env}

def vals (fr : Frm) : List Operand → Option (List Value)
  | [] => some []
  | x :: l => match val fr x, vals fr l with
    | some v, some vs => some (v :: vs)
    | _, _ => none

theorem Fr.evals {fr : Frm} {a : Act} (h : Fr E fr a) : ∀ {l : List Operand} {vs : List Value}, vals fr l = some vs → l.map a.eval = vs
  | [], vs, hv => by simp only [vals, Option.some.injEq] at hv; subst hv; rfl
  | x :: l, vs, hv => by
    simp only [vals] at hv
    cases hx : val fr x with
    | none => simp [hx] at hv
    | some v => cases hl : vals fr l with
      | none => simp [hx, hl] at hv
      | some us =>
        simp only [hx, hl, Option.some.injEq] at hv
        subst hv
        simp [h.eval hx, h.evals hl]

def intBin (op : BinOp) (k : IntKind) (a b : Int) : Option Value :=
  match op with
  | .add => some (.int k (k.wrap (a + b)))
  | .sub => some (.int k (k.wrap (a - b)))
  | .mul => some (.int k (k.wrap (a * b)))
  | .eql => some (.bool (a == b))
  | .neq => some (.bool (a != b))
  | .lss => some (.bool (decide (a < b)))
  | .leq => some (.bool (decide (a ≤ b)))
  | .gtr => some (.bool (decide (a > b)))
  | .geq => some (.bool (decide (a ≥ b)))
  | _ => none

def setMany : List Value → Nat → List Value → List Value
  | cells, _, [] => cells
  | cells, off, c :: cs => setMany (cells.set off c) (off + 1) cs

def fillL (fs : List (Nat × Nat)) : List Value → List (Nat × Value) → Option (List Value)
  | cells, [] => some cells
  | cells, (i, v) :: rest => match fs[i]? with
    | none => none
    | some (off, size) => if v.cells.toList.length ≠ size then none else if off + size ≤ cells.length then fillL fs (setMany cells off v.cells.toList) rest else none

def partVals (fr : Frm) : List (Nat × Operand) → Option (List (Nat × Value))
  | [] => some []
  | (i, x) :: l => match val fr x, partVals fr l with
    | some v, some vs => some ((i, v) :: vs)
    | _, _ => none

theorem Fr.parts {fr : Frm} {a : Act} (h : Fr E fr a) : ∀ {l : List (Nat × Operand)} {vs : List (Nat × Value)}, partVals fr l = some vs → l.map (fun (i, x) => (i, a.eval x)) = vs
  | [], vs, hv => by simp only [partVals, Option.some.injEq] at hv; subst hv; rfl
  | (i, x) :: l, vs, hv => by
    simp only [partVals] at hv
    cases hx : val fr x with
    | none => simp [hx] at hv
    | some v => cases hl : partVals fr l with
      | none => simp [hx, hl] at hv
      | some us =>
        simp only [hx, hl, Option.some.injEq] at hv
        subst hv
        simp [h.eval hx, h.parts hl]

/-- The value of an operation that only computes. -/
def peval (T : Tab) (fr : Frm) : Op → Option Value
  | .move x => val fr x
  | .assign x => val fr x
  | .pick c a b => match val fr c with
    | some (.bool true) => val fr a
    | some (.bool false) => val fr b
    | _ => none
  | .binOp op t x y _ => match val fr x, val fr y with
    | some (.int k a), some (.int k' b) => if k = k' then intBin op k a b else none
    | some (.bool a), some (.bool b) => match tl T t, op with
      | some ⟨.bool, _, _, _⟩, .eql => some (.bool (a == b))
      | some ⟨.bool, _, _, _⟩, .neq => some (.bool (!(a == b)))
      | _, _ => none
    | some (.string a), some (.string b) => match op with
      | .eql => some (.bool (a.toList == b.toList))
      | .neq => some (.bool (!(a.toList == b.toList)))
      | _ => none
    | _, _ => none
  | .unOp op _ x => match op, val fr x with
    | .not, some (.bool b) => some (.bool (!b))
    | .neg, some (.int k n) => some (.int k (k.wrap (0 - n)))
    | _, _ => none
  | .convert src dst x => match tl T src, tl T dst, val fr x with
    | some _, some ⟨.int k, _, _, _⟩, some (.int _ n) => some (.int k (k.wrap n))
    | _, _, _ => none
  | .nilCheck x => match val fr x with
    | some (.pointer (some a)) => some (.pointer (some a))
    | some (.func (.func f) l m) => some (.func (.func f) l m)
    | _ => none
  | .makeFunc fn first captured => match vals fr first.toList, vals fr captured.toList with
    | some a, some b => some (.func fn a.toArray b.toArray)
    | _, _ => none
  | .fieldAddr s x f => match tl T s, val fr x with
    | some ⟨.struct fs, _, _, _⟩, some (.pointer (some ⟨b, o, none⟩)) => match fs[f]? with
      | some (off, n + 1) => some (.pointer (some ⟨b, o + off, none⟩))
      | _ => none
    | _, _ => none
  | .extract x i => match val fr x with
    | some (.tuple vs) => vs.toList[i]?
    | _ => none
  | .build t parts => match tl T t, partVals fr parts.toList with
    | some ⟨.struct fs, _, _, z⟩, some ps => match fs.all (fun p => Nat.ble 1 p.2), fillL fs z ps with
      | true, some cs => some (.agg cs.toArray)
      | _, _ => none
    | _, _ => none
  | .call ⟨.builtin .len, args, ts⟩ => match args.toList, ts.toList with
    | [x], [t] => match tl T t, val fr x with
      | some ⟨.slice _, _, _, _⟩, some (.slice _ n _) => some (.int .i64 n)
      | some ⟨.str, _, _, _⟩, some (.string s) => some (.int .i64 s.size)
      | some ⟨.arr n _, _, _, _⟩, some _ => some (.int .i64 n)
      | _, _ => none
    | _, _ => none
  | .call ⟨.builtin .max, args, _⟩ => match args.toList with
    | [x, y] => match val fr x, val fr y with
      | some (.int k a), some (.int _ b) => some (.int k (if b > a then b else a))
      | _, _ => none
    | _ => none
  | .call ⟨.builtin .min, args, _⟩ => match args.toList with
    | [x, y] => match val fr x, val fr y with
      | some (.int k a), some (.int _ b) => some (.int k (if b < a then b else a))
      | _, _ => none
    | _ => none
  | _ => none

section facts
variable {t : TypeId} {i : TI}

theorem ti_under {d : TD} {s b : Nat} {z : List Value} (h : tl E.T t = some ⟨d, s, b, z⟩) : ∃ td, E.P.underlying t = some td ∧ tdOf E.P td = d := by
  have h2 := Env.ti h
  unfold tiOf at h2
  cases hi : E.P.info? t with
  | none => simp [hi] at h2
  | some inf => cases hu : E.P.underlying t with
    | none => simp [hi, hu] at h2
    | some td => cases hz : inf.zero with
      | none => simp [hi, hu, hz] at h2
      | some zz => simp [hi, hu, hz] at h2; exact ⟨td, rfl, h2.1⟩

theorem ti_info {d : TD} {s b : Nat} {z : List Value} (h : tl E.T t = some ⟨d, s, b, z⟩) :
    ∃ inf v, E.P.info? t = some inf ∧ inf.zero = some v ∧ inf.size = s ∧ inf.bytes = b ∧ v.cells = z.toArray := by
  have h2 := Env.ti h
  unfold tiOf at h2
  cases hi : E.P.info? t with
  | none => simp [hi] at h2
  | some inf => cases hu : E.P.underlying t with
    | none => simp [hi, hu] at h2
    | some td => cases hz : inf.zero with
      | none => simp [hi, hu, hz] at h2
      | some zz =>
        simp [hi, hu, hz] at h2
        refine ⟨inf, zz, rfl, hz, h2.2.1, h2.2.2.1, ?_⟩
        have := h2.2.2.2
        rw [← this]

theorem td_int {td : TypeDesc} {k : IntKind} (h : tdOf E.P td = .int k) : td = .int k := by
  cases td <;> simp_all [tdOf]
theorem td_bool {td : TypeDesc} (h : tdOf E.P td = .bool) : td = .bool := by
  cases td <;> simp_all [tdOf]
theorem td_str {td : TypeDesc} (h : tdOf E.P td = .str) : td = .string := by
  cases td <;> simp_all [tdOf]
theorem td_slice {td : TypeDesc} {e : TypeId} (h : tdOf E.P td = .slice e) : td = .slice e := by
  cases td <;> simp_all [tdOf]
theorem td_arr {td : TypeDesc} {n : Nat} {e : TypeId} (h : tdOf E.P td = .arr n e) : td = .array n e := by
  cases td <;> simp_all [tdOf]
theorem td_map {td : TypeDesc} {n : TypeId} {e : TypeId} (h : tdOf E.P td = .map n e) : td = .map n e := by
  cases td <;> simp_all [tdOf]
theorem td_ptr {td : TypeDesc} {e : TypeId} (h : tdOf E.P td = .ptr e) : td = .pointer e := by
  cases td <;> simp_all [tdOf]
theorem td_struct {td : TypeDesc} {fs : List (Nat × Nat)} (h : tdOf E.P td = .struct fs) : ∃ l, td = .struct l ∧ l.toList.map (fun f => (f.offset, E.P.cellsOf f.type)) = fs := by
  cases td <;> simp_all [tdOf]

theorem u_int {k : IntKind} {s b : Nat} {z : List Value} (h : tl E.T t = some ⟨.int k, s, b, z⟩) : E.P.underlying t = some (.int k) := by
  obtain ⟨td, h1, h2⟩ := ti_under h; rw [h1, td_int h2]
theorem u_bool {s b : Nat} {z : List Value} (h : tl E.T t = some ⟨.bool, s, b, z⟩) : E.P.underlying t = some .bool := by
  obtain ⟨td, h1, h2⟩ := ti_under h; rw [h1, td_bool h2]
theorem u_str {s b : Nat} {z : List Value} (h : tl E.T t = some ⟨.str, s, b, z⟩) : E.P.underlying t = some .string := by
  obtain ⟨td, h1, h2⟩ := ti_under h; rw [h1, td_str h2]
theorem u_slice {e : TypeId} {s b : Nat} {z : List Value} (h : tl E.T t = some ⟨.slice e, s, b, z⟩) : E.P.underlying t = some (.slice e) := by
  obtain ⟨td, h1, h2⟩ := ti_under h; rw [h1, td_slice h2]
theorem u_arr {n : Nat} {e : TypeId} {s b : Nat} {z : List Value} (h : tl E.T t = some ⟨.arr n e, s, b, z⟩) : E.P.underlying t = some (.array n e) := by
  obtain ⟨td, h1, h2⟩ := ti_under h; rw [h1, td_arr h2]
theorem u_map {n e : TypeId} {s b : Nat} {z : List Value} (h : tl E.T t = some ⟨.map n e, s, b, z⟩) : E.P.underlying t = some (.map n e) := by
  obtain ⟨td, h1, h2⟩ := ti_under h; rw [h1, td_map h2]
theorem u_ptr {e : TypeId} {s b : Nat} {z : List Value} (h : tl E.T t = some ⟨.ptr e, s, b, z⟩) : E.P.underlying t = some (.pointer e) := by
  obtain ⟨td, h1, h2⟩ := ti_under h; rw [h1, td_ptr h2]
theorem u_struct {fs : List (Nat × Nat)} {s b : Nat} {z : List Value} (h : tl E.T t = some ⟨.struct fs, s, b, z⟩) :
    ∃ l, E.P.underlying t = some (.struct l) ∧ l.toList.map (fun f => (f.offset, E.P.cellsOf f.type)) = fs := by
  obtain ⟨td, h1, h2⟩ := ti_under h
  obtain ⟨l, rfl, hl⟩ := td_struct h2
  exact ⟨l, h1, hl⟩
end facts

theorem run_under {P : Program} {w : World} {t : TypeId} {d : TypeDesc} (h : P.underlying t = some d) : (underlying t).run P w = .ok d w := by
  simp [underlying, h]
theorem run_info {P : Program} {w : World} {t : TypeId} {d : TypeInfo} (h : P.info? t = some d) : (typeInfo t).run P w = .ok d w := by
  simp [typeInfo, h]
theorem run_size {P : Program} {w : World} {t : TypeId} {d : TypeInfo} (h : P.info? t = some d) : (sizeOf t).run P w = .ok d.size w := by
  simp [sizeOf, run_info h]
theorem run_zero {P : Program} {w : World} {t : TypeId} {d : TypeInfo} {v : Value} (h : P.info? t = some d) (hz : d.zero = some v) : (zeroValue t).run P w = .ok v w := by
  simp [zeroValue, run_info h, hz]

theorem cellsOf_info {P : Program} {t : TypeId} {n : Nat} (h : P.cellsOf t = n + 1) : ∃ d, P.info? t = some d ∧ d.size = n + 1 := by
  unfold Program.cellsOf at h
  cases hi : P.info? t with
  | none => simp [hi] at h
  | some d => simp [hi] at h; exact ⟨d, rfl, h⟩

theorem add_at (b o n : Nat) : (⟨b, o, none⟩ : Addr).add n = ⟨b, o + n, none⟩ := by
  unfold Addr.add; split
  · rename_i h; subst h; rfl
  · rfl

theorem setMany_eq (l : List Value) : ∀ (cells : Array Value) (off k : Nat),
    ((l.zipIdx k).foldl (fun cs (p : Value × Nat) => cs.setIfInBounds (off + p.2) p.1) cells) = (setMany cells.toList (off + k) l).toArray := by
  induction l with
  | nil => intro cells off k; simp [setMany]
  | cons c l ih =>
    intro cells off k
    simp only [List.zipIdx_cons, List.foldl_cons, setMany]
    rw [ih]
    simp [Array.toList_setIfInBounds, Nat.add_assoc]

theorem setMany_length (l : List Value) : ∀ (cells : List Value) (off : Nat), (setMany cells off l).length = cells.length := by
  induction l with
  | nil => intro _ _; rfl
  | cons c l ih => intro cells off; simp [setMany, ih]

theorem fill_eq {fs : List (Nat × Nat)} (place : Nat → Option (Nat × Nat)) (hp : ∀ i, place i = fs[i]?) :
    ∀ (ps : List (Nat × Value)) (cells : List Value) (cs : List Value), fillL fs cells ps = some cs → Instr.fill place cells.toArray ps = some cs.toArray
  | [], cells, cs, h => by simp only [fillL, Option.some.injEq] at h; subst h; rfl
  | (i, v) :: rest, cells, cs, h => by
    simp only [fillL] at h
    unfold Instr.fill
    rw [hp i]
    cases hf : fs[i]? with
    | none => simp [hf] at h
    | some p =>
      obtain ⟨off, size⟩ := p
      simp only [hf] at h
      simp only
      by_cases h1 : v.cells.toList.length ≠ size
      · rw [if_pos h1] at h; cases h
      · rw [if_neg h1] at h
        by_cases h2 : off + size ≤ cells.length
        · rw [if_pos h2] at h
          have h1' : v.cells.size = size := by simpa using h1
          have hc : (decide (v.cells.size ≠ size) || decide (off + v.cells.size > cells.toArray.size)) = false := by
            simp [h1']; omega
          simp only [hc, Bool.false_eq_true, if_false]
          have := setMany_eq v.cells.toList cells.toArray off 0
          simp only [Nat.add_zero] at this
          rw [show (v.cells.zipIdx.foldl (fun cs (x : Value × Nat) => cs.setIfInBounds (off + x.2) x.1) cells.toArray) = (setMany cells off v.cells.toList).toArray from by
            rw [← this, ← Array.foldl_toList, Array.toList_zipIdx]]
          exact fill_eq place hp rest _ cs h
        · rw [if_neg h2] at h; cases h

theorem map_arr {α β : Type} (l : Array α) (f : α → β) : (l.toList.map f).toArray = l.map f := by
  apply Array.toList_inj.1; simp

theorem run_equalIn_bool {P : Program} {w : World} {t : TypeId} (n : Nat) (h : P.underlying t = some .bool) (a b : Bool) : (Op.equalIn (n + 1) t (.bool a) (.bool b)).run P w = .ok (a == b) w := by
  simp [Op.equalIn, run_under h]

theorem run_equal_bool {P : Program} {w : World} {t : TypeId} (h : P.underlying t = some .bool) (a b : Bool) : (Op.equal t (.bool a) (.bool b)).run P w = .ok (a == b) w := by
  exact run_equalIn_bool 9999 h a b

theorem mapM_sizes {P : Program} {w : World} : ∀ (l : List Field), (∀ f ∈ l, ∃ d, P.info? f.type = some d) →
    (l.mapM (fun f => do pure (f.offset, ← sizeOf f.type) : Field → Sem (Nat × Nat))).run P w = .ok (l.map fun f => (f.offset, P.cellsOf f.type)) w
  | [], _ => by simp
  | f :: l, h => by
    obtain ⟨d, hd⟩ := h f List.mem_cons_self
    have ih := mapM_sizes (P := P) (w := w) l (fun g hg => h g (List.mem_cons_of_mem _ hg))
    simp only [List.mapM_cons, Sem.run_bind, run_size hd, Result.andThen_ok, Sem.run_pure, ih, List.map_cons]
    simp [Program.cellsOf, hd]

theorem intBin_run {P : Program} {op : BinOp} {k : IntKind} {a b : Int} {v : Value} (t : TypeId) (x y : Operand) (h : intBin op k a b = some v) (w : World) :
    (do eqGuard op t x y (.int k a) (.int k b); binOp op t (.int k a) (.int k b) : Sem Value).run P w = .ok v w := by
  cases op <;> simp only [intBin, Option.some.injEq, reduceCtorEq] at h <;> subst h <;>
    simp [eqGuard, binOp, Op.intArith, Op.intCmp]

theorem peval_sound {U : List Asn} {fr : Frm} {o : Op} {v : Value} (h : peval E.T fr o = some v) : NEV E o fr U v := by
  intro a w dst ty pos af g hf _
  unfold execOp
  cases o with
  | move x => simp only [peval] at h; simp [hf.eval h]
  | assign x => simp only [peval] at h; simp [hf.eval h]
  | pick c x y =>
    simp only [peval] at h
    cases hc : val fr c with
    | none => simp [hc] at h
    | some u =>
      cases u <;> simp only [hc, reduceCtorEq] at h
      rename_i b
      cases b <;> simp [hf.eval hc, asBool, hf.eval h]
  | binOp op t x y ty' =>
    simp only [peval] at h
    cases hx : val fr x with
    | none => simp [hx] at h
    | some u => cases hy : val fr y with
      | none => cases u <;> simp [hx, hy] at h
      | some u' =>
        simp only [hf.eval hx, hf.eval hy]
        cases u <;> cases u' <;> simp only [hx, hy, reduceCtorEq] at h
        case bool.bool p q =>
          cases ht : tl E.T t with
          | none => simp [ht] at h
          | some i =>
            obtain ⟨d, s, b, z⟩ := i
            cases d <;> cases op <;> simp only [ht, reduceCtorEq, Option.some.injEq] at h
            · subst h; simp [eqGuard, binOp, run_equal_bool (u_bool ht)]
            · subst h; simp [eqGuard, binOp, run_equal_bool (u_bool ht)]
        case int.int k p k' q =>
          by_cases hk : k = k'
          · subst hk
            rw [if_pos rfl] at h
            have := intBin_run (P := E.P) t x y h w
            rw [Sem.run_bind, this]; rfl
          · rw [if_neg hk] at h; cases h
        case string.string p q =>
          cases op <;> simp only [reduceCtorEq, Option.some.injEq] at h
          · subst h; simp [eqGuard, binOp, Op.stringOp]
          · subst h; simp [eqGuard, binOp, Op.stringOp]
  | unOp op t x =>
    simp only [peval] at h
    cases op <;> cases hx : val fr x <;> simp only [hx, reduceCtorEq] at h <;> rename_i u <;> cases u <;> simp only [reduceCtorEq, Option.some.injEq] at h
    all_goals (subst h; simp [hf.eval hx, Op.unary, Op.intArith])
  | convert s d x =>
    simp only [peval] at h
    split at h
    · rename_i i0 k sz b z kk n hs ht hx
      simp only [Option.some.injEq] at h
      subst h
      obtain ⟨d0, s0, b0, z0⟩ := i0
      obtain ⟨sd, hsd, _⟩ := ti_under hs
      simp [hf.eval hx, convert, run_under (u_int ht), run_under hsd, Conv.intToInt]
    · cases h
  | nilCheck x =>
    simp only [peval] at h
    cases hx : val fr x with
    | none => simp [hx] at h
    | some u =>
      simp only [hf.eval hx]
      cases u <;> simp only [hx, reduceCtorEq] at h
      case pointer q =>
        cases q <;> simp only [reduceCtorEq, Option.some.injEq] at h
        subst h; simp
      case func fn l m =>
        cases fn <;> simp only [reduceCtorEq, Option.some.injEq] at h
        subst h; simp
  | makeFunc fn first captured =>
    simp only [peval] at h
    cases h1 : vals fr first.toList with
    | none => simp [h1] at h
    | some l1 => cases h2 : vals fr captured.toList with
      | none => simp [h1, h2] at h
      | some l2 =>
        simp only [h1, h2, Option.some.injEq] at h
        subst h
        have e1 : first.map a.eval = l1.toArray := by rw [← hf.evals h1, map_arr]
        have e2 : captured.map a.eval = l2.toArray := by rw [← hf.evals h2, map_arr]
        simp [e1, e2, Instr.makeFunc]
  | fieldAddr s x f =>
    simp only [peval] at h
    split at h
    · rename_i fs sz b z bb oo ht hx
      split at h
      · rename_i off n hfi
        simp only [Option.some.injEq] at h
        subst h
        obtain ⟨l, hu, hl⟩ := u_struct ht
        have hlf : (l.toList.map (fun f => (f.offset, E.P.cellsOf f.type)))[f]? = some (off, n + 1) := by rw [hl]; exact hfi
        simp only [List.getElem?_map, Option.map_eq_some_iff, Prod.mk.injEq] at hlf
        obtain ⟨fd, hfd, ho, hc⟩ := hlf
        obtain ⟨d, hd, hds⟩ := cellsOf_info hc
        have hfd' : l[f]? = some fd := by rw [← Array.getElem?_toList]; exact hfd
        simp [hf.eval hx, Instr.fieldAt, run_under hu, hfd', Instr.sureAddr, fieldPlace, run_size hd, hds, ho, add_at]
      · cases h
    · cases h
  | extract x i =>
    simp only [peval] at h
    cases hx : val fr x with
    | none => simp [hx] at h
    | some u =>
      cases u <;> simp only [hx, reduceCtorEq] at h
      rename_i vs
      have h' : vs[i]? = some v := by simpa using h
      simp [hf.eval hx, Instr.extract, h']
  | build t parts =>
    simp only [peval] at h
    cases ht : tl E.T t with
    | none => simp [ht] at h
    | some i =>
      obtain ⟨dd, sz, b, z⟩ := i
      cases dd <;> simp only [ht, reduceCtorEq] at h
      rename_i fs
      cases hp : partVals fr parts.toList with
      | none => simp [hp] at h
      | some ps =>
        simp only [hp] at h
        cases hall : fs.all (fun p => Nat.ble 1 p.2) with
        | false => simp [hall] at h
        | true => cases hfl : fillL fs z ps with
          | none => simp [hall, hfl] at h
          | some cs =>
            simp only [hall, hfl, Option.some.injEq] at h
            subst h
            obtain ⟨l, hu, hl⟩ := u_struct ht
            obtain ⟨inf, zv, hi, hz, _, _, hzc⟩ := ti_info ht
            have hsz : ∀ f ∈ l.toList, ∃ d, E.P.info? f.type = some d := by
              intro f hfm
              have : (f.offset, E.P.cellsOf f.type) ∈ fs := by rw [← hl]; exact List.mem_map.2 ⟨f, hfm, rfl⟩
              have := List.all_eq_true.1 hall _ this
              have h1 : 1 ≤ E.P.cellsOf f.type := Nat.le_of_ble_eq_true this
              obtain ⟨n, hn⟩ : ∃ n, E.P.cellsOf f.type = n + 1 := ⟨_, (Nat.sub_add_cancel h1).symm⟩
              obtain ⟨d, hd, _⟩ := cellsOf_info hn
              exact ⟨d, hd⟩
            have hm : (l.mapM (fun f => do pure (f.offset, ← sizeOf f.type) : Field → Sem (Nat × Nat))).run E.P w = .ok (l.map fun f => (f.offset, E.P.cellsOf f.type)) w := by
              rw [Array.mapM_eq_mapM_toList, Sem.run_map, mapM_sizes _ hsz, Result.andThen_ok, map_arr]
            have hpl : ∀ i : Nat, (l.map fun f => (f.offset, E.P.cellsOf f.type))[i]? = fs[i]? := by
              intro i; rw [← hl]; simp
            have hfill := fill_eq (fs := fs) (fun (i : Nat) => (l.map fun f => (f.offset, E.P.cellsOf f.type))[i]?) hpl ps z cs hfl
            have hparts : (parts.map (fun (x : Nat × Operand) => (x.1, a.eval x.2))).toList = ps := by rw [← hf.parts hp]; simp
            simp only [Instr.build, Sem.run_bind, run_zero hi hz, Result.andThen_ok, run_under hu, hm, hzc, hparts, hfill, Sem.run_pure]
  | call c =>
    obtain ⟨callee, args, ts⟩ := c
    cases callee with
    | value _ => simp [peval] at h
    | invoke _ _ => simp [peval] at h
    | builtin bi =>
      cases bi <;> simp only [peval, reduceCtorEq] at h
      case len =>
        split at h
        · rename_i x t hx ht
          obtain rfl : args = #[x] := by rw [← Array.toArray_toList (xs := args), hx]
          obtain rfl : ts = #[t] := by rw [← Array.toArray_toList (xs := ts), ht]
          split at h
          · rename_i e s b z aa n cc h1 h2
            simp only [Option.some.injEq] at h; subst h
            simp [resolve, invoke, builtin, Builtin.len_, run_under (u_slice h1), hf.eval h2, goInt]
          · rename_i s b z st h1 h2
            simp only [Option.some.injEq] at h; subst h
            simp [resolve, invoke, builtin, Builtin.len_, run_under (u_str h1), hf.eval h2, goInt]
          · rename_i n e s b z st h1 h2
            simp only [Option.some.injEq] at h; subst h
            simp [resolve, invoke, builtin, Builtin.len_, run_under (u_arr h1), goInt]
          · cases h
        · cases h
      case max =>
        split at h
        · rename_i x y hx
          obtain rfl : args = #[x, y] := by rw [← Array.toArray_toList (xs := args), hx]
          split at h
          · rename_i k p k' q h1 h2
            simp only [Option.some.injEq] at h; subst h
            simp [resolve, invoke, builtin, Builtin.max_, Builtin.max2, hf.eval h1, hf.eval h2]
          · cases h
        · cases h
      case min =>
        split at h
        · rename_i x y hx
          obtain rfl : args = #[x, y] := by rw [← Array.toArray_toList (xs := args), hx]
          split at h
          · rename_i k p k' q h1 h2
            simp only [Option.some.injEq] at h; subst h
            simp [resolve, invoke, builtin, Builtin.min_, Builtin.min2, hf.eval h1, hf.eval h2]
          · cases h
        · cases h
  | _ => simp [peval] at h

end Go.Proofs.Ytbfjnldneemmiab.E
