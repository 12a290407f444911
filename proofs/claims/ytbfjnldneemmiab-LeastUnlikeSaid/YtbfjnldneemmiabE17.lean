/-
  The engine, seventeenth part: maps.
-/
import Derived.Test.YtbfjnldneemmiabE16
import Derived.MapKept
import Derived.ChangeKeysEq
import Derived.Laws.StructEq
namespace Go.Proofs.Ytbfjnldneemmiab.E
set_option linter.all false
variable {E : Env} {fr : Frm} {U V : List Asn} {N : Frm → List Asn → Prop}

section keys
variable {κ : Type} [DecidableEq κ]

/-- Where a key is among pairs; what stands there. -/
def findK (k : κ) : List (κ × Value) → Nat → Option (Nat × Value)
  | [], _ => none
  | p :: l, i => if p.1 = k then some (i, p.2) else findK k l (i + 1)

/-- Pairs, a key set. -/
def setK (k : κ) (v : Value) : List (κ × Value) → List (κ × Value)
  | [] => [(k, v)]
  | p :: l => if p.1 = k then (k, v) :: l else p :: setK k v l

def lookK (l : List (κ × Value)) (k : κ) : Option Value := (l.find? fun p => decide (p.1 = k)).map (·.2)

theorem findK_look (k : κ) : ∀ (l : List (κ × Value)) (i : Nat), (findK k l i).map (·.2) = lookK l k
  | [], _ => rfl
  | p :: l, i => by
    unfold findK lookK
    by_cases h : p.1 = k
    · rw [if_pos h, List.find?_cons_of_pos (by simpa using h)]; rfl
    · rw [if_neg h, List.find?_cons_of_neg (by simpa using h)]
      exact findK_look k l (i + 1)

theorem findK_set (k : κ) (v : Value) : ∀ (l : List (κ × Value)) (i : Nat),
    (findK k l i = none → setK k v l = l ++ [(k, v)]) ∧ ∀ j u, findK k l i = some (j, u) → ∃ d, j = i + d ∧ ∃ (h : d < l.length), l[d].1 = k ∧ setK k v l = l.set d (k, v)
  | [], i => ⟨fun _ => rfl, fun j u h => by cases h⟩
  | p :: l, i => by
    unfold findK setK
    by_cases h : p.1 = k
    · rw [if_pos h, if_pos h]
      refine ⟨fun h => (by cases h), fun j u h2 => ?_⟩
      simp only [Option.some.injEq, Prod.mk.injEq] at h2
      exact ⟨0, h2.1.symm, by simp, h, rfl⟩
    · rw [if_neg h, if_neg h]
      obtain ⟨h1, h2⟩ := findK_set k v l (i + 1)
      refine ⟨fun h3 => by rw [h1 h3]; rfl, fun j u h3 => ?_⟩
      obtain ⟨d, rfl, hd, hk, hs⟩ := h2 j u h3
      exact ⟨d + 1, by omega, by simpa using hd, by simpa using hk, by rw [hs]; rfl⟩

theorem look_set (k k' : κ) (v : Value) : ∀ (l : List (κ × Value)), lookK (setK k v l) k' = if k' = k then some v else lookK l k'
  | [] => by
    unfold setK lookK
    by_cases h : k' = k
    · rw [if_pos h]; simp [h]
    · rw [if_neg h]; have : ¬ k = k' := fun e => h e.symm; simp [this]
  | p :: l => by
    have ih := look_set k k' v l
    unfold setK
    by_cases h : p.1 = k
    · rw [if_pos h]
      unfold lookK at ih ⊢
      by_cases h2 : k' = k
      · rw [if_pos h2]; simp [h2]
      · have h3 : ¬ k = k' := fun e => h2 e.symm
        have h4 : ¬ p.1 = k' := fun e => h2 (e ▸ h)
        rw [if_neg h2]; simp [h3, h4]
    · rw [if_neg h]
      unfold lookK at ih ⊢
      by_cases h2 : p.1 = k'
      · have : ¬ k' = k := fun e => h (h2.trans e)
        rw [if_neg this]; simp [h2]
      · rw [List.find?_cons_of_neg (by simpa using h2), List.find?_cons_of_neg (by simpa using h2)]
        exact ih

theorem setK_len (k : κ) (v : Value) : ∀ (l : List (κ × Value)), (setK k v l).length = if lookK l k = none then l.length + 1 else l.length
  | [] => rfl
  | p :: l => by
    have ih := setK_len k v l
    unfold setK
    by_cases h : p.1 = k
    · rw [if_pos h]
      have : lookK (p :: l) k ≠ none := by unfold lookK; rw [List.find?_cons_of_pos (by simpa using h)]; simp
      rw [if_neg this]; rfl
    · rw [if_neg h]
      have : lookK (p :: l) k = lookK l k := by unfold lookK; rw [List.find?_cons_of_neg (by simpa using h)]
      rw [this, List.length_cons, ih, List.length_cons]
      split <;> rfl

/-- How keys of a kind are found. -/
structure MKey (P : Program) (kt : TypeId) (enc : κ → Value) : Prop where
  check : ∀ (w : World) (e : Bool) (k : κ), (Instr.checkKey e 10000 kt (enc k)).run P w = .ok () w
  find : ∀ (w : World) (k : κ) (es : List MapEntry) (l : List (κ × Value)), es.map (fun e => (e.key, e.val)) = l.map (fun p => (enc p.1, p.2)) → (Instr.findKey kt (enc k) es).run P w = .ok (findK k l 0) w
  stays : ∀ (w : World) (k : κ), (Instr.keyThatStays (enc k) (enc k)).run P w = .ok (enc k) w

/-- A map of one's own: its pairs, in the order in which they came. -/
def mapA (enc : κ → Value) (b : Nat) (l : List (κ × Value)) : Asn where
  P := fun w S => S b ∧ ∃ (es : Array MapEntry) (clock : Nat), w.heap[b]? = some (.map es clock) ∧ es.toList.map (fun e => (e.key, e.val)) = l.map (fun p => (enc p.1, p.2))
  fr := fun _ _ _ h ⟨h1, es, c, h2, h3⟩ => ⟨h1, es, c, (h b h1).trans h2, h3⟩

theorem o_newMap {d : Nat} {t : TypeId} {ty : TypeId} {pos : String} {af : Array Edge} {g : Option (Nat × Bool)} (enc : κ → Value) (hd : Nat.ble (d + 1) E.n = true)
    (h : ∀ b, N ((d, .map (some b)) :: fr) (mapA enc b ([] : List (κ × Value)) :: U)) : EV1 E ⟨some d, .makeMap t none, ty, pos, af, g⟩ fr U N := by
  intro a w hf hm
  unfold Oper.wp execOp
  simp only [Instr.makeMap, newObj]
  refine ⟨_, _, h w.heap.size, hf.put (Nat.le_of_ble_eq_true hd) _, hm.new (T1 := fun k => k = w.heap.size) (step_alloc w (.map #[] 0)) ⟨rfl, #[], 0, heap_alloc_new w _, rfl⟩ ?_⟩
  rintro b rfl
  exact ⟨by simp, Nat.le_refl _⟩

theorem n_lookup {P : Program} {t kt e : TypeId} {s1 b1 : Nat} {z1 : List Value} {z : Value} {x y : Operand} {b : Nat} {k : κ} {enc : κ → Value} {l : List (κ × Value)} {U' : List Asn} (hP : E.P = P) (K : MKey P kt enc) (hz : ∀ w, (zeroValue e).run P w = .ok z w)
    (ht : tl E.T t = some ⟨.map kt e, s1, b1, z1⟩) (hx : val fr x = some (.map (some b))) (hy : val fr y = some (enc k)) (hU : Tak (mapA enc b l) U U') :
    NEV E (.lookup t x y false) fr U ((lookK l k).getD z) := by
  subst hP
  intro a w dst ty pos af g hf hm
  obtain ⟨S1, ⟨_, es, clock, hb, hes⟩, _⟩ := hm.tak hU
  have hf2 := K.find w k es.toList l hes
  have hl := findK_look k l 0
  have hr : (Instr.lookup t (.map (some b)) (enc k) false).run E.P w = .ok ((lookK l k).getD z) w := by
    rw [← hl]
    cases hfk : findK k l 0 with
    | none => rw [hfk] at hf2; simp [Instr.lookup, run_under (u_map ht), MapKept.run_getObj_map hb, K.check, hf2, hz, Result.andThen]
    | some q => rw [hfk] at hf2; simp [Instr.lookup, run_under (u_map ht), MapKept.run_getObj_map hb, K.check, hf2, Result.andThen]
  simp [execOp, hf.eval hx, hf.eval hy, hr]

theorem n_lookup2 {P : Program} {t kt e : TypeId} {s1 b1 : Nat} {z1 : List Value} {z : Value} {x y : Operand} {b : Nat} {k : κ} {enc : κ → Value} {l : List (κ × Value)} {U' : List Asn} (hP : E.P = P) (K : MKey P kt enc) (hz : ∀ w, (zeroValue e).run P w = .ok z w)
    (ht : tl E.T t = some ⟨.map kt e, s1, b1, z1⟩) (hx : val fr x = some (.map (some b))) (hy : val fr y = some (enc k)) (hU : Tak (mapA enc b l) U U') :
    NEV E (.lookup t x y true) fr U (.tuple #[(lookK l k).getD z, .bool (lookK l k).isSome]) := by
  subst hP
  intro a w dst ty pos af g hf hm
  obtain ⟨S1, ⟨_, es, clock, hb, hes⟩, _⟩ := hm.tak hU
  have hf2 := K.find w k es.toList l hes
  have hl := findK_look k l 0
  have hr : (Instr.lookup t (.map (some b)) (enc k) true).run E.P w = .ok (.tuple #[(lookK l k).getD z, .bool (lookK l k).isSome]) w := by
    rw [← hl]
    cases hfk : findK k l 0 with
    | none => rw [hfk] at hf2; simp [Instr.lookup, run_under (u_map ht), MapKept.run_getObj_map hb, K.check, hf2, hz, Result.andThen]
    | some q => rw [hfk] at hf2; simp [Instr.lookup, run_under (u_map ht), MapKept.run_getObj_map hb, K.check, hf2, Result.andThen]
  simp [execOp, hf.eval hx, hf.eval hy, hr]

theorem o_mapUpdate {P : Program} {t kt e : TypeId} {s1 b1 : Nat} {z1 : List Value} {x y z : Operand} {v : Value} {ty : TypeId} {pos : String} {af : Array Edge} {g : Option (Nat × Bool)} {b : Nat} {k : κ} {enc : κ → Value} {l : List (κ × Value)} {U' : List Asn} (hP : E.P = P) (K : MKey P kt enc)
    (ht : tl E.T t = some ⟨.map kt e, s1, b1, z1⟩) (hx : val fr x = some (.map (some b))) (hy : val fr y = some (enc k)) (hz : val fr z = some v) (hU : Upd (mapA enc b l) (mapA enc b (setK k v l)) U U') (h : N fr U') :
    EV1 E ⟨none, .mapUpdate t x y z, ty, pos, af, g⟩ fr U N := by
  subst hP
  intro a w hf hm
  obtain ⟨S1, ⟨hS, es, clock, hb, hes⟩, hlt, hk⟩ := hm.upd hU
  have hf2 := K.find w k es.toList l hes
  have hblt : b < w.heap.size := hlt b hS
  have hlen : es.size = l.length := by have := congrArg List.length hes; simpa using this
  have key : ∃ es' clock', (Instr.mapUpdate t (.map (some b)) (enc k) v).run E.P w = .ok () { w with heap := w.heap.setIfInBounds b (.map es' clock') } ∧ es'.toList.map (fun e => (e.key, e.val)) = (setK k v l).map (fun p => (enc p.1, p.2)) := by
    obtain ⟨h1, h2⟩ := findK_set k v l 0
    cases hfk : findK k l 0 with
    | none =>
      rw [hfk] at hf2
      refine ⟨es.push { key := enc k, val := v, born := clock }, clock + 1, ?_, ?_⟩
      · simp [Instr.mapUpdate, run_under (u_map ht), MapKept.run_getObj_map hb, K.check, hf2, MapKept.run_setObj_map _ hb, Result.andThen]
      · rw [h1 hfk]; simp [hes]
    | some q =>
      obtain ⟨j, u⟩ := q
      rw [hfk] at hf2
      obtain ⟨d, hjd, hd, hkd, hs⟩ := h2 j u hfk
      rw [Nat.zero_add] at hjd
      subst hjd
      have hjs : j < es.size := by omega
      have hkey : es[j].key = enc k := by
        have h3 : (es.toList.map (fun e => (e.key, e.val)))[j]? = some (es[j].key, es[j].val) := by
          rw [List.getElem?_map, List.getElem?_eq_getElem (by simpa using hjs)]; simp
        rw [hes, List.getElem?_map, List.getElem?_eq_getElem hd, Option.map_some, Option.some.injEq, Prod.mk.injEq] at h3
        rw [← h3.1, hkd]
      refine ⟨es.modify j fun e => { e with key := enc k, val := v }, clock, ?_, ?_⟩
      · simp [Instr.mapUpdate, run_under (u_map ht), MapKept.run_getObj_map hb, K.check, hf2, hjs, hkey, K.stays, MapKept.run_setObj_map _ hb, Result.andThen]
      · rw [hs]
        apply List.ext_getElem?
        intro i
        have hei := congrArg (fun l => l[i]?) hes
        simp only [List.getElem?_map] at hei
        simp only [List.getElem?_map, Array.toList_modify, List.getElem?_modify, List.getElem?_set]
        by_cases hij : j = i
        · subst hij
          rw [if_pos rfl, if_pos hd, List.getElem?_eq_getElem (by simpa using hjs)]; simp
        · rw [if_neg hij]
          cases hx2 : es.toList[i]? with
          | none => rw [hx2] at hei; simpa [hij] using hei
          | some x => rw [hx2] at hei; simpa [hij] using hei
  obtain ⟨es', clock', hrun, hes'⟩ := key
  unfold Oper.wp execOp
  simp only [hf.eval hx, hf.eval hy, hf.eval hz, Sem.run_bind, hrun, Result.andThen_ok, Sem.run_pure]
  have hset : ∀ q : Nat, q ≠ b → ({ w with heap := w.heap.setIfInBounds b (.map es' clock') } : World).heap[q]? = w.heap[q]? := fun q hq => by
    simp [Array.getElem?_setIfInBounds_ne (Ne.symm hq)]
  refine ⟨_, _, h, hf.put_none _, hk _ S1 ⟨rfl, rfl, rfl, by simp, fun q hq hn => hset q (fun e => hn (e ▸ hS))⟩ ⟨hS, es', clock', by simp [hblt], hes'⟩ (fun q hq => ⟨by simpa using hlt q hq, .inl hq⟩)⟩

theorem n_lenM {t kt e : TypeId} {s1 b1 : Nat} {z1 : List Value} {x : Operand} {b : Nat} {enc : κ → Value} {l : List (κ × Value)} {U' : List Asn}
    (ht : tl E.T t = some ⟨.map kt e, s1, b1, z1⟩) (hx : val fr x = some (.map (some b))) (hU : Tak (mapA enc b l) U U') :
    NEV E (.call ⟨.builtin .len, #[x], #[t]⟩) fr U (.int .i64 (l.length : Nat)) := by
  intro a w dst ty pos af g hf hm
  obtain ⟨S1, ⟨_, es, clock, hb, hes⟩, _⟩ := hm.tak hU
  have hlen : es.size = l.length := by have := congrArg List.length hes; simpa using this
  simp [execOp, resolve, invoke, builtin, hf.eval hx, Builtin.len_, run_under (u_map ht), MapKept.run_getObj_map hb, hlen, goInt, Result.andThen]

end keys

/-! ### keys -/
def encI (k : Int) : Value := .int .i64 k
def encI2 (k : Int × Int) : Value := .agg #[.int .i64 k.1, .int .i64 k.2]

theorem mkey_int {P : Program} {kt : TypeId} (hu : P.underlying kt = some (.int .i64)) : MKey P kt encI where
  check := fun w e k => MapKept.run_checkKey hu (by simp [MapKept.IsKey, encI]) e 9999
  find := fun w k es l h => by
    have hf : ∀ (es : List MapEntry) (l : List (Int × Value)) (i : Nat), es.map (fun e => (e.key, e.val)) = l.map (fun p => (encI p.1, p.2)) → Instr.findNow (.int .i64) (encI k) es i = some (findK k l i) := by
      intro es
      induction es with
      | nil =>
        intro l i h
        cases l with
        | nil => rfl
        | cons p l => simp at h
      | cons e es ih =>
        intro l i h
        cases l with
        | nil => simp at h
        | cons p l =>
          simp only [List.map_cons, List.cons.injEq, Prod.mk.injEq] at h
          obtain ⟨⟨h1, h2⟩, h3⟩ := h
          unfold Instr.findNow findK
          rw [h1]
          simp only [encI, Instr.sameNow, if_true]
          by_cases hk : p.1 = k
          · rw [if_pos hk, hk]; simp [h2]
          · have : (k == p.1) = false := by simp; exact fun e => hk e.symm
            rw [if_neg hk, this]
            exact ih l (i + 1) h3
    simp [Instr.findKey, run_underlying hu, Result.andThen, hf es l 0 h]
  stays := fun w k => by simp [Instr.keyThatStays, encI, Instr.sameBits]

theorem mkey_int2 {P : Program} {kt e : TypeId} {ie : TypeInfo} (hu : P.underlying kt = some (.array 2 e)) (he : P.underlying e = some (.int .i64)) (hi : P.info? e = some ie) (hs : ie.size = 1) : MKey P kt encI2 := by
  have hpk : P.plainKey e = true := by unfold Program.plainKey; rw [he]
  have hsz : ∀ w : World, (sizeOf e).run P w = .ok 1 w := fun w => by simp [sizeOf, run_info hi, hs]
  have p0 : ∀ (w : World) (a b : Int), (part e #[.int .i64 a, .int .i64 b] 0).run P w = .ok (.int .i64 a) w := fun w a b => run_part_plain (P := P) w hpk rfl
  have p1 : ∀ (w : World) (a b : Int), (part e #[.int .i64 a, .int .i64 b] 1).run P w = .ok (.int .i64 b) w := fun w a b => run_part_plain (P := P) w hpk rfl
  have hck : ∀ (w : World) (em : Bool) (a : Int), (Instr.checkKey em 9999 e (.int .i64 a)).run P w = .ok () w := fun w em a => MapKept.run_checkKey he (by simp [MapKept.IsKey]) em 9998
  have heq : ∀ (w : World) (a b : Int), (Op.equalIn 9999 e (.int .i64 a) (.int .i64 b)).run P w = .ok (a == b) w := fun w a b => run_equalIn_int w 9998 e .i64 .i64 a b he
  have hE : ∀ (w : World) (j k : Int × Int), (Op.equal kt (encI2 j) (encI2 k)).run P w = .ok (decide (j = k)) w := by
    intro w ⟨a, b⟩ ⟨c, d⟩
    unfold Op.equal Op.maxDepth Op.equalIn
    simp only [encI2, Sem.run_bind, run_under hu, Result.andThen_ok, hsz]
    rw [Std.Legacy.Range.forIn_eq_forIn_range']
    have e1 : List.range' ([:2] : Std.Legacy.Range).start ([:2] : Std.Legacy.Range).size ([:2] : Std.Legacy.Range).step = [0, 1] := rfl
    rw [e1]
    simp only [List.forIn_cons, List.forIn_nil, Sem.run_bind, Nat.zero_mul, Nat.one_mul, p0, p1, heq, Result.andThen_ok]
    cases ha : a == c <;> cases hb : b == d <;> simp_all
  refine ⟨fun w em k => ?_, fun w k es l h => ?_, fun w k => by simp [Instr.keyThatStays, encI2, Instr.sameBits]⟩
  · unfold Instr.checkKey
    simp only [encI2, Sem.run_bind, run_under hu, Result.andThen_ok]
    rw [Std.Legacy.Range.forIn_eq_forIn_range']
    have e1 : List.range' ([:2] : Std.Legacy.Range).start ([:2] : Std.Legacy.Range).size ([:2] : Std.Legacy.Range).step = [0, 1] := rfl
    rw [e1]
    simp only [List.forIn_cons, List.forIn_nil, Sem.run_bind, Nat.zero_mul, Nat.one_mul, hsz, p0, p1, hck, Result.andThen_ok, Sem.run_pure]
  · have hA : ∀ (es : List MapEntry) (l : List ((Int × Int) × Value)) (i : Nat), es.map (fun e => (e.key, e.val)) = l.map (fun p => (encI2 p.1, p.2)) → (Instr.findAsking kt (encI2 k) es i).run P w = .ok (findK k l i) w := by
      intro es
      induction es with
      | nil =>
        intro l i h
        cases l with
        | nil => simp [Instr.findAsking, findK]
        | cons p l => simp at h
      | cons e es ih =>
        intro l i h
        cases l with
        | nil => simp at h
        | cons p l =>
          simp only [List.map_cons, List.cons.injEq, Prod.mk.injEq] at h
          obtain ⟨⟨h1, h2⟩, h3⟩ := h
          unfold Instr.findAsking findK
          rw [h1]
          simp only [Sem.run_bind, hE, Result.andThen_ok]
          by_cases hk : p.1 = k
          · rw [if_pos hk, hk]; simp [h2]
          · have : ¬ k = p.1 := fun e => hk e.symm
            rw [if_neg hk]
            simp only [this, decide_false, Bool.false_eq_true, if_false]
            exact ih l (i + 1) h3
    cases es with
    | nil =>
      cases l with
      | nil => simp [Instr.findKey, run_underlying hu, Result.andThen, Instr.findNow, findK]
      | cons p l => simp at h
    | cons e0 es =>
      have hn : Instr.findNow (.array 2 e) (encI2 k) (e0 :: es) 0 = none := by simp [Instr.findNow, Instr.sameNow, encI2]
      simp only [Instr.findKey, Sem.run_bind, run_underlying hu, Result.andThen_ok, hn]
      exact hA (e0 :: es) l 0 h

end Go.Proofs.Ytbfjnldneemmiab.E
