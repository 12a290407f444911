/-
  Part 2 of what the law's walk stands on: lemmas and contracts, each proved here without a condition but those that it names.
-/
import Derived.Test.YtcnpjhaedjncdaaGreatDoorArBase1
import Derived.MapKept
import Derived.ChangeKeysEq
import Derived.Laws.StructEq
import Derived.Test.YtcnpjhaedjncdaaGreatDoorProg
import Derived.KernelRfl

namespace Go.Proofs.YtcnpjhaedjncdaaGreatDoor.E
set_option linter.all false
variable {E : Env} {fr : Frm} {U V : List Asn} {N : Frm → List Asn → Prop} {K : Frm → List Asn → Prop} {k : List It} {ops : Array Oper}

/-! ### makers, and two operations behind them -/
/-! ### copies -/
/-- append(nil, l...): a copy of a slice that is read, as one's own. -/
theorem o_copyO {α : Type} {k : Kd α} {bytes : Nat} {d : Nat} {t e : TypeId} {x y : Operand} {ty : TypeId} {pos : String} {af : Array Edge} {g : Option (Nat × Bool)} {s1 b1 : Nat} {z1 : List Value} {i : TI}
    {A : Option Addr} {n c : Nat} {xs : List α} (enc : α → List Value) (hk : ∀ w S cs x, k.R w S cs x → cs = enc x) (ho : OneC k)
    (ht : tl E.T t = some ⟨.slice e, s1, b1, z1⟩) (he : tl E.T e = some i) (hx : val fr x = some (.slice none 0 0)) (hy : val fr y = some (.slice A n c)) (hn : n = xs.length)
    (hr : Can E U ((kslice bytes k).rd [.slice A n c] xs)) (hsz : i.size = k.sz) (hbb : i.bytes = bytes) (hby : n * bytes ≤ 140737488355328) (hp : Nat.ble 1 bytes = true)
    (hzl : Nat.beq i.zero.length i.size = true) (hd : Nat.ble (d + 1) E.n = true)
    (h : ∀ A' c', N ((d, .slice A' n c') :: fr) (osl e k.sz (.slice A' n c') n (xs.flatMap enc) :: U)) :
    EV1 E ⟨some d, .call ⟨.builtin .append, #[x, y], #[t, t]⟩, ty, pos, af, g⟩ fr U N := by
  have hp' := Nat.le_of_ble_eq_true hp
  intro a w hfr hm
  obtain ⟨S, hs, hS⟩ := hm.own
  obtain ⟨A2, c2, hA, hc, _, hels⟩ := hr w S hm.same hs
  simp only [List.cons.injEq, Value.slice.injEq, and_true] at hA
  obtain ⟨rfl, _, rfl⟩ := hA
  by_cases hn0 : n = 0
  · subst hn0
    have hxs : xs = [] := List.eq_nil_of_length_eq_zero hn.symm
    subst hxs
    have h0 := n_append0 (E := E) (fr := fr) (U := U) (c := 0) ht he hx hy (Nat.le_refl _) a w (some d) ty pos af g hfr hm
    unfold Oper.wp
    rw [h0]
    exact ⟨_, _, h none 0, hfr.put (Nat.le_of_ble_eq_true hd) _, hm.ent (Ent.osl0 (Ent.refl _))⟩
  · have hx0 : 0 < xs.length := by omega
    obtain ⟨b, o, es, rfl, _, _, _⟩ := hels 0 hx0
    obtain ⟨ess, hl, hR, hlen, hcell⟩ := els_cells hels
    have h63 : n ≤ 9223372036854775807 := by
      have : n * 1 ≤ n * bytes := Nat.mul_le_mul_left _ hp'
      omega
    have hfl : ess.flatten.length = n * i.size := by
      rw [List.length_flatten, hsz, hn, ← hl]
      have : ess.map List.length = ess.map fun _ => k.sz := List.map_congr_left hlen
      rw [this]
      clear this hcell hR hlen hl
      induction ess with
      | nil => simp
      | cons e0 ess ih => simp only [List.map_cons, List.sum_cons, ih, List.length_cons, Nat.succ_mul]; omega
    have hone : ∀ u ∈ ess.flatten, oneB u = true := by
      intro u hu
      rw [List.mem_flatten] at hu
      obtain ⟨es', hes, hu⟩ := hu
      obtain ⟨i', hi', rfl⟩ := List.getElem_of_mem hes
      exact ho w _ _ _ (hR i' hi' (by omega)) u hu
    obtain ⟨dd, sz, bts, z⟩ := i
    obtain ⟨inf, zv, hinf, hzv, hs', hbb', hzc⟩ := ti_info he
    have hzsize : zv.cells.size = inf.size := by rw [hzc, hs']; simpa using Nat.eq_of_beq_eq_true hzl
    simp only at hfl hsz hbb
    subst hs'
    subst hbb'
    subst hbb
    have hO0 : w.ownsRow 0 e inf.size (.slice none 0 0) 0 [] := ⟨by simp, .inl ⟨rfl, rfl⟩⟩
    obtain ⟨b', c', w', hrun, hO', hgr, hb'⟩ := append_own2 (P := E.P) w t ty e inf zv (u_slice ht) hinf hzv hzsize (.slice none 0 0) 0 [] hO0 ⟨b, o, none⟩ n c ess.flatten hfl
      (fun j u hu => by rw [add_at]; exact hcell j u hu) (fun u hu => oneB_eq (hone u hu)) (by omega) (by omega) (by simpa using hby)
    have hst := step_grown hgr
    have hbe : b' = w.heap.size := by
      rcases hb' with h | h
      · cases h
      · exact h
    have hblt : b' < w'.heap.size := (World.ownsRow.lt hO' b' rfl).2
    unfold Oper.wp execOp
    simp only [resolve, invoke, builtin, Sem.run_bind, Sem.run_pure, Result.andThen_ok, List.map_toArray, List.map_cons, List.map_nil, hfr.eval hx, hfr.eval hy, hrun]
    rw [Nat.zero_add, List.nil_append, hsz] at hO'
    rw [Nat.zero_add]
    refine ⟨_, _, h (some ⟨b', 0, none⟩) c', hfr.put (Nat.le_of_ble_eq_true hd) _, hm.new (T1 := fun q => q = b') ⟨hst.os, hst.tape, hst.output, hst.size, fun q hq _ => hst.same q hq (by intro e; cases e)⟩ ?_ ?_⟩
    · have hfe : xs.flatMap enc = ess.flatten := by
        rw [List.flatMap_def]
        congr 1
        apply List.ext_getElem (by simp [hl])
        intro i h1 h2
        rw [List.getElem_map]
        exact (hk _ _ _ _ (hR i h2 (by simpa using h1))).symm
      rw [hfe]
      exact ⟨hO', fun q hq => by simpa [Value.ownBlock] using hq.symm⟩
    · rintro q rfl
      exact ⟨hblt, by omega⟩


/-- l[:q] -/
theorem n_head {t e : TypeId} {x : Operand} {s1 b1 : Nat} {z1 : List Value} {i : TI} {A : Option Addr} {n c : Nat} {kk : IntKind} (q : Nat) {q' : Int}
    (ht : tl E.T t = some ⟨.slice e, s1, b1, z1⟩) (he : tl E.T e = some i) (hx : val fr x = some (.slice A n c)) (hq' : q' = (q : Int)) (hq : q ≤ c) :
    NEV E (.slice t x none (some (.const (.int kk q'))) none) fr U (.slice A q c) := by
  intro a w dst ty pos af g hf _
  subst hq'
  obtain ⟨dd, sz, bytes, z⟩ := i
  obtain ⟨inf, zv, hinf, hzv, hs, hbb, hzc⟩ := ti_info he
  have hu := u_slice ht
  have hel : E.P.elem t = e := by simp [Program.elem, hu]
  have hsz : (sizeOf e).run E.P w = .ok sz w := by simp [sizeOf, run_info hinf, hs]
  have hr := run_slice_h (P := E.P) (w := w) t A n c (by rw [hel]; exact hu) kk (q : Int) (by omega) (by omega)
  rw [hel, hsz] at hr
  have ha := run_sliceAt_slice (P := E.P) (w := w) t (.slice A n c) none (some (.int kk (q : Int))) none (by rw [hel]; exact hu)
  rw [hr] at ha
  have hev : a.eval (.const (.int kk (q : Int))) = .int kk (q : Int) := rfl
  have hA : (if c = 0 then A else A.map (·.add (0 * sz))) = A := by
    split
    · rfl
    · cases A <;> simp [Addr.add]
  simp [execOp, hf.eval hx, hev, ha, sliced, Result.andThen]
  cases A <;> simp [Addr.add]

theorem s_blockJ {c : Code} {id : Nat} {ι : Type} (frX : ι → Frm) (UX : ι → List Asn) (h : (∀ x, EVS E K k (frX x) (UX x)) → EVS E K (.code c :: .blk id :: k) fr U) (hfin : ∀ x, EVS E K k (frX x) (UX x)) :
    EVS E K (.code (.block id c) :: k) fr U := s_block (h hfin)

theorem kint_is (w : World) (S : BSet) (cs : List Value) (x : Int) (h : kint.R w S cs x) : cs = [.int .i64 x] := h.1
/-! ### several data of a kind, in a slice -/
theorem Can.rdL {α : Type} {kd : Kd α} {ess : List (List Value)} {xs : List α} {U' : List Asn} (ht : Tak (rdL kd ess xs) U U') (j : Nat) (h1 : j < ess.length) (h2 : j < xs.length) : Can E U (kd.rd ess[j] xs[j]) :=
  Can.of fun _ _ hs => by
    obtain ⟨_, ⟨_, h⟩, hsub⟩ := ht.mem hs
    exact kd.mono hsub (h j h1 h2)

end Go.Proofs.YtcnpjhaedjncdaaGreatDoor.E

namespace Go.Proofs.YtcnpjhaedjncdaaGreatDoor.E
set_option linter.all false
variable {E : Env} {fr : Frm} {U V : List Asn} {N : Frm → List Asn → Prop}

section keys
variable {κ : Type} [DecidableEq κ]

/-- Where a key is among pairs; what stands there. -/
def findK (k : κ) : List (κ × Value) → Nat → Option (Nat × Value)
  | [], _ => none
  | p :: l, i => if p.1 = k then some (i, p.2) else findK k l (i + 1)

/-- Pairs, a key set. -/
def setK (k : κ) (v : Value) : List (κ × Value) → List (κ × Value)
  | [] => [(k, v)]
  | p :: l => if p.1 = k then (k, v) :: l else p :: setK k v l

def lookK (l : List (κ × Value)) (k : κ) : Option Value := (l.find? fun p => decide (p.1 = k)).map (·.2)

theorem findK_look (k : κ) : ∀ (l : List (κ × Value)) (i : Nat), (findK k l i).map (·.2) = lookK l k
  | [], _ => rfl
  | p :: l, i => by
    unfold findK lookK
    by_cases h : p.1 = k
    · rw [if_pos h, List.find?_cons_of_pos (by simpa using h)]; rfl
    · rw [if_neg h, List.find?_cons_of_neg (by simpa using h)]
      exact findK_look k l (i + 1)

theorem findK_set (k : κ) (v : Value) : ∀ (l : List (κ × Value)) (i : Nat),
    (findK k l i = none → setK k v l = l ++ [(k, v)]) ∧ ∀ j u, findK k l i = some (j, u) → ∃ d, j = i + d ∧ ∃ (h : d < l.length), l[d].1 = k ∧ setK k v l = l.set d (k, v)
  | [], i => ⟨fun _ => rfl, fun j u h => by cases h⟩
  | p :: l, i => by
    unfold findK setK
    by_cases h : p.1 = k
    · rw [if_pos h, if_pos h]
      refine ⟨fun h => (by cases h), fun j u h2 => ?_⟩
      simp only [Option.some.injEq, Prod.mk.injEq] at h2
      exact ⟨0, h2.1.symm, by simp, h, rfl⟩
    · rw [if_neg h, if_neg h]
      obtain ⟨h1, h2⟩ := findK_set k v l (i + 1)
      refine ⟨fun h3 => by rw [h1 h3]; rfl, fun j u h3 => ?_⟩
      obtain ⟨d, rfl, hd, hk, hs⟩ := h2 j u h3
      exact ⟨d + 1, by omega, by simpa using hd, by simpa using hk, by rw [hs]; rfl⟩

/-- How keys of a kind are found. -/
structure MKey (P : Program) (kt : TypeId) (enc : κ → Value) : Prop where
  check : ∀ (w : World) (e : Bool) (k : κ), (Instr.checkKey e 10000 kt (enc k)).run P w = .ok () w
  find : ∀ (w : World) (k : κ) (es : List MapEntry) (l : List (κ × Value)), es.map (fun e => (e.key, e.val)) = l.map (fun p => (enc p.1, p.2)) → (Instr.findKey kt (enc k) es).run P w = .ok (findK k l 0) w
  stays : ∀ (w : World) (k : κ), (Instr.keyThatStays (enc k) (enc k)).run P w = .ok (enc k) w

/-- A map of one's own: its pairs, in the order in which they came. -/
def mapA (enc : κ → Value) (b : Nat) (l : List (κ × Value)) : Asn where
  P := fun w S => S b ∧ ∃ (es : Array MapEntry) (clock : Nat), w.heap[b]? = some (.map es clock) ∧ es.toList.map (fun e => (e.key, e.val)) = l.map (fun p => (enc p.1, p.2))
  fr := fun _ _ _ h ⟨h1, es, c, h2, h3⟩ => ⟨h1, es, c, (h b h1).trans h2, h3⟩

theorem o_newMap {d : Nat} {t : TypeId} {ty : TypeId} {pos : String} {af : Array Edge} {g : Option (Nat × Bool)} (enc : κ → Value) (hd : Nat.ble (d + 1) E.n = true)
    (h : ∀ b, N ((d, .map (some b)) :: fr) (mapA enc b ([] : List (κ × Value)) :: U)) : EV1 E ⟨some d, .makeMap t none, ty, pos, af, g⟩ fr U N := by
  intro a w hf hm
  unfold Oper.wp execOp
  simp only [Instr.makeMap, newObj]
  refine ⟨_, _, h w.heap.size, hf.put (Nat.le_of_ble_eq_true hd) _, hm.new (T1 := fun k => k = w.heap.size) (step_alloc w (.map #[] 0)) ⟨rfl, #[], 0, heap_alloc_new w _, rfl⟩ ?_⟩
  rintro b rfl
  exact ⟨by simp, Nat.le_refl _⟩

theorem n_lookup {P : Program} {t kt e : TypeId} {s1 b1 : Nat} {z1 : List Value} {z : Value} {x y : Operand} {b : Nat} {k : κ} {enc : κ → Value} {l : List (κ × Value)} {U' : List Asn} (hP : E.P = P) (K : MKey P kt enc) (hz : ∀ w, (zeroValue e).run P w = .ok z w)
    (ht : tl E.T t = some ⟨.map kt e, s1, b1, z1⟩) (hx : val fr x = some (.map (some b))) (hy : val fr y = some (enc k)) (hU : Tak (mapA enc b l) U U') :
    NEV E (.lookup t x y false) fr U ((lookK l k).getD z) := by
  subst hP
  intro a w dst ty pos af g hf hm
  obtain ⟨S1, ⟨_, es, clock, hb, hes⟩, _⟩ := hm.tak hU
  have hf2 := K.find w k es.toList l hes
  have hl := findK_look k l 0
  have hr : (Instr.lookup t (.map (some b)) (enc k) false).run E.P w = .ok ((lookK l k).getD z) w := by
    rw [← hl]
    cases hfk : findK k l 0 with
    | none => rw [hfk] at hf2; simp [Instr.lookup, run_under (u_map ht), MapKept.run_getObj_map hb, K.check, hf2, hz, Result.andThen]
    | some q => rw [hfk] at hf2; simp [Instr.lookup, run_under (u_map ht), MapKept.run_getObj_map hb, K.check, hf2, Result.andThen]
  simp [execOp, hf.eval hx, hf.eval hy, hr]

theorem n_lookup2 {P : Program} {t kt e : TypeId} {s1 b1 : Nat} {z1 : List Value} {z : Value} {x y : Operand} {b : Nat} {k : κ} {enc : κ → Value} {l : List (κ × Value)} {U' : List Asn} (hP : E.P = P) (K : MKey P kt enc) (hz : ∀ w, (zeroValue e).run P w = .ok z w)
    (ht : tl E.T t = some ⟨.map kt e, s1, b1, z1⟩) (hx : val fr x = some (.map (some b))) (hy : val fr y = some (enc k)) (hU : Tak (mapA enc b l) U U') :
    NEV E (.lookup t x y true) fr U (.tuple #[(lookK l k).getD z, .bool (lookK l k).isSome]) := by
  subst hP
  intro a w dst ty pos af g hf hm
  obtain ⟨S1, ⟨_, es, clock, hb, hes⟩, _⟩ := hm.tak hU
  have hf2 := K.find w k es.toList l hes
  have hl := findK_look k l 0
  have hr : (Instr.lookup t (.map (some b)) (enc k) true).run E.P w = .ok (.tuple #[(lookK l k).getD z, .bool (lookK l k).isSome]) w := by
    rw [← hl]
    cases hfk : findK k l 0 with
    | none => rw [hfk] at hf2; simp [Instr.lookup, run_under (u_map ht), MapKept.run_getObj_map hb, K.check, hf2, hz, Result.andThen]
    | some q => rw [hfk] at hf2; simp [Instr.lookup, run_under (u_map ht), MapKept.run_getObj_map hb, K.check, hf2, Result.andThen]
  simp [execOp, hf.eval hx, hf.eval hy, hr]

theorem o_mapUpdate {P : Program} {t kt e : TypeId} {s1 b1 : Nat} {z1 : List Value} {x y z : Operand} {v : Value} {ty : TypeId} {pos : String} {af : Array Edge} {g : Option (Nat × Bool)} {b : Nat} {k : κ} {enc : κ → Value} {l : List (κ × Value)} {U' : List Asn} (hP : E.P = P) (K : MKey P kt enc)
    (ht : tl E.T t = some ⟨.map kt e, s1, b1, z1⟩) (hx : val fr x = some (.map (some b))) (hy : val fr y = some (enc k)) (hz : val fr z = some v) (hU : Upd (mapA enc b l) (mapA enc b (setK k v l)) U U') (h : N fr U') :
    EV1 E ⟨none, .mapUpdate t x y z, ty, pos, af, g⟩ fr U N := by
  subst hP
  intro a w hf hm
  obtain ⟨S1, ⟨hS, es, clock, hb, hes⟩, hlt, hk⟩ := hm.upd hU
  have hf2 := K.find w k es.toList l hes
  have hblt : b < w.heap.size := hlt b hS
  have hlen : es.size = l.length := by have := congrArg List.length hes; simpa using this
  have key : ∃ es' clock', (Instr.mapUpdate t (.map (some b)) (enc k) v).run E.P w = .ok () { w with heap := w.heap.setIfInBounds b (.map es' clock') } ∧ es'.toList.map (fun e => (e.key, e.val)) = (setK k v l).map (fun p => (enc p.1, p.2)) := by
    obtain ⟨h1, h2⟩ := findK_set k v l 0
    cases hfk : findK k l 0 with
    | none =>
      rw [hfk] at hf2
      refine ⟨es.push { key := enc k, val := v, born := clock }, clock + 1, ?_, ?_⟩
      · simp [Instr.mapUpdate, run_under (u_map ht), MapKept.run_getObj_map hb, K.check, hf2, MapKept.run_setObj_map _ hb, Result.andThen]
      · rw [h1 hfk]; simp [hes]
    | some q =>
      obtain ⟨j, u⟩ := q
      rw [hfk] at hf2
      obtain ⟨d, hjd, hd, hkd, hs⟩ := h2 j u hfk
      rw [Nat.zero_add] at hjd
      subst hjd
      have hjs : j < es.size := by omega
      have hkey : es[j].key = enc k := by
        have h3 : (es.toList.map (fun e => (e.key, e.val)))[j]? = some (es[j].key, es[j].val) := by
          rw [List.getElem?_map, List.getElem?_eq_getElem (by simpa using hjs)]; simp
        rw [hes, List.getElem?_map, List.getElem?_eq_getElem hd, Option.map_some, Option.some.injEq, Prod.mk.injEq] at h3
        rw [← h3.1, hkd]
      refine ⟨es.modify j fun e => { e with key := enc k, val := v }, clock, ?_, ?_⟩
      · simp [Instr.mapUpdate, run_under (u_map ht), MapKept.run_getObj_map hb, K.check, hf2, hjs, hkey, K.stays, MapKept.run_setObj_map _ hb, Result.andThen]
      · rw [hs]
        apply List.ext_getElem?
        intro i
        have hei := congrArg (fun l => l[i]?) hes
        simp only [List.getElem?_map] at hei
        simp only [List.getElem?_map, Array.toList_modify, List.getElem?_modify, List.getElem?_set]
        by_cases hij : j = i
        · subst hij
          rw [if_pos rfl, if_pos hd, List.getElem?_eq_getElem (by simpa using hjs)]; simp
        · rw [if_neg hij]
          cases hx2 : es.toList[i]? with
          | none => rw [hx2] at hei; simpa [hij] using hei
          | some x => rw [hx2] at hei; simpa [hij] using hei
  obtain ⟨es', clock', hrun, hes'⟩ := key
  unfold Oper.wp execOp
  simp only [hf.eval hx, hf.eval hy, hf.eval hz, Sem.run_bind, hrun, Result.andThen_ok, Sem.run_pure]
  have hset : ∀ q : Nat, q ≠ b → ({ w with heap := w.heap.setIfInBounds b (.map es' clock') } : World).heap[q]? = w.heap[q]? := fun q hq => by
    simp [Array.getElem?_setIfInBounds_ne (Ne.symm hq)]
  refine ⟨_, _, h, hf.put_none _, hk _ S1 ⟨rfl, rfl, rfl, by simp, fun q hq hn => hset q (fun e => hn (e ▸ hS))⟩ ⟨hS, es', clock', by simp [hblt], hes'⟩ (fun q hq => ⟨by simpa using hlt q hq, .inl hq⟩)⟩

end keys

/-! ### keys -/
def encI (k : Int) : Value := .int .i64 k
theorem mkey_int {P : Program} {kt : TypeId} (hu : P.underlying kt = some (.int .i64)) : MKey P kt encI where
  check := fun w e k => MapKept.run_checkKey hu (by simp [MapKept.IsKey, encI]) e 9999
  find := fun w k es l h => by
    have hf : ∀ (es : List MapEntry) (l : List (Int × Value)) (i : Nat), es.map (fun e => (e.key, e.val)) = l.map (fun p => (encI p.1, p.2)) → Instr.findNow (.int .i64) (encI k) es i = some (findK k l i) := by
      intro es
      induction es with
      | nil =>
        intro l i h
        cases l with
        | nil => rfl
        | cons p l => simp at h
      | cons e es ih =>
        intro l i h
        cases l with
        | nil => simp at h
        | cons p l =>
          simp only [List.map_cons, List.cons.injEq, Prod.mk.injEq] at h
          obtain ⟨⟨h1, h2⟩, h3⟩ := h
          unfold Instr.findNow findK
          rw [h1]
          simp only [encI, Instr.sameNow, if_true]
          by_cases hk : p.1 = k
          · rw [if_pos hk, hk]; simp [h2]
          · have : (k == p.1) = false := by simp; exact fun e => hk e.symm
            rw [if_neg hk, this]
            exact ih l (i + 1) h3
    simp [Instr.findKey, run_underlying hu, Result.andThen, hf es l 0 h]
  stays := fun w k => by simp [Instr.keyThatStays, encI, Instr.sameBits]

end Go.Proofs.YtcnpjhaedjncdaaGreatDoor.E

namespace Go.Proofs.YtcnpjhaedjncdaaGreatDoor.E
set_option linter.all false
variable {E : Env} {fr : Frm} {U V : List Asn} {N : Frm → List Asn → Prop}


/-- The cells of an array of 256 numbers. -/
structure C256 where
  l : List Int
  h : l.length = 256

def dC (c : C256) (rest : List Value) : List Value := c.l.map (Value.int .i64) ++ rest
def C256.zero : C256 := ⟨List.replicate 256 0, List.length_replicate⟩
def C256.set (c : C256) (j : Nat) (v : Int) : C256 := ⟨c.l.set j v, by rw [List.length_set]; exact c.h⟩
def C256.get (c : C256) (j : Nat) : Int := c.l.getD j 0

theorem C256.ext {c d : C256} (h : c.l = d.l) : c = d := by cases c; cases d; simp only at h; subst h; rfl
theorem dC_len (c : C256) (rest : List Value) : (dC c rest).length = 256 + rest.length := by unfold dC; rw [List.length_append, List.length_map, c.h]
theorem setMany_all (cs vs : List Value) (h : vs.length = cs.length) : setMany cs 0 vs = vs := by
  rw [setMany_splice vs cs 0 (by omega), List.take_zero, Nat.zero_add, h, List.drop_length]; simp
/-! ### loads -/
theorem ld_all {i : TI} {cs : List Value} {n : Nat} (h : cs.length = n) (ha : aggB i.d = true) (hs : i.size = n) {o : Nat} (ho : o = 0) : loadL i cs o = some (.agg cs.toArray) := by
  subst ho
  unfold loadL
  have : Nat.ble (0 + i.size) cs.length = true := by rw [Nat.ble_eq, Nat.zero_add, hs, h]; exact Nat.le_refl _
  simp only [ha, cond_true, this, List.drop_zero]
  rw [hs, ← h, List.take_length]

section loads
variable {t : TypeId} {x y : Operand} {i : TI} {b o : Nat} {T : TypeId} {c : C256} {rest : List Value} {v : Value} {U' : List Asn}

theorem n_dA (hx : val fr x = some (.pointer (some ⟨b, 0, none⟩))) (ht : tl E.T t = some i) (hU : Tak (blk b T (dC c rest)) U U') (ha : aggB i.d = true) (hs : Nat.beq i.size (256 + rest.length) = true) : NEV E (.load t x) fr U (.agg (dC c rest).toArray) := by
  refine n_load hx ht hU ?_
  exact ld_all (n := i.size) (by rw [dC_len, Nat.eq_of_beq_eq_true hs]) ha rfl rfl

/-! ### stores -/
/-! ### by the class search -/
class TakD (b : Nat) (U : List Asn) (T : outParam TypeId) (c : outParam C256) (rest : outParam (List Value)) (W : outParam (List Asn)) : Prop where
  tak : Tak (blk b T (dC c rest)) U W
instance TakD.s {b : Nat} {U : List Asn} {T : TypeId} {c : C256} {rest : List Value} {W : List Asn} {B : Asn} [h : TakD b U T c rest W] : TakD b (B :: U) T c rest (B :: W) := ⟨.s h.tak⟩
instance TakD.z {b : Nat} {U : List Asn} {T : TypeId} {c : C256} {rest : List Value} : TakD b (blk b T (dC c rest) :: U) T c rest U := ⟨.z⟩
instance TakD.n {b : Nat} {U : List Asn} {T : TypeId} {c : C256} {rest : List Value} {W : List Asn} [h : TakD b U T c rest W] : TakD b ([] ++ U) T c rest W := h
instance TakD.a {b : Nat} {L U : List Asn} {T : TypeId} {c : C256} {rest : List Value} {W : List Asn} {B : Asn} [h : TakD b (B :: (L ++ U)) T c rest W] : TakD b ((B :: L) ++ U) T c rest W := h
theorem td {b : Nat} {U : List Asn} {T : TypeId} {c : C256} {rest : List Value} {W : List Asn} [h : TakD b U T c rest W] : TakD b U T c rest W := h
theorem dA (hx : val fr x = some (.pointer (some ⟨b, 0, none⟩))) (ht : tl E.T t = some i) (hU : TakD b U T c rest U') (ha : aggB i.d = true) (hs : Nat.beq i.size (256 + rest.length) = true) : NEV E (.load t x) fr U (.agg (dC c rest).toArray) := n_dA hx ht hU.tak ha hs
end loads

/-! ### structs that are built -/
/-! ### arrays, compared -/
attribute [irreducible] dC

end Go.Proofs.YtcnpjhaedjncdaaGreatDoor.E

namespace Go.Proofs.YtcnpjhaedjncdaaGreatDoor.E
set_option linter.all false
variable {E : Env} {fr : Frm} {U V : List Asn} {N : Frm → List Asn → Prop}

/-! ### a map that numbers things as they come -/
section num
variable {κ : Type} [DecidableEq κ]
def ix : List κ → κ → Nat
  | [], _ => 0
  | x :: u, k => if x = k then 0 else ix u k + 1

theorem ix_cons {u : List κ} {x k : κ} (h : ¬ x = k) : ix (x :: u) k = ix u k + 1 := by show (if x = k then 0 else ix u k + 1) = _; rw [if_neg h]

def asO : Nat → List κ → List (κ × Value)
  | _, [] => []
  | i, k :: u => (k, .int .i64 (i : Nat)) :: asO (i + 1) u

theorem asO_look (k : κ) : ∀ (i : Nat) (u : List κ), lookK (asO i u) k = if k ∈ u then some (.int .i64 ((i + ix u k : Nat) : Int)) else none
  | _, [] => by simp [asO, lookK]
  | i, x :: u => by
    unfold asO
    have ih := asO_look k (i + 1) u
    unfold lookK at ih ⊢
    by_cases h : x = k
    · subst h
      rw [List.find?_cons_of_pos (by simp), if_pos List.mem_cons_self]
      simp [ix]
    · rw [List.find?_cons_of_neg (by simpa using h), ih]
      have h2 : ¬ k = x := fun e => h e.symm
      by_cases hm : k ∈ u
      · rw [if_pos hm, if_pos (List.mem_cons_of_mem _ hm)]
        rw [ix_cons h]
        congr 3; omega
      · rw [if_neg hm, if_neg (by rw [List.mem_cons]; exact fun h3 => h3.elim h2 hm)]

theorem asO_set (k : κ) : ∀ (i : Nat) (u : List κ), k ∉ u → setK k (.int .i64 ((i + u.length : Nat) : Int)) (asO i u) = asO i (u ++ [k])
  | i, [], _ => by simp [asO, setK]
  | i, x :: u, h => by
    rw [List.cons_append]
    unfold asO setK
    rw [if_neg (fun e : x = k => h (by rw [e]; exact List.mem_cons_self)), ← asO_set k (i + 1) u (fun h2 => h (List.mem_cons_of_mem _ h2))]
    have e : i + (x :: u).length = i + 1 + u.length := by rw [List.length_cons]; omega
    rw [e]

def asG (u : List κ) : List (κ × Value) := asO 0 u
theorem asG_in {u : List κ} {k : κ} (h : k ∈ u) : lookK (asG u) k = some (.int .i64 (ix u k : Nat)) := by unfold asG; rw [asO_look, if_pos h, Nat.zero_add]
theorem asG_out {u : List κ} {k : κ} (h : k ∉ u) : lookK (asG u) k = none := by unfold asG; rw [asO_look, if_neg h]
theorem asG_set {u : List κ} {k : κ} (h : k ∉ u) : setK k (.int .i64 (u.length : Nat)) (asG u) = asG (u ++ [k]) := by
  have := asO_set k 0 u h
  rwa [Nat.zero_add] at this

variable {P : Program} {t kt e : TypeId} {s1 b1 : Nat} {z1 : List Value} {z : Value} {x y : Operand} {b : Nat} {k : κ} {enc : κ → Value} {u : List κ} {U' : List Asn}

theorem n_g2_in (hin : k ∈ u) (hP : E.P = P) (K : MKey P kt enc) (hz : ∀ w, (zeroValue e).run P w = .ok z w) (ht : tl E.T t = some ⟨.map kt e, s1, b1, z1⟩) (hx : val fr x = some (.map (some b))) (hy : val fr y = some (enc k)) (hU : Tak (mapA enc b (asG u)) U U') :
    NEV E (.lookup t x y true) fr U (.tuple #[.int .i64 (ix u k : Nat), .bool true]) := by
  have := n_lookup2 hP K hz ht hx hy hU
  rwa [asG_in hin] at this
theorem n_g2_out (hout : k ∉ u) (hP : E.P = P) (K : MKey P kt enc) (hz : ∀ w, (zeroValue e).run P w = .ok z w) (ht : tl E.T t = some ⟨.map kt e, s1, b1, z1⟩) (hx : val fr x = some (.map (some b))) (hy : val fr y = some (enc k)) (hU : Tak (mapA enc b (asG u)) U U') :
    NEV E (.lookup t x y true) fr U (.tuple #[z, .bool false]) := by
  have := n_lookup2 hP K hz ht hx hy hU
  rwa [asG_out hout] at this
theorem o_gup {w : Operand} {ty : TypeId} {pos : String} {af : Array Edge} {g : Option (Nat × Bool)} (hout : k ∉ u) (hP : E.P = P) (K : MKey P kt enc) (ht : tl E.T t = some ⟨.map kt e, s1, b1, z1⟩) (hx : val fr x = some (.map (some b))) (hy : val fr y = some (enc k)) (hz : val fr w = some (.int .i64 (u.length : Nat)))
    (hU : Upd (mapA enc b (asG u)) (mapA enc b (asG (u ++ [k]))) U U') (h : N fr U') : EV1 E ⟨none, .mapUpdate t x y w, ty, pos, af, g⟩ fr U N := by
  rw [← asG_set hout] at hU
  exact o_mapUpdate hP K ht hx hy hz hU h
end num

end Go.Proofs.YtcnpjhaedjncdaaGreatDoor.E

namespace Go.Proofs.YtcnpjhaedjncdaaGreatDoor
set_option linter.all false
open Go.Proofs.YtcnpjhaedjncdaaGreatDoor.E

/-! ### closing by a list that grows -/
/-- The items that a name's productions are, in the order of the productions. -/
def prodsN (g : Gram) (s : Int) (m : Nat) : List Itm := ((List.range m).filter fun (k : Nat) => decide ((prd g k).Left = s)).map fun (k : Nat) => ⟨k, 0⟩

theorem prodsN_succ (g : Gram) (s : Int) (m : Nat) : prodsN g s (m + 1) = if (prd g m).Left = s then prodsN g s m ++ [⟨m, 0⟩] else prodsN g s m := by
  unfold prodsN
  rw [List.range_succ, List.filter_append, List.map_append]
  by_cases h : (prd g m).Left = s
  · rw [if_pos h]; simp [h]
  · rw [if_neg h]; simp [h]

theorem prodsN_mem {g : Gram} {s : Int} {m : Nat} {x : Itm} : x ∈ prodsN g s m ↔ ∃ k : Nat, k < m ∧ (prd g k).Left = s ∧ x = ⟨k, 0⟩ := by
  unfold prodsN
  simp only [List.mem_map, List.mem_filter, List.mem_range, decide_eq_true_eq]
  exact ⟨fun ⟨k, ⟨h1, h2⟩, h3⟩ => ⟨k, h1, h2, h3.symm⟩, fun ⟨k, h1, h2, h3⟩ => ⟨k, ⟨h1, h2⟩, h3.symm⟩⟩

theorem prodsN_len (g : Gram) (s : Int) (m : Nat) : (prodsN g s m).length ≤ m := by
  unfold prodsN
  rw [List.length_map]
  have := List.length_filter_le (fun (k : Nat) => decide ((prd g k).Left = s)) (List.range m)
  rwa [List.length_range] at this

/-- What holds on the way: i items are looked at; done are the symbols of names. -/
structure ClP (g : Gram) (l out : List Itm) (done : List Int) (i : Nat) : Prop where
  has : ∀ x ∈ l, x ∈ out
  cl : ∀ x ∈ out, Cl g l x
  nd : done.Nodup
  rng : ∀ s ∈ done, (g.Terms.length : Int) ≤ s ∧ s < g.Terms.length + g.Nons.length
  all : ∀ s ∈ done, ∀ k : Nat, k < g.Prods.length → (g.Terms.length : Int) + (prd g k).Left = s → (⟨k, 0⟩ : Itm) ∈ out
  seen : ∀ (j : Nat) (h : j < out.length), j < i → (g.Terms.length : Int) ≤ beh g out[j] → beh g out[j] ∈ done
  le : i ≤ out.length

theorem ClP.begin (g : Gram) (l : List Itm) : ClP g l l [] 0 where
  has x h := h
  cl x h := .base h
  nd := List.nodup_nil
  rng s h := by cases h
  all s h := by cases h
  seen j h hj := absurd hj (Nat.not_lt_zero _)
  le := Nat.zero_le _

theorem ClP.skip {g : Gram} {l out : List Itm} {done : List Int} {i : Nat} (h : ClP g l out done i) (hi : i < out.length) (hs : beh g out[i] < g.Terms.length ∨ beh g out[i] ∈ done) : ClP g l out done (i + 1) where
  has := h.has
  cl := h.cl
  nd := h.nd
  rng := h.rng
  all := h.all
  seen j hj hji hb := by
    by_cases e : j = i
    · subst e; exact hs.resolve_left (by omega)
    · exact h.seen j hj (by omega) hb
  le := hi

theorem ClP.more {g : Gram} {l out : List Itm} {done : List Int} {i : Nat} (h : ClP g l out done i) (hi : i < out.length) (hg : BehOk g) (hin : ∀ x ∈ l, inG g x = true) (h1 : (g.Terms.length : Int) ≤ beh g out[i]) (h2 : beh g out[i] ∉ done) :
    ClP g l (out ++ prodsN g (beh g out[i] - g.Terms.length) g.Prods.length) (done ++ [beh g out[i]]) (i + 1) where
  has x hx := List.mem_append_left _ (h.has x hx)
  cl x hx := by
    rcases List.mem_append.1 hx with hx | hx
    · exact h.cl x hx
    · obtain ⟨k, hk, a, rfl⟩ := prodsN_mem.1 hx
      exact .step (h.cl _ (List.getElem_mem hi)) hk (by omega)
  nd := by
    rw [List.nodup_append]
    exact ⟨h.nd, by simp, fun a ha b hb e => by rw [List.mem_singleton] at hb; subst hb; subst e; exact h2 ha⟩
  rng s hs := by
    rcases List.mem_append.1 hs with hs | hs
    · exact h.rng s hs
    · rw [List.mem_singleton] at hs
      subst hs
      exact ⟨h1, hg _ ((h.cl _ (List.getElem_mem hi)).inG hin)⟩
  all s hs k hk hl := by
    rcases List.mem_append.1 hs with hs | hs
    · exact List.mem_append_left _ (h.all s hs k hk hl)
    · rw [List.mem_singleton] at hs
      exact List.mem_append_right _ (prodsN_mem.2 ⟨k, hk, by omega, rfl⟩)
  seen j hj hji hb := by
    have hjo : j < out.length := by omega
    rw [List.getElem_append_left hjo] at hb ⊢
    by_cases e : j = i
    · subst e; exact List.mem_append_right _ (by simp)
    · exact List.mem_append_left _ (h.seen j hjo (by omega) hb)
  le := by rw [List.length_append]; omega

theorem ClP.fin {g : Gram} {l out : List Itm} {done : List Int} {i : Nat} (h : ClP g l out done i) (hi : out.length ≤ i) (hl : ∀ k : Nat, k < g.Prods.length → 0 ≤ (prd g k).Left) : ∀ x, x ∈ out ↔ Cl g l x := by
  refine fun x => ⟨h.cl x, fun hx => ?_⟩
  induction hx with
  | base h2 => exact h.has _ h2
  | @step y k _ hk hb ih =>
    obtain ⟨j, hj, rfl⟩ := List.getElem_of_mem ih
    have h0 := hl k hk
    exact h.all _ (h.seen j hj (by omega) (by omega)) k hk hb.symm

theorem nodup_rng_len : ∀ (n : Nat) (l : List Int) (a : Int), l.Nodup → (∀ s ∈ l, a ≤ s ∧ s < a + n) → l.length ≤ n
  | 0, l, a, _, h => by
    cases l with
    | nil => simp
    | cons x l => have := h x List.mem_cons_self; omega
  | n + 1, l, a, hn, h => by
    have h1 := nodup_rng_len n (l.erase (a + n)) a (hn.erase _) (fun s hs => by
      have := (List.Nodup.mem_erase_iff hn).1 hs
      have := h s (List.mem_of_mem_erase hs)
      omega)
    have := List.length_erase_le (a := a + (n : Int)) (l := l)
    by_cases hm : (a + (n : Int)) ∈ l
    · have := List.length_erase_of_mem hm; omega
    · rw [List.erase_of_not_mem hm] at h1; omega

/-- A measure: each round it is less. -/
def clM (g : Gram) (out : List Itm) (done : List Int) (i : Nat) : Nat := (g.Nons.length - done.length) * (g.Prods.length + 1) + (out.length - i)

theorem clM_skip {g : Gram} {out : List Itm} {done : List Int} {i : Nat} (hi : i < out.length) : clM g out done (i + 1) < clM g out done i := by unfold clM; omega

theorem clM_more {g : Gram} {out : List Itm} {done : List Int} {i : Nat} {s s2 : Int} (hi : i < out.length) (hd : done.length < g.Nons.length) : clM g (out ++ prodsN g s g.Prods.length) (done ++ [s2]) (i + 1) < clM g out done i := by
  unfold clM
  have h1 := prodsN_len g s g.Prods.length
  rw [List.length_append, List.length_append, List.length_singleton]
  obtain ⟨d, hd⟩ : ∃ d, g.Nons.length - done.length = d + 1 := ⟨g.Nons.length - done.length - 1, by omega⟩
  rw [hd, show g.Nons.length - (done.length + 1) = d by omega, Nat.add_mul]
  omega

/-! ### order -/
def leI (a b : Itm) : Bool := !ltI b a
theorem closed_order {g : Gram} {l out : List Itm} (hg : BehOk g) (hl : ∀ k : Nat, k < g.Prods.length → 0 ≤ (prd g k).Left) (hin : ∀ x ∈ l, inG g x = true) (h : ∀ x, x ∈ out ↔ Cl g l x) : sortI out = closedP g l := by
  obtain ⟨h1, h2⟩ := closedP_spec hg hl hin
  exact SortI.ext (sortI_sort out) h1 fun x => by rw [sortI_mem, h x, h2 x]

/-! ### where items go -/
def goI (g : Gram) (l : List Itm) (s : Int) : List Itm := (l.filter fun x => decide (beh g x = s)).map fun x => ⟨x.Prod, x.Dot + 1⟩

theorem goI_sort {g : Gram} {l : List Itm} (h : SortI l) (s : Int) : SortI (goI g l s) := by
  unfold goI SortI
  rw [List.pairwise_map]
  refine (h.filter _).imp (fun {a b} hab => ?_)
  rw [ltI_iff] at *
  simp only
  omega

theorem goI_snoc (g : Gram) (l : List Itm) (x : Itm) (s : Int) : goI g (l ++ [x]) s = if beh g x = s then goI g l s ++ [⟨x.Prod, x.Dot + 1⟩] else goI g l s := by
  unfold goI
  rw [List.filter_append, List.map_append]
  by_cases h : beh g x = s
  · rw [if_pos h]; simp [h]
  · rw [if_neg h]; simp [h]

/-! ### states -/
def addK (ks : List (List Itm)) (k : List Itm) : List (List Itm) := if k = [] ∨ k ∈ ks then ks else ks ++ [k]
def numK (ks : List (List Itm)) (k : List Itm) : Int := if k = [] then -1 else (ix ks k : Nat)
def symK (g : Gram) (l : List Itm) (ks : List (List Itm)) (m : Nat) : List (List Itm) := (List.range m).foldl (fun ks (s : Nat) => addK ks (goI g l s)) ks
def lrF (g : Gram) : Nat → Nat → List (List Itm) → Option (List (List Itm))
  | 0, _, _ => none
  | f + 1, i, ks => match ks[i]? with
    | none => some ks
    | some k => if (symK g (closedP g k) ks (g.Terms.length + g.Nons.length)).length > 512 then none else lrF g f (i + 1) (symK g (closedP g k) ks (g.Terms.length + g.Nons.length))
def lrK (g : Gram) : Option (List (List Itm)) := lrF g 514 0 [[⟨0, 0⟩]]
def gotoR (g : Gram) (ks : List (List Itm)) (k : List Itm) : List Int := (List.range (g.Terms.length + g.Nons.length)).map fun (s : Nat) => numK ks (goI g (closedP g k) s)

theorem symK_succ (g : Gram) (l : List Itm) (ks : List (List Itm)) (m : Nat) : symK g l ks (m + 1) = addK (symK g l ks m) (goI g l m) := by
  unfold symK; rw [List.range_succ, List.foldl_append]; rfl
theorem addK_pre (ks : List (List Itm)) (k : List Itm) : ks <+: addK ks k := by
  unfold addK; split
  · exact List.prefix_refl _
  · exact List.prefix_append _ _
theorem symK_pre (g : Gram) (l : List Itm) (ks : List (List Itm)) : ∀ m, ks <+: symK g l ks m
  | 0 => List.prefix_refl _
  | m + 1 => by rw [symK_succ]; exact (symK_pre g l ks m).trans (addK_pre _ _)
theorem symK_mono (g : Gram) (l : List Itm) (ks : List (List Itm)) (m : Nat) : ∀ d, symK g l ks m <+: symK g l ks (m + d)
  | 0 => List.prefix_refl _
  | d + 1 => by rw [← Nat.add_assoc, symK_succ]; exact (symK_mono g l ks m d).trans (addK_pre _ _)

end Go.Proofs.YtcnpjhaedjncdaaGreatDoor

namespace Go.Proofs.YtcnpjhaedjncdaaGreatDoor
set_option linter.all false
open Go.Proofs.YtcnpjhaedjncdaaGreatDoor.E
section ixs
variable {κ : Type} [DecidableEq κ]

theorem ix_lt : ∀ {u : List κ} {k : κ}, k ∈ u → ix u k < u.length
  | x :: u, k, h => by
    unfold ix
    by_cases e : x = k
    · rw [if_pos e]; simp
    · rw [if_neg e]
      have : k ∈ u := (List.mem_cons.1 h).resolve_left (fun e2 => e e2.symm)
      have := ix_lt this
      simp only [List.length_cons]; omega

theorem ix_get : ∀ {u : List κ} {k : κ}, k ∈ u → u[ix u k]? = some k
  | x :: u, k, h => by
    unfold ix
    by_cases e : x = k
    · rw [if_pos e, e]; rfl
    · rw [if_neg e, List.getElem?_cons_succ]
      exact ix_get ((List.mem_cons.1 h).resolve_left (fun e2 => e e2.symm))

theorem ix_inj {u : List κ} {a b : κ} (ha : a ∈ u) (hb : b ∈ u) (h : ix u a = ix u b) : a = b := by
  have h1 := ix_get ha
  have h2 := ix_get hb
  rw [h, h2] at h1
  exact (Option.some.inj h1).symm

theorem ix_app_mem : ∀ {u v : List κ} {k : κ}, k ∈ u → ix (u ++ v) k = ix u k
  | x :: u, v, k, h => by
    rw [List.cons_append]
    unfold ix
    by_cases e : x = k
    · rw [if_pos e, if_pos e]
    · rw [if_neg e, if_neg e, ix_app_mem ((List.mem_cons.1 h).resolve_left (fun e2 => e e2.symm))]

theorem ix_app_not : ∀ {u : List κ} {k : κ}, k ∉ u → ix (u ++ [k]) k = u.length
  | [], k, _ => by simp [ix]
  | x :: u, k, h => by
    rw [List.cons_append]
    unfold ix
    rw [if_neg (fun e => h (by rw [e]; exact List.mem_cons_self)), ix_app_not (fun h2 => h (List.mem_cons_of_mem _ h2))]; rfl

end ixs

end Go.Proofs.YtcnpjhaedjncdaaGreatDoor

namespace Go.Proofs.YtcnpjhaedjncdaaGreatDoor
set_option linter.all false
open Go.Proofs.YtcnpjhaedjncdaaGreatDoor.E

/-- A kernel. -/
structure KOk (g : Gram) (k : List Itm) : Prop where
  ne : k ≠ []
  sort : SortI k
  inG : ∀ x ∈ k, inG g x = true

/-- Kernels, each once. -/
structure KsOk (g : Gram) (ks : List (List Itm)) : Prop where
  nd : ks.Nodup
  ok : ∀ k ∈ ks, KOk g k

/-- What a grammar has that may be. -/
structure GOk (g : Gram) : Prop where
  beh : BehOk g
  left : ∀ k : Nat, k < g.Prods.length → 0 ≤ (prd g k).Left
  p0 : 0 < g.Prods.length
  pos : ∀ x, inG g x = true → x.Dot < (prd g x.Prod).Right.length → 0 ≤ Go.Proofs.YtcnpjhaedjncdaaGreatDoor.beh g x

theorem goI_ok {g : Gram} (o : GOk g) {k : List Itm} (hk : KOk g k) {s : Nat} (hne : goI g (closedP g k) s ≠ []) : KOk g (goI g (closedP g k) s) where
  ne := hne
  sort := goI_sort (closedP_spec o.beh o.left hk.inG).1 s
  inG x hx := by
    obtain ⟨h1, h2⟩ := closedP_spec o.beh o.left hk.inG
    unfold goI at hx
    obtain ⟨y, hy, rfl⟩ := List.mem_map.1 hx
    rw [List.mem_filter] at hy
    have hcl := ((h2 y).1 hy.1).inG hk.inG
    have hb := of_decide_eq_true hy.2
    unfold Go.Proofs.YtcnpjhaedjncdaaGreatDoor.beh at hb
    unfold Go.Proofs.YtcnpjhaedjncdaaGreatDoor.inG at hcl ⊢
    simp only [Bool.and_eq_true, decide_eq_true_eq] at hcl ⊢
    split at hb
    · omega
    · omega

theorem addK_ok {g : Gram} {ks : List (List Itm)} (h : KsOk g ks) {k : List Itm} (hk : k ≠ [] → KOk g k) : KsOk g (addK ks k) := by
  unfold addK
  split
  · exact h
  · rename_i hn
    have h1 : k ≠ [] := fun e => hn (.inl e)
    have h2 : k ∉ ks := fun e => hn (.inr e)
    refine ⟨?_, fun x hx => ?_⟩
    · rw [List.nodup_append]
      exact ⟨h.nd, by simp, fun a ha b hb e => by rw [List.mem_singleton] at hb; subst hb; subst e; exact h2 ha⟩
    · rcases List.mem_append.1 hx with hx | hx
      · exact h.ok x hx
      · rw [List.mem_singleton] at hx; subst hx; exact hk h1

theorem symK_ok {g : Gram} (o : GOk g) {ks : List (List Itm)} (h : KsOk g ks) {k : List Itm} (hk : KOk g k) : ∀ m, KsOk g (symK g (closedP g k) ks m)
  | 0 => h
  | m + 1 => by rw [symK_succ]; exact addK_ok (symK_ok o h hk m) (fun hne => goI_ok o hk hne)

theorem beg_ok {g : Gram} (o : GOk g) : KsOk g [[⟨0, 0⟩]] where
  nd := by simp
  ok k hk := by
    rw [List.mem_singleton] at hk
    subst hk
    refine ⟨by simp, List.pairwise_singleton _ _, fun x hx => ?_⟩
    rw [List.mem_singleton] at hx
    subst hx
    have := o.p0
    unfold Go.Proofs.YtcnpjhaedjncdaaGreatDoor.inG
    simp only [Bool.and_eq_true, decide_eq_true_eq]
    exact ⟨by omega, by omega, by omega, by omega⟩

theorem addK_mem {ks : List (List Itm)} {k : List Itm} (h : k ≠ []) : k ∈ addK ks k := by
  unfold addK
  split
  · rename_i h2; exact h2.resolve_left h
  · simp

theorem numK_pre {ks ks' : List (List Itm)} (h : ks <+: ks') {k : List Itm} (hk : k = [] ∨ k ∈ ks) : numK ks' k = numK ks k := by
  unfold numK
  by_cases e : k = []
  · rw [if_pos e, if_pos e]
  · rw [if_neg e, if_neg e]
    obtain ⟨d, rfl⟩ := h
    rw [ix_app_mem (hk.resolve_left e)]

/-- A run of the states, one by one. -/
structure LrI (g : Gram) (i : Nat) (ks : List (List Itm)) (res : Option (List (List Itm))) : Prop where
  ok : KsOk g ks
  le : i ≤ ks.length
  n : ks.length ≤ 512
  run : lrF g (514 - i) i ks = res

theorem LrI.begin {g : Gram} (o : GOk g) : LrI g 0 [[⟨0, 0⟩]] (lrK g) := ⟨beg_ok o, by simp, by simp, rfl⟩

theorem LrI.fin {g : Gram} {i : Nat} {ks : List (List Itm)} {res : Option (List (List Itm))} (h : LrI g i ks res) (hi : ks.length ≤ i) : res = some ks := by
  have := h.n
  have := h.le
  obtain ⟨f, hf⟩ : ∃ f, 514 - i = f + 1 := ⟨513 - i, by omega⟩
  rw [← h.run, hf]
  unfold lrF
  rw [List.getElem?_eq_none hi]

theorem LrI.over {g : Gram} {i : Nat} {ks : List (List Itm)} {res : Option (List (List Itm))} (h : LrI g i ks res) (hi : i < ks.length) {m : Nat} (hm : m ≤ g.Terms.length + g.Nons.length) (hl : 512 < (symK g (closedP g ks[i]) ks m).length) : res = none := by
  have := h.n
  obtain ⟨f, hf⟩ : ∃ f, 514 - i = f + 1 := ⟨513 - i, by omega⟩
  rw [← h.run, hf]
  unfold lrF
  rw [List.getElem?_eq_getElem hi]
  obtain ⟨d, hd⟩ := Nat.exists_eq_add_of_le hm
  have h1 := (symK_mono g (closedP g ks[i]) ks m d).length_le
  rw [← hd] at h1
  simp only
  rw [if_pos (by omega)]

theorem LrI.next {g : Gram} (o : GOk g) {i : Nat} {ks : List (List Itm)} {res : Option (List (List Itm))} (h : LrI g i ks res) (hi : i < ks.length) (hl : (symK g (closedP g ks[i]) ks (g.Terms.length + g.Nons.length)).length ≤ 512) :
    LrI g (i + 1) (symK g (closedP g ks[i]) ks (g.Terms.length + g.Nons.length)) res := by
  have := h.n
  have hp := (symK_pre g (closedP g ks[i]) ks (g.Terms.length + g.Nons.length)).length_le
  refine ⟨symK_ok o h.ok (h.ok.ok _ (List.getElem_mem hi)) _, by omega, hl, ?_⟩
  obtain ⟨f, hf⟩ : ∃ f, 514 - i = f + 1 := ⟨513 - i, by omega⟩
  rw [← h.run, hf]
  conv => rhs; unfold lrF
  rw [List.getElem?_eq_getElem hi]
  simp only
  rw [if_neg (by omega), show 514 - (i + 1) = f by omega]

/-- The kernels that were found stay the first ones. -/
theorem lrF_pre (g : Gram) : ∀ (f i : Nat) (ks fin : List (List Itm)), lrF g f i ks = some fin → ks <+: fin
  | 0, _, _, _, h => by cases h
  | f + 1, i, ks, fin, h => by
    unfold lrF at h
    cases hk : ks[i]? with
    | none => rw [hk] at h; simp only [Option.some.injEq] at h; subst h; exact List.prefix_refl _
    | some k =>
      rw [hk] at h
      simp only at h
      split at h
      · cases h
      · exact (symK_pre g _ ks _).trans (lrF_pre g f (i + 1) _ fin h)

theorem LrI.pre {g : Gram} {i : Nat} {ks fin : List (List Itm)} (h : LrI g i ks (some fin)) : ks <+: fin := lrF_pre g _ _ _ _ h.run

end Go.Proofs.YtcnpjhaedjncdaaGreatDoor

namespace Go.Proofs.YtcnpjhaedjncdaaGreatDoor
open Go.Proofs.YtcnpjhaedjncdaaGreatDoor.E
def Tryz.tab : Tab := [
  (3, ⟨(.int .i64), 1, 8, [(.int .i64 0)]⟩),
  (27, ⟨(.struct [(0, 1), (1, 1), (2, 1), (3, 1), (4, 1)]), 5, 120, [(.slice none 0 0), (.slice none 0 0), (.slice none 0 0), (.slice none 0 0), (.slice none 0 0)]⟩),
  (79, ⟨(.struct [(0, 1), (1, 1)]), 2, 16, [(.int .i64 0), (.int .i64 0)]⟩),
  (88, ⟨(.slice 79), 1, 24, [(.slice none 0 0)]⟩),
  (55, ⟨(.slice 3), 1, 24, [(.slice none 0 0)]⟩),
  (25, ⟨(.slice 61), 1, 24, [(.slice none 0 0)]⟩),
  (39, ⟨(.slice 4), 1, 24, [(.slice none 0 0)]⟩),
  (61, ⟨(.struct [(0, 1), (1, 1), (2, 2)]), 4, 48, [(.int .i64 0), (.slice none 0 0), (.int .i64 0), (.int .i64 0)]⟩),
  (22, ⟨(.slice 9), 1, 24, [(.slice none 0 0)]⟩),
  (38, ⟨(.slice 39), 1, 24, [(.slice none 0 0)]⟩),
  (53, ⟨(.struct [(0, 1), (1, 1)]), 2, 16, [(.int .i64 0), (.int .i64 0)]⟩),
  (66, ⟨(.struct [(0, 1), (1, 1)]), 2, 48, [(.slice none 0 0), (.slice none 0 0)]⟩),
  (59, ⟨(.struct [(0, 1), (1, 1)]), 2, 16, [(.int .i64 0), (.int .i64 0)]⟩),
  (41, ⟨(.slice 55), 1, 24, [(.slice none 0 0)]⟩),
  (54, ⟨(.slice 53), 1, 24, [(.slice none 0 0)]⟩),
  (47, ⟨(.struct [(0, 1), (1, 1), (2, 1), (3, 1)]), 4, 80, [(.slice none 0 0), (.slice none 0 0), (.slice none 0 0), (.int .i64 0)]⟩),
  (44, ⟨(.struct [(0, 1), (1, 1), (2, 1), (3, 1)]), 4, 80, [(.slice none 0 0), (.slice none 0 0), (.slice none 0 0), (.int .i64 0)]⟩),
  (64, ⟨(.slice 88), 1, 24, [(.slice none 0 0)]⟩),
  (4, ⟨.bool, 1, 1, [(.bool false)]⟩),
  (178, ⟨(.int .u32), 1, 4, [(.int .u32 0)]⟩),
  (9, ⟨.str, 1, 16, [(.string ⟨#[]⟩)]⟩),
  (32, ⟨(.slice 38), 1, 24, [(.slice none 0 0)]⟩),
  (40, ⟨(.slice 54), 1, 24, [(.slice none 0 0)]⟩),
  (42, ⟨(.slice 57), 1, 24, [(.slice none 0 0)]⟩),
  (23, ⟨(.slice 59), 1, 24, [(.slice none 0 0)]⟩),
  (83, ⟨(.arr 48 4), 48, 48, List.replicate 48 (.bool false)⟩),
  (113, ⟨(.slice 5), 1, 24, [(.slice none 0 0)]⟩),
  (5, ⟨(.int .u8), 1, 1, [(.int .u8 0)]⟩),
  (180, ⟨(.int .u64), 1, 8, [(.int .u64 0)]⟩),
  (76, ⟨(.struct [(0, 5), (5, 2), (7, 1), (8, 1), (9, 1), (10, 1)]), 11, 216, [(.slice none 0 0), (.slice none 0 0), (.slice none 0 0), (.slice none 0 0), (.slice none 0 0), (.slice none 0 0), (.slice none 0 0), (.map none), (.slice none 0 0), (.map none), (.map none)]⟩),
  (120, ⟨(.struct [(0, 1), (1, 1)]), 2, 48, [(.slice none 0 0), (.slice none 0 0)]⟩),
  (29, ⟨(.int .i64), 1, 8, [(.int .i64 0)]⟩),
  (90, ⟨(.struct [(0, 1), (1, 1)]), 2, 48, [(.slice none 0 0), (.slice none 0 0)]⟩),
  (81, ⟨(.struct [(0, 1), (1, 2)]), 3, 24, [(.int .i64 0), (.int .i64 0), (.int .i64 0)]⟩),
  (184, ⟨(.int .u64), 1, 8, [(.int .u64 0)]⟩),
  (126, ⟨(.struct [(0, 5), (5, 1), (6, 1), (7, 1)]), 8, 192, [(.slice none 0 0), (.slice none 0 0), (.slice none 0 0), (.slice none 0 0), (.slice none 0 0), (.slice none 0 0), (.slice none 0 0), (.slice none 0 0)]⟩),
  (74, ⟨(.slice 81), 1, 24, [(.slice none 0 0)]⟩),
  (86, ⟨(.slice 90), 1, 24, [(.slice none 0 0)]⟩),
  (108, ⟨(.struct [(0, 2), (2, 1)]), 3, 56, [(.slice none 0 0), (.slice none 0 0), (.map none)]⟩),
  (162, ⟨(.int .u64), 1, 8, [(.int .u64 0)]⟩),
  (71, ⟨(.map 81 85), 1, 8, [(.map none)]⟩),
  (153, ⟨(.struct [(0, 1), (1, 1)]), 2, 32, [(.pointer none), (.slice none 0 0)]⟩),
  (200, ⟨(.arr 65 5), 65, 65, List.replicate 65 (.int .u8 0)⟩),
  (57, ⟨(.struct [(0, 1), (1, 1)]), 2, 16, [(.int .i64 0), (.int .i64 0)]⟩),
  (151, ⟨(.ptr 153), 1, 8, [(.pointer none)]⟩),
  (2, ⟨(.int .i64), 1, 8, [(.int .i64 0)]⟩),
  (98, ⟨(.struct [(0, 5), (5, 2), (7, 1)]), 8, 192, [(.slice none 0 0), (.slice none 0 0), (.slice none 0 0), (.slice none 0 0), (.slice none 0 0), (.slice none 0 0), (.slice none 0 0), (.slice none 0 0)]⟩),
  (106, ⟨(.map 9 3), 1, 8, [(.map none)]⟩),
  (146, ⟨(.ptr 126), 1, 8, [(.pointer none)]⟩),
  (190, ⟨(.arr 24 5), 24, 24, List.replicate 24 (.int .u8 0)⟩),
  (72, ⟨(.map 79 83), 1, 8, [(.map none)]⟩),
  (73, ⟨(.map 79 4), 1, 8, [(.map none)]⟩),
  (24, ⟨(.slice 217), 1, 24, [(.slice none 0 0)]⟩),
  (131, ⟨(.map 3 3), 1, 8, [(.map none)]⟩),
  (199, ⟨(.arr 20 180), 20, 160, List.replicate 20 (.int .u64 0)⟩),
  (201, ⟨(.arr 32 5), 32, 32, List.replicate 32 (.int .u8 0)⟩),
  (202, ⟨(.arr 64 5), 64, 64, List.replicate 64 (.int .u8 0)⟩),
  (85, ⟨(.ptr 83), 1, 8, [(.pointer none)]⟩),
  (171, ⟨(.int .i64), 1, 8, [(.int .i64 0)]⟩),
  (169, ⟨(.ptr 5), 1, 8, [(.pointer none)]⟩),
  (217, ⟨(.struct [(0, 1), (1, 1)]), 2, 24, [(.int .i64 0), (.string ⟨#[]⟩)]⟩)]
theorem Tryz.tabOk : TabOk Tryz.prog Tryz.tab := tabOk_of (by kernel_rfl)
theorem Tryz.mixed : Tryz.prog.follows .mixedOrders = true := by kernel_rfl
end Go.Proofs.YtcnpjhaedjncdaaGreatDoor

namespace Go.Proofs.YtcnpjhaedjncdaaGreatDoor
set_option linter.all false
open Go.Proofs.YtcnpjhaedjncdaaGreatDoor.E
attribute [local irreducible] EVX EVO EVL EV1 NEV
set_option maxRecDepth 10000

theorem mayBind_w (n k : Int) : Trip Tryz.prog 56 [.agg #[.int .i64 n, .int .i64 k]] Rd.tt [] (fun v V => v = .bool (mayBind n k) ∧ V = []) := by
  refine trip Tryz.tabOk Tryz.func56 rfl rfl rfl rfl ?_
  intro w SM _
  repeat' (first | refine e_nil ?_ | ((first | refine e_op ?_ | refine e_yes rfl ?_); (first | refine o_n (peval_sound rfl) rfl ?_ | refine o_n (nl rfl rfl tc rfl) rfl ?_ | refine o_box rfl rfl (fun _ => ?_))) | refine e_noU rfl rfl rfl ?_ | refine s_seq ?_ | refine s_region ?_ | ((fail_if_success (refine e_dec true (by exact rfl) ?_)); (fail_if_success (refine e_dec false (by exact rfl) ?_)); refine e_part rfl rfl (fun h => ?_) (fun h => ?_)))
  all_goals
    refine s_ret ?_
    refine ⟨_, _, res1 rfl rfl, ⟨?_, rfl⟩, Ent.nil _⟩
    simp_all [mayBind]
    try omega

theorem level_w (n k : Int) : Trip Tryz.prog 19 [.agg #[.int .i64 n, .int .i64 k]] Rd.tt [] (fun v V => v = .bool (mayBind n k) ∧ V = []) := by
  refine trip Tryz.tabOk Tryz.func19 rfl rfl rfl rfl ?_
  intro w SM _
  repeat' (first | refine e_nil ?_ | ((first | refine e_op ?_ | refine e_yes rfl ?_); (first | refine o_n (peval_sound rfl) rfl ?_ | refine o_n (nl rfl rfl tc rfl) rfl ?_ | refine o_box rfl rfl (fun _ => ?_))) | refine e_noU rfl rfl rfl ?_ | refine s_seq ?_ | refine s_region ?_ | ((fail_if_success (refine e_dec true (by exact rfl) ?_)); (fail_if_success (refine e_dec false (by exact rfl) ?_)); refine e_part rfl rfl (fun h => ?_) (fun h => ?_)))
  all_goals
    refine s_ret ?_
    refine ⟨_, _, res1 rfl rfl, ⟨?_, rfl⟩, Ent.nil _⟩
    simp_all [mayBind]
    try omega

theorem limits1_w (l : Int) (A : Option Addr) (m c : Nat) (n k : Int) : Trip Tryz.prog 72 [.agg #[.int .i64 l, .slice A m c, .int .i64 n, .int .i64 k]] Rd.tt [] (fun v V => v = .bool (decide (m > 12)) ∧ V = []) := by
  refine trip Tryz.tabOk Tryz.func72 rfl rfl rfl rfl ?_
  intro w SM _
  repeat' (first | refine e_nil ?_ | ((refine e_op ?_); (first | refine o_n (peval_sound rfl) rfl ?_ | refine o_n (nl rfl rfl tc rfl) rfl ?_ | refine o_box rfl rfl (fun _ => ?_))) | refine s_seq ?_ | refine s_region ?_)
  refine s_ret ?_
  refine ⟨_, _, res1 rfl rfl, ⟨?_, rfl⟩, Ent.nil _⟩
  congr 2
  simp; omega

theorem check1_w (n k : Int) : Trip Tryz.prog 55 [.agg #[.int .i64 n, .int .i64 k]] Rd.tt [] (fun v V => v = .bool (!mayBind n k) ∧ V = []) := by
  refine trip Tryz.tabOk Tryz.func55 rfl rfl rfl rfl ?_
  intro w SM _
  repeat' (first | refine e_nil ?_ | ((refine e_op ?_); (first | refine o_n (peval_sound rfl) rfl ?_ | refine o_n (nl rfl rfl tc rfl) rfl ?_ | refine o_box rfl rfl (fun _ => ?_))) | refine s_seq ?_ | refine s_region ?_)
  refine e_op (o_call (mayBind_w n k) rfl .nil Can.tt rfl ?_)
  rintro v V ⟨rfl, rfl⟩
  repeat' (first | refine e_nil ?_ | ((refine e_op ?_); (refine o_n (peval_sound rfl) rfl ?_)))
  refine s_ret ?_
  exact ⟨_, _, res1 rfl rfl, ⟨rfl, rfl⟩, Ent.nil _⟩

theorem learn_w (A : Option Addr) (c : Nat) (n : Nat) (xs : List Bool) (hn : n = xs.length) (i : Nat) (hi : i < xs.length) :
    Trip Tryz.prog 76 [.slice A n c, .int .i64 i] Rd.tt [osl 4 1 (.slice A n c) n (xs.map Value.bool)]
      (fun v V => v = .bool (!xs[i]) ∧ V = [osl 4 1 (.slice A n c) n ((xs.set i true).map Value.bool)]) := by
  subst hn
  refine trip Tryz.tabOk Tryz.func76 rfl rfl rfl rfl ?_
  intro w SM _
  repeat' (first | refine e_nil ?_ | ((refine e_op ?_); (refine o_n (peval_sound rfl) rfl ?_)) | refine s_seq ?_ | refine s_region ?_)
  refine e_open .z (by omega) ?_
  rintro b rfl
  refine e_op (o_n (n_index rfl rfl rfl rfl i rfl hi) rfl ?_)
  refine e_op (o_n (n_load_osl (v := .bool xs[i]) rfl rfl .z (by simp [loadL, aggB, hi])) rfl ?_)
  repeat' (first | refine e_nil ?_ | ((refine e_op ?_); (refine o_n (peval_sound rfl) rfl ?_)) | refine s_seq ?_ | refine s_region ?_)
  refine e_op (o_n (n_index rfl rfl rfl rfl i rfl hi) rfl ?_)
  refine e_op (o_store_osl (vs := [.bool true]) rfl rfl rfl rfl rfl rfl (by simp; omega) .z ?_)
  repeat' (first | refine e_nil ?_ | ((refine e_op ?_); (refine o_n (peval_sound rfl) rfl ?_)) | refine s_seq ?_ | refine s_region ?_)
  refine s_ret ?_
  refine ⟨_, _, res1 rfl rfl, ⟨rfl, rfl⟩, ?_⟩
  simp only [setMany, Nat.zero_add, Nat.mul_one, List.map_set]
  exact Ent.refl _

end Go.Proofs.YtcnpjhaedjncdaaGreatDoor

namespace Go.Proofs.YtcnpjhaedjncdaaGreatDoor
set_option linter.all false
open Go.Proofs.YtcnpjhaedjncdaaGreatDoor.E
attribute [local irreducible] EVX EVO EVL EV1 NEV
set_option maxRecDepth 10000

def idxf {α : Type} (p : α → Bool) (xs : List α) : Int := match xs.findIdx? p with | some i => (i : Int) | none => -1

theorem idxf_at {α : Type} {p : α → Bool} {xs : List α} {i : Nat} (hi : i < xs.length) (ht : (xs.take i).any p = false) (h : p xs[i] = true) : idxf p xs = i := by
  unfold idxf
  have : xs.findIdx? p = some i := by
    rw [List.findIdx?_eq_some_iff_getElem]
    refine ⟨hi, h, fun j hj => ?_⟩
    rw [List.any_eq_false] at ht
    have := ht xs[j] (by rw [List.mem_take_iff_getElem]; exact ⟨j, by omega, rfl⟩)
    simpa using this
  rw [this]

theorem idxf_none {α : Type} {p : α → Bool} {xs : List α} (h : xs.any p = false) : idxf p xs = -1 := by
  unfold idxf
  have : xs.findIdx? p = none := by rw [List.findIdx?_eq_none_iff]; simpa using h
  rw [this]

theorem idxf_ge {α : Type} {p : α → Bool} {xs : List α} : decide (idxf p xs ≥ 0) = xs.any p := by
  unfold idxf
  cases h : xs.findIdx? p with
  | none =>
    rw [List.findIdx?_eq_none_iff] at h
    have : xs.any p = false := by simpa using h
    rw [this]; rfl
  | some i =>
    rw [List.findIdx?_eq_some_iff_getElem] at h
    obtain ⟨hi, hp, _⟩ := h
    have : xs.any p = true := List.any_eq_true.2 ⟨_, List.getElem_mem hi, hp⟩
    rw [this]; simp

theorem any_take_succ {α : Type} {p : α → Bool} {xs : List α} {i : Nat} (hi : i < xs.length) (ht : (xs.take i).any p = false) (h : p xs[i] = false) : (xs.take (i + 1)).any p = false := by
  rw [List.take_succ_eq_append_getElem hi, List.any_append, ht]; simp [h]

theorem idxPrd_w {α : Type} (k : Kd α) (hk : k.sz = 4) (g : Nat) (l m : List Value) (RF : Rd) (p : α → Bool) (A : Option Addr) (c : Nat) (xs : List α)
    (hF : ∀ es x, x ∈ xs → Trip Tryz.prog g (l ++ [.agg es.toArray] ++ m) (RF.and (k.rd es x)) [] (fun v V => v = .bool (p x) ∧ V = [])) :
    Trip Tryz.prog 88 [.slice A xs.length c, .func (.func g) l.toArray m.toArray] (RF.and ((kslice 48 k).rd [.slice A xs.length c] xs)) [] (fun v V => v = .int .i64 (idxf p xs) ∧ V = []) := by
  refine trip Tryz.tabOk Tryz.func88 rfl rfl rfl rfl ?_
  rintro w SM ⟨hRF, A', c', e1, h1⟩
  cases e1
  repeat' (first | refine e_nil ?_ | ((refine e_op ?_); (refine o_n (peval_sound rfl) rfl ?_)) | refine s_seq ?_ | refine s_region ?_ | refine s_block ?_)
  refine s_loopK (ι := {i : Nat // i ≤ xs.length ∧ (xs.take i).any p = false}) [0, 1, 7] rfl ⟨0, by omega, rfl⟩ (fun i => [(8, .int .i64 i.1)]) (fun _ => []) (fun i => xs.length - i.1) ?_ (Ent.nil _) ?_
  · repeat' (first | exact Sub.nil _ | refine Sub.cons rfl ?_)
  rintro ⟨i, hi, ht⟩
  repeat' (first | refine e_nil ?_ | ((refine e_op ?_); (refine o_n (peval_sound rfl) rfl ?_)) | refine s_seq ?_ | refine s_region ?_)
  refine s_cond rfl (fun h => ?_) (fun h => ?_)
  · have hlt : i < xs.length := by simpa using h
    obtain ⟨b, o, es, rfl, hb, he, hc⟩ := h1.2.2 i hlt
    repeat' (first | refine e_nil ?_ | ((refine e_op ?_); (refine o_n (peval_sound rfl) rfl ?_)) | refine s_seq ?_ | refine s_region ?_ | refine s_block ?_ | refine s_skip ?_)
    refine e_op (o_n (n_index rfl rfl rfl rfl i rfl hlt) rfl ?_)
    refine e_op (o_n (n_load_ro rfl rfl hb (loads_agg (es := es) rfl (by rw [k.len he, hk]) (by rw [hk] at hc; exact hc))) rfl ?_)
    refine e_op (o_callv rfl (hF es xs[i] (List.getElem_mem _)) rfl .nil (Can.ro ⟨hRF, he⟩) rfl ?_)
    rintro v V ⟨rfl, rfl⟩
    repeat' (refine e_nil ?_)
    refine s_cond rfl (fun h => ?_) (fun h => ?_)
    · repeat' (first | refine e_nil ?_ | ((refine e_op ?_); (refine o_n (peval_sound rfl) rfl ?_)) | refine s_seq ?_ | refine s_region ?_)
      refine s_ret ⟨_, _, res1 rfl rfl, ⟨?_, rfl⟩, Ent.nil _⟩
      rw [idxf_at hlt ht h]
    · repeat' (first | refine e_nil ?_ | ((refine e_op ?_); (refine o_n (peval_sound rfl) rfl ?_)) | refine s_region ?_ | refine s_end ?_ | refine s_skip ?_)
      refine s_back ⟨⟨i + 1, by omega, any_take_succ hlt ht h⟩, by simp only; omega, ?_, Ent.nil _⟩
      repeat' (first | exact Sub.nil _ | refine Sub.cons rfl ?_ | refine Sub.consE rfl ?_ ?_)
      exact inc (i := i) (by have := h1.2.1; omega)
  · have hge : i = xs.length := by simp at h; omega
    repeat' (first | refine e_nil ?_ | ((refine e_op ?_); (refine o_n (peval_sound rfl) rfl ?_)) | refine s_seq ?_ | refine s_region ?_ | refine s_exit ?_ | refine x_hit ?_ | refine x_code ?_ | refine x_back ?_)
    refine s_ret ⟨_, _, res1 rfl rfl, ⟨?_, rfl⟩, Ent.nil _⟩
    subst hge
    rw [List.take_length] at ht
    rw [idxf_none ht]

theorem hasPrd_w {α : Type} (k : Kd α) (hk : k.sz = 4) (g : Nat) (l m : List Value) (RF : Rd) (p : α → Bool) (A : Option Addr) (c : Nat) (xs : List α)
    (hF : ∀ es x, x ∈ xs → Trip Tryz.prog g (l ++ [.agg es.toArray] ++ m) (RF.and (k.rd es x)) [] (fun v V => v = .bool (p x) ∧ V = [])) :
    Trip Tryz.prog 71 [.slice A xs.length c, .func (.func g) l.toArray m.toArray] (RF.and ((kslice 48 k).rd [.slice A xs.length c] xs)) [] (fun v V => v = .bool (xs.any p) ∧ V = []) := by
  refine trip Tryz.tabOk Tryz.func71 rfl rfl rfl rfl ?_
  rintro w SM hR
  repeat' (first | refine e_nil ?_ | ((refine e_op ?_); (refine o_n (peval_sound rfl) rfl ?_)) | refine s_seq ?_ | refine s_region ?_)
  refine e_op (o_call (idxPrd_w k hk g l m RF p A c xs hF) rfl .nil (Can.ro hR) rfl ?_)
  rintro v V ⟨rfl, rfl⟩
  repeat' (first | refine e_nil ?_ | ((refine e_op ?_); (refine o_n (peval_sound rfl) rfl ?_)))
  refine s_ret ⟨_, _, res1 rfl rfl, ⟨?_, rfl⟩, Ent.nil _⟩
  rw [idxf_ge]


theorem idxLev_w {α : Type} (k : Kd α) (hk : k.sz = 2) (g : Nat) (l m : List Value) (RF : Rd) (p : α → Bool) (A : Option Addr) (c : Nat) (xs : List α)
    (hF : ∀ es x, x ∈ xs → Trip Tryz.prog g (l ++ [.agg es.toArray] ++ m) (RF.and (k.rd es x)) [] (fun v V => v = .bool (p x) ∧ V = [])) :
    Trip Tryz.prog 73 [.slice A xs.length c, .func (.func g) l.toArray m.toArray] (RF.and ((kslice 16 k).rd [.slice A xs.length c] xs)) [] (fun v V => v = .int .i64 (idxf p xs) ∧ V = []) := by
  refine trip Tryz.tabOk Tryz.func73 rfl rfl rfl rfl ?_
  rintro w SM ⟨hRF, A', c', e1, h1⟩
  cases e1
  repeat' (first | refine e_nil ?_ | ((refine e_op ?_); (refine o_n (peval_sound rfl) rfl ?_)) | refine s_seq ?_ | refine s_region ?_ | refine s_block ?_)
  refine s_loopK (ι := {i : Nat // i ≤ xs.length ∧ (xs.take i).any p = false}) [0, 1, 7] rfl ⟨0, by omega, rfl⟩ (fun i => [(8, .int .i64 i.1)]) (fun _ => []) (fun i => xs.length - i.1) ?_ (Ent.nil _) ?_
  · repeat' (first | exact Sub.nil _ | refine Sub.cons rfl ?_)
  rintro ⟨i, hi, ht⟩
  repeat' (first | refine e_nil ?_ | ((refine e_op ?_); (refine o_n (peval_sound rfl) rfl ?_)) | refine s_seq ?_ | refine s_region ?_)
  refine s_cond rfl (fun h => ?_) (fun h => ?_)
  · have hlt : i < xs.length := by simpa using h
    obtain ⟨b, o, es, rfl, hb, he, hc⟩ := h1.2.2 i hlt
    repeat' (first | refine e_nil ?_ | ((refine e_op ?_); (refine o_n (peval_sound rfl) rfl ?_)) | refine s_seq ?_ | refine s_region ?_ | refine s_block ?_ | refine s_skip ?_)
    refine e_op (o_n (n_index rfl rfl rfl rfl i rfl hlt) rfl ?_)
    refine e_op (o_n (n_load_ro rfl rfl hb (loads_agg (es := es) rfl (by rw [k.len he, hk]) (by rw [hk] at hc; exact hc))) rfl ?_)
    refine e_op (o_callv rfl (hF es xs[i] (List.getElem_mem _)) rfl .nil (Can.ro ⟨hRF, he⟩) rfl ?_)
    rintro v V ⟨rfl, rfl⟩
    repeat' (refine e_nil ?_)
    refine s_cond rfl (fun h => ?_) (fun h => ?_)
    · repeat' (first | refine e_nil ?_ | ((refine e_op ?_); (refine o_n (peval_sound rfl) rfl ?_)) | refine s_seq ?_ | refine s_region ?_)
      refine s_ret ⟨_, _, res1 rfl rfl, ⟨?_, rfl⟩, Ent.nil _⟩
      rw [idxf_at hlt ht h]
    · repeat' (first | refine e_nil ?_ | ((refine e_op ?_); (refine o_n (peval_sound rfl) rfl ?_)) | refine s_region ?_ | refine s_end ?_ | refine s_skip ?_)
      refine s_back ⟨⟨i + 1, by omega, any_take_succ hlt ht h⟩, by simp only; omega, ?_, Ent.nil _⟩
      repeat' (first | exact Sub.nil _ | refine Sub.cons rfl ?_ | refine Sub.consE rfl ?_ ?_)
      exact inc (i := i) (by have := h1.2.1; omega)
  · have hge : i = xs.length := by simp at h; omega
    repeat' (first | refine e_nil ?_ | ((refine e_op ?_); (refine o_n (peval_sound rfl) rfl ?_)) | refine s_seq ?_ | refine s_region ?_ | refine s_exit ?_ | refine x_hit ?_ | refine x_code ?_ | refine x_back ?_)
    refine s_ret ⟨_, _, res1 rfl rfl, ⟨?_, rfl⟩, Ent.nil _⟩
    subst hge
    rw [List.take_length] at ht
    rw [idxf_none ht]

theorem hasLev_w {α : Type} (k : Kd α) (hk : k.sz = 2) (g : Nat) (l m : List Value) (RF : Rd) (p : α → Bool) (A : Option Addr) (c : Nat) (xs : List α)
    (hF : ∀ es x, x ∈ xs → Trip Tryz.prog g (l ++ [.agg es.toArray] ++ m) (RF.and (k.rd es x)) [] (fun v V => v = .bool (p x) ∧ V = [])) :
    Trip Tryz.prog 54 [.slice A xs.length c, .func (.func g) l.toArray m.toArray] (RF.and ((kslice 16 k).rd [.slice A xs.length c] xs)) [] (fun v V => v = .bool (xs.any p) ∧ V = []) := by
  refine trip Tryz.tabOk Tryz.func54 rfl rfl rfl rfl ?_
  rintro w SM hR
  repeat' (first | refine e_nil ?_ | ((refine e_op ?_); (refine o_n (peval_sound rfl) rfl ?_)) | refine s_seq ?_ | refine s_region ?_)
  refine e_op (o_call (idxLev_w k hk g l m RF p A c xs hF) rfl .nil (Can.ro hR) rfl ?_)
  rintro v V ⟨rfl, rfl⟩
  repeat' (first | refine e_nil ?_ | ((refine e_op ?_); (refine o_n (peval_sound rfl) rfl ?_)))
  refine s_ret ⟨_, _, res1 rfl rfl, ⟨?_, rfl⟩, Ent.nil _⟩
  rw [idxf_ge]


theorem idxInt_w {α : Type} (k : Kd α) (hk : k.sz = 1) (g : Nat) (l m : List Value) (RF : Rd) (p : α → Bool) (A : Option Addr) (c : Nat) (xs : List α)
    (hF : ∀ u x, x ∈ xs → Trip Tryz.prog g (l ++ [u] ++ m) (RF.and (k.rd [u] x)) [] (fun v V => v = .bool (p x) ∧ V = [])) :
    Trip Tryz.prog 89 [.slice A xs.length c, .func (.func g) l.toArray m.toArray] (RF.and ((kslice 8 k).rd [.slice A xs.length c] xs)) [] (fun v V => v = .int .i64 (idxf p xs) ∧ V = []) := by
  refine trip Tryz.tabOk Tryz.func89 rfl rfl rfl rfl ?_
  rintro w SM ⟨hRF, A', c', e1, h1⟩
  cases e1
  repeat' (first | refine e_nil ?_ | ((refine e_op ?_); (refine o_n (peval_sound rfl) rfl ?_)) | refine s_seq ?_ | refine s_region ?_ | refine s_block ?_)
  refine s_loopK (ι := {i : Nat // i ≤ xs.length ∧ (xs.take i).any p = false}) [0, 1, 7] rfl ⟨0, by omega, rfl⟩ (fun i => [(8, .int .i64 i.1)]) (fun _ => []) (fun i => xs.length - i.1) ?_ (Ent.nil _) ?_
  · repeat' (first | exact Sub.nil _ | refine Sub.cons rfl ?_)
  rintro ⟨i, hi, ht⟩
  repeat' (first | refine e_nil ?_ | ((refine e_op ?_); (refine o_n (peval_sound rfl) rfl ?_)) | refine s_seq ?_ | refine s_region ?_)
  refine s_cond rfl (fun h => ?_) (fun h => ?_)
  · have hlt : i < xs.length := by simpa using h
    obtain ⟨b, o, es, rfl, hb, he, hc⟩ := h1.2.2 i hlt
    obtain ⟨u, rfl⟩ : ∃ u, es = [u] := by have := k.len he; rw [hk] at this; exact List.length_eq_one_iff.1 this
    have hc0 := hc 0 u rfl
    rw [hk] at hc0
    repeat' (first | refine e_nil ?_ | ((refine e_op ?_); (refine o_n (peval_sound rfl) rfl ?_)) | refine s_seq ?_ | refine s_region ?_ | refine s_block ?_ | refine s_skip ?_)
    refine e_op (o_n (n_index rfl rfl rfl rfl i rfl hlt) rfl ?_)
    refine e_op (o_n (n_load_ro rfl rfl hb (loads_one rfl hc0)) rfl ?_)
    refine e_op (o_callv rfl (hF u xs[i] (List.getElem_mem _)) rfl .nil (Can.ro ⟨hRF, he⟩) rfl ?_)
    rintro v V ⟨rfl, rfl⟩
    repeat' (refine e_nil ?_)
    refine s_cond rfl (fun h => ?_) (fun h => ?_)
    · repeat' (first | refine e_nil ?_ | ((refine e_op ?_); (refine o_n (peval_sound rfl) rfl ?_)) | refine s_seq ?_ | refine s_region ?_)
      refine s_ret ⟨_, _, res1 rfl rfl, ⟨?_, rfl⟩, Ent.nil _⟩
      rw [idxf_at hlt ht h]
    · repeat' (first | refine e_nil ?_ | ((refine e_op ?_); (refine o_n (peval_sound rfl) rfl ?_)) | refine s_region ?_ | refine s_end ?_ | refine s_skip ?_)
      refine s_back ⟨⟨i + 1, by omega, any_take_succ hlt ht h⟩, by simp only; omega, ?_, Ent.nil _⟩
      repeat' (first | exact Sub.nil _ | refine Sub.cons rfl ?_ | refine Sub.consE rfl ?_ ?_)
      exact inc (i := i) (by have := h1.2.1; omega)
  · have hge : i = xs.length := by simp at h; omega
    repeat' (first | refine e_nil ?_ | ((refine e_op ?_); (refine o_n (peval_sound rfl) rfl ?_)) | refine s_seq ?_ | refine s_region ?_ | refine s_exit ?_ | refine x_hit ?_ | refine x_code ?_ | refine x_back ?_)
    refine s_ret ⟨_, _, res1 rfl rfl, ⟨?_, rfl⟩, Ent.nil _⟩
    subst hge
    rw [List.take_length] at ht
    rw [idxf_none ht]

theorem hasInt_w {α : Type} (k : Kd α) (hk : k.sz = 1) (g : Nat) (l m : List Value) (RF : Rd) (p : α → Bool) (A : Option Addr) (c : Nat) (xs : List α)
    (hF : ∀ u x, x ∈ xs → Trip Tryz.prog g (l ++ [u] ++ m) (RF.and (k.rd [u] x)) [] (fun v V => v = .bool (p x) ∧ V = [])) :
    Trip Tryz.prog 74 [.slice A xs.length c, .func (.func g) l.toArray m.toArray] (RF.and ((kslice 8 k).rd [.slice A xs.length c] xs)) [] (fun v V => v = .bool (xs.any p) ∧ V = []) := by
  refine trip Tryz.tabOk Tryz.func74 rfl rfl rfl rfl ?_
  rintro w SM hR
  repeat' (first | refine e_nil ?_ | ((refine e_op ?_); (refine o_n (peval_sound rfl) rfl ?_)) | refine s_seq ?_ | refine s_region ?_)
  refine e_op (o_call (idxInt_w k hk g l m RF p A c xs hF) rfl .nil (Can.ro hR) rfl ?_)
  rintro v V ⟨rfl, rfl⟩
  repeat' (first | refine e_nil ?_ | ((refine e_op ?_); (refine o_n (peval_sound rfl) rfl ?_)))
  refine s_ret ⟨_, _, res1 rfl rfl, ⟨?_, rfl⟩, Ent.nil _⟩
  rw [idxf_ge]


end Go.Proofs.YtcnpjhaedjncdaaGreatDoor

namespace Go.Proofs.YtcnpjhaedjncdaaGreatDoor
set_option linter.all false
open Go.Proofs.YtcnpjhaedjncdaaGreatDoor.E
attribute [local irreducible] EVX EVO EVL EV1 NEV
set_option maxRecDepth 10000

theorem limits_w (cs : List Value) (g : Gram) : Trip Tryz.prog 53 [.agg cs.toArray] (kGram.rd cs g) [] (fun v V => v = .bool (limitsB g) ∧ V = []) := by
  refine trip Tryz.tabOk Tryz.func53 rfl rfl rfl rfl ?_
  intro w SM hR
  obtain ⟨A0, A1, A2, A3, A4, c0, c1, c2, c3, c4, rfl, hG⟩ := kGram_open hR
  have hF : ∀ es (x : Prd), x ∈ g.Prods → Trip Tryz.prog 72 ([] ++ [.agg es.toArray] ++ []) (Rd.tt.and (kPrd.rd es x)) [] (fun v V => v = .bool (decide (x.Right.length > 12)) ∧ V = []) := by
    intro es x _
    refine ⟨(limits1_w 0 none 0 0 0 0).enters, fun w SM h1 h2 h3 => ?_⟩
    obtain ⟨A, c, rfl, _⟩ := kPrd_open h3.2
    exact (limits1_w _ _ _ _ _ _).calls w SM h1 h2 trivial
  repeat' (first | refine e_nil ?_ | ((first | refine e_op ?_ | refine e_yes rfl ?_); (first | refine o_n (peval_sound rfl) rfl ?_ | refine o_n (nl rfl rfl tc rfl) rfl ?_ | refine o_box rfl rfl (fun _ => ?_))) | refine e_noU rfl rfl rfl ?_ | refine s_seq ?_ | refine s_region ?_ | ((fail_if_success (refine e_dec true (by exact rfl) ?_)); (fail_if_success (refine e_dec false (by exact rfl) ?_)); refine e_part rfl rfl (fun h => ?_) (fun h => ?_)))

  all_goals try
    refine s_ret ⟨_, _, res1 rfl rfl, ⟨?_, rfl⟩, Ent.nil _⟩
    unfold limitsB
    clear hF hG hR
    congr 1
    simp_all
    try omega
  refine e_yes rfl (o_call (hasPrd_w kPrd rfl 72 [] [] Rd.tt (fun x => decide (x.Right.length > 12)) A4 c4 g.Prods hF) rfl .nil (Can.ro ⟨trivial, sl_mk hG.prods⟩) rfl ?_)
  rintro v V ⟨rfl, rfl⟩
  repeat' (first | refine e_nil ?_ | ((refine e_op ?_); (refine o_n (peval_sound rfl) rfl ?_)))
  refine s_ret ⟨_, _, res1 rfl rfl, ⟨?_, rfl⟩, Ent.nil _⟩
  unfold limitsB
  clear hF hG hR
  have e1 : decide (g.Terms.length > 48) = false := by simp_all; omega
  have e2 : decide (g.Nons.length > 48) = false := by simp_all; omega
  have e3 : decide (g.Prods.length > 128) = false := by simp_all; omega
  rw [e1, e2, e3]; rfl

theorem indexBool_w (A : Option Addr) (c : Nat) (xs : List Bool) (y : Bool) : Trip Tryz.prog 77 [.slice A xs.length c, .bool y] ((kslice 1 kbool).rd [.slice A xs.length c] xs) []
    (fun v V => v = .int .i64 (idxf (fun x => y == x) xs) ∧ V = []) := by
  refine trip Tryz.tabOk Tryz.func77 rfl rfl rfl rfl ?_
  rintro w SM ⟨A', c', e1, h1⟩
  cases e1
  repeat' (first | refine e_nil ?_ | ((refine e_op ?_); (refine o_n (peval_sound rfl) rfl ?_)) | refine s_seq ?_ | refine s_region ?_ | refine s_block ?_)
  refine s_loopK (ι := {i : Nat // i ≤ xs.length ∧ (xs.take i).any (fun x => y == x) = false}) [0, 1, 7] rfl ⟨0, by omega, rfl⟩ (fun i => [(8, .int .i64 i.1)]) (fun _ => []) (fun i => xs.length - i.1) ?_ (Ent.nil _) ?_
  · repeat' (first | exact Sub.nil _ | refine Sub.cons rfl ?_)
  rintro ⟨i, hi, ht⟩
  repeat' (first | refine e_nil ?_ | ((refine e_op ?_); (refine o_n (peval_sound rfl) rfl ?_)) | refine s_seq ?_ | refine s_region ?_)
  refine s_cond rfl (fun h => ?_) (fun h => ?_)
  · have hlt : i < xs.length := by simpa using h
    obtain ⟨b, o, es, rfl, hb, rfl, hc⟩ := h1.2.2 i hlt
    repeat' (first | refine e_nil ?_ | ((refine e_op ?_); (refine o_n (peval_sound rfl) rfl ?_)) | refine s_seq ?_ | refine s_region ?_ | refine s_block ?_ | refine s_skip ?_)
    refine e_op (o_n (n_index rfl rfl rfl rfl i rfl hlt) rfl ?_)
    refine e_op (o_n (n_load_ro rfl rfl hb (loads_one rfl (hc 0 _ rfl))) rfl ?_)
    repeat' (first | refine e_nil ?_ | ((refine e_op ?_); (refine o_n (peval_sound rfl) rfl ?_)))
    refine s_cond rfl (fun h => ?_) (fun h => ?_)
    · repeat' (first | refine e_nil ?_ | ((refine e_op ?_); (refine o_n (peval_sound rfl) rfl ?_)) | refine s_seq ?_ | refine s_region ?_)
      refine s_ret ⟨_, _, res1 rfl rfl, ⟨?_, rfl⟩, Ent.nil _⟩
      rw [idxf_at hlt ht h]
    · repeat' (first | refine e_nil ?_ | ((refine e_op ?_); (refine o_n (peval_sound rfl) rfl ?_)) | refine s_region ?_ | refine s_end ?_ | refine s_skip ?_)
      refine s_back ⟨⟨i + 1, by omega, any_take_succ hlt ht h⟩, by simp only; omega, ?_, Ent.nil _⟩
      repeat' (first | exact Sub.nil _ | refine Sub.cons rfl ?_ | refine Sub.consE rfl ?_ ?_)
      exact inc (i := i) (by have := h1.2.1; omega)
  · have hge : i = xs.length := by simp at h; omega
    repeat' (first | refine e_nil ?_ | ((refine e_op ?_); (refine o_n (peval_sound rfl) rfl ?_)) | refine s_seq ?_ | refine s_region ?_ | refine s_exit ?_ | refine x_hit ?_ | refine x_code ?_ | refine x_back ?_)
    refine s_ret ⟨_, _, res1 rfl rfl, ⟨?_, rfl⟩, Ent.nil _⟩
    subst hge
    rw [List.take_length] at ht
    rw [idxf_none ht]

theorem hasBool_w (A : Option Addr) (c : Nat) (xs : List Bool) (y : Bool) : Trip Tryz.prog 59 [.slice A xs.length c, .bool y] ((kslice 1 kbool).rd [.slice A xs.length c] xs) []
    (fun v V => v = .bool (xs.any (fun x => y == x)) ∧ V = []) := by
  refine trip Tryz.tabOk Tryz.func59 rfl rfl rfl rfl ?_
  rintro w SM hR
  repeat' (first | refine e_nil ?_ | ((refine e_op ?_); (refine o_n (peval_sound rfl) rfl ?_)) | refine s_seq ?_ | refine s_region ?_)
  refine e_op (o_call (indexBool_w A c xs y) rfl .nil (Can.ro hR) rfl ?_)
  rintro v V ⟨rfl, rfl⟩
  repeat' (first | refine e_nil ?_ | ((refine e_op ?_); (refine o_n (peval_sound rfl) rfl ?_)))
  refine s_ret ⟨_, _, res1 rfl rfl, ⟨?_, rfl⟩, Ent.nil _⟩
  rw [idxf_ge]

end Go.Proofs.YtcnpjhaedjncdaaGreatDoor

namespace Go.Proofs.YtcnpjhaedjncdaaGreatDoor
set_option linter.all false
open Go.Proofs.YtcnpjhaedjncdaaGreatDoor.E
attribute [local irreducible] EVX EVO EVL EV1 NEV
set_option maxRecDepth 10000

/-- A kbool of its own value. -/
theorem kbool_enc (w : World) (S : BSet) (x : Bool) : kbool.R w S [Value.bool x] x := rfl

def kwC (gcs : List Value) (Au : Option Addr) (nu cu : Nat) (v2 v3 : Value) : List Value := gcs ++ [.slice Au nu cu, v2, v3]

theorem useful1_w (b4 b1 bk : Nat) (t : Nat) (gcs : List Value) (hg : gcs.length = 5) (Au : Option Addr) (n cu : Nat) (use : List Bool) (hn : n = use.length) (v2 v3 : Value) (s : Int) (hs : I64 s) (ht : t ≤ 140737488355328) (hs2 : s < t + use.length) :
    Trip Tryz.prog 75 [.int .i64 s, .pointer (some ⟨b4, 0, none⟩), .pointer (some ⟨b1, 0, none⟩)]
      ((rblk b4 3 [.int .i64 t]).and ((rblk b1 146 [.pointer (some ⟨bk, 0, none⟩)]).and ((rblk bk 126 (kwC gcs Au n cu v2 v3)).and ((kslice 1 kbool).rd [.slice Au n cu] use)))) []
      (fun v V => v = .bool (!okSym t use s) ∧ V = []) := by
  subst hn
  refine trip Tryz.tabOk Tryz.func75 rfl rfl rfl rfl ?_
  rintro w SM ⟨⟨h4, h4'⟩, ⟨h1, h1'⟩, ⟨hk, hk'⟩, A', c', e1, hu⟩
  cases e1
  obtain ⟨g0, g1, g2, g3, g4, rfl⟩ : ∃ g0 g1 g2 g3 g4, gcs = [g0, g1, g2, g3, g4] := by
    match gcs, hg with
    | [g0, g1, g2, g3, g4], _ => exact ⟨g0, g1, g2, g3, g4, rfl⟩
  repeat' (first | refine e_nil ?_ | ((refine e_op ?_); (refine o_n (peval_sound rfl) rfl ?_)) | refine s_seq ?_ | refine s_region ?_)
  refine s_drawU [] Tryz.mixed (by decide +kernel) ?_
  repeat' (((refine l_n (peval_sound rfl) rfl ?_ rfl ?_); · (exact Ent.refl _)))
  refine l_n (n_load_ro rfl rfl h4 (loads_blk h4' rfl)) rfl (Ent.refl _) rfl ?_
  repeat' (first | refine l_nil ?_ | ((first | refine l_no rfl rfl rfl ?_ rfl ?_ | refine l_n (peval_sound rfl) rfl ?_ rfl ?_); · (exact Ent.refl _)) | ((fail_if_success (refine l_dec true (by exact rfl) ?_)); (fail_if_success (refine l_dec false (by exact rfl) ?_)); refine l_part rfl rfl (fun h => ?_) (fun h => ?_)))
  · -- at or beyond the first name
    have hge : (t : Int) ≤ s := by simpa using h
    have hlt : (s - t).toNat < use.length := by omega
    refine l_ny rfl (n_load_ro rfl rfl h1 (loads_blk h1' rfl)) rfl (Ent.refl _) rfl ?_
    repeat' (((refine l_ny rfl (peval_sound rfl) rfl ?_ rfl ?_); · (exact Ent.refl _)))
    refine l_ny rfl (n_load_ro rfl rfl hk (loads_blk hk' rfl)) rfl (Ent.refl _) rfl ?_
    repeat' (((refine l_ny rfl (peval_sound rfl) rfl ?_ rfl ?_); · (exact Ent.refl _)))
    refine l_ny rfl (n_load_ro rfl rfl h4 (loads_blk h4' rfl)) rfl (Ent.refl _) rfl ?_
    repeat' (((refine l_ny rfl (peval_sound rfl) rfl ?_ rfl ?_); · (exact Ent.refl _)))
    obtain ⟨b, o, es, rfl, hb, rfl, hc⟩ := hu.2.2 _ hlt
    refine l_ny rfl (n_index rfl rfl rfl rfl (s - t).toNat (by rw [wrap_i64] <;> (unfold I64 at hs; omega)) hlt) rfl (Ent.refl _) rfl ?_
    refine l_ny rfl (n_load_ro rfl rfl hb (loads_one rfl (hc 0 _ rfl))) rfl (Ent.refl _) rfl ?_
    repeat' (first | refine l_nil ?_ | ((first | refine l_n (peval_sound rfl) rfl ?_ rfl ?_ | refine l_ny rfl (peval_sound rfl) rfl ?_ rfl ?_); · (exact Ent.refl _)))
    refine s_ret ⟨_, _, res1 rfl rfl, ⟨?_, rfl⟩, Ent.nil _⟩
    congr 1
    have : decide (s < (t : Int)) = false := by simp; omega
    unfold okSym
    rw [this, List.getD_eq_getElem?_getD, List.getElem?_eq_getElem hlt]; simp
  · have hlt : s < (t : Int) := by simpa using h
    refine s_ret ⟨_, _, res1 rfl rfl, ⟨?_, rfl⟩, Ent.nil _⟩
    simp [okSym, hlt]


structure PsOk (t n : Nat) (ps : List Prd) : Prop where
  left : ∀ i (h : i < ps.length), 0 ≤ ps[i].Left ∧ ps[i].Left < n
  right : ∀ i (h : i < ps.length), ∀ s ∈ ps[i].Right, 1 ≤ s ∧ s < (t : Int) + n

theorem useful_w (bk : Nat) (gcs : List Value) (g : Gram) (Au : Option Addr) (n cu : Nat) (use : List Bool) (hn : n = use.length) (hn2 : n = g.Nons.length) (v2 v3 : Value) (hps : PsOk g.Terms.length n g.Prods) :
    Trip Tryz.prog 58 [.pointer (some ⟨bk, 0, none⟩)] (kGram.rd gcs g) [blk bk 126 (kwC gcs Au n cu v2 v3), osl 4 1 (.slice Au n cu) n (use.map Value.bool)]
      (fun v V => v = .bool (decide (uRound g.Terms.length g.Prods use ≠ use)) ∧ V = [blk bk 126 (kwC gcs Au n cu v2 v3), osl 4 1 (.slice Au n cu) n ((uRound g.Terms.length g.Prods use).map Value.bool)]) := by
  refine trip Tryz.tabOk Tryz.func58 rfl rfl rfl rfl ?_
  intro w SM hR
  obtain ⟨A0, A1, A2, A3, A4, c0, c1, c2, c3, c4, rfl, hG⟩ := kGram_open hR
  have hT := hG.terms.2.1
  have hN := hG.nons.2.1
  have hP := hG.prods.2.1
  repeat' (first | refine e_nil ?_ | ((refine e_op ?_); (first | refine o_n (peval_sound rfl) rfl ?_ | refine o_n (nl rfl rfl tc rfl) rfl ?_ | refine o_storeC rfl rfl rfl rfl tc uc rfl rfl rfl ?_ | refine o_box1 rfl rfl rfl (fun _ => ?_) | refine o_alloc rfl rfl (fun _ => ?_))) | refine s_seq ?_ | refine s_region ?_ | refine s_block ?_)
  refine s_loopK (ι := {x : Nat × Bool // x.1 ≤ g.Prods.length ∧ x.2 = decide (uRound g.Terms.length (g.Prods.take x.1) use ≠ use)}) [1, 4, 17, 18] rfl ⟨(0, false), by simp, by simp [uRound]⟩
    (fun x => [(19, .int .i64 x.1.1), (3, .bool x.1.2)])
    (fun x => [blk _ 3 [.int .i64 g.Terms.length], blk _ 146 [.pointer (some ⟨bk, 0, none⟩)], blk bk 126 (kwC _ Au n cu v2 v3), osl 4 1 (.slice Au n cu) n ((uRound g.Terms.length (g.Prods.take x.1.1) use).map Value.bool)])
    (fun x => g.Prods.length - x.1.1) ?_ (Ent.refl _) ?_
  · repeat' (first | exact Sub.nil _ | refine Sub.cons rfl ?_)
  rintro ⟨⟨i, fresh⟩, hi, hfr⟩
  simp only at hi hfr ⊢
  repeat' (first | refine e_nil ?_ | ((refine e_op ?_); (refine o_n (peval_sound rfl) rfl ?_)) | refine s_seq ?_ | refine s_region ?_)
  refine s_cond rfl (fun h => ?_) (fun h => ?_)
  · have hlt : i < g.Prods.length := by simpa using h
    obtain ⟨b, o, es, rfl, hb, he, hc⟩ := hG.prods.2.2 i hlt
    obtain ⟨Ar, cr, rfl, hl, hlN, hlK, hr⟩ := kPrd_open he
    repeat' (first | refine s_seq ?_ | refine s_region ?_ | refine s_block ?_ | refine s_skip ?_)
    refine e_op (o_n (n_index rfl rfl rfl rfl i rfl hlt) rfl ?_)
    refine e_op (o_n (n_load_ro rfl rfl hb (loads_agg rfl rfl hc)) rfl ?_)
    repeat' (first | refine e_nil ?_ | ((refine e_op ?_); (first | refine o_n (peval_sound rfl) rfl ?_ | refine o_n (nl rfl rfl tc rfl) rfl ?_ | refine o_storeC rfl rfl rfl rfl tc uc rfl rfl rfl ?_ | refine o_alloc rfl rfl (fun _ => ?_))) | refine s_seq ?_ | refine s_region ?_)
    rename_i b1 b4 b6
    have hcur := uRound_len g.Terms.length (g.Prods.take i) use
    generalize hcu : uRound g.Terms.length (g.Prods.take i) use = cur at *
    have hnc : n = cur.length := by omega
    have hF : ∀ (u : Value) (x : Int), x ∈ g.Prods[i].Right → Trip Tryz.prog 75 ([] ++ [u] ++ [.pointer (some ⟨b4, 0, none⟩), .pointer (some ⟨b1, 0, none⟩)])
        (((rblk b4 3 [.int .i64 g.Terms.length]).and ((rblk b1 146 [.pointer (some ⟨bk, 0, none⟩)]).and ((rblk bk 126 (kwC [Value.slice A0 g.Terms.length c0, Value.slice A1 g.Levels.length c1, Value.slice A2 g.Pats.length c2,
        Value.slice A3 g.Nons.length c3, Value.slice (some ⟨b, o, none⟩) g.Prods.length c4] Au n cu v2 v3)).and ((kslice 1 kbool).rd [.slice Au n cu] cur)))).and (kint.rd [u] x)) [] (fun v V => v = .bool (!okSym g.Terms.length cur x) ∧ V = []) := by
      intro u x hx
      have hx2 := hps.right i hlt x hx
      refine ⟨(useful1_w b4 b1 bk g.Terms.length [.nilFunc, .nilFunc, .nilFunc, .nilFunc, .nilFunc] rfl Au n cu cur hnc v2 v3 0 (by unfold I64; omega) (by omega) (by omega)).enters, fun w SM h1 h2 h3 => ?_⟩
      obtain ⟨h4, h5, hI⟩ := h3
      cases h5
      exact (useful1_w b4 b1 bk g.Terms.length _ rfl Au n cu cur hnc v2 v3 x hI (by omega) (by omega)).calls w SM h1 h2 h4
    refine e_op (o_call (hasInt_w kint rfl 75 [] [.pointer (some ⟨b4, 0, none⟩), .pointer (some ⟨b1, 0, none⟩)] _ (fun s => !okSym g.Terms.length cur s) Ar cr g.Prods[i].Right hF) rfl .nil
      (Can.and (Can.and (Can.blk (.s .z)) (Can.and (Can.blk (.s (.s .z))) (Can.and (Can.blk (.s (.s (.s .z)))) (Can.osl Value.bool rfl kbool_enc (.s (.s (.s (.s .z)))) (by omega))))) (Can.ro (sl_mk hr))) rfl ?_)
    rintro v V ⟨rfl, rfl⟩
    repeat' (first | refine e_nil ?_ | ((refine e_op ?_); (refine o_n (peval_sound rfl) rfl ?_)))
    have hstep : uRound g.Terms.length (g.Prods.take (i + 1)) use = uStep g.Terms.length cur g.Prods[i] := by
      rw [List.take_succ_eq_append_getElem hlt, uRound, List.foldl_append, ← hcu]; rfl
    have hne0 := uRound_cnt g.Terms.length (g.Prods.take i) use
    rw [hcu] at hne0
    refine s_cond rfl (fun h => ?_) (fun h => ?_)
    · have hall : g.Prods[i].Right.all (okSym g.Terms.length cur) = true := by
        rw [Bool.not_eq_true', List.any_eq_false] at h
        rw [List.all_eq_true]
        intro x hx; simpa using h x hx
      have hst : uStep g.Terms.length cur g.Prods[i] = cur.set g.Prods[i].Left.toNat true := by unfold uStep; rw [if_pos hall]
      obtain ⟨hl0, hl1⟩ := hps.left i hlt
      have hli : g.Prods[i].Left.toNat < cur.length := by omega
      skip
      refine s_drawT [6] (.s (.s (.s (.s .z)))) Tryz.mixed (by decide +kernel) ?_
      repeat' (((first | refine l_n (peval_sound rfl) rfl ?_ rfl ?_ | refine l_n (nl rfl rfl tc rfl) rfl ?_ rfl ?_); · (repeat' (first | exact Ent.nil _ | refine Ent.tak .z ?_))))
      refine l_e rfl (o_call (learn_w Au cu n cur hnc g.Prods[i].Left.toNat hli) (by rw [Int.toNat_of_nonneg hl0]; rfl) (.cons (.s (.s (.s (.s .z)))) .nil) Can.tt rfl ?_)
      rintro v V ⟨rfl, rfl⟩
      refine ⟨(by (repeat' (first | exact Ent.refl _ | refine Ent.wk ?_))), ?_⟩
      repeat' (first | refine l_nil ?_ | ((first | refine l_no rfl rfl rfl ?_ rfl ?_ | refine l_n (peval_sound rfl) rfl ?_ rfl ?_ | refine l_ny rfl (peval_sound rfl) rfl ?_ rfl ?_); · (repeat' (first | exact Ent.refl _ | refine Ent.wk ?_))) | ((fail_if_success (refine l_dec true (by exact rfl) ?_)); (fail_if_success (refine l_dec false (by exact rfl) ?_)); refine l_part rfl rfl (fun h => ?_) (fun h => ?_)))
      · repeat' (first | refine e_nil ?_ | ((refine e_op ?_); (refine o_n (peval_sound rfl) rfl ?_)) | refine s_region ?_ | refine s_end ?_)
        refine s_back ⟨⟨(i + 1, true), by simp only; omega, ?_⟩, by simp only; omega, ?_, ?_⟩
        · simp only [hstep, hst]
          symm; rw [decide_eq_true_eq]
          intro heq
          have h2 : cur[g.Prods[i].Left.toNat]? = some false := by rw [List.getElem?_eq_getElem hli]; simpa using h
          have h3 := cnt_set h2
          rw [heq] at h3
          rcases hne0 with h4 | h4
          · rw [h4] at h3; omega
          · omega
        · repeat' (first | exact Sub.nil _ | refine Sub.cons rfl ?_ | refine Sub.consE rfl ?_ ?_)
          exact inc (i := i) (by omega)
        · simp only [hstep, hst]
          repeat' (first | exact Ent.nil _ | refine Ent.tak tk ?_)
      · repeat' (first | refine e_nil ?_ | ((refine e_op ?_); (refine o_n (peval_sound rfl) rfl ?_)) | refine s_region ?_ | refine s_end ?_)
        refine s_back ⟨⟨(i + 1, fresh), by simp only; omega, ?_⟩, by simp only; omega, ?_, ?_⟩
        · simp only [hstep, hst]
          have h2 : cur[g.Prods[i].Left.toNat]? ≠ some false := by rw [List.getElem?_eq_getElem hli]; simpa using h
          rw [set_true h2, hfr]
        · repeat' (first | exact Sub.nil _ | refine Sub.cons rfl ?_ | refine Sub.consE rfl ?_ ?_)
          exact inc (i := i) (by omega)
        · simp only [hstep, hst]
          repeat' (first | exact Ent.nil _ | refine Ent.tak tk ?_)
    · have hall : g.Prods[i].Right.all (okSym g.Terms.length cur) = false := by
        cases hh : g.Prods[i].Right.all (okSym g.Terms.length cur) with
        | false => rfl
        | true =>
          rw [Bool.not_eq_false', List.any_eq_true] at h
          obtain ⟨x, hx, hx2⟩ := h
          rw [List.all_eq_true] at hh
          simp [hh x hx] at hx2
      have hst : uStep g.Terms.length cur g.Prods[i] = cur := by unfold uStep; rw [hall]; rfl
      repeat' (first | refine e_nil ?_ | ((refine e_op ?_); (refine o_n (peval_sound rfl) rfl ?_)) | refine s_region ?_ | refine s_end ?_ | refine s_skip ?_)
      refine s_back ⟨⟨(i + 1, fresh), by simp only; omega, ?_⟩, by simp only; omega, ?_, ?_⟩
      · simp only [hstep, hst]; exact hfr
      · repeat' (first | exact Sub.nil _ | refine Sub.cons rfl ?_ | refine Sub.consE rfl ?_ ?_)
        exact inc (i := i) (by omega)
      · simp only [hstep, hst]
        repeat' (first | exact Ent.nil _ | refine Ent.tak tk ?_)
  · have hge : i = g.Prods.length := by simp at h; omega
    subst hge
    repeat' (first | refine e_nil ?_ | ((refine e_op ?_); (refine o_n (peval_sound rfl) rfl ?_)) | refine s_seq ?_ | refine s_region ?_ | refine s_exit ?_ | refine x_hit ?_ | refine x_code ?_ | refine x_back ?_)
    refine s_ret ⟨_, _, res1 rfl rfl, ⟨?_, rfl⟩, ?_⟩
    · rw [hfr, List.take_length]
    · rw [List.take_length]
      repeat' (first | exact Ent.nil _ | refine Ent.tak tk ?_)

end Go.Proofs.YtcnpjhaedjncdaaGreatDoor

namespace Go.Proofs.YtcnpjhaedjncdaaGreatDoor
set_option linter.all false
open Go.Proofs.YtcnpjhaedjncdaaGreatDoor.E
attribute [local irreducible] EVX EVO EVL EV1 NEV
set_option maxRecDepth 10000

/-- States that follow one another for as long as something is new. -/
inductive Reach {σ : Type} (nxt : σ → σ) (fresh : σ → Bool) : σ → σ → Prop
  | refl (s) : Reach nxt fresh s s
  | step {s t} : Reach nxt fresh s t → fresh t = true → Reach nxt fresh s (nxt t)

theorem grow_w {σ : Type} (f : Nat) (l m : List Value) (R : Rd) (Ms : σ → List Asn) (nxt : σ → σ) (fresh : σ → Bool) (μ : σ → Nat) (Iv : σ → Prop)
    (hF : ∀ s, Iv s → Trip Tryz.prog f (l ++ [] ++ m) R (Ms s) (fun v V => v = .bool (fresh s) ∧ V = Ms (nxt s))) (hI : ∀ s, Iv s → Iv (nxt s)) (hμ : ∀ s, Iv s → fresh s = true → μ (nxt s) < μ s) (s0 : σ) (h0 : Iv s0) :
    Trip Tryz.prog 57 [.func (.func f) l.toArray m.toArray] R (Ms s0) (fun v V => v = .tuple #[] ∧ ∃ s, Iv s ∧ Reach nxt fresh s0 s ∧ fresh s = false ∧ V = Ms (nxt s)) := by
  refine trip Tryz.tabOk Tryz.func57 rfl rfl rfl rfl ?_
  intro w SM hR
  repeat' (refine s_block ?_)
  refine s_loopK (ι := {s : σ // Iv s ∧ Reach nxt fresh s0 s}) [0] rfl ⟨s0, h0, .refl _⟩ (fun _ => []) (fun s => Ms s.1) (fun s => μ s.1) ?_ (Ent.refl _) ?_
  · repeat' (first | exact Sub.nil _ | refine Sub.cons rfl ?_)
  rintro ⟨s, hs, hreach⟩
  repeat' (first | ((refine e_op ?_); (refine o_n (peval_sound rfl) rfl ?_)) | refine s_seq ?_ | refine s_region ?_)
  have hp : ∀ L : List Asn, Pic L L [] := by
    intro L
    induction L with
    | nil => exact .nil
    | cons A L ih => exact .cons .z ih
  refine e_op (o_callv rfl (hF s hs) rfl (hp _) (Can.ro hR) rfl ?_)
  rintro v V ⟨rfl, rfl⟩
  rw [List.append_nil]
  repeat' (refine e_nil ?_)
  refine s_cond rfl (fun h => ?_) (fun h => ?_)
  · repeat' (first | refine s_block ?_ | refine s_end ?_ | refine s_skip ?_)
    refine s_back ⟨⟨nxt s, hI s hs, .step hreach h⟩, hμ s hs h, ?_, Ent.refl _⟩
    repeat' (first | exact Sub.nil _ | refine Sub.cons rfl ?_)
  · repeat' (first | refine s_exit ?_ | refine x_hit ?_ | refine x_code ?_ | refine x_back ?_)
    refine s_nil ?_
    exact ⟨_, _, res0 rfl, ⟨rfl, s, hs, hreach, h, rfl⟩, Ent.refl _⟩

end Go.Proofs.YtcnpjhaedjncdaaGreatDoor

namespace Go.Proofs.YtcnpjhaedjncdaaGreatDoor
set_option linter.all false
open Go.Proofs.YtcnpjhaedjncdaaGreatDoor.E
attribute [local irreducible] EVX EVO EVL EV1 NEV
set_option maxRecDepth 10000

theorem not_wf {g : Gram} (hl : limitsB g = false) (h : ¬ Wf0 g) : Value.int .i64 2 = Value.int .i64 (checkE g) := by rw [checkE_2 hl h]

theorem reach_it {σ : Type} {nxt : σ → σ} {fresh : σ → Bool} {s0 s : σ} (h : Reach nxt fresh s0 s) : ∃ m, s = it nxt m s0 := by
  induction h with
  | refl => exact ⟨0, rfl⟩
  | step _ _ ih =>
    obtain ⟨m, rfl⟩ := ih
    exact ⟨m + 1, (it_succ nxt m s0).symm⟩

theorem hasBoolN_w (A : Option Addr) (n c : Nat) (xs : List Bool) (hn : n = xs.length) (y : Bool) : Trip Tryz.prog 59 [.slice A n c, .bool y] ((kslice 1 kbool).rd [.slice A n c] xs) []
    (fun v V => v = .bool (xs.any (fun x => y == x)) ∧ V = []) := by
  subst hn
  exact hasBool_w A c xs y

theorem zz_t {a b : Int} (h : (!((a == 0) == (b == 0))) = true) : ¬ (a = 0 ↔ b = 0) := by
  intro hi
  by_cases ha : a = 0
  · have hb := hi.1 ha
    subst ha; subst hb; cases h
  · have hb : ¬ b = 0 := fun hb => ha (hi.2 hb)
    rw [beq_eq_false_iff_ne.2 ha, beq_eq_false_iff_ne.2 hb] at h; cases h
theorem zz_f {a b : Int} (h : (!((a == 0) == (b == 0))) = false) : (a = 0 ↔ b = 0) := by
  by_cases ha : a = 0 <;> by_cases hb : b = 0 <;> simp_all

theorem check_w (cs : List Value) (g : Gram) : Trip Tryz.prog 38 [.agg cs.toArray] (kGram.rd cs g) [] (fun v V => v = .int .i64 (checkE g) ∧ V = []) := by
  refine trip Tryz.tabOk Tryz.func38 rfl rfl rfl rfl ?_
  intro w SM hR
  obtain ⟨A0, A1, A2, A3, A4, c0, c1, c2, c3, c4, rfl, hG⟩ := kGram_open hR
  have hLev : ∀ es (x : Lev), x ∈ g.Levels → Trip Tryz.prog 55 ([] ++ [.agg es.toArray] ++ []) (Rd.tt.and (kLev.rd es x)) [] (fun v V => v = .bool (!mayBind x.N x.Kind) ∧ V = []) := by
    intro es x _
    refine ⟨(check1_w 0 0).enters, fun w SM h1 h2 h3 => ?_⟩
    obtain ⟨rfl, _⟩ := kLev_open h3.2
    exact (check1_w _ _).calls w SM h1 h2 trivial
  repeat' (first | refine e_nil ?_ | ((refine e_op ?_); (first | refine o_n (peval_sound rfl) rfl ?_ | refine o_n (nl rfl rfl tc rfl) rfl ?_ | refine o_box rfl rfl (fun _ => ?_))) | refine s_seq ?_ | refine s_region ?_)
  rename_i b1
  refine e_op (o_call (limits_w _ g) rfl .nil (Can.ro (kGram_mk hG)) rfl ?_)
  rintro v V ⟨rfl, rfl⟩
  repeat' (refine e_nil ?_)
  refine s_cond rfl (fun hl => ?_) (fun hl => ?_)
  · repeat' (first | refine e_nil ?_ | ((refine e_op ?_); (refine o_n (peval_sound rfl) rfl ?_)) | refine s_seq ?_ | refine s_region ?_)
    refine s_ret ⟨_, _, res1 rfl rfl, ⟨?_, rfl⟩, Ent.nil _⟩
    rw [checkE_5 hl]
  have hT := hG.terms.2.1
  have hN := hG.nons.2.1
  have hP := hG.prods.2.1
  repeat' (first | refine s_seq ?_ | refine s_skip ?_)
  refine s_drawU [] Tryz.mixed (by decide +kernel) ?_
  repeat' (first | refine l_nil ?_ | ((first | refine l_n (peval_sound rfl) rfl ?_ rfl ?_ | refine l_n (nl rfl rfl tc rfl) rfl ?_ rfl ?_); · (exact Ent.refl _)))
  repeat' (first | refine e_nil ?_ | ((first | refine e_op ?_ | refine e_yes rfl ?_); (first | refine o_n (peval_sound rfl) rfl ?_ | refine o_n (nl rfl rfl tc rfl) rfl ?_)) | refine e_noU rfl rfl rfl ?_ | refine s_seq ?_ | refine s_region ?_ | refine s_skip ?_ | refine s_true rfl ?_ | ((fail_if_success (refine e_dec true (by exact rfl) ?_)); (fail_if_success (refine e_dec false (by exact rfl) ?_)); refine e_part rfl rfl (fun h => ?_) (fun h => ?_)) | refine s_cond rfl (fun h => ?_) (fun h => ?_))
  all_goals try
    refine s_ret ⟨_, _, res1 rfl rfl, ⟨?_, rfl⟩, Ent.nil _⟩
    refine not_wf hl (fun hw => ?_)
    have qt := hw.t
    have qn := hw.n
    have qlev := hw.lev
    have qprods := hw.prods
    simp only [bne_iff_ne, beq_iff_eq, decide_eq_true_eq] at h
    omega
  rename_i ht1 hn2 hlv
  have hp0 := h
  clear h
  simp only [bne_eq_false_iff_eq, beq_eq_false_iff_ne, decide_eq_false_iff_not] at ht1 hn2 hlv hp0
  refine e_op (o_call (hasLev_w kLev rfl 55 [] [] Rd.tt (fun x => !mayBind x.N x.Kind) A1 c1 g.Levels hLev) rfl .nil (Can.ro ⟨trivial, sl_mk hG.levels⟩) rfl ?_)
  rintro v V ⟨rfl, rfl⟩
  repeat' (refine e_nil ?_)
  refine s_cond rfl (fun hb => ?_) (fun hb => ?_)
  · repeat' (first | refine e_nil ?_ | ((refine e_op ?_); (refine o_n (peval_sound rfl) rfl ?_)) | refine s_seq ?_ | refine s_region ?_)
    refine s_ret ⟨_, _, res1 rfl rfl, ⟨?_, rfl⟩, Ent.nil _⟩
    refine not_wf hl (fun hw => ?_)
    rw [List.any_eq_true] at hb
    obtain ⟨x, hx, hx2⟩ := hb
    rw [hw.bind x hx] at hx2
    cases hx2
  have hbind : ∀ l ∈ g.Levels, mayBind l.N l.Kind = true := by
    intro l hlm
    rw [List.any_eq_false] at hb
    simpa using hb l hlm
  repeat' (first | refine e_nil ?_ | ((refine e_op ?_); (first | refine o_n (peval_sound rfl) rfl ?_ | refine o_n (nl rfl rfl tc rfl) rfl ?_)) | refine s_seq ?_ | refine s_region ?_ | refine s_block ?_ | refine s_skip ?_)
  refine s_loopK (ι := {i : Nat // i ≤ g.Prods.length ∧ ∀ j (hj : j < g.Prods.length), j < i → ProdOk g.Terms.length g.Nons.length j g.Prods[j]}) [1, 3, 4, 42, 43] rfl ⟨0, by omega, fun j _ h => by omega⟩
    (fun x => [(44, .int .i64 x.1)]) (fun x => [blk b1 27 [.slice A0 g.Terms.length c0, .slice A1 g.Levels.length c1, .slice A2 g.Pats.length c2, .slice A3 g.Nons.length c3, .slice A4 g.Prods.length c4]]) (fun x => g.Prods.length - x.1) ?_ (Ent.refl _) ?_
  · repeat' (first | exact Sub.nil _ | refine Sub.cons rfl ?_)
  rintro ⟨i, hi, hok⟩
  simp only at hi hok ⊢
  repeat' (first | refine e_nil ?_ | ((refine e_op ?_); (refine o_n (peval_sound rfl) rfl ?_)) | refine s_seq ?_ | refine s_region ?_)
  refine s_cond rfl (fun h => ?_) (fun h => ?_)
  · have hlt : i < g.Prods.length := by simpa using h
    have hpe := hG.prods
    obtain ⟨b, o, es, e0, hb, he, hc⟩ := hG.prods.2.2 i hlt
    cases e0
    obtain ⟨Ar, cr, rfl, hl0, hlN, hlK, hr⟩ := kPrd_open he
    have hrl := hr.2.1
    repeat' (first | ((refine e_op ?_); (refine o_n (peval_sound rfl) rfl ?_)) | refine s_seq ?_ | refine s_region ?_ | refine s_block ?_ | refine s_skip ?_)
    refine e_op (o_n (n_index rfl rfl rfl rfl i rfl hlt) rfl ?_)
    refine e_op (o_n (n_load_ro rfl rfl hb (loads_agg rfl rfl hc)) rfl ?_)
    have hbad : ¬ ProdOk g.Terms.length g.Nons.length i g.Prods[i] → Value.int .i64 2 = Value.int .i64 (checkE g) := fun hn =>
      not_wf hl (fun hw => hn ((prodOk_iff _ _ _ _).1 (hw.prod i hlt)))
    repeat' (first | refine e_nil ?_ | ((first | refine e_op ?_ | refine e_yes rfl ?_); (first | refine o_n (peval_sound rfl) rfl ?_ | refine o_n (nl rfl rfl tc rfl) rfl ?_ | refine o_storeC rfl rfl rfl rfl tc uc rfl rfl rfl ?_ | refine o_alloc rfl rfl (fun _ => ?_))) | refine e_noU rfl rfl rfl ?_ | refine s_seq ?_ | refine s_region ?_ | refine s_true rfl ?_ | ((fail_if_success (refine e_dec true (by exact rfl) ?_)); (fail_if_success (refine e_dec false (by exact rfl) ?_)); refine e_part rfl rfl (fun h => ?_) (fun h => ?_)))
    all_goals try
      refine s_ret ⟨_, _, res1 rfl rfl, ⟨?_, rfl⟩, Ent.nil _⟩
      refine hbad (fun hp => ?_)
      have q1 := hp.lo
      have q2 := hp.hi
      have q3 := hp.zero
      first | (have h9 := zz_t h; omega) | (have h9 := of_decide_eq_true h; omega)
    rename_i b6 hx1 hx2
    have hx3 := h
    clear h
    refine e_yes rfl (o_call (mayBind_w _ _) rfl .nil Can.tt rfl ?_)
    rintro v V ⟨rfl, rfl⟩
    repeat' (first | refine e_nil ?_ | ((first | refine e_op ?_ | refine e_yes rfl ?_); (refine o_n (peval_sound rfl) rfl ?_)))
    refine s_cond rfl (fun h => ?_) (fun h => ?_)
    · repeat' (first | refine e_nil ?_ | ((refine e_op ?_); (refine o_n (peval_sound rfl) rfl ?_)) | refine s_seq ?_ | refine s_region ?_)
      refine s_ret ⟨_, _, res1 rfl rfl, ⟨?_, rfl⟩, Ent.nil _⟩
      refine hbad (fun hp => ?_)
      rw [hp.bind] at h
      cases h
    have hmb : mayBind g.Prods[i].L.N g.Prods[i].L.Kind = true := by simpa using h
    clear h
    replace hx1 := of_decide_eq_false hx1
    replace hx2 := of_decide_eq_false hx2
    replace hx3 := zz_f hx3
    repeat' (first | refine e_nil ?_ | ((refine e_op ?_); (first | refine o_n (peval_sound rfl) rfl ?_ | refine o_n (nl rfl rfl tc rfl) rfl ?_)) | refine s_seq ?_ | refine s_region ?_ | refine s_block ?_ | refine s_skip ?_)
    refine s_loopK (ι := {j : Nat // j ≤ g.Prods[i].Right.length ∧ ∀ s ∈ g.Prods[i].Right.take j, 1 ≤ s ∧ s < (g.Terms.length : Int) + g.Nons.length ∧ s ≠ g.Terms.length}) [1, 3, 4, 42, 43, 44, 73, 74] rfl ⟨0, by omega, fun s hs => by simp at hs⟩
      (fun x => [(75, .int .i64 x.1)]) (fun x => [blk b1 27 [.slice A0 g.Terms.length c0, .slice A1 g.Levels.length c1, .slice A2 g.Pats.length c2, .slice A3 g.Nons.length c3, .slice (some ⟨b, o, none⟩) g.Prods.length c4]]) (fun x => g.Prods[i].Right.length - x.1) ?_ (by repeat' (first | exact Ent.nil _ | refine Ent.tak tk ?_)) ?_
    · repeat' (first | exact Sub.nil _ | refine Sub.cons rfl ?_)
    rintro ⟨j, hj, hjo⟩
    simp only at hj hjo ⊢
    repeat' (first | refine e_nil ?_ | ((refine e_op ?_); (refine o_n (peval_sound rfl) rfl ?_)) | refine s_seq ?_ | refine s_region ?_)
    refine s_cond rfl (fun h => ?_) (fun h => ?_)
    · have hjl : j < g.Prods[i].Right.length := by simpa using h
      clear h
      obtain ⟨b2, o2, es2, rfl, hb2, ⟨rfl, hsI⟩, hc2⟩ := hr.2.2 j hjl
      repeat' (first | refine s_seq ?_ | refine s_region ?_ | refine s_block ?_ | refine s_skip ?_)
      refine e_op (o_n (n_index rfl rfl rfl rfl j rfl hjl) rfl ?_)
      refine e_op (o_n (n_load_ro rfl rfl hb2 (loads_one rfl (hc2 0 _ rfl))) rfl ?_)
      have hwr : IntKind.i64.wrap ((g.Terms.length : Int) + g.Nons.length) = (g.Terms.length : Int) + g.Nons.length := wrap_i64 (by omega) (by omega)
      repeat' (first | refine e_nil ?_ | ((first | refine e_op ?_ | refine e_yes rfl ?_); (refine o_n (peval_sound rfl) rfl ?_)) | refine e_noU rfl rfl rfl ?_ | refine s_seq ?_ | refine s_region ?_ | refine s_end ?_ | refine s_skip ?_ | refine s_true rfl ?_ | ((fail_if_success (refine e_dec true (by exact rfl) ?_)); (fail_if_success (refine e_dec false (by exact rfl) ?_)); refine e_part rfl rfl (fun h => ?_) (fun h => ?_)) | refine s_cond rfl (fun h => ?_) (fun h => ?_))
      all_goals try
        refine s_ret ⟨_, _, res1 rfl rfl, ⟨?_, rfl⟩, Ent.nil _⟩
        refine hbad (fun hp => ?_)
        obtain ⟨q1, q2, q3⟩ := hp.right _ (List.getElem_mem hjl)
        try rw [hwr] at h
        first | (have h9 := of_decide_eq_true h; omega) | (have h9 := eq_of_beq h; omega)
      rename_i hy1 hy2
      have hy3 := h
      clear h
      rw [hwr] at hy2
      replace hy1 := of_decide_eq_false hy1
      replace hy2 := of_decide_eq_false hy2
      replace hy3 := beq_eq_false_iff_ne.1 hy3
      refine s_back ⟨⟨j + 1, by omega, ?_⟩, by simp only; omega, ?_, by repeat' (first | exact Ent.nil _ | refine Ent.tak tk ?_)⟩
      · intro s hs
        rw [List.take_succ_eq_append_getElem hjl, List.mem_append, List.mem_singleton] at hs
        rcases hs with hs | rfl
        · exact hjo s hs
        · exact ⟨by omega, by omega, hy3⟩
      · repeat' (first | exact Sub.nil _ | refine Sub.cons rfl ?_ | refine Sub.consE rfl ?_ ?_)
        exact inc (i := j) (by omega)
    · have hge : j = g.Prods[i].Right.length := by have := of_decide_eq_false h; omega
      subst hge
      clear h
      rw [List.take_length] at hjo
      repeat' (first | refine e_nil ?_ | ((refine e_op ?_); (refine o_n (peval_sound rfl) rfl ?_)) | refine s_region ?_ | refine s_end ?_ | refine s_exit ?_ | refine x_hit ?_ | refine x_code ?_ | refine x_back ?_)
      refine s_back ⟨⟨i + 1, by omega, ?_⟩, by simp only; omega, ?_, by repeat' (first | exact Ent.nil _ | refine Ent.tak tk ?_)⟩
      · intro j' hj' hlt'
        by_cases he2 : j' < i
        · exact hok j' hj' he2
        · have : j' = i := by omega
          subst this
          exact ⟨by omega, by omega, by omega, hmb, hjo⟩
      · repeat' (first | exact Sub.nil _ | refine Sub.cons rfl ?_ | refine Sub.consE rfl ?_ ?_)
        exact inc (i := i) (by omega)
  · have hge : i = g.Prods.length := by have := of_decide_eq_false h; omega
    subst hge
    clear h
    obtain ⟨b, o, es, e0, hb0, he, hc⟩ := hG.prods.2.2 0 (by omega)
    cases e0
    obtain ⟨Ar, cr, rfl, hl0, hlN, hlK, hr⟩ := kPrd_open he
    have hrl := hr.2.1
    have hok0 := hok 0 (by omega) (by omega)
    repeat' (first | ((refine e_op ?_); (first | refine o_n (peval_sound rfl) rfl ?_ | refine o_n (nl rfl rfl tc rfl) rfl ?_)) | refine s_seq ?_ | refine s_region ?_ | refine s_exit ?_ | refine x_hit ?_ | refine x_code ?_ | refine x_back ?_)
    refine e_op (o_n (n_index rfl rfl rfl rfl 0 rfl (by omega)) rfl ?_)
    repeat' (((refine e_op ?_); (refine o_n (peval_sound rfl) rfl ?_)))
    refine e_op (o_n (n_load_ro rfl rfl hb0 (loads_one rfl (hc 1 _ rfl))) rfl ?_)
    have hstart : (¬ ∃ (h2 : g.Prods[0].Right.length = 1), (g.Terms.length : Int) ≤ g.Prods[0].Right[0]) → Value.int .i64 2 = Value.int .i64 (checkE g) := fun hn =>
      not_wf hl (fun hw => by
        obtain ⟨_, h2, h3⟩ := (startOk_iff _ _).1 hw.start
        exact hn ⟨h2, h3⟩)
    repeat' (first | refine e_nil ?_ | ((refine e_op ?_); (refine o_n (peval_sound rfl) rfl ?_)) | refine s_seq ?_ | refine s_region ?_)
    refine e_part rfl rfl (fun h => ?_) (fun h => ?_)
    · repeat' (first | refine e_nil ?_ | ((refine e_op ?_); (refine o_n (peval_sound rfl) rfl ?_)) | refine e_noU rfl rfl rfl ?_ | refine s_seq ?_ | refine s_region ?_ | refine s_true rfl ?_)
      refine s_ret ⟨_, _, res1 rfl rfl, ⟨?_, rfl⟩, Ent.nil _⟩
      refine hstart (fun ⟨h2, _⟩ => ?_)
      rw [h2] at h; cases h
    have hone : g.Prods[0].Right.length = 1 := by
      have h9 := bne_eq_false_iff_eq.1 h
      omega
    clear h
    repeat' (((refine e_yes rfl ?_); (refine o_n (peval_sound rfl) rfl ?_)))
    obtain ⟨b3, o3, es3, rfl, hb3, ⟨rfl, hsI⟩, hc3⟩ := hr.2.2 0 (by omega)
    refine e_yes rfl (o_n (n_index rfl rfl rfl rfl 0 rfl (by omega)) rfl ?_)
    refine e_yes rfl (o_n (n_load_ro rfl rfl hb3 (loads_one rfl (hc3 0 _ rfl))) rfl ?_)
    repeat' (first | refine e_nil ?_ | ((first | refine e_op ?_ | refine e_yes rfl ?_); (refine o_n (peval_sound rfl) rfl ?_)))
    refine s_cond rfl (fun h => ?_) (fun h => ?_)
    · repeat' (first | refine e_nil ?_ | ((refine e_op ?_); (refine o_n (peval_sound rfl) rfl ?_)) | refine s_seq ?_ | refine s_region ?_)
      refine s_ret ⟨_, _, res1 rfl rfl, ⟨?_, rfl⟩, Ent.nil _⟩
      refine hstart (fun ⟨_, h2⟩ => ?_)
      have := of_decide_eq_true h
      omega
    have hbeg : (g.Terms.length : Int) ≤ g.Prods[0].Right[0] := by have := of_decide_eq_false h; omega
    clear h
    have hw0 : Wf0 g := ⟨by omega, by omega, by omega, by omega, hbind, fun i hi => (prodOk_iff _ _ _ _).2 (hok i hi hi), (startOk_iff _ _).2 ⟨by omega, hone, hbeg⟩⟩
    have hps : PsOk g.Terms.length g.Nons.length g.Prods := ⟨fun i hi => ⟨(hok i hi hi).lo, (hok i hi hi).hi⟩, fun i hi s hs => ⟨((hok i hi hi).right s hs).1, ((hok i hi hi).right s hs).2.1⟩⟩
    repeat' (first | refine s_seq ?_ | refine s_skip ?_)
    refine s_anyU Tryz.mixed ?_
    refine a_n 0 rfl (n_load rfl rfl .z rfl) (by decide +kernel) (Ent.refl _) rfl ?_
    refine a_n 1 rfl (peval_sound rfl) (by decide +kernel) (Ent.refl _) rfl ?_
    refine a_join (ι := Nat × Nat) (fun x => [(10, .pointer (some ⟨x.2, 0, none⟩))])
      (fun x => [blk x.2 126 (kwC [.slice A0 g.Terms.length c0, .slice A1 g.Levels.length c1, .slice A2 g.Pats.length c2, .slice A3 g.Nons.length c3, .slice (some ⟨b, o, none⟩) g.Prods.length c4] (some ⟨x.1, 0, none⟩) g.Nons.length g.Nons.length (.slice none 0 0) (.slice none 0 0)),
        osl 4 1 (.slice (some ⟨x.1, 0, none⟩) g.Nons.length g.Nons.length) g.Nons.length ((List.replicate g.Nons.length false).map Value.bool)]) ?_ (fun hfin => ?_)
    rotate_left
    · refine a_2 2 4 (by decide +kernel) rfl rfl rfl rfl ?_ ?_
      · refine o_make rfl rfl rfl rfl g.Nons.length rfl rfl (by omega) (by omega) rfl (fun bu => ⟨(by (repeat' (first | exact Ent.refl _ | refine Ent.wk ?_))), ?_⟩)
        refine a_n 3 rfl (peval_sound rfl) (by decide +kernel) (by (repeat' (first | exact Ent.refl _ | refine Ent.wk ?_))) rfl ?_
        refine a_1 4 (by decide +kernel) rfl rfl (o_alloc rfl rfl (fun bk => ⟨(by (repeat' (first | exact Ent.refl _ | refine Ent.wk ?_))), ?_⟩))
        refine a_1 5 (by decide +kernel) rfl rfl (o_store rfl rfl rfl rfl rfl rfl rfl .z ⟨(by (repeat' (first | exact Ent.refl _ | refine Ent.wk ?_))), ?_⟩)
        refine a_done (by decide +kernel) ?_
        rw [show List.replicate g.Nons.length (Value.bool false) = (List.replicate g.Nons.length false).map Value.bool from by simp]
        exact s_weak (by repeat' (first | exact Sub.nil _ | refine Sub.cons rfl ?_)) (by repeat' (first | exact Ent.nil _ | refine Ent.tak tk ?_ | refine Ent.tak .z ?_)) (hfin (bu, bk))
      · refine o_alloc rfl rfl (fun bk => ⟨(by (repeat' (first | exact Ent.refl _ | refine Ent.wk ?_))), ?_⟩)
        refine a_1 2 (by decide +kernel) rfl rfl (o_make rfl rfl rfl rfl g.Nons.length rfl rfl (by omega) (by omega) rfl (fun bu => ⟨(by (repeat' (first | exact Ent.refl _ | refine Ent.wk ?_))), ?_⟩))
        refine a_n 3 rfl (peval_sound rfl) (by decide +kernel) (by (repeat' (first | exact Ent.refl _ | refine Ent.wk ?_))) rfl ?_
        refine a_1 5 (by decide +kernel) rfl rfl (o_store rfl rfl rfl rfl rfl rfl rfl (.s .z) ⟨(by (repeat' (first | exact Ent.refl _ | refine Ent.wk ?_))), ?_⟩)
        refine a_done (by decide +kernel) ?_
        rw [show List.replicate g.Nons.length (Value.bool false) = (List.replicate g.Nons.length false).map Value.bool from by simp]
        exact s_weak (by repeat' (first | exact Sub.nil _ | refine Sub.cons rfl ?_)) (by repeat' (first | exact Ent.nil _ | refine Ent.tak tk ?_ | refine Ent.tak (.s .z) ?_)) (hfin (bu, bk))
    rintro ⟨bu, bk⟩
    repeat' (first | ((refine e_op ?_); (refine o_n (peval_sound rfl) rfl ?_)) | refine s_seq ?_ | refine s_region ?_)
    refine e_op (o_call (grow_w (σ := List Bool) 58 [.pointer (some ⟨bk, 0, none⟩)] [] (kGram.rd [.slice A0 g.Terms.length c0, .slice A1 g.Levels.length c1, .slice A2 g.Pats.length c2, .slice A3 g.Nons.length c3, .slice (some ⟨b, o, none⟩) g.Prods.length c4] g)
      (fun s => [blk bk 126 (kwC [.slice A0 g.Terms.length c0, .slice A1 g.Levels.length c1, .slice A2 g.Pats.length c2, .slice A3 g.Nons.length c3, .slice (some ⟨b, o, none⟩) g.Prods.length c4] (some ⟨bu, 0, none⟩) g.Nons.length g.Nons.length (.slice none 0 0) (.slice none 0 0)),
        osl 4 1 (.slice (some ⟨bu, 0, none⟩) g.Nons.length g.Nons.length) g.Nons.length (s.map Value.bool)])
      (uRound g.Terms.length g.Prods) (fun s => decide (uRound g.Terms.length g.Prods s ≠ s)) (fun s => g.Nons.length - cnt s) (fun s => s.length = g.Nons.length)
      (fun s hs => useful_w bk [.slice A0 g.Terms.length c0, .slice A1 g.Levels.length c1, .slice A2 g.Pats.length c2, .slice A3 g.Nons.length c3, .slice (some ⟨b, o, none⟩) g.Prods.length c4] g (some ⟨bu, 0, none⟩) g.Nons.length g.Nons.length s hs.symm rfl _ _ hps) (fun s hs => by rw [uRound_len]; exact hs)
      (fun s hs hne => ?_) (List.replicate g.Nons.length false) (by simp)) rfl (.cons .z (.cons .z .nil)) (Can.ro (kGram_mk hG)) rfl ?_)
    · rcases uRound_cnt g.Terms.length g.Prods s with h | h
      · exact absurd h (of_decide_eq_true hne)
      · have := cnt_le (uRound g.Terms.length g.Prods s)
        rw [uRound_len] at this
        omega
    rintro v V ⟨rfl, s, hs, hre, hfr, rfl⟩
    obtain ⟨m, hm⟩ := reach_it hre
    have hfix : uRound g.Terms.length g.Prods s = s := Classical.not_not.1 (of_decide_eq_false hfr)
    have hu : s = uFix g := by
      rw [hm]
      refine uFix_unique ?_
      rw [← hm]; exact hfix
    rw [hfix]
    clear hfr hre hm
    subst hu
    repeat' (first | refine e_nil ?_ | ((refine e_op ?_); (first | refine o_n (peval_sound rfl) rfl ?_ | refine o_n (nl rfl rfl tc rfl) rfl ?_)) | refine s_seq ?_ | refine s_region ?_)
    refine e_op (o_call (hasBoolN_w (some ⟨bu, 0, none⟩) g.Nons.length g.Nons.length (uFix g) hs.symm false) rfl .nil (Can.osl Value.bool rfl kbool_enc (.s .z) (by omega)) rfl ?_)
    rintro v V ⟨rfl, rfl⟩
    have hch : checkE g = if (uFix g).any (fun x => false == x) then 2 else 0 := by
      rw [checkE_u hl hw0]
      have e : (uFix g).all id = !(uFix g).any (fun x => false == x) := by
        rw [List.not_any_eq_all_not]
        congr 1
        funext x; cases x <;> rfl
      rw [e]
      cases (uFix g).any (fun x => false == x) <;> rfl
    repeat' (refine e_nil ?_)
    refine s_cond rfl (fun h => ?_) (fun h => ?_)
    · repeat' (first | refine e_nil ?_ | ((refine e_op ?_); (refine o_n (peval_sound rfl) rfl ?_)) | refine s_seq ?_ | refine s_region ?_)
      refine s_ret ⟨_, _, res1 rfl rfl, ⟨?_, rfl⟩, Ent.nil _⟩
      rw [hch, h]; rfl
    · repeat' (first | refine e_nil ?_ | ((refine e_op ?_); (refine o_n (peval_sound rfl) rfl ?_)) | refine s_seq ?_ | refine s_region ?_ | refine s_skip ?_)
      refine s_ret ⟨_, _, res1 rfl rfl, ⟨?_, rfl⟩, Ent.nil _⟩
      rw [hch, h]; rfl

end Go.Proofs.YtcnpjhaedjncdaaGreatDoor

namespace Go.Proofs.YtcnpjhaedjncdaaGreatDoor
set_option linter.all false
open Go.Proofs.YtcnpjhaedjncdaaGreatDoor.E
attribute [local irreducible] EVX EVO EVL EV1 NEV
set_option maxRecDepth 10000

theorem it_comm_take {t : Nat} {ps : List Prd} {i : Nat} (hlt : i < ps.length) (use : List Bool) : uRound t (ps.take (i + 1)) use = uStep t (uRound t (ps.take i) use) ps[i] := by
  rw [List.take_succ_eq_append_getElem hlt, uRound, List.foldl_append]; rfl

theorem all_take_succ {α : Type} {p : α → Bool} {xs : List α} {k : Nat} (h : k < xs.length) : (xs.take (k + 1)).all p = ((xs.take k).all p && p xs[k]) := by
  rw [List.take_succ_eq_append_getElem h, List.all_append]; simp

theorem uStep_or {t : Nat} {u : List Bool} {p : Prd} (hl : p.Left.toNat < u.length) {v : Bool} (hv : v = (u[p.Left.toNat] || p.Right.all (okSym t u))) : u.set p.Left.toNat v = uStep t u p := by
  subst hv
  unfold uStep
  cases hb : u[p.Left.toNat] with
  | true =>
    have h : u.set p.Left.toNat true = u := set_true (by rw [List.getElem?_eq_getElem hl, hb]; simp)
    rw [Bool.true_or, h]
    split <;> simp
  | false =>
    rw [Bool.false_or]
    split
    · rename_i h; rw [h]
    · rename_i h
      rw [Bool.not_eq_true] at h
      rw [h]
      apply List.ext_getElem (by simp)
      intro j h1 h2
      rw [List.getElem_set]
      split
      · rename_i e; subst e; exact hb.symm
      · rfl

theorem usefulR_w (cs : List Value) (g : Gram) (hps : PsOk g.Terms.length g.Nons.length g.Prods) :
    Trip Tryz.prog 20 [.agg cs.toArray] (kGram.rd cs g) [] (fun v V => v = .bool ((uFix g).all id) ∧ V = []) := by
  refine trip Tryz.tabOk Tryz.func20 rfl rfl rfl rfl ?_
  intro w SM hR
  obtain ⟨A0, A1, A2, A3, A4, c0, c1, c2, c3, c4, rfl, hG⟩ := kGram_open hR
  have hT := hG.terms.2.1
  have hN := hG.nons.2.1
  have hP := hG.prods.2.1
  repeat' (first | refine e_nil ?_ | ((refine e_op ?_); (first | refine o_n (peval_sound rfl) rfl ?_ | refine o_n (nl rfl rfl tc rfl) rfl ?_ | refine o_box rfl rfl (fun _ => ?_))) | refine s_seq ?_ | refine s_region ?_)
  rename_i b1
  refine e_op (o_make rfl rfl rfl rfl g.Nons.length rfl rfl (by omega) (by omega) rfl (fun bu => ?_))
  repeat' (first | refine e_nil ?_ | ((refine e_op ?_); (refine o_n (peval_sound rfl) rfl ?_)) | refine s_seq ?_ | refine s_region ?_ | refine s_block ?_)
  refine s_loopK (ι := {r : Nat // r ≤ g.Nons.length + 1}) [1, 3, 4] rfl ⟨0, by omega⟩ (fun x => [(5, .int .i64 x.1)])
    (fun x => [osl 4 1 (.slice (some ⟨bu, 0, none⟩) g.Nons.length g.Nons.length) g.Nons.length ((it (uRound g.Terms.length g.Prods) x.1 (List.replicate g.Nons.length false)).map Value.bool),
      blk b1 27 [.slice A0 g.Terms.length c0, .slice A1 g.Levels.length c1, .slice A2 g.Pats.length c2, .slice A3 g.Nons.length c3, .slice A4 g.Prods.length c4]])
    (fun x => g.Nons.length + 1 - x.1) ?_ ?_ ?_
  · repeat' (first | exact Sub.nil _ | refine Sub.cons rfl ?_)
  · rw [show List.replicate g.Nons.length (Value.bool false) = (List.replicate g.Nons.length false).map Value.bool from by simp]
    repeat' (first | exact Ent.nil _ | refine Ent.tak tk ?_ | refine Ent.tak .z ?_)
  rintro ⟨r, hr⟩
  simp only at hr ⊢
  have hlr : (it (uRound g.Terms.length g.Prods) r (List.replicate g.Nons.length false)).length = g.Nons.length := it_inv (I := fun l : List Bool => l.length = g.Nons.length) (fun x hx => by rw [uRound_len]; exact hx) (by simp) r
  generalize hcur : it (uRound g.Terms.length g.Prods) r (List.replicate g.Nons.length false) = cur at *
  repeat' (first | refine e_nil ?_ | ((refine e_op ?_); (first | refine o_n (peval_sound rfl) rfl ?_ | refine o_n (nl rfl rfl tc rfl) rfl ?_)) | refine s_seq ?_ | refine s_region ?_)
  refine s_cond rfl (fun h => ?_) (fun h => ?_)
  · have hrn : r ≤ g.Nons.length := by have := of_decide_eq_true h; omega
    clear h
    repeat' (first | refine e_nil ?_ | ((refine e_op ?_); (refine o_n (peval_sound rfl) rfl ?_)) | refine s_seq ?_ | refine s_region ?_ | refine s_block ?_ | refine s_skip ?_)
    refine s_loopK (ι := {i : Nat // i ≤ g.Prods.length}) [1, 3, 4, 5] rfl ⟨0, by omega⟩ (fun x => [(6, .int .i64 x.1)])
      (fun x => [osl 4 1 (.slice (some ⟨bu, 0, none⟩) g.Nons.length g.Nons.length) g.Nons.length ((uRound g.Terms.length (g.Prods.take x.1) cur).map Value.bool),
        blk b1 27 [.slice A0 g.Terms.length c0, .slice A1 g.Levels.length c1, .slice A2 g.Pats.length c2, .slice A3 g.Nons.length c3, .slice A4 g.Prods.length c4]])
      (fun x => g.Prods.length - x.1) ?_ (by repeat' (first | exact Ent.nil _ | refine Ent.tak tk ?_ | refine Ent.tak .z ?_)) ?_
    · repeat' (first | exact Sub.nil _ | refine Sub.cons rfl ?_)
    rintro ⟨i, hi⟩
    simp only at hi ⊢
    have hlc : (uRound g.Terms.length (g.Prods.take i) cur).length = g.Nons.length := by rw [uRound_len]; exact hlr
    repeat' (first | refine e_nil ?_ | ((refine e_op ?_); (first | refine o_n (peval_sound rfl) rfl ?_ | refine o_n (nl rfl rfl tc rfl) rfl ?_)) | refine s_seq ?_ | refine s_region ?_)
    refine s_cond rfl (fun h => ?_) (fun h => ?_)
    · have hlt : i < g.Prods.length := by have := of_decide_eq_true h; omega
      clear h
      have hstep := it_comm_take (t := g.Terms.length) hlt cur
      generalize uRound g.Terms.length (g.Prods.take i) cur = u at *
      obtain ⟨b, o, es, rfl, hb, he, hc⟩ := hG.prods.2.2 i hlt
      obtain ⟨Ar, cr, rfl, hl, hlN, hlK, hri⟩ := kPrd_open he
      have hrl := hri.2.1
      repeat' (first | refine e_nil ?_ | ((refine e_op ?_); (refine o_n (peval_sound rfl) rfl ?_)) | refine s_seq ?_ | refine s_region ?_ | refine s_block ?_ | refine s_skip ?_)
      refine s_loopK (ι := {k : Nat // k ≤ g.Prods[i].Right.length}) [1, 3, 4, 5, 6] rfl ⟨0, by omega⟩ (fun x => [(8, .int .i64 x.1), (7, .bool ((g.Prods[i].Right.take x.1).all (okSym g.Terms.length u)))])
        (fun x => [osl 4 1 (.slice (some ⟨bu, 0, none⟩) g.Nons.length g.Nons.length) g.Nons.length (u.map Value.bool),
          blk b1 27 [.slice A0 g.Terms.length c0, .slice A1 g.Levels.length c1, .slice A2 g.Pats.length c2, .slice A3 g.Nons.length c3, .slice (some ⟨b, o, none⟩) g.Prods.length c4]])
        (fun x => g.Prods[i].Right.length - x.1) ?_ (by repeat' (first | exact Ent.nil _ | refine Ent.tak tk ?_)) ?_
      · repeat' (first | exact Sub.nil _ | refine Sub.cons rfl ?_)
      rintro ⟨k, hk⟩
      simp only at hk ⊢
      repeat' (first | ((refine e_op ?_); (first | refine o_n (peval_sound rfl) rfl ?_ | refine o_n (nl rfl rfl tc rfl) rfl ?_)) | refine s_seq ?_ | refine s_region ?_)
      refine e_op (o_n (n_index rfl rfl rfl rfl i rfl hlt) rfl ?_)
      repeat' (((refine e_op ?_); (refine o_n (peval_sound rfl) rfl ?_)))
      refine e_op (o_n (n_load_ro rfl rfl hb (loads_one rfl (hc 1 _ rfl))) rfl ?_)
      repeat' (first | refine e_nil ?_ | ((refine e_op ?_); (refine o_n (peval_sound rfl) rfl ?_)))
      refine s_cond rfl (fun h => ?_) (fun h => ?_)
      · have hkl : k < g.Prods[i].Right.length := by have := of_decide_eq_true h; omega
        clear h
        obtain ⟨b2, o2, es2, rfl, hb2, ⟨rfl, hsI⟩, hc2⟩ := hri.2.2 k hkl
        obtain ⟨hs1, hs2⟩ := hps.right i hlt _ (List.getElem_mem hkl)
        repeat' (first | ((refine e_op ?_); (first | refine o_n (peval_sound rfl) rfl ?_ | refine o_n (nl rfl rfl tc rfl) rfl ?_)) | refine s_seq ?_ | refine s_region ?_ | refine s_block ?_ | refine s_skip ?_)
        refine e_op (o_n (n_index rfl rfl rfl rfl i rfl hlt) rfl ?_)
        repeat' (((refine e_op ?_); (refine o_n (peval_sound rfl) rfl ?_)))
        refine e_op (o_n (n_load_ro rfl rfl hb (loads_one rfl (hc 1 _ rfl))) rfl ?_)
        repeat' (((refine e_op ?_); (refine o_n (peval_sound rfl) rfl ?_)))
        refine e_op (o_n (n_index rfl rfl rfl rfl k rfl hkl) rfl ?_)
        refine e_op (o_n (n_load_ro rfl rfl hb2 (loads_one rfl (hc2 0 _ rfl))) rfl ?_)
        repeat' (first | refine e_nil ?_ | ((first | refine e_op ?_ | refine e_yes rfl ?_); (refine o_n (peval_sound rfl) rfl ?_)) | refine e_noU rfl rfl rfl ?_ | refine e_noN rfl rfl ?_ | refine s_region ?_ | refine s_end ?_ | ((fail_if_success (refine e_dec true (by exact rfl) ?_)); (fail_if_success (refine e_dec false (by exact rfl) ?_)); refine e_part rfl rfl (fun h => ?_) (fun h => ?_)))
        · have hp : (g.Prods[i].Right.take k).all (okSym g.Terms.length u) = true := by assumption
          have hst := of_decide_eq_true h
          refine s_back ⟨⟨k + 1, by omega⟩, by simp only; omega, ?_, by repeat' (first | exact Ent.nil _ | refine Ent.tak tk ?_)⟩
          repeat' (first | exact Sub.nil _ | refine Sub.cons rfl ?_ | refine Sub.consE rfl ?_ ?_)
          · exact inc (i := k) (by omega)
          · rw [all_take_succ hkl, hp]; simp [okSym, hst]
        · have hp : (g.Prods[i].Right.take k).all (okSym g.Terms.length u) = true := by assumption
          have hst := of_decide_eq_false h
          have hlt2 : (g.Prods[i].Right[k] - g.Terms.length).toNat < u.length := by omega
          refine e_yes rfl (o_n (n_index rfl rfl rfl rfl (g.Prods[i].Right[k] - g.Terms.length).toNat (by rw [wrap_i64] <;> omega) (by omega)) rfl ?_)
          refine e_yes rfl (o_n (n_load_osl (v := .bool u[(g.Prods[i].Right[k] - g.Terms.length).toNat]) rfl rfl .z (by simp [loadL, aggB, hlt2])) rfl ?_)
          repeat' (first | refine e_nil ?_ | ((first | refine e_op ?_ | refine e_yes rfl ?_); (refine o_n (peval_sound rfl) rfl ?_)) | refine s_region ?_ | refine s_end ?_)
          refine s_back ⟨⟨k + 1, by omega⟩, by simp only; omega, ?_, by repeat' (first | exact Ent.nil _ | refine Ent.tak tk ?_)⟩
          repeat' (first | exact Sub.nil _ | refine Sub.cons rfl ?_ | refine Sub.consE rfl ?_ ?_)
          · exact inc (i := k) (by omega)
          · rw [all_take_succ hkl, hp]
            have : decide (g.Prods[i].Right[k] < (g.Terms.length : Int)) = false := decide_eq_false hst
            simp only [okSym, this, Bool.false_or, Bool.true_and]
            rw [List.getD_eq_getElem?_getD, List.getElem?_eq_getElem hlt2]; rfl
        · refine s_back ⟨⟨k + 1, by omega⟩, by simp only; omega, ?_, by repeat' (first | exact Ent.nil _ | refine Ent.tak tk ?_)⟩
          repeat' (first | exact Sub.nil _ | refine Sub.cons rfl ?_ | refine Sub.consE rfl ?_ ?_)
          · exact inc (i := k) (by omega)
          · rw [all_take_succ hkl, h]; rfl
      · have hge : k = g.Prods[i].Right.length := by have := of_decide_eq_false h; omega
        subst hge
        clear h
        obtain ⟨hl0, hl1⟩ := hps.left i hlt
        have hli : g.Prods[i].Left.toNat < u.length := by omega
        rw [List.take_length]
        repeat' (first | refine s_exit ?_ | refine x_hit ?_ | refine x_code ?_ | refine x_back ?_)
        refine s_drawZ [20] Tryz.mixed (by decide +kernel) ?_
        repeat' (first | refine z_n (peval_sound rfl) rfl rfl ?_ | refine z_n (nl rfl rfl tc rfl) rfl rfl ?_)
        refine z_n (n_index rfl rfl rfl rfl i rfl hlt) rfl rfl ?_
        repeat' (refine z_n (peval_sound rfl) rfl rfl ?_)
        refine z_n (n_load_ro rfl rfl hb (loads_one rfl (hc 0 _ rfl))) rfl rfl ?_
        repeat' (first | refine z_n (peval_sound rfl) rfl rfl ?_ | refine z_n (nl rfl rfl tc rfl) rfl rfl ?_)
        refine z_n (n_index rfl rfl rfl rfl i rfl hlt) rfl rfl ?_
        repeat' (refine z_n (peval_sound rfl) rfl rfl ?_)
        refine z_n (n_load_ro rfl rfl hb (loads_one rfl (hc 0 _ rfl))) rfl rfl ?_
        refine z_n (n_index rfl rfl rfl rfl g.Prods[i].Left.toNat (by omega) (by omega)) rfl rfl ?_
        refine z_n (n_load_osl (v := .bool u[g.Prods[i].Left.toNat]) rfl rfl .z (by simp [loadL, aggB, hli])) rfl rfl ?_
        repeat' (first | refine z_no rfl rfl rfl rfl ?_ | refine z_n (peval_sound rfl) rfl rfl ?_ | refine z_ny rfl (peval_sound rfl) rfl rfl ?_ | ((fail_if_success (refine z_dec true (by exact rfl) ?_)); (fail_if_success (refine z_dec false (by exact rfl) ?_)); refine z_part rfl rfl (fun h => ?_) (fun h => ?_)))
        all_goals refine z_n (n_index rfl rfl rfl rfl g.Prods[i].Left.toNat (by omega) (by omega)) rfl rfl ?_
        · refine z_e rfl (o_store_osl (vs := [.bool true]) rfl rfl rfl rfl rfl rfl (by simp; omega) .z ?_)
          repeat' (refine z_nil ?_)
          repeat' (first | refine e_nil ?_ | ((refine e_op ?_); (refine o_n (peval_sound rfl) rfl ?_)) | refine s_region ?_ | refine s_end ?_)
          refine s_back ⟨⟨i + 1, by omega⟩, by simp only; omega, ?_, ?_⟩
          · repeat' (first | exact Sub.nil _ | refine Sub.cons rfl ?_ | refine Sub.consE rfl ?_ ?_)
            exact inc (i := i) (by omega)
          · simp only [setMany, Nat.zero_add, Nat.mul_one, hstep]
            rw [← uStep_or hli (v := true) (by rw [h]; rfl), List.map_set]
            repeat' (first | exact Ent.nil _ | refine Ent.tak tk ?_)
        · refine z_e rfl (o_store_osl (vs := [.bool (g.Prods[i].Right.all (okSym g.Terms.length u))]) rfl rfl rfl rfl rfl rfl (by simp; omega) .z ?_)
          repeat' (refine z_nil ?_)
          repeat' (first | refine e_nil ?_ | ((refine e_op ?_); (refine o_n (peval_sound rfl) rfl ?_)) | refine s_region ?_ | refine s_end ?_)
          refine s_back ⟨⟨i + 1, by omega⟩, by simp only; omega, ?_, ?_⟩
          · repeat' (first | exact Sub.nil _ | refine Sub.cons rfl ?_ | refine Sub.consE rfl ?_ ?_)
            exact inc (i := i) (by omega)
          · simp only [setMany, Nat.zero_add, Nat.mul_one, hstep]
            rw [← uStep_or hli (v := g.Prods[i].Right.all (okSym g.Terms.length u)) (by rw [h]; rfl), List.map_set]
            repeat' (first | exact Ent.nil _ | refine Ent.tak tk ?_)
    · have hge : i = g.Prods.length := by have := of_decide_eq_false h; omega
      subst hge
      clear h
      rw [List.take_length]
      repeat' (first | refine e_nil ?_ | ((refine e_op ?_); (refine o_n (peval_sound rfl) rfl ?_)) | refine s_region ?_ | refine s_end ?_ | refine s_exit ?_ | refine x_hit ?_ | refine x_code ?_ | refine x_back ?_)
      refine s_back ⟨⟨r + 1, by omega⟩, by simp only; omega, ?_, ?_⟩
      · repeat' (first | exact Sub.nil _ | refine Sub.cons rfl ?_ | refine Sub.consE rfl ?_ ?_)
        exact inc (i := r) (by omega)
      · simp only [it_succ, hcur]
        repeat' (first | exact Ent.nil _ | refine Ent.tak tk ?_)
  · have hge : r = g.Nons.length + 1 := by have := of_decide_eq_false h; omega
    subst hge
    clear h
    have hcu : cur = uFix g := hcur.symm
    repeat' (first | refine e_nil ?_ | ((refine e_op ?_); (refine o_n (peval_sound rfl) rfl ?_)) | refine s_seq ?_ | refine s_region ?_ | refine s_block ?_ | refine s_exit ?_ | refine x_hit ?_ | refine x_code ?_ | refine x_back ?_)
    refine s_loopK (ι := {i : Nat // i ≤ g.Nons.length ∧ (cur.take i).all id = true}) [4] rfl ⟨0, by omega, rfl⟩ (fun x => [(10, .int .i64 x.1)])
      (fun x => [osl 4 1 (.slice (some ⟨bu, 0, none⟩) g.Nons.length g.Nons.length) g.Nons.length (cur.map Value.bool)]) (fun x => g.Nons.length - x.1) ?_ (by repeat' (first | exact Ent.nil _ | refine Ent.tak tk ?_)) ?_
    · repeat' (first | exact Sub.nil _ | refine Sub.cons rfl ?_)
    rintro ⟨i, hi, hal⟩
    simp only at hi hal ⊢
    repeat' (first | refine e_nil ?_ | ((refine e_op ?_); (refine o_n (peval_sound rfl) rfl ?_)) | refine s_seq ?_ | refine s_region ?_)
    refine s_cond rfl (fun h => ?_) (fun h => ?_)
    · have hlt : i < g.Nons.length := by have := of_decide_eq_true h; omega
      clear h
      have hlu : i < cur.length := by omega
      repeat' (first | ((refine e_op ?_); (refine o_n (peval_sound rfl) rfl ?_)) | refine s_seq ?_ | refine s_region ?_ | refine s_block ?_ | refine s_skip ?_)
      refine e_op (o_n (n_index rfl rfl rfl rfl i rfl hlt) rfl ?_)
      refine e_op (o_n (n_load_osl (v := .bool cur[i]) rfl rfl .z (by simp [loadL, aggB, hlu])) rfl ?_)
      repeat' (first | refine e_nil ?_ | ((refine e_op ?_); (refine o_n (peval_sound rfl) rfl ?_)))
      refine s_cond rfl (fun h => ?_) (fun h => ?_)
      · repeat' (first | refine e_nil ?_ | ((refine e_op ?_); (refine o_n (peval_sound rfl) rfl ?_)) | refine s_seq ?_ | refine s_region ?_)
        refine s_ret ⟨_, _, res1 rfl rfl, ⟨?_, rfl⟩, Ent.nil _⟩
        rw [← hcu]
        have : cur.all id = false := by
          rw [List.all_eq_false]
          exact ⟨_, List.getElem_mem hlu, by simpa using h⟩
        rw [this]
      · repeat' (first | refine e_nil ?_ | ((refine e_op ?_); (refine o_n (peval_sound rfl) rfl ?_)) | refine s_region ?_ | refine s_end ?_ | refine s_skip ?_)
        refine s_back ⟨⟨i + 1, by omega, ?_⟩, by simp only; omega, ?_, by repeat' (first | exact Ent.nil _ | refine Ent.tak tk ?_)⟩
        · rw [all_take_succ hlu, hal]; simpa using h
        · repeat' (first | exact Sub.nil _ | refine Sub.cons rfl ?_ | refine Sub.consE rfl ?_ ?_)
          exact inc (i := i) (by omega)
    · have hge : i = g.Nons.length := by have := of_decide_eq_false h; omega
      subst hge
      clear h
      repeat' (first | refine e_nil ?_ | ((refine e_op ?_); (refine o_n (peval_sound rfl) rfl ?_)) | refine s_seq ?_ | refine s_region ?_ | refine s_exit ?_ | refine x_hit ?_ | refine x_code ?_ | refine x_back ?_)
      refine s_ret ⟨_, _, res1 rfl rfl, ⟨?_, rfl⟩, Ent.nil _⟩
      rw [← hcu]
      rw [← hlr, List.take_length] at hal
      rw [hal]

end Go.Proofs.YtcnpjhaedjncdaaGreatDoor

namespace Go.Proofs.YtcnpjhaedjncdaaGreatDoor
set_option linter.all false
open Go.Proofs.YtcnpjhaedjncdaaGreatDoor.E
attribute [local irreducible] EVX EVO EVL EV1 NEV
set_option maxRecDepth 10000

theorem lim5 {g : Gram} (h : g.Terms.length > 48 ∨ g.Nons.length > 48 ∨ g.Prods.length > 128 ∨ ∃ p ∈ g.Prods, p.Right.length > 12) : Value.int .i64 5 = Value.int .i64 (checkE g) := by
  rw [checkE_5]
  unfold limitsB
  simp only [Bool.or_eq_true, decide_eq_true_eq, List.any_eq_true]
  exact h

theorem lim_f {g : Gram} (h1 : ¬ g.Terms.length > 48) (h2 : ¬ g.Nons.length > 48) (h3 : ¬ g.Prods.length > 128) (h4 : ∀ i (h : i < g.Prods.length), ¬ g.Prods[i].Right.length > 12) : limitsB g = false := by
  unfold limitsB
  simp only [Bool.or_eq_false_iff, decide_eq_false_iff_not, List.any_eq_false, decide_eq_true_eq]
  refine ⟨h1, h2, h3, fun p hp => ?_⟩
  obtain ⟨i, hi, rfl⟩ := List.getElem_of_mem hp
  exact h4 i hi

theorem checkR_w (cs : List Value) (g : Gram) : Trip Tryz.prog 6 [.agg cs.toArray] (kGram.rd cs g) [] (fun v V => v = .int .i64 (checkE g) ∧ V = []) := by
  refine trip Tryz.tabOk Tryz.func6 rfl rfl rfl rfl ?_
  intro w SM hR
  obtain ⟨A0, A1, A2, A3, A4, c0, c1, c2, c3, c4, rfl, hG⟩ := kGram_open hR
  have hT := hG.terms.2.1
  have hN := hG.nons.2.1
  have hP := hG.prods.2.1
  repeat' (first | refine e_nil ?_ | ((refine e_op ?_); (first | refine o_n (peval_sound rfl) rfl ?_ | refine o_box rfl rfl (fun _ => ?_))) | refine s_seq ?_ | refine s_region ?_)
  rename_i b1
  refine s_drawU [] Tryz.mixed (by decide +kernel) ?_
  repeat' (first | refine l_nil ?_ | ((first | refine l_n (peval_sound rfl) rfl ?_ rfl ?_ | refine l_n (nl rfl rfl tc rfl) rfl ?_ rfl ?_); · (exact Ent.refl _)))
  repeat' (first | refine e_nil ?_ | ((first | refine e_op ?_ | refine e_yes rfl ?_); (first | refine o_n (peval_sound rfl) rfl ?_ | refine o_n (nl rfl rfl tc rfl) rfl ?_)) | refine e_noU rfl rfl rfl ?_ | refine s_seq ?_ | refine s_region ?_ | refine s_block ?_ | refine s_skip ?_ | refine s_true rfl ?_ | ((fail_if_success (refine e_dec true (by exact rfl) ?_)); (fail_if_success (refine e_dec false (by exact rfl) ?_)); refine e_part rfl rfl (fun h => ?_) (fun h => ?_)) | refine s_cond rfl (fun h => ?_) (fun h => ?_))
  all_goals try
    refine s_ret ⟨_, _, res1 rfl rfl, ⟨?_, rfl⟩, Ent.nil _⟩
    refine lim5 ?_
    have h9 := of_decide_eq_true h
    omega
  rename_i k1 k2
  have k3 := h
  clear h
  replace k1 := of_decide_eq_false k1
  replace k2 := of_decide_eq_false k2
  replace k3 := of_decide_eq_false k3
  refine s_loopK (ι := {i : Nat // i ≤ g.Prods.length ∧ ∀ j (hj : j < g.Prods.length), j < i → ¬ g.Prods[j].Right.length > 12}) [1, 3, 4] rfl ⟨0, by omega, fun j _ h => by omega⟩
    (fun x => [(5, .int .i64 x.1)]) (fun x => [blk b1 27 [.slice A0 g.Terms.length c0, .slice A1 g.Levels.length c1, .slice A2 g.Pats.length c2, .slice A3 g.Nons.length c3, .slice A4 g.Prods.length c4]]) (fun x => g.Prods.length - x.1) ?_ (by repeat' (first | exact Ent.nil _ | refine Ent.tak tk ?_)) ?_
  · repeat' (first | exact Sub.nil _ | refine Sub.cons rfl ?_)
  rintro ⟨i, hi, hok⟩
  simp only at hi hok ⊢
  repeat' (first | refine e_nil ?_ | ((refine e_op ?_); (first | refine o_n (peval_sound rfl) rfl ?_ | refine o_n (nl rfl rfl tc rfl) rfl ?_)) | refine s_seq ?_ | refine s_region ?_)
  refine s_cond rfl (fun h => ?_) (fun h => ?_)
  · have hlt : i < g.Prods.length := by have := of_decide_eq_true h; omega
    clear h
    obtain ⟨b, o, es, e0, hb, he, hc⟩ := hG.prods.2.2 i hlt
    cases e0
    obtain ⟨Ar, cr, rfl, hl0, hlN, hlK, hr⟩ := kPrd_open he
    repeat' (first | ((refine e_op ?_); (first | refine o_n (peval_sound rfl) rfl ?_ | refine o_n (nl rfl rfl tc rfl) rfl ?_)) | refine s_seq ?_ | refine s_region ?_ | refine s_block ?_ | refine s_skip ?_)
    refine e_op (o_n (n_index rfl rfl rfl rfl i rfl hlt) rfl ?_)
    repeat' (((refine e_op ?_); (refine o_n (peval_sound rfl) rfl ?_)))
    refine e_op (o_n (n_load_ro rfl rfl hb (loads_one rfl (hc 1 _ rfl))) rfl ?_)
    repeat' (first | refine e_nil ?_ | ((refine e_op ?_); (refine o_n (peval_sound rfl) rfl ?_)))
    refine s_cond rfl (fun h => ?_) (fun h => ?_)
    · repeat' (first | refine e_nil ?_ | ((refine e_op ?_); (refine o_n (peval_sound rfl) rfl ?_)) | refine s_seq ?_ | refine s_region ?_)
      refine s_ret ⟨_, _, res1 rfl rfl, ⟨?_, rfl⟩, Ent.nil _⟩
      have h9 := of_decide_eq_true h
      exact lim5 (.inr (.inr (.inr ⟨_, List.getElem_mem hlt, by omega⟩)))
    · have h9 := of_decide_eq_false h
      clear h
      repeat' (first | refine e_nil ?_ | ((refine e_op ?_); (refine o_n (peval_sound rfl) rfl ?_)) | refine s_region ?_ | refine s_end ?_ | refine s_skip ?_)
      refine s_back ⟨⟨i + 1, by omega, ?_⟩, by simp only; omega, ?_, by repeat' (first | exact Ent.nil _ | refine Ent.tak tk ?_)⟩
      · intro j hj hji
        by_cases e : j = i
        · subst e; omega
        · exact hok j hj (by omega)
      · repeat' (first | exact Sub.nil _ | refine Sub.cons rfl ?_ | refine Sub.consE rfl ?_ ?_)
        exact inc (i := i) (by omega)
  have hge : i = g.Prods.length := by have := of_decide_eq_false h; omega
  subst hge
  clear h
  have hl : limitsB g = false := lim_f (by omega) (by omega) (by omega) (fun j hj => hok j hj hj)
  clear hok hi
  repeat' (first | refine e_nil ?_ | ((first | refine e_op ?_ | refine e_yes rfl ?_); (first | refine o_n (peval_sound rfl) rfl ?_ | refine o_n (nl rfl rfl tc rfl) rfl ?_)) | refine e_noU rfl rfl rfl ?_ | refine s_seq ?_ | refine s_region ?_ | refine s_block ?_ | refine s_skip ?_ | refine s_exit ?_ | refine s_true rfl ?_ | refine x_hit ?_ | refine x_code ?_ | refine x_back ?_ | ((fail_if_success (refine e_dec true (by exact rfl) ?_)); (fail_if_success (refine e_dec false (by exact rfl) ?_)); refine e_part rfl rfl (fun h => ?_) (fun h => ?_)) | refine s_cond rfl (fun h => ?_) (fun h => ?_))
  all_goals try
    refine s_ret ⟨_, _, res1 rfl rfl, ⟨?_, rfl⟩, Ent.nil _⟩
    refine not_wf hl (fun hw => ?_)
    have qt := hw.t
    have qn := hw.n
    have ql := hw.lev
    have qp := hw.prods
    simp only [bne_iff_ne, beq_iff_eq, decide_eq_true_eq] at h
    omega
  rename_i ht1 hn2 hlv
  have hp0 := h
  clear h
  simp only [bne_eq_false_iff_eq, beq_eq_false_iff_ne, decide_eq_false_iff_not] at ht1 hn2 hlv hp0
  refine s_loopK (ι := {i : Nat // i ≤ g.Terms.length ∧ ∀ j (hj : j < g.Levels.length), j < i → mayBind g.Levels[j].N g.Levels[j].Kind = true}) [1, 3, 4] rfl ⟨0, by omega, fun j _ h => by omega⟩
    (fun x => [(6, .int .i64 x.1)]) (fun x => [blk b1 27 [.slice A0 g.Terms.length c0, .slice A1 g.Levels.length c1, .slice A2 g.Pats.length c2, .slice A3 g.Nons.length c3, .slice A4 g.Prods.length c4]]) (fun x => g.Terms.length - x.1) ?_ (by repeat' (first | exact Ent.nil _ | refine Ent.tak tk ?_)) ?_
  · repeat' (first | exact Sub.nil _ | refine Sub.cons rfl ?_)
  rintro ⟨i, hi, hok⟩
  simp only at hi hok ⊢
  repeat' (first | refine e_nil ?_ | ((refine e_op ?_); (refine o_n (peval_sound rfl) rfl ?_)) | refine s_seq ?_ | refine s_region ?_)
  refine s_cond rfl (fun h => ?_) (fun h => ?_)
  · have hlt : i < g.Levels.length := by have := of_decide_eq_true h; omega
    clear h
    obtain ⟨b, o, es, e0, hb, he, hc⟩ := hG.levels.2.2 i hlt
    cases e0
    obtain ⟨rfl, hlN, hlK⟩ := kLev_open he
    repeat' (first | ((refine e_op ?_); (first | refine o_n (peval_sound rfl) rfl ?_ | refine o_n (nl rfl rfl tc rfl) rfl ?_)) | refine s_seq ?_ | refine s_region ?_ | refine s_block ?_ | refine s_skip ?_)
    refine e_op (o_n (n_index rfl rfl rfl rfl i rfl hlt) rfl ?_)
    refine e_op (o_n (n_load_ro rfl rfl hb (loads_agg rfl rfl hc)) rfl ?_)
    refine e_op (o_call (level_w _ _) rfl .nil Can.tt rfl ?_)
    rintro v V ⟨rfl, rfl⟩
    repeat' (first | refine e_nil ?_ | ((refine e_op ?_); (refine o_n (peval_sound rfl) rfl ?_)))
    refine s_cond rfl (fun h => ?_) (fun h => ?_)
    · repeat' (first | refine e_nil ?_ | ((refine e_op ?_); (refine o_n (peval_sound rfl) rfl ?_)) | refine s_seq ?_ | refine s_region ?_)
      refine s_ret ⟨_, _, res1 rfl rfl, ⟨?_, rfl⟩, Ent.nil _⟩
      refine not_wf hl (fun hw => ?_)
      rw [hw.bind _ (List.getElem_mem hlt)] at h
      cases h
    · have hmb : mayBind g.Levels[i].N g.Levels[i].Kind = true := by simpa using h
      clear h
      repeat' (first | refine e_nil ?_ | ((refine e_op ?_); (refine o_n (peval_sound rfl) rfl ?_)) | refine s_region ?_ | refine s_end ?_ | refine s_skip ?_)
      refine s_back ⟨⟨i + 1, by omega, ?_⟩, by simp only; omega, ?_, by repeat' (first | exact Ent.nil _ | refine Ent.tak tk ?_)⟩
      · intro j hj hji
        by_cases e : j = i
        · subst e; exact hmb
        · exact hok j hj (by omega)
      · repeat' (first | exact Sub.nil _ | refine Sub.cons rfl ?_ | refine Sub.consE rfl ?_ ?_)
        exact inc (i := i) (by omega)
  have hge : i = g.Terms.length := by have := of_decide_eq_false h; omega
  subst hge
  clear h
  have hbind : ∀ l ∈ g.Levels, mayBind l.N l.Kind = true := by
    intro l hlm
    obtain ⟨j, hj, rfl⟩ := List.getElem_of_mem hlm
    exact hok j hj (by omega)
  clear hok hi
  repeat' (first | refine e_nil ?_ | ((refine e_op ?_); (refine o_n (peval_sound rfl) rfl ?_)) | refine s_seq ?_ | refine s_region ?_ | refine s_block ?_ | refine s_exit ?_ | refine x_hit ?_ | refine x_code ?_ | refine x_back ?_)
  refine s_loopK (ι := {i : Nat // i ≤ g.Prods.length ∧ ∀ j (hj : j < g.Prods.length), j < i → ProdOk g.Terms.length g.Nons.length j g.Prods[j]}) [1, 3, 4] rfl ⟨0, by omega, fun j _ h => by omega⟩
    (fun x => [(7, .int .i64 x.1)]) (fun x => [blk b1 27 [.slice A0 g.Terms.length c0, .slice A1 g.Levels.length c1, .slice A2 g.Pats.length c2, .slice A3 g.Nons.length c3, .slice A4 g.Prods.length c4]]) (fun x => g.Prods.length - x.1) ?_ (by repeat' (first | exact Ent.nil _ | refine Ent.tak tk ?_)) ?_
  · repeat' (first | exact Sub.nil _ | refine Sub.cons rfl ?_)
  rintro ⟨i, hi, hok⟩
  simp only at hi hok ⊢
  repeat' (first | refine e_nil ?_ | ((refine e_op ?_); (first | refine o_n (peval_sound rfl) rfl ?_ | refine o_n (nl rfl rfl tc rfl) rfl ?_)) | refine s_seq ?_ | refine s_region ?_)
  refine s_cond rfl (fun h => ?_) (fun h => ?_)
  · have hlt : i < g.Prods.length := by have := of_decide_eq_true h; omega
    clear h
    obtain ⟨b, o, es, e0, hb, he, hc⟩ := hG.prods.2.2 i hlt
    cases e0
    obtain ⟨Ar, cr, rfl, hl0, hlN, hlK, hr⟩ := kPrd_open he
    have hrl := hr.2.1
    have hbad : ¬ ProdOk g.Terms.length g.Nons.length i g.Prods[i] → Value.int .i64 2 = Value.int .i64 (checkE g) := fun hn =>
      not_wf hl (fun hw => hn ((prodOk_iff _ _ _ _).1 (hw.prod i hlt)))
    repeat' (first | ((refine e_op ?_); (first | refine o_n (peval_sound rfl) rfl ?_ | refine o_n (nl rfl rfl tc rfl) rfl ?_)) | refine s_seq ?_ | refine s_region ?_ | refine s_block ?_ | refine s_skip ?_)
    refine e_op (o_n (n_index rfl rfl rfl rfl i rfl hlt) rfl ?_)
    refine e_op (o_n (n_load_ro rfl rfl hb (loads_agg rfl rfl hc)) rfl ?_)
    repeat' (first | refine e_nil ?_ | ((first | refine e_op ?_ | refine e_yes rfl ?_); (first | refine o_n (peval_sound rfl) rfl ?_ | refine o_n (nl rfl rfl tc rfl) rfl ?_ | refine o_storeC rfl rfl rfl rfl tc uc rfl rfl rfl ?_ | refine o_alloc rfl rfl (fun _ => ?_))) | refine e_noU rfl rfl rfl ?_ | refine s_seq ?_ | refine s_region ?_ | refine s_true rfl ?_ | ((fail_if_success (refine e_dec true (by exact rfl) ?_)); (fail_if_success (refine e_dec false (by exact rfl) ?_)); refine e_part rfl rfl (fun h => ?_) (fun h => ?_)))
    all_goals try
      refine s_ret ⟨_, _, res1 rfl rfl, ⟨?_, rfl⟩, Ent.nil _⟩
      refine hbad (fun hp => ?_)
      have q1 := hp.lo
      have q2 := hp.hi
      have q3 := hp.zero
      first | (have h9 := zz_t h; omega) | (have h9 := of_decide_eq_true h; omega)
    rename_i b6 hx1 hx2
    have hx3 := h
    clear h
    refine e_yes rfl (o_call (level_w _ _) rfl .nil Can.tt rfl ?_)
    rintro v V ⟨rfl, rfl⟩
    repeat' (first | refine e_nil ?_ | ((first | refine e_op ?_ | refine e_yes rfl ?_); (refine o_n (peval_sound rfl) rfl ?_)))
    refine s_cond rfl (fun h => ?_) (fun h => ?_)
    · repeat' (first | refine e_nil ?_ | ((refine e_op ?_); (refine o_n (peval_sound rfl) rfl ?_)) | refine s_seq ?_ | refine s_region ?_)
      refine s_ret ⟨_, _, res1 rfl rfl, ⟨?_, rfl⟩, Ent.nil _⟩
      refine hbad (fun hp => ?_)
      rw [hp.bind] at h
      cases h
    have hmb : mayBind g.Prods[i].L.N g.Prods[i].L.Kind = true := by simpa using h
    clear h
    replace hx1 := of_decide_eq_false hx1
    replace hx2 := of_decide_eq_false hx2
    replace hx3 := zz_f hx3
    repeat' (first | refine e_nil ?_ | ((refine e_op ?_); (refine o_n (peval_sound rfl) rfl ?_)) | refine s_seq ?_ | refine s_region ?_ | refine s_block ?_ | refine s_skip ?_)
    refine s_loopK (ι := {j : Nat // j ≤ g.Prods[i].Right.length ∧ ∀ s ∈ g.Prods[i].Right.take j, 1 ≤ s ∧ s < (g.Terms.length : Int) + g.Nons.length ∧ s ≠ g.Terms.length}) [1, 3, 4, 7, 8] rfl ⟨0, by omega, fun s hs => by simp at hs⟩
      (fun x => [(9, .int .i64 x.1)]) (fun x => [blk b6 61 [.int .i64 g.Prods[i].Left, .slice Ar g.Prods[i].Right.length cr, .int .i64 g.Prods[i].L.N, .int .i64 g.Prods[i].L.Kind], blk b1 27 [.slice A0 g.Terms.length c0, .slice A1 g.Levels.length c1, .slice A2 g.Pats.length c2, .slice A3 g.Nons.length c3, .slice (some ⟨b, o, none⟩) g.Prods.length c4]]) (fun x => g.Prods[i].Right.length - x.1) ?_ (by repeat' (first | exact Ent.nil _ | refine Ent.tak tk ?_ | refine Ent.tak .z ?_)) ?_
    · repeat' (first | exact Sub.nil _ | refine Sub.cons rfl ?_)
    rintro ⟨j, hj, hjo⟩
    simp only at hj hjo ⊢
    repeat' (first | refine e_nil ?_ | ((refine e_op ?_); (first | refine o_n (peval_sound rfl) rfl ?_ | refine o_n (nl rfl rfl tc rfl) rfl ?_)) | refine s_seq ?_ | refine s_region ?_)
    refine s_cond rfl (fun h => ?_) (fun h => ?_)
    · have hjl : j < g.Prods[i].Right.length := by have := of_decide_eq_true h; omega
      clear h
      obtain ⟨b2, o2, es2, rfl, hb2, ⟨rfl, hsI⟩, hc2⟩ := hr.2.2 j hjl
      repeat' (first | ((refine e_op ?_); (first | refine o_n (peval_sound rfl) rfl ?_ | refine o_n (nl rfl rfl tc rfl) rfl ?_)) | refine s_seq ?_ | refine s_region ?_ | refine s_block ?_ | refine s_skip ?_)
      refine e_op (o_n (n_index rfl rfl rfl rfl j rfl hjl) rfl ?_)
      refine e_op (o_n (n_load_ro rfl rfl hb2 (loads_one rfl (hc2 0 _ rfl))) rfl ?_)
      have hwr : IntKind.i64.wrap ((g.Terms.length : Int) + g.Nons.length) = (g.Terms.length : Int) + g.Nons.length := wrap_i64 (by omega) (by omega)
      repeat' (first | refine e_nil ?_ | ((first | refine e_op ?_ | refine e_yes rfl ?_); (refine o_n (peval_sound rfl) rfl ?_)) | refine e_noU rfl rfl rfl ?_ | refine s_seq ?_ | refine s_region ?_ | refine s_end ?_ | refine s_skip ?_ | refine s_true rfl ?_ | ((fail_if_success (refine e_dec true (by exact rfl) ?_)); (fail_if_success (refine e_dec false (by exact rfl) ?_)); refine e_part rfl rfl (fun h => ?_) (fun h => ?_)) | refine s_cond rfl (fun h => ?_) (fun h => ?_))
      all_goals try
        refine s_ret ⟨_, _, res1 rfl rfl, ⟨?_, rfl⟩, Ent.nil _⟩
        refine hbad (fun hp => ?_)
        obtain ⟨q1, q2, q3⟩ := hp.right _ (List.getElem_mem hjl)
        try rw [hwr] at h
        first | (have h9 := of_decide_eq_true h; omega) | (have h9 := eq_of_beq h; omega)
      rename_i hy1 hy2
      have hy3 := h
      clear h
      rw [hwr] at hy2
      replace hy1 := of_decide_eq_false hy1
      replace hy2 := of_decide_eq_false hy2
      replace hy3 := beq_eq_false_iff_ne.1 hy3
      refine s_back ⟨⟨j + 1, by omega, ?_⟩, by simp only; omega, ?_, by repeat' (first | exact Ent.nil _ | refine Ent.tak tk ?_)⟩
      · intro s hs
        rw [List.take_succ_eq_append_getElem hjl, List.mem_append, List.mem_singleton] at hs
        rcases hs with hs | rfl
        · exact hjo s hs
        · exact ⟨by omega, by omega, hy3⟩
      · repeat' (first | exact Sub.nil _ | refine Sub.cons rfl ?_ | refine Sub.consE rfl ?_ ?_)
        exact inc (i := j) (by omega)
    · have hge : j = g.Prods[i].Right.length := by have := of_decide_eq_false h; omega
      subst hge
      clear h
      rw [List.take_length] at hjo
      repeat' (first | refine e_nil ?_ | ((refine e_op ?_); (refine o_n (peval_sound rfl) rfl ?_)) | refine s_region ?_ | refine s_end ?_ | refine s_exit ?_ | refine x_hit ?_ | refine x_code ?_ | refine x_back ?_)
      refine s_back ⟨⟨i + 1, by omega, ?_⟩, by simp only; omega, ?_, by repeat' (first | exact Ent.nil _ | refine Ent.tak tk ?_)⟩
      · intro j' hj' hlt'
        by_cases he2 : j' < i
        · exact hok j' hj' he2
        · have : j' = i := by omega
          subst this
          exact ⟨by omega, by omega, by omega, hmb, hjo⟩
      · repeat' (first | exact Sub.nil _ | refine Sub.cons rfl ?_ | refine Sub.consE rfl ?_ ?_)
        exact inc (i := i) (by omega)
  have hge : i = g.Prods.length := by have := of_decide_eq_false h; omega
  subst hge
  clear h
  obtain ⟨b, o, es, e0, hb0, he, hc⟩ := hG.prods.2.2 0 (by omega)
  cases e0
  obtain ⟨Ar, cr, rfl, hl0, hlN, hlK, hr⟩ := kPrd_open he
  have hrl := hr.2.1
  have hok0 := hok 0 (by omega) (by omega)
  repeat' (first | ((refine e_op ?_); (first | refine o_n (peval_sound rfl) rfl ?_ | refine o_n (nl rfl rfl tc rfl) rfl ?_)) | refine s_seq ?_ | refine s_region ?_ | refine s_exit ?_ | refine x_hit ?_ | refine x_code ?_ | refine x_back ?_)
  refine e_op (o_n (n_index rfl rfl rfl rfl 0 rfl (by omega)) rfl ?_)
  repeat' (((refine e_op ?_); (refine o_n (peval_sound rfl) rfl ?_)))
  refine e_op (o_n (n_load_ro rfl rfl hb0 (loads_one rfl (hc 1 _ rfl))) rfl ?_)
  have hstart : (¬ ∃ (h2 : g.Prods[0].Right.length = 1), (g.Terms.length : Int) ≤ g.Prods[0].Right[0]) → Value.int .i64 2 = Value.int .i64 (checkE g) := fun hn =>
    not_wf hl (fun hw => by
      obtain ⟨_, h2, h3⟩ := (startOk_iff _ _).1 hw.start
      exact hn ⟨h2, h3⟩)
  repeat' (((refine e_op ?_); (refine o_n (peval_sound rfl) rfl ?_)))
  refine e_part rfl rfl (fun h => ?_) (fun h => ?_)
  · repeat' (first | refine e_nil ?_ | ((refine e_op ?_); (refine o_n (peval_sound rfl) rfl ?_)) | refine e_noU rfl rfl rfl ?_ | refine s_seq ?_ | refine s_region ?_ | refine s_true rfl ?_)
    refine s_ret ⟨_, _, res1 rfl rfl, ⟨?_, rfl⟩, Ent.nil _⟩
    refine hstart (fun ⟨h2, _⟩ => ?_)
    rw [h2] at h; cases h
  have hone : g.Prods[0].Right.length = 1 := by
    have h9 := bne_eq_false_iff_eq.1 h
    omega
  clear h
  obtain ⟨b3, o3, es3, rfl, hb3, ⟨rfl, hsI⟩, hc3⟩ := hr.2.2 0 (by omega)
  repeat' (((refine e_yes rfl ?_); (first | refine o_n (peval_sound rfl) rfl ?_ | refine o_n (nl rfl rfl tc rfl) rfl ?_)))
  refine e_yes rfl (o_n (n_index rfl rfl rfl rfl 0 rfl (by omega)) rfl ?_)
  repeat' (((refine e_yes rfl ?_); (refine o_n (peval_sound rfl) rfl ?_)))
  refine e_yes rfl (o_n (n_load_ro rfl rfl hb0 (loads_one rfl (hc 1 _ rfl))) rfl ?_)
  refine e_yes rfl (o_n (n_index rfl rfl rfl rfl 0 rfl (by omega)) rfl ?_)
  refine e_yes rfl (o_n (n_load_ro rfl rfl hb3 (loads_one rfl (hc3 0 _ rfl))) rfl ?_)
  repeat' (((first | refine e_op ?_ | refine e_yes rfl ?_); (refine o_n (peval_sound rfl) rfl ?_)))
  refine e_part rfl rfl (fun h => ?_) (fun h => ?_)
  · repeat' (first | refine e_nil ?_ | ((refine e_op ?_); (refine o_n (peval_sound rfl) rfl ?_)) | refine e_noU rfl rfl rfl ?_ | refine s_seq ?_ | refine s_region ?_ | refine s_true rfl ?_)
    refine s_ret ⟨_, _, res1 rfl rfl, ⟨?_, rfl⟩, Ent.nil _⟩
    refine hstart (fun ⟨_, h2⟩ => ?_)
    have := of_decide_eq_true h
    omega
  have hbeg : (g.Terms.length : Int) ≤ g.Prods[0].Right[0] := by have := of_decide_eq_false h; omega
  clear h
  have hw0 : Wf0 g := ⟨by omega, by omega, by omega, by omega, hbind, fun i hi => (prodOk_iff _ _ _ _).2 (hok i hi hi), (startOk_iff _ _).2 ⟨by omega, hone, hbeg⟩⟩
  have hps : PsOk g.Terms.length g.Nons.length g.Prods := ⟨fun i hi => ⟨(hok i hi hi).lo, (hok i hi hi).hi⟩, fun i hi s hs => ⟨((hok i hi hi).right s hs).1, ((hok i hi hi).right s hs).2.1⟩⟩
  repeat' (((refine e_yes rfl ?_); (refine o_n (nl rfl rfl tc rfl) rfl ?_)))
  refine e_yes rfl (o_call (usefulR_w _ g hps) rfl .nil (Can.ro (kGram_mk hG)) rfl ?_)
  rintro v V ⟨rfl, rfl⟩
  repeat' (first | refine e_nil ?_ | ((first | refine e_op ?_ | refine e_yes rfl ?_); (refine o_n (peval_sound rfl) rfl ?_)))
  refine s_cond rfl (fun h => ?_) (fun h => ?_)
  · repeat' (first | refine e_nil ?_ | ((refine e_op ?_); (refine o_n (peval_sound rfl) rfl ?_)) | refine s_seq ?_ | refine s_region ?_)
    refine s_ret ⟨_, _, res1 rfl rfl, ⟨?_, rfl⟩, Ent.nil _⟩
    rw [checkE_u hl hw0, if_neg (by simpa using h)]
  · repeat' (first | refine e_nil ?_ | ((refine e_op ?_); (refine o_n (peval_sound rfl) rfl ?_)) | refine s_seq ?_ | refine s_region ?_ | refine s_skip ?_)
    refine s_ret ⟨_, _, res1 rfl rfl, ⟨?_, rfl⟩, Ent.nil _⟩
    rw [checkE_u hl hw0, if_pos (by simpa using h)]

end Go.Proofs.YtcnpjhaedjncdaaGreatDoor

namespace Go.Proofs.YtcnpjhaedjncdaaGreatDoor
set_option linter.all false

def orP (r te : List Bool) (k : Nat) : List Bool := (List.range r.length).map fun i => r.getD i false || (decide (i < k) && te.getD i false)
def orL (r te : List Bool) : List Bool := orP r te r.length

theorem orP_len (r te : List Bool) (k : Nat) : (orP r te k).length = r.length := by simp [orP]
theorem orL_len (r te : List Bool) : (orL r te).length = r.length := orP_len _ _ _

theorem orP_get {r te : List Bool} {k i : Nat} (h : i < r.length) : (orP r te k)[i]? = some (r[i] || (decide (i < k) && te.getD i false)) := by
  unfold orP
  rw [List.getElem?_map, List.getElem?_range h, Option.map_some, List.getD_eq_getElem?_getD, List.getElem?_eq_getElem h]; rfl

theorem orP_zero (r te : List Bool) : orP r te 0 = r := by
  apply List.ext_getElem?
  intro i
  by_cases h : i < r.length
  · rw [orP_get h, List.getElem?_eq_getElem h]; simp
  · rw [List.getElem?_eq_none (by rw [orP_len]; omega), List.getElem?_eq_none (by omega)]

theorem orP_succ {r te : List Bool} {k : Nat} {v : Bool} (hk : k < r.length) (hv : v = (r[k] || te.getD k false)) : (orP r te k).set k v = orP r te (k + 1) := by
  apply List.ext_getElem?
  intro i
  rw [List.getElem?_set]
  by_cases hi : i < r.length
  · rw [orP_get (k := k + 1) hi]
    by_cases e : k = i
    · subst e
      rw [if_pos rfl, orP_len, if_pos hi, hv, decide_eq_true (Nat.lt_succ_self k), Bool.true_and]
    · rw [if_neg e, orP_get hi]
      have : decide (i < k) = decide (i < k + 1) := by
        rw [decide_eq_decide]; omega
      rw [this]
  · have h2 : (orP r te (k + 1))[i]? = none := List.getElem?_eq_none (by rw [orP_len]; omega)
    have h3 : (orP r te k)[i]? = none := List.getElem?_eq_none (by rw [orP_len]; omega)
    rw [h2, h3]
    have : k ≠ i := by omega
    rw [if_neg this]

theorem orP_at {r te : List Bool} {k : Nat} (hk : k < r.length) : (orP r te k)[k]? = some r[k] := by rw [orP_get hk]; simp

def rowS (t : Nat) (no : List Bool) (fi : List (List Bool)) : List Int → List Bool → List Bool × Bool
  | [], acc => (acc, true)
  | s :: l, acc =>
    if s < (t : Int) then (acc.set s.toNat true, false)
    else if no.getD (s - t).toNat false then rowS t no fi l (orL acc (fi.getD (s - t).toNat [])) else (orL acc (fi.getD (s - t).toNat []), false)

theorem rowS_len (t : Nat) (no : List Bool) (fi : List (List Bool)) : ∀ (l : List Int) (acc : List Bool), (rowS t no fi l acc).1.length = acc.length
  | [], _ => rfl
  | s :: l, acc => by
    unfold rowS
    split
    · simp
    · split
      · rw [rowS_len, orL_len]
      · exact orL_len _ _

abbrev BSt := List Bool × List (List Bool)

def rowT (t : Nat) (s : BSt) (l : List Int) : List Bool × Bool := rowS t s.1 s.2 l (List.replicate t false)
theorem rowT_len (t : Nat) (s : BSt) (l : List Int) : (rowT t s l).1.length = t := by unfold rowT; rw [rowS_len]; simp

def bNo (t : Nat) (s : BSt) (p : Prd) : List Bool := if (rowT t s p.Right).2 then s.1.set p.Left.toNat true else s.1
def bFi (t : Nat) (s : BSt) (p : Prd) (k : Nat) : List (List Bool) := s.2.set p.Left.toNat (orP (s.2.getD p.Left.toNat []) (rowT t s p.Right).1 k)
def bStep (t : Nat) (s : BSt) (p : Prd) : BSt := (bNo t s p, bFi t s p t)
def bRound (t : Nat) (ps : List Prd) (s : BSt) : BSt := ps.foldl (bStep t) s
def bInit (t n : Nat) : BSt := (List.replicate n false, List.replicate n (List.replicate t false))
def bFix (g : Gram) : BSt := it (bRound g.Terms.length g.Prods) (g.Nons.length + g.Nons.length * g.Terms.length + 1) (bInit g.Terms.length g.Nons.length)

structure BInv (t n : Nat) (s : BSt) : Prop where
  no : s.1.length = n
  fi : s.2.length = n
  rows : ∀ r ∈ s.2, r.length = t

theorem BInv.row {t n : Nat} {s : BSt} (h : BInv t n s) {i : Nat} (hi : i < n) : (s.2.getD i []).length = t := by
  have hl : i < s.2.length := by rw [h.fi]; exact hi
  rw [List.getD_eq_getElem?_getD, List.getElem?_eq_getElem hl]
  exact h.rows _ (List.getElem_mem hl)

theorem bInit_inv (t n : Nat) : BInv t n (bInit t n) := ⟨by simp [bInit], by simp [bInit], fun r hr => by
  simp only [bInit, List.mem_replicate] at hr
  rw [hr.2]; simp⟩

theorem bNo_len (t : Nat) (s : BSt) (p : Prd) : (bNo t s p).length = s.1.length := by unfold bNo; split <;> simp

theorem bFi_rows {t n : Nat} {s : BSt} (h : BInv t n s) (p : Prd) (hp : p.Left.toNat < n) (k : Nat) : ∀ r ∈ bFi t s p k, r.length = t := by
  intro r hr
  unfold bFi at hr
  rcases List.mem_or_eq_of_mem_set hr with h2 | h2
  · exact h.rows r h2
  · rw [h2, orP_len]; exact h.row hp

theorem BInv.part {t n : Nat} {s : BSt} (h : BInv t n s) (p : Prd) (hp : p.Left.toNat < n) (k : Nat) : BInv t n (bNo t s p, bFi t s p k) :=
  ⟨by rw [bNo_len]; exact h.no, by simp only [bFi, List.length_set]; exact h.fi, bFi_rows h p hp k⟩

theorem bStep_inv {t n : Nat} {s : BSt} (h : BInv t n s) (p : Prd) (hp : p.Left.toNat < n) : BInv t n (bStep t s p) := h.part p hp t

theorem bRound_inv {t n : Nat} : ∀ (ps : List Prd) (_ : ∀ p ∈ ps, p.Left.toNat < n) (s : BSt), BInv t n s → BInv t n (bRound t ps s)
  | [], _, _, h => h
  | p :: ps, hp, s, h => bRound_inv ps (fun q hq => hp q (List.mem_cons_of_mem _ hq)) (bStep t s p) (bStep_inv h p (hp p (List.mem_cons_self ..)))

/-! ### how much is known -/
def cntF (l : List (List Bool)) : Nat := (l.map cnt).sum
def cntS (s : BSt) : Nat := cnt s.1 + cntF s.2

theorem cntF_set : ∀ (l : List (List Bool)) (i : Nat) (r : List Bool) (h : i < l.length), cntF (l.set i r) + cnt l[i] = cntF l + cnt r
  | [], i, _, h => by simp at h
  | x :: l, 0, r, _ => by simp [cntF]; omega
  | x :: l, i + 1, r, h => by
    have := cntF_set l i r (by simpa using h)
    simp only [cntF, List.set_cons_succ, List.map_cons, List.sum_cons, List.getElem_cons_succ] at this ⊢
    omega

theorem cntF_le : ∀ (l : List (List Bool)) (t : Nat) (_ : ∀ r ∈ l, r.length = t), cntF l ≤ l.length * t
  | [], _, _ => by simp [cntF]
  | x :: l, t, h => by
    have h1 := cntF_le l t (fun r hr => h r (List.mem_cons_of_mem _ hr))
    have h2 := cnt_le x
    rw [h x (List.mem_cons_self ..)] at h2
    simp only [cntF, List.map_cons, List.sum_cons, List.length_cons, Nat.succ_mul] at h1 ⊢
    omega

theorem cntS_le {t n : Nat} {s : BSt} (h : BInv t n s) : cntS s ≤ n + n * t := by
  have h1 := cnt_le s.1
  have h2 := cntF_le s.2 t h.rows
  rw [h.no] at h1
  rw [h.fi] at h2
  unfold cntS; omega

theorem orP_grow {r te : List Bool} {k : Nat} (hk : k < r.length) : orP r te (k + 1) = orP r te k ∨ cnt (orP r te (k + 1)) = cnt (orP r te k) + 1 := by
  have h1 := orP_succ (te := te) hk rfl
  rw [← h1]
  cases hb : r[k] with
  | true =>
    refine .inl ?_
    rw [Bool.true_or]
    exact set_true (by rw [orP_at hk, hb]; simp)
  | false =>
    rw [Bool.false_or]
    cases te.getD k false with
    | true => exact .inr (cnt_set (by rw [orP_at hk, hb]))
    | false =>
      refine .inl ?_
      apply List.ext_getElem?
      intro i
      rw [List.getElem?_set]
      split
      · rename_i e
        subst e
        rw [orP_len, if_pos hk, orP_at hk, hb]
      · rfl

theorem orP_mono (r te : List Bool) : ∀ k, k ≤ r.length → orP r te k = r ∨ cnt r < cnt (orP r te k)
  | 0, _ => .inl (orP_zero r te)
  | k + 1, h => by
    rcases orP_mono r te k (by omega) with h1 | h1 <;> rcases orP_grow (te := te) (show k < r.length by omega) with h2 | h2
    · exact .inl (by rw [h2, h1])
    · exact .inr (by rw [h2, h1]; omega)
    · exact .inr (by rw [h2]; exact h1)
    · exact .inr (by omega)

theorem set_self {α : Type} {l : List α} {i : Nat} {x : α} (h : l[i]? = some x) : l.set i x = l := by
  apply List.ext_getElem?
  intro j
  rw [List.getElem?_set]
  split
  · rename_i e; subst e
    split
    · exact h.symm
    · rename_i h2; rw [List.getElem?_eq_none (by omega)] at h; cases h
  · rfl

theorem bPart_cnt {t n : Nat} {s : BSt} (h : BInv t n s) (p : Prd) (hp : p.Left.toNat < n) {k : Nat} (hk : k ≤ t) : (bNo t s p, bFi t s p k) = s ∨ cntS s < cntS (bNo t s p, bFi t s p k) := by
  have hl : p.Left.toNat < s.2.length := by rw [h.fi]; exact hp
  have hrow : s.2.getD p.Left.toNat [] = s.2[p.Left.toNat] := by rw [List.getD_eq_getElem?_getD, List.getElem?_eq_getElem hl]; rfl
  have hn : bNo t s p = s.1 ∨ cnt s.1 < cnt (bNo t s p) := by
    unfold bNo
    split
    · by_cases hb : s.1[p.Left.toNat]? = some false
      · exact .inr (by rw [cnt_set hb]; omega)
      · exact .inl (set_true hb)
    · exact .inl rfl
  have hf : bFi t s p k = s.2 ∨ cntF s.2 < cntF (bFi t s p k) := by
    have h1 := orP_mono (s.2.getD p.Left.toNat []) (rowT t s p.Right).1 k (by rw [h.row hp]; exact hk)
    have h2 := cntF_set s.2 p.Left.toNat (orP (s.2.getD p.Left.toNat []) (rowT t s p.Right).1 k) hl
    unfold bFi
    rcases h1 with h1 | h1
    · refine .inl ?_
      rw [h1]
      exact set_self (by rw [List.getElem?_eq_getElem hl, hrow])
    · refine .inr ?_
      rw [hrow] at h1 h2 ⊢
      omega
  unfold cntS
  rcases hn with hn | hn <;> rcases hf with hf | hf
  · exact .inl (by rw [hn, hf])
  · refine .inr ?_
    simp only [hn]
    omega
  · refine .inr ?_
    simp only [hf]
    omega
  · refine .inr ?_
    simp only
    omega

theorem bRound_cnt {t n : Nat} : ∀ (ps : List Prd) (_ : ∀ p ∈ ps, p.Left.toNat < n) (s : BSt), BInv t n s → bRound t ps s = s ∨ cntS s < cntS (bRound t ps s)
  | [], _, _, _ => .inl rfl
  | p :: ps, hp, s, h => by
    have h1 : bStep t s p = s ∨ cntS s < cntS (bStep t s p) := bPart_cnt h p (hp p (List.mem_cons_self ..)) (Nat.le_refl t)
    have h2 := bRound_cnt ps (fun q hq => hp q (List.mem_cons_of_mem _ hq)) (bStep t s p) (bStep_inv h p (hp p (List.mem_cons_self ..)))
    show bRound t ps (bStep t s p) = s ∨ _ < cntS (bRound t ps (bStep t s p))
    rcases h1 with h1 | h1
    · rw [h1] at h2 ⊢; exact h2
    · rcases h2 with h2 | h2
      · exact .inr (by rw [h2]; exact h1)
      · exact .inr (by omega)

theorem bFix_unique {g : Gram} (hp : ∀ p ∈ g.Prods, p.Left.toNat < g.Nons.length) {m : Nat}
    (hm : bRound g.Terms.length g.Prods (it (bRound g.Terms.length g.Prods) m (bInit g.Terms.length g.Nons.length)) = it (bRound g.Terms.length g.Prods) m (bInit g.Terms.length g.Nons.length)) :
    it (bRound g.Terms.length g.Prods) m (bInit g.Terms.length g.Nons.length) = bFix g :=
  it_unique (I := BInv g.Terms.length g.Nons.length) (μ := cntS) (N := g.Nons.length + g.Nons.length * g.Terms.length) (fun x hx => bRound_inv _ hp x hx)
    (fun x hx hne => by rcases bRound_cnt g.Prods hp x hx with h | h; exact absurd h hne; exact h) (fun x hx => cntS_le hx) (bInit_inv _ _) (Nat.lt_succ_self _) hm

theorem bFix_fix {g : Gram} (hp : ∀ p ∈ g.Prods, p.Left.toNat < g.Nons.length) : bRound g.Terms.length g.Prods (bFix g) = bFix g :=
  it_stable (I := BInv g.Terms.length g.Nons.length) (μ := cntS) (N := g.Nons.length + g.Nons.length * g.Terms.length) (fun x hx => bRound_inv _ hp x hx)
    (fun x hx hne => by rcases bRound_cnt g.Prods hp x hx with h | h; exact absurd h hne; exact h) (fun x hx => cntS_le hx) (bInit_inv _ _) (Nat.lt_succ_self _)

theorem bFix_inv {g : Gram} (hp : ∀ p ∈ g.Prods, p.Left.toNat < g.Nons.length) : BInv g.Terms.length g.Nons.length (bFix g) :=
  it_inv (I := BInv g.Terms.length g.Nons.length) (fun x hx => bRound_inv _ hp x hx) (bInit_inv _ _) _

/-! ### one production, term by term -/
section
variable {t n : Nat} {s : BSt} (h : BInv t n s) (p : Prd) (hp : p.Left.toNat < n)
include h hp
theorem bFi_get (k : Nat) : (bFi t s p k)[p.Left.toNat]? = some (orP (s.2.getD p.Left.toNat []) (rowT t s p.Right).1 k) := by
  unfold bFi
  rw [List.getElem?_set_self (by rw [h.fi]; exact hp)]

theorem bFi_next_t {j : Nat} (hj : j < t) (hte : (rowT t s p.Right).1.getD j false = true) :
    (bFi t s p j).set p.Left.toNat ((orP (s.2.getD p.Left.toNat []) (rowT t s p.Right).1 j).set j true) = bFi t s p (j + 1) := by
  unfold bFi
  rw [List.set_set, orP_succ (by rw [h.row hp]; exact hj) (by rw [hte, Bool.or_true])]

theorem bFi_next_f {j : Nat} (hj : j < t) (hte : (rowT t s p.Right).1.getD j false = false ∨ (s.2.getD p.Left.toNat []).getD j false = true) : bFi t s p (j + 1) = bFi t s p j := by
  have hjl : j < (s.2.getD p.Left.toNat []).length := by rw [h.row hp]; exact hj
  have hg : (s.2.getD p.Left.toNat []).getD j false = (s.2.getD p.Left.toNat [])[j] := by rw [List.getD_eq_getElem?_getD, List.getElem?_eq_getElem hjl]; rfl
  unfold bFi
  congr 1
  rw [← orP_succ hjl rfl]
  apply set_self
  rw [orP_at hjl]
  rw [hg] at hte
  congr 1
  rcases hte with h1 | h1
  · rw [h1, Bool.or_false]
  · rw [h1, Bool.true_or]

theorem bFi_next_n {j : Nat} (hj : j < t) (hte : (rowT t s p.Right).1.getD j false = true) (hr : (s.2.getD p.Left.toNat []).getD j false = false) (no : List Bool) :
    cntS (no, bFi t s p (j + 1)) = cntS (no, bFi t s p j) + 1 := by
  have hjl : j < (s.2.getD p.Left.toNat []).length := by rw [h.row hp]; exact hj
  have hg : (s.2.getD p.Left.toNat []).getD j false = (s.2.getD p.Left.toNat [])[j] := by rw [List.getD_eq_getElem?_getD, List.getElem?_eq_getElem hjl]; rfl
  rw [← bFi_next_t h p hp hj hte]
  have hl : p.Left.toNat < (bFi t s p j).length := by unfold bFi; rw [List.length_set, h.fi]; exact hp
  have h1 := cntF_set (bFi t s p j) p.Left.toNat ((orP (s.2.getD p.Left.toNat []) (rowT t s p.Right).1 j).set j true) hl
  have h2 : (bFi t s p j)[p.Left.toNat] = orP (s.2.getD p.Left.toNat []) (rowT t s p.Right).1 j := by
    have := bFi_get h p hp j
    rw [List.getElem?_eq_getElem hl] at this
    exact Option.some.inj this
  have h3 : cnt ((orP (s.2.getD p.Left.toNat []) (rowT t s p.Right).1 j).set j true) = cnt (orP (s.2.getD p.Left.toNat []) (rowT t s p.Right).1 j) + 1 :=
    cnt_set (by rw [orP_at hjl, ← hg, hr])
  rw [h2] at h1
  unfold cntS
  simp only
  omega

theorem bNo_new (hnt : (rowT t s p.Right).2 = true) (hb : s.1.getD p.Left.toNat false = false) : cntS (bNo t s p, s.2) = cntS s + 1 := by
  have hl : p.Left.toNat < s.1.length := by rw [h.no]; exact hp
  have : cnt (s.1.set p.Left.toNat true) = cnt s.1 + 1 := cnt_set (by
    rw [List.getElem?_eq_getElem hl]
    rw [List.getD_eq_getElem?_getD, List.getElem?_eq_getElem hl] at hb
    rw [← hb]; rfl)
  unfold bNo cntS
  rw [if_pos hnt]
  simp only
  omega

theorem bNo_old (hb : (rowT t s p.Right).2 = false ∨ s.1.getD p.Left.toNat false = true) : bNo t s p = s.1 := by
  have hl : p.Left.toNat < s.1.length := by rw [h.no]; exact hp
  unfold bNo
  rcases hb with hb | hb
  · rw [hb]; rfl
  · split
    · apply set_self
      rw [List.getD_eq_getElem?_getD, List.getElem?_eq_getElem hl] at hb
      rw [List.getElem?_eq_getElem hl, ← hb]; rfl
    · rfl

theorem bFi_zero : bFi t s p 0 = s.2 := by
  have hl : p.Left.toNat < s.2.length := by rw [h.fi]; exact hp
  unfold bFi
  rw [orP_zero]
  exact set_self (by rw [List.getD_eq_getElem?_getD, List.getElem?_eq_getElem hl]; rfl)
end

theorem bRound_take {t : Nat} {ps : List Prd} {i : Nat} (hlt : i < ps.length) (s : BSt) : bRound t (ps.take (i + 1)) s = bStep t (bRound t (ps.take i) s) ps[i] := by
  rw [List.take_succ_eq_append_getElem hlt, bRound, List.foldl_append]; rfl

end Go.Proofs.YtcnpjhaedjncdaaGreatDoor

namespace Go.Proofs.YtcnpjhaedjncdaaGreatDoor
set_option linter.all false
open Go.Proofs.YtcnpjhaedjncdaaGreatDoor.E
attribute [local irreducible] EVX EVO EVL EV1 NEV
set_option maxRecDepth 10000

/-- What is known, read: the record in its block, its names' two lists. -/
def knR (bk : Nat) (gr : List Value) (A0 : Option Addr) (t c0 : Nat) (vu : Value) (An : Option Addr) (n cn : Nat) (Af : Option Addr) (cf : Nat) (s : BSt) : Rd :=
  (rblk bk 126 (.slice A0 t c0 :: (gr ++ [vu, .slice An n cn, .slice Af n cf]))).and (((kslice 1 kbool).rd [.slice An n cn] s.1).and ((kslice 24 (kslice 1 kbool)).rd [.slice Af n cf] s.2))

theorem row_w (bk : Nat) (gr : List Value) (hgr : gr.length = 4) (A0 : Option Addr) (t c0 : Nat) (vu : Value) (An : Option Addr) (n cn : Nat) (Af : Option Addr) (cf : Nat) (s : BSt) (hs : BInv t n s)
    (ht : t * 16 ≤ 140737488355328) (hn : n * 16 ≤ 140737488355328) (Al : Option Addr) (m cl : Nat) (xs : List Int) (hm : m = xs.length) (hx : ∀ x ∈ xs, 0 ≤ x ∧ x < (t : Int) + n) :
    Trip Tryz.prog 86 [.pointer (some ⟨bk, 0, none⟩), .slice Al m cl] ((knR bk gr A0 t c0 vu An n cn Af cf s).and ((kslice 8 kint).rd [.slice Al m cl] xs)) []
      (fun v V => ∃ bu, v = .tuple #[.slice (some ⟨bu, 0, none⟩) t t, .bool (rowT t s xs).2] ∧ V = [osl 4 1 (.slice (some ⟨bu, 0, none⟩) t t) t ((rowT t s xs).1.map Value.bool)]) := by
  subst hm
  refine trip Tryz.tabOk Tryz.func86 rfl rfl rfl rfl ?_
  rintro w SM ⟨⟨⟨hk, hk'⟩, ⟨An', cn', en, hno⟩, Af', cf', ef, hfi⟩, Al', cl', el, hl⟩
  obtain ⟨lno, lfi, lrows⟩ := hs
  obtain ⟨no, fi⟩ := s
  simp only at lno lfi lrows hno hfi
  cases el
  simp only [List.cons.injEq, Value.slice.injEq, and_true] at en ef
  obtain ⟨rfl, _, rfl⟩ := en
  obtain ⟨rfl, _, rfl⟩ := ef
  obtain ⟨g1, g2, g3, g4, rfl⟩ : ∃ g1 g2 g3 g4, gr = [g1, g2, g3, g4] := by
    match gr, hgr with
    | [g1, g2, g3, g4], _ => exact ⟨g1, g2, g3, g4, rfl⟩
  have hll := hl.2.1
  repeat' (first | refine e_nil ?_ | ((refine e_op ?_); (refine o_n (peval_sound rfl) rfl ?_)) | refine s_seq ?_ | refine s_region ?_)
  refine e_op (o_n (n_load_ro rfl rfl hk (loads_blk hk' rfl)) rfl ?_)
  repeat' (first | refine e_nil ?_ | ((refine e_op ?_); (refine o_n (peval_sound rfl) rfl ?_)) | refine s_seq ?_ | refine s_region ?_)
  refine e_op (o_make rfl rfl rfl rfl t rfl rfl (by omega) (by omega) rfl (fun bu => ?_))
  repeat' (first | refine e_nil ?_ | ((refine e_op ?_); (refine o_n (peval_sound rfl) rfl ?_)) | refine s_seq ?_ | refine s_region ?_ | refine s_block ?_)
  refine s_loopK (ι := {x : Nat × List Bool // x.1 ≤ xs.length ∧ x.2.length = t ∧ rowT t (no, fi) xs = rowS t no fi (xs.drop x.1) x.2}) [0, 1, 6, 7, 20, 21] rfl ⟨(0, List.replicate t false), by simp, by simp, rfl⟩
    (fun x => [(22, .int .i64 x.1.1)]) (fun x => [osl 4 1 (.slice (some ⟨bu, 0, none⟩) t t) t (x.1.2.map Value.bool)]) (fun x => xs.length - x.1.1) ?_ ?_ ?_
  · repeat' (first | exact Sub.nil _ | refine Sub.cons rfl ?_)
  · rw [show List.replicate t (Value.bool false) = (List.replicate t false).map Value.bool from by simp]
    repeat' (first | exact Ent.nil _ | refine Ent.tak tk ?_)
  rintro ⟨⟨i, acc⟩, hi, hacc, hrow⟩
  simp only at hi hacc hrow ⊢
  repeat' (first | refine e_nil ?_ | ((refine e_op ?_); (refine o_n (peval_sound rfl) rfl ?_)) | refine s_seq ?_ | refine s_region ?_)
  refine s_cond rfl (fun h => ?_) (fun h => ?_)
  · have hlt : i < xs.length := by have := of_decide_eq_true h; omega
    clear h
    obtain ⟨b, o, es, rfl, hb, ⟨rfl, hsI⟩, hc⟩ := hl.2.2 i hlt
    obtain ⟨hx0, hx1⟩ := hx _ (List.getElem_mem hlt)
    rw [List.drop_eq_getElem_cons hlt, rowS] at hrow
    repeat' (first | refine s_seq ?_ | refine s_region ?_ | refine s_block ?_ | refine s_skip ?_)
    refine e_op (o_n (n_index rfl rfl rfl rfl i rfl hlt) rfl ?_)
    refine e_op (o_n (n_load_ro rfl rfl hb (loads_one rfl (hc 0 _ rfl))) rfl ?_)
    repeat' (first | refine e_nil ?_ | ((refine e_op ?_); (refine o_n (peval_sound rfl) rfl ?_)) | refine s_seq ?_ | refine s_region ?_)
    refine s_cond rfl (fun h => ?_) (fun h => ?_)
    · have hst := of_decide_eq_true h
      clear h
      rw [if_pos hst] at hrow
      have hlt2 : xs[i].toNat < acc.length := by omega
      repeat' (first | ((refine e_op ?_); (refine o_n (peval_sound rfl) rfl ?_)) | refine s_seq ?_ | refine s_region ?_)
      refine e_op (o_n (n_index rfl rfl rfl rfl xs[i].toNat (by omega) (by omega)) rfl ?_)
      refine e_op (o_store_osl (vs := [.bool true]) rfl rfl rfl rfl rfl rfl (by simp; omega) .z ?_)
      repeat' (first | refine e_nil ?_ | ((refine e_op ?_); (refine o_n (peval_sound rfl) rfl ?_)) | refine s_seq ?_ | refine s_region ?_)
      refine s_ret ⟨_, _, res2 rfl rfl rfl, ⟨bu, ?_, rfl⟩, ?_⟩
      · rw [hrow]
      · rw [hrow]
        simp only [setMany, Nat.zero_add, Nat.mul_one, List.map_set]
        repeat' (first | exact Ent.nil _ | refine Ent.tak tk ?_)
    · have hst := of_decide_eq_false h
      clear h
      rw [if_neg hst] at hrow
      have hj : (xs[i] - (t : Int)).toNat < n := by omega
      generalize hjj : (xs[i] - (t : Int)).toNat = j at *
      have hw : IntKind.i64.wrap (xs[i] - (t : Int)) = (j : Int) := by rw [wrap_i64] <;> omega
      obtain ⟨b2, o2, es2, rfl, hb2, ⟨Ar, cr, rfl, hrow2⟩, hc2⟩ := hfi.2.2 j (by omega)
      have hlr : fi[j].length = t := lrows _ (List.getElem_mem _)
      have hgd : fi.getD j [] = fi[j] := by rw [List.getD_eq_getElem?_getD, List.getElem?_eq_getElem]; rfl
      rw [hgd] at hrow
      repeat' (first | ((refine e_op ?_); (refine o_n (peval_sound rfl) rfl ?_)) | refine s_seq ?_ | refine s_region ?_ | refine s_skip ?_)
      refine e_op (o_n (n_load_ro rfl rfl hk (loads_blk hk' rfl)) rfl ?_)
      repeat' (((refine e_op ?_); (refine o_n (peval_sound rfl) rfl ?_)))
      refine e_op (o_n (n_index rfl rfl rfl rfl j hw (by omega)) rfl ?_)
      refine e_op (o_n (n_load_ro rfl rfl hb2 (loads_one rfl (hc2 0 _ rfl))) rfl ?_)
      repeat' (first | refine e_nil ?_ | ((refine e_op ?_); (refine o_n (peval_sound rfl) rfl ?_)) | refine s_block ?_)
      refine s_loopK (ι := {k : Nat // k ≤ t}) [0, 1, 6, 7, 20, 21, 22, 9, 41, 42] rfl ⟨0, by omega⟩
        (fun x => [(43, .int .i64 x.1)]) (fun x => [osl 4 1 (.slice (some ⟨bu, 0, none⟩) t t) t ((orP acc fi[j] x.1).map Value.bool)]) (fun x => t - x.1) ?_ ?_ ?_
      · repeat' (first | exact Sub.nil _ | refine Sub.cons rfl ?_)
      · rw [orP_zero]; repeat' (first | exact Ent.nil _ | refine Ent.tak tk ?_)
      rintro ⟨k, hk2⟩
      simp only at hk2 ⊢
      repeat' (first | refine e_nil ?_ | ((refine e_op ?_); (refine o_n (peval_sound rfl) rfl ?_)) | refine s_seq ?_ | refine s_region ?_)
      refine s_cond rfl (fun h => ?_) (fun h => ?_)
      · have hkt : k < t := by have := of_decide_eq_true h; omega
        clear h
        obtain ⟨b3, o3, es3, e3, hb3, e4, hc3⟩ := hrow2.2.2 k (by omega)
        cases e4
        cases e3
        have hka : k < (orP acc fi[j] k).length := by rw [orP_len]; omega
        have hval : (orP acc fi[j] k)[k] = acc[k] := by
          have := orP_at (r := acc) (te := fi[j]) (k := k) (by omega)
          rw [List.getElem?_eq_getElem hka] at this
          exact Option.some.inj this
        repeat' (first | ((refine e_op ?_); (refine o_n (peval_sound rfl) rfl ?_)) | refine s_seq ?_ | refine s_region ?_ | refine s_block ?_ | refine s_skip ?_)
        refine e_op (o_n (n_index rfl rfl rfl rfl k rfl (by omega)) rfl ?_)
        refine e_op (o_n (n_load_ro rfl rfl hb3 (loads_one rfl (hc3 0 _ rfl))) rfl ?_)
        repeat' (first | refine e_nil ?_ | ((refine e_op ?_); (refine o_n (peval_sound rfl) rfl ?_)) | refine s_region ?_)
        refine e_op (o_n (n_index rfl rfl rfl rfl k rfl (by omega)) rfl ?_)
        refine e_op (o_n (n_load_osl (v := .bool acc[k]) rfl rfl .z (by simp [loadL, aggB, hka, hval])) rfl ?_)
        repeat' (first | ((first | refine e_op ?_ | refine e_yes rfl ?_); (refine o_n (peval_sound rfl) rfl ?_)) | refine e_noU rfl rfl rfl ?_ | ((fail_if_success (refine e_dec true (by exact rfl) ?_)); (fail_if_success (refine e_dec false (by exact rfl) ?_)); refine e_part rfl rfl (fun h => ?_) (fun h => ?_)))
        all_goals refine e_op (o_n (n_index rfl rfl rfl rfl k rfl (by omega)) rfl ?_)
        · refine e_op (o_store_osl (vs := [.bool true]) rfl rfl rfl rfl rfl rfl (by simp; omega) .z ?_)
          repeat' (first | refine e_nil ?_ | ((refine e_op ?_); (refine o_n (peval_sound rfl) rfl ?_)) | refine s_region ?_ | refine s_end ?_)
          refine s_back ⟨⟨k + 1, by omega⟩, by simp only; omega, ?_, ?_⟩
          · repeat' (first | exact Sub.nil _ | refine Sub.cons rfl ?_ | refine Sub.consE rfl ?_ ?_)
            exact inc (i := k) (by omega)
          · simp only [setMany, Nat.zero_add, Nat.mul_one]
            rw [← orP_succ (v := true) (show k < acc.length by omega) (by rw [h]; rfl), List.map_set]
            repeat' (first | exact Ent.nil _ | refine Ent.tak tk ?_)
        · refine e_op (o_store_osl (vs := [.bool fi[j][k]]) rfl rfl rfl rfl rfl rfl (by simp; omega) .z ?_)
          repeat' (first | refine e_nil ?_ | ((refine e_op ?_); (refine o_n (peval_sound rfl) rfl ?_)) | refine s_region ?_ | refine s_end ?_)
          refine s_back ⟨⟨k + 1, by omega⟩, by simp only; omega, ?_, ?_⟩
          · repeat' (first | exact Sub.nil _ | refine Sub.cons rfl ?_ | refine Sub.consE rfl ?_ ?_)
            exact inc (i := k) (by omega)
          · simp only [setMany, Nat.zero_add, Nat.mul_one]
            rw [← orP_succ (v := fi[j][k]) (show k < acc.length by omega) (by rw [h, List.getD_eq_getElem?_getD, List.getElem?_eq_getElem]; rfl), List.map_set]
            repeat' (first | exact Ent.nil _ | refine Ent.tak tk ?_)
      have hge : t = k := by have := of_decide_eq_false h; omega
      subst hge
      clear h
      have hor : orP acc fi[j] t = orL acc fi[j] := by unfold orL; rw [hacc]
      rw [hor]
      obtain ⟨b4, o4, es4, e4, hb4, e5, hc4⟩ := hno.2.2 j (by omega)
      cases e5
      cases e4
      have hgn : no.getD j false = no[j] := by rw [List.getD_eq_getElem?_getD, List.getElem?_eq_getElem]; rfl
      rw [hgn] at hrow
      repeat' (first | ((refine e_op ?_); (refine o_n (peval_sound rfl) rfl ?_)) | refine s_seq ?_ | refine s_region ?_ | refine s_exit ?_ | refine x_hit ?_ | refine x_code ?_ | refine x_back ?_)
      refine e_op (o_n (n_load_ro rfl rfl hk (loads_blk hk' rfl)) rfl ?_)
      repeat' (((refine e_op ?_); (refine o_n (peval_sound rfl) rfl ?_)))
      refine e_op (o_n (n_index rfl rfl rfl rfl j hw (by omega)) rfl ?_)
      refine e_op (o_n (n_load_ro rfl rfl hb4 (loads_one rfl (hc4 0 _ rfl))) rfl ?_)
      repeat' (first | refine e_nil ?_ | ((refine e_op ?_); (refine o_n (peval_sound rfl) rfl ?_)))
      refine s_cond rfl (fun h => ?_) (fun h => ?_)
      · repeat' (first | refine e_nil ?_ | ((refine e_op ?_); (refine o_n (peval_sound rfl) rfl ?_)) | refine s_seq ?_ | refine s_region ?_)
        rw [Bool.not_eq_true'] at h
        rw [h, if_neg (by simp)] at hrow
        refine s_ret ⟨_, _, res2 rfl rfl rfl, ⟨bu, ?_, rfl⟩, ?_⟩
        · rw [hrow]
        · rw [hrow]
          repeat' (first | exact Ent.nil _ | refine Ent.tak tk ?_)
      · repeat' (first | refine e_nil ?_ | ((refine e_op ?_); (refine o_n (peval_sound rfl) rfl ?_)) | refine s_region ?_ | refine s_end ?_ | refine s_skip ?_)
        rw [Bool.not_eq_false'] at h
        rw [h, if_pos rfl] at hrow
        refine s_back ⟨⟨(i + 1, orL acc fi[j]), by simp only; omega, by simp only [orL_len]; exact hacc, hrow⟩, by simp only; omega, ?_, by repeat' (first | exact Ent.nil _ | refine Ent.tak tk ?_)⟩
        repeat' (first | exact Sub.nil _ | refine Sub.cons rfl ?_ | refine Sub.consE rfl ?_ ?_)
        exact inc (i := i) (by omega)
  · have hge : i = xs.length := by have := of_decide_eq_false h; omega
    subst hge
    clear h
    rw [List.drop_length, rowS] at hrow
    repeat' (first | refine e_nil ?_ | ((refine e_op ?_); (refine o_n (peval_sound rfl) rfl ?_)) | refine s_seq ?_ | refine s_region ?_ | refine s_exit ?_ | refine x_hit ?_ | refine x_code ?_ | refine x_back ?_)
    refine s_ret ⟨_, _, res2 rfl rfl rfl, ⟨bu, ?_, rfl⟩, ?_⟩
    · rw [hrow]
    · rw [hrow]
      repeat' (first | exact Ent.nil _ | refine Ent.tak tk ?_)

end Go.Proofs.YtcnpjhaedjncdaaGreatDoor

namespace Go.Proofs.YtcnpjhaedjncdaaGreatDoor
set_option linter.all false
open Go.Proofs.YtcnpjhaedjncdaaGreatDoor.E
attribute [local irreducible] EVX EVO EVL EV1 NEV
set_option maxRecDepth 10000
set_option maxHeartbeats 1000000

structure BsOk (t n : Nat) (ps : List Prd) : Prop where
  left : ∀ i (h : i < ps.length), 0 ≤ ps[i].Left ∧ ps[i].Left < n
  right : ∀ i (h : i < ps.length), ∀ s ∈ ps[i].Right, 0 ≤ s ∧ s < (t : Int) + n

theorem BsOk.nat {t n : Nat} {ps : List Prd} (h : BsOk t n ps) : ∀ p ∈ ps, p.Left.toNat < n := by
  intro p hp
  obtain ⟨i, hi, rfl⟩ := List.getElem_of_mem hp
  have := h.left i hi
  omega

theorem begins_w (bk : Nat) (gcs : List Value) (g : Gram) (vu : Value) (bn : Nat) (n cn : Nat) (bf : Nat) (cf : Nat) (s : BSt) (hn : n = g.Nons.length) (hs : BInv g.Terms.length n s) (hok : BsOk g.Terms.length n g.Prods) (hn48 : n ≤ 1000000) (ht48 : g.Terms.length ≤ 1000000) :
    Trip Tryz.prog 102 [.pointer (some ⟨bk, 0, none⟩)] (kGram.rd gcs g)
      [blk bk 126 (gcs ++ [vu, .slice (some ⟨bn, 0, none⟩) n cn, .slice (some ⟨bf, 0, none⟩) n cf]), osl 4 1 (.slice (some ⟨bn, 0, none⟩) n cn) n (s.1.map Value.bool), orow Value.bool 39 4 (.slice (some ⟨bf, 0, none⟩) n cf) n s.2]
      (fun v V => v = .bool (decide (bRound g.Terms.length g.Prods s ≠ s)) ∧
        V = [blk bk 126 (gcs ++ [vu, .slice (some ⟨bn, 0, none⟩) n cn, .slice (some ⟨bf, 0, none⟩) n cf]), osl 4 1 (.slice (some ⟨bn, 0, none⟩) n cn) n ((bRound g.Terms.length g.Prods s).1.map Value.bool), orow Value.bool 39 4 (.slice (some ⟨bf, 0, none⟩) n cf) n (bRound g.Terms.length g.Prods s).2]) := by
  refine trip Tryz.tabOk Tryz.func102 rfl rfl rfl rfl ?_
  intro w SM hR
  obtain ⟨A0, A1, A2, A3, A4, c0, c1, c2, c3, c4, rfl, hG⟩ := kGram_open hR
  have hT := hG.terms.2.1
  have hN := hG.nons.2.1
  have hP := hG.prods.2.1
  have hnat := hok.nat
  have hinv : ∀ i, BInv g.Terms.length n (bRound g.Terms.length (g.Prods.take i) s) := fun i => bRound_inv _ (fun p hp => hnat p (List.mem_of_mem_take hp)) s hs
  have hmono : ∀ i, cntS s ≤ cntS (bRound g.Terms.length (g.Prods.take i) s) := fun i => by
    rcases bRound_cnt (g.Prods.take i) (fun p hp => hnat p (List.mem_of_mem_take hp)) s hs with h | h
    · rw [h]; exact Nat.le_refl _
    · omega
  simp only [List.cons_append, List.nil_append]
  repeat' (first | refine e_nil ?_ | ((refine e_op ?_); (first | refine o_n (peval_sound rfl) rfl ?_ | refine o_n (nl rfl rfl tc rfl) rfl ?_)) | refine s_seq ?_ | refine s_region ?_ | refine s_block ?_)
  refine s_loopK (ι := {i : Nat // i ≤ g.Prods.length}) [0, 14, 15] rfl ⟨0, by omega⟩
    (fun x => [(16, .int .i64 x.1), (3, .bool (decide (cntS s < cntS (bRound g.Terms.length (g.Prods.take x.1) s))))])
    (fun x => [blk bk 126 [.slice A0 g.Terms.length c0, .slice A1 g.Levels.length c1, .slice A2 g.Pats.length c2, .slice A3 g.Nons.length c3, .slice A4 g.Prods.length c4, vu, .slice (some ⟨bn, 0, none⟩) n cn, .slice (some ⟨bf, 0, none⟩) n cf],
      osl 4 1 (.slice (some ⟨bn, 0, none⟩) n cn) n ((bRound g.Terms.length (g.Prods.take x.1) s).1.map Value.bool), orow Value.bool 39 4 (.slice (some ⟨bf, 0, none⟩) n cf) n (bRound g.Terms.length (g.Prods.take x.1) s).2])
    (fun x => g.Prods.length - x.1) ?_ (Ent.refl _) ?_
  · repeat' (first | exact Sub.nil _ | refine Sub.cons rfl ?_ | refine Sub.consE rfl ?_ ?_)
    simp [bRound]
  rintro ⟨i, hi⟩
  simp only at hi ⊢
  repeat' (first | refine e_nil ?_ | ((refine e_op ?_); (refine o_n (peval_sound rfl) rfl ?_)) | refine s_seq ?_ | refine s_region ?_)
  refine s_cond rfl (fun h => ?_) (fun h => ?_)
  · have hlt : i < g.Prods.length := by have := of_decide_eq_true h; omega
    clear h
    obtain ⟨b, o, es, rfl, hb, he, hc⟩ := hG.prods.2.2 i hlt
    obtain ⟨Ar, cr, rfl, hl, hlN, hlK, hr⟩ := kPrd_open he
    have hrl := hr.2.1
    have hsi := hinv i
    have hmi := hmono i
    have hstep := bRound_take (t := g.Terms.length) hlt s
    generalize hcur : bRound g.Terms.length (g.Prods.take i) s = cur at *
    obtain ⟨hl0, hl1⟩ := hok.left i hlt
    have hLn : g.Prods[i].Left.toNat < n := by omega
    repeat' (first | refine s_seq ?_ | refine s_region ?_ | refine s_block ?_ | refine s_skip ?_)
    refine e_op (o_n (n_index rfl rfl rfl rfl i rfl hlt) rfl ?_)
    refine e_op (o_n (n_load_ro rfl rfl hb (loads_agg rfl rfl hc)) rfl ?_)
    repeat' (first | refine e_nil ?_ | ((refine e_op ?_); (first | refine o_n (peval_sound rfl) rfl ?_ | refine o_n (nl rfl rfl tc rfl) rfl ?_ | refine o_storeC rfl rfl rfl rfl tc uc rfl rfl rfl ?_ | refine o_alloc rfl rfl (fun _ => ?_))) | refine s_seq ?_ | refine s_region ?_)
    rename_i b5
    refine e_op (o_call (row_w bk [.slice A1 g.Levels.length c1, .slice A2 g.Pats.length c2, .slice A3 g.Nons.length c3, .slice (some ⟨b, o, none⟩) g.Prods.length c4] rfl A0 g.Terms.length c0 vu (some ⟨bn, 0, none⟩) n cn (some ⟨bf, 0, none⟩) cf cur hsi hT (by omega) Ar
      g.Prods[i].Right.length cr g.Prods[i].Right rfl (hok.right i hlt)) rfl .nil
      (Can.and (Can.and (Can.blk (.s .z)) (Can.and (Can.osl Value.bool rfl kbool_enc (.s (.s .z)) (by omega)) (Can.orow Value.bool rfl kbool_enc (.s (.s (.s .z))) (by omega) (fun r hr => by rw [hsi.rows r hr]; omega)))) (Can.ro (sl_mk hr))) rfl ?_)
    rintro v V ⟨bt, rfl, rfl⟩
    have hrt := rowT_len g.Terms.length cur g.Prods[i].Right
    have hsplit := bPart_cnt hsi g.Prods[i] hLn (k := 0) (by omega)
    repeat' (first | refine e_nil ?_ | ((refine e_op ?_); (refine o_n (peval_sound rfl) rfl ?_)) | refine s_seq ?_ | refine s_region ?_)
    have hno := hsi.no
    have hlL : g.Prods[i].Left.toNat < cur.1.length := by omega
    have hgN : cur.1.getD g.Prods[i].Left.toNat false = cur.1[g.Prods[i].Left.toNat] := by rw [List.getD_eq_getElem?_getD, List.getElem?_eq_getElem hlL]; rfl
    refine s_condJ (ι := Unit) (fun _ => [(0, .pointer (some ⟨bk, 0, none⟩)), (14, .slice (some ⟨b, o, none⟩) g.Prods.length c4), (15, .int .i64 g.Prods.length), (16, .int .i64 i), (5, .pointer (some ⟨b5, 0, none⟩)), (6, .slice (some ⟨bt, 0, none⟩) g.Terms.length g.Terms.length),
        (3, .bool (decide (cntS s < cntS (bNo g.Terms.length cur g.Prods[i], cur.2))))])
      (fun _ => [osl 4 1 (.slice (some ⟨bt, 0, none⟩) g.Terms.length g.Terms.length) g.Terms.length ((rowT g.Terms.length cur g.Prods[i].Right).1.map Value.bool),
        blk b5 61 [.int .i64 g.Prods[i].Left, .slice Ar g.Prods[i].Right.length cr, .int .i64 g.Prods[i].L.N, .int .i64 g.Prods[i].L.Kind],
        blk bk 126 [.slice A0 g.Terms.length c0, .slice A1 g.Levels.length c1, .slice A2 g.Pats.length c2, .slice A3 g.Nons.length c3, .slice (some ⟨b, o, none⟩) g.Prods.length c4, vu, .slice (some ⟨bn, 0, none⟩) n cn, .slice (some ⟨bf, 0, none⟩) n cf],
        osl 4 1 (.slice (some ⟨bn, 0, none⟩) n cn) n ((bNo g.Terms.length cur g.Prods[i]).map Value.bool), orow Value.bool 39 4 (.slice (some ⟨bf, 0, none⟩) n cf) n cur.2])
      rfl (fun hnt hfin => ?_) (fun hnt hfin => ?_) ?_
    · · have hb2 : bNo g.Terms.length cur g.Prods[i] = cur.1.set g.Prods[i].Left.toNat true := by unfold bNo; rw [if_pos hnt]
        skip
        refine s_drawT [6] (.s (.s (.s .z))) Tryz.mixed (by decide +kernel) ?_
        repeat' (((first | refine l_n (peval_sound rfl) rfl ?_ rfl ?_ | refine l_n (nl rfl rfl tc rfl) rfl ?_ rfl ?_); · (repeat' (first | exact Ent.refl _ | refine Ent.tak .z ?_ | refine Ent.wk ?_))))
        refine l_e rfl (o_call (learn_w (some ⟨bn, 0, none⟩) cn n cur.1 hno.symm g.Prods[i].Left.toNat hlL) (by rw [Int.toNat_of_nonneg hl0]; rfl) (.cons (.s (.s (.s .z))) .nil) Can.tt rfl ?_)
        rintro v V ⟨rfl, rfl⟩
        refine ⟨(by (repeat' (first | exact Ent.refl _ | refine Ent.wk ?_))), ?_⟩
        repeat' (first | refine l_nil ?_ | ((first | refine l_no rfl rfl rfl ?_ rfl ?_ | refine l_n (peval_sound rfl) rfl ?_ rfl ?_ | refine l_ny rfl (peval_sound rfl) rfl ?_ rfl ?_); · (repeat' (first | exact Ent.refl _ | refine Ent.wk ?_))) | ((fail_if_success (refine l_dec true (by exact rfl) ?_)); (fail_if_success (refine l_dec false (by exact rfl) ?_)); refine l_part rfl rfl (fun h => ?_) (fun h => ?_)))
        · refine s_weak ?_ ?_ (hfin ())
          · repeat' (first | exact Sub.nil _ | refine Sub.cons rfl ?_ | refine Sub.consE rfl ?_ ?_)
            rw [bNo_new hsi _ hLn hnt (by rw [hgN]; simpa using h)]
            rw [decide_eq_true (by omega)]
          · rw [hb2]
            repeat' (first | exact Ent.nil _ | refine Ent.tak tk ?_ | refine Ent.tak (.s .z) ?_)
        · have hold := bNo_old hsi g.Prods[i] hLn (.inr (by rw [hgN]; simpa using h))
          refine s_weak ?_ ?_ (hfin ())
          · repeat' (first | exact Sub.nil _ | refine Sub.cons rfl ?_ | refine Sub.consE rfl ?_ ?_)
            rw [hold]
          · rw [hb2]
            repeat' (first | exact Ent.nil _ | refine Ent.tak tk ?_ | refine Ent.tak (.s .z) ?_)
    · · refine s_skip ?_
        have hold := bNo_old hsi g.Prods[i] hLn (.inl hnt)
        refine s_weak ?_ ?_ (hfin ())
        · repeat' (first | exact Sub.nil _ | refine Sub.cons rfl ?_ | refine Sub.consE rfl ?_ ?_)
          rw [hold]
        · rw [hold]
          repeat' (first | exact Ent.nil _ | refine Ent.tak tk ?_ | refine Ent.tak .z ?_)
    rintro ⟨⟩
    generalize hte : (rowT g.Terms.length cur g.Prods[i].Right).1 = te at *
    have hnoM : ∀ k, k ≤ g.Terms.length → cntS s ≤ cntS (bNo g.Terms.length cur g.Prods[i], bFi g.Terms.length cur g.Prods[i] k) := fun k hk => by
      rcases bPart_cnt hsi g.Prods[i] hLn (k := k) hk with h | h
      · rw [h]; exact hmi
      · omega
    repeat' (first | refine e_nil ?_ | ((refine e_op ?_); (refine o_n (peval_sound rfl) rfl ?_)) | refine s_seq ?_ | refine s_region ?_ | refine s_block ?_)
    refine s_loopK (ι := {j : Nat // j ≤ g.Terms.length}) [0, 14, 15, 16, 5, 38, 39] rfl ⟨0, by omega⟩
      (fun x => [(40, .int .i64 x.1), (3, .bool (decide (cntS s < cntS (bNo g.Terms.length cur g.Prods[i], bFi g.Terms.length cur g.Prods[i] x.1))))])
      (fun x => [osl 4 1 (.slice (some ⟨bt, 0, none⟩) g.Terms.length g.Terms.length) g.Terms.length (te.map Value.bool),
        blk b5 61 [.int .i64 g.Prods[i].Left, .slice Ar g.Prods[i].Right.length cr, .int .i64 g.Prods[i].L.N, .int .i64 g.Prods[i].L.Kind],
        blk bk 126 [.slice A0 g.Terms.length c0, .slice A1 g.Levels.length c1, .slice A2 g.Pats.length c2, .slice A3 g.Nons.length c3, .slice (some ⟨b, o, none⟩) g.Prods.length c4, vu, .slice (some ⟨bn, 0, none⟩) n cn, .slice (some ⟨bf, 0, none⟩) n cf],
        osl 4 1 (.slice (some ⟨bn, 0, none⟩) n cn) n ((bNo g.Terms.length cur g.Prods[i]).map Value.bool), orow Value.bool 39 4 (.slice (some ⟨bf, 0, none⟩) n cf) n (bFi g.Terms.length cur g.Prods[i] x.1)])
      (fun x => g.Terms.length - x.1) ?_ ?_ ?_
    · repeat' (first | exact Sub.nil _ | refine Sub.cons rfl ?_ | refine Sub.consE rfl ?_ ?_)
      rw [bFi_zero hsi _ hLn]
    · rw [bFi_zero hsi _ hLn]
      exact Ent.refl _
    rintro ⟨j, hj⟩
    simp only at hj ⊢
    repeat' (first | refine e_nil ?_ | ((refine e_op ?_); (refine o_n (peval_sound rfl) rfl ?_)) | refine s_seq ?_ | refine s_region ?_)
    refine s_cond rfl (fun h => ?_) (fun h => ?_)
    · have hjt : j < g.Terms.length := by have := of_decide_eq_true h; omega
      clear h
      have hjl : j < te.length := by omega
      have hgt : te.getD j false = te[j] := by rw [List.getD_eq_getElem?_getD, List.getElem?_eq_getElem hjl]; rfl
      repeat' (first | ((refine e_op ?_); (refine o_n (peval_sound rfl) rfl ?_)) | refine s_seq ?_ | refine s_region ?_ | refine s_block ?_ | refine s_skip ?_)
      refine e_op (o_n (n_index rfl rfl rfl rfl j rfl hjt) rfl ?_)
      refine e_op (o_n (n_load_osl (v := .bool te[j]) rfl rfl .z (by simp [loadL, aggB, hjl])) rfl ?_)
      repeat' (first | refine e_nil ?_ | ((refine e_op ?_); (refine o_n (peval_sound rfl) rfl ?_)) | refine s_seq ?_ | refine s_region ?_)
      refine s_cond rfl (fun htj => ?_) (fun htj => ?_)
      · have hrj : (cur.2.getD g.Prods[i].Left.toNat []).length = g.Terms.length := hsi.row hLn
        have hfiL := hsi.fi
        have hbl : (bFi g.Terms.length cur g.Prods[i] j).length = n := by unfold bFi; rw [List.length_set]; exact hfiL
        skip
        refine s_ex (.s (.s (.s (.s .z)))) ?_
        rintro acs hacs
        have hLb : g.Prods[i].Left.toNat < (bFi g.Terms.length cur g.Prods[i] j).length := by omega
        have hrowe : (bFi g.Terms.length cur g.Prods[i] j)[g.Prods[i].Left.toNat] = orP (cur.2.getD g.Prods[i].Left.toNat []) te j := by
          have := bFi_get hsi g.Prods[i] hLn j
          rw [List.getElem?_eq_getElem hLb, hte] at this
          exact Option.some.inj this
        have hrowl : (bFi g.Terms.length cur g.Prods[i] j)[g.Prods[i].Left.toNat].length = g.Terms.length := by rw [hrowe, orP_len]; exact hrj
        have hjr : j < (bFi g.Terms.length cur g.Prods[i] j)[g.Prods[i].Left.toNat].length := by omega
        have hat : (bFi g.Terms.length cur g.Prods[i] j)[g.Prods[i].Left.toNat][j] = (cur.2.getD g.Prods[i].Left.toNat []).getD j false := by
          have h1 := orP_at (r := cur.2.getD g.Prods[i].Left.toNat []) (te := te) (k := j) (by omega)
          rw [← hrowe, List.getElem?_eq_getElem hjr] at h1
          rw [Option.some.inj h1]
          rw [List.getD_eq_getElem?_getD (i := j), List.getElem?_eq_getElem]; rfl
        have hnt' := bFi_next_t hsi g.Prods[i] hLn hjt (by rw [hte, hgt]; exact htj)
        rw [hte, ← hrowe] at hnt'
        have hget := rowL_get (enc := Value.bool) (ei := 4) hacs hLb
        have hfrow := ent_row (enc := Value.bool) (eo := 39) (ei := 4) (v := .slice (some ⟨bf, 0, none⟩) n cf) (n := n) (V := []) hacs hLb (r := (bFi g.Terms.length cur g.Prods[i] j)[g.Prods[i].Left.toNat].set j true) (by rw [List.length_set])
        rw [hnt'] at hfrow
        have hTk := tak_get (V := [osl 4 1 (.slice (some ⟨bn, 0, none⟩) n cn) n ((bNo g.Terms.length cur g.Prods[i]).map Value.bool)]) hget
        simp only [List.cons_append]
        refine s_ent (Ent.tak (.s (.right .z)) (Ent.tak (.s (.right .z)) (Ent.tak (.s (.right .z)) (Ent.refl _)))) ?_
        have hTk4 := Tak.s (B := osl 4 1 (.slice (some ⟨bt, 0, none⟩) g.Terms.length g.Terms.length) g.Terms.length (te.map Value.bool)) (Tak.s (B := blk b5 61 [.int .i64 g.Prods[i].Left, .slice Ar g.Prods[i].Right.length cr, .int .i64 g.Prods[i].L.N, .int .i64 g.Prods[i].L.Kind])
          (Tak.s (B := blk bk 126 [.slice A0 g.Terms.length c0, .slice A1 g.Levels.length c1, .slice A2 g.Pats.length c2, .slice A3 g.Nons.length c3, .slice (some ⟨b, o, none⟩) g.Prods.length c4, vu, .slice (some ⟨bn, 0, none⟩) n cn, .slice (some ⟨bf, 0, none⟩) n cf])
            (Tak.s (B := osl 39 1 (.slice (some ⟨bf, 0, none⟩) n cf) n (rowC acs (bFi g.Terms.length cur g.Prods[i] j))) hTk)))
        have hUV := (Ent.tak hTk4 (Ent.refl _)).trans (Ent.wk (Ent.refl _))
        refine s_drawT [9] hTk4 Tryz.mixed (by decide +kernel) ?_
        repeat' (((first | refine l_n (peval_sound rfl) rfl ?_ rfl ?_ | refine l_n (nl rfl rfl tc rfl) rfl ?_ rfl ?_); · (assumption)))
        refine l_n (n_index rfl rfl rfl rfl g.Prods[i].Left.toNat (by omega) (by omega)) rfl hUV rfl ?_
        refine l_n (n_load_osl (v := .slice acs[g.Prods[i].Left.toNat].1 (bFi g.Terms.length cur g.Prods[i] j)[g.Prods[i].Left.toNat].length acs[g.Prods[i].Left.toNat].2) rfl rfl (.s (.s (.s .z)))
          (by simp only [loadL, aggB, Nat.zero_add, Nat.mul_one, cond_false]; exact rowC_get hacs hLb)) rfl hUV rfl ?_
        repeat' (((refine l_n (peval_sound rfl) rfl ?_ rfl ?_); · (assumption)))
        refine l_e rfl (o_call (learn_w acs[g.Prods[i].Left.toNat].1 acs[g.Prods[i].Left.toNat].2 _ (bFi g.Terms.length cur g.Prods[i] j)[g.Prods[i].Left.toNat] rfl j hjr) rfl (.cons hTk4 .nil) Can.tt rfl ?_)
        rintro v V ⟨rfl, rfl⟩
        refine ⟨Ent.wk (Ent.refl _), ?_⟩
        simp only [List.cons_append, List.nil_append]
        repeat' (first | refine l_nil ?_ | ((first | refine l_no rfl rfl rfl ?_ rfl ?_ | refine l_n (peval_sound rfl) rfl ?_ rfl ?_ | refine l_ny rfl (peval_sound rfl) rfl ?_ rfl ?_); · (repeat' (first | exact Ent.refl _ | refine Ent.wk ?_))) | ((fail_if_success (refine l_dec true (by exact rfl) ?_)); (fail_if_success (refine l_dec false (by exact rfl) ?_)); refine l_part rfl rfl (fun h => ?_) (fun h => ?_)))
        · rw [Bool.not_eq_true', hat] at h
          repeat' (first | refine e_nil ?_ | ((refine e_op ?_); (refine o_n (peval_sound rfl) rfl ?_)) | refine s_region ?_ | refine s_end ?_)
          refine s_back ⟨⟨j + 1, by omega⟩, by simp only; omega, ?_, ?_⟩
          · repeat' (first | exact Sub.nil _ | refine Sub.cons rfl ?_ | refine Sub.consE rfl ?_ ?_)
            · exact inc (i := j) (by omega)
            · rw [bFi_next_n hsi g.Prods[i] hLn hjt (by rw [hte, hgt]; exact htj) h, decide_eq_true]
              have := hnoM j (by omega)
              omega
          · exact Ent.tak (.s .z) (Ent.tak (.s .z) (Ent.tak (.s .z) (Ent.tak (.s (.s (.right .z))) hfrow)))
        · rw [Bool.not_eq_false', hat] at h
          repeat' (first | refine e_nil ?_ | ((refine e_op ?_); (refine o_n (peval_sound rfl) rfl ?_)) | refine s_region ?_ | refine s_end ?_)
          refine s_back ⟨⟨j + 1, by omega⟩, by simp only; omega, ?_, ?_⟩
          · repeat' (first | exact Sub.nil _ | refine Sub.cons rfl ?_ | refine Sub.consE rfl ?_ ?_)
            · exact inc (i := j) (by omega)
            · rw [bFi_next_f hsi g.Prods[i] hLn hjt (.inr h)]
          · exact Ent.tak (.s .z) (Ent.tak (.s .z) (Ent.tak (.s .z) (Ent.tak (.s (.s (.right .z))) hfrow)))
      · repeat' (first | refine e_nil ?_ | ((refine e_op ?_); (refine o_n (peval_sound rfl) rfl ?_)) | refine s_region ?_ | refine s_end ?_ | refine s_skip ?_)
        have hnf := bFi_next_f hsi g.Prods[i] hLn hjt (.inl (by rw [hte, hgt]; exact htj))
        refine s_back ⟨⟨j + 1, by omega⟩, by simp only; omega, ?_, ?_⟩
        · repeat' (first | exact Sub.nil _ | refine Sub.cons rfl ?_ | refine Sub.consE rfl ?_ ?_)
          · exact inc (i := j) (by omega)
          · rw [hnf]
        · simp only [hnf]
          exact Ent.refl _
    · have hge : g.Terms.length = j := by have := of_decide_eq_false h; omega
      have hst2 : bStep g.Terms.length cur g.Prods[i] = (bNo g.Terms.length cur g.Prods[i], bFi g.Terms.length cur g.Prods[i] j) := by rw [← hge]; rfl
      clear h
      repeat' (first | refine e_nil ?_ | ((refine e_op ?_); (refine o_n (peval_sound rfl) rfl ?_)) | refine s_region ?_ | refine s_end ?_ | refine s_exit ?_ | refine x_hit ?_ | refine x_code ?_ | refine x_back ?_)
      refine s_back ⟨⟨i + 1, by omega⟩, by simp only; omega, ?_, ?_⟩
      · repeat' (first | exact Sub.nil _ | refine Sub.cons rfl ?_ | refine Sub.consE rfl ?_ ?_)
        · exact inc (i := i) (by omega)
        · rw [hstep, hst2]
      · simp only [hstep, hst2]
        repeat' (first | exact Ent.nil _ | refine Ent.tak tk ?_)
  · have hge : i = g.Prods.length := by have := of_decide_eq_false h; omega
    subst hge
    clear h
    repeat' (first | refine e_nil ?_ | ((refine e_op ?_); (refine o_n (peval_sound rfl) rfl ?_)) | refine s_seq ?_ | refine s_region ?_ | refine s_exit ?_ | refine x_hit ?_ | refine x_code ?_ | refine x_back ?_)
    refine s_ret ⟨_, _, res1 rfl rfl, ⟨?_, rfl⟩, ?_⟩
    · rw [List.take_length]
      congr 1
      rw [decide_eq_decide]
      rcases bRound_cnt g.Prods hnat s hs with h | h
      · rw [h]; simp
      · constructor
        · intro h2 h3; rw [h3] at h2; omega
        · intro _; exact h
    · rw [List.take_length]
      repeat' (first | exact Ent.nil _ | refine Ent.tak tk ?_)

end Go.Proofs.YtcnpjhaedjncdaaGreatDoor

namespace Go.Proofs.YtcnpjhaedjncdaaGreatDoor
set_option linter.all false
open Go.Proofs.YtcnpjhaedjncdaaGreatDoor.E
attribute [local irreducible] EVX EVO EVL EV1 NEV
set_option maxRecDepth 10000
set_option maxHeartbeats 1000000

theorem rowC_snoc {acs : List (Option Addr × Nat)} {rows : List (List Bool)} (h : acs.length = rows.length) (ac : Option Addr × Nat) (r : List Bool) :
    rowC (acs ++ [ac]) (rows ++ [r]) = rowC acs rows ++ [.slice ac.1 r.length ac.2] := by
  unfold rowC; rw [List.zipWith_append h]; rfl
theorem rowL_snoc {acs : List (Option Addr × Nat)} {rows : List (List Bool)} {ei : TypeId} (h : acs.length = rows.length) (ac : Option Addr × Nat) (r : List Bool) :
    rowL Value.bool ei (acs ++ [ac]) (rows ++ [r]) = rowL Value.bool ei acs rows ++ [osl ei 1 (.slice ac.1 r.length ac.2) r.length (r.map Value.bool)] := by
  unfold rowL; rw [List.zipWith_append h]; rfl

theorem wf0_of {g : Gram} (h : checkE g = 0) : limitsB g = false ∧ Wf0 g := by
  unfold checkE wf at h
  cases hl : limitsB g with
  | true => simp [hl] at h
  | false =>
    cases hw : wf0 g with
    | true => exact ⟨rfl, (wf0_iff g).1 hw⟩
    | false => simp [hl, hw] at h

theorem lim_n {g : Gram} (h : limitsB g = false) : g.Terms.length ≤ 48 ∧ g.Nons.length ≤ 48 ∧ g.Prods.length ≤ 128 := by
  unfold limitsB at h
  simp only [Bool.or_eq_false_iff, decide_eq_false_iff_not] at h
  omega

theorem bsOk_of {g : Gram} (h : Wf0 g) : BsOk g.Terms.length g.Nons.length g.Prods :=
  ⟨fun i hi => ⟨((prodOk_iff _ _ _ _).1 (h.prod i hi)).lo, ((prodOk_iff _ _ _ _).1 (h.prod i hi)).hi⟩, fun i hi s hs => by
    have := ((prodOk_iff _ _ _ _).1 (h.prod i hi)).right s hs
    omega⟩

/-- What 'know' leaves of a grammar that may be. -/
def knM (cs : List Value) (g : Gram) (bk bn bf cf : Nat) : List Asn :=
  [blk bk 126 (cs ++ [.slice none 0 0, .slice (some ⟨bn, 0, none⟩) g.Nons.length g.Nons.length, .slice (some ⟨bf, 0, none⟩) g.Nons.length cf]),
    osl 4 1 (.slice (some ⟨bn, 0, none⟩) g.Nons.length g.Nons.length) g.Nons.length ((bFix g).1.map Value.bool), orow Value.bool 39 4 (.slice (some ⟨bf, 0, none⟩) g.Nons.length cf) g.Nons.length (bFix g).2]

theorem know_w (cs : List Value) (g : Gram) : Trip Tryz.prog 84 [.agg cs.toArray] (kGram.rd cs g) []
    (fun v V => (checkE g ≠ 0 ∧ v = .tuple #[.pointer none, .int .i64 (checkE g)] ∧ V = []) ∨
      (checkE g = 0 ∧ ∃ bk bn bf cf, v = .tuple #[.pointer (some ⟨bk, 0, none⟩), .int .i64 0] ∧ V = knM cs g bk bn bf cf)) := by
  refine trip Tryz.tabOk Tryz.func84 rfl rfl rfl rfl ?_
  intro w SM hR
  obtain ⟨A0, A1, A2, A3, A4, c0, c1, c2, c3, c4, rfl, hG⟩ := kGram_open hR
  repeat' (first | refine e_nil ?_ | ((refine e_op ?_); (first | refine o_n (peval_sound rfl) rfl ?_ | refine o_n (nl rfl rfl tc rfl) rfl ?_ | refine o_box rfl rfl (fun _ => ?_))) | refine s_seq ?_ | refine s_region ?_)
  rename_i b1
  refine e_op (o_call (check_w _ g) rfl .nil (Can.ro (kGram_mk hG)) rfl ?_)
  rintro v V ⟨rfl, rfl⟩
  repeat' (first | refine e_nil ?_ | ((refine e_op ?_); (refine o_n (peval_sound rfl) rfl ?_)) | refine s_seq ?_ | refine s_region ?_)
  refine s_cond rfl (fun h => ?_) (fun h => ?_)
  · repeat' (first | refine e_nil ?_ | ((refine e_op ?_); (refine o_n (peval_sound rfl) rfl ?_)) | refine s_seq ?_ | refine s_region ?_)
    refine s_ret ⟨_, _, res2 rfl rfl rfl, .inl ⟨?_, rfl, rfl⟩, Ent.nil _⟩
    simpa using h
  have hce : checkE g = 0 := by simpa using h
  clear h
  obtain ⟨hl, hw0⟩ := wf0_of hce
  obtain ⟨ht48, hn48, _⟩ := lim_n hl
  have hbs := bsOk_of hw0
  have hn2 := hw0.n
  have hT := hG.terms.2.1
  have hN := hG.nons.2.1
  have hP := hG.prods.2.1
  generalize hgn : g.Nons.length = n at *
  generalize hgt : g.Terms.length = t at *
  repeat' (first | refine s_seq ?_ | refine s_skip ?_)
  refine s_drawU [4, 6] Tryz.mixed (by decide +kernel) ?_
  repeat' (((first | refine l_n (peval_sound rfl) rfl ?_ rfl ?_ | refine l_n (nl rfl rfl tc rfl) rfl ?_ rfl ?_); · (exact Ent.refl _)))
  refine l_e rfl (o_make rfl rfl rfl rfl n rfl rfl (by omega) (by omega) rfl (fun bn => ⟨(by (repeat' (first | exact Ent.refl _ | refine Ent.wk ?_))), ?_⟩))
  repeat' (((refine l_n (peval_sound rfl) rfl ?_ rfl ?_); · (repeat' (first | exact Ent.refl _ | refine Ent.wk ?_))))
  refine l_e rfl (o_box rfl rfl (fun bk => ⟨(by (repeat' (first | exact Ent.refl _ | refine Ent.wk ?_))), ?_⟩))
  repeat' (first | refine l_nil ?_ | ((refine l_n (peval_sound rfl) rfl ?_ rfl ?_); · (repeat' (first | exact Ent.refl _ | refine Ent.wk ?_))))
  repeat' (first | refine e_nil ?_ | ((refine e_op ?_); (first | refine o_n (peval_sound rfl) rfl ?_ | refine o_n (nl rfl rfl tc rfl) rfl ?_)) | refine s_seq ?_ | refine s_region ?_ | refine s_block ?_)
  refine s_loopK (ι := {x : Nat × Value × List (Option Addr × Nat) // x.1 ≤ n ∧ x.2.2.length = x.1 ∧ (x.1 = 0 → x.2.1 = .slice none 0 0) ∧ (0 < x.1 → ∃ b c, x.2.1 = .slice (some ⟨b, 0, none⟩) x.1 c)}) [1, 5, 20] rfl
    ⟨(0, .slice none 0 0, []), by simp⟩
    (fun x => [(21, .int .i64 x.1.1)])
    (fun x => blk bk 126 [.slice A0 t c0, .slice A1 g.Levels.length c1, .slice A2 g.Pats.length c2, .slice A3 n c3, .slice A4 g.Prods.length c4, .slice none 0 0, .slice (some ⟨bn, 0, none⟩) n n, x.1.2.1] ::
      osl 4 1 (.slice (some ⟨bn, 0, none⟩) n n) n ((List.replicate n false).map Value.bool) ::
      blk b1 27 [.slice A0 t c0, .slice A1 g.Levels.length c1, .slice A2 g.Pats.length c2, .slice A3 n c3, .slice A4 g.Prods.length c4] ::
      osl 39 1 x.1.2.1 x.1.1 (rowC x.1.2.2 (List.replicate x.1.1 (List.replicate t false))) :: rowL Value.bool 4 x.1.2.2 (List.replicate x.1.1 (List.replicate t false)))
    (fun x => n - x.1.1) ?_ ?_ ?_
  · repeat' (first | exact Sub.nil _ | refine Sub.cons rfl ?_)
  · rw [show List.replicate n (Value.bool false) = (List.replicate n false).map Value.bool from by simp]
    exact Ent.tak .z (Ent.tak .z (Ent.tak .z (Ent.osl0 (Ent.nil _))))
  · rintro ⟨⟨k, v, acs⟩, hk, hacs, hv0, hv1⟩
    simp only at hk hacs hv0 hv1 ⊢
    repeat' (first | refine e_nil ?_ | ((refine e_op ?_); (refine o_n (peval_sound rfl) rfl ?_)) | refine s_seq ?_ | refine s_region ?_)
    refine s_cond rfl (fun h => ?_) (fun h => ?_)
    · have hkn : k < n := by have := of_decide_eq_true h; omega
      clear h
      have hal : acs.length = (List.replicate k (List.replicate t false)).length := by simp [hacs]
      repeat' (first | refine s_seq ?_ | refine s_block ?_ | refine s_skip ?_)
      refine s_drawB [13] [8, 9, 10] (blk bk 126 [.slice A0 t c0, .slice A1 g.Levels.length c1, .slice A2 g.Pats.length c2, .slice A3 n c3, .slice A4 g.Prods.length c4, .slice none 0 0, .slice (some ⟨bn, 0, none⟩) n n, v] ::
        osl 4 1 (.slice (some ⟨bn, 0, none⟩) n n) n ((List.replicate n false).map Value.bool) ::
        blk b1 27 [.slice A0 t c0, .slice A1 g.Levels.length c1, .slice A2 g.Pats.length c2, .slice A3 n c3, .slice A4 g.Prods.length c4] :: rowL Value.bool 4 acs (List.replicate k (List.replicate t false))) Tryz.mixed (by decide +kernel) ?_
      repeat' (((first | refine b_n (peval_sound rfl) rfl rfl ?_ rfl ?_ | refine b_n (nl rfl rfl tc rfl) rfl rfl ?_ rfl ?_); · (repeat' (first | exact Ent.refl _ | refine Ent.tak .z ?_ | refine Ent.wk ?_))))
      refine b_e rfl rfl (o_make rfl rfl rfl rfl t rfl rfl (by omega) (by omega) rfl (fun b8 => ⟨(by (repeat' (first | exact Ent.refl _ | refine Ent.tak .z ?_ | refine Ent.wk ?_))), ?_⟩))
      refine b_e rfl rfl (o_lit rfl rfl rfl rfl rfl rfl rfl (fun b9 => ⟨(by (repeat' (first | exact Ent.refl _ | refine Ent.tak .z ?_ | refine Ent.wk ?_))), ?_⟩))
      refine b_e rfl rfl (o_append (v := v) (n := k) (m := 1) (news := [.slice (some ⟨b8, 0, none⟩) t t]) _ rfl rfl rfl rfl (fun w hm j u hu => ?_) rfl ?_ rfl (by omega) (by simp only; omega) (by omega) rfl (fun b c => .s (.s (.s (.s (.s .z))))) (fun ba c => ⟨(by (repeat' (first | exact Ent.refl _ | refine Ent.tak .z ?_ | refine Ent.wk ?_))), ?_⟩))
      · obtain ⟨S1, hP, _⟩ := hm.tak Tak.z
        rw [Nat.zero_add]
        exact osl_cells hP j u hu
      · intro u hu
        simp only [List.mem_singleton] at hu
        subst hu; rfl
      repeat' (((refine b_n (peval_sound rfl) rfl rfl ?_ rfl ?_); · (repeat' (first | exact Ent.refl _ | refine Ent.tak .z ?_ | refine Ent.wk ?_))))
      refine b_z rfl (o_store rfl rfl rfl rfl rfl rfl rfl (.s (.s .z)) ⟨[], ?_⟩)
      repeat' (refine b_nil ?_)
      repeat' (first | refine e_nil ?_ | ((refine e_op ?_); (refine o_n (peval_sound rfl) rfl ?_)) | refine s_region ?_ | refine s_end ?_)
      refine s_back ⟨⟨(k + 1, .slice (some ⟨ba, 0, none⟩) (k + 1) c, acs ++ [(some ⟨b8, 0, none⟩, t)]), by simp only; omega, by simp [hacs], by simp, fun _ => ⟨_, _, rfl⟩⟩, by simp only; omega, ?_, ?_⟩
      · repeat' (first | exact Sub.nil _ | refine Sub.cons rfl ?_ | refine Sub.consE rfl ?_ ?_)
        exact inc (i := k) (by omega)
      · simp only [List.replicate_succ', rowC_snoc hal, rowL_snoc hal, List.length_replicate, List.map_replicate]
        refine Ent.tak (.s (.s .z)) (Ent.tak (.s (.s .z)) (Ent.tak (.s (.s .z)) (Ent.tak (.s (.s .z)) (Ent.wk ?_))))
        have := Ent.mid (A := osl 4 1 (.slice (some ⟨b8, 0, none⟩) t t) t (List.replicate t (Value.bool false))) (L := rowL Value.bool 4 acs (List.replicate k (List.replicate t false))) (U := [])
        rw [List.append_nil] at this
        exact this
    · have hge : n = k := by have := of_decide_eq_false h; omega
      subst hge
      clear h
      obtain ⟨bf, cf, rfl⟩ := hv1 (by omega)
      subst hgn
      subst hgt
      repeat' (first | ((refine e_op ?_); (refine o_n (peval_sound rfl) rfl ?_)) | refine s_seq ?_ | refine s_region ?_ | refine s_exit ?_ | refine x_hit ?_ | refine x_code ?_ | refine x_back ?_)
      refine e_ent (V := [blk bk 126 ([Value.slice A0 g.Terms.length c0, Value.slice A1 g.Levels.length c1, Value.slice A2 g.Pats.length c2, Value.slice A3 g.Nons.length c3, Value.slice A4 g.Prods.length c4] ++ [Value.slice none 0 0, Value.slice (some ⟨bn, 0, none⟩) g.Nons.length g.Nons.length, Value.slice (some ⟨bf, 0, none⟩) g.Nons.length cf]),
          osl 4 1 (.slice (some ⟨bn, 0, none⟩) g.Nons.length g.Nons.length) g.Nons.length ((bInit g.Terms.length g.Nons.length).1.map Value.bool), orow Value.bool 39 4 (.slice (some ⟨bf, 0, none⟩) g.Nons.length cf) g.Nons.length (bInit g.Terms.length g.Nons.length).2])
        (Ent.tak .z (Ent.tak .z (Ent.wk (Ent.ex acs (by simp [hacs, bInit]) (by rw [List.append_nil]; exact Ent.refl _))))) ?_
      refine e_op (o_call (grow_w (σ := BSt) 102 [.pointer (some ⟨bk, 0, none⟩)] [] (kGram.rd [Value.slice A0 g.Terms.length c0, Value.slice A1 g.Levels.length c1, Value.slice A2 g.Pats.length c2, Value.slice A3 g.Nons.length c3, Value.slice A4 g.Prods.length c4] g)
        (fun s => [blk bk 126 ([Value.slice A0 g.Terms.length c0, Value.slice A1 g.Levels.length c1, Value.slice A2 g.Pats.length c2, Value.slice A3 g.Nons.length c3, Value.slice A4 g.Prods.length c4] ++ [Value.slice none 0 0, Value.slice (some ⟨bn, 0, none⟩) g.Nons.length g.Nons.length, Value.slice (some ⟨bf, 0, none⟩) g.Nons.length cf]),
          osl 4 1 (.slice (some ⟨bn, 0, none⟩) g.Nons.length g.Nons.length) g.Nons.length (s.1.map Value.bool), orow Value.bool 39 4 (.slice (some ⟨bf, 0, none⟩) g.Nons.length cf) g.Nons.length s.2])
        (bRound g.Terms.length g.Prods) (fun s => decide (bRound g.Terms.length g.Prods s ≠ s)) (fun s => g.Nons.length + g.Nons.length * g.Terms.length - cntS s) (BInv g.Terms.length g.Nons.length)
        (fun s hs => begins_w bk [Value.slice A0 g.Terms.length c0, Value.slice A1 g.Levels.length c1, Value.slice A2 g.Pats.length c2, Value.slice A3 g.Nons.length c3, Value.slice A4 g.Prods.length c4] g (Value.slice none 0 0) bn g.Nons.length g.Nons.length bf cf s rfl hs hbs (by omega) (by omega)) (fun s hs => bRound_inv _ hbs.nat s hs)
        (fun s hs hne => ?_) (bInit g.Terms.length g.Nons.length) (bInit_inv _ _)) rfl (.cons .z (.cons .z (.cons .z .nil))) (Can.ro hR) rfl ?_)
      · rcases bRound_cnt g.Prods hbs.nat s hs with h | h
        · exact absurd h (of_decide_eq_true hne)
        · have := cntS_le (bRound_inv _ hbs.nat s hs)
          omega
      rintro v V ⟨rfl, s, hs, hre, hfr, rfl⟩
      obtain ⟨m, hm⟩ := reach_it hre
      have hfix : bRound g.Terms.length g.Prods s = s := Classical.not_not.1 (of_decide_eq_false hfr)
      have hu : s = bFix g := by
        rw [hm]
        refine bFix_unique hbs.nat ?_
        rw [← hm]; exact hfix
      rw [hfix]
      clear hfr hre hm hfix
      subst hu
      repeat' (first | refine e_nil ?_ | ((refine e_op ?_); (refine o_n (peval_sound rfl) rfl ?_)) | refine s_seq ?_ | refine s_region ?_)
      refine s_ret ⟨_, _, res2 rfl rfl rfl, .inr ⟨hce, bk, bn, bf, cf, rfl, rfl⟩, ?_⟩
      exact Ent.refl _

end Go.Proofs.YtcnpjhaedjncdaaGreatDoor

namespace Go.Proofs.YtcnpjhaedjncdaaGreatDoor
set_option linter.all false
open Go.Proofs.YtcnpjhaedjncdaaGreatDoor.E
attribute [local irreducible] EVX EVO EVL EV1 NEV
set_option maxRecDepth 10000
set_option maxHeartbeats 1000000

def inB (g : Gram) (s : Int) : Bool := decide (s < 0) || decide (s ≥ (g.Terms.length : Int) + g.Nons.length)

theorem of1_w (b2 : Nat) (gr : List Value) (A0 A3 : Option Addr) (c0 c3 : Nat) (u1 u2 u4 : Value) (g : Gram) (ht : g.Terms.length ≤ 48) (hn : g.Nons.length ≤ 48) (s : Int) (_ : gr = []) :
    Trip Tryz.prog 85 [.int .i64 s, .pointer (some ⟨b2, 0, none⟩)] (rblk b2 27 [.slice A0 g.Terms.length c0, u1, u2, .slice A3 g.Nons.length c3, u4]) [] (fun v V => v = .bool (inB g s) ∧ V = []) := by
  refine trip Tryz.tabOk Tryz.func85 rfl rfl rfl rfl ?_
  rintro w SM ⟨hb, hb'⟩
  have hw : IntKind.i64.wrap ((g.Terms.length : Int) + g.Nons.length) = (g.Terms.length : Int) + g.Nons.length := wrap_i64 (by omega) (by omega)
  repeat' (first | refine e_nil ?_ | ((first | refine e_op ?_ | refine e_yes rfl ?_); (refine o_n (peval_sound rfl) rfl ?_)) | refine e_noU rfl rfl rfl ?_ | refine s_seq ?_ | refine s_region ?_ | ((fail_if_success (refine e_dec true (by exact rfl) ?_)); (fail_if_success (refine e_dec false (by exact rfl) ?_)); refine e_part rfl rfl (fun h => ?_) (fun h => ?_)))
  · refine s_ret ⟨_, _, res1 rfl rfl, ⟨?_, rfl⟩, Ent.nil _⟩
    unfold inB; rw [h]; rfl
  · refine e_yes rfl (o_n (n_load_ro rfl rfl hb (loads_blk hb' rfl)) rfl ?_)
    repeat' (((refine e_yes rfl ?_); (refine o_n (peval_sound rfl) rfl ?_)))
    refine e_yes rfl (o_n (n_load_ro rfl rfl hb (loads_blk hb' rfl)) rfl ?_)
    repeat' (first | refine e_nil ?_ | ((first | refine e_op ?_ | refine e_yes rfl ?_); (refine o_n (peval_sound rfl) rfl ?_)))
    refine s_ret ⟨_, _, res1 rfl rfl, ⟨?_, rfl⟩, Ent.nil _⟩
    unfold inB; rw [h, hw]; rfl

def ofE (g : Gram) (l : List Int) : Int := if checkE g ≠ 0 then checkE g else if l.length > 1000 then 5 else if l.any (inB g) then 9 else 0

theorem of_w (cs : List Value) (g : Gram) (Al : Option Addr) (m cl : Nat) (l : List Int) (hm : m = l.length) : Trip Tryz.prog 67 [.agg cs.toArray, .slice Al m cl] ((kGram.rd cs g).and ((kslice 8 kint).rd [.slice Al m cl] l)) []
    (fun v V => (ofE g l ≠ 0 ∧ v = .tuple #[.slice none 0 0, .bool false, .int .i64 (ofE g l)] ∧ V = []) ∨
      (ofE g l = 0 ∧ ∃ bu, v = .tuple #[.slice (some ⟨bu, 0, none⟩) g.Terms.length g.Terms.length, .bool (rowT g.Terms.length (bFix g) l).2, .int .i64 0] ∧
        V = [osl 4 1 (.slice (some ⟨bu, 0, none⟩) g.Terms.length g.Terms.length) g.Terms.length ((rowT g.Terms.length (bFix g) l).1.map Value.bool)])) := by
  subst hm
  refine trip Tryz.tabOk Tryz.func67 rfl rfl rfl rfl ?_
  rintro w SM ⟨hR, hRl⟩
  obtain ⟨A0, A1, A2, A3, A4, c0, c1, c2, c3, c4, rfl, hG⟩ := kGram_open hR
  repeat' (first | refine e_nil ?_ | ((refine e_op ?_); (first | refine o_n (peval_sound rfl) rfl ?_ | refine o_n (nl rfl rfl tc rfl) rfl ?_ | refine o_box rfl rfl (fun _ => ?_))) | refine s_seq ?_ | refine s_region ?_)
  rename_i b2
  refine e_op (o_call (know_w _ g) rfl .nil (Can.ro (kGram_mk hG)) rfl ?_)
  rintro v V (⟨hne, rfl, rfl⟩ | ⟨he, bk, bn, bf, cf, rfl, rfl⟩)
  · have hof : ofE g l = checkE g := by unfold ofE; rw [if_pos hne]
    repeat' (first | refine e_nil ?_ | ((refine e_op ?_); (refine o_n (peval_sound rfl) rfl ?_)) | refine s_seq ?_ | refine s_region ?_ | refine s_block ?_)
    refine s_cond rfl (fun h => ?_) (fun h => ?_)
    · repeat' (first | refine e_nil ?_ | ((refine e_op ?_); (refine o_n (peval_sound rfl) rfl ?_)) | refine s_seq ?_ | refine s_region ?_)
      exact s_ret ⟨_, _, res3 rfl rfl rfl rfl, .inl ⟨by rw [hof]; exact hne, by rw [hof], rfl⟩, Ent.nil _⟩
    · exact absurd (by simpa using h) hne
  · have hof : ofE g l = if l.length > 1000 then 5 else if l.any (inB g) then 9 else 0 := by unfold ofE; rw [if_neg (by simpa using he)]
    obtain ⟨hl, hw0⟩ := wf0_of he
    obtain ⟨ht48, hn48, _⟩ := lim_n hl
    have hbs := bsOk_of hw0
    have hinv := bFix_inv hbs.nat
    simp only [knM, List.cons_append, List.nil_append]
    repeat' (first | refine e_nil ?_ | ((refine e_op ?_); (refine o_n (peval_sound rfl) rfl ?_)) | refine s_seq ?_ | refine s_region ?_ | refine s_block ?_ | refine s_false rfl ?_)
    refine s_cond rfl (fun h => ?_) (fun h => ?_)
    · have h5 : ofE g l = 5 := by rw [hof, if_pos (by have := of_decide_eq_true h; omega)]
      repeat' (first | refine e_nil ?_ | ((refine e_op ?_); (refine o_n (peval_sound rfl) rfl ?_)) | refine s_seq ?_ | refine s_region ?_)
      exact s_ret ⟨_, _, res3 rfl rfl rfl rfl, .inl ⟨by rw [h5]; decide, by rw [h5], rfl⟩, Ent.nil _⟩
    have hl1 : ¬ l.length > 1000 := by have := of_decide_eq_false h; omega
    clear h
    rw [if_neg hl1] at hof
    repeat' (first | ((refine e_op ?_); (refine o_n (peval_sound rfl) rfl ?_)) | refine s_seq ?_ | refine s_region ?_)
    have hF : ∀ (u : Value) (x : Int), x ∈ l → Trip Tryz.prog 85 ([] ++ [u] ++ [.pointer (some ⟨b2, 0, none⟩)])
        ((rblk b2 27 [.slice A0 g.Terms.length c0, .slice A1 g.Levels.length c1, .slice A2 g.Pats.length c2, .slice A3 g.Nons.length c3, .slice A4 g.Prods.length c4]).and (kint.rd [u] x)) [] (fun v V => v = .bool (inB g x) ∧ V = []) := by
      intro u x _
      refine ⟨(of1_w b2 [] A0 A3 c0 c3 (.slice A1 g.Levels.length c1) (.slice A2 g.Pats.length c2) (.slice A4 g.Prods.length c4) g ht48 hn48 0 rfl).enters, fun w SM h1 h2 h3 => ?_⟩
      obtain ⟨h4, h5, hI⟩ := h3
      cases h5
      exact (of1_w b2 [] A0 A3 c0 c3 _ _ _ g ht48 hn48 x rfl).calls w SM h1 h2 h4
    refine e_op (o_call (hasInt_w kint rfl 85 [] [.pointer (some ⟨b2, 0, none⟩)] _ (inB g) Al cl l hF) rfl .nil (Can.and (Can.blk (.s (.s (.s .z)))) (Can.ro hRl)) rfl ?_)
    rintro v V ⟨rfl, rfl⟩
    repeat' (first | refine e_nil ?_ | ((refine e_op ?_); (refine o_n (peval_sound rfl) rfl ?_)))
    refine s_cond rfl (fun h => ?_) (fun h => ?_)
    · have h9 : ofE g l = 9 := by rw [hof, if_pos h]
      repeat' (first | refine e_nil ?_ | ((refine e_op ?_); (refine o_n (peval_sound rfl) rfl ?_)) | refine s_seq ?_ | refine s_region ?_)
      exact s_ret ⟨_, _, res3 rfl rfl rfl rfl, .inl ⟨by rw [h9]; decide, by rw [h9], rfl⟩, Ent.nil _⟩
    have h0 : ofE g l = 0 := by rw [hof, h]; rfl
    have hx : ∀ x ∈ l, 0 ≤ x ∧ x < (g.Terms.length : Int) + g.Nons.length := by
      intro x hx
      rw [List.any_eq_false] at h
      have := h x hx
      unfold inB at this
      simp only [Bool.or_eq_true, decide_eq_true_eq] at this
      omega
    clear h
    repeat' (first | ((refine e_op ?_); (refine o_n (peval_sound rfl) rfl ?_)) | refine s_seq ?_ | refine s_region ?_ | refine s_end ?_ | refine s_skip ?_)
    refine e_op (o_call (row_w bk [.slice A1 g.Levels.length c1, .slice A2 g.Pats.length c2, .slice A3 g.Nons.length c3, .slice A4 g.Prods.length c4] rfl A0 g.Terms.length c0 (.slice none 0 0) (some ⟨bn, 0, none⟩) g.Nons.length g.Nons.length (some ⟨bf, 0, none⟩) cf (bFix g) hinv (by omega) (by omega) Al
      l.length cl l rfl hx) rfl .nil
      (Can.and (Can.and (Can.blk .z) (Can.and (Can.osl Value.bool rfl kbool_enc (.s .z) (by omega)) (Can.orow Value.bool rfl kbool_enc (.s (.s .z)) (by omega) (fun r hr => by rw [hinv.rows r hr]; omega)))) (Can.ro hRl)) rfl ?_)
    rintro v V ⟨bt, rfl, rfl⟩
    repeat' (first | refine e_nil ?_ | ((refine e_op ?_); (refine o_n (peval_sound rfl) rfl ?_)) | refine s_seq ?_ | refine s_region ?_)
    refine s_ret ⟨_, _, res3 rfl rfl rfl rfl, .inr ⟨h0, bt, rfl, rfl⟩, ?_⟩
    repeat' (first | exact Ent.nil _ | refine Ent.tak tk ?_)

end Go.Proofs.YtcnpjhaedjncdaaGreatDoor

namespace Go.Proofs.YtcnpjhaedjncdaaGreatDoor
set_option linter.all false
open Go.Proofs.YtcnpjhaedjncdaaGreatDoor.E
attribute [local irreducible] EVX EVO EVL EV1 NEV
set_option maxRecDepth 10000
set_option maxHeartbeats 1000000

def sl (b n : Nat) : Value := .slice (some ⟨b, 0, none⟩) n n
def pv (l : Int) (s : Value) : Value := .agg #[.int .i64 l, s, .int .i64 0, .int .i64 0]
def ints (b : Nat) (l : List Int) : Asn := osl 3 1 (sl b l.length) l.length (l.map (Value.int .i64))
def strs (b : Nat) (l : List ByteArray) : Asn := osl 9 1 (sl b l.length) l.length (l.map Value.string)
def s0 : ByteArray := ⟨#[]⟩
def nA : ByteArray := ⟨#[65]⟩
end Go.Proofs.YtcnpjhaedjncdaaGreatDoor

namespace Go.Proofs.YtcnpjhaedjncdaaGreatDoor
set_option linter.all false
open Go.Proofs.YtcnpjhaedjncdaaGreatDoor.E

/-! What it is known of. -/
end Go.Proofs.YtcnpjhaedjncdaaGreatDoor

namespace Go.Proofs.YtcnpjhaedjncdaaGreatDoor
set_option linter.all false
open Go.Proofs.YtcnpjhaedjncdaaGreatDoor.E
attribute [local irreducible] EVX EVO EVL EV1 NEV
set_option maxRecDepth 10000
set_option maxHeartbeats 1000000

def lets (te : List Bool) : Nat → ByteArray
  | 0 => ⟨#[]⟩
  | k + 1 => if te.getD k false then lets te k ++ strOf [IntKind.u8.wrap (IntKind.i64.wrap (95 + (k : Int)))] else lets te k

end Go.Proofs.YtcnpjhaedjncdaaGreatDoor

namespace Go.Proofs.YtcnpjhaedjncdaaGreatDoor
set_option linter.all false
open Go.Proofs.YtcnpjhaedjncdaaGreatDoor.E
attribute [local irreducible] EVX EVO EVL EV1 NEV
set_option maxRecDepth 10000
set_option maxHeartbeats 1000000

end Go.Proofs.YtcnpjhaedjncdaaGreatDoor
