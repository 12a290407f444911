/-
  The engine, eighteenth part: arrays of numbers; structs that begin with one.
-/
import Derived.Test.YtbfjnldneemmiabE17
namespace Go.Proofs.Ytbfjnldneemmiab.E
set_option linter.all false
variable {E : Env} {fr : Frm} {U V : List Asn} {N : Frm → List Asn → Prop}


/-- The cells of an array of 256 numbers. -/
structure C256 where
  l : List Int
  h : l.length = 256

def dC (c : C256) (rest : List Value) : List Value := c.l.map (Value.int .i64) ++ rest
def C256.zero : C256 := ⟨List.replicate 256 0, List.length_replicate⟩
def C256.set (c : C256) (j : Nat) (v : Int) : C256 := ⟨c.l.set j v, by rw [List.length_set]; exact c.h⟩
def C256.get (c : C256) (j : Nat) : Int := c.l.getD j 0

theorem C256.ext {c d : C256} (h : c.l = d.l) : c = d := by cases c; cases d; simp only at h; subst h; rfl
theorem C256.get_eq (c : C256) {j : Nat} (h : j < c.l.length) : c.get j = c.l[j] := by unfold C256.get; rw [List.getD_eq_getElem?_getD, List.getElem?_eq_getElem h]; rfl
theorem C256.get_mem (c : C256) {j : Nat} (h : j < 256) : c.get j ∈ c.l := by rw [c.get_eq (by rw [c.h]; exact h)]; exact List.getElem_mem _
theorem dC_len (c : C256) (rest : List Value) : (dC c rest).length = 256 + rest.length := by unfold dC; rw [List.length_append, List.length_map, c.h]
theorem dC_app (c : C256) (r s : List Value) : dC c r ++ s = dC c (r ++ s) := by unfold dC; rw [List.append_assoc]
theorem dC_zero (rest : List Value) : List.replicate 256 (Value.int .i64 0) ++ rest = dC .zero rest := by unfold dC C256.zero; rw [List.map_replicate]
theorem dC_zero0 : List.replicate 256 (Value.int .i64 0) = dC .zero [] := by rw [← dC_zero, List.append_nil]
theorem dC_get (c : C256) (rest : List Value) {j : Nat} (h : j < 256) : (dC c rest)[j]? = some (.int .i64 (c.get j)) := by
  unfold dC
  have h2 : j < c.l.length := by rw [c.h]; exact h
  rw [List.getElem?_append_left (by rw [List.length_map]; exact h2), List.getElem?_map, List.getElem?_eq_getElem h2, c.get_eq h2]; rfl
theorem dC_rest (c : C256) (rest : List Value) {o : Nat} (h : 256 ≤ o) : (dC c rest)[o]? = rest[o - 256]? := by
  unfold dC
  rw [List.getElem?_append_right (by rw [List.length_map, c.h]; exact h), List.length_map, c.h]
theorem dC_set (c : C256) (rest : List Value) {j : Nat} (h : j < 256) (v : Int) : (dC c rest).set j (.int .i64 v) = dC (c.set j v) rest := by
  unfold dC C256.set
  rw [List.set_append_left _ _ (by rw [List.length_map, c.h]; exact h), List.map_set]
theorem dC_setR (c : C256) (rest : List Value) {o : Nat} (h : 256 ≤ o) (v : Value) : (dC c rest).set o v = dC c (rest.set (o - 256) v) := by
  unfold dC
  rw [List.set_append_right _ _ (by rw [List.length_map, c.h]; exact h), List.length_map, c.h]
theorem dC_one (c : C256) (rest : List Value) (h : ∀ u ∈ rest, oneB u = true) : ∀ u ∈ dC c rest, oneB u = true := by
  intro u hu
  rcases List.mem_append.1 hu with h1 | h1
  · obtain ⟨x, _, rfl⟩ := List.mem_map.1 h1; rfl
  · exact h u h1
theorem setMany_all (cs vs : List Value) (h : vs.length = cs.length) : setMany cs 0 vs = vs := by
  rw [setMany_splice vs cs 0 (by omega), List.take_zero, Nat.zero_add, h, List.drop_length]; simp
theorem C256.get_set (c : C256) (j k : Nat) (v : Int) (h : j < 256) : (c.set j v).get k = if k = j then v else c.get k := by
  unfold C256.get C256.set
  simp only [List.getD_eq_getElem?_getD, List.getElem?_set]
  by_cases e : j = k
  · subst e; rw [if_pos rfl, if_pos rfl, if_pos (by rw [c.h]; exact h)]; rfl
  · rw [if_neg e, if_neg (fun x => e x.symm)]
theorem dC_inj {c d : C256} {r s : List Value} (h : dC c r = dC d s) : c = d ∧ r = s := by
  unfold dC at h
  obtain ⟨h1, h2⟩ := List.append_inj h (by rw [List.length_map, List.length_map, c.h, d.h])
  refine ⟨C256.ext ?_, h2⟩
  exact (List.map_inj_right (fun a b hab => by cases hab; rfl)).1 h1

def kArr : Kd C256 where
  sz := 256
  R := fun _ _ cs x => cs = dC x [] ∧ ∀ v ∈ x.l, I64 v
  len := by rintro w S cs x ⟨rfl, _⟩; rw [dC_len]; rfl
  fr := fun _ h => h
  mono := fun _ h => h

set_option maxRecDepth 20000 in
theorem op_arr {P : Program} {t e : TypeId} (ht : P.underlying t = some (.array 256 e)) (he : P.underlying e = some (.int .i64)) (hc : P.cellsOf e = 1) (hn : P.cellsOf t = 256) : Opn P t kArr := by
  intro H enc w fuel cs x h _
  obtain ⟨xs, m, _, _, hl, hxl, hf⟩ := DataW.trod_array ht h
  rw [hn] at hl
  have each : ∀ i : Fin 256, ∃ v : Int, cs[i.1]? = some (.int .i64 v) ∧ I64 v := by
    rintro ⟨i, hi⟩
    have h1 := hf i hi
    rw [hc, Nat.mul_one] at h1
    have h2 : (cs.drop i).take 1 = [cs[i]'(by omega)] := by
      rw [List.drop_eq_getElem_cons (by omega)]; rfl
    rw [h2] at h1
    cases hx : xs[i]? with
    | none =>
      rw [List.getElem?_eq_none_iff] at hx
      omega
    | some y =>
      rw [hx] at h1
      obtain ⟨v, hv, _, hw⟩ := DataW.trod_int he h1
      simp only [List.cons.injEq, and_true] at hv
      refine ⟨v, by rw [List.getElem?_eq_getElem (by omega), hv], ?_⟩
      simp only [Lit.wf, Bool.and_eq_true, decide_eq_true_eq] at hw
      exact hw
  refine ⟨⟨List.ofFn fun i => Classical.choose (each i), List.length_ofFn⟩, ?_, ?_⟩
  · unfold dC
    rw [List.append_nil]
    apply List.ext_getElem?
    intro j
    by_cases hj : j < 256
    · have h1 := (Classical.choose_spec (each ⟨j, hj⟩)).1
      simp only at h1
      rw [h1, List.getElem?_map, List.getElem?_ofFn, dif_pos hj]; rfl
    · rw [List.getElem?_eq_none (by omega), List.getElem?_eq_none (by rw [List.length_map, List.length_ofFn]; omega)]
  · intro v hv
    obtain ⟨i, rfl⟩ := List.mem_ofFn.1 hv
    exact (Classical.choose_spec (each i)).2

/-! ### loads -/
theorem ld_after {i : TI} {cls rest : List Value} {n k : Nat} {v : Value} (h : cls.length = n) (ha : aggB i.d = false) (hk : rest[k]? = some v) {o : Nat} (ho : o = n + k) : loadL i (cls ++ rest) o = some v := by
  subst ho
  subst h
  unfold loadL
  simp only [ha, cond_false]
  rw [List.getElem?_append_right (by omega), Nat.add_sub_cancel_left, hk]

theorem ld_all {i : TI} {cs : List Value} {n : Nat} (h : cs.length = n) (ha : aggB i.d = true) (hs : i.size = n) {o : Nat} (ho : o = 0) : loadL i cs o = some (.agg cs.toArray) := by
  subst ho
  unfold loadL
  have : Nat.ble (0 + i.size) cs.length = true := by rw [Nat.ble_eq, Nat.zero_add, hs, h]; exact Nat.le_refl _
  simp only [ha, cond_true, this, List.drop_zero]
  rw [hs, ← h, List.take_length]

theorem ld_in {i : TI} {cls rest : List Value} {k : Nat} {v : Value} (ha : aggB i.d = false) (hk : cls[k]? = some v) {o : Nat} (ho : o = k) : loadL i (cls ++ rest) o = some v := by
  subst ho
  unfold loadL
  simp only [ha, cond_false]
  rw [List.getElem?_append_left (List.getElem?_eq_some_iff.1 hk).1, hk]

theorem ld_head {i : TI} {cls rest : List Value} {n : Nat} (h : cls.length = n) (ha : aggB i.d = true) (hs : i.size = n) {o : Nat} (ho : o = 0) : loadL i (cls ++ rest) o = some (.agg cls.toArray) := by
  subst ho
  unfold loadL
  have : Nat.ble (0 + i.size) (cls ++ rest).length = true := by rw [Nat.ble_eq, Nat.zero_add, hs, List.length_append]; omega
  simp only [ha, cond_true, this, List.drop_zero]
  rw [hs, ← h, List.take_left]


section loads
variable {t : TypeId} {x y : Operand} {i : TI} {b o : Nat} {T : TypeId} {c : C256} {rest : List Value} {v : Value} {U' : List Asn}

theorem n_dR (hx : val fr x = some (.pointer (some ⟨b, o, none⟩))) (ht : tl E.T t = some i) (hU : Tak (blk b T (dC c rest)) U U') (ha : aggB i.d = false) (ho : Nat.ble 256 o = true) (hk : rest[o - 256]? = some v) : NEV E (.load t x) fr U v := by
  refine n_load hx ht hU ?_
  unfold loadL
  rw [ha, cond_false, dC_rest _ _ (Nat.le_of_ble_eq_true ho), hk]

theorem n_dC (hx : val fr x = some (.pointer (some ⟨b, o, none⟩))) (ht : tl E.T t = some i) (hU : Tak (blk b T (dC c rest)) U U') (ha : aggB i.d = false) (j : Nat) (hj : j < 256) (ho : o = j) : NEV E (.load t x) fr U (.int .i64 (c.get j)) := by
  subst ho
  refine n_load hx ht hU ?_
  unfold loadL
  rw [ha, cond_false, dC_get _ _ hj]

theorem n_dA (hx : val fr x = some (.pointer (some ⟨b, 0, none⟩))) (ht : tl E.T t = some i) (hU : Tak (blk b T (dC c rest)) U U') (ha : aggB i.d = true) (hs : Nat.beq i.size (256 + rest.length) = true) : NEV E (.load t x) fr U (.agg (dC c rest).toArray) := by
  refine n_load hx ht hU ?_
  exact ld_all (n := i.size) (by rw [dC_len, Nat.eq_of_beq_eq_true hs]) ha rfl rfl

theorem n_dK (hx : val fr x = some (.pointer (some ⟨b, 0, none⟩))) (ht : tl E.T t = some i) (hU : Tak (blk b T (dC c rest)) U U') (ha : aggB i.d = true) (hs : Nat.beq i.size 256 = true) : NEV E (.load t x) fr U (.agg (dC c []).toArray) := by
  refine n_load hx ht hU ?_
  have := ld_head (i := i) (cls := dC c []) (rest := rest) (n := 256) (by rw [dC_len]; rfl) ha (Nat.eq_of_beq_eq_true hs) rfl
  rwa [dC_app, List.nil_append] at this

theorem n_idxD {ix : Operand} {e : TypeId} {k : IntKind} {q : Int} {len s1 b1 : Nat} {z1 : List Value} (hx : val fr x = some (.agg (dC c rest).toArray)) (hi : val fr ix = some (.int k q)) (ht : tl E.T t = some ⟨.arr len e, s1, b1, z1⟩) (he : tl E.T e = some i) (ha : aggB i.d = false) (hs : Nat.beq i.size 1 = true)
    (hl : Nat.ble len 256 = true) (j : Nat) (hj : q = (j : Int)) (hlt : j < len) : NEV E (.index t x ix) fr U (.int .i64 (c.get j)) := by
  subst hj
  intro a w dst ty pos af g hf _
  obtain ⟨inf, v0, hinf, _, hsz, _, _⟩ := ti_info (d := i.d) (s := i.size) (b := i.bytes) (z := i.zero) he
  have h1 : ((0 : Int) ≤ (j : Int) ∧ (j : Int) < (len : Int)) := by omega
  have hl2 := Nat.le_of_ble_eq_true hl
  have hs2 := Nat.eq_of_beq_eq_true hs
  have hsz2 : (sizeOf e).run E.P w = .ok 1 w := by rw [run_size hinf, hsz, hs2]
  have hc : (dC c rest).toArray[j]? = some (.int .i64 (c.get j)) := by rw [List.getElem?_toArray]; exact dC_get _ _ (by omega)
  have hag := run_isAgg (E := E) he w
  rw [ha] at hag
  simp only [execOp, hf.eval hx, hf.eval hi, Instr.index, asIntOf, Sem.run_bind, Sem.run_pure, Result.andThen_ok, run_under (u_arr ht), h1, and_self, if_true, hsz2, Int.toNat_natCast, Nat.mul_one, part, hag, Bool.false_eq_true, if_false, hc]

/-! ### stores -/
theorem o_dS {ty : TypeId} {pos : String} {af : Array Edge} {g : Option (Nat × Bool)} (hx : val fr x = some (.pointer (some ⟨b, o, none⟩))) (hy : val fr y = some v) (ht : tl E.T t = some i) (hs : Nat.beq i.size 1 = true) (hv : v.cells.toList = [v]) (h1 : oneB v = true)
    (ho : Nat.ble 256 o = true) (hl : Nat.ble (o + 1) (256 + rest.length) = true) (hU : Upd (blk b T (dC c rest)) (blk b T (dC c (rest.set (o - 256) v))) U U') (h : N fr U') : EV1 E ⟨none, .store t x y, ty, pos, af, g⟩ fr U N := by
  have e : setMany (dC c rest) o [v] = dC c (rest.set (o - 256) v) := by simp only [setMany]; rw [dC_setR _ _ (Nat.le_of_ble_eq_true ho)]
  rw [← e] at hU
  refine o_store hx hy ht hv ?_ (by simp [h1]) ?_ hU h
  · rw [Nat.eq_of_beq_eq_true hs]; rfl
  · rw [Nat.eq_of_beq_eq_true hs, dC_len]; exact hl

theorem o_dC {n : Int} {ty : TypeId} {pos : String} {af : Array Edge} {g : Option (Nat × Bool)} (hx : val fr x = some (.pointer (some ⟨b, o, none⟩))) (hy : val fr y = some (.int .i64 n)) (ht : tl E.T t = some i) (hs : Nat.beq i.size 1 = true)
    (j : Nat) (hj : j < 256) (ho : o = j) (hU : Upd (blk b T (dC c rest)) (blk b T (dC (c.set j n) rest)) U U') (h : N fr U') : EV1 E ⟨none, .store t x y, ty, pos, af, g⟩ fr U N := by
  subst ho
  have e : setMany (dC c rest) o [.int .i64 n] = dC (c.set o n) rest := by simp only [setMany]; rw [dC_set _ _ hj]
  rw [← e] at hU
  refine o_store hx hy ht rfl ?_ rfl ?_ hU h
  · rw [Nat.eq_of_beq_eq_true hs]; rfl
  · rw [Nat.eq_of_beq_eq_true hs, dC_len, Nat.ble_eq]; omega

theorem o_dAll {c2 : C256} {r2 : List Value} {ty : TypeId} {pos : String} {af : Array Edge} {g : Option (Nat × Bool)} (hx : val fr x = some (.pointer (some ⟨b, 0, none⟩))) (hy : val fr y = some (.agg (dC c2 r2).toArray)) (ht : tl E.T t = some i)
    (hU : Upd (blk b T (dC c rest)) (blk b T (dC c2 r2)) U U') (hs : Nat.beq i.size (256 + r2.length) = true) (hl : Nat.beq rest.length r2.length = true) (h1 : r2.all oneB = true) (h : N fr U') : EV1 E ⟨none, .store t x y, ty, pos, af, g⟩ fr U N := by
  have hl2 := Nat.eq_of_beq_eq_true hl
  have e : setMany (dC c rest) 0 (dC c2 r2) = dC c2 r2 := setMany_all _ _ (by rw [dC_len, dC_len, hl2])
  rw [← e] at hU
  refine o_store hx hy ht rfl ?_ ?_ ?_ hU h
  · rw [Nat.eq_of_beq_eq_true hs]; simp only [Value.cells]; rw [dC_len]; exact Nat.beq_refl _
  · simp only [Value.cells]
    rw [List.all_eq_true]
    exact dC_one c2 r2 (List.all_eq_true.1 h1)
  · rw [Nat.eq_of_beq_eq_true hs, dC_len, hl2, Nat.zero_add, Nat.ble_eq]; exact Nat.le_refl _

theorem o_dNew {d : Nat} {ty : TypeId} {pos : String} {af : Array Edge} {g : Option (Nat × Bool)} (ht : tl E.T t = some i) (hz : i.zero = List.replicate 256 (Value.int .i64 0) ++ rest) (hd : Nat.ble (d + 1) E.n = true)
    (h : ∀ b, N ((d, .pointer (some ⟨b, 0, none⟩)) :: fr) (blk b t (dC .zero rest) :: U)) : EV1 E ⟨some d, .alloc t, ty, pos, af, g⟩ fr U N := by
  refine o_alloc ht hd (fun b => ?_)
  rw [hz, dC_zero]; exact h b
theorem o_dNew0 {d : Nat} {ty : TypeId} {pos : String} {af : Array Edge} {g : Option (Nat × Bool)} (ht : tl E.T t = some i) (hz : i.zero = List.replicate 256 (Value.int .i64 0)) (hd : Nat.ble (d + 1) E.n = true)
    (h : ∀ b, N ((d, .pointer (some ⟨b, 0, none⟩)) :: fr) (blk b t (dC .zero []) :: U)) : EV1 E ⟨some d, .alloc t, ty, pos, af, g⟩ fr U N := by
  refine o_alloc ht hd (fun b => ?_)
  rw [hz, dC_zero0]; exact h b
/-! ### by the class search -/
class TakD (b : Nat) (U : List Asn) (T : outParam TypeId) (c : outParam C256) (rest : outParam (List Value)) (W : outParam (List Asn)) : Prop where
  tak : Tak (blk b T (dC c rest)) U W
instance TakD.s {b : Nat} {U : List Asn} {T : TypeId} {c : C256} {rest : List Value} {W : List Asn} {B : Asn} [h : TakD b U T c rest W] : TakD b (B :: U) T c rest (B :: W) := ⟨.s h.tak⟩
instance TakD.z {b : Nat} {U : List Asn} {T : TypeId} {c : C256} {rest : List Value} : TakD b (blk b T (dC c rest) :: U) T c rest U := ⟨.z⟩
instance TakD.n {b : Nat} {U : List Asn} {T : TypeId} {c : C256} {rest : List Value} {W : List Asn} [h : TakD b U T c rest W] : TakD b ([] ++ U) T c rest W := h
instance TakD.a {b : Nat} {L U : List Asn} {T : TypeId} {c : C256} {rest : List Value} {W : List Asn} {B : Asn} [h : TakD b (B :: (L ++ U)) T c rest W] : TakD b ((B :: L) ++ U) T c rest W := h
theorem td {b : Nat} {U : List Asn} {T : TypeId} {c : C256} {rest : List Value} {W : List Asn} [h : TakD b U T c rest W] : TakD b U T c rest W := h
theorem dR (hx : val fr x = some (.pointer (some ⟨b, o, none⟩))) (ht : tl E.T t = some i) (hU : TakD b U T c rest U') (ha : aggB i.d = false) (ho : Nat.ble 256 o = true) (hk : rest[o - 256]? = some v) : NEV E (.load t x) fr U v := n_dR hx ht hU.tak ha ho hk
theorem dA (hx : val fr x = some (.pointer (some ⟨b, 0, none⟩))) (ht : tl E.T t = some i) (hU : TakD b U T c rest U') (ha : aggB i.d = true) (hs : Nat.beq i.size (256 + rest.length) = true) : NEV E (.load t x) fr U (.agg (dC c rest).toArray) := n_dA hx ht hU.tak ha hs
theorem dK (hx : val fr x = some (.pointer (some ⟨b, 0, none⟩))) (ht : tl E.T t = some i) (hU : TakD b U T c rest U') (ha : aggB i.d = true) (hs : Nat.beq i.size 256 = true) : NEV E (.load t x) fr U (.agg (dC c []).toArray) := n_dK hx ht hU.tak ha hs
theorem dS {W : List Asn} {ty : TypeId} {pos : String} {af : Array Edge} {g : Option (Nat × Bool)} (hx : val fr x = some (.pointer (some ⟨b, o, none⟩))) (hy : val fr y = some v) (ht : tl E.T t = some i) (hs : Nat.beq i.size 1 = true) (hv : v.cells.toList = [v]) (h1 : oneB v = true)
    (ho : Nat.ble 256 o = true) (hW : TakD b U T c rest W) (hU : UpdC (blk b T (dC c rest)) (blk b T (dC c (rest.set (o - 256) v))) U U') (hl : Nat.ble (o + 1) (256 + rest.length) = true) (h : N fr U') : EV1 E ⟨none, .store t x y, ty, pos, af, g⟩ fr U N := o_dS hx hy ht hs hv h1 ho hl hU.upd h
theorem dAll {W : List Asn} {c2 : C256} {r2 : List Value} {ty : TypeId} {pos : String} {af : Array Edge} {g : Option (Nat × Bool)} (hx : val fr x = some (.pointer (some ⟨b, 0, none⟩))) (hy : val fr y = some (.agg (dC c2 r2).toArray)) (ht : tl E.T t = some i)
    (hW : TakD b U T c rest W) (hU : UpdC (blk b T (dC c rest)) (blk b T (dC c2 r2)) U U') (hs : Nat.beq i.size (256 + r2.length) = true) (hl : Nat.beq rest.length r2.length = true) (h1 : r2.all oneB = true) (h : N fr U') : EV1 E ⟨none, .store t x y, ty, pos, af, g⟩ fr U N := o_dAll hx hy ht hU.upd hs hl h1 h

end loads

/-! ### structs that are built -/
theorem n_build {t : TypeId} {s1 b1 : Nat} {fs : List (Nat × Nat)} {z cs : List Value} {parts : Array (Nat × Operand)} {ps : List (Nat × Value)} (ht : tl E.T t = some ⟨.struct fs, s1, b1, z⟩) (hp : partVals fr parts.toList = some ps) (ha : fs.all (fun p => Nat.ble 1 p.2) = true)
    (hf : fillL fs z ps = some cs) : NEV E (.build t parts) fr U (.agg cs.toArray) := by
  refine peval_sound ?_
  simp only [peval, ht, hp, ha, hf]

theorem fillD_one {fs : List (Nat × Nat)} {i o : Nat} {v : Value} {ps : List (Nat × Value)} {c : C256} {rest : List Value} (hi : fs[i]? = some (o, 1)) (ho : 256 ≤ o) (hv : v.cells.toList = [v]) (hl : o + 1 ≤ 256 + rest.length) :
    fillL fs (dC c rest) ((i, v) :: ps) = fillL fs (dC c (rest.set (o - 256) v)) ps := by
  have e : setMany (dC c rest) o [v] = dC c (rest.set (o - 256) v) := by simp only [setMany]; rw [dC_setR _ _ ho]
  rw [fillL, hi]
  simp only [hv, List.length_singleton, ne_eq, not_true_eq_false, if_false]
  rw [if_pos (by rw [dC_len]; exact hl), e]

theorem fillD_arr {fs : List (Nat × Nat)} {i : Nat} {ps : List (Nat × Value)} {c c2 : C256} {r2 rest : List Value} (hi : fs[i]? = some (0, 256 + r2.length)) (hl : r2.length ≤ rest.length) :
    fillL fs (dC c rest) ((i, .agg (dC c2 r2).toArray) :: ps) = fillL fs (dC c2 (r2 ++ rest.drop r2.length)) ps := by
  have e : setMany (dC c rest) 0 (dC c2 r2) = dC c2 (r2 ++ rest.drop r2.length) := by
    rw [setMany_splice _ _ 0 (by rw [dC_len, dC_len]; omega), List.take_zero, List.nil_append, Nat.zero_add, dC_len, ← dC_app]
    congr 1
    unfold dC
    rw [List.drop_append, List.length_map, c.h, List.drop_of_length_le (by rw [List.length_map, c.h]; omega), List.nil_append, Nat.add_sub_cancel_left]
  have e1 : (Value.agg (dC c2 r2).toArray).cells.toList = dC c2 r2 := rfl
  have e2 : ¬ ((dC c2 r2).length ≠ 256 + r2.length) := by rw [dC_len]; simp
  have e3 : 0 + (256 + r2.length) ≤ (dC c rest).length := by rw [dC_len]; omega
  rw [fillL, hi]
  simp only [e1]
  rw [if_neg e2, if_pos e3, e]

theorem fillD_nil {fs : List (Nat × Nat)} {cs : List Value} : fillL fs cs [] = some cs := rfl

/-! ### arrays, compared -/
theorem n_neqD {P : Program} {t e t2 : TypeId} {x y : Operand} {c d : C256} {s1 b1 s2 b2 : Nat} {z1 z2 : List Value} (hP : E.P = P) (hq : P.eqGuardType P.depth t = false) (hx : val fr x = some (.agg (dC c []).toArray)) (hy : val fr y = some (.agg (dC d []).toArray)) (ht : tl E.T t = some ⟨.arr 256 e, s1, b1, z1⟩) (he : tl E.T e = some ⟨.int .i64, s2, b2, z2⟩) (hs : Nat.beq s2 1 = true) :
    NEV E (.binOp .neq t x y t2) fr U (.bool (!decide (c.l = d.l))) := by
  subst hP
  intro a w dst ty pos af g hf _
  obtain ⟨inf, v0, hinf, _, hsz, _, _⟩ := ti_info he
  have hs2 := Nat.eq_of_beq_eq_true hs
  have hsz2 : ∀ w : World, (sizeOf e).run E.P w = .ok 1 w := fun w => by rw [run_size hinf, hsz, hs2]
  have hpk : E.P.plainKey e = true := by unfold Program.plainKey; rw [u_int he]
  have hp : ∀ (c : C256) (j : Nat), j < 256 → (part e (dC c []).toArray (j * 1)).run E.P w = .ok (.int .i64 (c.get j)) w := fun c j hj =>
    run_part_plain (P := E.P) w hpk (by rw [Nat.mul_one, List.getElem?_toArray]; exact dC_get _ _ hj)
  have loop : ∀ (js : List Nat), (∀ j ∈ js, j < 256) → (forIn js ((none, ()) : Option Bool × Unit) fun i __s => do
              let __do_lift ← part e (dC c []).toArray (i * 1)
              let __do_lift_1 ← part e (dC d []).toArray (i * 1)
              let __do_lift ← Op.equalIn 9999 e __do_lift __do_lift_1
              if (!__do_lift) = true then pure (ForInStep.done (some false, ())) else pure (ForInStep.yield (none, ())) : Sem (Option Bool × Unit)).run E.P w =
        .ok (if js.all (fun j => decide (c.get j = d.get j)) then (none, ()) else (some false, ())) w := by
    intro js
    induction js with
    | nil => intro _; simp
    | cons j js ih =>
      intro h
      simp only [List.forIn_cons, Sem.run_bind, hp c j (h j (List.mem_cons_self ..)), hp d j (h j (List.mem_cons_self ..)), Result.andThen_ok, run_equalIn_int w 9998 e .i64 .i64 _ _ (u_int he), List.all_cons]
      by_cases hj : c.get j = d.get j
      · simp only [hj, beq_self_eq_true, Bool.not_true, Bool.false_eq_true, if_false, Sem.run_pure, Result.andThen_ok, decide_true, Bool.true_and]
        exact ih (fun k hk => h k (List.mem_cons_of_mem _ hk))
      · have : (c.get j == d.get j) = false := by simpa using hj
        simp [this, hj]
  have hE : (Op.equal t (.agg (dC c []).toArray) (.agg (dC d []).toArray)).run E.P w = .ok (decide (c.l = d.l)) w := by
    unfold Op.equal Op.maxDepth Op.equalIn
    simp only [Sem.run_bind, run_under (u_arr ht), Result.andThen_ok, hsz2]
    rw [Std.Legacy.Range.forIn_eq_forIn_range']
    have e1 : List.range' ([:256] : Std.Legacy.Range).start ([:256] : Std.Legacy.Range).size ([:256] : Std.Legacy.Range).step = List.range 256 := by
      rw [List.range_eq_range']; rfl
    rw [e1, loop (List.range 256) (fun j hj => List.mem_range.1 hj)]
    have e2 : (List.range 256).all (fun j => decide (c.get j = d.get j)) = decide (c.l = d.l) := by
      rw [Bool.eq_iff_iff, List.all_eq_true, decide_eq_true_eq]
      constructor
      · intro h
        apply List.ext_getElem (by rw [c.h, d.h])
        intro j h1 h2
        have := h j (List.mem_range.2 (by rw [← c.h]; exact h1))
        rw [decide_eq_true_eq, c.get_eq h1, d.get_eq h2] at this
        exact this
      · intro h j _
        rw [decide_eq_true_eq, C256.ext h]
    rw [e2]
    cases decide (c.l = d.l) <;> simp
  simp [execOp, hf.eval hx, hf.eval hy, eqGuard, hq, binOp, u_arr ht, hE]

attribute [irreducible] dC

end Go.Proofs.Ytbfjnldneemmiab.E
