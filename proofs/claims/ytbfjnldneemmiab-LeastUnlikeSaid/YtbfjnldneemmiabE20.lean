/-
  The engine, twentieth part: regions that draw, operation by operation: moves at once; values before a barrier; the barrier; then anew.
-/
import Derived.Test.YtbfjnldneemmiabE19
namespace Go.Proofs.Ytbfjnldneemmiab.E
set_option linter.all false
variable {E : Env} {fr : Frm} {U V : List Asn} {K : Frm → List Asn → Prop} {k : List It} {ops : Array Oper}

def EVP (E : Env) (K : Frm → List Asn → Prop) (k : List It) (ops : Array Oper) (fuel : Nat) (done : List Nat) (fr : Frm) (U : List Asn) : Prop :=
  Region.noSelect ops = true → ∀ a w, Clo ops (lset ops done) → Fr E fr a → Mem E U w → wpAny E.P .any ops (post E K k) fuel (lset ops done) a w

/-- z is the next barrier; V stays true until then. -/
def EVQ (E : Env) (K : Frm → List Asn → Prop) (k : List It) (ops : Array Oper) (z : Nat) (V : List Asn) (fuel : Nat) (done : List Nat) (fr : Frm) (U : List Asn) : Prop :=
  Region.noSelect ops = true → ∀ a w, Clo ops (lset ops done) → Fr E fr a → Mem E U w → wpAnyB E.P ops (post E K k) z (fun w => Mem E V w) fuel (lset ops done) a w

theorem s_P {id : Nat} (hm : E.P.follows .mixedOrders = true) (hs : Region.noSelect ops = true) (h : EVP E K k ops ops.size [] fr U) : EVS E K (.code (.region id ops true) :: k) fr U := by
  intro a w hf hmem
  refine wp_region_any hm ?_
  have hc : Clo ops (lset ops []) := by
    intro m o ho hl e he hb
    have hm : m < ops.size := (Array.getElem?_eq_some_iff.1 ho).1
    rw [lset_get hm] at hl
    cases hl
  have := h hs a { w with drawn := w.drawn + 1 } hc hf hmem.drew
  rw [lset_nil] at this
  exact this

theorem p_done {fuel : Nat} {done : List Nat} (hr : Region.ready .any ops (lset ops done) = []) (h : EVS E K k fr U) : EVP E K k ops fuel done fr U := by
  intro _ a w _ hf hm
  cases fuel with
  | zero => exact ⟨hr, fr, U, h, hf, hm⟩
  | succ f => exact ⟨fun _ => ⟨fr, U, h, hf, hm⟩, fun i hi => by rw [hr] at hi; cases hi⟩

/-- A move, taken at once. -/
theorem p_mv {fuel : Nat} {done : List Nat} (i : Nat) {d : Nat} {x : Operand} {ty : TypeId} {pos : String} {af : Array Edge} {v : Value} (hi : ops[i]? = some ⟨some d, .move x, ty, pos, af, none⟩)
    (hx : val fr x = some v) (hok : takeOk ops done i = true) (hd : Nat.ble (d + 1) E.n = true) (h : EVP E K k ops fuel (i :: done) ((d, v) :: fr) U) : EVP E K k ops (fuel + 1) done fr U := by
  intro hs a w hc hf hm
  simp only [takeOk, Bool.and_eq_true] at hok
  have hr : i ∈ Region.ready .any ops (lset ops done) := by simpa using hok.2.1
  refine wpAny_first (v := v) hi (Region.noSelect_spec hs) (fun c a w h => post_panic h) _ _ _ _ (Region.free_spec hi hok.2.2) hr (.inl ⟨rfl, fun w => ?_⟩) ?_
  · simp [execOp, hf.eval hx]
  · have hc2 := hc.set hr
    rw [lset_cons] at hc2 ⊢
    exact h hs _ w hc2 (hf.put (Nat.le_of_ble_eq_true hd) v) hm

theorem p_bar {fuel : Nat} {done : List Nat} (z : Nat) (V : List Asn) (h : EVQ E K k ops z V fuel done fr U) : EVP E K k ops fuel done fr U :=
  fun hs a w hc hf hm => wpAny_of_B _ _ _ _ (h hs a w hc hf hm)

theorem p_barU {fuel : Nat} {done : List Nat} (z : Nat) (h : EVQ E K k ops z U fuel done fr U) : EVP E K k ops fuel done fr U := p_bar z U h

/-- The only one that may come up. -/
theorem p_1 {fuel : Nat} {done : List Nat} (i : Nat) {o : Oper} (hr : Region.ready .any ops (lset ops done) = [i]) (ho : ops[i]? = some o) (hg : o.guard = none)
    (h : EV1 E o fr U (EVP E K k ops fuel (i :: done))) : EVP E K k ops (fuel + 1) done fr U := by
  intro hs a w hc hf hm
  refine ⟨fun h2 => (by rw [hr] at h2; cases h2), fun j hj => ?_⟩
  have hc2 := hc.set hj
  rw [hr, List.mem_singleton] at hj
  subst hj
  unfold wpOp
  have hw : Region.wanted o (yielded ops a.tmps) = true := by simp [Region.wanted, hg]
  simp only [ho, hw, if_true]
  refine .inl (Oper.wp_mono2 ?_ (h a w hf hm))
  rintro a' w' ⟨fr', U', hk, hf', hm'⟩
  rw [lset_cons] at hc2 ⊢
  exact hk hs a' w' hc2 hf' hm'

theorem q_take {fuel : Nat} {done : List Nat} {z : Nat} (i : Nat) {d : Nat} {o : Op} {ty : TypeId} {pos : String} {af : Array Edge} {g : Option (Nat × Bool)} {v : Value} (hi : ops[i]? = some ⟨some d, o, ty, pos, af, g⟩)
    (hy : ∀ a, Fr E fr a → YieldsIf E.P ops (fun w => Mem E V w) ⟨some d, o, ty, pos, af, g⟩ v a) (hok : takeOk ops done i = true) (hw : (!Nat.beq i z && waits ops 12 z i) = true) (hV : Ent U V) (hd : Nat.ble (d + 1) E.n = true)
    (h : EVQ E K k ops z V fuel (i :: done) ((d, v) :: fr) U) : EVQ E K k ops z V (fuel + 1) done fr U := by
  intro hs a w hc hf hm
  simp only [takeOk, Bool.and_eq_true] at hok
  rw [Bool.and_eq_true] at hw
  have hr : i ∈ Region.ready .any ops (lset ops done) := by simpa using hok.2.1
  have hne : i ≠ z := fun e => by subst e; simp at hw
  have hc2 := hc.set hr
  rw [lset_cons] at hc2
  have key := h hs _ w hc2 (hf.put (Nat.le_of_ble_eq_true hd) v) hm
  rw [← lset_cons] at key
  exact wpAnyB_first hi (Region.noSelect_spec hs) (fun c a w h => post_panic h) hne (fun _ => ⟨12, hw.2⟩) _ _ _ _ hc (Region.free_spec hi hok.2.2) hr (hy a hf) (hm.ent hV) key

theorem q_n {fuel : Nat} {done : List Nat} {z : Nat} (i : Nat) {d : Nat} {o : Op} {ty : TypeId} {pos : String} {af : Array Edge} {v : Value} (hi : ops[i]? = some ⟨some d, o, ty, pos, af, none⟩)
    (hn : NEV E o fr V v) (hok : takeOk ops done i = true) (hw : (!Nat.beq i z && waits ops 12 z i) = true) (hV : Ent U V) (hd : Nat.ble (d + 1) E.n = true)
    (h : EVQ E K k ops z V fuel (i :: done) ((d, v) :: fr) U) : EVQ E K k ops z V (fuel + 1) done fr U :=
  q_take i hi (fun a hf => .inl ⟨rfl, fun w hw => hn a w _ _ _ _ _ hf hw⟩) hok hw hV hd h

theorem q_ny {fuel : Nat} {done : List Nat} {z : Nat} (i : Nat) {d : Nat} {o : Op} {ty : TypeId} {pos : String} {af : Array Edge} {v : Value} {j : Nat} {b : Bool} (hi : ops[i]? = some ⟨some d, o, ty, pos, af, some (j, b)⟩) (hg : gval ops fr j = some b)
    (hn : NEV E o fr V v) (hok : takeOk ops done i = true) (hw : (!Nat.beq i z && waits ops 12 z i) = true) (hV : Ent U V) (hd : Nat.ble (d + 1) E.n = true)
    (h : EVQ E K k ops z V fuel (i :: done) ((d, v) :: fr) U) : EVQ E K k ops z V (fuel + 1) done fr U :=
  q_take i hi (fun a hf => .inl ⟨by simp [Region.wanted, gval_yielded hf hg], fun w hw => hn a w _ _ _ _ _ hf hw⟩) hok hw hV hd h

theorem q_z {fuel : Nat} {done : List Nat} (z : Nat) {o : Oper} (hr : Region.ready .any ops (lset ops done) = [z]) (ho : ops[z]? = some o) (hg : o.guard = none)
    (h : EV1 E o fr U (EVP E K k ops fuel (z :: done))) : EVQ E K k ops z V (fuel + 1) done fr U := by
  intro hs a w hc hf hm
  refine ⟨fun h2 => (by rw [hr] at h2; cases h2), fun j hj => ?_⟩
  have hc2 := hc.set hj
  rw [hr, List.mem_singleton] at hj
  subst hj
  unfold wpOp
  have hw : Region.wanted o (yielded ops a.tmps) = true := by simp [Region.wanted, hg]
  simp only [ho, hw, if_true]
  refine .inl (Oper.wp_mono2 ?_ (h a w hf hm))
  rintro a' w' ⟨fr', U', hk, hf', hm'⟩
  refine ⟨fun _ => ?_, fun h3 => absurd rfl h3⟩
  rw [lset_cons] at hc2 ⊢
  exact hk hs a' w' hc2 hf' hm'

/-- One that acts, and leaves V. -/
theorem q_1 {fuel : Nat} {done : List Nat} {z : Nat} (i : Nat) {o : Oper} (hr : Region.ready .any ops (lset ops done) = [i]) (ho : ops[i]? = some o) (hg : o.guard = none) (hz : Nat.beq i z = false)
    (h : EV1 E o fr U (fun fr' U' => Ent U' V ∧ EVQ E K k ops z V fuel (i :: done) fr' U')) : EVQ E K k ops z V (fuel + 1) done fr U := by
  intro hs a w hc hf hm
  refine ⟨fun h2 => (by rw [hr] at h2; cases h2), fun j hj => ?_⟩
  have hc2 := hc.set hj
  rw [hr, List.mem_singleton] at hj
  subst hj
  unfold wpOp
  have hw : Region.wanted o (yielded ops a.tmps) = true := by simp [Region.wanted, hg]
  simp only [ho, hw, if_true]
  refine .inl (Oper.wp_mono2 ?_ (h a w hf hm))
  rintro a' w' ⟨fr', U', ⟨he, hk⟩, hf', hm'⟩
  refine ⟨fun e => (by subst e; simp at hz), fun _ => ⟨hm'.ent he, ?_⟩⟩
  rw [lset_cons] at hc2 ⊢
  exact hk hs a' w' hc2 hf' hm'

theorem n_look {κ : Type} [DecidableEq κ] {P : Program} {t kt e : TypeId} {s1 b1 : Nat} {z1 : List Value} {z v : Value} {x y : Operand} {b : Nat} {k : κ} {enc : κ → Value} {l : List (κ × Value)} {U' : List Asn} (hl : lookK l k = some v) (hP : E.P = P) (K : MKey P kt enc) (hz : ∀ w, (zeroValue e).run P w = .ok z w)
    (ht : tl E.T t = some ⟨.map kt e, s1, b1, z1⟩) (hx : val fr x = some (.map (some b))) (hy : val fr y = some (enc k)) (hU : Tak (mapA enc b l) U U') : NEV E (.lookup t x y false) fr U v := by
  have := n_lookup hP K hz ht hx hy hU
  rwa [hl] at this

/-- An element of several cells out of a slice that is read. -/
theorem n_load_rdA {α : Type} {kd : Kd α} {bytes n c : Nat} {xs : List α} (enc : α → List Value) (hk : ∀ w S cs x, kd.R w S cs x → cs = enc x) {t : TypeId} {x : Operand} {i : TI} {b o o' : Nat} {U' : List Asn}
    (hx : val fr x = some (.pointer (some ⟨b, o', none⟩))) (ht : tl E.T t = some i) (ha : aggB i.d = true) (hU : Tak (rdA (kslice bytes kd) [.slice (some ⟨b, o, none⟩) n c] xs) U U') (j : Nat) (hj : j < xs.length) (hs : i.size = kd.sz) (ho : o' = o + j * kd.sz) :
    NEV E (.load t x) fr U (.agg (enc xs[j]).toArray) := by
  refine n_load_of hx ht (fun w S hst => ?_)
  obtain ⟨S1, ⟨A, c', e, _, _, h3⟩, _⟩ := hU.mem hst
  cases e
  obtain ⟨b', o2, es, e, _, hR, hc⟩ := h3 j hj
  cases e
  have he := hk _ _ _ _ hR
  subst he
  subst ho
  exact loads_agg ha (by rw [kd.len hR, hs]) hc

theorem n_subI {x y : Operand} {t t2 : TypeId} {a b : Int} (hx : val fr x = some (.int .i64 a)) (hy : val fr y = some (.int .i64 b)) (h1 : -9223372036854775808 ≤ a - b) (h2 : a - b ≤ 9223372036854775807) : NEV E (.binOp .sub t x y t2) fr U (.int .i64 (a - b)) := by
  have := peval_sound (E := E) (U := U) (fr := fr) (o := .binOp .sub t x y t2) (v := .int .i64 (IntKind.i64.wrap (a - b))) (by simp [peval, hx, hy, intBin])
  rwa [wrap_i64 h1 h2] at this
theorem n_addI {x y : Operand} {t t2 : TypeId} {a b : Int} (hx : val fr x = some (.int .i64 a)) (hy : val fr y = some (.int .i64 b)) (h1 : -9223372036854775808 ≤ a + b) (h2 : a + b ≤ 9223372036854775807) : NEV E (.binOp .add t x y t2) fr U (.int .i64 (a + b)) := by
  have := peval_sound (E := E) (U := U) (fr := fr) (o := .binOp .add t x y t2) (v := .int .i64 (IntKind.i64.wrap (a + b))) (by simp [peval, hx, hy, intBin])
  rwa [wrap_i64 h1 h2] at this

theorem p_join {fuel : Nat} {done : List Nat} {ι : Type} (frX : ι → Frm) (UX : ι → List Asn) (hfin : ∀ x, EVS E K k (frX x) (UX x)) (h : (∀ x, EVS E K k (frX x) (UX x)) → EVP E K k ops fuel done fr U) :
    EVP E K k ops fuel done fr U := h hfin

/-! ### what a function hands back, the first out of a cell -/
theorem rescD {fn : Func} {p : Tmp} {t T : TypeId} {i : TI} {b : Nat} {c : C256} {rest : List Value} {U' : List Asn} (h : fn.results = #[.cell p t]) (hp : look fr p = some (.pointer (some ⟨b, 0, none⟩)))
    (ht : tl E.T t = some i) (hU : Tak (blk b T (dC c rest)) U U') (ha : aggB i.d = true) (hs : Nat.beq i.size (256 + rest.length) = true) : Res E fn fr U (.agg (dC c rest).toArray) :=
  resc h hp ht hU (ld_all (n := i.size) (by rw [dC_len, Nat.eq_of_beq_eq_true hs]) ha rfl rfl)

theorem resc2 {fn : Func} {p q : Tmp} {t : TypeId} {i : TI} {b : Nat} {T : TypeId} {cs : List Value} {v v2 : Value} {U' : List Asn} (h : fn.results = #[.cell p t, .tmp q]) (hp : look fr p = some (.pointer (some ⟨b, 0, none⟩)))
    (ht : tl E.T t = some i) (hU : Tak (blk b T cs) U U') (hl : loadL i cs 0 = some v) (hq : look fr q = some v2) : Res E fn fr U (.tuple #[v, v2]) := fun a w hf hm => by
  obtain ⟨S1, ⟨_, hb⟩, _⟩ := hm.tak hU
  have hc : ∀ j u, cs[j]? = some u → w.cell? ⟨b, j, none⟩ = some u := fun j u hu => by rw [cell_of_row w b j _ _ _ hb]; simpa using hu
  have h1 := hf.frm p _ hp
  have h2 := hf.frm q _ hq
  simp [results, h, h1, h2, asAddr, run_loadVar ht hc hl]

theorem rescD2 {fn : Func} {p q : Tmp} {t T : TypeId} {i : TI} {b : Nat} {c : C256} {rest : List Value} {v2 : Value} {U' : List Asn} (h : fn.results = #[.cell p t, .tmp q]) (hp : look fr p = some (.pointer (some ⟨b, 0, none⟩)))
    (ht : tl E.T t = some i) (hU : Tak (blk b T (dC c rest)) U U') (ha : aggB i.d = true) (hs : Nat.beq i.size (256 + rest.length) = true) (hq : look fr q = some v2) : Res E fn fr U (.tuple #[.agg (dC c rest).toArray, v2]) :=
  resc2 h hp ht hU (ld_all (n := i.size) (by rw [dC_len, Nat.eq_of_beq_eq_true hs]) ha rfl rfl) hq

end Go.Proofs.Ytbfjnldneemmiab.E
