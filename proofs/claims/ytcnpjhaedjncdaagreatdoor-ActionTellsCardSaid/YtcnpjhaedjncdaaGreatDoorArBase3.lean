/-
  Part 3 of what the law's walk stands on: lemmas and contracts, each proved here without a condition but those that it names.
-/
import Derived.Test.YtcnpjhaedjncdaaGreatDoorArBase2
import Derived.Laws.StructEq
import Derived.ChangeKeysEq
import Derived.Laws.Cover3
import Derived.Sort.Grow
import Derived.Deep.Draws
import Derived.Shelf.SlSortCmp.NoneTotal
import Derived.Shelf.SlicesG.Cmp
import Derived.Shelf.Lay
import Derived.Ground.SlsfProg
import Derived.Ground.SlgcProg
import Derived.Lib.Builder
import Derived.Shelf.Strings.Builder1
import Derived.Shelf.Strconv.Itoa3
import Derived.Ground.NamesProg
import Derived.Laws.CopyOwn
import Derived.Laws.IdiomCopy
import Derived.WideKeyEntry
import Derived.Scope

namespace Go.Proofs.YtcnpjhaedjncdaaGreatDoor.E
set_option linter.all false
variable {E : Env} {fr : Frm} {U V : List Asn} {K : Frm → List Asn → Prop} {k : List It} {ops : Array Oper}

def EVP (E : Env) (K : Frm → List Asn → Prop) (k : List It) (ops : Array Oper) (fuel : Nat) (done : List Nat) (fr : Frm) (U : List Asn) : Prop :=
  Region.noSelect ops = true → ∀ a w, Clo ops (lset ops done) → Fr E fr a → Mem E U w → wpAny E.P .any ops (post E K k) fuel (lset ops done) a w

/-- z is the next barrier; V stays true until then. -/
def EVQ (E : Env) (K : Frm → List Asn → Prop) (k : List It) (ops : Array Oper) (z : Nat) (V : List Asn) (fuel : Nat) (done : List Nat) (fr : Frm) (U : List Asn) : Prop :=
  Region.noSelect ops = true → ∀ a w, Clo ops (lset ops done) → Fr E fr a → Mem E U w → wpAnyB E.P ops (post E K k) z (fun w => Mem E V w) fuel (lset ops done) a w

theorem s_P {id : Nat} (hm : E.P.follows .mixedOrders = true) (hs : Region.noSelect ops = true) (h : EVP E K k ops ops.size [] fr U) : EVS E K (.code (.region id ops true) :: k) fr U := by
  intro a w hf hmem
  refine wp_region_any hm ?_
  have hc : Clo ops (lset ops []) := by
    intro m o ho hl e he hb
    have hm : m < ops.size := (Array.getElem?_eq_some_iff.1 ho).1
    rw [lset_get hm] at hl
    cases hl
  have := h hs a { w with drawn := w.drawn + 1 } hc hf hmem.drew
  rw [lset_nil] at this
  exact this

theorem p_done {fuel : Nat} {done : List Nat} (hr : Region.ready .any ops (lset ops done) = []) (h : EVS E K k fr U) : EVP E K k ops fuel done fr U := by
  intro _ a w _ hf hm
  cases fuel with
  | zero => exact ⟨hr, fr, U, h, hf, hm⟩
  | succ f => exact ⟨fun _ => ⟨fr, U, h, hf, hm⟩, fun i hi => by rw [hr] at hi; cases hi⟩

/-- A move, taken at once. -/
theorem p_mv {fuel : Nat} {done : List Nat} (i : Nat) {d : Nat} {x : Operand} {ty : TypeId} {pos : String} {af : Array Edge} {v : Value} (hi : ops[i]? = some ⟨some d, .move x, ty, pos, af, none⟩)
    (hx : val fr x = some v) (hok : takeOk ops done i = true) (hd : Nat.ble (d + 1) E.n = true) (h : EVP E K k ops fuel (i :: done) ((d, v) :: fr) U) : EVP E K k ops (fuel + 1) done fr U := by
  intro hs a w hc hf hm
  simp only [takeOk, Bool.and_eq_true] at hok
  have hr : i ∈ Region.ready .any ops (lset ops done) := by simpa using hok.2.1
  refine wpAny_first (v := v) hi (Region.noSelect_spec hs) (fun c a w h => post_panic h) _ _ _ _ (Region.free_spec hi hok.2.2) hr (.inl ⟨rfl, fun w => ?_⟩) ?_
  · simp [execOp, hf.eval hx]
  · have hc2 := hc.set hr
    rw [lset_cons] at hc2 ⊢
    exact h hs _ w hc2 (hf.put (Nat.le_of_ble_eq_true hd) v) hm

theorem p_bar {fuel : Nat} {done : List Nat} (z : Nat) (V : List Asn) (h : EVQ E K k ops z V fuel done fr U) : EVP E K k ops fuel done fr U :=
  fun hs a w hc hf hm => wpAny_of_B _ _ _ _ (h hs a w hc hf hm)

theorem p_barU {fuel : Nat} {done : List Nat} (z : Nat) (h : EVQ E K k ops z U fuel done fr U) : EVP E K k ops fuel done fr U := p_bar z U h

theorem q_take {fuel : Nat} {done : List Nat} {z : Nat} (i : Nat) {d : Nat} {o : Op} {ty : TypeId} {pos : String} {af : Array Edge} {g : Option (Nat × Bool)} {v : Value} (hi : ops[i]? = some ⟨some d, o, ty, pos, af, g⟩)
    (hy : ∀ a, Fr E fr a → YieldsIf E.P ops (fun w => Mem E V w) ⟨some d, o, ty, pos, af, g⟩ v a) (hok : takeOk ops done i = true) (hw : (!Nat.beq i z && waits ops 12 z i) = true) (hV : Ent U V) (hd : Nat.ble (d + 1) E.n = true)
    (h : EVQ E K k ops z V fuel (i :: done) ((d, v) :: fr) U) : EVQ E K k ops z V (fuel + 1) done fr U := by
  intro hs a w hc hf hm
  simp only [takeOk, Bool.and_eq_true] at hok
  rw [Bool.and_eq_true] at hw
  have hr : i ∈ Region.ready .any ops (lset ops done) := by simpa using hok.2.1
  have hne : i ≠ z := fun e => by subst e; simp at hw
  have hc2 := hc.set hr
  rw [lset_cons] at hc2
  have key := h hs _ w hc2 (hf.put (Nat.le_of_ble_eq_true hd) v) hm
  rw [← lset_cons] at key
  exact wpAnyB_first hi (Region.noSelect_spec hs) (fun c a w h => post_panic h) hne (fun _ => ⟨12, hw.2⟩) _ _ _ _ hc (Region.free_spec hi hok.2.2) hr (hy a hf) (hm.ent hV) key

theorem q_n {fuel : Nat} {done : List Nat} {z : Nat} (i : Nat) {d : Nat} {o : Op} {ty : TypeId} {pos : String} {af : Array Edge} {v : Value} (hi : ops[i]? = some ⟨some d, o, ty, pos, af, none⟩)
    (hn : NEV E o fr V v) (hok : takeOk ops done i = true) (hw : (!Nat.beq i z && waits ops 12 z i) = true) (hV : Ent U V) (hd : Nat.ble (d + 1) E.n = true)
    (h : EVQ E K k ops z V fuel (i :: done) ((d, v) :: fr) U) : EVQ E K k ops z V (fuel + 1) done fr U :=
  q_take i hi (fun a hf => .inl ⟨rfl, fun w hw => hn a w _ _ _ _ _ hf hw⟩) hok hw hV hd h

theorem q_z {fuel : Nat} {done : List Nat} (z : Nat) {o : Oper} (hr : Region.ready .any ops (lset ops done) = [z]) (ho : ops[z]? = some o) (hg : o.guard = none)
    (h : EV1 E o fr U (EVP E K k ops fuel (z :: done))) : EVQ E K k ops z V (fuel + 1) done fr U := by
  intro hs a w hc hf hm
  refine ⟨fun h2 => (by rw [hr] at h2; cases h2), fun j hj => ?_⟩
  have hc2 := hc.set hj
  rw [hr, List.mem_singleton] at hj
  subst hj
  unfold wpOp
  have hw : Region.wanted o (yielded ops a.tmps) = true := by simp [Region.wanted, hg]
  simp only [ho, hw, if_true]
  refine .inl (Oper.wp_mono2 ?_ (h a w hf hm))
  rintro a' w' ⟨fr', U', hk, hf', hm'⟩
  refine ⟨fun _ => ?_, fun h3 => absurd rfl h3⟩
  rw [lset_cons] at hc2 ⊢
  exact hk hs a' w' hc2 hf' hm'

/-- One that acts, and leaves V. -/
theorem q_1 {fuel : Nat} {done : List Nat} {z : Nat} (i : Nat) {o : Oper} (hr : Region.ready .any ops (lset ops done) = [i]) (ho : ops[i]? = some o) (hg : o.guard = none) (hz : Nat.beq i z = false)
    (h : EV1 E o fr U (fun fr' U' => Ent U' V ∧ EVQ E K k ops z V fuel (i :: done) fr' U')) : EVQ E K k ops z V (fuel + 1) done fr U := by
  intro hs a w hc hf hm
  refine ⟨fun h2 => (by rw [hr] at h2; cases h2), fun j hj => ?_⟩
  have hc2 := hc.set hj
  rw [hr, List.mem_singleton] at hj
  subst hj
  unfold wpOp
  have hw : Region.wanted o (yielded ops a.tmps) = true := by simp [Region.wanted, hg]
  simp only [ho, hw, if_true]
  refine .inl (Oper.wp_mono2 ?_ (h a w hf hm))
  rintro a' w' ⟨fr', U', ⟨he, hk⟩, hf', hm'⟩
  refine ⟨fun e => (by subst e; simp at hz), fun _ => ⟨hm'.ent he, ?_⟩⟩
  rw [lset_cons] at hc2 ⊢
  exact hk hs a' w' hc2 hf' hm'

/-! ### what a function hands back, the first out of a cell -/
theorem resc2 {fn : Func} {p q : Tmp} {t : TypeId} {i : TI} {b : Nat} {T : TypeId} {cs : List Value} {v v2 : Value} {U' : List Asn} (h : fn.results = #[.cell p t, .tmp q]) (hp : look fr p = some (.pointer (some ⟨b, 0, none⟩)))
    (ht : tl E.T t = some i) (hU : Tak (blk b T cs) U U') (hl : loadL i cs 0 = some v) (hq : look fr q = some v2) : Res E fn fr U (.tuple #[v, v2]) := fun a w hf hm => by
  obtain ⟨S1, ⟨_, hb⟩, _⟩ := hm.tak hU
  have hc : ∀ j u, cs[j]? = some u → w.cell? ⟨b, j, none⟩ = some u := fun j u hu => by rw [cell_of_row w b j _ _ _ hb]; simpa using hu
  have h1 := hf.frm p _ hp
  have h2 := hf.frm q _ hq
  simp [results, h, h1, h2, asAddr, run_loadVar ht hc hl]

end Go.Proofs.YtcnpjhaedjncdaaGreatDoor.E

namespace Go.Proofs.YtcnpjhaedjncdaaGreatDoor.E
set_option linter.all false
variable {E : Env} {fr : Frm} {U V : List Asn} {N : Frm → List Asn → Prop}

/-- l[:q] -/
theorem n_headV {t e : TypeId} {x y : Operand} {s1 b1 : Nat} {z1 : List Value} {i : TI} {A : Option Addr} {n c : Nat} {kk : IntKind} (q : Nat) {q' : Int}
    (ht : tl E.T t = some ⟨.slice e, s1, b1, z1⟩) (he : tl E.T e = some i) (hx : val fr x = some (.slice A n c)) (hy : val fr y = some (.int kk q')) (hq' : q' = (q : Int)) (hq : q ≤ c) :
    NEV E (.slice t x none (some y) none) fr U (.slice A q c) := by
  intro a w dst ty pos af g hf hm
  have h := n_head (E := E) (fr := fr) (U := U) (x := x) (kk := kk) q ht he hx hq' hq a w dst ty pos af g hf hm
  have hev : a.eval y = a.eval (.const (.int kk q')) := hf.eval hy
  unfold execOp at h ⊢
  simp only [Option.map] at h ⊢
  rw [hev]; exact h

/-- l[q:] -/
theorem n_fromV {t e : TypeId} {x y : Operand} {s1 b1 : Nat} {z1 : List Value} {i : TI} {A : Option Addr} {n c : Nat} {k : IntKind} (q : Nat) {q' : Int}
    (ht : tl E.T t = some ⟨.slice e, s1, b1, z1⟩) (he : tl E.T e = some i) (hx : val fr x = some (.slice A n c)) (hy : val fr y = some (.int k q')) (hq' : q' = (q : Int)) (hq : q ≤ n) :
    NEV E (.slice t x (some y) none none) fr U (.slice (if c = q then A else A.map (·.add (q * i.size))) (n - q) (c - q)) := by
  intro a w dst ty pos af g hf _
  subst hq'
  obtain ⟨dd, sz, bytes, z⟩ := i
  obtain ⟨inf, zv, hinf, hzv, hs, hbb, hzc⟩ := ti_info he
  have hu := u_slice ht
  have hel : E.P.elem t = e := by simp [Program.elem, hu]
  have hsz : (sizeOf e).run E.P w = .ok sz w := by simp [sizeOf, run_info hinf, hs]
  have hr := run_slice_l (P := E.P) (w := w) t A n c (by rw [hel]; exact hu) k (q : Int) (by omega) (by omega)
  rw [hel, hsz] at hr
  have ha := run_sliceAt_slice (P := E.P) (w := w) t (.slice A n c) (some (.int k (q : Int))) none none (by rw [hel]; exact hu)
  rw [hr] at ha
  have hev : a.eval y = .int k (q : Int) := hf.eval hy
  simp [execOp, hf.eval hx, hev, ha, sliced, Result.andThen]

variable {K : Frm → List Asn → Prop} {k : List It}
/-- The ways through a piece of code meet behind it. -/
theorem s_join {c : Code} {ι : Type} (frX : ι → Frm) (UX : ι → List Asn) (h : (∀ x, EVS E K k (frX x) (UX x)) → EVS E K (.code c :: k) fr U) (hfin : ∀ x, EVS E K k (frX x) (UX x)) : EVS E K (.code c :: k) fr U := h hfin

theorem s_openP {cd : Code} {e : TypeId} {sz n c m : Nat} {A : Option Addr} {xs : List Value} {U' : List Asn}
    (ht : Tak (osl e sz (.slice A n c) m xs) U U') (h : (0 < m → ∃ b, A = some ⟨b, 0, none⟩) → EVS E K (.code cd :: k) fr U) : EVS E K (.code cd :: k) fr U := by
  by_cases hm : 0 < m
  · exact s_open ht hm (fun b hb => h (fun _ => ⟨b, hb⟩))
  · exact h (fun h2 => absurd h2 hm)

end Go.Proofs.YtcnpjhaedjncdaaGreatDoor.E

namespace Go.Proofs.YtcnpjhaedjncdaaGreatDoor
set_option linter.all false
open Go.Proofs.YtcnpjhaedjncdaaGreatDoor.E

def kItm : Kd Itm := kiso (kpair kint kint) (fun x => (x.Prod, x.Dot))
def encX (x : Itm) : List Value := [.int .i64 x.Prod, .int .i64 x.Dot]
theorem kItm_open {w : World} {S : BSet} {cs : List Value} {x : Itm} (h : kItm.R w S cs x) : cs = encX x ∧ I64 x.Prod ∧ I64 x.Dot := by
  obtain ⟨c1, c2, rfl, ⟨rfl, h1⟩, ⟨rfl, h2⟩⟩ := h
  exact ⟨rfl, h1, h2⟩
theorem kItm_mk {w : World} {S : BSet} {x : Itm} (h1 : I64 x.Prod) (h2 : I64 x.Dot) : kItm.R w S (encX x) x := ⟨[_], [_], rfl, ⟨rfl, h1⟩, ⟨rfl, h2⟩⟩

/-- A slice of items of one's own. -/
abbrev pX (A : Option Addr) (n c : Nat) (l : List Itm) : Asn := osl 79 2 (.slice A n c) n (l.flatMap encX)

theorem equal42 (w : World) (a b c d : Int) : (Op.equal 79 (.agg #[.int .i64 a, .int .i64 b]) (.agg #[.int .i64 c, .int .i64 d])).run Tryz.prog w = .ok (a == c && b == d) w := by
  have hf : Tryz.prog.fieldsOf 79 = #[{ name := "Prod", type := 3, offset := 0, embedded := false, tag := "", pkgPath := "", byteOffset := 0 }, { name := "Dot", type := 3, offset := 1, embedded := false, tag := "", pkgPath := "", byteOffset := 8 }] := by kernel_rfl
  have h3 : Tryz.prog.plainKey 3 = true := by kernel_rfl
  have p1 : ∀ u v : Int, (part 3 #[.int .i64 u, .int .i64 v] 0).run Tryz.prog w = .ok (.int .i64 u) w := fun u v => run_part_plain (P := Tryz.prog) w h3 rfl
  have p2 : ∀ u v : Int, (part 3 #[.int .i64 u, .int .i64 v] 1).run Tryz.prog w = .ok (.int .i64 v) w := fun u v => run_part_plain (P := Tryz.prog) w h3 rfl
  unfold Op.equal Op.maxDepth
  rw [run_equalIn_struct (P := Tryz.prog) w 9999 79 _ _ (by kernel_rfl) (by kernel_rfl), hf]
  have e : ∀ u v : Int, (Op.equalIn 9999 3 (.int .i64 u) (.int .i64 v)).run Tryz.prog w = .ok (u == v) w := fun u v => run_equalIn_int w 9998 3 .i64 .i64 u v Tryz.underlying3
  simp only [Op.eqFields]
  simp only [Sem.run_bind, p1, p2, e, Result.andThen_ok, Sem.run_ite, Sem.run_pure]
  cases a == c <;> cases b == d <;> simp [p1, p2, e]

theorem eqItm (x y : Itm) : (x.Prod == y.Prod && x.Dot == y.Dot) = decide (x = y) := by
  cases x; cases y
  simp only [Itm.mk.injEq, Bool.decide_and]
  rfl

theorem n_neq42 {w0 : World} {SM : BSet} {n : Nat} {fr : Frm} {U : List Asn} {x y : Operand} {a b : Itm} {t2 : TypeId} (hx : val fr x = some (.agg (encX a).toArray)) (hy : val fr y = some (.agg (encX b).toArray)) :
    NEV ⟨Tryz.prog, Tryz.tab, Tryz.tabOk, n, w0, SM⟩ (.binOp .neq 79 x y t2) fr U (.bool (!decide (a = b))) := by
  intro ac w dst ty pos af g hf _
  have hg : Tryz.prog.eqGuardType Tryz.prog.depth 79 = false := by kernel_rfl
  have he := equal42 w a.Prod a.Dot b.Prod b.Dot
  unfold execOp
  simp only [hf.eval hx, hf.eval hy, encX]
  simp [eqGuard, hg, binOp, he, eqItm]

theorem n_eql42 {w0 : World} {SM : BSet} {n : Nat} {fr : Frm} {U : List Asn} {x y : Operand} {a b : Itm} {t2 : TypeId} (hx : val fr x = some (.agg (encX a).toArray)) (hy : val fr y = some (.agg (encX b).toArray)) :
    NEV ⟨Tryz.prog, Tryz.tab, Tryz.tabOk, n, w0, SM⟩ (.binOp .eql 79 x y t2) fr U (.bool (decide (a = b))) := by
  intro ac w dst ty pos af g hf _
  have hg : Tryz.prog.eqGuardType Tryz.prog.depth 79 = false := by kernel_rfl
  have he := equal42 w a.Prod a.Dot b.Prod b.Dot
  unfold execOp
  simp only [hf.eval hx, hf.eval hy, encX]
  simp [eqGuard, hg, binOp, he, eqItm]

attribute [local irreducible] EVX EVO EVL EV1 NEV
attribute [local irreducible] own osl exA rdA rdL
set_option maxRecDepth 10000
set_option maxHeartbeats 4000000

theorem less_w (a b : Itm) : Trip Tryz.prog 87 [.agg (encX a).toArray, .agg (encX b).toArray] Rd.tt [] (fun v V => v = .bool (ltI a b) ∧ V = []) := by
  refine trip Tryz.tabOk Tryz.func87 rfl rfl rfl rfl ?_
  rintro w SM hW
  clear hW
  unfold encX
  repeat' (first | refine e_nil ?_ | ((first | refine e_op ?_ | refine e_yes rfl ?_); (first | refine o_n (peval_sound rfl) rfl ?_ | refine o_n (nl rfl rfl tc rfl) rfl ?_ | refine o_box rfl rfl (fun _ => ?_))) | refine e_noU rfl rfl rfl ?_ | refine e_noN rfl rfl ?_ | refine s_seq ?_ | refine s_region ?_ | ((fail_if_success (refine e_dec true (by exact rfl) ?_)); (fail_if_success (refine e_dec false (by exact rfl) ?_)); refine e_part rfl rfl (fun h => ?_) (fun h => ?_)))
  all_goals refine s_ret ⟨_, _, res1 rfl rfl, ⟨?_, rfl⟩, Ent.nil _⟩
  · have h1 := of_decide_eq_true h
    congr 1; symm; rw [ltI_iff]; exact .inl h1
  · rename_i h0
    have h1 := of_decide_eq_false h0
    have h2 : a.Prod = b.Prod := by simpa using h
    unfold ltI
    rw [h0, decide_eq_true h2]; simp
  · rename_i h0
    have h1 := of_decide_eq_false h0
    have h2 : ¬ a.Prod = b.Prod := by simpa using h
    unfold ltI
    rw [h0, decide_eq_false h2]; simp

theorem behR_w (cs : List Value) (g : Gram) (x : Itm) (hx : inG g x = true) : Trip Tryz.prog 49 [.agg cs.toArray, .agg (encX x).toArray] (kGram.rd cs g) [] (fun v V => v = .int .i64 (beh g x) ∧ V = []) := by
  refine trip Tryz.tabOk Tryz.func49 rfl rfl rfl rfl ?_
  rintro w SM hR
  obtain ⟨A0, A1, A2, A3, A4, c0, c1, c2, c3, c4, rfl, hG⟩ := kGram_open hR
  unfold inG at hx
  simp only [Bool.and_eq_true, decide_eq_true_eq] at hx
  obtain ⟨x1, x2, x3, x4⟩ := hx
  obtain ⟨xp, xd⟩ := x
  simp only at x1 x2 x3 x4
  obtain ⟨p, rfl⟩ : ∃ k : Nat, xp = (k : Int) := ⟨xp.toNat, by omega⟩
  obtain ⟨d, rfl⟩ : ∃ k : Nat, xd = (k : Int) := ⟨xd.toNat, by omega⟩
  have hp : p < g.Prods.length := by omega
  have hpr : prd g (p : Int) = g.Prods[p] := by unfold prd; rw [Int.toNat_natCast, List.getD_eq_getElem?_getD, List.getElem?_eq_getElem hp]; rfl
  rw [hpr] at x4
  obtain ⟨b, o, es, rfl, hb, he, hc⟩ := hG.prods.2.2 p hp
  obtain ⟨Ar, cr, rfl, hl, hlN, hlK, hri⟩ := kPrd_open he
  have hbe : beh g ⟨(p : Int), (d : Int)⟩ = if d < g.Prods[p].Right.length then g.Prods[p].Right.getD d 0 else -1 := by
    unfold beh
    simp only [hpr, Int.toNat_natCast]
    by_cases h : d < g.Prods[p].Right.length
    · rw [if_pos h, if_pos (by omega)]
    · rw [if_neg h, if_neg (by omega)]
  unfold encX
  repeat' (first | refine e_nil ?_ | ((refine e_op ?_); (first | refine o_n (peval_sound rfl) rfl ?_ | refine o_n (nl rfl rfl tc rfl) rfl ?_ | refine o_box rfl rfl (fun _ => ?_))) | refine s_seq ?_ | refine s_region ?_)
  refine e_op (o_n (n_index rfl rfl rfl rfl p rfl hp) rfl ?_)
  repeat' (((refine e_op ?_); (refine o_n (peval_sound rfl) rfl ?_)))
  refine e_op (o_n (n_load_ro rfl rfl hb (loads_one rfl (hc 1 _ rfl))) rfl ?_)
  repeat' (first | refine e_nil ?_ | ((refine e_op ?_); (first | refine o_n (peval_sound rfl) rfl ?_ | refine o_n (nl rfl rfl tc rfl) rfl ?_)) | refine s_seq ?_ | refine s_region ?_)
  refine s_cond rfl (fun h => ?_) (fun h => ?_)
  · have hd : ¬ d < g.Prods[p].Right.length := by have h := of_decide_eq_true h; simp only at h; omega
    repeat' (first | refine e_nil ?_ | ((refine e_op ?_); (refine o_n (peval_sound rfl) rfl ?_)) | refine s_seq ?_ | refine s_region ?_)
    refine s_ret ⟨_, _, res1 rfl rfl, ⟨?_, rfl⟩, Ent.nil _⟩
    rw [hbe, if_neg hd]
  · have hd : d < g.Prods[p].Right.length := by have h := of_decide_eq_false h; simp only at h; omega
    obtain ⟨b2, o2, es2, rfl, hb2, ⟨rfl, _⟩, hc2⟩ := hri.2.2 d hd
    repeat' (first | ((refine e_op ?_); (first | refine o_n (peval_sound rfl) rfl ?_ | refine o_n (nl rfl rfl tc rfl) rfl ?_)) | refine s_seq ?_ | refine s_region ?_ | refine s_skip ?_)
    refine e_op (o_n (n_index rfl rfl rfl rfl d rfl hd) rfl ?_)
    refine e_op (o_n (n_load_ro rfl rfl hb2 (loads_one rfl (hc2 0 _ rfl))) rfl ?_)
    repeat' (first | refine e_nil ?_ | ((refine e_op ?_); (refine o_n (peval_sound rfl) rfl ?_)))
    refine s_ret ⟨_, _, res1 rfl rfl, ⟨?_, rfl⟩, Ent.nil _⟩
    rw [hbe, if_pos hd, List.getD_eq_getElem?_getD, List.getElem?_eq_getElem hd]; rfl

theorem beh_w (cs : List Value) (g : Gram) (x : Itm) (hx : inG g x = true) : Trip Tryz.prog 41 [.agg cs.toArray, .agg (encX x).toArray] (kGram.rd cs g) [] (fun v V => v = .int .i64 (beh g x) ∧ V = []) := by
  refine trip Tryz.tabOk Tryz.func41 rfl rfl rfl rfl ?_
  rintro w SM hR
  obtain ⟨A0, A1, A2, A3, A4, c0, c1, c2, c3, c4, rfl, hG⟩ := kGram_open hR
  unfold inG at hx
  simp only [Bool.and_eq_true, decide_eq_true_eq] at hx
  obtain ⟨x1, x2, x3, x4⟩ := hx
  obtain ⟨xp, xd⟩ := x
  simp only at x1 x2 x3 x4
  obtain ⟨p, rfl⟩ : ∃ k : Nat, xp = (k : Int) := ⟨xp.toNat, by omega⟩
  obtain ⟨d, rfl⟩ : ∃ k : Nat, xd = (k : Int) := ⟨xd.toNat, by omega⟩
  have hp : p < g.Prods.length := by omega
  have hpr : prd g (p : Int) = g.Prods[p] := by unfold prd; rw [Int.toNat_natCast, List.getD_eq_getElem?_getD, List.getElem?_eq_getElem hp]; rfl
  rw [hpr] at x4
  obtain ⟨b, o, es, rfl, hb, he, hc⟩ := hG.prods.2.2 p hp
  obtain ⟨Ar, cr, rfl, hl, hlN, hlK, hri⟩ := kPrd_open he
  have hbe : beh g ⟨(p : Int), (d : Int)⟩ = if d < g.Prods[p].Right.length then g.Prods[p].Right.getD d 0 else -1 := by
    unfold beh
    simp only [hpr, Int.toNat_natCast]
    by_cases h : d < g.Prods[p].Right.length
    · rw [if_pos h, if_pos (by omega)]
    · rw [if_neg h, if_neg (by omega)]
  unfold encX
  repeat' (first | refine e_nil ?_ | ((refine e_op ?_); (first | refine o_n (peval_sound rfl) rfl ?_ | refine o_n (nl rfl rfl tc rfl) rfl ?_ | refine o_box rfl rfl (fun _ => ?_))) | refine s_seq ?_ | refine s_region ?_)
  refine e_op (o_n (n_index rfl rfl rfl rfl p rfl hp) rfl ?_)
  repeat' (((refine e_op ?_); (refine o_n (peval_sound rfl) rfl ?_)))
  refine e_op (o_n (n_load_ro rfl rfl hb (loads_one rfl (hc 1 _ rfl))) rfl ?_)
  repeat' (first | refine e_nil ?_ | ((refine e_op ?_); (first | refine o_n (peval_sound rfl) rfl ?_ | refine o_n (nl rfl rfl tc rfl) rfl ?_)) | refine s_seq ?_ | refine s_region ?_)
  refine s_cond rfl (fun h => ?_) (fun h => ?_)
  · have hd : d < g.Prods[p].Right.length := by have h := of_decide_eq_true h; simp only at h; omega
    obtain ⟨b2, o2, es2, rfl, hb2, ⟨rfl, _⟩, hc2⟩ := hri.2.2 d hd
    repeat' (first | ((refine e_op ?_); (first | refine o_n (peval_sound rfl) rfl ?_ | refine o_n (nl rfl rfl tc rfl) rfl ?_)) | refine s_seq ?_ | refine s_region ?_)
    refine e_op (o_n (n_index rfl rfl rfl rfl d rfl hd) rfl ?_)
    refine e_op (o_n (n_load_ro rfl rfl hb2 (loads_one rfl (hc2 0 _ rfl))) rfl ?_)
    repeat' (first | refine e_nil ?_ | ((refine e_op ?_); (refine o_n (peval_sound rfl) rfl ?_)))
    refine s_ret ⟨_, _, res1 rfl rfl, ⟨?_, rfl⟩, Ent.nil _⟩
    rw [hbe, if_pos hd, List.getD_eq_getElem?_getD, List.getElem?_eq_getElem hd]; rfl
  · have hd : ¬ d < g.Prods[p].Right.length := by have h := of_decide_eq_false h; simp only at h; omega
    repeat' (first | refine e_nil ?_ | ((refine e_op ?_); (refine o_n (peval_sound rfl) rfl ?_)) | refine s_seq ?_ | refine s_region ?_ | refine s_skip ?_)
    refine s_ret ⟨_, _, res1 rfl rfl, ⟨?_, rfl⟩, Ent.nil _⟩
    rw [hbe, if_neg hd]

theorem sameItems_w (A B : Option Addr) (c d : Nat) (xs ys : List Itm) :
    Trip Tryz.prog 46 [.slice A xs.length c, .slice B ys.length d] (((kslice 16 kItm).rd [.slice A xs.length c] xs).and ((kslice 16 kItm).rd [.slice B ys.length d] ys)) []
      (fun v V => v = .bool (decide (xs = ys)) ∧ V = []) := by
  refine trip Tryz.tabOk Tryz.func46 rfl rfl rfl rfl ?_
  rintro w SM ⟨⟨A', c', e1, h1⟩, B', d', e2, h2⟩
  cases e1; cases e2
  repeat' (first | refine e_nil ?_ | ((refine e_op ?_); (refine o_n (peval_sound rfl) rfl ?_)) | refine s_seq ?_ | refine s_region ?_)
  refine s_cond rfl (fun h => ?_) (fun h => ?_)
  · repeat' (first | refine e_nil ?_ | ((refine e_op ?_); (refine o_n (peval_sound rfl) rfl ?_)) | refine s_seq ?_ | refine s_region ?_)
    refine s_ret ?_
    refine ⟨_, _, res1 rfl rfl, ⟨?_, rfl⟩, Ent.nil _⟩
    have hne : xs ≠ ys := by
      rintro rfl; simp at h
    simp [hne]
  have hlen : xs.length = ys.length := by simp at h; omega
  repeat' (first | refine e_nil ?_ | ((refine e_op ?_); (refine o_n (peval_sound rfl) rfl ?_)) | refine s_seq ?_ | refine s_region ?_ | refine s_block ?_ | refine s_skip ?_)
  refine s_loopK (ι := {i : Nat // i ≤ xs.length ∧ xs.take i = ys.take i}) [0, 1] rfl ⟨0, by omega, by simp⟩ (fun i => [(5, .int .i64 i.1)]) (fun _ => []) (fun i => xs.length - i.1) ?_ (Ent.nil _) ?_
  · repeat' (first | exact Sub.nil _ | refine Sub.cons rfl ?_)
  rintro ⟨i, hi, ht⟩
  repeat' (first | refine e_nil ?_ | ((refine e_op ?_); (refine o_n (peval_sound rfl) rfl ?_)) | refine s_seq ?_ | refine s_region ?_)
  refine s_cond rfl (fun h => ?_) (fun h => ?_)
  · have hlt : i < xs.length := by simpa using h
    obtain ⟨b, o, es, rfl, hb, hx, hc⟩ := h1.2.2 i hlt
    obtain ⟨b2, o2, es2, rfl, hb2, hy, hc2⟩ := h2.2.2 i (by omega)
    obtain ⟨rfl, _, _⟩ := kItm_open hx
    obtain ⟨rfl, _, _⟩ := kItm_open hy
    repeat' (first | refine s_seq ?_ | refine s_block ?_ | refine s_skip ?_)
    refine s_drawU [] Tryz.mixed (by decide +kernel) ?_
    repeat' (((refine l_n (peval_sound rfl) rfl ?_ rfl ?_); · (exact Ent.refl _)))
    refine l_n (n_index rfl rfl rfl rfl i rfl hlt) rfl (Ent.refl _) rfl ?_
    refine l_n (n_load_ro rfl rfl hb (loads_agg rfl rfl hc)) rfl (Ent.refl _) rfl ?_
    repeat' (((refine l_n (peval_sound rfl) rfl ?_ rfl ?_); · (exact Ent.refl _)))
    refine l_n (n_index rfl rfl rfl rfl i rfl (by omega)) rfl (Ent.refl _) rfl ?_
    refine l_n (n_load_ro rfl rfl hb2 (loads_agg rfl rfl hc2)) rfl (Ent.refl _) rfl ?_
    refine l_n (n_neq42 rfl rfl) rfl (Ent.refl _) rfl ?_
    repeat' (refine l_nil ?_)
    cases h4 : decide (xs[i] = ys[i]) with
    | false =>
      have h4 := of_decide_eq_false h4
      repeat' (first | refine e_nil ?_ | ((refine e_op ?_); (refine o_n (peval_sound rfl) rfl ?_)) | refine s_seq ?_ | refine s_region ?_ | refine s_true rfl ?_)
      refine s_ret ⟨_, _, res1 rfl rfl, ⟨?_, rfl⟩, Ent.nil _⟩
      rw [decide_eq_false (fun h => h4 (by simp only [h]))]
    | true =>
      have h4 := of_decide_eq_true h4
      repeat' (first | refine e_nil ?_ | ((refine e_op ?_); (refine o_n (peval_sound rfl) rfl ?_)) | refine s_region ?_ | refine s_end ?_ | refine s_skip ?_ | refine s_false rfl ?_)
      refine s_back ⟨⟨i + 1, by omega, ?_⟩, by simp only; omega, ?_, Ent.nil _⟩
      · rw [List.take_succ_eq_append_getElem hlt, List.take_succ_eq_append_getElem (hlen ▸ hlt), ht, h4]
      · repeat' (first | exact Sub.nil _ | refine Sub.cons rfl ?_ | refine Sub.consE rfl ?_ ?_)
        exact inc (i := i) (by have := h1.2.1; omega)
  · have hlt : i = xs.length := by simp at h; omega
    repeat' (first | refine e_nil ?_ | ((refine e_op ?_); (refine o_n (peval_sound rfl) rfl ?_)) | refine s_seq ?_ | refine s_region ?_ | refine s_exit ?_ | refine x_hit ?_ | refine x_code ?_ | refine x_back ?_)
    refine s_ret ?_
    refine ⟨_, _, res1 rfl rfl, ⟨?_, rfl⟩, Ent.nil _⟩
    subst hlt
    rw [List.take_length, hlen, List.take_length] at ht
    simp [ht]

end Go.Proofs.YtcnpjhaedjncdaaGreatDoor

namespace Go.Proofs.YtcnpjhaedjncdaaGreatDoor
set_option linter.all false
open Go.Proofs.YtcnpjhaedjncdaaGreatDoor.E

theorem encX_len (l : List Itm) : (l.flatMap encX).length = l.length * 2 := by
  induction l with
  | nil => rfl
  | cons x l ih => rw [List.flatMap_cons, List.length_append, ih]; simp [encX]; omega

theorem encX_one (l : List Itm) : ∀ u ∈ l.flatMap encX, oneB u = true := by
  intro u hu
  obtain ⟨x, _, hx⟩ := List.mem_flatMap.1 hu
  unfold encX at hx
  simp only [List.mem_cons, List.not_mem_nil, or_false] at hx
  rcases hx with rfl | rfl <;> rfl

theorem encX_get : ∀ {l : List Itm} {i : Nat} (h : i < l.length), ((l.flatMap encX).drop (i * 2)).take 2 = encX l[i]
  | x :: l, 0, _ => by simp [encX]
  | x :: l, i + 1, h => by
    have h2 : i < l.length := by simpa using h
    rw [List.flatMap_cons, List.getElem_cons_succ, ← encX_get h2, show (i + 1) * 2 = 2 + i * 2 by omega, ← List.drop_drop]
    rfl

theorem encX_load {l : List Itm} {i : Nat} (h : i < l.length) {z : List Value} : loadL ⟨.struct [(0, 1), (1, 1)], 2, 16, z⟩ (l.flatMap encX) (0 + i * 2) = some (.agg (encX l[i]).toArray) := by
  unfold loadL
  simp only [aggB, cond_true]
  have : Nat.ble (0 + i * 2 + 2) (l.flatMap encX).length = true := by rw [encX_len]; exact Nat.ble_eq_true_of_le (by omega)
  rw [this, cond_true, Nat.zero_add, encX_get h]

theorem encX_take : ∀ {l : List Itm} {n : Nat}, (l.take n).flatMap encX = (l.flatMap encX).take (n * 2)
  | [], n => by simp
  | x :: l, 0 => by simp
  | x :: l, n + 1 => by
    rw [List.take_succ_cons, List.flatMap_cons, List.flatMap_cons, encX_take (l := l) (n := n), show (n + 1) * 2 = n * 2 + 2 by omega]
    rfl

theorem encX_drop : ∀ {l : List Itm} {n : Nat}, (l.drop n).flatMap encX = (l.flatMap encX).drop (n * 2)
  | [], n => by simp
  | x :: l, 0 => by simp
  | x :: l, n + 1 => by
    rw [List.drop_succ_cons, List.flatMap_cons, encX_drop (l := l) (n := n), show (n + 1) * 2 = n * 2 + 2 by omega]
    rfl

attribute [local irreducible] EVX EVO EVL EV1 NEV
attribute [local irreducible] own osl exA rdA rdL
set_option maxRecDepth 10000
set_option maxHeartbeats 4000000

theorem with_w (A : Option Addr) (c : Nat) (l : List Itm) (x : Itm) (hsz : l.length ≤ 100000) : Trip Tryz.prog 68 [.slice A l.length c, .agg (encX x).toArray] Rd.tt [pX A l.length c l]
    (fun v V => ∃ (A' : Option Addr) (c' : Nat), v = .slice A' (withI l x).length c' ∧ V = [pX A' (withI l x).length c' (withI l x)]) := by
  refine trip Tryz.tabOk Tryz.func68 rfl rfl rfl rfl ?_
  rintro w SM hW
  clear hW
  repeat' (first | refine e_nil ?_ | ((refine e_op ?_); (first | refine o_n (peval_sound rfl) rfl ?_ | refine o_box rfl rfl (fun _ => ?_))) | refine s_seq ?_ | refine s_region ?_)
  rename_i b3
  refine s_blockJ (ι := {n : Nat // n ≤ l.length ∧ (∀ i (h : i < l.length), i < n → ltI l[i] x = true) ∧ (∀ h : n < l.length, ltI l[n] x = false)}) (fun n => [(5, .int .i64 n.1), (0, .slice A l.length c), (3, .pointer (some ⟨b3, 0, none⟩))]) (fun _ => [blk b3 79 (encX x), pX A l.length c l]) (fun hfin => ?_) ?_
  · refine s_loopK (ι := {n : Nat // n ≤ l.length ∧ (∀ i (h : i < l.length), i < n → ltI l[i] x = true)}) [0, 3] rfl ⟨0, by omega, fun i _ h => absurd h (Nat.not_lt_zero _)⟩ (fun n => [(5, .int .i64 n.1)]) (fun _ => [blk b3 79 (encX x), pX A l.length c l]) (fun n => l.length - n.1) ?_ (Ent.refl _) ?_
    · repeat' (first | exact Sub.nil _ | refine Sub.cons rfl ?_)
    rintro ⟨n, hn, hlt⟩
    simp only at hn hlt ⊢
    repeat' (refine s_seq ?_)
    by_cases hnl : n < l.length
    · have hd : decide ((n : Int) < (l.length : Int)) = true := decide_eq_true (by omega)
      refine s_open (.s .z) (by omega) ?_
      rintro bl rfl
      refine s_drawU [10] Tryz.mixed (by decide +kernel) ?_
      repeat' (((refine l_n (peval_sound rfl) rfl ?_ rfl ?_); · (exact Ent.refl _)))
      rw [hd]
      repeat' (((refine l_ny rfl (peval_sound rfl) rfl ?_ rfl ?_); · (exact Ent.refl _)))
      refine l_ny rfl (n_index rfl rfl rfl rfl n rfl hnl) rfl (Ent.refl _) rfl ?_
      refine l_ny rfl (n_load_osl rfl rfl (.s .z) (encX_load hnl)) rfl (Ent.refl _) rfl ?_
      repeat' (((refine l_ny rfl (nl rfl rfl tc rfl) rfl ?_ rfl ?_); · (exact Ent.refl _)))
      refine l_ey rfl rfl (o_call (less_w l[n] x) rfl .nil Can.tt rfl ?_)
      rintro v V ⟨rfl, rfl⟩
      refine ⟨Ent.refl _, ?_⟩
      simp only [List.nil_append]
      repeat' (first | refine l_nil ?_ | ((refine l_n (peval_sound rfl) rfl ?_ rfl ?_); · (exact Ent.refl _)))
      refine s_cond rfl (fun h => ?_) (fun h => ?_)
      · repeat' (first | refine e_nil ?_ | ((refine e_op ?_); (refine o_n (peval_sound rfl) rfl ?_)) | refine s_region ?_ | refine s_block ?_ | refine s_end ?_ | refine s_skip ?_)
        refine s_back ⟨⟨n + 1, by omega, fun i hi hin => ?_⟩, by simp only; omega, ?_, Ent.refl _⟩
        · by_cases e : i = n
          · subst e; exact h
          · exact hlt i hi (by omega)
        · repeat' (first | exact Sub.nil _ | refine Sub.cons rfl ?_ | refine Sub.consE rfl ?_ ?_)
          exact inc (i := n) (by omega)
      · repeat' (first | refine s_exit ?_ | refine x_code ?_ | refine x_back ?_)
        refine x_hit (s_weak ?_ (Ent.refl _) (hfin ⟨n, hn, hlt, fun _ => h⟩))
        repeat' (first | exact Sub.nil _ | refine Sub.cons rfl ?_)
    · have hd : decide ((n : Int) < (l.length : Int)) = false := decide_eq_false (by omega)
      refine s_drawU [] Tryz.mixed (by decide +kernel) ?_
      repeat' (((refine l_n (peval_sound rfl) rfl ?_ rfl ?_); · (exact Ent.refl _)))
      rw [hd]
      repeat' (first | refine l_nil ?_ | ((first | refine l_no rfl rfl rfl ?_ rfl ?_ | refine l_n (peval_sound rfl) rfl ?_ rfl ?_); · (exact Ent.refl _)))
      repeat' (first | refine s_exit ?_ | refine s_false rfl ?_ | refine x_code ?_ | refine x_back ?_)
      refine x_hit (s_weak ?_ (Ent.refl _) (hfin ⟨n, hn, hlt, fun h => absurd h hnl⟩))
      repeat' (first | exact Sub.nil _ | refine Sub.cons rfl ?_)
  · rintro ⟨n, hn, hlt, hge⟩
    simp only
    have hw := withI_at (l := l) (x := x) hn hlt hge
    have hfin : ∀ (hne : l[n]? ≠ some x), withI l x = l.take n ++ x :: l.drop n := fun hne => by rw [hw, if_neg hne]
    have hlen : ∀ (hne : l[n]? ≠ some x), (withI l x).length = n + 1 + (l.length - n) := fun hne => by rw [hfin hne, List.length_append, List.length_cons, List.length_take, List.length_drop]; omega
    repeat' (refine s_seq ?_)
    refine s_join (ι := PLift (l[n]? ≠ some x)) (fun _ => [(32, .bool false), (5, .int .i64 n), (0, .slice A l.length c), (3, .pointer (some ⟨b3, 0, none⟩))]) (fun _ => [blk b3 79 (encX x), pX A l.length c l]) (fun hj => ?_) ?_
    · by_cases hnl : n < l.length
      · have hd : decide ((n : Int) < (l.length : Int)) = true := decide_eq_true (by omega)
        refine s_open (.s .z) (by omega) ?_
        rintro bl rfl
        refine s_drawU [] Tryz.mixed (by decide +kernel) ?_
        repeat' (((refine l_n (peval_sound rfl) rfl ?_ rfl ?_); · (exact Ent.refl _)))
        rw [hd]
        repeat' (((refine l_ny rfl (peval_sound rfl) rfl ?_ rfl ?_); · (exact Ent.refl _)))
        refine l_ny rfl (n_index rfl rfl rfl rfl n rfl hnl) rfl (Ent.refl _) rfl ?_
        refine l_ny rfl (n_load_osl rfl rfl (.s .z) (encX_load hnl)) rfl (Ent.refl _) rfl ?_
        repeat' (((refine l_ny rfl (nl rfl rfl tc rfl) rfl ?_ rfl ?_); · (exact Ent.refl _)))
        refine l_ny rfl (n_eql42 rfl rfl) rfl (Ent.refl _) rfl ?_
        repeat' (first | refine l_nil ?_ | ((refine l_n (peval_sound rfl) rfl ?_ rfl ?_); · (exact Ent.refl _)))
        cases he : decide (l[n] = x) with
        | true =>
          have he := of_decide_eq_true he
          have hw2 : withI l x = l := by rw [hw, if_pos (by rw [List.getElem?_eq_getElem hnl, he])]
          repeat' (first | refine e_nil ?_ | ((refine e_op ?_); (refine o_n (peval_sound rfl) rfl ?_)) | refine s_seq ?_ | refine s_region ?_ | refine s_true rfl ?_)
          refine s_ret ⟨_, _, res1 rfl rfl, ⟨some ⟨bl, 0, none⟩, c, by rw [hw2], rfl⟩, ?_⟩
          rw [hw2]
          exact Ent.wk (Ent.refl _)
        | false =>
          have he := of_decide_eq_false he
          have hne : l[n]? ≠ some x := by rw [List.getElem?_eq_getElem hnl]; exact fun h => he (Option.some.inj h)
          skip
          refine s_weak ?_ (Ent.refl _) (hj ⟨hne⟩)
          repeat' (first | exact Sub.nil _ | refine Sub.cons rfl ?_)
      · have hd : decide ((n : Int) < (l.length : Int)) = false := decide_eq_false (by omega)
        have hne : l[n]? ≠ some x := by rw [List.getElem?_eq_none (by omega)]; simp
        refine s_drawU [] Tryz.mixed (by decide +kernel) ?_
        repeat' (((refine l_n (peval_sound rfl) rfl ?_ rfl ?_); · (exact Ent.refl _)))
        rw [hd]
        repeat' (first | refine l_nil ?_ | ((first | refine l_no rfl rfl rfl ?_ rfl ?_ | refine l_n (peval_sound rfl) rfl ?_ rfl ?_); · (exact Ent.refl _)))
        refine s_weak ?_ (Ent.refl _) (hj ⟨hne⟩)
        repeat' (first | exact Sub.nil _ | refine Sub.cons rfl ?_)

    · rintro ⟨hne⟩
      have hwl := hfin hne
      have hll := hlen hne
      refine s_cap (.s .z) (fun hc => ?_)
      refine s_openP (.s .z) (fun hA => ?_)
      repeat' (first | refine e_nil ?_ | ((refine e_op ?_); (refine o_n (peval_sound rfl) rfl ?_)) | refine s_seq ?_ | refine s_region ?_ | refine s_skip ?_ | refine s_false rfl ?_)
      refine e_op (o_n (n_headV n rfl rfl rfl rfl rfl (by omega)) rfl ?_)
      skip
      refine e_ent (Ent.osl0 (e := 79) (sz := 2) (Ent.refl _)) ?_
      refine e_op (o_appendS (xs := []) (ys := (l.take n).flatMap encX) _ rfl rfl rfl rfl (by rw [encX_len, List.length_take, Nat.min_eq_left hn]) (fun h0 => ?_) (encX_one _) rfl (by simp only; omega) (by omega) rfl (fun A' c' => .z) (fun A1 c1 => ?_))
      · obtain ⟨b, rfl⟩ := hA (by omega)
        refine ⟨b, 0, rfl, fun w hm j u hu => ?_⟩
        obtain ⟨S1, hP, _⟩ := hm.tak (.s (.s .z))
        rw [Nat.zero_add]
        refine osl_cells hP j u ?_
        rw [← hu, encX_take, List.getElem?_take_of_lt]
        have := (List.getElem?_eq_some_iff.1 hu).1
        rw [encX_len, List.length_take, Nat.min_eq_left hn] at this
        omega
      simp only [List.nil_append, Nat.zero_add]
      repeat' (first | refine e_nil ?_ | ((refine e_op ?_); (first | refine o_n (peval_sound rfl) rfl ?_ | refine o_n (nl rfl rfl tc rfl) rfl ?_)) | refine s_seq ?_ | refine s_region ?_)
      refine e_op (o_lit (cs := encX x) rfl rfl rfl rfl rfl rfl rfl (fun b4 => ?_))
      skip
      refine e_op (o_append (v := .slice A1 n c1) (n := n) (m := 1) (xs := (l.take n).flatMap encX) (news := encX x) _ rfl rfl rfl rfl (fun w hm j u hu => ?_) rfl ?_ rfl (by omega) (by simp only; omega) (by omega) rfl (fun b c => .s .z) (fun ba ca => ?_))
      · obtain ⟨S1, hP, _⟩ := hm.tak .z
        rw [Nat.zero_add]
        exact osl_cells hP j u hu
      · simp [encX, oneB]
      repeat' (first | refine e_nil ?_ | ((refine e_op ?_); (refine o_n (peval_sound rfl) rfl ?_)) | refine s_seq ?_ | refine s_region ?_)
      refine e_op (o_n (n_fromV n rfl rfl rfl rfl rfl hn) rfl ?_)
      skip
      refine e_op (o_appendS (n := n + 1) (xs := (l.take n).flatMap encX ++ encX x) (ys := (l.drop n).flatMap encX) _ rfl rfl rfl rfl (by rw [encX_len, List.length_drop]) (fun h0 => ?_) (encX_one _) rfl (by simp only; omega) (by omega) rfl (fun A' c' => .s .z) (fun A5 c5 => ?_))
      · obtain ⟨b, rfl⟩ := hA (by omega)
        refine ⟨b, n * 2, by rw [if_neg (by omega)]; simp only [Option.map_some, Addr.add, Nat.zero_add]; by_cases h2 : n * 2 = 0 <;> simp [h2], fun w hm j u hu => ?_⟩
        obtain ⟨S1, hP, _⟩ := hm.tak (.s (.s (.s .z)))
        refine osl_cells hP (n * 2 + j) u ?_
        rw [← hu, encX_drop, List.getElem?_drop]
      repeat' (first | refine e_nil ?_ | ((refine e_op ?_); (refine o_n (peval_sound rfl) rfl ?_)))
      refine s_ret ⟨_, _, res1 rfl rfl, ⟨A5, c5, by rw [hll], rfl⟩, ?_⟩
      have h5 : ((l.take n) ++ x :: l.drop n).flatMap encX = (l.take n).flatMap encX ++ encX x ++ (l.drop n).flatMap encX := by rw [List.flatMap_append, List.flatMap_cons, ← List.append_assoc]
      rw [hll, hwl]
      unfold pX
      rw [h5]
      exact Ent.wk (Ent.tak .z (Ent.nil _))

end Go.Proofs.YtcnpjhaedjncdaaGreatDoor

namespace Go.Proofs.YtcnpjhaedjncdaaGreatDoor
set_option linter.all false
open Go.Proofs.YtcnpjhaedjncdaaGreatDoor.E

theorem encX_at {l : List Itm} {j : Nat} {u : Value} (hu : (l.flatMap encX)[j]? = some u) : ∃ h : j / 2 < l.length, (encX l[j / 2])[j % 2]? = some u := by
  have hj : j < (l.flatMap encX).length := (List.getElem?_eq_some_iff.1 hu).1
  rw [encX_len] at hj
  have h : j / 2 < l.length := by omega
  refine ⟨h, ?_⟩
  rw [← encX_get h, List.getElem?_take_of_lt (by omega), List.getElem?_drop, show j / 2 * 2 + j % 2 = j by omega, hu]

theorem ro_items {E0 : Go.Proofs.YtcnpjhaedjncdaaGreatDoor.E.Env} {U : List Asn} {A : Option Addr} {xs : List Itm} (h : Els kItm E0.w0 E0.ro A xs) (hm : 0 < xs.length) : ∃ g2 o2, A = some ⟨g2, o2, none⟩ ∧ ∀ w, Go.Proofs.YtcnpjhaedjncdaaGreatDoor.E.Mem E0 U w → ∀ j u, (xs.flatMap encX)[j]? = some u → w.cell? ⟨g2, o2 + j, none⟩ = some u := by
  obtain ⟨b, o, es, hA, hb, _, _⟩ := h 0 hm
  refine ⟨b, o, hA, fun w hw j u hu => ?_⟩
  obtain ⟨hj, h2⟩ := encX_at hu
  obtain ⟨b', o', es', hA', hb', hx, hc⟩ := h (j / 2) hj
  obtain ⟨rfl, _, _⟩ := kItm_open hx
  rw [hA] at hA'
  simp only [Option.some.injEq, Addr.mk.injEq, and_true] at hA'
  obtain ⟨rfl, rfl⟩ := hA'
  have h0 := hc (j % 2) _ h2
  have e2 : kItm.sz = 2 := rfl
  rw [e2, show o + j / 2 * 2 + j % 2 = o + j by omega] at h0
  rw [cell_block (hw.same b hb)]
  exact h0

theorem n_eqlNil43 {w0 : World} {SM : BSet} {n : Nat} {fr : Frm} {U : List Asn} {x : Operand} {A : Option Addr} {m c : Nat} {t2 : TypeId} (hx : val fr x = some (.slice A m c)) :
    NEV ⟨Tryz.prog, Tryz.tab, Tryz.tabOk, n, w0, SM⟩ (.binOp .eql 88 x (.const (.slice none 0 0)) t2) fr U (.bool A.isNone) := by
  intro ac w dst ty pos af g hf _
  have hu : Tryz.prog.underlying 88 = some (.slice 79) := by kernel_rfl
  have he : (Op.equal 88 (.slice A m c) (.slice none 0 0)).run Tryz.prog w = .ok A.isNone w := run_equal_slice_nil (P := Tryz.prog) w 88 79 A m c hu
  have hg : Tryz.prog.eqGuardType Tryz.prog.depth 88 = false := by kernel_rfl
  have hc : ac.eval (.const (.slice none 0 0)) = .slice none 0 0 := rfl
  unfold execOp
  simp only [hf.eval hx, hc]
  simp [eqGuard, hg, binOp, he]

attribute [local irreducible] EVX EVO EVL EV1 NEV
attribute [local irreducible] own osl exA rdA rdL
set_option maxRecDepth 10000
set_option maxHeartbeats 4000000

theorem clone_w (A : Option Addr) (c : Nat) (l : List Itm) (hsz : l.length ≤ 100000) :
    Trip Tryz.prog 61 [.slice A l.length c] ((kslice 16 kItm).rd [.slice A l.length c] l) []
      (fun v V => ∃ (A' : Option Addr) (c' : Nat), v = .slice A' l.length c' ∧ V = [pX A' l.length c' l]) := by
  refine trip Tryz.tabOk Tryz.func61 rfl rfl rfl rfl ?_
  rintro w SM ⟨A', c', e1, h1⟩
  cases e1
  repeat' (first | refine e_nil ?_ | ((refine e_op ?_); (refine o_n (peval_sound rfl) rfl ?_)) | refine s_seq ?_ | refine s_region ?_)
  refine e_op (o_n (n_eqlNil43 rfl) rfl ?_)
  repeat' (refine e_nil ?_)
  refine s_cond rfl (fun h => ?_) (fun h => ?_)
  · have hl : l = [] := by
      cases l with
      | nil => rfl
      | cons x l =>
        obtain ⟨b, o, es, hA, _⟩ := h1.2.2 0 (by simp)
        rw [hA] at h; cases h
    subst hl
    repeat' (first | refine e_nil ?_ | ((refine e_op ?_); (refine o_n (peval_sound rfl) rfl ?_)) | refine s_seq ?_ | refine s_region ?_)
    refine s_ret ⟨_, _, res1 rfl rfl, ⟨none, 0, rfl, rfl⟩, Ent.osl0 (Ent.nil _)⟩
  repeat' (first | refine s_seq ?_ | refine s_region ?_ | refine s_skip ?_)
  refine e_op (o_lit (cs := []) rfl rfl rfl rfl rfl rfl rfl (fun b4 => ?_))
  repeat' (((refine e_op ?_); (refine o_n (peval_sound rfl) rfl ?_)))
  refine e_op (o_appendS (n := 0) (xs := []) (ys := l.flatMap encX) _ rfl rfl rfl rfl (encX_len l) (fun h0 => ro_items h1.2.2 h0) (encX_one _) rfl (by simp only; omega) (by omega) rfl (fun A' c' => .z) (fun A5 c5 => ?_))
  simp only [Nat.zero_add, List.nil_append]
  repeat' (first | refine e_nil ?_ | ((refine e_op ?_); (refine o_n (peval_sound rfl) rfl ?_)))
  refine s_ret ⟨_, _, res1 rfl rfl, ⟨A5, c5, rfl, rfl⟩, Ent.tak .z (Ent.nil _)⟩

end Go.Proofs.YtcnpjhaedjncdaaGreatDoor

namespace Go.Proofs.YtcnpjhaedjncdaaGreatDoor
set_option linter.all false
open Go.Proofs.YtcnpjhaedjncdaaGreatDoor.E

theorem can_items {E0 : Go.Proofs.YtcnpjhaedjncdaaGreatDoor.E.Env} {U U' : List Asn} {A : Option Addr} {c : Nat} {l : List Itm} (ht : Tak (pX A l.length c l) U U') (hI : ∀ x ∈ l, I64 x.Prod ∧ I64 x.Dot) (hb : l.length ≤ 100000) : Go.Proofs.YtcnpjhaedjncdaaGreatDoor.E.Can E0 U ((kslice 16 kItm).rd [.slice A l.length c] l) := by
  refine Can.of fun w S hs => ?_
  obtain ⟨S1, h1, hsub⟩ := ht.mem hs
  unfold pX at h1
  rw [List.flatMap_def] at h1
  obtain ⟨h2, h3⟩ := osl_elsG (kd := kItm) (S := S) h1 hsub (by simp) rfl (fun i h1 h2 => by
    rw [List.getElem_map]
    exact kItm_mk (hI _ (List.getElem_mem h2)).1 (hI _ (List.getElem_mem h2)).2)
  exact ⟨A, c, rfl, h3, by omega, h2⟩

theorem withI_snoc {l : List Itm} {x : Itm} (h : SortI (l ++ [x])) : withI l x = l ++ [x] :=
  SortI.ext (withI_sort (List.pairwise_append.1 h).1) h fun y => by rw [withI_mem]; simp

theorem goI_take {g : Gram} {l : List Itm} {i : Nat} (h : i < l.length) (s : Int) : goI g (l.take (i + 1)) s = if beh g l[i] = s then goI g (l.take i) s ++ [⟨l[i].Prod, l[i].Dot + 1⟩] else goI g (l.take i) s := by
  rw [List.take_succ_eq_append_getElem h, goI_snoc]

theorem goI_le {g : Gram} {l : List Itm} {s : Int} : (goI g l s).length ≤ l.length := by
  unfold goI; rw [List.length_map]; exact List.length_filter_le _ _

theorem SortI.take {l : List Itm} (h : SortI l) (n : Nat) : SortI (l.take n) := List.Pairwise.sublist (List.take_sublist _ _) h

attribute [local irreducible] EVX EVO EVL EV1 NEV
attribute [local irreducible] own osl exA rdA rdL
set_option maxRecDepth 10000
set_option maxHeartbeats 4000000

theorem goes_w (cs : List Value) (g : Gram) (A : Option Addr) (c : Nat) (l : List Itm) (s : Int) (hsz : l.length ≤ 100000) (hs : SortI l) (hin : ∀ x ∈ l, inG g x = true) (hdt : ∀ x ∈ l, x.Dot ≤ 100000) :
    Trip Tryz.prog 45 [.agg cs.toArray, .slice A l.length c, .int .i64 s] ((kGram.rd cs g).and ((kslice 16 kItm).rd [.slice A l.length c] l)) []
      (fun v V => ∃ (A' : Option Addr) (c' : Nat), v = .slice A' (goI g l s).length c' ∧ V = [pX A' (goI g l s).length c' (goI g l s)]) := by
  refine trip Tryz.tabOk Tryz.func45 rfl rfl rfl rfl ?_
  rintro w SM ⟨hG0, ⟨A', c', e1, h1⟩⟩
  cases e1
  obtain ⟨A0, A1, A2, A3, A4, c0, c1, c2, c3, c4, rfl, hG⟩ := kGram_open hG0
  repeat' (first | refine e_nil ?_ | ((refine e_op ?_); (first | refine o_n (peval_sound rfl) rfl ?_ | refine o_box rfl rfl (fun _ => ?_))) | refine s_seq ?_ | refine s_region ?_)
  rename_i b3
  refine s_ent (Ent.osl0 (e := 79) (sz := 2) (Ent.refl _)) ?_
  repeat' (refine s_block ?_)
  refine s_loopK (ι := {x : Nat × Option Addr × Nat // x.1 ≤ l.length}) [1, 2, 3] rfl ⟨(0, none, 0), by omega⟩ (fun x => [(8, .int .i64 x.1.1), (7, .slice x.1.2.1 (goI g (l.take x.1.1) s).length x.1.2.2)])
    (fun x => [pX x.1.2.1 (goI g (l.take x.1.1) s).length x.1.2.2 (goI g (l.take x.1.1) s), blk b3 27 [.slice A0 g.Terms.length c0, .slice A1 g.Levels.length c1, .slice A2 g.Pats.length c2, .slice A3 g.Nons.length c3, .slice A4 g.Prods.length c4]]) (fun x => l.length - x.1.1) ?_ ?_ ?_
  · repeat' (first | exact Sub.nil _ | refine Sub.cons rfl ?_)
  · exact Ent.refl _
  rintro ⟨⟨i, Ao, co⟩, hi⟩
  simp only at hi ⊢
  repeat' (first | refine e_nil ?_ | ((refine e_op ?_); (refine o_n (peval_sound rfl) rfl ?_)) | refine s_seq ?_ | refine s_region ?_)
  refine s_cond rfl (fun h => ?_) (fun h => ?_)
  · have hlt : i < l.length := by simpa using h
    obtain ⟨b, o, es, rfl, hb, hx, hc⟩ := h1.2.2 i hlt
    obtain ⟨rfl, hx1, hx2⟩ := kItm_open hx
    have hxi := hin _ (List.getElem_mem hlt)
    have hgt := goI_take (g := g) hlt s
    have hle : (goI g (l.take i) s).length ≤ i := by have := goI_le (g := g) (l := l.take i) (s := s); rw [List.length_take] at this; omega
    repeat' (first | refine s_seq ?_ | refine s_block ?_ | refine s_skip ?_)
    refine s_anyU Tryz.mixed ?_
    (first | refine a_n 0 rfl (peval_sound rfl) (by decide +kernel) (by (exact Ent.refl _)) rfl ?_ | refine a_n 0 rfl (nl rfl rfl tc rfl) (by decide +kernel) (by (exact Ent.refl _)) rfl ?_); (refine a_n 1 rfl (peval_sound rfl) (by decide +kernel) (by (exact Ent.refl _)) rfl ?_); (refine a_n 2 rfl (peval_sound rfl) (by decide +kernel) (by (exact Ent.refl _)) rfl ?_)
    refine a_n 3 rfl (n_index rfl rfl rfl rfl i rfl hlt) (by decide +kernel) (by (exact Ent.refl _)) rfl ?_
    refine a_n 4 rfl (n_load_ro rfl rfl hb (loads_agg rfl rfl hc)) (by decide +kernel) (by (exact Ent.refl _)) rfl ?_
    (refine a_n 6 rfl (peval_sound rfl) (by decide +kernel) (by (exact Ent.refl _)) rfl ?_)
    refine a_1 5 (by decide +kernel) rfl rfl (o_call (behR_w _ g l[i] hxi) rfl .nil (Can.ro hG0) rfl ?_)
    rintro v V ⟨rfl, rfl⟩
    refine ⟨Ent.refl _, ?_⟩
    simp only [List.nil_append]
    (refine a_n 7 rfl (peval_sound rfl) (by decide +kernel) (by (exact Ent.refl _)) rfl ?_)
    refine a_done (by decide +kernel) ?_
    skip
    refine s_cond rfl (fun h => ?_) (fun h => ?_)
    · have hbs : beh g l[i] = s := by simpa using h
      rw [if_pos hbs] at hgt
      have hxd := hdt _ (List.getElem_mem hlt)
      have hxin := hxi
      unfold inG at hxin
      simp only [Bool.and_eq_true, decide_eq_true_eq] at hxin
      have hw1 : IntKind.i64.wrap (l[i].Dot + 1) = l[i].Dot + 1 := by rw [wrap_i64] <;> omega
      have hso : SortI (goI g (l.take i) s ++ [⟨l[i].Prod, l[i].Dot + 1⟩]) := by rw [← hgt]; exact goI_sort (hs.take _) s
      refine s_drawT [13] .z Tryz.mixed (by decide +kernel) ?_
      repeat' (((refine l_n (peval_sound rfl) rfl ?_ rfl ?_); · (repeat' (first | exact Ent.refl _ | refine Ent.wk ?_))))
      refine l_n (n_index rfl rfl rfl rfl i rfl hlt) rfl (by (repeat' (first | exact Ent.refl _ | refine Ent.wk ?_))) rfl ?_
      repeat' (((refine l_n (peval_sound rfl) rfl ?_ rfl ?_); · (repeat' (first | exact Ent.refl _ | refine Ent.wk ?_))))
      refine l_n (n_load_ro rfl rfl hb (loads_one rfl (hc 0 _ rfl))) rfl (by (repeat' (first | exact Ent.refl _ | refine Ent.wk ?_))) rfl ?_
      repeat' (((refine l_n (peval_sound rfl) rfl ?_ rfl ?_); · (repeat' (first | exact Ent.refl _ | refine Ent.wk ?_))))
      refine l_n (n_index rfl rfl rfl rfl i rfl hlt) rfl (by (repeat' (first | exact Ent.refl _ | refine Ent.wk ?_))) rfl ?_
      repeat' (((refine l_n (peval_sound rfl) rfl ?_ rfl ?_); · (repeat' (first | exact Ent.refl _ | refine Ent.wk ?_))))
      refine l_n (n_load_ro rfl rfl hb (loads_one rfl (hc 1 _ rfl))) rfl (by (repeat' (first | exact Ent.refl _ | refine Ent.wk ?_))) rfl ?_
      repeat' (((refine l_n (peval_sound rfl) rfl ?_ rfl ?_); · (repeat' (first | exact Ent.refl _ | refine Ent.wk ?_))))
      rw [hw1]
      refine l_e rfl (o_call (with_w Ao co (goI g (l.take i) s) ⟨l[i].Prod, l[i].Dot + 1⟩ (by omega)) rfl (.cons .z .nil) Can.tt rfl ?_)
      rintro v V ⟨Ao', co', rfl, rfl⟩
      refine ⟨Ent.wk (Ent.refl _), ?_⟩
      rw [withI_snoc hso, ← hgt]
      repeat' (first | refine l_nil ?_ | ((refine l_n (peval_sound rfl) rfl ?_ rfl ?_); · (repeat' (first | exact Ent.refl _ | refine Ent.wk ?_))))
      repeat' (first | refine e_nil ?_ | ((refine e_op ?_); (refine o_n (peval_sound rfl) rfl ?_)) | refine s_region ?_ | refine s_end ?_)
      refine s_back ⟨⟨(i + 1, Ao', co'), by simp only; omega⟩, by simp only; omega, ?_, Ent.refl _⟩
      repeat' (first | exact Sub.nil _ | refine Sub.cons rfl ?_ | refine Sub.consE rfl ?_ ?_)
      exact inc (i := i) (by omega)
    · have hbs : ¬ beh g l[i] = s := by simpa using h
      rw [if_neg hbs] at hgt
      repeat' (first | refine e_nil ?_ | ((refine e_op ?_); (refine o_n (peval_sound rfl) rfl ?_)) | refine s_region ?_ | refine s_end ?_ | refine s_skip ?_)
      refine s_back ⟨⟨(i + 1, Ao, co), by simp only; omega⟩, by simp only; omega, ?_, ?_⟩
      · repeat' (first | exact Sub.nil _ | refine Sub.cons rfl ?_ | refine Sub.consE rfl ?_ ?_)
        · exact inc (i := i) (by omega)
        · simp only; rw [hgt]
      · simp only; rw [hgt]; exact Ent.refl _
  · have hlt : i = l.length := by simp at h; omega
    repeat' (first | refine e_nil ?_ | ((refine e_op ?_); (refine o_n (peval_sound rfl) rfl ?_)) | refine s_seq ?_ | refine s_region ?_ | refine s_exit ?_ | refine x_hit ?_ | refine x_code ?_ | refine x_back ?_)
    subst hlt
    rw [List.take_length]
    refine s_ret ⟨_, _, res1 rfl rfl, ⟨Ao, co, rfl, rfl⟩, Ent.tak .z (Ent.nil _)⟩

end Go.Proofs.YtcnpjhaedjncdaaGreatDoor

namespace Go.Proofs.YtcnpjhaedjncdaaGreatDoor
set_option linter.all false
open Go.Proofs.YtcnpjhaedjncdaaGreatDoor.E

theorem nodup_sub_len {α : Type} [DecidableEq α] : ∀ {l m : List α}, l.Nodup → (∀ x ∈ l, x ∈ m) → l.length ≤ m.length
  | [], _, _, _ => Nat.zero_le _
  | x :: l, m, hn, hs => by
    have hx := hs x (List.mem_cons_self ..)
    have h1 := nodup_sub_len (l := l) (m := m.erase x) (List.nodup_cons.1 hn).2 (fun y hy => (List.mem_erase_of_ne (fun (e : y = x) => (List.nodup_cons.1 hn).1 (by rw [← e]; exact hy))).2 (hs y (List.mem_cons_of_mem _ hy)))
    have h2 := List.length_erase_of_mem hx
    have h3 : 0 < m.length := List.length_pos_of_mem hx
    simp only [List.length_cons]
    omega

theorem SortI.nodup {l : List Itm} (h : SortI l) : l.Nodup := by
  refine List.Pairwise.imp (fun {a b} hab e => ?_) h
  subst e
  rw [ltI_irr] at hab
  cases hab

theorem Cl.from {g : Gram} {l : List Itm} {x : Itm} (h : Cl g l x) : x ∈ l ++ (List.range g.Prods.length).map (fun (k : Nat) => (⟨k, 0⟩ : Itm)) := by
  cases h with
  | base h => exact List.mem_append_left _ h
  | step _ hk _ => exact List.mem_append_right _ (List.mem_map.2 ⟨_, List.mem_range.2 hk, rfl⟩)

theorem cl_len {g : Gram} {l out : List Itm} (hs : SortI out) (h : ∀ x ∈ out, Cl g l x) : out.length ≤ l.length + g.Prods.length := by
  have := nodup_sub_len hs.nodup (fun x hx => (h x hx).from)
  simpa using this

theorem sortI_take {l : List Itm} {i : Nat} (h : i < l.length) : withI (sortI (l.take i)) l[i] = sortI (l.take (i + 1)) := by
  unfold sortI
  rw [List.take_succ_eq_append_getElem h, List.foldl_append]; rfl

theorem sortI_len (l : List Itm) : (sortI l).length ≤ l.length :=
  nodup_sub_len (sortI_sort l).nodup (fun x hx => (sortI_mem l x).1 hx)

structure CSt where
  ch : Bool
  A : Option Addr
  c : Nat
  out : List Itm
  done : List Bool

theorem openI_split {g : Gram} {done : List Bool} {x : Itm} {n : Nat} (h : beh g x = g.Terms.length + (n : Int)) : openI g done x = !(done.getD n false) := by
  unfold openI
  rw [h, decide_eq_true (by omega), Bool.true_and, show ((g.Terms.length : Int) + (n : Int) - g.Terms.length).toNat = n by omega]

theorem openI_low {g : Gram} {done : List Bool} {x : Itm} (h : beh g x < g.Terms.length) : openI g done x = false := by
  unfold openI
  rw [decide_eq_false (by omega), Bool.false_and]

attribute [local irreducible] EVX EVO EVL EV1 NEV
attribute [local irreducible] own osl exA rdA rdL
set_option maxRecDepth 10000
set_option maxHeartbeats 4000000

theorem closed_w (cs : List Value) (g : Gram) (o : GOk g) (A : Option Addr) (c : Nat) (l : List Itm) (hsz : l.length ≤ 50000) (hP : g.Prods.length ≤ 50000) (hT : g.Terms.length ≤ 50000) (hN : g.Nons.length ≤ 50000) (hin : ∀ x ∈ l, inG g x = true) :
    Trip Tryz.prog 44 [.agg cs.toArray, .slice A l.length c] ((kGram.rd cs g).and ((kslice 16 kItm).rd [.slice A l.length c] l)) []
      (fun v V => ∃ (A' : Option Addr) (c' : Nat), v = .slice A' (closedP g l).length c' ∧ V = [pX A' (closedP g l).length c' (closedP g l)]) := by
  refine trip Tryz.tabOk Tryz.func44 rfl rfl rfl rfl ?_
  rintro w SM ⟨hG0, ⟨A', c', e1, h1⟩⟩
  cases e1
  obtain ⟨A0, A1, A2, A3, A4, c0, c1, c2, c3, c4, rfl, hG⟩ := kGram_open hG0
  repeat' (first | refine e_nil ?_ | ((refine e_op ?_); (first | refine o_n (peval_sound rfl) rfl ?_ | refine o_box rfl rfl (fun _ => ?_))) | refine s_seq ?_ | refine s_region ?_)
  rename_i b2
  refine s_ent (Ent.osl0 (e := 79) (sz := 2) (Ent.refl _)) ?_
  repeat' (refine s_block ?_)
  refine s_loopK (ι := {x : Nat × Option Addr × Nat // x.1 ≤ l.length}) [1, 2] rfl ⟨(0, none, 0), by omega⟩ (fun x => [(6, .int .i64 x.1.1), (5, .slice x.1.2.1 (sortI (l.take x.1.1)).length x.1.2.2)])
    (fun x => [pX x.1.2.1 (sortI (l.take x.1.1)).length x.1.2.2 (sortI (l.take x.1.1)), blk b2 27 [.slice A0 g.Terms.length c0, .slice A1 g.Levels.length c1, .slice A2 g.Pats.length c2, .slice A3 g.Nons.length c3, .slice A4 g.Prods.length c4]]) (fun x => l.length - x.1.1) ?_ (Ent.refl _) ?_
  · repeat' (first | exact Sub.nil _ | refine Sub.cons rfl ?_)
  rintro ⟨⟨i, Ao, co⟩, hi⟩
  simp only at hi ⊢
  repeat' (first | refine e_nil ?_ | ((refine e_op ?_); (refine o_n (peval_sound rfl) rfl ?_)) | refine s_seq ?_ | refine s_region ?_)
  refine s_cond rfl (fun h => ?_) (fun h => ?_)
  · have hlt : i < l.length := by simpa using h
    obtain ⟨b, o, es, rfl, hb, hx, hc⟩ := h1.2.2 i hlt
    obtain ⟨rfl, hx1, hx2⟩ := kItm_open hx
    have hle := sortI_len (l.take i)
    rw [List.length_take] at hle
    repeat' (first | ((refine e_op ?_); (refine o_n (peval_sound rfl) rfl ?_)) | refine s_seq ?_ | refine s_region ?_ | refine s_block ?_ | refine s_skip ?_)
    refine e_op (o_n (n_index rfl rfl rfl rfl i rfl hlt) rfl ?_)
    refine e_op (o_n (n_load_ro rfl rfl hb (loads_agg rfl rfl hc)) rfl ?_)
    refine e_op (o_call (with_w Ao co (sortI (l.take i)) l[i] (by omega)) rfl (.cons .z .nil) Can.tt rfl ?_)
    rintro v V ⟨Ao', co', rfl, rfl⟩
    rw [sortI_take hlt]
    repeat' (first | refine e_nil ?_ | ((refine e_op ?_); (refine o_n (peval_sound rfl) rfl ?_)) | refine s_region ?_ | refine s_end ?_)
    refine s_back ⟨⟨(i + 1, Ao', co'), by simp only; omega⟩, by simp only; omega, ?_, Ent.refl _⟩
    repeat' (first | exact Sub.nil _ | refine Sub.cons rfl ?_ | refine Sub.consE rfl ?_ ?_)
    exact inc (i := i) (by omega)
  have hlt : i = l.length := by simp at h; omega
  subst hlt
  rw [List.take_length]
  repeat' (first | refine e_nil ?_ | ((refine e_op ?_); (first | refine o_n (peval_sound rfl) rfl ?_ | refine o_n (nl rfl rfl tc rfl) rfl ?_)) | refine s_seq ?_ | refine s_region ?_ | refine s_exit ?_ | refine x_hit ?_ | refine x_code ?_ | refine x_back ?_)
  refine e_op (o_make rfl rfl rfl rfl g.Nons.length rfl rfl (by omega) (by omega) rfl (fun b8 => ?_))
  repeat' (first | refine e_nil ?_ | ((refine e_op ?_); (refine o_n (peval_sound rfl) rfl ?_)) | refine s_seq ?_ | refine s_region ?_ | refine s_block ?_)
  rw [← List.map_replicate]
  refine s_loopK (ι := {x : CSt // ClI g l x.out x.done ∧ (x.ch = false → ∀ y ∈ x.out, openI g x.done y = false)}) [2, 7, 8] rfl ⟨⟨true, Ao, co, sortI l, List.replicate g.Nons.length false⟩, ClI.begin g l, fun h => Bool.noConfusion h⟩
    (fun x => [(9, .bool x.1.ch), (5, .slice x.1.A x.1.out.length x.1.c)])
    (fun x => [osl 4 1 (.slice (some ⟨b8, 0, none⟩) g.Nons.length g.Nons.length) g.Nons.length (x.1.done.map Value.bool), pX x.1.A x.1.out.length x.1.c x.1.out, blk b2 27 [.slice A0 g.Terms.length c0, .slice A1 g.Levels.length c1, .slice A2 g.Pats.length c2, .slice A3 g.Nons.length c3, .slice A4 g.Prods.length c4]])
    (fun x => undone x.1.done * 2 + (if x.1.ch then 1 else 0)) ?_ (Ent.refl _) ?_
  · repeat' (first | exact Sub.nil _ | refine Sub.cons rfl ?_)
  rintro ⟨⟨ch, A5, c5, out, done⟩, hI, hch⟩
  simp only at hI hch ⊢
  repeat' (first | refine e_nil ?_ | ((refine e_op ?_); (refine o_n (peval_sound rfl) rfl ?_)) | refine s_seq ?_ | refine s_region ?_)
  cases ch with
  | false =>
    repeat' (first | refine e_nil ?_ | ((refine e_op ?_); (refine o_n (peval_sound rfl) rfl ?_)) | refine s_seq ?_ | refine s_region ?_ | refine s_exit ?_ | refine s_false rfl ?_ | refine x_hit ?_ | refine x_code ?_ | refine x_back ?_)
    have hfin : out = closedP g l := by
      obtain ⟨p1, p2⟩ := closedP_spec o.beh o.left hin
      exact SortI.ext hI.sort p1 fun x => by rw [hI.fin (hch rfl) o.left x, p2 x]
    subst hfin
    refine s_ret ⟨_, _, res1 rfl rfl, ⟨A5, c5, rfl, rfl⟩, Ent.wk (Ent.tak .z (Ent.nil _))⟩
  | true =>
  repeat' (first | refine e_nil ?_ | ((refine e_op ?_); (refine o_n (peval_sound rfl) rfl ?_)) | refine s_seq ?_ | refine s_region ?_ | refine s_block ?_ | refine s_skip ?_ | refine s_true rfl ?_)
  refine s_loopK (ι := {x : Nat × CSt // x.1 ≤ 100001 ∧ ClI g l x.2.out x.2.done ∧ (x.2.ch = false → x.1 ≤ x.2.out.length ∧ undone x.2.done = undone done ∧ ∀ j (h : j < x.2.out.length), j < x.1 → openI g x.2.done x.2.out[j] = false) ∧ (x.2.ch = true → undone x.2.done + 1 = undone done)}) [2, 7, 8] rfl ⟨(0, ⟨false, A5, c5, out, done⟩), by omega, hI, fun _ => ⟨Nat.zero_le _, rfl, fun j _ h => absurd h (Nat.not_lt_zero _)⟩, fun h => Bool.noConfusion h⟩
    (fun x => [(10, .int .i64 x.1.1), (9, .bool x.1.2.ch), (5, .slice x.1.2.A x.1.2.out.length x.1.2.c)])
    (fun x => [osl 4 1 (.slice (some ⟨b8, 0, none⟩) g.Nons.length g.Nons.length) g.Nons.length (x.1.2.done.map Value.bool), pX x.1.2.A x.1.2.out.length x.1.2.c x.1.2.out, blk b2 27 [.slice A0 g.Terms.length c0, .slice A1 g.Levels.length c1, .slice A2 g.Pats.length c2, .slice A3 g.Nons.length c3, .slice A4 g.Prods.length c4]])
    (fun x => if x.1.2.ch then 0 else x.1.2.out.length - x.1.1 + 1) ?_ (Ent.refl _) ?_
  · repeat' (first | exact Sub.nil _ | refine Sub.cons rfl ?_)
  rintro ⟨⟨i, ch, A6, c6, out2, done2⟩, hi, hI2, hcf, hct⟩
  simp only at hi hI2 hcf hct ⊢
  have hlen2 := cl_len hI2.sort hI2.cl
  have hout : ∀ (h : ch = false), ¬ i < out2.length → ∀ y ∈ out2, openI g done2 y = false := fun h hn y hy => by
    obtain ⟨j, hj, rfl⟩ := List.getElem_of_mem hy
    exact (hcf h).2.2 j hj (by have := (hcf h).1; omega)
  repeat' (first | ((refine e_op ?_); (refine o_n (peval_sound rfl) rfl ?_)) | refine s_seq ?_ | refine s_region ?_)
  by_cases hlt : i < out2.length
  · have hd : decide ((i : Int) < (out2.length : Int)) = true := decide_eq_true (by omega)
    rw [hd]
    repeat' (first | refine e_nil ?_ | ((first | refine e_op ?_ | refine e_yes rfl ?_); (refine o_n (peval_sound rfl) rfl ?_)))
    cases ch with
    | true =>
      have hu := hct rfl
      repeat' (first | refine s_end ?_ | refine s_exit ?_ | refine s_false rfl ?_ | refine x_hit ?_ | refine x_code ?_ | refine x_back ?_)
      refine s_back ⟨⟨⟨true, A6, c6, out2, done2⟩, hI2, fun h => Bool.noConfusion h⟩, by simp only [if_true]; omega, ?_, Ent.refl _⟩
      repeat' (first | exact Sub.nil _ | refine Sub.cons rfl ?_)
    | false =>
      obtain ⟨hil, hun, hno⟩ := hcf rfl
      have hxm := hI2.cl _ (List.getElem_mem hlt)
      have hxi := hxm.inG hin
      repeat' (first | refine s_seq ?_ | refine s_block ?_ | refine s_skip ?_ | refine s_true rfl ?_)
      refine s_open (.s .z) (by omega) ?_
      rintro b6 rfl
      refine s_drawU [5] Tryz.mixed (by decide +kernel) ?_
      repeat' (((first | refine l_n (peval_sound rfl) rfl ?_ rfl ?_ | refine l_n (nl rfl rfl tc rfl) rfl ?_ rfl ?_); · (exact Ent.refl _)))
      refine l_n (n_index rfl rfl rfl rfl i rfl hlt) rfl (Ent.refl _) rfl ?_
      refine l_n (n_load_osl rfl rfl (.s .z) (encX_load hlt)) rfl (Ent.refl _) rfl ?_
      refine l_e rfl (o_call (behR_w _ g out2[i] hxi) rfl .nil (Can.ro hG0) rfl ?_)
      rintro v V ⟨rfl, rfl⟩
      refine ⟨Ent.refl _, ?_⟩
      simp only [List.nil_append]
      repeat' (first | refine l_nil ?_ | ((refine l_n (peval_sound rfl) rfl ?_ rfl ?_); · (exact Ent.refl _)))
      repeat' (first | ((refine e_op ?_); (refine o_n (peval_sound rfl) rfl ?_)) | refine s_seq ?_ | refine s_region ?_)
      have hnx : ∀ (hop : openI g done2 out2[i] = false) (j : Nat) (h : j < out2.length), j < i + 1 → openI g done2 out2[j] = false := fun hop j h hj => by
        by_cases e : j = i
        · subst e; exact hop
        · exact hno j h (by omega)
      by_cases hlow : beh g out2[i] < (g.Terms.length : Int)
      · rw [decide_eq_true hlow]
        repeat' (first | refine e_nil ?_ | ((refine e_op ?_); (refine o_n (peval_sound rfl) rfl ?_)) | refine e_noU rfl rfl rfl ?_ | refine s_region ?_ | refine s_exit ?_ | refine s_true rfl ?_ | refine x_hit ?_ | refine x_code ?_)
        refine s_back ⟨⟨(i + 1, ⟨false, some ⟨b6, 0, none⟩, c6, out2, done2⟩), by simp only; omega, hI2, fun _ => ⟨by simp only; omega, hun, hnx (openI_low hlow)⟩, fun h => Bool.noConfusion h⟩, by simp only; simp; omega, ?_, Ent.refl _⟩
        repeat' (first | exact Sub.nil _ | refine Sub.cons rfl ?_ | refine Sub.consE rfl ?_ ?_)
        exact inc (i := i) (by omega)
      rw [decide_eq_false hlow]
      obtain ⟨n, hn⟩ : ∃ n : Nat, beh g out2[i] = g.Terms.length + (n : Int) := ⟨(beh g out2[i] - g.Terms.length).toNat, by omega⟩
      have hnN : n < g.Nons.length := by have := o.beh _ hxi; omega
      have hsub : IntKind.i64.wrap (beh g out2[i] - (g.Terms.length : Int)) = (n : Int) := by rw [hn, wrap_i64] <;> omega
      have hdl : n < done2.length := by rw [hI2.len]; exact hnN
      repeat' (((refine e_yes rfl ?_); (refine o_n (peval_sound rfl) rfl ?_)))
      simp only [hsub]
      refine e_yes rfl (o_n (n_index rfl rfl rfl rfl n rfl hnN) rfl ?_)
      refine e_yes rfl (o_n (n_load_osl (v := .bool done2[n]) rfl rfl .z (by simp [loadL, aggB, hdl])) rfl ?_)
      repeat' (first | refine e_nil ?_ | ((refine e_op ?_); (refine o_n (peval_sound rfl) rfl ?_)))
      have hgd : done2.getD n false = done2[n] := by rw [List.getD_eq_getElem?_getD, List.getElem?_eq_getElem hdl]; rfl
      cases hdn : done2[n] with
      | true =>
        repeat' (first | refine e_nil ?_ | ((refine e_op ?_); (refine o_n (peval_sound rfl) rfl ?_)) | refine s_region ?_ | refine s_exit ?_ | refine s_true rfl ?_ | refine x_hit ?_ | refine x_code ?_)
        refine s_back ⟨⟨(i + 1, ⟨false, some ⟨b6, 0, none⟩, c6, out2, done2⟩), by simp only; omega, hI2, fun _ => ⟨by simp only; omega, hun, hnx (by rw [openI_split hn, hgd, hdn]; rfl)⟩, fun h => Bool.noConfusion h⟩, by simp only; simp; omega, ?_, Ent.refl _⟩
        repeat' (first | exact Sub.nil _ | refine Sub.cons rfl ?_ | refine Sub.consE rfl ?_ ?_)
        exact inc (i := i) (by omega)
      | false =>
        have hI3 := hI2.next (List.getElem_mem hlt) hn
        have haddl : ∀ k : Nat, k ≤ g.Prods.length → (addN g n out2 k).length ≤ l.length + g.Prods.length := fun k hk => by
          obtain ⟨p1, p2⟩ := addN_spec g n hI2.sort k
          refine cl_len p1 fun x hx => ?_
          rcases (p2 x).1 hx with hx | ⟨k', hk', hl, rfl⟩
          · exact hI2.cl x hx
          · exact .step hxm (by omega) (by rw [hn, hl])
        have hu3 := undone_set hdl (by rw [hgd, hdn])
        repeat' (first | ((refine e_op ?_); (refine o_n (peval_sound rfl) rfl ?_)) | refine s_seq ?_ | refine s_region ?_ | refine s_skip ?_ | refine s_false rfl ?_)
        simp only [hsub]
        refine e_op (o_n (n_index rfl rfl rfl rfl n rfl hnN) rfl ?_)
        refine e_op (o_store_osl (vs := [.bool true]) rfl rfl rfl rfl rfl rfl (by simp [hI2.len]; omega) .z ?_)
        have hset : setMany (done2.map Value.bool) n [Value.bool true] = (done2.set n true).map Value.bool := by rw [List.map_set]; rfl
        simp only [Nat.mul_one, Nat.zero_add, hset]
        repeat' (first | refine e_nil ?_ | ((refine e_op ?_); (refine o_n (peval_sound rfl) rfl ?_)) | refine s_seq ?_ | refine s_region ?_ | refine s_block ?_)
        refine s_loopK (ι := {x : Nat × Option Addr × Nat // x.1 ≤ g.Prods.length}) [2, 7, 8, 9, 10, 11] rfl ⟨(0, some ⟨b6, 0, none⟩, c6), by omega⟩ (fun x => [(12, .int .i64 x.1.1), (5, .slice x.1.2.1 (addN g n out2 x.1.1).length x.1.2.2)])
          (fun x => [osl 4 1 (.slice (some ⟨b8, 0, none⟩) g.Nons.length g.Nons.length) g.Nons.length ((done2.set n true).map Value.bool), pX x.1.2.1 (addN g n out2 x.1.1).length x.1.2.2 (addN g n out2 x.1.1), blk b2 27 [.slice A0 g.Terms.length c0, .slice A1 g.Levels.length c1, .slice A2 g.Pats.length c2, .slice A3 g.Nons.length c3, .slice A4 g.Prods.length c4]]) (fun x => g.Prods.length - x.1.1) ?_ ?_ ?_
        · repeat' (first | exact Sub.nil _ | refine Sub.cons rfl ?_)
        · exact Ent.refl _
        rintro ⟨⟨k, A7, c7⟩, hk⟩
        simp only at hk ⊢
        repeat' (first | refine e_nil ?_ | ((refine e_op ?_); (first | refine o_n (peval_sound rfl) rfl ?_ | refine o_n (nl rfl rfl tc rfl) rfl ?_)) | refine s_seq ?_ | refine s_region ?_)
        refine s_cond rfl (fun h => ?_) (fun h => ?_)
        · have hkl : k < g.Prods.length := by simpa using h
          have hpr : prd g (k : Int) = g.Prods[k] := by unfold prd; rw [Int.toNat_natCast, List.getD_eq_getElem?_getD, List.getElem?_eq_getElem hkl]; rfl
          have hsc := addN_succ g (n : Int) out2 k
          obtain ⟨b, ob, es, rfl, hb, he, hc⟩ := hG.prods.2.2 k hkl
          obtain ⟨Ar, cr, rfl, hl, hlN, hlK, hri⟩ := kPrd_open he
          have hal := haddl k hk
          repeat' (first | ((refine e_op ?_); (first | refine o_n (peval_sound rfl) rfl ?_ | refine o_n (nl rfl rfl tc rfl) rfl ?_)) | refine s_seq ?_ | refine s_region ?_ | refine s_block ?_ | refine s_skip ?_)
          refine e_op (o_n (n_index rfl rfl rfl rfl k rfl hkl) rfl ?_)
          repeat' (((refine e_op ?_); (refine o_n (peval_sound rfl) rfl ?_)))
          refine e_op (o_n (n_load_ro rfl rfl hb (loads_one rfl (hc 0 _ rfl))) rfl ?_)
          repeat' (first | refine e_nil ?_ | ((refine e_op ?_); (refine o_n (peval_sound rfl) rfl ?_)))
          simp only [hsub]
          refine s_cond rfl (fun h => ?_) (fun h => ?_)
          · have hbs : g.Prods[k].Left = (n : Int) := by simpa using h
            rw [hpr, if_pos hbs] at hsc
            repeat' (first | ((refine e_op ?_); (refine o_n (peval_sound rfl) rfl ?_)) | refine s_region ?_)
            refine e_op (o_call (with_w A7 c7 (addN g n out2 k) ⟨(k : Int), 0⟩ (by omega)) rfl (.cons (.s .z) .nil) Can.tt rfl ?_)
            rintro v V ⟨A8, c8, rfl, rfl⟩
            rw [← hsc]
            repeat' (first | refine e_nil ?_ | ((refine e_op ?_); (refine o_n (peval_sound rfl) rfl ?_)) | refine s_region ?_ | refine s_end ?_)
            refine s_back ⟨⟨(k + 1, A8, c8), by simp only; omega⟩, by simp only; omega, ?_, Ent.tak (.s .z) (Ent.refl _)⟩
            repeat' (first | exact Sub.nil _ | refine Sub.cons rfl ?_ | refine Sub.consE rfl ?_ ?_)
            exact inc (i := k) (by omega)
          · have hbs : ¬ g.Prods[k].Left = (n : Int) := by simpa using h
            rw [hpr, if_neg hbs] at hsc
            repeat' (first | refine e_nil ?_ | ((refine e_op ?_); (refine o_n (peval_sound rfl) rfl ?_)) | refine s_region ?_ | refine s_end ?_ | refine s_skip ?_)
            refine s_back ⟨⟨(k + 1, A7, c7), by simp only; omega⟩, by simp only; omega, ?_, ?_⟩
            · repeat' (first | exact Sub.nil _ | refine Sub.cons rfl ?_ | refine Sub.consE rfl ?_ ?_)
              · exact inc (i := k) (by omega)
              · simp only; rw [hsc]
            · simp only; rw [hsc]; exact Ent.refl _
        · have hkl : k = g.Prods.length := by simp at h; omega
          subst hkl
          repeat' (first | refine e_nil ?_ | ((refine e_op ?_); (refine o_n (peval_sound rfl) rfl ?_)) | refine s_region ?_ | refine s_end ?_ | refine s_exit ?_ | refine x_hit ?_ | refine x_code ?_ | refine x_back ?_)
          refine s_back ⟨⟨(i + 1, ⟨true, A7, c7, addN g n out2 g.Prods.length, done2.set n true⟩), by simp only; omega, hI3, fun h => Bool.noConfusion h, fun _ => by simp only; omega⟩, by simp only; simp, ?_, Ent.refl _⟩
          repeat' (first | exact Sub.nil _ | refine Sub.cons rfl ?_ | refine Sub.consE rfl ?_ ?_)
          exact inc (i := i) (by omega)
  · have hd : decide ((i : Int) < (out2.length : Int)) = false := decide_eq_false (by omega)
    rw [hd]
    repeat' (first | refine e_nil ?_ | ((refine e_op ?_); (refine o_n (peval_sound rfl) rfl ?_)) | refine e_noU rfl rfl rfl ?_ | refine s_end ?_ | refine s_exit ?_ | refine s_false rfl ?_ | refine x_hit ?_ | refine x_code ?_ | refine x_back ?_)
    refine s_back ⟨⟨⟨ch, A6, c6, out2, done2⟩, hI2, fun h => hout h hlt⟩, ?_, ?_, Ent.refl _⟩
    · simp only [if_true]
      cases ch with
      | true => have := hct rfl; simp only [if_true]; omega
      | false => have := (hcf rfl).2.1; simp; omega
    · repeat' (first | exact Sub.nil _ | refine Sub.cons rfl ?_)

end Go.Proofs.YtcnpjhaedjncdaaGreatDoor

namespace Go.Proofs.YtcnpjhaedjncdaaGreatDoor
set_option linter.all false
open Go.Proofs.YtcnpjhaedjncdaaGreatDoor.E

theorem checkE_ok {g : Gram} (h : checkE g = 0) : limitsB g = false ∧ Wf0 g := by
  unfold checkE at h
  cases hl : limitsB g with
  | true => rw [hl] at h; simp at h
  | false =>
    refine ⟨rfl, (wf0_iff g).1 ?_⟩
    rw [hl] at h
    cases hw : wf g with
    | false => rw [hw] at h; simp at h
    | true => unfold wf at hw; rw [Bool.and_eq_true] at hw; exact hw.1

structure Lims (g : Gram) : Prop where
  t : g.Terms.length ≤ 48
  n : g.Nons.length ≤ 48
  p : g.Prods.length ≤ 128
  r : ∀ p ∈ g.Prods, p.Right.length ≤ 12

theorem lims {g : Gram} (h : limitsB g = false) : Lims g := by
  unfold limitsB at h
  simp only [Bool.or_eq_false_iff, decide_eq_false_iff_not, List.any_eq_false, decide_eq_true_eq] at h
  exact ⟨by omega, by omega, by omega, fun p hp => by have := h.2.2.2 p hp; omega⟩

theorem prd_at {g : Gram} {k : Nat} (h : k < g.Prods.length) : prd g (k : Int) = g.Prods[k] := by
  unfold prd; rw [Int.toNat_natCast, List.getD_eq_getElem?_getD, List.getElem?_eq_getElem h]; rfl

theorem prod_ok {g : Gram} (h : Wf0 g) {k : Nat} (hk : k < g.Prods.length) : 0 ≤ g.Prods[k].Left ∧ g.Prods[k].Left < g.Nons.length ∧ ∀ s ∈ g.Prods[k].Right, 0 ≤ s ∧ s < g.Terms.length + g.Nons.length := by
  have h1 := h.prod k hk
  unfold prodOk at h1
  simp only [Bool.and_eq_true, decide_eq_true_eq, List.all_eq_true] at h1
  refine ⟨h1.1, h1.2.1, fun s hs => ?_⟩
  have h2 := h1.2.2.2.2 s hs
  unfold symOk at h2
  simp only [Bool.and_eq_true, decide_eq_true_eq] at h2
  omega

theorem beh_rng {g : Gram} (h : Wf0 g) {x : Itm} (hx : inG g x = true) : -1 ≤ beh g x ∧ beh g x < g.Terms.length + g.Nons.length ∧ (x.Dot < (prd g x.Prod).Right.length → 0 ≤ beh g x) := by
  unfold inG at hx
  simp only [Bool.and_eq_true, decide_eq_true_eq] at hx
  obtain ⟨p, d⟩ := x
  simp only at hx ⊢
  obtain ⟨k, rfl⟩ : ∃ k : Nat, p = (k : Int) := ⟨p.toNat, by omega⟩
  obtain ⟨j, rfl⟩ : ∃ j : Nat, d = (j : Int) := ⟨d.toNat, by omega⟩
  have hk : k < g.Prods.length := by omega
  have := h.t
  unfold beh
  rw [prd_at hk]
  simp only
  split
  · rename_i hj
    have hj : j < g.Prods[k].Right.length := by omega
    have := (prod_ok h hk).2.2 _ (List.getElem_mem hj)
    rw [Int.toNat_natCast, List.getD_eq_getElem?_getD, List.getElem?_eq_getElem hj]
    simp only [Option.getD_some]
    omega
  · omega

theorem GOk.of {g : Gram} (h : Wf0 g) : GOk g where
  beh x hx := (beh_rng h hx).2.1
  left k hk := by rw [prd_at hk]; exact (prod_ok h hk).1
  p0 := h.prods
  pos x hx hd := (beh_rng h hx).2.2 hd

theorem inG_dot {g : Gram} (h : Lims g) {x : Itm} (hx : inG g x = true) : x.Dot ≤ 12 ∧ x.Prod < 128 ∧ 0 ≤ x.Dot ∧ 0 ≤ x.Prod := by
  unfold inG at hx
  simp only [Bool.and_eq_true, decide_eq_true_eq] at hx
  obtain ⟨p, d⟩ := x
  simp only at hx ⊢
  obtain ⟨k, rfl⟩ : ∃ k : Nat, p = (k : Int) := ⟨p.toNat, by omega⟩
  have hk : k < g.Prods.length := by omega
  have h1 := h.r _ (List.getElem_mem hk)
  rw [prd_at hk] at hx
  have := h.p
  omega

/-- Items that are of the grammar, all. -/
def allIn (g : Gram) (l : List Itm) : Bool := l.all (inG g)

/-- Close. -/
def closeE (g : Gram) (l : List Itm) : Int := if checkE g ≠ 0 then checkE g else if 2000 < l.length then 5 else if allIn g l then 0 else 9
def closeL (g : Gram) (l : List Itm) : List Itm := if closeE g l = 0 then closedP g l else []

end Go.Proofs.YtcnpjhaedjncdaaGreatDoor

namespace Go.Proofs.YtcnpjhaedjncdaaGreatDoor
set_option linter.all false
open Go.Proofs.YtcnpjhaedjncdaaGreatDoor.E

theorem mk3 : MKey Tryz.prog 3 encI := mkey_int Tryz.underlying3

/-- A set of numbers, as a map to ones. -/
def ones (u : List Int) : List (Int × Value) := u.map fun s => (s, .int .i64 1)

theorem ones_look (k : Int) : ∀ u : List Int, lookK (ones u) k = if k ∈ u then some (.int .i64 1) else none
  | [] => rfl
  | x :: u => by
    have ih := ones_look k u
    unfold ones at ih ⊢
    unfold lookK at ih ⊢
    rw [List.map_cons]
    by_cases h : x = k
    · subst h
      rw [List.find?_cons_of_pos (by simp), if_pos List.mem_cons_self]
      rfl
    · rw [List.find?_cons_of_neg (by simpa using h), ih]
      have h2 : ¬ k = x := fun e => h e.symm
      by_cases hm : k ∈ u
      · rw [if_pos hm, if_pos (List.mem_cons_of_mem _ hm)]
      · rw [if_neg hm, if_neg (by rw [List.mem_cons]; exact fun h3 => h3.elim h2 hm)]

theorem ones_set (k : Int) : ∀ (u : List Int), k ∉ u → setK k (.int .i64 1) (ones u) = ones (u ++ [k])
  | [], _ => rfl
  | x :: u, h => by
    have ih := ones_set k u (fun h2 => h (List.mem_cons_of_mem _ h2))
    unfold ones at ih ⊢
    rw [List.cons_append, List.map_cons, List.map_cons]
    unfold setK
    rw [if_neg (fun e : x = k => h (by rw [e]; exact List.mem_cons_self)), ih]

attribute [local irreducible] EVX EVO EVL EV1 NEV
attribute [local irreducible] own osl exA rdA rdL
set_option maxRecDepth 10000
set_option maxHeartbeats 4000000

theorem z3 (w : World) : (zeroValue 3).run Tryz.prog w = .ok (.int .i64 0) w := by rfl

theorem closedP_w (hord : ∀ (A : Option Addr) (c : Nat) (l : List Itm), l.length ≤ 100000 → Trip Tryz.prog 42 [.slice A l.length c] Rd.tt [pX A l.length c l] (fun v V => ∃ (A' : Option Addr) (c' : Nat), v = .slice A' (sortI l).length c' ∧ V = [pX A' (sortI l).length c' (sortI l)]))
    (cs : List Value) (g : Gram) (o : GOk g) (A : Option Addr) (c : Nat) (l : List Itm) (hsz : l.length ≤ 2000) (hP : g.Prods.length ≤ 128) (hT : g.Terms.length ≤ 48) (hN : g.Nons.length ≤ 48) (hin : ∀ x ∈ l, inG g x = true) :
    Trip Tryz.prog 40 [.agg cs.toArray, .slice A l.length c] ((kGram.rd cs g).and ((kslice 16 kItm).rd [.slice A l.length c] l)) []
      (fun v V => ∃ (A' : Option Addr) (c' : Nat), v = .slice A' (closedP g l).length c' ∧ V = [pX A' (closedP g l).length c' (closedP g l)]) := by
  refine trip Tryz.tabOk Tryz.func40 rfl rfl rfl rfl ?_
  rintro w SM ⟨hG0, ⟨A', c', e1, h1⟩⟩
  cases e1
  obtain ⟨A0, A1, A2, A3, A4, c0, c1, c2, c3, c4, rfl, hG⟩ := kGram_open hG0
  repeat' (first | refine e_nil ?_ | ((refine e_op ?_); (first | refine o_n (peval_sound rfl) rfl ?_ | refine o_box rfl rfl (fun _ => ?_))) | refine s_seq ?_ | refine s_region ?_)
  rename_i b2
  refine e_op (o_call (clone_w A c l (by omega)) rfl .nil (Can.ro ⟨A, c, rfl, h1⟩) rfl ?_)
  rintro v V ⟨A5, c5, rfl, rfl⟩
  repeat' (first | refine e_nil ?_ | ((refine e_op ?_); (refine o_n (peval_sound rfl) rfl ?_)) | refine s_seq ?_ | refine s_region ?_)
  refine e_op (o_newMap encI rfl (fun bm => ?_))
  repeat' (first | refine e_nil ?_ | ((refine e_op ?_); (refine o_n (peval_sound rfl) rfl ?_)) | refine s_seq ?_ | refine s_region ?_ | refine s_block ?_)
  refine s_loopK (ι := {x : Nat × Option Addr × Nat × List Itm × List Int // ClP g l x.2.2.2.1 x.2.2.2.2 x.1 ∧ x.2.2.2.1.length ≤ l.length + x.2.2.2.2.length * g.Prods.length}) [2, 6] rfl ⟨(0, A5, c5, l, []), ClP.begin g l, by simp⟩
    (fun x => [(7, .int .i64 x.1.1), (5, .slice x.1.2.1 x.1.2.2.2.1.length x.1.2.2.1)])
    (fun x => [mapA encI bm (ones x.1.2.2.2.2), pX x.1.2.1 x.1.2.2.2.1.length x.1.2.2.1 x.1.2.2.2.1, blk b2 27 [.slice A0 g.Terms.length c0, .slice A1 g.Levels.length c1, .slice A2 g.Pats.length c2, .slice A3 g.Nons.length c3, .slice A4 g.Prods.length c4]]) (fun x => clM g x.1.2.2.2.1 x.1.2.2.2.2 x.1.1) ?_ (Ent.refl _) ?_
  · repeat' (first | exact Sub.nil _ | refine Sub.cons rfl ?_)
  rintro ⟨⟨i, A6, c6, out, done⟩, hI, hlen⟩
  simp only at hI hlen ⊢
  have hdn : done.length ≤ g.Nons.length := nodup_rng_len _ _ _ hI.nd hI.rng
  have hdm : done.length * g.Prods.length ≤ 48 * 128 := Nat.mul_le_mul (by omega) hP
  have hile := hI.le
  repeat' (first | refine e_nil ?_ | ((refine e_op ?_); (refine o_n (peval_sound rfl) rfl ?_)) | refine s_seq ?_ | refine s_region ?_)
  refine s_cond rfl (fun h => ?_) (fun h => ?_)
  · have hlt : i < out.length := by simpa using h
    have hxi := (hI.cl _ (List.getElem_mem hlt)).inG hin
    repeat' (first | refine s_seq ?_ | refine s_block ?_ | refine s_skip ?_)
    refine s_open (.s .z) (by omega) ?_
    rintro b6 rfl
    refine s_drawU [5] Tryz.mixed (by decide +kernel) ?_
    repeat' (((first | refine l_n (peval_sound rfl) rfl ?_ rfl ?_ | refine l_n (nl rfl rfl tc rfl) rfl ?_ rfl ?_); · (exact Ent.refl _)))
    refine l_n (n_index rfl rfl rfl rfl i rfl hlt) rfl (Ent.refl _) rfl ?_
    refine l_n (n_load_osl rfl rfl (.s .z) (encX_load hlt)) rfl (Ent.refl _) rfl ?_
    refine l_e rfl (o_call (beh_w _ g out[i] hxi) rfl .nil (Can.ro hG0) rfl ?_)
    rintro v V ⟨rfl, rfl⟩
    refine ⟨Ent.refl _, ?_⟩
    simp only [List.nil_append]
    repeat' (first | refine l_nil ?_ | ((refine l_n (peval_sound rfl) rfl ?_ rfl ?_); · (exact Ent.refl _)))
    repeat' (first | ((refine e_op ?_); (first | refine o_n (peval_sound rfl) rfl ?_ | refine o_n (nl rfl rfl tc rfl) rfl ?_)) | refine s_seq ?_ | refine s_region ?_)
    by_cases hlow : beh g out[i] < (g.Terms.length : Int)
    · rw [decide_eq_true hlow]
      repeat' (first | refine e_nil ?_ | ((refine e_op ?_); (refine o_n (peval_sound rfl) rfl ?_)) | refine e_noU rfl rfl rfl ?_ | refine s_region ?_ | refine s_exit ?_ | refine s_true rfl ?_ | refine x_hit ?_ | refine x_code ?_)
      refine s_back ⟨⟨(i + 1, some ⟨b6, 0, none⟩, c6, out, done), hI.skip hlt (.inl hlow), hlen⟩, clM_skip hlt, ?_, Ent.refl _⟩
      repeat' (first | exact Sub.nil _ | refine Sub.cons rfl ?_ | refine Sub.consE rfl ?_ ?_)
      exact inc (i := i) (by omega)
    rw [decide_eq_false hlow]
    repeat' (((refine e_yes rfl ?_); (refine o_n (peval_sound rfl) rfl ?_)))
    refine e_yes rfl (o_n (n_lookup (k := beh g out[i]) rfl mk3 z3 rfl rfl rfl .z) rfl ?_)
    rw [ones_look]
    by_cases hmem : beh g out[i] ∈ done
    · rw [if_pos hmem]
      repeat' (first | refine e_nil ?_ | ((first | refine e_op ?_ | refine e_yes rfl ?_); (refine o_n (peval_sound rfl) rfl ?_)) | refine s_region ?_ | refine s_exit ?_ | refine s_true rfl ?_ | refine x_hit ?_ | refine x_code ?_)
      refine s_back ⟨⟨(i + 1, some ⟨b6, 0, none⟩, c6, out, done), hI.skip hlt (.inr hmem), hlen⟩, clM_skip hlt, ?_, Ent.refl _⟩
      repeat' (first | exact Sub.nil _ | refine Sub.cons rfl ?_ | refine Sub.consE rfl ?_ ?_)
      exact inc (i := i) (by omega)
    rw [if_neg hmem]
    repeat' (first | refine e_nil ?_ | ((first | refine e_op ?_ | refine e_yes rfl ?_); (refine o_n (peval_sound rfl) rfl ?_)) | refine s_seq ?_ | refine s_region ?_ | refine s_skip ?_ | refine s_false rfl ?_)
    refine e_op (o_mapUpdate (k := beh g out[i]) rfl mk3 rfl rfl rfl rfl .z ?_)
    rw [ones_set _ _ hmem]
    repeat' (first | refine e_nil ?_ | ((refine e_op ?_); (first | refine o_n (peval_sound rfl) rfl ?_ | refine o_n (nl rfl rfl tc rfl) rfl ?_)) | refine s_seq ?_ | refine s_region ?_ | refine s_block ?_)
    have h00 : out ++ prodsN g (beh g out[i] - g.Terms.length) 0 = out := by simp [prodsN]
    have hsub : IntKind.i64.wrap (beh g out[i] - (g.Terms.length : Int)) = beh g out[i] - g.Terms.length := by have := o.beh _ hxi; rw [wrap_i64] <;> omega
    refine s_loopK (ι := {x : Nat × Option Addr × Nat // x.1 ≤ g.Prods.length}) [2, 6, 7, 8, 40, 41] rfl ⟨(0, some ⟨b6, 0, none⟩, c6), by omega⟩ (fun x => [(42, .int .i64 x.1.1), (5, .slice x.1.2.1 (out ++ prodsN g (beh g out[i] - g.Terms.length) x.1.1).length x.1.2.2)])
      (fun x => [mapA encI bm (ones (done ++ [beh g out[i]])), pX x.1.2.1 (out ++ prodsN g (beh g out[i] - g.Terms.length) x.1.1).length x.1.2.2 (out ++ prodsN g (beh g out[i] - g.Terms.length) x.1.1), blk b2 27 [.slice A0 g.Terms.length c0, .slice A1 g.Levels.length c1, .slice A2 g.Pats.length c2, .slice A3 g.Nons.length c3, .slice A4 g.Prods.length c4]]) (fun x => g.Prods.length - x.1.1) ?_ ?_ ?_
    · simp only [h00]
      repeat' (first | exact Sub.nil _ | refine Sub.cons rfl ?_)
    · simp only [h00]
      exact Ent.refl _
    rintro ⟨⟨k, A7, c7⟩, hk⟩
    simp only at hk ⊢
    repeat' (first | refine e_nil ?_ | ((refine e_op ?_); (refine o_n (peval_sound rfl) rfl ?_)) | refine s_seq ?_ | refine s_region ?_)
    refine s_cond rfl (fun h => ?_) (fun h => ?_)
    · have hkl : k < g.Prods.length := by simpa using h
      obtain ⟨b9, o9, es, rfl, hb9, he9, hc9⟩ := hG.prods.2.2 k hkl
      obtain ⟨Ar, cr, rfl, hl9, hlN, hlK, hri⟩ := kPrd_open he9
      have hsc := prodsN_succ g (beh g out[i] - g.Terms.length) k
      have hpl := prodsN_len g (beh g out[i] - g.Terms.length) k
      rw [prd_at hkl] at hsc
      repeat' (first | ((refine e_op ?_); (refine o_n (peval_sound rfl) rfl ?_)) | refine s_seq ?_ | refine s_region ?_ | refine s_block ?_ | refine s_skip ?_)
      refine e_op (o_n (n_index rfl rfl rfl rfl k rfl hkl) rfl ?_)
      refine e_op (o_n (n_load_ro rfl rfl hb9 (loads_agg rfl rfl hc9)) rfl ?_)
      repeat' (first | refine e_nil ?_ | ((refine e_op ?_); (first | refine o_n (peval_sound rfl) rfl ?_ | refine o_n (nl rfl rfl tc rfl) rfl ?_ | refine o_storeC rfl rfl rfl rfl tc uc rfl rfl rfl ?_ | refine o_alloc rfl rfl (fun _ => ?_))) | refine s_seq ?_ | refine s_region ?_)
      simp only [hsub]
      refine s_cond rfl (fun h => ?_) (fun h => ?_)
      · have hbs : g.Prods[k].Left = beh g out[i] - g.Terms.length := by simpa using h
        rw [if_pos hbs] at hsc
        repeat' (first | ((refine e_op ?_); (refine o_n (peval_sound rfl) rfl ?_)) | refine s_region ?_)
        refine e_op (o_lit (cs := encX ⟨(k : Int), 0⟩) rfl rfl rfl rfl rfl rfl rfl (fun b4 => ?_))
        refine e_op (o_append (v := .slice A7 (out ++ prodsN g (beh g out[i] - g.Terms.length) k).length c7) (n := (out ++ prodsN g (beh g out[i] - g.Terms.length) k).length) (m := 1) (xs := (out ++ prodsN g (beh g out[i] - g.Terms.length) k).flatMap encX) (news := encX ⟨(k : Int), 0⟩) _ rfl rfl rfl rfl (fun w hm j u hu => ?_) rfl ?_ rfl (by omega) (by simp only [List.length_append]; omega) (by rw [List.length_append]; omega) rfl (fun b c => .s (.s (.s .z))) (fun ba ca => ?_))
        · obtain ⟨S1, hP, _⟩ := hm.tak .z
          rw [Nat.zero_add]
          exact osl_cells hP j u hu
        · simp [encX, oneB]
        have e1 : (out ++ prodsN g (beh g out[i] - g.Terms.length) k).flatMap encX ++ encX ⟨(k : Int), 0⟩ = (out ++ prodsN g (beh g out[i] - g.Terms.length) (k + 1)).flatMap encX := by rw [hsc, ← List.append_assoc, List.flatMap_append (ys := [(⟨(k : Int), 0⟩ : Itm)])]; simp
        have e2 : (out ++ prodsN g (beh g out[i] - g.Terms.length) k).length + 1 = (out ++ prodsN g (beh g out[i] - g.Terms.length) (k + 1)).length := by rw [hsc, List.length_append, List.length_append, List.length_append]; simp; omega
        rw [e1, e2]
        repeat' (first | refine e_nil ?_ | ((refine e_op ?_); (refine o_n (peval_sound rfl) rfl ?_)) | refine s_region ?_ | refine s_end ?_)
        refine s_back ⟨⟨(k + 1, some ⟨ba, 0, none⟩, ca), by simp only; omega⟩, by simp only; omega, ?_, ?_⟩
        · repeat' (first | exact Sub.nil _ | refine Sub.cons rfl ?_ | refine Sub.consE rfl ?_ ?_)
          exact inc (i := k) (by omega)
        · repeat' (first | exact Ent.nil _ | refine Ent.tak tk ?_)
      · have hbs : ¬ g.Prods[k].Left = beh g out[i] - g.Terms.length := by simpa using h
        rw [if_neg hbs] at hsc
        repeat' (first | refine e_nil ?_ | ((refine e_op ?_); (refine o_n (peval_sound rfl) rfl ?_)) | refine s_region ?_ | refine s_end ?_ | refine s_skip ?_)
        refine s_back ⟨⟨(k + 1, A7, c7), by simp only; omega⟩, by simp only; omega, ?_, ?_⟩
        · repeat' (first | exact Sub.nil _ | refine Sub.cons rfl ?_ | refine Sub.consE rfl ?_ ?_)
          · exact inc (i := k) (by omega)
          · simp only; rw [hsc]
        · simp only; rw [hsc]; repeat' (first | exact Ent.nil _ | refine Ent.tak tk ?_)
    · have hkl : k = g.Prods.length := by simp at h; omega
      subst hkl
      have hpl := prodsN_len g (beh g out[i] - g.Terms.length) g.Prods.length
      repeat' (first | refine e_nil ?_ | ((refine e_op ?_); (refine o_n (peval_sound rfl) rfl ?_)) | refine s_region ?_ | refine s_end ?_ | refine s_exit ?_ | refine x_hit ?_ | refine x_code ?_ | refine x_back ?_)
      refine s_back ⟨⟨(i + 1, A7, c7, out ++ prodsN g (beh g out[i] - g.Terms.length) g.Prods.length, done ++ [beh g out[i]]), hI.more hlt o.beh hin (by omega) hmem, ?_⟩, ?_, ?_, Ent.refl _⟩
      · simp only [List.length_append, List.length_singleton, Nat.add_mul, Nat.one_mul]; omega
      · have hm := hI.more hlt o.beh hin (by omega) hmem
        have := nodup_rng_len _ _ _ hm.nd hm.rng
        rw [List.length_append, List.length_singleton] at this
        exact clM_more hlt (by omega)
      · repeat' (first | exact Sub.nil _ | refine Sub.cons rfl ?_ | refine Sub.consE rfl ?_ ?_)
        exact inc (i := i) (by omega)
  · have hlt : out.length ≤ i := by simp at h; omega
    repeat' (first | ((refine e_op ?_); (refine o_n (peval_sound rfl) rfl ?_)) | refine s_seq ?_ | refine s_region ?_ | refine s_exit ?_ | refine x_hit ?_ | refine x_code ?_ | refine x_back ?_)
    refine e_op (o_call (hord A6 c6 out (by omega)) rfl (.cons (.s .z) .nil) Can.tt rfl ?_)
    rintro v V ⟨A7, c7, rfl, rfl⟩
    rw [closed_order o.beh o.left hin (hI.fin hlt o.left)]
    repeat' (first | refine e_nil ?_ | ((refine e_op ?_); (refine o_n (peval_sound rfl) rfl ?_)))
    refine s_ret ⟨_, _, res1 rfl rfl, ⟨A7, c7, rfl, rfl⟩, Ent.tak .z (Ent.nil _)⟩

end Go.Proofs.YtcnpjhaedjncdaaGreatDoor

namespace Go.Proofs.YtcnpjhaedjncdaaGreatDoor.E
set_option linter.all false
variable {E : Env} {fr : Frm} {U : List Asn} {N : Frm → List Asn → Prop}

/-- clear(l[q:]): what is ahead of q stays. -/
theorem o_clear {t e : TypeId} {x : Operand} {ty : TypeId} {pos : String} {af : Array Edge} {g : Option (Nat × Bool)} {s1 b1 : Nat} {z1 : List Value} {i : TI} {b n c m c2 q o : Nat} {xs : List Value} {U' : List Asn}
    (ht : tl E.T t = some ⟨.slice e, s1, b1, z1⟩) (he : tl E.T e = some i) (hx : val fr x = some (.slice (some ⟨b, o, none⟩) m c2)) (ho : o = q * i.size) (hm0 : 0 < m) (hn : q + m ≤ n)
    (hz : i.zero.all oneB = true) (hzl : Nat.beq i.zero.length i.size = true)
    (hU : Upd (osl e i.size (.slice (some ⟨b, 0, none⟩) n c) n xs) (osl e i.size (.slice (some ⟨b, 0, none⟩) q c) q (xs.take (q * i.size))) U U') (h : N fr U') :
    EV1 E ⟨none, .call ⟨.builtin .clear, #[x], #[t]⟩, ty, pos, af, g⟩ fr U N := by
  intro a w hf hm
  subst ho
  obtain ⟨S1, ⟨hO, hS⟩, hlt, hk⟩ := hm.upd hU
  have hSb := hS b rfl
  obtain ⟨d, sz, by_, z⟩ := i
  obtain ⟨inf, zv, hinf, hzv, hs, _, hzc⟩ := ti_info he
  simp only at hzl hz hO hU hk ⊢
  have hzl' := Nat.eq_of_beq_eq_true hzl
  rcases hO.2 with ⟨he2, _⟩ | ⟨g', cap, cur, hv, _, hg, hnc, hcm, hcs, htake⟩
  · cases he2
  · simp only [Value.slice.injEq, Option.some.injEq, Addr.mk.injEq, and_true, true_and] at hv
    obtain ⟨rfl, rfl⟩ := hv
    have hzs : zv.cells.size = sz := by rw [hzc]; simpa using hzl'
    have hcl : (Builtin.zeroCells zv.cells m).toList.length = m * sz := by simp [Builtin.zeroCells, hzs]
    have hle : q * sz + 0 + (Builtin.zeroCells zv.cells m).toList.length ≤ cur.size := by
      rw [hcl, hcs, Nat.add_zero, ← Nat.add_mul]; exact Nat.mul_le_mul_right _ (by omega)
    have hone : ∀ u ∈ (Builtin.zeroCells zv.cells m).toList, oneB u = true := by
      intro u hu
      unfold Builtin.zeroCells at hu
      simp only [Array.toList_map, List.mem_map, Array.toList_range, List.mem_range, hzs] at hu
      obtain ⟨j, hj, rfl⟩ := hu
      have hp : 0 < sz := by
        rcases Nat.eq_zero_or_pos sz with h0 | h0
        · rw [h0] at hj; omega
        · exact h0
      have hj2 : j % sz < z.length := by rw [hzl']; exact Nat.mod_lt _ hp
      rw [hzc]
      have e1 : z.toArray[j % sz]! = z[j % sz] := by simp [hj2]
      rw [e1]
      exact List.all_eq_true.1 hz _ (List.getElem_mem hj2)
    have hr := run_storeCells_at E.P b (q * sz) e (Builtin.zeroCells zv.cells m).toList 0 cur w hg hle (fun u hu => oneB_eq (hone u hu))
    have hrun : (Builtin.clear_ #[t] ty #[.slice (some ⟨b, q * sz, none⟩) m c2]).run E.P w = .ok (.tuple #[]) (w.setRow b (List.take (q * sz + 0) cur.toList ++ (Builtin.zeroCells zv.cells m).toList ++ List.drop (q * sz + 0 + (Builtin.zeroCells zv.cells m).toList.length) cur.toList).toArray) := by
      unfold Builtin.clear_
      obtain ⟨m', rfl⟩ : ∃ m', m = m' + 1 := ⟨m - 1, by omega⟩
      simp [run_under (u_slice ht), run_zero hinf hzv, hr]
    unfold Oper.wp execOp
    simp only [resolve, invoke, builtin, Sem.run_bind, Sem.run_pure, Result.andThen_ok, List.map_toArray, List.map_cons, List.map_nil, hf.eval hx, hrun]
    have hst := step_setRow w b
    refine ⟨fr, U', h, hf.put_none (.tuple #[]), hk _ (fun k => k = b) ⟨(hst _).os, (hst _).tape, (hst _).output, (hst _).size, fun k hk1 hk2 => (hst _).same k hk1 (fun e => hk2 (e ▸ hSb))⟩ ⟨⟨?_, .inr ⟨b, c, _, rfl, Nat.zero_le _, setRow_heap w b cur _ e _ hg, by omega, hcm, ?_, ?_⟩⟩, ?_⟩ ?_⟩
    · rw [List.length_take, hO.1, Nat.min_eq_left]; exact Nat.mul_le_mul_right _ (by omega)
    · rw [hcl] at hle; rw [List.size_toArray, List.length_append, List.length_append, List.length_take, List.length_drop, hcl, Array.length_toList]; omega
    · rw [← htake, List.take_take, Nat.min_eq_left (Nat.mul_le_mul_right _ (by omega))]
      have : q * sz ≤ cur.size := by omega
      simp only [Nat.add_zero, List.append_assoc]
      rw [List.take_append_of_le_length (by simp; omega), List.take_take, Nat.min_self]
    · intro k hk; simp [Value.ownBlock] at hk; exact hk.symm
    · rintro k rfl
      exact ⟨Nat.lt_of_lt_of_le (hlt k hSb) (hst _).size, .inl hSb⟩

end Go.Proofs.YtcnpjhaedjncdaaGreatDoor.E

namespace Go.Proofs.YtcnpjhaedjncdaaGreatDoor.E
set_option linter.all false
variable {E : Env} {fr : Frm} {ops : Array Oper}

/-- A world that came of w by draws and new blocks. -/
def Gr (w w' : World) : Prop := ∃ n os, w' = Sort.grow (w.drewN n) os

theorem Gr.refl (w : World) : Gr w w := ⟨0, #[], by rw [Sort.grow_empty]; rfl⟩
theorem Gr.drew {w w' : World} (h : Gr w w') : Gr w { w' with drawn := w'.drawn + 1 } := by
  obtain ⟨n, os, rfl⟩ := h
  exact ⟨n + 1, os, rfl⟩
theorem Gr.alloc {w w' : World} (h : Gr w w') (o : Obj) : Gr w (w'.alloc o) := by
  obtain ⟨n, os, rfl⟩ := h
  exact ⟨n, os ++ #[o], by rw [Sort.alloc_eq_grow, Sort.grow_grow]⟩
theorem Gr.trans {a b c : World} (h : Gr a b) (h2 : Gr b c) : Gr a c := by
  obtain ⟨n, os, rfl⟩ := h
  obtain ⟨m, os2, rfl⟩ := h2
  refine ⟨n + m, os ++ os2, ?_⟩
  rw [← Sort.grow_grow]
  unfold Sort.grow World.drewN
  simp only [Nat.add_assoc]
theorem Gr.block {w w' : World} (h : Gr w w') {b : Nat} (hb : b < w.heap.size) : w'.heap[b]? = w.heap[b]? := by
  obtain ⟨n, os, rfl⟩ := h
  unfold Sort.grow World.drewN
  simp only
  rw [Array.getElem?_append_left hb]
theorem Gr.size {w w' : World} (h : Gr w w') : w.heap.size ≤ w'.heap.size := by
  obtain ⟨n, os, rfl⟩ := h
  unfold Sort.grow World.drewN
  simp
theorem Gr.mem {w : World} (h : Gr E.w0 w) : Mem E [] w := by
  refine ⟨?_, ?_, ?_, h.size, fun b hb => h.block hb.1, fun _ => False, trivial, fun _ h => h.elim⟩ <;> (obtain ⟨n, os, rfl⟩ := h; rfl)

/-- What is left of a region when the operations 'done' have come up. -/
def EVG (E : Env) (R : Act → World → Prop) (ops : Array Oper) (fuel : Nat) (done : List Nat) (fr : Frm) : Prop :=
  ∀ a w, Fr E fr a → Gr E.w0 w → wpAnyH E.P .any ops (fun e a' w' => e = .normal ∧ R a' w') (fun w => Gr E.w0 w) fuel (lset ops done) a w

theorem g_begin {R : Act → World → Prop} {id : Nat} {a : Act} {Q : Exit → Act → World → Prop} (hm : E.P.follows .mixedOrders = true) (hf : Fr E fr a) (h : EVG E R ops ops.size [] fr) (hQ : ∀ a w, R a w → Q .normal a w) :
    (Code.region id ops true).wp E.P Q a E.w0 := by
  refine Code.wp_mono (Q := fun e a' w' => e = .normal ∧ R a' w') (fun e a w ⟨he, hr⟩ => by subst he; exact hQ a w hr) ?_
  refine wp_region_held (S := fun w => Gr E.w0 w) hm ?_
  have := h a { E.w0 with drawn := E.w0.drawn + 1 } hf (Gr.refl _).drew
  rw [lset_nil] at this
  exact this

theorem g_n {R : Act → World → Prop} {fuel : Nat} {done : List Nat} (i : Nat) {d : Nat} {o : Op} {ty : TypeId} {pos : String} {af : Array Edge} {v : Value} (hi : ops[i]? = some ⟨some d, o, ty, pos, af, none⟩)
    (hn : NEV E o fr [] v) (hok : takeOk ops done i = true) (hd : Nat.ble (d + 1) E.n = true) (h : EVG E R ops fuel (i :: done) ((d, v) :: fr)) : EVG E R ops (fuel + 1) done fr := by
  intro a w hf hm
  simp only [takeOk, Bool.and_eq_true] at hok
  refine wpAnyH_take hi hok.1 hok.2.2 hok.2.1 (fun c a w h => by cases h.1) (.inl ⟨rfl, fun w hw => hn a w _ _ _ _ _ hf hw.mem⟩) hm ?_
  rw [lset_cons]
  exact h _ w (hf.put (Nat.le_of_ble_eq_true hd) _) hm

/-- A call that leaves a world of the kind, its answer known. -/
theorem g_call {R : Act → World → Prop} {fuel : Nat} {done : List Nat} (i : Nat) {d : Nat} {f : FuncId} {args : Array Operand} {ts : Array TypeId} {ty : TypeId} {pos : String} {af : Array Edge} {vs : List Value} {v : Value}
    (hr : Region.ready .any ops (lset ops done) = [i]) (hi : ops[i]? = some ⟨some d, .call ⟨.value (.func f), args, ts⟩, ty, pos, af, none⟩) (hv : vals fr args.toList = some vs) (he : Enters E.P f)
    (hc : ∀ w, Gr E.w0 w → Calls E.P f vs.toArray w fun e w' => e = .returned v ∧ Gr E.w0 w') (hd : Nat.ble (d + 1) E.n = true) (h : EVG E R ops fuel (i :: done) ((d, v) :: fr)) : EVG E R ops (fuel + 1) done fr := by
  intro a w hf hm
  refine wpAnyH_all hr (by simp) ?_
  intro j hj
  rw [List.mem_singleton] at hj
  subst hj
  have ha : args.map a.eval = vs.toArray := by rw [← hf.evals hv, map_arr]
  unfold wpOp
  have hw : Region.wanted (⟨some d, .call ⟨.value (.func f), args, ts⟩, ty, pos, af, none⟩ : Oper) (yielded ops a.tmps) = true := by simp [Region.wanted]
  simp only [hi, hw, if_true]
  refine .inl ?_
  unfold Oper.wp execOp
  simp only [resolve, Act.eval, Deferred.ofValue, Sem.run_bind, Sem.run_pure, Result.andThen_ok, invoke, ha, Array.empty_append, Array.append_empty, he _ _, Oper.upon]
  refine (hc w hm).mono ?_
  rintro e w' ⟨rfl, hg⟩
  refine ⟨hg, ?_⟩
  rw [lset_cons]
  exact h _ w' (hf.put (Nat.le_of_ble_eq_true hd) _) hg

/-- A literal of a slice, and a call that takes it. -/
theorem g_litcall {R : Act → World → Prop} {fuel : Nat} {done : List Nat} (i j : Nat) {d d2 : Nat} {t e : TypeId} {len : Nat} {parts : Array (Nat × Operand)} {f : FuncId} {ts : Array TypeId} {ty ty2 : TypeId} {pos pos2 : String} {af af2 : Array Edge} {vs : Array Value} {v : Value}
    (hr : Region.ready .any ops (lset ops done) = [i]) (hi : ops[i]? = some ⟨some d, .buildSlice t len parts, ty, pos, af, none⟩)
    (hl : ∀ a w, Fr E fr a → (Instr.buildSlice t len (parts.map (fun (x : Nat × Operand) => (x.1, a.eval x.2)))).run E.P w = .ok (.slice (some ⟨w.heap.size, 0, none⟩) len len) (w.alloc (.cells vs e)))
    (hr2 : Region.ready .any ops (lset ops (i :: done)) = [j]) (hj : ops[j]? = some ⟨some d2, .call ⟨.value (.func f), #[.tmp d], ts⟩, ty2, pos2, af2, none⟩) (he : Enters E.P f)
    (hc : ∀ w b, Gr E.w0 w → w.heap[b]? = some (.cells vs e (0, 0)) → Calls E.P f #[.slice (some ⟨b, 0, none⟩) len len] w fun e w' => e = .returned v ∧ Gr E.w0 w') (hd : Nat.ble (d + 1) E.n = true) (hd2 : Nat.ble (d2 + 1) E.n = true)
    (h : EVG E R ops fuel (j :: i :: done) [(d2, v)]) : EVG E R ops (fuel + 1 + 1) done fr := by
  intro a w hf hm
  refine wpAnyH_all hr (by simp) ?_
  intro q hq
  rw [List.mem_singleton] at hq
  subst hq
  unfold wpOp
  have hw : Region.wanted (⟨some d, .buildSlice t len parts, ty, pos, af, none⟩ : Oper) (yielded ops a.tmps) = true := by simp [Region.wanted]
  simp only [hi, hw, if_true]
  refine .inl ?_
  unfold Oper.wp execOp
  simp only [Sem.run_bind, Sem.run_pure, hl a w hf, Result.andThen_ok, Oper.upon]
  have hg1 := hm.alloc (.cells vs e)
  refine ⟨hg1, ?_⟩
  rw [lset_cons]
  refine wpAnyH_all hr2 (by simp) ?_
  intro q hq
  rw [List.mem_singleton] at hq
  subst hq
  have hf2 := hf.put (Nat.le_of_ble_eq_true hd) (.slice (some ⟨w.heap.size, 0, none⟩) len len)
  unfold wpOp
  have hw : ∀ tm, Region.wanted (⟨some d2, .call ⟨.value (.func f), #[.tmp d], ts⟩, ty2, pos2, af2, none⟩ : Oper) (yielded ops tm) = true := fun tm => by simp [Region.wanted]
  simp only [hj, hw, if_true]
  refine .inl ?_
  have hev : (a.put (some d) (.slice (some ⟨w.heap.size, 0, none⟩) len len)).eval (.tmp d) = .slice (some ⟨w.heap.size, 0, none⟩) len len := hf2.eval (by simp [val, look])
  unfold Oper.wp execOp
  simp only [resolve, Act.eval, Deferred.ofValue, Sem.run_bind, Sem.run_pure, Result.andThen_ok, invoke, List.map_toArray, List.map_cons, List.map_nil, Array.empty_append, Array.append_empty, he _ _, Oper.upon]
  simp only [Act.eval] at hev
  rw [hev]
  refine (hc _ _ hg1 (heap_alloc_new w _)).mono ?_
  rintro e w' ⟨rfl, hg⟩
  refine ⟨hg, ?_⟩
  rw [lset_cons]
  refine h _ w' ?_ hg
  have hf3 := hf2.put (Nat.le_of_ble_eq_true hd2) v
  exact hf3.sub (Sub.cons (by simp [look]) (Sub.nil _))

theorem g_done {R : Act → World → Prop} {fuel : Nat} {done : List Nat} (hr : Region.ready .any ops (lset ops done) = []) (h : ∀ a w, Fr E fr a → Gr E.w0 w → R a w) : EVG E R ops fuel done fr :=
  fun a w hf hm => wpAnyH_done hr ⟨rfl, h a w hf hm⟩ _

end Go.Proofs.YtcnpjhaedjncdaaGreatDoor.E

namespace Go.Proofs
open Go.Shelf
shelf_lay_g SlLaysF0.n6 Slsf 6 at Tryz 62 as Tryz.sortL
shelf_lay_g SlLaysC2.n5 Slgc 5 at Tryz 65 as Tryz.cmpL
end Go.Proofs

namespace Go.Proofs.YtcnpjhaedjncdaaGreatDoor
set_option linter.all false
open Go.Proofs.YtcnpjhaedjncdaaGreatDoor.E

instance : Inhabited Itm := ⟨⟨0, 0⟩⟩

/-- The comparison. -/
def cfI (a b : Itm) : Int := if Lib.compareInt a.Prod b.Prod ≠ 0 then Lib.compareInt a.Prod b.Prod else Lib.compareInt a.Dot b.Dot

theorem cfI_lt (a b : Itm) : ltOf cfI a b = ltI a b := by
  unfold ltOf cfI ltI Lib.compareInt
  rw [Bool.eq_iff_iff]
  simp only [decide_eq_true_eq, Bool.or_eq_true, Bool.and_eq_true]
  by_cases h1 : a.Prod < b.Prod
  · rw [if_pos h1]; simp [h1]
  · rw [if_neg h1]
    by_cases h2 : a.Prod > b.Prod
    · rw [if_pos h2]; simp; omega
    · rw [if_neg h2]
      have e : a.Prod = b.Prod := by omega
      by_cases h3 : a.Dot < b.Dot
      · simp [h3, e]
      · by_cases h4 : a.Dot > b.Dot
        · simp [h3, h4, e]
        · simp [h3, h4, e]

theorem swoI : Sort.SWO (ltOf cfI) where
  irrefl x := by rw [cfI_lt]; have := ltI_iff (a := x) (b := x); cases h : ltI x x with | false => rfl | true => rw [h] at this; simp at this
  trans x y z h1 h2 := by rw [cfI_lt] at *; rw [ltI_iff] at *; omega
  ntrans x y z h1 h2 := by
    rw [cfI_lt] at *
    rw [Bool.eq_false_iff, ne_eq, ltI_iff] at *
    omega

theorem totI (x y : Itm) (h1 : ltOf cfI x y = false) (h2 : ltOf cfI y x = false) : x = y := by
  rw [cfI_lt] at *
  rw [Bool.eq_false_iff, ne_eq, ltI_iff] at *
  obtain ⟨p, d⟩ := x
  obtain ⟨p2, d2⟩ := y
  simp only at h1 h2
  have e1 : p = p2 := by omega
  have e2 : d = d2 := by omega
  rw [e1, e2]

/-! ### the world behind a sort -/
theorem put_heap {w : World} {n g : Nat} {F : Array Value} {os : Array Obj} {cur : Array Value} {e : TypeId} (hg : w.heap[g]? = some (.cells cur e (0, 0))) :
    (Sort.grow (Sort.putRow id (Sort.ahead w n) g 0 F) os).heap[g]? = some (.cells (Sort.putCells id 0 F cur) e (0, 0)) := by
  have hlt : g < w.heap.size := (Array.getElem?_eq_some_iff.1 hg).1
  unfold Sort.grow Sort.putRow Sort.mapBlock Sort.ahead
  simp only
  rw [Array.getElem?_append_left (by simpa using hlt), Array.getElem?_modify, if_pos rfl, hg]
  rfl

theorem put_other {w : World} {n g b : Nat} {F : Array Value} {os : Array Obj} (hb : b < w.heap.size) (hne : b ≠ g) :
    (Sort.grow (Sort.putRow id (Sort.ahead w n) g 0 F) os).heap[b]? = w.heap[b]? := by
  unfold Sort.grow Sort.putRow Sort.mapBlock Sort.ahead
  simp only
  rw [Array.getElem?_append_left (by simpa using hb), Array.getElem?_modify, if_neg (Ne.symm hne)]

theorem flat_get {s : List Itm} {j : Nat} (hj : j < s.length * 2) : (s.flatMap encX)[j]? = some ((Sort.flatK encX 2 s.toArray)[j]!) := by
  rw [Sort.get_flatK _ _ _ _ (by simpa using hj)]
  have h1 : j / 2 < s.length := by omega
  have h2 : j % 2 < 2 := Nat.mod_lt _ (by decide)
  obtain ⟨u, hu⟩ : ∃ u, (s.flatMap encX)[j]? = some u := by
    have : j < (s.flatMap encX).length := by rw [encX_len]; omega
    exact ⟨_, List.getElem?_eq_getElem this⟩
  obtain ⟨h, h3⟩ := encX_at hu
  rw [hu]
  have e1 : s.toArray[j / 2]! = s[j / 2] := by simp [h1]
  rw [e1, getElem!_def, h3]

theorem put_cells {s : List Itm} {cur : Array Value} (hc : s.length * 2 ≤ cur.size) : (Sort.putCells id 0 (Sort.flatK encX 2 s.toArray) cur).toList.take (s.length * 2) = s.flatMap encX := by
  apply List.ext_getElem?
  intro j
  by_cases hj : j < s.length * 2
  · rw [List.getElem?_take_of_lt hj, flat_get hj]
    unfold Sort.putCells
    rw [Array.getElem?_toList, Array.getElem?_mapIdx, Array.getElem?_eq_getElem (by omega)]
    simp [hj]
  · rw [List.getElem?_eq_none (by rw [List.length_take]; omega), List.getElem?_eq_none (by rw [encX_len]; omega)]

theorem hold_of {w : World} {g : Nat} {cur : Array Value} {e : TypeId} {l : List Itm} (hg : w.heap[g]? = some (.cells cur e (0, 0))) (ht : cur.toList.take (l.length * 2) = l.flatMap encX) : Sort.HoldsK encX 2 w g 0 l.toArray := by
  intro j hj
  rw [Sort.size_flatK] at hj
  have hj : j < l.length * 2 := by simpa using hj
  refine ⟨?_, ?_⟩
  · have h1 := flat_get hj
    rw [← ht, List.getElem?_take_of_lt hj, Array.getElem?_toList] at h1
    unfold World.cell?
    simp only [hg, Nat.zero_add]
    simpa using h1
  · unfold World.frozen?
    simp [hg]

/-! ### the comparison, walked -/
set_option maxHeartbeats 2000000 in
theorem or_w (b : Nat) (p q r : Int) (hr1 : p ≠ 0 → r = p) (hr2 : p = 0 → r = q) (W : World) (h0 : W.cell? ⟨b, 0, none⟩ = some (.int .i64 p)) (h1 : W.cell? ⟨b, 1, none⟩ = some (.int .i64 q)) :
    Calls Tryz.prog 64 #[.slice (some ⟨b, 0, none⟩) 2 2] W fun e w' => e = .returned (.int .i64 r) ∧ w' = W := by
  have a1 : RowKit.Hid (p ≠ 0 → r = p) := hr1
  have a2 : RowKit.Hid (p = 0 → r = q) := hr2
  clear hr1 hr2
  go_enter Tryz.func64, Tryz.ntmps64
  go_wp2
  refine wp_loop_rounds 3 ?_
  rw [rounds_succ]
  go_wp2
  · rename_i h
    go_ret
    exact ⟨by rw [a1.out (by simpa using h)]; rfl, rfl⟩
  · rename_i h
    have hp : p = 0 := by simpa using h
    rw [rounds_succ]
    go_wp2
    · go_ret
      exact ⟨by rw [a2.out hp]; rfl, rfl⟩
    · rename_i h2
      have hq : q = 0 := by simpa using h2
      rw [rounds_succ]
      go_wp2
      go_ret
      exact ⟨by rw [a2.out hp, hq]; rfl, rfl⟩

set_option maxHeartbeats 2000000 in
theorem order1_w (x y : Itm) (W : World) : Calls Tryz.prog 63 #[.agg (encX x).toArray, .agg (encX y).toArray] W fun e w' => e = .returned (.int .i64 (cfI x y)) ∧ ∃ q os', w' = Sort.grow (W.drewN q) os' := by
  have c1 := fun W' => AnyG.cmp_Compare_int Tryz.cmpL x.Prod y.Prod W'
  have c2 := fun W' => AnyG.cmp_Compare_int Tryz.cmpL x.Dot y.Dot W'
  change ∀ W', Calls Tryz.prog 65 _ _ _ at c1
  change ∀ W', Calls Tryz.prog 65 _ _ _ at c2
  have c3 := fun b W h0 h1 => or_w b (Lib.compareInt x.Prod y.Prod) (Lib.compareInt x.Dot y.Dot) (cfI x y) (fun h => by unfold cfI; rw [if_pos h]) (fun h => by unfold cfI; rw [if_neg (by simpa using h)]) W h0 h1
  generalize cfI x y = r at c3 ⊢
  generalize Lib.compareInt x.Prod y.Prod = p1 at c1 c3 
  generalize Lib.compareInt x.Dot y.Dot = p2 at c2 c3 
  obtain ⟨xp, xd⟩ := x
  obtain ⟨yp, yd⟩ := y
  simp only [encX] at *
  go_enter Tryz.func63, Tryz.ntmps63
  go_wp2_with (first | (go_at_call 65; refine (c1 _).mono ?_; rintro e w' ⟨rfl, rfl⟩) | (go_at_call 65; refine (c2 _).mono ?_; rintro e w' ⟨rfl, rfl⟩))
  rename_i K hK
  have hb2 : ((W.alloc (Obj.cells #[.int .i64 xp, .int .i64 xd] 79)).alloc (Obj.cells #[.int .i64 yp, .int .i64 yd] 79)).heap[W.heap.size]? = some (.cells #[.int .i64 xp, .int .i64 xd] 79 (0, 0)) := by
    rw [RowKit.Below.heap_alloc _ _ _ (by simp)]; exact heap_alloc_new W _
  have hb3 : ((W.alloc (Obj.cells #[.int .i64 xp, .int .i64 xd] 79)).alloc (Obj.cells #[.int .i64 yp, .int .i64 yd] 79)).heap[W.heap.size + 1]? = some (.cells #[.int .i64 yp, .int .i64 yd] 79 (0, 0)) := by
    have := heap_alloc_new (W.alloc (Obj.cells #[.int .i64 xp, .int .i64 xd] 79)) (Obj.cells #[.int .i64 yp, .int .i64 yd] 79)
    simpa using this
  have hg : Gr W ((W.alloc (Obj.cells #[.int .i64 xp, .int .i64 xd] 79)).alloc (Obj.cells #[.int .i64 yp, .int .i64 yd] 79)) := ((Gr.refl W).alloc _).alloc _
  generalize ((W.alloc (Obj.cells #[.int .i64 xp, .int .i64 xd] 79)).alloc (Obj.cells #[.int .i64 yp, .int .i64 yd] 79)) = W2 at hb2 hb3 hg ⊢
  have l2 : ∀ j u, (#[Value.int .i64 xp, .int .i64 xd] : Array Value)[j]? = some u → W2.cell? ⟨W.heap.size, j, none⟩ = some u := fun j u h => by unfold World.cell?; simp only [hb2]; simpa using h
  have l3 : ∀ j u, (#[Value.int .i64 yp, .int .i64 yd] : Array Value)[j]? = some u → W2.cell? ⟨W.heap.size + 1, j, none⟩ = some u := fun j u h => by unfold World.cell?; simp only [hb3]; simpa using h
  have r2 : W.heap.size < W2.heap.size ∧ ¬ False := ⟨(Array.getElem?_eq_some_iff.1 hb2).1, id⟩
  have r3 : W.heap.size + 1 < W2.heap.size ∧ ¬ False := ⟨(Array.getElem?_eq_some_iff.1 hb3).1, id⟩
  have e73 : Go.Proofs.YtcnpjhaedjncdaaGreatDoor.E.Enters Tryz.prog 65 := Go.Proofs.YtcnpjhaedjncdaaGreatDoor.E.enters_of Tryz.func65 rfl rfl
  have e72 : Go.Proofs.YtcnpjhaedjncdaaGreatDoor.E.Enters Tryz.prog 64 := Go.Proofs.YtcnpjhaedjncdaaGreatDoor.E.enters_of Tryz.func64 rfl rfl
  refine g_begin (E := ⟨Tryz.prog, Tryz.tab, Tryz.tabOk, 17, W2, fun _ => False⟩) (fr := [(2, .pointer (some ⟨W.heap.size, 0, none⟩)), (3, .pointer (some ⟨W.heap.size + 1, 0, none⟩))]) (R := fun a w => a.defers = [] ∧ a.tmps[4]? = some (.int .i64 r) ∧ Gr W w) Tryz.mixed ?_ ?_ ?_
  · refine ⟨rfl, rfl, fun d v hv => ?_⟩
    unfold Go.Proofs.YtcnpjhaedjncdaaGreatDoor.E.look at hv
    by_cases h2 : 2 = d
    · subst h2; exact hv
    · rw [show Nat.beq 2 d = false by cases hb : Nat.beq 2 d with | false => rfl | true => exact absurd (Nat.eq_of_beq_eq_true hb) h2] at hv
      simp only [cond_false] at hv
      unfold Go.Proofs.YtcnpjhaedjncdaaGreatDoor.E.look at hv
      by_cases h3 : 3 = d
      · subst h3; exact hv
      · rw [show Nat.beq 3 d = false by cases hb : Nat.beq 3 d with | false => rfl | true => exact absurd (Nat.eq_of_beq_eq_true hb) h3] at hv
        cases hv
  · refine g_n 0 rfl (peval_sound rfl) (by decide +kernel) rfl ?_
    refine g_n 1 rfl (n_load_ro rfl rfl r2 (loads_one rfl (l2 0 _ rfl))) (by decide +kernel) rfl ?_
    refine g_n 2 rfl (peval_sound rfl) (by decide +kernel) rfl ?_
    refine g_n 3 rfl (n_load_ro rfl rfl r3 (loads_one rfl (l3 0 _ rfl))) (by decide +kernel) rfl ?_
    refine g_n 5 rfl (peval_sound rfl) (by decide +kernel) rfl ?_
    refine g_n 6 rfl (n_load_ro rfl rfl r2 (loads_one rfl (l2 1 _ rfl))) (by decide +kernel) rfl ?_
    refine g_n 7 rfl (peval_sound rfl) (by decide +kernel) rfl ?_
    refine g_n 8 rfl (n_load_ro rfl rfl r3 (loads_one rfl (l3 1 _ rfl))) (by decide +kernel) rfl ?_
    refine g_call 4 (v := .int .i64 p1) (by decide +kernel) rfl rfl e73 (fun w hw => (c1 w).mono fun e w' ⟨he, h⟩ => ⟨he, by subst h; exact hw⟩) rfl ?_
    refine g_call 9 (v := .int .i64 p2) (by decide +kernel) rfl rfl e73 (fun w hw => (c2 w).mono fun e w' ⟨he, h⟩ => ⟨he, by subst h; exact hw⟩) rfl ?_
    refine g_litcall 10 11 (v := .int .i64 r) (vs := #[.int .i64 p1, .int .i64 p2]) (e := 3) (by decide +kernel) rfl (fun a w hf => ?_) (by decide +kernel) rfl e72 (fun w b hw hb => (c3 b w ?_ ?_).mono fun e w' ⟨he, h⟩ => ⟨he, by subst h; exact hw⟩) rfl rfl ?_
    · have h9 : a.eval (.tmp 9) = .int .i64 p1 := hf.eval rfl
      have h14 : a.eval (.tmp 14) = .int .i64 p2 := hf.eval rfl
      simp only [List.map_toArray, List.map_cons, List.map_nil, h9, h14]
      unfold Instr.buildSlice
      have hfl : Instr.fill (fun i => some (i, 1)) (Array.map (fun x => (Value.int .i64 0).cells[x % (Value.int .i64 0).cells.size]!) (Array.range 2)) [(0, Value.int .i64 p1), (1, Value.int .i64 p2)] = some #[.int .i64 p1, .int .i64 p2] := by
        have h0 : Array.map (fun x => (Value.int .i64 0).cells[x % (Value.int .i64 0).cells.size]!) (Array.range 2) = #[.int .i64 0, .int .i64 0] := by apply Array.toList_inj.1; simp [List.range, List.range.loop, Value.cells]
        rw [h0]; rfl
      simp [run_underlying Tryz.underlying55]
      rw [hfl]
      simp [newRow]
    · unfold World.cell?; simp only [hb]; rfl
    · unfold World.cell?; simp only [hb]; rfl
    · refine g_n 12 rfl (peval_sound rfl) (by decide +kernel) rfl ?_
      refine g_done (by decide +kernel) fun a w hf hw => ⟨hf.defers, hf.frm 4 _ rfl, hg.trans hw⟩
  · rintro a w ⟨h1, h2, h3⟩
    simp only [Exit.then]
    apply hK
    refine wp_ret (bodyPost_ret (results_tmp rfl _ _ _) h1 ⟨?_, h3⟩)
    rw [Array.getD_eq_getD_getElem?, h2]; rfl

theorem cmpLaysI (blk off size : Nat) (w : World) : CmpLays Tryz.prog 63 #[] encX 2 cfI blk off size w := fun _ _ _ _ x y => order1_w x y _

theorem leI_eq : (fun x y : Itm => !ltOf cfI y x) = leI := by funext x y; rw [cfI_lt]; rfl

set_option maxHeartbeats 1000000 in
/-- slices.SortFunc at items. -/
theorem sort_w (A : Option Addr) (c : Nat) (l : List Itm) (hsz : l.length ≤ 100000) :
    Trip Tryz.prog 62 [.slice A l.length c, .func (.func 63) #[] #[]] Rd.tt [pX A l.length c l] (fun v V => v = .tuple #[] ∧ V = [pX A l.length c (l.mergeSort leI)]) := by
  refine ⟨Go.Proofs.YtcnpjhaedjncdaaGreatDoor.E.enters_of Tryz.func62 rfl rfl, fun w SM hlt hs _ => ?_⟩
  obtain ⟨S1, S2, ⟨hO, hS1⟩, _, hd, i1, i2⟩ := hs
  by_cases hl : l = []
  · subst hl
    have h := AnyF.slices_SortFunc_none (P := Tryz.prog) (ρ := Tryz.sortL_ren) { Tryz.sortL with } A c (.func (.func 63) #[] #[]) w
    change Calls Tryz.prog 62 _ _ _ at h
    refine h.mono ?_
    rintro e w' ⟨rfl, rfl⟩
    exact ⟨_, _, SM, rfl, ⟨rfl, rfl⟩, ⟨S1, S2, ⟨by simpa using hO, hS1⟩, trivial, hd, i1, i2⟩, fun b hb => ⟨hlt b hb, .inr hb⟩, Step.refl _ _⟩
  · have hl0 : l.length ≠ 0 := fun h => hl (List.eq_nil_of_length_eq_zero h)
    rcases hO.2 with ⟨_, h0⟩ | ⟨g, cap, cur, hv, _, hg, hnc, hcm, hcs, htake⟩
    · exact absurd h0 hl0
    simp only [Value.slice.injEq, true_and] at hv
    obtain ⟨rfl, rfl⟩ := hv
    have hgl : g < w.heap.size := (Array.getElem?_eq_some_iff.1 hg).1
    have hSg : SM g := i1 g (hS1 g rfl)
    have eg : ∀ args w, (callFunc 63 args).run Tryz.prog w = .ok (.enter 63 args) w := enters_of Tryz.func63 (by kernel_rfl) rfl
    have h := AnyQ.slices_SortFunc_total Tryz.sortL 2 Tryz.isAgg79 Tryz.sizeOf79 encX (fun _ => rfl) (fun x v hv => by simp [encX] at hv; rcases hv with rfl | rfl <;> rfl) cfI swoI 63 #[] g 0 c l.toArray w eg (cmpLaysI g 0 l.toArray.size w) (hold_of hg htake) hgl (by simp; omega) totI
    rw [leI_eq] at h
    have e1 : l.toArray.size = l.length := by simp
    rw [e1] at h
    change Calls Tryz.prog 62 _ _ _ at h
    refine h.mono ?_
    rintro e w' ⟨rfl, n, os, rfl⟩
    have hsl : (l.mergeSort leI).length = l.length := List.length_mergeSort l
    have hpc := put_cells (s := l.mergeSort leI) (cur := cur) (by rw [hsl, hcs]; exact Nat.mul_le_mul_right _ hnc)
    rw [hsl] at hpc
    refine ⟨_, _, SM, rfl, ⟨rfl, rfl⟩, ⟨S1, S2, ⟨⟨by rw [encX_len, hsl], .inr ⟨g, c, _, rfl, Nat.zero_le _, put_heap hg, hnc, hcm, ?_, ?_⟩⟩, hS1⟩, trivial, hd, i1, i2⟩, fun b hb => ⟨?_, .inr hb⟩, ⟨rfl, rfl, rfl, ?_, fun b hb hnb => put_other hb (fun e => hnb (e ▸ hSg))⟩⟩
    · rw [← hcs]; unfold Sort.putCells; simp
    · exact hpc
    · refine Nat.lt_of_lt_of_le (hlt b hb) ?_
      unfold sortWorldK Sort.grow Sort.putRowK Sort.putRow Sort.mapBlock Sort.ahead; simp
    · unfold sortWorldK Sort.grow Sort.putRowK Sort.putRow Sort.mapBlock Sort.ahead; simp

end Go.Proofs.YtcnpjhaedjncdaaGreatDoor

namespace Go.Proofs.YtcnpjhaedjncdaaGreatDoor
set_option linter.all false
open Go.Proofs.YtcnpjhaedjncdaaGreatDoor.E

/-- Of the first n each that is not as the one ahead. -/
def cptN (l : List Itm) : Nat → List Itm
  | 0 => []
  | n + 1 => if 0 < n ∧ l[n]? = l[n - 1]? then cptN l n else cptN l n ++ (l[n]?).toList

theorem cptN_dup {l : List Itm} {n : Nat} (h0 : 0 < n) (h : l[n]? = l[n - 1]?) : cptN l (n + 1) = cptN l n := by
  conv => lhs; unfold cptN
  rw [if_pos ⟨h0, h⟩]
theorem cptN_new {l : List Itm} {n : Nat} (hn : n < l.length) (h : 0 < n → l[n]? ≠ l[n - 1]?) : cptN l (n + 1) = cptN l n ++ [l[n]] := by
  conv => lhs; unfold cptN
  rw [if_neg (fun h2 => h h2.1 h2.2), List.getElem?_eq_getElem hn]; rfl
theorem cptN_spec {l : List Itm} (hs : l.Pairwise (fun a b => leI a b = true)) : ∀ n, n ≤ l.length → SortI (cptN l n) ∧ ∀ x, x ∈ cptN l n ↔ x ∈ l.take n
  | 0, _ => ⟨List.Pairwise.nil, fun x => by simp [cptN]⟩
  | n + 1, hn => by
    obtain ⟨h1, h2⟩ := cptN_spec hs n (by omega)
    have hn' : n < l.length := by omega
    have htk : l.take (n + 1) = l.take n ++ [l[n]] := List.take_succ_eq_append_getElem hn'
    by_cases hd : 0 < n ∧ l[n]? = l[n - 1]?
    · rw [cptN_dup hd.1 hd.2]
      refine ⟨h1, fun x => ?_⟩
      rw [h2, htk, List.mem_append, List.mem_singleton]
      refine ⟨.inl, fun h => h.elim id ?_⟩
      rintro rfl
      have e := hd.2
      rw [List.getElem?_eq_getElem hn', List.getElem?_eq_getElem (by omega : n - 1 < l.length), Option.some.injEq] at e
      rw [e]
      rw [List.mem_take_iff_getElem]
      exact ⟨n - 1, by omega, rfl⟩
    · rw [cptN_new hn' (fun h0 h3 => hd ⟨h0, h3⟩)]
      refine ⟨?_, fun x => by rw [List.mem_append, h2, htk, List.mem_append]⟩
      unfold SortI
      rw [List.pairwise_append]
      refine ⟨h1, List.pairwise_singleton _ _, fun a ha b hb => ?_⟩
      rw [List.mem_singleton] at hb
      subst hb
      rw [h2, List.mem_take_iff_getElem] at ha
      obtain ⟨i, hi, rfl⟩ := ha
      have hi' : i < n := by omega
      have hp := List.pairwise_iff_getElem.1 hs
      have a1 := hp i n (by omega) hn' hi'
      by_cases e : l[i] = l[n]
      · exfalso
        refine hd ⟨by omega, ?_⟩
        rw [List.getElem?_eq_getElem hn', List.getElem?_eq_getElem (by omega : n - 1 < l.length), Option.some.injEq]
        have a3 := hp (n - 1) n (by omega) hn' (by omega)
        by_cases e2 : i = n - 1
        · subst e2; exact e.symm
        have a2 := hp i (n - 1) (by omega) (by omega) (by omega)
        rw [e] at a2
        unfold leI at a2 a3
        simp only [Bool.not_eq_true', Bool.eq_false_iff, ne_eq, ltI_iff] at a2 a3
        have hx : ∀ (a b : Itm), a.Prod = b.Prod → a.Dot = b.Dot → a = b := fun a b h1 h2 => by cases a; cases b; simp only at h1 h2; rw [h1, h2]
        exact hx _ _ (by omega) (by omega)
      · unfold leI at a1
        simp only [Bool.not_eq_true', Bool.eq_false_iff, ne_eq, ltI_iff] at a1
        rw [ltI_iff]
        have hx : ¬ (l[i].Prod = l[n].Prod ∧ l[i].Dot = l[n].Dot) := fun h => e (by
          have : ∀ (a b : Itm), a.Prod = b.Prod → a.Dot = b.Dot → a = b := fun a b h1 h2 => by cases a; cases b; simp only at h1 h2; rw [h1, h2]
          exact this _ _ h.1 h.2)
        omega

theorem cptN_sort (l : List Itm) : cptN (l.mergeSort leI) (l.mergeSort leI).length = sortI l := by
  have hs : (l.mergeSort leI).Pairwise (fun a b => leI a b = true) := List.pairwise_mergeSort
    (fun a b c h1 h2 => by unfold leI at *; simp only [Bool.not_eq_true', Bool.eq_false_iff, ne_eq, ltI_iff] at *; omega)
    (fun a b => by unfold leI; rw [Bool.or_eq_true]; simp only [Bool.not_eq_true', Bool.eq_false_iff, ne_eq, ltI_iff]; omega) l
  obtain ⟨h1, h2⟩ := cptN_spec hs _ (Nat.le_refl _)
  refine SortI.ext h1 (sortI_sort l) fun x => ?_
  rw [h2, List.take_length, List.mem_mergeSort, sortI_mem]

/-- A run in place: k written, m seen. -/
structure CptI (l xs : List Itm) (k m : Nat) : Prop where
  len : xs.length = l.length
  k0 : 0 < k
  lt : k < m
  le : m ≤ l.length
  w : xs.take k = cptN l m
  rest : ∀ p, m - 1 ≤ p → xs[p]? = l[p]?

theorem CptI.dup {l xs : List Itm} {k m : Nat} (h : CptI l xs k m) (hm : m < l.length) (he : l[m]? = l[m - 1]?) : CptI l xs k (m + 1) where
  len := h.len
  k0 := h.k0
  lt := by have := h.lt; omega
  le := by omega
  w := by have := h.lt; have := h.k0; rw [cptN_dup (by omega) he]; exact h.w
  rest p hp := h.rest p (by omega)

theorem CptI.new {l xs : List Itm} {k m : Nat} (h : CptI l xs k m) (hm : m < l.length) (he : l[m]? ≠ l[m - 1]?) : CptI l (xs.set k l[m]) (k + 1) (m + 1) where
  len := by rw [List.length_set]; exact h.len
  k0 := by omega
  lt := by have := h.lt; omega
  le := by omega
  w := by
    have := h.lt; have := h.len
    rw [cptN_new hm (fun _ => he), ← h.w]
    rw [List.take_succ_eq_append_getElem (by rw [List.length_set]; omega), List.take_set_of_le (by omega)]
    simp
  rest p hp := by
    have := h.lt
    rw [List.getElem?_set_ne (by omega)]
    exact h.rest p (by omega)

end Go.Proofs.YtcnpjhaedjncdaaGreatDoor

namespace Go.Proofs.YtcnpjhaedjncdaaGreatDoor
set_option linter.all false
open Go.Proofs.YtcnpjhaedjncdaaGreatDoor.E

theorem encX_set (y : Itm) : ∀ (l : List Itm) (k : Nat), k < l.length → setMany (l.flatMap encX) (k * 2) (encX y) = (l.set k y).flatMap encX
  | [], k, h => absurd h (Nat.not_lt_zero _)
  | x :: l, 0, _ => by simp [setMany, encX]
  | x :: l, k + 1, h => by
    have ih := encX_set y l k (by simpa using h)
    rw [List.set_cons_succ, List.flatMap_cons, List.flatMap_cons, ← ih]
    have e : (k + 1) * 2 = k * 2 + 1 + 1 := by omega
    rw [e]
    simp [encX, setMany]

theorem encX_takeN : ∀ (l : List Itm) (k : Nat), (l.flatMap encX).take (k * 2) = (l.take k).flatMap encX
  | [], k => by simp
  | x :: l, 0 => by simp
  | x :: l, k + 1 => by
    have ih := encX_takeN l k
    rw [List.take_succ_cons, List.flatMap_cons, List.flatMap_cons, ← ih, show (k + 1) * 2 = k * 2 + 1 + 1 by omega]
    simp [encX]

attribute [local irreducible] EVX EVO EVL EV1 NEV
attribute [local irreducible] own osl exA rdA rdL
set_option maxRecDepth 10000
set_option maxHeartbeats 4000000

theorem compact_w (A : Option Addr) (c : Nat) (l : List Itm) (hsz : l.length ≤ 100000) : Trip Tryz.prog 66 [.slice A l.length c] Rd.tt [pX A l.length c l]
    (fun v V => ∃ (A' : Option Addr) (c' : Nat), v = .slice A' (cptN l l.length).length c' ∧ V = [pX A' (cptN l l.length).length c' (cptN l l.length)]) := by
  refine trip Tryz.tabOk Tryz.func66 rfl rfl rfl rfl ?_
  rintro w SM hW
  clear hW
  repeat' (first | refine e_nil ?_ | ((refine e_op ?_); (refine o_n (peval_sound rfl) rfl ?_)) | refine s_seq ?_ | refine s_region ?_)
  refine s_cond rfl (fun h => ?_) (fun h => ?_)
  · have hl : l.length < 2 := by have h := of_decide_eq_true h; omega
    have e : cptN l l.length = l := by
      match l, hl with
      | [], _ => rfl
      | [x], _ => rfl
    repeat' (first | refine e_nil ?_ | ((refine e_op ?_); (refine o_n (peval_sound rfl) rfl ?_)) | refine s_seq ?_ | refine s_region ?_)
    refine s_ret ⟨_, _, res1 rfl rfl, ⟨A, c, by rw [e], rfl⟩, by rw [e]; exact Ent.refl _⟩
  have hl : 2 ≤ l.length := by simp at h; omega
  refine s_open .z (by omega) ?_
  rintro b rfl
  refine s_cap .z (fun hcap => ?_)
  repeat' (first | refine e_nil ?_ | ((refine e_op ?_); (refine o_n (peval_sound rfl) rfl ?_)) | refine s_seq ?_ | refine s_region ?_ | refine s_block ?_ | refine s_skip ?_)
  refine s_loopK (ι := {k : Nat // 0 < k ∧ k ≤ l.length ∧ cptN l k = l.take k}) [0] rfl ⟨1, by omega, by omega, by
    have h0 : 0 < l.length := by omega
    rw [cptN_new h0 (fun h => absurd h (Nat.lt_irrefl _)), List.take_succ_eq_append_getElem h0]; simp [cptN]⟩ (fun k => [(3, .int .i64 k.1)]) (fun _ => [pX (some ⟨b, 0, none⟩) l.length c l]) (fun k => l.length - k.1) ?_ (Ent.refl _) ?_
  · repeat' (first | exact Sub.nil _ | refine Sub.cons rfl ?_)
  rintro ⟨k, hk0, hkn, hk⟩
  simp only at hk0 hkn hk ⊢
  repeat' (first | refine e_nil ?_ | ((refine e_op ?_); (refine o_n (peval_sound rfl) rfl ?_)) | refine s_seq ?_ | refine s_region ?_)
  refine s_cond rfl (fun h => ?_) (fun h => ?_)
  · have hlt : k < l.length := by simpa using h
    have hsub : IntKind.i64.wrap ((k : Int) - 1) = ((k - 1 : Nat) : Int) := by rw [wrap_i64] <;> omega
    repeat' (first | refine s_seq ?_ | refine s_block ?_ | refine s_skip ?_)
    refine s_drawU [] Tryz.mixed (by decide +kernel) ?_
    repeat' (((refine l_n (peval_sound rfl) rfl ?_ rfl ?_); · (exact Ent.refl _)))
    refine l_n (n_index rfl rfl rfl rfl k rfl hlt) rfl (Ent.refl _) rfl ?_
    refine l_n (n_load_osl rfl rfl .z (encX_load hlt)) rfl (Ent.refl _) rfl ?_
    repeat' (((refine l_n (peval_sound rfl) rfl ?_ rfl ?_); · (exact Ent.refl _)))
    rw [hsub]
    refine l_n (n_index rfl rfl rfl rfl (k - 1) rfl (by omega)) rfl (Ent.refl _) rfl ?_
    refine l_n (n_load_osl rfl rfl .z (encX_load (by omega : k - 1 < l.length))) rfl (Ent.refl _) rfl ?_
    refine l_n (n_eql42 rfl rfl) rfl (Ent.refl _) rfl ?_
    repeat' (refine l_nil ?_)
    refine s_cond rfl (fun h => ?_) (fun h => ?_)
    · have heq : l[k] = l[k - 1] := by simpa using h
      have he : l[k]? = l[k - 1]? := by rw [List.getElem?_eq_getElem hlt, List.getElem?_eq_getElem (by omega : k - 1 < l.length), heq]
      repeat' (first | ((refine e_op ?_); (refine o_n (peval_sound rfl) rfl ?_)) | refine s_seq ?_ | refine s_region ?_)
      refine e_op (o_n (n_fromV k rfl rfl rfl rfl rfl (by omega)) rfl ?_)
      rw [if_neg (by omega : ¬ c = k)]
      simp only [Option.map_some, add_at]
      repeat' (first | refine e_nil ?_ | ((refine e_op ?_); (refine o_n (peval_sound rfl) rfl ?_)) | refine s_seq ?_ | refine s_region ?_ | refine s_block ?_)
      refine s_loopK (ι := {x : Nat × Nat × List Itm // 0 < x.1 ∧ CptI l x.2.2 x.2.1 (k + x.1)}) [0, 4] rfl ⟨(1, k, l), by omega, ⟨rfl, hk0, by simp only; omega, by simp only; omega, by simp only; rw [cptN_dup hk0 he, hk], fun p _ => rfl⟩⟩ (fun x => [(5, .int .i64 x.1.1), (3, .int .i64 x.1.2.1)])
        (fun x => [pX (some ⟨b, 0, none⟩) l.length c x.1.2.2]) (fun x => l.length - x.1.1) ?_ (Ent.refl _) ?_
      · repeat' (first | exact Sub.nil _ | refine Sub.cons rfl ?_)
      rintro ⟨⟨k2, kw, xs⟩, hk2, hI⟩
      simp only at hk2 hI ⊢
      have hle := hI.le
      have hlen := hI.len
      have hklt := hI.lt
      repeat' (first | refine e_nil ?_ | ((refine e_op ?_); (refine o_n (peval_sound rfl) rfl ?_)) | refine s_seq ?_ | refine s_region ?_)
      refine s_cond rfl (fun h => ?_) (fun h => ?_)
      · have hlt2 : k2 < l.length - k := by have h := of_decide_eq_true h; omega
        have hm : k + k2 < l.length := by omega
        have hmx : k + k2 < xs.length := by omega
        have hmx1 : k + (k2 - 1) < xs.length := by omega
        have hsub2 : IntKind.i64.wrap ((k2 : Int) - 1) = ((k2 - 1 : Nat) : Int) := by rw [wrap_i64] <;> omega
        have hld : ∀ (j : Nat) (hj : k + j < xs.length) (z : List Value), loadL ⟨.struct [(0, 1), (1, 1)], 2, 16, z⟩ (xs.flatMap encX) (0 + k * 2 + j * 2) = some (.agg (encX xs[k + j]).toArray) := fun j hj z => by
          rw [show 0 + k * 2 + j * 2 = 0 + (k + j) * 2 by omega]; exact encX_load hj
        repeat' (first | refine s_seq ?_ | refine s_block ?_ | refine s_skip ?_)
        refine s_drawU [] Tryz.mixed (by decide +kernel) ?_
        repeat' (((refine l_n (peval_sound rfl) rfl ?_ rfl ?_); · (exact Ent.refl _)))
        refine l_n (n_index rfl rfl rfl rfl k2 rfl hlt2) rfl (Ent.refl _) rfl ?_
        refine l_n (n_load_osl rfl rfl .z (hld k2 hmx _)) rfl (Ent.refl _) rfl ?_
        repeat' (((refine l_n (peval_sound rfl) rfl ?_ rfl ?_); · (exact Ent.refl _)))
        rw [hsub2]
        refine l_n (n_index rfl rfl rfl rfl (k2 - 1) rfl (by omega)) rfl (Ent.refl _) rfl ?_
        refine l_n (n_load_osl rfl rfl .z (hld (k2 - 1) hmx1 _)) rfl (Ent.refl _) rfl ?_
        refine l_n (n_neq42 rfl rfl) rfl (Ent.refl _) rfl ?_
        repeat' (refine l_nil ?_)
        have e1 : xs[k + k2]? = l[k + k2]? := hI.rest _ (by omega)
        have e2 : xs[k + (k2 - 1)]? = l[k + k2 - 1]? := by rw [show k + (k2 - 1) = k + k2 - 1 by omega]; exact hI.rest _ (by omega)
        rw [List.getElem?_eq_getElem hmx] at e1
        rw [List.getElem?_eq_getElem hmx1] at e2
        cases h4 : decide (xs[k + k2] = xs[k + (k2 - 1)]) with
        | true =>
          have h4 := of_decide_eq_true h4
          repeat' (first | refine e_nil ?_ | ((refine e_op ?_); (refine o_n (peval_sound rfl) rfl ?_)) | refine s_region ?_ | refine s_end ?_ | refine s_skip ?_ | refine s_false rfl ?_)
          refine s_back ⟨⟨(k2 + 1, kw, xs), by simp only; omega, hI.dup hm (by rw [← e1, ← e2, h4])⟩, by simp only; omega, ?_, Ent.refl _⟩
          repeat' (first | exact Sub.nil _ | refine Sub.cons rfl ?_ | refine Sub.consE rfl ?_ ?_)
          exact inc (i := k2) (by omega)
        | false =>
          have h4 := of_decide_eq_false h4
          have hkw : kw < l.length := by omega
          have e3 : xs[k + k2] = l[k + k2] := by rw [List.getElem?_eq_getElem hm, Option.some.injEq] at e1; exact e1
          repeat' (first | ((refine e_op ?_); (refine o_n (peval_sound rfl) rfl ?_)) | refine s_seq ?_ | refine s_region ?_ | refine s_true rfl ?_)
          refine e_op (o_n (n_index rfl rfl rfl rfl k2 rfl hlt2) rfl ?_)
          refine e_op (o_n (n_load_osl rfl rfl .z (hld k2 hmx _)) rfl ?_)
          skip
          refine e_op (o_n (n_index rfl rfl rfl rfl kw rfl hkw) rfl ?_)
          refine e_op (o_store_osl (vs := encX xs[k + k2]) rfl rfl rfl rfl rfl rfl (by rw [encX_len]; simp only; omega) .z ?_)
          have hst : setMany (xs.flatMap encX) (0 + kw * 2) (encX xs[k + k2]) = (xs.set kw l[k + k2]).flatMap encX := by rw [Nat.zero_add, e3]; exact encX_set _ _ _ (by omega)
          rw [hst]
          repeat' (first | refine e_nil ?_ | ((refine e_op ?_); (refine o_n (peval_sound rfl) rfl ?_)) | refine s_region ?_ | refine s_end ?_)
          refine s_back ⟨⟨(k2 + 1, kw + 1, xs.set kw l[k + k2]), by simp only; omega, hI.new hm (by rw [← e1, ← e2]; intro h; exact h4 (Option.some.inj h))⟩, by simp only; omega, ?_, Ent.refl _⟩
          repeat' (first | exact Sub.nil _ | refine Sub.cons rfl ?_ | refine Sub.consE rfl ?_ ?_)
          · exact inc (i := k2) (by omega)
          · exact inc (i := kw) (by omega)
      · have hk2n : k + k2 = l.length := by have h := of_decide_eq_false h; omega
        have hcl : (cptN l l.length).length = kw := by rw [← hk2n, ← hI.w, List.length_take]; omega
        repeat' (first | ((refine e_op ?_); (refine o_n (peval_sound rfl) rfl ?_)) | refine s_seq ?_ | refine s_region ?_ | refine s_exit ?_ | refine x_hit ?_ | refine x_code ?_ | refine x_back ?_)
        refine e_op (o_n (n_fromV kw rfl rfl rfl rfl rfl (by omega)) rfl ?_)
        rw [if_neg (by omega : ¬ c = kw)]
        simp only [Option.map_some, add_at]
        refine e_op (o_clear (q := kw) (n := l.length) (c := c) rfl rfl rfl (Nat.zero_add _) (by omega) (by omega) rfl rfl .z ?_)
        have htk : (xs.flatMap encX).take (kw * 2) = (cptN l l.length).flatMap encX := by rw [← hk2n, ← hI.w]; exact encX_takeN xs kw
        rw [htk]
        repeat' (first | refine e_nil ?_ | ((refine e_op ?_); (refine o_n (peval_sound rfl) rfl ?_)) | refine s_seq ?_ | refine s_region ?_)
        refine e_op (o_n (n_headV kw rfl rfl rfl rfl rfl (by omega)) rfl ?_)
        repeat' (first | refine e_nil ?_ | ((refine e_op ?_); (refine o_n (peval_sound rfl) rfl ?_)))
        refine s_ret ⟨_, _, res1 rfl rfl, ⟨_, c, by rw [hcl], rfl⟩, by rw [hcl]; exact Ent.refl _⟩
    · have hne : l[k] ≠ l[k - 1] := by simpa using h
      have he : l[k]? ≠ l[k - 1]? := by rw [List.getElem?_eq_getElem hlt, List.getElem?_eq_getElem (by omega : k - 1 < l.length)]; intro h; exact hne (Option.some.inj h)
      repeat' (first | refine e_nil ?_ | ((refine e_op ?_); (refine o_n (peval_sound rfl) rfl ?_)) | refine s_region ?_ | refine s_end ?_ | refine s_skip ?_)
      refine s_back ⟨⟨k + 1, by omega, by omega, by rw [cptN_new hlt (fun _ => he), hk, List.take_succ_eq_append_getElem hlt]⟩, by simp only; omega, ?_, Ent.refl _⟩
      repeat' (first | exact Sub.nil _ | refine Sub.cons rfl ?_ | refine Sub.consE rfl ?_ ?_)
      exact inc (i := k) (by omega)
  · have hkn : k = l.length := by have h := of_decide_eq_false h; omega
    subst hkn
    repeat' (first | refine e_nil ?_ | ((refine e_op ?_); (refine o_n (peval_sound rfl) rfl ?_)) | refine s_seq ?_ | refine s_region ?_ | refine s_exit ?_ | refine x_hit ?_ | refine x_code ?_ | refine x_back ?_)
    rw [List.take_length] at hk
    refine s_ret ⟨_, _, res1 rfl rfl, ⟨_, c, by rw [hk], rfl⟩, by rw [hk]; exact Ent.refl _⟩

end Go.Proofs.YtcnpjhaedjncdaaGreatDoor

namespace Go.Proofs.YtcnpjhaedjncdaaGreatDoor
set_option linter.all false
open Go.Proofs.YtcnpjhaedjncdaaGreatDoor.E

attribute [local irreducible] EVX EVO EVL EV1 NEV
attribute [local irreducible] own osl exA rdA rdL
set_option maxRecDepth 10000
set_option maxHeartbeats 4000000

theorem order_w (A : Option Addr) (c : Nat) (l : List Itm) (hsz : l.length ≤ 100000) : Trip Tryz.prog 42 [.slice A l.length c] Rd.tt [pX A l.length c l]
    (fun v V => ∃ (A' : Option Addr) (c' : Nat), v = .slice A' (sortI l).length c' ∧ V = [pX A' (sortI l).length c' (sortI l)]) := by
  have hcs := cptN_sort l
  have hms : (l.mergeSort leI).length = l.length := List.length_mergeSort l
  have hc := compact_w A c (l.mergeSort leI) (by omega)
  rw [hcs, hms] at hc
  refine trip Tryz.tabOk Tryz.func42 rfl rfl rfl rfl ?_
  rintro w SM hW
  clear hW
  repeat' (first | refine e_nil ?_ | ((refine e_op ?_); (refine o_n (peval_sound rfl) rfl ?_)) | refine s_seq ?_ | refine s_region ?_)
  refine e_op (o_call (sort_w A c l hsz) rfl (.cons .z .nil) Can.tt rfl ?_)
  rintro v V ⟨rfl, rfl⟩
  repeat' (first | refine e_nil ?_ | ((refine e_op ?_); (refine o_n (peval_sound rfl) rfl ?_)) | refine s_seq ?_ | refine s_region ?_)
  refine e_op (o_call hc rfl (.cons .z .nil) Can.tt rfl ?_)
  rintro v V ⟨A', c', rfl, rfl⟩
  repeat' (first | refine e_nil ?_ | ((refine e_op ?_); (refine o_n (peval_sound rfl) rfl ?_)))
  refine s_ret ⟨_, _, res1 rfl rfl, ⟨_, _, rfl, rfl⟩, Ent.refl _⟩

end Go.Proofs.YtcnpjhaedjncdaaGreatDoor

namespace Go.Proofs.YtcnpjhaedjncdaaGreatDoor
set_option linter.all false
open Go.Proofs.YtcnpjhaedjncdaaGreatDoor.E

attribute [local irreducible] EVX EVO EVL EV1 NEV
attribute [local irreducible] own osl exA rdA rdL
set_option maxRecDepth 10000
set_option maxHeartbeats 4000000

end Go.Proofs.YtcnpjhaedjncdaaGreatDoor

namespace Go.Proofs.YtcnpjhaedjncdaaGreatDoor.E
set_option linter.all false
variable {E : Env} {fr : Frm} {U : List Asn} {N : Frm → List Asn → Prop}

/-! ### strings as keys -/
def encB (k : ByteArray) : Value := .string k

theorem bytes_beq (a b : ByteArray) : (a == b) = decide (a = b) := by
  have h : (a == b) = (a.data == b.data) := rfl
  rw [h, Bool.eq_iff_iff, decide_eq_true_eq, beq_iff_eq]
  cases a; cases b
  simp

theorem mkey_str {P : Program} {kt : TypeId} (hu : P.underlying kt = some .string) : MKey P kt encB where
  check := fun w e k => MapKept.run_checkKey hu (by simp [MapKept.IsKey, encB]) e 9999
  find := fun w k es l h => by
    have hf : ∀ (es : List MapEntry) (l : List (ByteArray × Value)) (i : Nat), es.map (fun e => (e.key, e.val)) = l.map (fun p => (encB p.1, p.2)) → Instr.findNow .string (encB k) es i = some (findK k l i) := by
      intro es
      induction es with
      | nil =>
        intro l i h
        cases l with
        | nil => rfl
        | cons p l => simp at h
      | cons e es ih =>
        intro l i h
        cases l with
        | nil => simp at h
        | cons p l =>
          simp only [List.map_cons, List.cons.injEq, Prod.mk.injEq] at h
          obtain ⟨⟨h1, h2⟩, h3⟩ := h
          unfold Instr.findNow findK
          rw [h1]
          simp only [encB, Instr.sameNow, bytes_beq]
          by_cases hk : p.1 = k
          · rw [if_pos hk, hk]; simp [h2]
          · have : decide (k = p.1) = false := by simp; exact fun e => hk e.symm
            rw [if_neg hk, this]
            exact ih l (i + 1) h3
    simp [Instr.findKey, run_underlying hu, Result.andThen, hf es l 0 h]
  stays := fun w k => by have := bytes_beq k k; simp [Instr.keyThatStays, encB, Instr.sameBits, this]

/-! ### a builder -/
/-- A strings.Builder in a block b of its own, from B on, its bytes bs. -/
def bldA (T e : TypeId) (B b : Nat) (bs : List Value) : Asn where
  P := fun w S => ∃ p v, (p = Value.pointer none ∨ p = Value.pointer (some ⟨b, 0, none⟩)) ∧ B ≤ b ∧ w.heap[b]? = some (.cells #[p, v] T (0, 0)) ∧ w.ownsRow B e 1 v bs.length bs ∧ v.ownBlock ≠ some b ∧ S b ∧ ∀ k, v.ownBlock = some k → S k
  fr := by
    rintro w w' S h ⟨p, v, h1, h2, h3, h4, h5, h6, h7⟩
    refine ⟨p, v, h1, h2, (h b h6).trans h3, ⟨h4.1, ?_⟩, h5, h6, h7⟩
    rcases h4.2 with hn | ⟨g, cap, cur, hv, hb, hg, r⟩
    · exact .inl hn
    · exact .inr ⟨g, cap, cur, hv, hb, (h g (h7 g (by rw [hv]; rfl))).trans hg, r⟩

theorem bldA.is {T e : TypeId} {B b : Nat} {bs : List Value} {w : World} {S : BSet} (h : (bldA T e B b bs).P w S) : Lib.IsBuilder T e B b bs w := by
  obtain ⟨p, v, h1, h2, h3, h4, h5, h6, h7⟩ := h
  rcases h1 with rfl | rfl
  · exact .inl ⟨h2, v, h3, h4, h5⟩
  · exact .inr ⟨h2, v, h3, h4, h5⟩

/-- A new builder. -/
theorem o_bldNew {d : Nat} {t e : TypeId} {ty : TypeId} {pos : String} {af : Array Edge} {g : Option (Nat × Bool)} {i : TI} (ht : tl E.T t = some i) (hz : i.zero = [.pointer none, .slice none 0 0]) (hd : Nat.ble (d + 1) E.n = true)
    (h : ∀ b, N ((d, .pointer (some ⟨b, 0, none⟩)) :: fr) (bldA t e E.w0.heap.size b [] :: U)) : EV1 E ⟨some d, .alloc t, ty, pos, af, g⟩ fr U N := by
  intro a w hf hm
  obtain ⟨dd, sz, by_, z⟩ := i
  simp only at hz
  subst hz
  obtain ⟨inf, zv, hinf, hz, _, _, hzc⟩ := ti_info ht
  unfold Oper.wp execOp
  simp only [Instr.alloc, Sem.run_bind, run_zero hinf hz, Result.andThen_ok, newVar, newRow, run_newObj, Sem.run_pure, hzc]
  refine ⟨_, _, h w.heap.size, hf.put (Nat.le_of_ble_eq_true hd) _, hm.new (step_alloc w _) (T1 := fun k => k = w.heap.size) ?_ (by rintro b rfl; simp)⟩
  exact ⟨_, _, .inl rfl, hm.size, heap_alloc_new w _, ⟨rfl, .inl ⟨rfl, rfl⟩⟩, fun h => (by cases h), rfl, fun k h => (by cases h)⟩

/-- A call that adds to a builder; of what else was of one's own nothing is known behind it. -/
theorem o_bldAdd {d : Nat} {f : FuncId} {T e : TypeId} {args : Array Operand} {ts : Array TypeId} {ty : TypeId} {pos : String} {af : Array Edge} {g : Option (Nat × Bool)} {vs : List Value} {v : Value} {b : Nat} {bs bs' : List Value} {U' : List Asn}
    (he : Enters E.P f) (hU : Tak (bldA T e E.w0.heap.size b bs) U U') (hv : vals fr args.toList = some vs)
    (hc : ∀ w : World, Lib.IsBuilder T e E.w0.heap.size b bs w → E.w0.heap.size ≤ w.heap.size → Calls E.P f vs.toArray w fun x w' => x = .returned v ∧ (Lib.BuilderAt T e E.w0.heap.size b (.pointer (some ⟨b, 0, none⟩)) bs' w' ∧ RowKit.Below E.w0.heap.size w w'))
    (hd : Nat.ble (d + 1) E.n = true) (h : N ((d, v) :: fr) [bldA T e E.w0.heap.size b bs']) : EV1 E ⟨some d, .call ⟨.value (.func f), args, ts⟩, ty, pos, af, g⟩ fr U N := by
  intro a w hf hm
  have ha : args.map a.eval = vs.toArray := by rw [← hf.evals hv, map_arr]
  obtain ⟨S1, hP, hS1⟩ := hm.tak hU
  unfold Oper.wp execOp
  simp only [resolve, Act.eval, Deferred.ofValue, Sem.run_bind, Sem.run_pure, Result.andThen_ok, invoke, ha, Array.empty_append, Array.append_empty, he _ _]
  refine (hc w (bldA.is hP) hm.size).mono ?_
  rintro x w' ⟨rfl, hB, hb⟩
  refine ⟨_, _, h, hf.put (Nat.le_of_ble_eq_true hd) _, ⟨hb.os.trans hm.os, hb.tape.trans hm.tape, hb.output.trans hm.output, Nat.le_trans hm.size hb.size, fun k hk => (hb.block k hk.1).trans (hm.same k hk), ?_⟩⟩
  obtain ⟨h2, u, h3, h4, h5⟩ := hB
  have hblt : b < w'.heap.size := (Array.getElem?_eq_some_iff.1 h3).1
  refine ⟨fun k => k = b ∨ u.ownBlock = some k, ⟨fun k => k = b ∨ u.ownBlock = some k, fun _ => False, ⟨_, u, .inr rfl, h2, h3, h4, h5, .inl rfl, fun k hk => .inr hk⟩, trivial, fun _ _ h => h, fun _ h => h, fun _ h => h.elim⟩, ?_⟩
  rintro k (rfl | hk)
  · exact ⟨hblt, .inl h2⟩
  · have := World.ownsRow.lt h4 k hk
    exact ⟨this.2, .inl this.1⟩

/-- The last call to a builder: of what is one's own nothing is known behind it. -/
theorem o_bldEnd {d : Nat} {f : FuncId} {T e : TypeId} {args : Array Operand} {ts : Array TypeId} {ty : TypeId} {pos : String} {af : Array Edge} {g : Option (Nat × Bool)} {vs : List Value} {v : Value} {b : Nat} {bs : List Value} {U' : List Asn}
    (he : Enters E.P f) (hU : Tak (bldA T e E.w0.heap.size b bs) U U') (hv : vals fr args.toList = some vs)
    (hc : ∀ w : World, Lib.IsBuilder T e E.w0.heap.size b bs w → E.w0.heap.size ≤ w.heap.size → Calls E.P f vs.toArray w fun x w' => x = .returned v ∧ RowKit.Below E.w0.heap.size w w')
    (hd : Nat.ble (d + 1) E.n = true) (h : N ((d, v) :: fr) []) : EV1 E ⟨some d, .call ⟨.value (.func f), args, ts⟩, ty, pos, af, g⟩ fr U N := by
  intro a w hf hm
  have ha : args.map a.eval = vs.toArray := by rw [← hf.evals hv, map_arr]
  obtain ⟨S1, hP, hS1⟩ := hm.tak hU
  unfold Oper.wp execOp
  simp only [resolve, Act.eval, Deferred.ofValue, Sem.run_bind, Sem.run_pure, Result.andThen_ok, invoke, ha, Array.empty_append, Array.append_empty, he _ _]
  refine (hc w (bldA.is hP) hm.size).mono ?_
  rintro x w' ⟨rfl, hb⟩
  exact ⟨_, _, h, hf.put (Nat.le_of_ble_eq_true hd) _, ⟨hb.os.trans hm.os, hb.tape.trans hm.tape, hb.output.trans hm.output, Nat.le_trans hm.size hb.size, fun k hk => (hb.block k hk.1).trans (hm.same k hk), fun _ => False, trivial, fun _ h => h.elim⟩⟩

end Go.Proofs.YtcnpjhaedjncdaaGreatDoor.E

namespace Go.Proofs
open Go.Shelf
shelf_lay Lays.n171 Nm 171 at Tryz as Tryz.itoaL
shelf_lay Lays.n169 Nm 169 at Tryz as Tryz.bldS
def Tryz.bldW_ren : Go.Shelf.Ren := ⟨fun | 166 => 78 | 240 => 90 | 276 => 103 | n => n, fun | 0 => 0 | 3 => 3 | 4 => 4 | 5 => 5 | 9 => 9 | 20 => 20 | 37 => 113 | 70 => 151 | 72 => 153 | 75 => 155 | 80 => 159 | 164 => 181 | n => n, fun n => n⟩
theorem Tryz.bldW : Lays.n166 Tryz.prog Tryz.bldW_ren where
  mixed := by kernel_rfl
  f166 := Tryz.func78.trans (congrArg some (by kernel_rfl))
  f240 := Tryz.func90.trans (congrArg some (by kernel_rfl))
  f276 := Tryz.func103.trans (congrArg some (by kernel_rfl))
  t0 := Tryz.underlying0
  a0 := Tryz.isAgg0
  z0 := Tryz.sizeOf0
  v0 := Tryz.zeroValue0
  t3 := Tryz.underlying3
  a3 := Tryz.isAgg3
  z3 := Tryz.sizeOf3
  v3 := Tryz.zeroValue3
  t4 := Tryz.underlying4
  a4 := Tryz.isAgg4
  z4 := Tryz.sizeOf4
  v4 := Tryz.zeroValue4
  t9 := Tryz.underlying9
  a9 := Tryz.isAgg9
  z9 := Tryz.sizeOf9
  v9 := Tryz.zeroValue9
  t20 := Tryz.underlying20
  a20 := Tryz.isAgg20
  z20 := Tryz.sizeOf20
  v20 := Tryz.zeroValue20
  t37 := Tryz.underlying113
  a37 := Tryz.isAgg113
  z37 := Tryz.sizeOf113
  v37 := Tryz.zeroValue113
  t70 := Tryz.underlying151
  a70 := Tryz.isAgg151
  z70 := Tryz.sizeOf151
  v70 := Tryz.zeroValue151
  t72 := Tryz.underlying153
  a72 := Tryz.isAgg153
  z72 := Tryz.sizeOf153
  v72 := Tryz.zeroValue153
  t75 := Tryz.underlying155
  a75 := Tryz.isAgg155
  z75 := Tryz.sizeOf155
  v75 := Tryz.zeroValue155
  t164 := Tryz.underlying181
  a164 := Tryz.isAgg181
  z164 := Tryz.sizeOf181
  v164 := Tryz.zeroValue181
theorem Tryz.bldWX : Builder.Extra Tryz.prog Tryz.bldW_ren where
  sizeBuilder := by kernel_rfl
  liesBuilder := by kernel_rfl
  t5 := Tryz.underlying5
  a5 := Tryz.isAgg5
  z5 := Tryz.sizeOf5
  v5 := Tryz.zeroValue5
  infoByte := by kernel_rfl
  cellsByte := by kernel_rfl
  sizeByte := by kernel_rfl
  neB5 := by decide
theorem Tryz.bldSX : Builder.Extra Tryz.prog Tryz.bldS_ren where
  sizeBuilder := by kernel_rfl
  liesBuilder := by kernel_rfl
  t5 := Tryz.underlying5
  a5 := Tryz.isAgg5
  z5 := Tryz.sizeOf5
  v5 := Tryz.zeroValue5
  infoByte := by kernel_rfl
  cellsByte := by kernel_rfl
  sizeByte := by kernel_rfl
  neB5 := by decide
end Go.Proofs

namespace Go.Proofs.YtcnpjhaedjncdaaGreatDoor
set_option linter.all false
open Go.Proofs.YtcnpjhaedjncdaaGreatDoor.E

/-- The bytes of an item's text. -/
def digI (x : Itm) : List UInt8 := Lib.decDigits x.Prod.toNat ++ [46] ++ Lib.decDigits x.Dot.toNat ++ [32]
def txtI (l : List Itm) : List UInt8 := l.flatMap digI

theorem itoa_w (i : Nat) (hi : i < 100) : Trip Tryz.prog 79 [.int .i64 i] Rd.tt [] (fun v V => v = .string ⟨(Lib.decDigits i).toArray⟩ ∧ V = []) :=
  ⟨Go.Proofs.YtcnpjhaedjncdaaGreatDoor.E.enters_of Tryz.func79 rfl rfl, fun w SM hlt hs _ => by
    have h := Any.strconv_Itoa_small Tryz.itoaL i hi w
    change Calls Tryz.prog 79 _ _ _ at h
    refine h.mono ?_
    rintro e w' ⟨rfl, rfl⟩
    exact ⟨_, _, fun _ => False, rfl, ⟨rfl, rfl⟩, trivial, fun _ h => h.elim, Step.refl _ _⟩⟩

theorem write_w (B b : Nat) (l : List UInt8) (s : List UInt8) (hl : l.length + s.length ≤ 1000000) (w : World) (h : Lib.IsBuilder 153 5 B b (Lib.byteCells l) w) (hB : B ≤ w.heap.size) :
    Calls Tryz.prog 78 #[.pointer (some ⟨b, 0, none⟩), .string ⟨s.toArray⟩] w fun e w' => e = .returned (.tuple #[.int .i64 s.length, .nilIface]) ∧ (Lib.BuilderAt 153 5 B b (.pointer (some ⟨b, 0, none⟩)) (Lib.byteCells (l ++ s)) w' ∧ RowKit.Below B w w') := by
  have h1 := Any.Builder_WriteString Tryz.bldW Tryz.bldWX B b (Lib.byteCells l) ⟨s.toArray⟩ w h (by rw [Lib.byteCells_length]; simp [ByteArray.size]; omega) hB
  change Calls Tryz.prog 78 _ _ _ at h1
  have e1 : Lib.byteCells l ++ Lib.strCells ⟨s.toArray⟩ = Lib.byteCells (l ++ s) := by simp [Lib.byteCells, Lib.strCells]
  have e2 : ((⟨s.toArray⟩ : ByteArray).size : Int) = s.length := by simp [ByteArray.size]
  rw [e1, e2] at h1
  exact h1

theorem string_w (B b : Nat) (l : List UInt8) (w : World) (h : Lib.IsBuilder 153 5 B b (Lib.byteCells l) w) (hB : B ≤ w.heap.size) :
    Calls Tryz.prog 80 #[.pointer (some ⟨b, 0, none⟩)] w fun e w' => e = .returned (.string ⟨l.toArray⟩) ∧ RowKit.Below B w w' := by
  have h1 := Any.Builder_String_any Tryz.bldS Tryz.bldSX B b l w h hB
  exact h1

theorem decDigits_1 {i : Nat} (hi : i < 10) : Lib.decDigits i = [UInt8.ofNat (48 + i)] := by
  unfold Lib.decDigits; rw [dif_pos hi]
theorem decDigits_2 {i : Nat} (h1 : 10 ≤ i) (hi : i < 100) : Lib.decDigits i = [UInt8.ofNat (48 + i / 10), UInt8.ofNat (48 + i % 10)] := by
  rw [Lib.decDigits, dif_neg (by omega), decDigits_1 (by omega)]; rfl
theorem decDigits_len (i : Nat) (hi : i < 100) : (Lib.decDigits i).length ≤ 2 := by
  by_cases h : i < 10
  · rw [decDigits_1 h]; simp
  · rw [decDigits_2 (by omega) hi]; simp

theorem digI_len {x : Itm} (h1 : x.Prod < 100) (h2 : x.Dot < 100) : (digI x).length ≤ 6 := by
  unfold digI
  have := decDigits_len x.Prod.toNat (by omega)
  have := decDigits_len x.Dot.toNat (by omega)
  simp only [List.length_append, List.length_singleton]
  omega

theorem txtI_len : ∀ {l : List Itm}, (∀ x ∈ l, x.Prod < 100 ∧ x.Dot < 100) → (txtI l).length ≤ l.length * 6
  | [], _ => by simp [txtI]
  | x :: l, h => by
    have ih := txtI_len (l := l) fun y hy => h y (List.mem_cons_of_mem _ hy)
    have := digI_len (h x List.mem_cons_self).1 (h x List.mem_cons_self).2
    unfold txtI at *
    rw [List.flatMap_cons, List.length_append, List.length_cons]
    omega

attribute [local irreducible] EVX EVO EVL EV1 NEV
attribute [local irreducible] own osl exA rdA rdL
attribute [local irreducible] bldA
set_option maxRecDepth 10000
set_option maxHeartbeats 4000000

theorem text_w (A : Option Addr) (c : Nat) (l : List Itm) (hsz : l.length ≤ 100000) (hb : ∀ x ∈ l, 0 ≤ x.Prod ∧ x.Prod < 100 ∧ 0 ≤ x.Dot ∧ x.Dot < 100) :
    Trip Tryz.prog 60 [.slice A l.length c] ((kslice 16 kItm).rd [.slice A l.length c] l) []
      (fun v V => v = .string ⟨(txtI l).toArray⟩ ∧ V = []) := by
  refine trip Tryz.tabOk Tryz.func60 rfl rfl rfl rfl ?_
  rintro w SM ⟨A', c', e1, h1⟩
  cases e1
  repeat' (first | refine e_nil ?_ | ((refine e_op ?_); (first | refine o_bldNew (e := 5) rfl rfl rfl (fun _ => ?_) | refine o_n (peval_sound rfl) rfl ?_)) | refine s_seq ?_ | refine s_region ?_ | refine s_block ?_)
  rename_i b3
  refine s_loopK (ι := {i : Nat // i ≤ l.length}) [3, 6, 7] rfl ⟨0, by omega⟩ (fun i => [(8, .int .i64 i.1)]) (fun i => [bldA 153 5 w.heap.size b3 (Lib.byteCells (txtI (l.take i.1)))]) (fun i => l.length - i.1) ?_ (Ent.refl _) ?_
  · repeat' (first | exact Sub.nil _ | refine Sub.cons rfl ?_)
  rintro ⟨i, hi⟩
  simp only at hi ⊢
  repeat' (first | refine e_nil ?_ | ((refine e_op ?_); (refine o_n (peval_sound rfl) rfl ?_)) | refine s_seq ?_ | refine s_region ?_)
  refine s_cond rfl (fun h => ?_) (fun h => ?_)
  · have hlt : i < l.length := by simpa using h
    obtain ⟨b, o, es, rfl, hbb, hx, hc⟩ := h1.2.2 i hlt
    obtain ⟨rfl, hx1, hx2⟩ := kItm_open hx
    unfold encX at hc
    obtain ⟨p, hp⟩ : ∃ p : Nat, l[i].Prod = (p : Int) := ⟨l[i].Prod.toNat, by have := hb _ (List.getElem_mem hlt); omega⟩
    obtain ⟨q, hq⟩ : ∃ q : Nat, l[i].Dot = (q : Int) := ⟨l[i].Dot.toNat, by have := hb _ (List.getElem_mem hlt); omega⟩
    have hpq := hb _ (List.getElem_mem hlt)
    rw [hp, hq] at hc
    repeat' (first | refine s_seq ?_ | refine s_region ?_ | refine s_block ?_ | refine s_skip ?_)
    refine e_op (o_n (n_index rfl rfl rfl rfl i rfl hlt) rfl ?_)
    refine e_op (o_n (n_load_ro rfl rfl hbb (loads_agg rfl rfl hc)) rfl ?_)
    repeat' (first | refine e_nil ?_ | ((refine e_op ?_); (first | refine o_storeC rfl rfl rfl rfl tc uc rfl rfl rfl ?_ | refine o_alloc rfl rfl (fun _ => ?_))))
    rename_i bx
    have hbx : setMany [Value.int .i64 0, .int .i64 0] 0 (Value.agg #[.int .i64 p, .int .i64 q]).cells.toList = [.int .i64 p, .int .i64 q] := rfl
    simp only [hbx]
    have hd1 := decDigits_len p (by omega)
    have hd2 := decDigits_len q (by omega)
    have hsz1 : ∀ u : List UInt8, (⟨u.toArray⟩ : ByteArray).size = u.length := fun u => by simp [ByteArray.size]
    have hcat : ∀ u v : List UInt8, (⟨u.toArray⟩ : ByteArray) ++ ⟨v.toArray⟩ = ⟨(u ++ v).toArray⟩ := fun u v => by
      have : ∀ a b : ByteArray, a.data ++ b.data = (a ++ b).data := fun a b => by simp
      have h := this ⟨u.toArray⟩ ⟨v.toArray⟩
      simp only [List.append_toArray] at h
      cases hh : ((⟨u.toArray⟩ : ByteArray) ++ ⟨v.toArray⟩)
      rw [hh] at h
      simp only at h
      rw [h]
    refine s_P Tryz.mixed (by decide +kernel) ?_
    refine p_barU 9 ?_
    refine q_n 0 rfl (peval_sound rfl) (by decide +kernel) (by decide +kernel) (Ent.refl _) rfl ?_
    refine q_n 1 rfl (nl rfl rfl tc rfl) (by decide +kernel) (by decide +kernel) (Ent.refl _) rfl ?_
    refine q_n 4 rfl (peval_sound rfl) (by decide +kernel) (by decide +kernel) (Ent.refl _) rfl ?_
    refine q_n 5 rfl (nl rfl rfl tc rfl) (by decide +kernel) (by decide +kernel) (Ent.refl _) rfl ?_
    refine q_1 2 (by decide +kernel) rfl rfl rfl (o_call (itoa_w p (by omega)) rfl .nil Can.tt rfl ?_)
    rintro v V ⟨rfl, rfl⟩
    refine ⟨Ent.refl _, ?_⟩
    simp only [List.nil_append]
    refine q_n 3 rfl (n_cat (a := ⟨(Lib.decDigits p).toArray⟩) (b := ⟨[46].toArray⟩) rfl rfl (by rw [hsz1, hsz1]; simp only [List.length_singleton]; omega)) (by decide +kernel) (by decide +kernel) (Ent.refl _) rfl ?_
    rw [hcat]
    refine q_1 6 (by decide +kernel) rfl rfl rfl (o_call (itoa_w q (by omega)) rfl .nil Can.tt rfl ?_)
    rintro v V ⟨rfl, rfl⟩
    refine ⟨Ent.refl _, ?_⟩
    simp only [List.nil_append]
    refine q_n 7 rfl (n_cat (a := ⟨(Lib.decDigits p ++ [46]).toArray⟩) (b := ⟨(Lib.decDigits q).toArray⟩) rfl rfl (by rw [hsz1, hsz1]; simp only [List.length_append, List.length_singleton]; omega)) (by decide +kernel) (by decide +kernel) (Ent.refl _) rfl ?_
    rw [hcat]
    refine q_n 8 rfl (n_cat (a := ⟨(Lib.decDigits p ++ [46] ++ Lib.decDigits q).toArray⟩) (b := ⟨[32].toArray⟩) rfl rfl (by rw [hsz1, hsz1]; simp only [List.length_append, List.length_singleton]; omega)) (by decide +kernel) (by decide +kernel) (Ent.refl _) rfl ?_
    rw [hcat]
    have hdg : Lib.decDigits p ++ [46] ++ Lib.decDigits q ++ [32] = digI l[i] := by unfold digI; rw [hp, hq, Int.toNat_natCast, Int.toNat_natCast]
    have htx : txtI (l.take i) ++ digI l[i] = txtI (l.take (i + 1)) := by unfold txtI; rw [List.take_succ_eq_append_getElem hlt, List.flatMap_append]; simp only [List.flatMap_cons, List.flatMap_nil, List.append_nil]
    have hl1 := txtI_len (l := l.take i) (fun x hx => by have := hb x (List.mem_of_mem_take hx); omega)
    have hl2 : (digI l[i]).length ≤ 6 := digI_len (by omega) (by omega)
    have hl3 : (l.take i).length ≤ 100000 := by rw [List.length_take]; omega
    rw [hdg]
    refine q_z 9 (by decide +kernel) rfl rfl (o_bldAdd (bs' := Lib.byteCells (txtI (l.take (i + 1)))) (Go.Proofs.YtcnpjhaedjncdaaGreatDoor.E.enters_of Tryz.func78 rfl rfl) (.s .z) rfl (fun W hB hw => by rw [← htx]; exact write_w _ _ _ _ (by omega) W hB hw) rfl ?_)
    refine p_done (by decide +kernel) ?_
    repeat' (first | refine e_nil ?_ | ((refine e_op ?_); (refine o_n (peval_sound rfl) rfl ?_)) | refine s_region ?_ | refine s_end ?_)
    refine s_back ⟨⟨i + 1, by omega⟩, by simp only; omega, ?_, Ent.refl _⟩
    repeat' (first | exact Sub.nil _ | refine Sub.cons rfl ?_ | refine Sub.consE rfl ?_ ?_)
    exact inc (i := i) (by omega)
  · have hil : i = l.length := by simp at h; omega
    subst hil
    rw [List.take_length]
    repeat' (first | refine s_seq ?_ | refine s_region ?_ | refine s_exit ?_ | refine x_hit ?_ | refine x_code ?_ | refine x_back ?_)
    refine e_op (o_bldEnd (v := .string ⟨(txtI l).toArray⟩) (Go.Proofs.YtcnpjhaedjncdaaGreatDoor.E.enters_of Tryz.func80 rfl rfl) .z rfl (fun W hB hw => string_w _ _ _ W hB hw) rfl ?_)
    repeat' (first | refine e_nil ?_ | ((refine e_op ?_); (refine o_n (peval_sound rfl) rfl ?_)))
    refine s_ret ⟨_, _, res1 rfl rfl, ⟨rfl, rfl⟩, Ent.nil _⟩

end Go.Proofs.YtcnpjhaedjncdaaGreatDoor

namespace Go.Proofs.YtcnpjhaedjncdaaGreatDoor
set_option linter.all false
open Go.Proofs.YtcnpjhaedjncdaaGreatDoor.E

theorem u8_48 {i j : Nat} (hi : i < 10) (hj : j < 10) (h : UInt8.ofNat (48 + i) = UInt8.ofNat (48 + j)) : i = j := by
  have h2 := congrArg UInt8.toNat h
  simp only [UInt8.toNat_ofNat'] at h2
  omega
theorem u8_sep {i : Nat} (hi : i < 10) {s : UInt8} (hs : s.toNat < 48) : s ≠ UInt8.ofNat (48 + i) := by
  intro h
  have h2 := congrArg UInt8.toNat h
  simp only [UInt8.toNat_ofNat'] at h2
  omega

theorem dig_split {i j : Nat} (hi : i < 100) (hj : j < 100) {s : UInt8} (hs : s.toNat < 48) {a b : List UInt8} (h : Lib.decDigits i ++ s :: a = Lib.decDigits j ++ s :: b) : i = j ∧ a = b := by
  by_cases h1 : i < 10
  · by_cases h2 : j < 10
    · rw [decDigits_1 h1, decDigits_1 h2] at h
      simp only [List.singleton_append, List.cons.injEq, true_and] at h
      exact ⟨u8_48 h1 h2 h.1, h.2⟩
    · rw [decDigits_1 h1, decDigits_2 (by omega) hj] at h
      simp only [List.singleton_append, List.cons_append, List.nil_append, List.cons.injEq] at h
      exact absurd h.2.1 (u8_sep (Nat.mod_lt _ (by omega)) hs)
  · by_cases h2 : j < 10
    · rw [decDigits_1 h2, decDigits_2 (by omega) hi] at h
      simp only [List.singleton_append, List.cons_append, List.nil_append, List.cons.injEq] at h
      exact absurd h.2.1.symm (u8_sep (Nat.mod_lt _ (by omega)) hs)
    · rw [decDigits_2 (by omega) hi, decDigits_2 (by omega) hj] at h
      simp only [List.cons_append, List.nil_append, List.cons.injEq, true_and] at h
      have e1 := u8_48 (by omega) (by omega) h.1
      have e2 := u8_48 (Nat.mod_lt _ (by omega)) (Nat.mod_lt _ (by omega)) h.2.1
      exact ⟨by omega, h.2.2⟩

/-- An item that two digits each can tell. -/
def Sm (x : Itm) : Prop := 0 ≤ x.Prod ∧ x.Prod < 100 ∧ 0 ≤ x.Dot ∧ x.Dot < 100

theorem txtI_inj : ∀ {a b : List Itm}, (∀ x ∈ a, Sm x) → (∀ x ∈ b, Sm x) → txtI a = txtI b → a = b
  | [], [], _, _, _ => rfl
  | [], y :: b, _, _, h => by
    unfold txtI at h
    rw [List.flatMap_cons, List.flatMap_nil] at h
    have := congrArg List.length h
    unfold digI at this
    simp at this
  | x :: a, [], _, _, h => by
    unfold txtI at h
    rw [List.flatMap_cons, List.flatMap_nil] at h
    have := congrArg List.length h
    unfold digI at this
    simp at this
  | x :: a, y :: b, ha, hb, h => by
    unfold txtI at h
    rw [List.flatMap_cons, List.flatMap_cons] at h
    obtain ⟨a1, a2, a3, a4⟩ := ha x List.mem_cons_self
    obtain ⟨b1, b2, b3, b4⟩ := hb y List.mem_cons_self
    generalize hta : a.flatMap digI = ta at h
    generalize htb : b.flatMap digI = tb at h
    unfold digI at h
    simp only [List.append_assoc, List.singleton_append, List.cons_append, List.nil_append] at h
    obtain ⟨e1, h⟩ := dig_split (by omega) (by omega) (by decide) h
    obtain ⟨e2, h⟩ := dig_split (by omega) (by omega) (by decide) h
    rw [← hta, ← htb] at h
    have ih := txtI_inj (fun z hz => ha z (List.mem_cons_of_mem _ hz)) (fun z hz => hb z (List.mem_cons_of_mem _ hz)) h
    have exy : x = y := by
      obtain ⟨p, d⟩ := x
      obtain ⟨p2, d2⟩ := y
      simp only at *
      have q1 : p = p2 := by omega
      have q2 : d = d2 := by omega
      rw [q1, q2]
    rw [exy, ih]

def txtB (l : List Itm) : ByteArray := ⟨(txtI l).toArray⟩

theorem txtB_inj {a b : List Itm} (ha : ∀ x ∈ a, Sm x) (hb : ∀ x ∈ b, Sm x) (h : txtB a = txtB b) : a = b := by
  unfold txtB at h
  simp only [ByteArray.mk.injEq, Array.mk.injEq] at h
  exact txtI_inj ha hb (by simpa using h)

theorem mem_txtB {ks : List (List Itm)} {k : List Itm} (hks : ∀ a ∈ ks, ∀ x ∈ a, Sm x) (hk : ∀ x ∈ k, Sm x) : txtB k ∈ ks.map txtB ↔ k ∈ ks := by
  rw [List.mem_map]
  exact ⟨fun ⟨a, ha, h⟩ => by rw [← txtB_inj (hks a ha) hk h]; exact ha, fun h => ⟨k, h, rfl⟩⟩

theorem ix_txtB : ∀ {ks : List (List Itm)} {k : List Itm}, (∀ a ∈ ks, ∀ x ∈ a, Sm x) → (∀ x ∈ k, Sm x) → ix (ks.map txtB) (txtB k) = ix ks k
  | [], _, _, _ => rfl
  | a :: ks, k, hks, hk => by
    have ih := ix_txtB (ks := ks) (k := k) (fun b hb => hks b (List.mem_cons_of_mem _ hb)) hk
    by_cases e : a = k
    · subst e
      show (if txtB a = txtB a then 0 else _) = (if a = a then 0 else _)
      rw [if_pos rfl, if_pos rfl]
    · rw [List.map_cons, ix_cons e, ix_cons (fun h => e (txtB_inj (hks a List.mem_cons_self) hk h)), ih]

theorem sm_of {g : Gram} (hL : Lims g) (hp : g.Prods.length ≤ 100) {k : List Itm} (h : ∀ x ∈ k, inG g x = true) : ∀ x ∈ k, Sm x := fun x hx => by
  have h1 := inG_dot hL (h x hx)
  have h2 := h x hx
  unfold inG at h2
  simp only [Bool.and_eq_true, decide_eq_true_eq] at h2
  unfold Sm
  omega

end Go.Proofs.YtcnpjhaedjncdaaGreatDoor

namespace Go.Proofs.YtcnpjhaedjncdaaGreatDoor.E
set_option linter.all false
variable {E : Env} {fr : Frm} {U V : List Asn} {N : Frm → List Asn → Prop}

/-- Several assertions as one. -/
def bun (L : List Asn) : Asn := ⟨fun w S => star L w S, fun w w' S h hs => star_fr L w w' S h hs⟩

theorem ent_bun {L : List Asn} : Ent (L ++ V) (bun L :: V) := fun w S hs => by
  obtain ⟨S1, S2, h1, h2, hd, i1, i2⟩ := star_split hs
  exact ⟨S1, S2, h1, h2, hd, i1, i2⟩
theorem ent_unbun {L : List Asn} : Ent (bun L :: V) (L ++ V) := fun w S ⟨S1, S2, h1, h2, hd, i1, i2⟩ =>
  star_mono (fun b hb => hb.elim (i1 b) (i2 b)) (star_append h1 h2 hd)
theorem ent_bunE {L L' : List Asn} (h : L = L') : Ent (bun L :: V) (bun L' :: V) := by subst h; exact Ent.refl _

section rows
variable {α : Type} {f : List α → List Value} {sz : Nat} {ei : TypeId}

abbrev rowA (f : List α → List Value) (sz : Nat) (ei : TypeId) (ac : Option Addr × Nat) (r : List α) : Asn := osl ei sz (.slice ac.1 r.length ac.2) r.length (f r)
def rowX (f : List α → List Value) (sz : Nat) (ei : TypeId) (acs : List (Option Addr × Nat)) (rows : List (List α)) : List Asn := List.zipWith (rowA f sz ei) acs rows

theorem rowX_get {acs : List (Option Addr × Nat)} {rows : List (List α)} (hl : acs.length = rows.length) {i : Nat} (hi : i < rows.length) :
    (rowX f sz ei acs rows)[i]? = some (rowA f sz ei (acs[i]'(hl ▸ hi)) rows[i]) := by
  unfold rowX
  rw [List.getElem?_zipWith, List.getElem?_eq_getElem (hl ▸ hi), List.getElem?_eq_getElem hi]

theorem zipWith_set2 {β γ : Type} (g : β → List α → γ) : ∀ (l : List β) (rows : List (List α)) (i : Nat) (b : β) (r : List α), l.length = rows.length → (List.zipWith g l rows).set i (g b r) = List.zipWith g (l.set i b) (rows.set i r)
  | [], [], _, _, _, _ => rfl
  | [], _ :: _, _, _, _, h => by simp at h
  | _ :: _, [], _, _, _, h => by simp at h
  | x :: l, y :: rows, 0, b, r, _ => rfl
  | x :: l, y :: rows, i + 1, b, r, h => by simp [zipWith_set2 g l rows i b r (by simpa using h)]

/-- A row is taken out. -/
theorem ent_btake {acs : List (Option Addr × Nat)} {rows : List (List α)} (hl : acs.length = rows.length) {i : Nat} (hi : i < rows.length) :
    Ent (bun (rowX f sz ei acs rows) :: V) (rowA f sz ei (acs[i]'(hl ▸ hi)) rows[i] :: bun ((rowX f sz ei acs rows).eraseIdx i) :: V) :=
  ent_unbun.trans ((Ent.tak (tak_get (rowX_get hl hi)) (Ent.refl _)).trans (Ent.cons ent_bun))

/-- A row is put back, another one. -/
theorem ent_bput {acs : List (Option Addr × Nat)} {rows : List (List α)} (hl : acs.length = rows.length) {i : Nat} (hi : i < rows.length) {ac : Option Addr × Nat} {r : List α} :
    Ent (rowA f sz ei ac r :: bun ((rowX f sz ei acs rows).eraseIdx i) :: V) (bun (rowX f sz ei (acs.set i ac) (rows.set i r)) :: V) := by
  refine (Ent.cons ent_unbun).trans ((ent_put (rowX_get hl hi)).trans ?_)
  unfold rowX
  rw [zipWith_set2 _ _ _ _ _ _ hl]
  exact ent_bun

theorem ent_bsnoc {acs : List (Option Addr × Nat)} {rows : List (List α)} (hl : acs.length = rows.length) {ac : Option Addr × Nat} {r : List α} :
    Ent (rowA f sz ei ac r :: bun (rowX f sz ei acs rows) :: V) (bun (rowX f sz ei (acs ++ [ac]) (rows ++ [r])) :: V) := by
  refine (Ent.cons ent_unbun).trans (Ent.mid.trans ?_)
  have : rowX f sz ei (acs ++ [ac]) (rows ++ [r]) = rowX f sz ei acs rows ++ [rowA f sz ei ac r] := by
    unfold rowX; rw [List.zipWith_append hl]; rfl
  rw [this]
  refine Ent.trans ?_ ent_bun
  rw [List.append_assoc]
  exact Ent.refl _

theorem ent_bhead {ac : Option Addr × Nat} {acs : List (Option Addr × Nat)} {r : List α} {rows : List (List α)} :
    Ent (bun (rowX f sz ei (ac :: acs) (r :: rows)) :: V) (rowA f sz ei ac r :: bun (rowX f sz ei acs rows) :: V) :=
  ent_unbun.trans (Ent.cons ent_bun)

theorem ent_bnil0 : Ent V (bun (rowX f sz ei ([] : List (Option Addr × Nat)) ([] : List (List α))) :: V) := ent_bun (L := [])

theorem ent_bnil (hf : f [] = []) : ∀ n : Nat, Ent V (bun (rowX f sz ei (List.replicate n (none, 0)) (List.replicate n ([] : List α))) :: V)
  | 0 => ent_bun (L := [])
  | n + 1 => by
    refine (ent_bnil hf n).trans (ent_unbun.trans ?_)
    refine Ent.trans (V := rowA f sz ei (none, 0) ([] : List α) :: (rowX f sz ei (List.replicate n (none, 0)) (List.replicate n ([] : List α)) ++ V)) ?_ (ent_bun (L := _ :: _))
    show Ent _ (osl ei sz (.slice none 0 0) 0 (f []) :: _)
    rw [hf]
    exact Ent.osl0 (Ent.refl _)

/-- The values of the rows. -/
theorem rowC_set2 {acs : List (Option Addr × Nat)} {rows : List (List α)} (hl : acs.length = rows.length) {i : Nat} {ac : Option Addr × Nat} {r : List α} :
    (rowC acs rows).set i (.slice ac.1 r.length ac.2) = rowC (acs.set i ac) (rows.set i r) :=
  zipWith_set2 (fun (ac : Option Addr × Nat) (r : List α) => Value.slice ac.1 r.length ac.2) _ _ _ _ _ hl
theorem rowC_snoc {acs : List (Option Addr × Nat)} {rows : List (List α)} (hl : acs.length = rows.length) {ac : Option Addr × Nat} {r : List α} :
    rowC (acs ++ [ac]) (rows ++ [r]) = rowC acs rows ++ [.slice ac.1 r.length ac.2] := by
  unfold rowC; rw [List.zipWith_append hl]; rfl
theorem rowC_rep : ∀ n : Nat, rowC (List.replicate n (none, 0)) (List.replicate n ([] : List α)) = List.replicate n (.slice none 0 0)
  | 0 => rfl
  | n + 1 => by
    have ih := rowC_rep n
    unfold rowC at *
    rw [List.replicate_succ, List.replicate_succ, List.replicate_succ, List.zipWith_cons_cons, ih]; rfl
theorem rowC_len {acs : List (Option Addr × Nat)} {rows : List (List α)} (hl : acs.length = rows.length) : (rowC acs rows).length = rows.length := by unfold rowC; simp [hl]
theorem rowC_load {acs : List (Option Addr × Nat)} {rows : List (List α)} (hl : acs.length = rows.length) {i : Nat} (hi : i < rows.length) {e : TypeId} {bytes : Nat} {z : List Value} :
    loadL ⟨.slice e, 1, bytes, z⟩ (rowC acs rows) (0 + i * 1) = some (.slice (acs[i]'(hl ▸ hi)).1 rows[i].length (acs[i]'(hl ▸ hi)).2) := by
  rw [Nat.zero_add, Nat.mul_one]
  unfold loadL
  simp only [aggB, cond_false]
  exact rowC_get hl hi

/-- A row is read. -/
theorem can_brow {β : Type} {kd : Kd β} {x : β} {acs : List (Option Addr × Nat)} {rows : List (List α)} {U' : List Asn} (hl : acs.length = rows.length) (ht : Tak (bun (rowX f sz ei acs rows)) U U') {i : Nat} (hi : i < rows.length) {cs : List Value}
    (hA : ∀ E : Env, Can E [rowA f sz ei (acs[i]'(hl ▸ hi)) rows[i]] (kd.rd cs x)) : Can E U (kd.rd cs x) := Can.of fun w S hs => by
  obtain ⟨S1, h1, hsub⟩ := ht.mem hs
  obtain ⟨S2, h2, hsub2⟩ := star_mem (rowX_get (f := f) (sz := sz) (ei := ei) hl hi) h1
  have h3 := hA ⟨E.P, [], (fun _ h => nomatch h), 0, w, fun _ => True⟩ w S2 (fun _ _ => rfl) ⟨S2, fun _ => False, h2, trivial, fun _ _ h => h, fun _ h => h, fun _ h => h.elim⟩
  exact kd.mono (fun b hb => hb.elim (fun h => absurd trivial h.2) (fun h => hsub b (hsub2 b h))) h3
end rows

end Go.Proofs.YtcnpjhaedjncdaaGreatDoor.E

namespace Go.Proofs.YtcnpjhaedjncdaaGreatDoor
set_option linter.all false
open Go.Proofs.YtcnpjhaedjncdaaGreatDoor.E

theorem mk9 : MKey Tryz.prog 9 encB := mkey_str Tryz.underlying9
theorem zz3 (w : World) : (zeroValue 3).run Tryz.prog w = .ok (.int .i64 0) w := Tryz.zeroValue3 w

/-- Lists of items, each a block of its own: the slice, and the rows. -/
abbrev kerS (AK : Option Addr) (n cK : Nat) (acs : List (Option Addr × Nat)) (ks : List (List Itm)) : Asn := osl 88 1 (.slice AK n cK) n (rowC acs ks)
abbrev kerB (acs : List (Option Addr × Nat)) (ks : List (List Itm)) : Asn := bun (rowX (fun l : List Itm => l.flatMap encX) 2 79 acs ks)

theorem can_kerB {E0 : Go.Proofs.YtcnpjhaedjncdaaGreatDoor.E.Env} {U U' : List Asn} {acs : List (Option Addr × Nat)} {ks : List (List Itm)} (hl : acs.length = ks.length) (ht : Tak (kerB acs ks) U U') (hks : ∀ a ∈ ks, ∀ x ∈ a, Sm x) {i : Nat} (hi : i < ks.length) (hb : ks[i].length ≤ 100000) :
    Go.Proofs.YtcnpjhaedjncdaaGreatDoor.E.Can E0 U ((kslice 16 kItm).rd [.slice (acs[i]'(hl ▸ hi)).1 ks[i].length (acs[i]'(hl ▸ hi)).2] ks[i]) :=
  can_brow hl ht hi fun E => can_items .z (fun x hx => by have := hks _ (List.getElem_mem hi) x hx; unfold Sm at this; exact ⟨⟨by omega, by omega⟩, ⟨by omega, by omega⟩⟩) hb

attribute [local irreducible] EVX EVO EVL EV1 NEV
attribute [local irreducible] own osl exA rdA rdL
attribute [local irreducible] bldA mapA bun
set_option maxRecDepth 10000
set_option maxHeartbeats 4000000

theorem number_w (bm bp : Nat) (gv : Value) (hgv : oneB gv = true) (AK : Option Addr) (cK : Nat) (acs : List (Option Addr × Nat)) (ks : List (List Itm)) (A : Option Addr) (c : Nat) (k : List Itm) (hl : acs.length = ks.length)
    (hks : ∀ a ∈ ks, ∀ x ∈ a, Sm x) (hk : ∀ x ∈ k, Sm x) (hkl : k.length ≤ 100000) (hn : ks.length ≤ 1000) :
    Trip Tryz.prog 39 [.pointer (some ⟨bm, 0, none⟩), .slice A k.length c] Rd.tt ([blk bm 108 [.slice AK ks.length cK, gv, .map (some bp)], mapA encB bp (asG (ks.map txtB)), pX A k.length c k, kerS AK ks.length cK acs ks, kerB acs ks])
      (fun v V => ∃ (AK' : Option Addr) (cK' : Nat) (acs' : List (Option Addr × Nat)), acs'.length = (addK ks k).length ∧ v = .int .i64 (numK (addK ks k) k) ∧ V = [blk bm 108 [.slice AK' (addK ks k).length cK', gv, .map (some bp)], mapA encB bp (asG ((addK ks k).map txtB)), kerS AK' (addK ks k).length cK' acs' (addK ks k), kerB acs' (addK ks k)]) := by
  have hki : ∀ x ∈ k, I64 x.Prod ∧ I64 x.Dot := fun x hx => by have := hk x hx; unfold Sm at this; exact ⟨⟨by omega, by omega⟩, ⟨by omega, by omega⟩⟩
  refine trip Tryz.tabOk Tryz.func39 rfl rfl rfl rfl ?_
  rintro w SM hW
  clear hW
  repeat' (first | refine e_nil ?_ | ((refine e_op ?_); (refine o_n (peval_sound rfl) rfl ?_)) | refine s_seq ?_ | refine s_region ?_)
  refine s_cond rfl (fun h => ?_) (fun h => ?_)
  · have hl : k = [] := List.eq_nil_of_length_eq_zero (by simpa using h)
    subst hl
    have e1 : addK ks [] = ks := by unfold addK; simp
    repeat' (first | refine e_nil ?_ | ((refine e_op ?_); (refine o_n (peval_sound rfl) rfl ?_)) | refine s_seq ?_ | refine s_region ?_)
    refine s_ret ⟨_, _, res1 rfl rfl, ⟨AK, cK, acs, ?_, ?_, rfl⟩, ?_⟩
    · rw [e1]; exact hl
    · simp [numK]
    · rw [e1]
      exact Ent.tak .z (Ent.tak .z (Ent.wk (Ent.refl _)))
  have hne : k ≠ [] := by rintro rfl; simp at h
  repeat' (first | ((refine e_op ?_); (refine o_n (peval_sound rfl) rfl ?_)) | refine s_seq ?_ | refine s_region ?_ | refine s_skip ?_)
  refine e_op (o_call (text_w A c k hkl (fun x hx => by have := hk x hx; exact this)) rfl .nil (can_items (.s (.s .z)) hki hkl) rfl ?_)
  rintro v V ⟨rfl, rfl⟩
  simp only [List.nil_append]
  have htx : (⟨(txtI k).toArray⟩ : ByteArray) = txtB k := rfl
  rw [htx]
  repeat' (first | refine e_nil ?_ | ((refine e_op ?_); (first | refine o_n (peval_sound rfl) rfl ?_ | refine o_n (nl rfl rfl tc rfl) rfl ?_)) | refine s_seq ?_ | refine s_region ?_)
  by_cases hmem : k ∈ ks
  · have hmt : txtB k ∈ ks.map txtB := (mem_txtB hks hk).2 hmem
    have e1 : addK ks k = ks := by unfold addK; rw [if_pos (.inr hmem)]
    refine e_op (o_n (n_g2_in hmt rfl mk9 zz3 rfl rfl rfl (.s .z)) rfl ?_)
    rw [ix_txtB hks hk]
    repeat' (first | refine e_nil ?_ | ((refine e_op ?_); (refine o_n (peval_sound rfl) rfl ?_)) | refine s_seq ?_ | refine s_region ?_ | refine s_skip ?_ | refine s_false rfl ?_)
    refine s_ret ⟨_, _, res1 rfl rfl, ⟨AK, cK, acs, ?_, ?_, rfl⟩, ?_⟩
    · rw [e1]; exact hl
    · rw [e1]; unfold numK; rw [if_neg hne]
    · rw [e1]
      exact Ent.tak .z (Ent.tak .z (Ent.wk (Ent.refl _)))
  · have hmt : txtB k ∉ ks.map txtB := fun h => hmem ((mem_txtB hks hk).1 h)
    have e1 : addK ks k = ks ++ [k] := by unfold addK; rw [if_neg (fun h => h.elim hne hmem)]
    have e2 : ix (ks ++ [k]) k = ks.length := ix_app_not hmem
    refine e_op (o_n (n_g2_out hmt rfl mk9 zz3 rfl rfl rfl (.s .z)) rfl ?_)
    repeat' (first | refine e_nil ?_ | ((refine e_op ?_); (first | refine o_n (peval_sound rfl) rfl ?_ | refine o_n (nl rfl rfl tc rfl) rfl ?_)) | refine s_seq ?_ | refine s_region ?_ | refine s_true rfl ?_)
    refine e_op (o_gup (k := txtB k) hmt rfl mk9 rfl rfl rfl (by rw [List.length_map]; rfl) (.s .z) ?_)
    repeat' (first | refine e_nil ?_ | ((refine e_op ?_); (first | refine o_n (peval_sound rfl) rfl ?_ | refine o_n (nl rfl rfl tc rfl) rfl ?_)) | refine s_region ?_)
    refine e_op (o_lit (ps := [(0, .slice A k.length c)]) (cs := [.slice A k.length c]) rfl rfl rfl rfl rfl rfl rfl (fun b4 => ?_))
    refine e_op (o_append (v := .slice AK ks.length cK) (n := ks.length) (m := 1) (xs := rowC acs ks) (news := [.slice A k.length c]) _ rfl rfl rfl rfl (fun w hm j u hu => ?_) rfl ?_ rfl (by omega) (by simp only; omega) (by omega) rfl (fun b c => .s (.s (.s (.s .z)))) (fun ba ca => ?_))
    · obtain ⟨S1, hP, _⟩ := hm.tak .z
      rw [Nat.zero_add]
      exact osl_cells hP j u hu
    · simp [oneB]
    repeat' (first | refine e_nil ?_ | ((refine e_op ?_); (first | refine o_n (peval_sound rfl) rfl ?_ | refine o_storeC rfl rfl rfl rfl tc uc rfl rfl rfl ?_)) | refine s_seq ?_ | refine s_region ?_)
    have eL : (ks ++ [k]).length = ks.length + 1 := by simp
    refine s_ret ⟨_, _, res1 rfl rfl, ⟨some ⟨ba, 0, none⟩, ca, acs ++ [(A, c)], ?_, ?_, rfl⟩, ?_⟩
    · rw [e1]; simp [hl]
    · rw [e1]; unfold numK; rw [if_neg hne, e2]
    · unfold kerS
      rw [e1, Go.Proofs.YtcnpjhaedjncdaaGreatDoor.E.rowC_snoc (ac := (A, c)) (r := k) hl, eL, List.map_append]
      refine Ent.wk (Ent.tak .z (Ent.tak .z ?_))
      refine Ent.tak (.s .z) ?_
      exact ent_bsnoc (f := fun l : List Itm => l.flatMap encX) (ac := (A, c)) hl

end Go.Proofs.YtcnpjhaedjncdaaGreatDoor

namespace Go.Proofs.YtcnpjhaedjncdaaGreatDoor
set_option linter.all false
open Go.Proofs.YtcnpjhaedjncdaaGreatDoor.E

theorem sort_len {g : Gram} (hL : Lims g) {l : List Itm} (hs : SortI l) (h : ∀ x ∈ l, inG g x = true) : l.length ≤ 1664 := by
  have hk : ∀ x ∈ l, 0 ≤ x.Prod ∧ x.Prod < 128 ∧ 0 ≤ x.Dot ∧ x.Dot ≤ 12 := fun x hx => by
    have h1 := inG_dot hL (h x hx)
    omega
  have h1 : (l.map fun x => x.Prod * 13 + x.Dot).Nodup := by
    unfold List.Nodup
    rw [List.pairwise_map]
    unfold SortI at hs
    refine (List.Pairwise.and_mem.1 hs).imp fun {a b} ⟨ha, hb, hab⟩ => ?_
    rw [ltI_iff] at hab
    have := hk a ha
    have := hk b hb
    omega
  have h2 := nodup_rng_len 1664 _ 0 h1 (fun s hs => by
    obtain ⟨x, hx, rfl⟩ := List.mem_map.1 hs
    have := hk x hx
    omega)
  simpa using h2

/-- What items go on to, by each symbol. -/
def onI (g : Gram) (l : List Itm) (n : Nat) : List (List Itm) := (List.range n).map fun s : Nat => goI g l (s : Int)
theorem onI_len (g : Gram) (l : List Itm) (n : Nat) : (onI g l n).length = n := by unfold onI; simp
theorem onI_get {g : Gram} {l : List Itm} {n s : Nat} (h : s < (onI g l n).length) : (onI g l n)[s] = goI g l s := by
  have h2 : s < ((List.range n).map fun s : Nat => goI g l (s : Int)).length := h
  show ((List.range n).map fun s : Nat => goI g l (s : Int))[s] = _
  rw [List.getElem_map, List.getElem_range]
theorem onI_nil (g : Gram) (n : Nat) : onI g [] n = List.replicate n [] := by
  apply List.ext_getElem
  · simp [onI]
  · intro i h1 h2
    rw [onI_get]; simp [goI]
theorem onI_step {g : Gram} {l : List Itm} {n j s : Nat} (hj : j < l.length) (hs : beh g l[j] = (s : Int)) :
    onI g (l.take (j + 1)) n = (onI g (l.take j) n).set s (goI g (l.take j) s ++ [⟨l[j].Prod, l[j].Dot + 1⟩]) := by
  apply List.ext_getElem
  · simp [onI]
  · intro i h1 h2
    rw [onI_get, goI_take hj, List.getElem_set, hs]
    by_cases h : s = i
    · subst h; rw [if_pos rfl, if_pos rfl]
    · rw [if_neg (by omega), if_neg h, onI_get]
theorem onI_same {g : Gram} {l : List Itm} {n j : Nat} (hj : j < l.length) (hs : beh g l[j] < 0) : onI g (l.take (j + 1)) n = onI g (l.take j) n := by
  apply List.ext_getElem
  · simp [onI]
  · intro i h1 h2
    rw [onI_get, goI_take hj, onI_get, if_neg (by omega)]

/-- The numbers that a state's row has, as they are found. -/
def rowN (g : Gram) (cl : List Itm) (ks : List (List Itm)) (n : Nat) : List Int := (List.range n).map fun s : Nat => numK (symK g cl ks (s + 1)) (goI g cl s)
theorem rowN_len (g : Gram) (cl : List Itm) (ks : List (List Itm)) (n : Nat) : (rowN g cl ks n).length = n := by unfold rowN; simp
theorem rowN_succ (g : Gram) (cl : List Itm) (ks : List (List Itm)) (n : Nat) : rowN g cl ks (n + 1) = rowN g cl ks n ++ [numK (symK g cl ks (n + 1)) (goI g cl n)] := by
  unfold rowN; rw [List.range_succ, List.map_append]; rfl

theorem rowN_fin {g : Gram} {cl : List Itm} {ks fin : List (List Itm)} {n : Nat} (h : symK g cl ks n <+: fin) : rowN g cl ks n = (List.range n).map fun s : Nat => numK fin (goI g cl s) := by
  unfold rowN
  refine List.map_congr_left fun s hs => ?_
  rw [List.mem_range] at hs
  obtain ⟨d, hd⟩ := Nat.exists_eq_add_of_le (show s + 1 ≤ n by omega)
  have h1 := symK_mono g cl ks (s + 1) d
  rw [← hd] at h1
  refine (numK_pre (h1.trans h) ?_).symm
  by_cases e : goI g cl s = []
  · exact .inl e
  · right; rw [symK_succ]; exact addK_mem e

/-- The rows that are known stay right. -/
theorem rows_next {g : Gram} (o : GOk g) {i : Nat} {ks : List (List Itm)} {res : Option (List (List Itm))} {gs : List (List Int)} (h : LrI g i ks res) (hi : i < ks.length)
    (hl : (symK g (closedP g ks[i]) ks (g.Terms.length + g.Nons.length)).length ≤ 512) (hg : ∀ fin, res = some fin → gs = (fin.take i).map (gotoR g fin)) :
    ∀ fin, res = some fin → gs ++ [rowN g (closedP g ks[i]) ks (g.Terms.length + g.Nons.length)] = (fin.take (i + 1)).map (gotoR g fin) := by
  intro fin hf
  subst hf
  have hp := (h.next o hi hl).pre
  have hp0 := h.pre
  have hif : i < fin.length := Nat.lt_of_lt_of_le hi hp0.length_le
  have he : fin[i] = ks[i] := by
    obtain ⟨d, rfl⟩ := hp0
    rw [List.getElem_append_left hi]
  rw [List.take_succ_eq_append_getElem hif, List.map_append, hg fin rfl, rowN_fin hp, he]
  rfl

end Go.Proofs.YtcnpjhaedjncdaaGreatDoor

namespace Go.Proofs.YtcnpjhaedjncdaaGreatDoor
set_option linter.all false
open Go.Proofs.YtcnpjhaedjncdaaGreatDoor.E

/-- What Of answers. -/
def lrE (g : Gram) : Int := if checkE g ≠ 0 then checkE g else match lrK g with | none => 5 | some _ => 0
def lrKs (g : Gram) : List (List Itm) := if lrE g = 0 then (lrK g).getD [] else []
def lrGs (g : Gram) : List (List Int) := (lrKs g).map (gotoR g (lrKs g))

theorem lr_bad {g : Gram} (h : lrE g ≠ 0) : lrKs g = [] ∧ lrGs g = [] := by
  have h1 : lrKs g = [] := by unfold lrKs; rw [if_neg h]
  exact ⟨h1, by unfold lrGs; rw [h1]; rfl⟩

abbrev gotS (AG : Option Addr) (n cG : Nat) (bcs : List (Option Addr × Nat)) (gs : List (List Int)) : Asn := osl 55 1 (.slice AG n cG) n (rowC bcs gs)
abbrev gotB (bcs : List (Option Addr × Nat)) (gs : List (List Int)) : Asn := bun (rowX (fun l : List Int => l.map (Value.int .i64)) 1 3 bcs gs)

/-- States of one's own: all of it can be written. -/
def LrV (x : Value) (V : List Asn) (ks : List (List Itm)) (gs : List (List Int)) : Prop :=
  ∃ (AK : Option Addr) (cK : Nat) (acs : List (Option Addr × Nat)) (AG : Option Addr) (cG : Nat) (bcs : List (Option Addr × Nat)), acs.length = ks.length ∧ bcs.length = gs.length ∧
    x = .agg #[.slice AK ks.length cK, .slice AG gs.length cG] ∧ V = [kerS AK ks.length cK acs ks, kerB acs ks, gotS AG gs.length cG bcs gs, gotB bcs gs]

theorem ent_lr1 {U : List Asn} : Ent U (kerS none 0 0 [] [] :: kerB [] [] :: gotS none 0 0 [] [] :: gotB [] [] :: U) :=
  Ent.osl0 (Ent.trans (V := gotS none 0 0 [] [] :: gotB [] [] :: U) (Ent.osl0 ent_bnil0) ent_bnil0)
theorem ent_lr0 {U : List Asn} : Ent U [kerS none 0 0 [] [], kerB [] [], gotS none 0 0 [] [], gotB [] []] := (Ent.nil _).trans ent_lr1

/-- Where the making of states stands. -/
structure LrSt where
  i : Nat
  AK : Option Addr
  cK : Nat
  acs : List (Option Addr × Nat)
  ks : List (List Itm)
  AG : Option Addr
  cG : Nat
  bcs : List (Option Addr × Nat)
  gs : List (List Int)
structure LrStOk (g : Gram) (x : LrSt) : Prop where
  inv : LrI g x.i x.ks (lrK g)
  hl : x.acs.length = x.ks.length
  hb : x.bcs.length = x.gs.length
  hg : x.gs.length = x.i
  hgs : ∀ fin, lrK g = some fin → x.gs = (fin.take x.i).map (gotoR g fin)

attribute [local irreducible] EVX EVO EVL EV1 NEV
attribute [local irreducible] own osl exA rdA rdL
attribute [local irreducible] bldA mapA bun
set_option maxRecDepth 10000
set_option maxHeartbeats 4000000

theorem ofP_w (cs : List Value) (g : Gram) (hp : checkE g = 0 → g.Prods.length ≤ 100) : Trip Tryz.prog 22 [.agg cs.toArray] (kGram.rd cs g) []
    (fun v V => ∃ x, v = .tuple #[x, .int .i64 (lrE g)] ∧ LrV x V (lrKs g) (lrGs g)) := by
  refine trip Tryz.tabOk Tryz.func22 rfl rfl rfl rfl ?_
  rintro w SM hG0
  obtain ⟨A0, A1, A2, A3, A4, c0, c1, c2, c3, c4, rfl, hG⟩ := kGram_open hG0
  repeat' (first | refine e_nil ?_ | ((refine e_op ?_); (first | refine o_n (peval_sound rfl) rfl ?_ | refine o_n (nl rfl rfl tc rfl) rfl ?_ | refine o_box rfl rfl (fun _ => ?_) | refine o_alloc rfl rfl (fun _ => ?_))) | refine s_seq ?_ | refine s_region ?_)
  rename_i bg br
  refine e_op (o_call (check_w _ g) rfl .nil (Can.ro hG0) rfl ?_)
  rintro v V ⟨rfl, rfl⟩
  simp only [List.nil_append]
  repeat' (first | refine e_nil ?_ | ((refine e_op ?_); (refine o_n (peval_sound rfl) rfl ?_)) | refine s_seq ?_ | refine s_region ?_)
  refine s_cond rfl (fun h => ?_) (fun h => ?_)
  · have he : checkE g ≠ 0 := by simpa using h
    have hce : lrE g = checkE g := by unfold lrE; rw [if_pos he]
    obtain ⟨h1, h2⟩ := lr_bad (by rw [hce]; exact he)
    rw [h1, h2, hce]
    repeat' (first | refine e_nil ?_ | ((refine e_op ?_); (first | refine o_n (peval_sound rfl) rfl ?_ | refine o_storeC rfl rfl rfl rfl tc uc rfl rfl rfl ?_)) | refine s_seq ?_ | refine s_region ?_)
    refine s_ret ⟨_, _, resc2 rfl rfl rfl .z (ld_all (n := 2) rfl rfl rfl rfl) rfl, ⟨_, rfl, none, 0, [], none, 0, [], rfl, rfl, rfl, rfl⟩, ent_lr0⟩
  have he : checkE g = 0 := by simpa using h
  obtain ⟨hlm, hwf⟩ := checkE_ok he
  have hL := lims hlm
  have o := GOk.of hwf
  have hp := hp he
  repeat' (first | refine s_seq ?_ | refine s_region ?_ | refine s_skip ?_)
  refine e_op (o_newMap encB rfl (fun bp => ?_))
  repeat' (first | refine e_nil ?_ | ((refine e_op ?_); (first | refine o_n (peval_sound rfl) rfl ?_ | refine o_box rfl rfl (fun _ => ?_))) | refine s_seq ?_ | refine s_region ?_)
  rename_i bm
  refine e_op (o_lit (cs := encX ⟨0, 0⟩) rfl rfl rfl rfl rfl rfl rfl (fun bk => ?_))
  refine e_weak (Sub.refl _) (V := [blk bm 108 [.slice none 0 0, .slice none 0 0, .map (some bp)], mapA encB bp (asG (([] : List (List Itm)).map txtB)), pX (some ⟨bk, 0, none⟩) [(⟨0, 0⟩ : Itm)].length 1 [⟨0, 0⟩], kerS none 0 0 [] [], kerB [] [], gotS none 0 0 [] [], gotB [] [], blk br 66 [.slice none 0 0, .slice none 0 0], blk bg 27 [.slice A0 g.Terms.length c0, .slice A1 g.Levels.length c1, .slice A2 g.Pats.length c2, .slice A3 g.Nons.length c3, .slice A4 g.Prods.length c4]]) ?_ ?_
  · refine Ent.tak (.s .z) (Ent.tak (.s .z) (Ent.tak .z ent_lr1))
  have hsm0 : ∀ x ∈ [(⟨0, 0⟩ : Itm)], Sm x := fun x hx => by rw [List.mem_singleton] at hx; subst hx; unfold Sm; simp only; omega
  refine e_op (o_call (number_w bm bp (.slice none 0 0) rfl none 0 [] [] (some ⟨bk, 0, none⟩) 1 [⟨0, 0⟩] rfl (fun a ha => (by cases ha)) hsm0 (by simp) (by simp)) rfl (.cons .z (.cons .z (.cons .z (.cons .z (.cons .z .nil))))) Can.tt rfl ?_)
  rintro v V ⟨AK, cK, acs, hacs, rfl, rfl⟩
  have e0 : addK [] [(⟨0, 0⟩ : Itm)] = [[⟨0, 0⟩]] := by unfold addK; simp
  rw [e0] at hacs ⊢
  simp only [List.cons_append, List.nil_append]
  repeat' (first | refine e_nil ?_ | ((refine e_op ?_); (refine o_n (peval_sound rfl) rfl ?_)) | refine s_seq ?_ | refine s_region ?_ | refine s_block ?_)
  refine s_loopK (ι := {x : LrSt // LrStOk g x}) [1, 2, 5] rfl ⟨⟨0, AK, cK, acs, [[⟨0, 0⟩]], none, 0, [], []⟩, ⟨LrI.begin o, hacs, rfl, rfl, fun fin _ => by simp⟩⟩ (fun x => [(6, .int .i64 x.1.i)])
    (fun x => [blk bm 108 [.slice x.1.AK x.1.ks.length x.1.cK, .slice x.1.AG x.1.gs.length x.1.cG, .map (some bp)], mapA encB bp (asG (x.1.ks.map txtB)), kerS x.1.AK x.1.ks.length x.1.cK x.1.acs x.1.ks, kerB x.1.acs x.1.ks, gotS x.1.AG x.1.gs.length x.1.cG x.1.bcs x.1.gs, gotB x.1.bcs x.1.gs, blk br 66 [.slice none 0 0, .slice none 0 0], blk bg 27 [.slice A0 g.Terms.length c0, .slice A1 g.Levels.length c1, .slice A2 g.Pats.length c2, .slice A3 g.Nons.length c3, .slice A4 g.Prods.length c4]])
    (fun x => 514 - x.1.i) ?_ ?_ ?_
  · repeat' (first | exact Sub.nil _ | refine Sub.cons rfl ?_)
  · repeat' (first | exact Ent.nil _ | refine Ent.tak tk ?_)
  rintro ⟨⟨i, AK, cK, acs, ks, AG, cG, bcs, gs⟩, hI⟩
  obtain ⟨hI, hl, hb, hgl, hgs⟩ := hI
  simp only at hI hl hb hgl hgs ⊢
  repeat' (first | refine e_nil ?_ | ((refine e_op ?_); (first | refine o_n (peval_sound rfl) rfl ?_ | refine o_n (nl rfl rfl tc rfl) rfl ?_)) | refine s_seq ?_ | refine s_region ?_)
  refine s_cond rfl (fun h => ?_) (fun h => ?_)
  · have hlt : i < ks.length := by simpa using h
    have hTN : g.Terms.length + g.Nons.length ≤ 96 := by have := hL.t; have := hL.n; omega
    have hwr : IntKind.i64.wrap ((g.Terms.length : Int) + (g.Nons.length : Int)) = ((g.Terms.length + g.Nons.length : Nat) : Int) := by rw [wrap_i64] <;> omega
    have hK := hI.ok
    have hki := hK.ok _ (List.getElem_mem hlt)
    have hsm : ∀ a ∈ ks, ∀ x ∈ a, Sm x := fun a ha => sm_of hL hp (hK.ok a ha).inG
    have hlen : ∀ a ∈ ks, a.length ≤ 1664 := fun a ha => sort_len hL (hK.ok a ha).sort (hK.ok a ha).inG
    have hklen := hlen _ (List.getElem_mem hlt)
    obtain ⟨hcs, hcm⟩ := closedP_spec o.beh o.left hki.inG
    have hcin : ∀ x ∈ closedP g ks[i], inG g x = true := fun x hx => ((hcm x).1 hx).inG hki.inG
    have hclen := sort_len hL hcs hcin
    repeat' (first | ((refine e_op ?_); (first | refine o_n (peval_sound rfl) rfl ?_ | refine o_n (nl rfl rfl tc rfl) rfl ?_)) | refine s_seq ?_ | refine s_region ?_ | refine s_block ?_ | refine s_skip ?_)
    rw [hwr]
    refine e_op (o_make rfl rfl rfl rfl (g.Terms.length + g.Nons.length) rfl rfl (by omega) (by omega) rfl (fun bo => ?_))
    rw [← rowC_rep (α := Itm)]
    repeat' (first | refine e_nil ?_ | ((refine e_op ?_); (refine o_n (peval_sound rfl) rfl ?_)) | refine s_seq ?_)
    refine s_open (.s (.s (.s .z))) (by omega) ?_
    rintro b6 rfl
    refine s_anyU Tryz.mixed ?_
    (first | refine a_n 0 rfl (peval_sound rfl) (by decide +kernel) (by (exact Ent.refl _)) rfl ?_ | refine a_n 0 rfl (nl rfl rfl tc rfl) (by decide +kernel) (by (exact Ent.refl _)) rfl ?_); (refine a_n 1 rfl (peval_sound rfl) (by decide +kernel) (by (exact Ent.refl _)) rfl ?_); (refine a_n 2 rfl (peval_sound rfl) (by decide +kernel) (by (exact Ent.refl _)) rfl ?_); (refine a_n 3 rfl (peval_sound rfl) (by decide +kernel) (by (exact Ent.refl _)) rfl ?_); (refine a_n 4 rfl (peval_sound rfl) (by decide +kernel) (by (exact Ent.refl _)) rfl ?_); (first | refine a_n 5 rfl (peval_sound rfl) (by decide +kernel) (by (exact Ent.refl _)) rfl ?_ | refine a_n 5 rfl (nl rfl rfl tc rfl) (by decide +kernel) (by (exact Ent.refl _)) rfl ?_); (refine a_n 6 rfl (peval_sound rfl) (by decide +kernel) (by (exact Ent.refl _)) rfl ?_); (refine a_n 11 rfl (peval_sound rfl) (by decide +kernel) (by (exact Ent.refl _)) rfl ?_)
    refine a_n 7 rfl (n_index rfl rfl rfl rfl i rfl hlt) (by decide +kernel) (Ent.refl _) rfl ?_
    refine a_n 8 rfl (n_load_osl rfl rfl (.s (.s (.s .z))) (rowC_load hl hlt)) (by decide +kernel) (Ent.refl _) rfl ?_
    refine a_1 9 (by decide +kernel) rfl rfl (o_call (closedP_w order_w _ g o (acs[i]'(hl ▸ hlt)).1 (acs[i]'(hl ▸ hlt)).2 ks[i] (by omega) (by omega) hL.t hL.n hki.inG) rfl .nil (Can.and (Can.ro hG0) (can_kerB hl (.s (.s (.s (.s .z)))) hsm hlt (by omega))) rfl ?_)
    rintro v V ⟨Ac, cc, rfl, rfl⟩
    refine ⟨by repeat' (first | exact Ent.nil _ | refine Ent.tak tk ?_), ?_⟩
    (refine a_n 10 rfl (peval_sound rfl) (by decide +kernel) (by (repeat' (first | exact Ent.refl _ | refine Ent.wk ?_))) rfl ?_)
    refine a_done (by decide +kernel) ?_
    obtain ⟨n, hn⟩ : ∃ n, n = g.Terms.length + g.Nons.length := ⟨_, rfl⟩
    rw [← hn] at hTN ⊢
    generalize hcl : closedP g ks[i] = cl at hcs hcm hcin hclen ⊢
    simp only [List.cons_append, List.nil_append]
    repeat' (refine s_block ?_)
    refine s_loopK (ι := {y : Nat × List (Option Addr × Nat) // y.1 ≤ cl.length ∧ y.2.length = n}) [1, 2, 5, 6, 7, 54, 55] rfl ⟨(0, List.replicate n (none, 0)), by simp⟩ (fun y => [(56, .int .i64 y.1.1)])
      (fun y => [pX Ac cl.length cc cl, kerS (some ⟨bo, 0, none⟩) n n y.1.2 (onI g (cl.take y.1.1) n), kerB y.1.2 (onI g (cl.take y.1.1) n), blk bm 108 [.slice (some ⟨b6, 0, none⟩) ks.length cK, .slice AG gs.length cG, .map (some bp)], mapA encB bp (asG (ks.map txtB)), kerS (some ⟨b6, 0, none⟩) ks.length cK acs ks, kerB acs ks, gotS AG gs.length cG bcs gs, gotB bcs gs, blk br 66 [.slice none 0 0, .slice none 0 0], blk bg 27 [.slice A0 g.Terms.length c0, .slice A1 g.Levels.length c1, .slice A2 g.Pats.length c2, .slice A3 g.Nons.length c3, .slice A4 g.Prods.length c4]])
      (fun y => cl.length - y.1.1) ?_ ?_ ?_
    · repeat' (first | exact Sub.nil _ | refine Sub.cons rfl ?_)
    · simp only [List.take_zero, onI_nil]
      exact Ent.tak .z (Ent.tak .z (ent_bnil (f := fun l : List Itm => l.flatMap encX) rfl n))
    rintro ⟨⟨j, dcs⟩, hj, hd⟩
    simp only at hj hd ⊢
    repeat' (first | refine e_nil ?_ | ((refine e_op ?_); (refine o_n (peval_sound rfl) rfl ?_)) | refine s_seq ?_ | refine s_region ?_)
    refine s_cond rfl (fun h => ?_) (fun h => ?_)
    · have hjl : j < cl.length := by simpa using h
      have hxi := hcin _ (List.getElem_mem hjl)
      have hxb := inG_dot hL hxi
      have hrng := beh_rng hwf hxi
      refine s_open .z (by omega) ?_
      rintro b7 rfl
      repeat' (first | refine s_seq ?_ | refine s_region ?_ | refine s_block ?_ | refine s_skip ?_)
      refine e_op (o_n (n_index rfl rfl rfl rfl j rfl hjl) rfl ?_)
      refine e_op (o_n (n_load_osl rfl rfl .z (encX_load hjl)) rfl ?_)
      repeat' (first | refine e_nil ?_ | ((refine e_op ?_); (first | refine o_n (nl rfl rfl tc rfl) rfl ?_ | refine o_storeC rfl rfl rfl rfl tc uc rfl rfl rfl ?_ | refine o_alloc rfl rfl (fun _ => ?_))) | refine s_seq ?_ | refine s_region ?_)
      rename_i bx
      refine e_op (o_call (beh_w _ g cl[j] hxi) rfl .nil (Can.ro hG0) rfl ?_)
      rintro v V ⟨rfl, rfl⟩
      simp only [List.nil_append]
      repeat' (first | refine e_nil ?_ | ((refine e_op ?_); (refine o_n (peval_sound rfl) rfl ?_)) | refine s_seq ?_ | refine s_region ?_)
      have hbx : setMany [Value.int .i64 0, .int .i64 0] 0 (Value.agg (encX cl[j]).toArray).cells.toList = [.int .i64 cl[j].Prod, .int .i64 cl[j].Dot] := rfl
      simp only [hbx]
      refine s_cond rfl (fun h => ?_) (fun h => ?_)
      · have hb1 : beh g cl[j] ≠ -1 := by simpa using h
        obtain ⟨s, hs⟩ : ∃ s : Nat, beh g cl[j] = (s : Int) := ⟨(beh g cl[j]).toNat, by omega⟩
        have hsn : s < n := by omega
        have hwd : IntKind.i64.wrap (cl[j].Dot + 1) = cl[j].Dot + 1 := by rw [wrap_i64] <;> omega
        rw [hs]
        repeat' (first | refine e_nil ?_ | ((refine e_op ?_); (first | refine o_n (peval_sound rfl) rfl ?_ | refine o_n (nl rfl rfl tc rfl) rfl ?_ | refine o_storeC rfl rfl rfl rfl tc uc rfl rfl rfl ?_)) | refine s_seq ?_ | refine s_region ?_)
        rw [hwd]
        have hbx2 : setMany [Value.int .i64 cl[j].Prod, .int .i64 cl[j].Dot] (0 + 1) (Value.int .i64 (cl[j].Dot + 1)).cells.toList = [.int .i64 cl[j].Prod, .int .i64 (cl[j].Dot + 1)] := rfl
        simp only [hbx2]
        have hro : dcs.length = (onI g (cl.take j) n).length := by rw [onI_len, hd]
        have hsr : s < (onI g (cl.take j) n).length := by rw [onI_len]; exact hsn
        have hrs : (onI g (cl.take j) n)[s] = goI g (cl.take j) s := onI_get hsr
        have hgl2 : (goI g (cl.take j) s).length ≤ 1664 := by have := goI_le (g := g) (l := cl.take j) (s := s); rw [List.length_take] at this; omega
        refine s_weak (Sub.refl _) (Ent.trans (Ent.tak (.s (.s (.s .z))) (Ent.refl _)) (ent_btake (f := fun l : List Itm => l.flatMap encX) hro hsr)) ?_
        rw [hrs]
        refine s_P Tryz.mixed (by decide +kernel) ?_
        refine p_mv 0 rfl rfl (by decide +kernel) rfl ?_
        refine p_mv 1 rfl rfl (by decide +kernel) rfl ?_
        refine p_barU 8 ?_
        refine q_n 2 rfl (peval_sound rfl) (by decide +kernel) (by decide +kernel) (Ent.refl _) rfl ?_
        refine q_n 3 rfl (peval_sound rfl) (by decide +kernel) (by decide +kernel) (Ent.refl _) rfl ?_
        refine q_n 4 rfl (n_index rfl rfl rfl rfl s rfl hsn) (by decide +kernel) (by decide +kernel) (Ent.refl _) rfl ?_
        refine q_n 5 rfl (n_load_osl rfl rfl (.s (.s (.s (.s .z)))) (rowC_load hro hsr)) (by decide +kernel) (by decide +kernel) (Ent.refl _) rfl ?_
        refine q_n 6 rfl (nl rfl rfl tc rfl) (by decide +kernel) (by decide +kernel) (Ent.refl _) rfl ?_
        refine q_1 7 (by decide +kernel) rfl rfl rfl (o_lit (ps := [(0, .agg #[.int .i64 cl[j].Prod, .int .i64 (cl[j].Dot + 1)])]) (cs := encX ⟨cl[j].Prod, cl[j].Dot + 1⟩) rfl rfl rfl rfl rfl rfl rfl (fun bl => ⟨Ent.wk (Ent.refl _), ?_⟩))
        refine q_z 8 (by decide +kernel) rfl rfl (o_append (v := .slice (dcs[s]'(hro ▸ hsr)).1 (goI g (cl.take j) s).length (dcs[s]'(hro ▸ hsr)).2) (n := (goI g (cl.take j) s).length) (m := 1) (xs := (goI g (cl.take j) s).flatMap encX) (news := encX ⟨cl[j].Prod, cl[j].Dot + 1⟩) _ rfl rfl (by rw [hrs]; rfl) rfl (fun w hm q u hu => ?_) rfl ?_ rfl (by omega) (by simp only; omega) (by omega) rfl (fun b c => .s .z) (fun ba ca => ?_))
        · obtain ⟨S1, hP, _⟩ := hm.tak .z
          rw [Nat.zero_add]
          exact osl_cells hP q u hu
        · simp [encX, oneB]
        refine p_barU 10 ?_
        refine q_n 9 rfl (n_index rfl rfl rfl rfl s rfl hsn) (by decide +kernel) (by decide +kernel) (Ent.refl _) rfl ?_
        refine q_z 10 (by decide +kernel) rfl rfl (o_store_osl (vs := [.slice (some ⟨ba, 0, none⟩) ((goI g (cl.take j) s).length + 1) ca]) rfl rfl rfl rfl rfl rfl (by rw [rowC_len hro, onI_len]; simp only; omega) (.s (.s (.s (.s (.s .z))))) ?_)
        refine p_done (by decide +kernel) ?_
        have hfl : (goI g (cl.take j) s).flatMap encX ++ encX ⟨cl[j].Prod, cl[j].Dot + 1⟩ = (goI g (cl.take j) s ++ [(⟨cl[j].Prod, cl[j].Dot + 1⟩ : Itm)]).flatMap encX := by rw [List.flatMap_append]; simp
        have hfn : (goI g (cl.take j) s).length + 1 = (goI g (cl.take j) s ++ [(⟨cl[j].Prod, cl[j].Dot + 1⟩ : Itm)]).length := by simp
        have hst : setMany (rowC dcs (onI g (cl.take j) n)) (0 + s * 1) [.slice (some ⟨ba, 0, none⟩) ((goI g (cl.take j) s).length + 1) ca] = rowC (dcs.set s (some ⟨ba, 0, none⟩, ca)) (onI g (cl.take (j + 1)) n) := by
          rw [onI_step hjl hs, ← rowC_set2 hro, Nat.zero_add, Nat.mul_one, hfn]; rfl
        rw [hst, hfl, hfn]
        repeat' (first | refine e_nil ?_ | ((refine e_op ?_); (refine o_n (peval_sound rfl) rfl ?_)) | refine s_region ?_ | refine s_end ?_)
        refine s_back ⟨⟨(j + 1, dcs.set s (some ⟨ba, 0, none⟩, ca)), by simp only; omega, by simp [hd]⟩, by simp only; omega, ?_, ?_⟩
        · repeat' (first | exact Sub.nil _ | refine Sub.cons rfl ?_ | refine Sub.consE rfl ?_ ?_)
          exact inc (i := j) (by omega)
        · simp only
          rw [onI_step hjl hs]
          refine Ent.wk (Ent.trans (ent_bput (f := fun l : List Itm => l.flatMap encX) hro hsr (ac := (some ⟨ba, 0, none⟩, ca)) (r := goI g (cl.take j) s ++ [⟨cl[j].Prod, cl[j].Dot + 1⟩])) ?_)
          exact Ent.tak (.s (.s .z)) (Ent.tak (.s (.s .z)) (Ent.tak .z (Ent.wk (Ent.refl _))))
      · have hb1 : beh g cl[j] = -1 := by simpa using h
        repeat' (first | refine e_nil ?_ | ((refine e_op ?_); (refine o_n (peval_sound rfl) rfl ?_)) | refine s_region ?_ | refine s_end ?_ | refine s_skip ?_)
        refine s_back ⟨⟨(j + 1, dcs), by simp only; omega, hd⟩, by simp only; omega, ?_, ?_⟩
        · repeat' (first | exact Sub.nil _ | refine Sub.cons rfl ?_ | refine Sub.consE rfl ?_ ?_)
          exact inc (i := j) (by omega)
        · simp only
          rw [onI_same hjl (by omega)]
          repeat' (first | exact Ent.nil _ | refine Ent.tak tk ?_)
    · have hjl : j = cl.length := by simp at h; omega
      subst hjl
      rw [List.take_length]
      have hro : dcs.length = (onI g cl n).length := by rw [onI_len, hd]
      repeat' (first | ((refine e_op ?_); (refine o_n (peval_sound rfl) rfl ?_)) | refine s_seq ?_ | refine s_region ?_ | refine s_exit ?_ | refine x_hit ?_ | refine x_code ?_ | refine x_back ?_)
      refine e_op (o_make0 rfl rfl rfl rfl n rfl (by simp only; omega) (by omega) rfl (fun bR => ?_))
      repeat' (first | refine e_nil ?_ | ((refine e_op ?_); (refine o_n (peval_sound rfl) rfl ?_)) | refine s_seq ?_ | refine s_region ?_ | refine s_block ?_)
      refine s_loopK (ι := {z : Nat × Option Addr × Nat × Option Addr × Nat × List (Option Addr × Nat) // z.1 ≤ n ∧ z.2.2.2.2.2.length = (symK g cl ks z.1).length ∧ (symK g cl ks z.1).length ≤ 512}) [1, 2, 5, 6, 83, 84] rfl ⟨(0, some ⟨bR, 0, none⟩, n, some ⟨b6, 0, none⟩, cK, acs), by omega, hl, hI.n⟩ (fun z => [(85, .int .i64 z.1.1), (11, .slice z.1.2.1 z.1.1 z.1.2.2.1)])
        (fun z => [osl 3 1 (.slice z.1.2.1 z.1.1 z.1.2.2.1) z.1.1 ((rowN g cl ks z.1.1).map (Value.int .i64)), kerS (some ⟨bo, 0, none⟩) n n dcs (onI g cl n), kerB (dcs.drop z.1.1) ((onI g cl n).drop z.1.1), blk bm 108 [.slice z.1.2.2.2.1 (symK g cl ks z.1.1).length z.1.2.2.2.2.1, .slice AG gs.length cG, .map (some bp)], mapA encB bp (asG ((symK g cl ks z.1.1).map txtB)), kerS z.1.2.2.2.1 (symK g cl ks z.1.1).length z.1.2.2.2.2.1 z.1.2.2.2.2.2 (symK g cl ks z.1.1), kerB z.1.2.2.2.2.2 (symK g cl ks z.1.1), gotS AG gs.length cG bcs gs, gotB bcs gs, blk br 66 [.slice none 0 0, .slice none 0 0], blk bg 27 [.slice A0 g.Terms.length c0, .slice A1 g.Levels.length c1, .slice A2 g.Pats.length c2, .slice A3 g.Nons.length c3, .slice A4 g.Prods.length c4]])
        (fun z => n - z.1.1) ?_ ?_ ?_
      · repeat' (first | exact Sub.nil _ | refine Sub.cons rfl ?_)
      · exact Ent.tak .z (Ent.wk (Ent.refl _))
      rintro ⟨⟨s, AR, cR, AK', cK', acs'⟩, hsn, hal, hks⟩
      simp only at hsn hal hks ⊢
      repeat' (first | refine e_nil ?_ | ((refine e_op ?_); (refine o_n (peval_sound rfl) rfl ?_)) | refine s_seq ?_ | refine s_region ?_)
      refine s_cond rfl (fun h => ?_) (fun h => ?_)
      · have hs : s < n := by simpa using h
        have hsr : s < (onI g cl n).length := by rw [onI_len]; exact hs
        have hrs : (onI g cl n)[s] = goI g cl s := onI_get hsr
        have hKs : KsOk g (symK g cl ks s) := by rw [← hcl]; exact symK_ok o hK hki s
        have hgo : ∀ x ∈ goI g cl s, inG g x = true := fun x hx => by
          have hne : goI g (closedP g ks[i]) s ≠ [] := by rw [hcl]; intro e; rw [e] at hx; cases hx
          have := (goI_ok o hki hne).inG x
          rw [hcl] at this
          exact this hx
        have hgle : (goI g cl s).length ≤ 1664 := Nat.le_trans goI_le hclen
        have hsrt : sortI (goI g cl s) = goI g cl s := sortI_self (goI_sort hcs s)
        have hsy := symK_succ g cl ks s
        repeat' (first | refine s_seq ?_ | refine s_region ?_ | refine s_block ?_ | refine s_skip ?_)
        refine e_op (o_n (n_index rfl rfl rfl rfl s rfl hs) rfl ?_)
        refine e_op (o_n (n_load_osl rfl rfl (.s .z) (rowC_load hro hsr)) rfl ?_)
        have hd1 : dcs.drop s = (dcs[s]'(hro ▸ hsr)) :: dcs.drop (s + 1) := List.drop_eq_getElem_cons _
        have hd2 : (onI g cl n).drop s = (onI g cl n)[s] :: (onI g cl n).drop (s + 1) := List.drop_eq_getElem_cons _
        rw [hd1, hd2, hrs]
        refine e_weak (Sub.refl _) (Ent.trans (Ent.tak (.s (.s .z)) (Ent.refl _)) (ent_bhead (f := fun l : List Itm => l.flatMap encX))) ?_
        generalize dcs[s]'(hro ▸ hsr) = dc
        repeat' (first | refine e_nil ?_ | ((refine e_op ?_); (refine o_n (peval_sound rfl) rfl ?_)) | refine s_seq ?_ | refine s_region ?_)
        have how := order_w dc.1 dc.2 (goI g cl s) (by omega)
        rw [hsrt] at how
        refine e_op (o_call how rfl (.cons .z .nil) Can.tt rfl ?_)
        rintro v V ⟨Aq, cq, rfl, rfl⟩
        simp only [List.cons_append, List.nil_append]
        refine e_op (o_call (number_w bm bp (.slice AG gs.length cG) rfl AK' cK' acs' (symK g cl ks s) Aq cq (goI g cl s) hal (fun a ha => sm_of hL hp (hKs.ok a ha).inG) (sm_of hL hp hgo) (by omega) (by omega)) rfl (.cons (.s (.s (.s (.s .z)))) (.cons (.s (.s (.s (.s .z)))) (.cons .z (.cons (.s (.s (.s .z))) (.cons (.s (.s (.s .z))) .nil))))) Can.tt rfl ?_)
        rintro v V ⟨AK2, cK2, acs2, hal2, rfl, rfl⟩
        rw [← hsy] at hal2 ⊢
        simp only [List.cons_append, List.nil_append]
        refine e_op (o_lit (ps := [(0, .int .i64 (numK (symK g cl ks (s + 1)) (goI g cl s)))]) (cs := [.int .i64 (numK (symK g cl ks (s + 1)) (goI g cl s))]) rfl rfl rfl rfl rfl rfl rfl (fun bl => ?_))
        refine e_op (o_append (v := .slice AR s cR) (n := s) (m := 1) (xs := (rowN g cl ks s).map (Value.int .i64)) (news := [.int .i64 (numK (symK g cl ks (s + 1)) (goI g cl s))]) _ rfl rfl rfl rfl (fun w hm q u hu => ?_) rfl ?_ rfl (by omega) (by simp only; omega) (by omega) rfl (fun b c => (.s (.s (.s (.s (.s (.s .z))))))) (fun ba ca => ?_))
        · obtain ⟨S1, hP, _⟩ := hm.tak .z
          rw [Nat.zero_add]
          exact osl_cells hP q u hu
        · simp [oneB]
        have hrw : (rowN g cl ks s).map (Value.int .i64) ++ [.int .i64 (numK (symK g cl ks (s + 1)) (goI g cl s))] = (rowN g cl ks (s + 1)).map (Value.int .i64) := by rw [rowN_succ, List.map_append]; rfl
        rw [hrw]
        repeat' (first | refine e_nil ?_ | ((refine e_op ?_); (first | refine o_n (peval_sound rfl) rfl ?_ | refine o_n (nl rfl rfl tc rfl) rfl ?_)) | refine s_seq ?_ | refine s_region ?_)
        refine s_cond rfl (fun h => ?_) (fun h => ?_)
        · have hov : 512 < (symK g cl ks (s + 1)).length := by have h := of_decide_eq_true h; omega
          have hnone := hI.over hlt (m := s + 1) (by omega) (by rw [hcl]; exact hov)
          have hce : lrE g = 5 := by unfold lrE; rw [if_neg (fun hn => hn he), hnone]
          obtain ⟨h1, h2⟩ := lr_bad (by rw [hce]; decide)
          rw [h1, h2, hce]
          repeat' (first | refine e_nil ?_ | ((refine e_op ?_); (first | refine o_n (peval_sound rfl) rfl ?_ | refine o_storeC rfl rfl rfl rfl tc uc rfl rfl rfl ?_)) | refine s_seq ?_ | refine s_region ?_)
          refine s_ret ⟨_, _, resc2 rfl rfl rfl (.s (.s (.s (.s (.s (.s (.s (.s (.s (.s .z)))))))))) (ld_all (n := 2) rfl rfl rfl rfl) rfl, ⟨_, rfl, none, 0, [], none, 0, [], rfl, rfl, rfl, rfl⟩, ent_lr0⟩
        · have hle2 : (symK g cl ks (s + 1)).length ≤ 512 := by have h := of_decide_eq_false h; omega
          repeat' (first | refine e_nil ?_ | ((refine e_op ?_); (refine o_n (peval_sound rfl) rfl ?_)) | refine s_region ?_ | refine s_end ?_ | refine s_skip ?_)
          refine s_back ⟨⟨(s + 1, some ⟨ba, 0, none⟩, ca, AK2, cK2, acs2), by simp only; omega, hal2, hle2⟩, by simp only; omega, ?_, ?_⟩
          · repeat' (first | exact Sub.nil _ | refine Sub.cons rfl ?_ | refine Sub.consE rfl ?_ ?_)
            exact inc (i := s) (by omega)
          · refine Ent.wk ?_
            exact Ent.tak (.s (.s (.s (.s (.s .z))))) (Ent.tak (.s (.s (.s (.s (.s .z))))) (Ent.tak (.s (.s (.s (.s .z)))) (Ent.refl _)))
      · have hsn2 : s = n := by simp at h; omega
        subst hsn2
        have hle2 := hks
        have hgn : gs.length ≤ 512 := by have := hI.n; omega
        repeat' (first | ((refine e_op ?_); (first | refine o_n (peval_sound rfl) rfl ?_ | refine o_n (nl rfl rfl tc rfl) rfl ?_)) | refine s_region ?_ | refine s_exit ?_ | refine x_hit ?_ | refine x_code ?_ | refine x_back ?_)
        refine e_op (o_lit (ps := [(0, .slice AR s cR)]) (cs := [.slice AR s cR]) rfl rfl rfl rfl rfl rfl rfl (fun bl => ?_))
        refine e_op (o_append (v := .slice AG gs.length cG) (n := gs.length) (m := 1) (xs := rowC bcs gs) (news := [.slice AR s cR]) _ rfl rfl rfl rfl (fun w hm q u hu => ?_) rfl ?_ rfl (by omega) (by simp only; omega) (by omega) rfl (fun b c => (.s (.s (.s (.s (.s (.s (.s (.s .z))))))))) (fun ba ca => ?_))
        · obtain ⟨S1, hP, _⟩ := hm.tak .z
          rw [Nat.zero_add]
          exact osl_cells hP q u hu
        · simp [oneB]
        repeat' (first | refine e_nil ?_ | ((refine e_op ?_); (first | refine o_n (peval_sound rfl) rfl ?_ | refine o_storeC rfl rfl rfl rfl tc uc rfl rfl rfl ?_)) | refine s_region ?_ | refine s_end ?_)
        have hnx := hI.next o hlt (by rw [hcl, ← hn]; exact hle2)
        have hrn := rows_next o hI hlt (by rw [hcl, ← hn]; exact hle2) hgs
        rw [hcl, ← hn] at hnx hrn
        refine s_back ⟨⟨⟨i + 1, AK', cK', acs', symK g cl ks s, some ⟨ba, 0, none⟩, ca, bcs ++ [(AR, cR)], gs ++ [rowN g cl ks s]⟩, ⟨hnx, hal, by simp [hb], by simp [hgl], hrn⟩⟩, ?_, ?_, ?_⟩
        · have := hnx.le; have := hI.n; simp only; omega
        · repeat' (first | exact Sub.nil _ | refine Sub.cons rfl ?_ | refine Sub.consE rfl ?_ ?_)
          exact inc (i := i) (by have := hI.n; omega)
        · simp only
          have eL : (gs ++ [rowN g cl ks s]).length = gs.length + 1 := by simp
          have hra : osl 3 1 (.slice AR s cR) s ((rowN g cl ks s).map (Value.int .i64)) = rowA (fun l : List Int => l.map (Value.int .i64)) 1 3 (AR, cR) (rowN g cl ks s) := by unfold rowA; simp only [rowN_len]
          have hrc : rowC (bcs ++ [(AR, cR)]) (gs ++ [rowN g cl ks s]) = rowC bcs gs ++ [.slice AR s cR] := by rw [Go.Proofs.YtcnpjhaedjncdaaGreatDoor.E.rowC_snoc (ac := (AR, cR)) (r := rowN g cl ks s) hb, rowN_len]
          unfold gotS
          rw [hra, hrc, eL]
          refine Ent.wk (Ent.tak (.s (.s (.s .z))) (Ent.tak (.s (.s (.s .z))) (Ent.tak (.s (.s (.s .z))) (Ent.tak (.s (.s (.s .z))) (Ent.tak (.s (.s (.s .z))) ?_)))))
          exact Ent.trans (Ent.cons (Ent.wk (Ent.wk (Ent.refl _)))) (ent_bsnoc (f := fun l : List Int => l.map (Value.int .i64)) hb)
  · have hfin := hI.fin (by simpa using h)
    have hce : lrE g = 0 := by unfold lrE; rw [if_neg (fun hn => hn he), hfin]
    have hkk : lrKs g = ks := by unfold lrKs; rw [if_pos hce, hfin]; rfl
    have hgg : lrGs g = gs := by
      unfold lrGs
      rw [hkk, hgs ks hfin, List.take_of_length_le (by simpa using h)]
    repeat' (first | refine e_nil ?_ | ((refine e_op ?_); (first | refine o_n (peval_sound rfl) rfl ?_ | refine o_n (nl rfl rfl tc rfl) rfl ?_ | refine o_storeC rfl rfl rfl rfl tc uc rfl rfl rfl ?_)) | refine s_seq ?_ | refine s_region ?_ | refine s_exit ?_ | refine x_hit ?_ | refine x_code ?_ | refine x_back ?_)
    refine s_ret ⟨.tuple #[.agg #[.slice AK ks.length cK, .slice AG gs.length cG], .int .i64 0], [kerS AK ks.length cK acs ks, kerB acs ks, gotS AG gs.length cG bcs gs, gotB bcs gs], resc2 rfl rfl rfl (.s (.s (.s (.s (.s (.s .z)))))) (ld_all (n := 2) rfl rfl rfl rfl) rfl, ⟨_, by rw [hce], ?_⟩, ?_⟩
    · rw [hkk, hgg]; exact ⟨AK, cK, acs, AG, cG, bcs, hl, hb, rfl, rfl⟩
    · exact Ent.wk (Ent.wk (Ent.cons (Ent.cons (Ent.cons (Ent.cons (Ent.nil _))))))

end Go.Proofs.YtcnpjhaedjncdaaGreatDoor

namespace Go.Proofs.YtcnpjhaedjncdaaGreatDoor
set_option linter.all false
open Go.Proofs.YtcnpjhaedjncdaaGreatDoor.E

def kLr : Kd (List (List Itm) × List (List Int)) := kpair (kslice 24 (kslice 16 kItm)) (kslice 24 (kslice 8 kint))

end Go.Proofs.YtcnpjhaedjncdaaGreatDoor

namespace Go.Proofs.YtcnpjhaedjncdaaGreatDoor
set_option linter.all false
open Go.Proofs.YtcnpjhaedjncdaaGreatDoor.E

theorem rowC_flat {α : Type} : ∀ (acs : List (Option Addr × Nat)) (rows : List (List α)), (List.zipWith (fun (ac : Option Addr × Nat) (r : List α) => [Value.slice ac.1 r.length ac.2]) acs rows).flatten = rowC acs rows
  | [], _ => rfl
  | _ :: _, [] => rfl
  | a :: acs, r :: rows => by
    rw [List.zipWith_cons_cons, List.flatten_cons, rowC_flat acs rows]; rfl

theorem els_rows {α β : Type} {f : List α → List Value} {sz : Nat} {ei eo : TypeId} {kd : Kd α} {bi : Nat} {A : Option Addr} {n c : Nat} {acs : List (Option Addr × Nat)} {rows : List (List α)} (hl : acs.length = rows.length) (hn : n = rows.length) {w : World} {S S1 S2 : BSet}
    (h1 : (osl eo 1 (.slice A n c) n (rowC acs rows)).P w S1) (i1 : ∀ b, S1 b → S b) (h2 : (bun (rowX f sz ei acs rows)).P w S2) (i2 : ∀ b, S2 b → S b)
    (hr : ∀ (i : Nat) (hi : i < rows.length) (S3 : BSet), (rowA f sz ei (acs[i]'(hl ▸ hi)) rows[i]).P w S3 → (kslice bi kd).R w S3 [.slice (acs[i]'(hl ▸ hi)).1 rows[i].length (acs[i]'(hl ▸ hi)).2] rows[i]) :
    Els (kslice bi kd) w S A rows ∧ rows.length ≤ c := by
  rw [← rowC_flat] at h1
  refine osl_elsG (kd := kslice bi kd) (ess := List.zipWith (fun (ac : Option Addr × Nat) (r : List α) => [Value.slice ac.1 r.length ac.2]) acs rows) h1 i1 (by simp [hl]) hn fun i g1 g2 => ?_
  rw [List.getElem_zipWith]
  obtain ⟨S3, h3, i3⟩ := star_mem (rowX_get (f := f) (sz := sz) (ei := ei) hl g2) h2
  exact (kslice bi kd).mono (fun b hb => i2 b (i3 b hb)) (hr i g2 S3 h3)

/-- Numbers that fit. -/
structure LrNum (ks : List (List Itm)) (gs : List (List Int)) : Prop where
  n : ks.length ≤ 100000
  m : gs.length ≤ 100000
  k : ∀ k ∈ ks, k.length ≤ 100000
  x : ∀ k ∈ ks, ∀ x ∈ k, I64 x.Prod ∧ I64 x.Dot
  r : ∀ r ∈ gs, r.length ≤ 100000
  z : ∀ r ∈ gs, ∀ z ∈ r, I64 z

theorem can_to {R : Rd} {A : Asn} (P : Program) (h : ∀ E : Go.Proofs.YtcnpjhaedjncdaaGreatDoor.E.Env, Go.Proofs.YtcnpjhaedjncdaaGreatDoor.E.Can E [A] R) {w : World} {S : BSet} (hA : A.P w S) : R.P w S :=
  R.mono w _ _ (fun b hb => hb.elim (fun h => absurd trivial h.2) id) (h ⟨P, [], (fun _ h => nomatch h), 0, w, fun _ => True⟩ w S (fun _ _ => rfl) ⟨S, fun _ => False, hA, trivial, fun _ _ h => h, fun _ h => h, fun _ h => h.elim⟩)

theorem lr_rd {AK AG : Option Addr} {cK cG : Nat} {acs bcs : List (Option Addr × Nat)} {ks : List (List Itm)} {gs : List (List Int)} (hl : acs.length = ks.length) (hb : bcs.length = gs.length) (hN : LrNum ks gs) {w : World} {S : BSet} {U : List Asn}
    (h : star ([kerS AK ks.length cK acs ks, kerB acs ks, gotS AG gs.length cG bcs gs, gotB bcs gs] ++ U) w S) : kLr.R w S [.slice AK ks.length cK, .slice AG gs.length cG] (ks, gs) := by
  obtain ⟨_, h0, i0⟩ := star_mem (i := 0) rfl h
  obtain ⟨_, h1, i1⟩ := star_mem (i := 1) rfl h
  obtain ⟨_, h2, i2⟩ := star_mem (i := 2) rfl h
  obtain ⟨_, h3, i3⟩ := star_mem (i := 3) rfl h
  have e1 := els_rows (β := Unit) (kd := kItm) (bi := 16) hl rfl h0 i0 h1 i1 (fun i hi S3 h3 => can_to (R := (kslice 16 kItm).rd _ _) Tryz.prog (fun E => can_items .z (hN.x _ (List.getElem_mem hi)) (hN.k _ (List.getElem_mem hi))) h3)
  have e2 := els_rows (β := Unit) (kd := kint) (bi := 8) hb rfl h2 i2 h3 i3 (fun i hi S3 h3 => can_to (R := (kslice 8 kint).rd _ _) Tryz.prog (fun E => can_ints .z (hN.z _ (List.getElem_mem hi)) (by have := hN.r _ (List.getElem_mem hi); omega)) h3)
  have := hN.n; have := hN.m
  exact ⟨[_], [_], rfl, ⟨AK, cK, rfl, e1.2, by simp only; omega, e1.1⟩, ⟨AG, cG, rfl, e2.2, by simp only; omega, e2.1⟩⟩

theorem can_lr {E0 : Go.Proofs.YtcnpjhaedjncdaaGreatDoor.E.Env} {U V : List Asn} {AK AG : Option Addr} {cK cG : Nat} {acs bcs : List (Option Addr × Nat)} {ks : List (List Itm)} {gs : List (List Int)} (hl : acs.length = ks.length) (hb : bcs.length = gs.length) (hN : LrNum ks gs)
    (he : Ent V ([kerS AK ks.length cK acs ks, kerB acs ks, gotS AG gs.length cG bcs gs, gotB bcs gs] ++ U)) : Go.Proofs.YtcnpjhaedjncdaaGreatDoor.E.Can E0 V (kLr.rd [.slice AK ks.length cK, .slice AG gs.length cG] (ks, gs)) :=
  Can.of fun w S hs => lr_rd hl hb hN (he w S hs)

theorem ix_le {κ : Type} [DecidableEq κ] : ∀ (u : List κ) (k : κ), ix u k ≤ u.length
  | [], _ => Nat.le_refl _
  | x :: u, k => by
    have ih := ix_le u k
    by_cases h : x = k
    · show (if x = k then 0 else ix u k + 1) ≤ _; rw [if_pos h]; exact Nat.zero_le _
    · rw [ix_cons h, List.length_cons]; omega

theorem lrF_ok {g : Gram} (o : GOk g) : ∀ (f i : Nat) (ks fin : List (List Itm)), KsOk g ks → ks.length ≤ 512 → lrF g f i ks = some fin → KsOk g fin ∧ fin.length ≤ 512
  | 0, _, _, _, _, _, h => by cases h
  | f + 1, i, ks, fin, hk, hn, h => by
    unfold lrF at h
    cases hki : ks[i]? with
    | none => rw [hki] at h; simp only [Option.some.injEq] at h; subst h; exact ⟨hk, hn⟩
    | some k =>
      rw [hki] at h
      simp only at h
      split at h
      · cases h
      · refine lrF_ok o f (i + 1) _ fin (symK_ok o hk (hk.ok k (List.mem_of_getElem? hki)) _) (by omega) h

theorem lr_fin {g : Gram} (h : lrE g = 0) : checkE g = 0 ∧ lrK g = some (lrKs g) ∧ KsOk g (lrKs g) ∧ (lrKs g).length ≤ 512 := by
  have hc : checkE g = 0 := by
    by_cases hc : checkE g = 0
    · exact hc
    · unfold lrE at h; rw [if_pos hc] at h; exact h
  obtain ⟨hlm, hwf⟩ := checkE_ok hc
  have hk : lrK g = some (lrKs g) := by
    unfold lrKs
    rw [if_pos h]
    unfold lrE at h
    rw [if_neg (fun hn => hn hc)] at h
    cases e : lrK g with
    | none => rw [e] at h; cases h
    | some ks => rfl
  have := lrF_ok (GOk.of hwf) _ _ _ _ (beg_ok (GOk.of hwf)) (by simp) hk
  exact ⟨hc, hk, this.1, this.2⟩

theorem lr_num (g : Gram) : LrNum (lrKs g) (lrGs g) := by
  by_cases h : lrE g = 0
  · obtain ⟨hc, hk, hK, hn⟩ := lr_fin h
    obtain ⟨hlm, hwf⟩ := checkE_ok hc
    have hL := lims hlm
    have hT := hL.t; have hN := hL.n
    refine ⟨by omega, ?_, fun k hk => ?_, fun k hk x hx => ?_, fun r hr => ?_, fun r hr z hz => ?_⟩
    · unfold lrGs; rw [List.length_map]; omega
    · have := sort_len hL (hK.ok k hk).sort (hK.ok k hk).inG; omega
    · have := inG_dot hL ((hK.ok k hk).inG x hx); exact ⟨⟨by omega, by omega⟩, ⟨by omega, by omega⟩⟩
    · unfold lrGs at hr
      obtain ⟨k, _, rfl⟩ := List.mem_map.1 hr
      unfold gotoR
      rw [List.length_map, List.length_range]; omega
    · unfold lrGs at hr
      obtain ⟨k, _, rfl⟩ := List.mem_map.1 hr
      unfold gotoR at hz
      obtain ⟨s, _, rfl⟩ := List.mem_map.1 hz
      unfold numK
      split
      · unfold I64; omega
      · have : ix (lrKs g) (goI g (closedP g k) s) ≤ (lrKs g).length := ix_le _ _
        unfold I64; omega
  · obtain ⟨h1, h2⟩ := lr_bad h
    rw [h1, h2]
    exact ⟨by simp, by simp, (fun _ h => nomatch h), (fun _ h => nomatch h), (fun _ h => nomatch h), (fun _ h => nomatch h)⟩

end Go.Proofs.YtcnpjhaedjncdaaGreatDoor

namespace Go.Proofs.YtcnpjhaedjncdaaGreatDoor
set_option linter.all false
open Go.Proofs.YtcnpjhaedjncdaaGreatDoor.E

end Go.Proofs.YtcnpjhaedjncdaaGreatDoor

namespace Go.Proofs.YtcnpjhaedjncdaaGreatDoor.E
set_option linter.all false
variable {E : Env} {fr : Frm} {U : List Asn} {N : Frm → List Asn → Prop}

/-! ### keys that are structs -/
theorem mkey_struct {κ : Type} [DecidableEq κ] {P : Program} {kt : TypeId} {enc : κ → Value} {fs : Array Field} (hu : P.underlying kt = some (.struct fs))
    (heq : ∀ (w : World) (a b : κ), (Op.equal kt (enc a) (enc b)).run P w = .ok (decide (a = b)) w)
    (hck : ∀ (w : World) (e : Bool) (k : κ), (Instr.checkKey e 10000 kt (enc k)).run P w = .ok () w)
    (hst : ∀ (w : World) (k : κ), (Instr.keyThatStays (enc k) (enc k)).run P w = .ok (enc k) w) : MKey P kt enc where
  check := hck
  stays := hst
  find := fun w k es l h => by
    have hf : ∀ (es : List MapEntry) (l : List (κ × Value)) (i : Nat), es.map (fun e => (e.key, e.val)) = l.map (fun p => (enc p.1, p.2)) → (Instr.findAsking kt (enc k) es i).run P w = .ok (findK k l i) w := by
      intro es
      induction es with
      | nil =>
        intro l i h
        cases l with
        | nil => rfl
        | cons p l => simp at h
      | cons e es ih =>
        intro l i h
        cases l with
        | nil => simp at h
        | cons p l =>
          simp only [List.map_cons, List.cons.injEq, Prod.mk.injEq] at h
          obtain ⟨⟨h1, h2⟩, h3⟩ := h
          unfold Instr.findAsking findK
          rw [h1]
          simp only [Sem.run_bind, heq, Result.andThen_ok]
          by_cases hk : p.1 = k
          · rw [if_pos hk]; simp [hk, h2]
          · rw [if_neg hk]
            have : decide (k = p.1) = false := by simp; exact fun e => hk e.symm
            rw [this]
            exact ih l (i + 1) h3
    have h0 : Instr.findNow (.struct fs) (enc k) es 0 = none ∨ es = [] := by
      cases es with
      | nil => exact .inr rfl
      | cons e es => left; unfold Instr.findNow; rfl
    rcases h0 with h0 | h0
    · simp [Instr.findKey, run_underlying hu, Result.andThen, h0, hf es l 0 h]
    · subst h0
      cases l with
      | nil => simp [Instr.findKey, run_underlying hu, Result.andThen, Instr.findNow, findK]
      | cons p l => simp at h

/-! ### arrays of truth values -/
abbrev cB (bs : List Bool) : List Value := bs.map Value.bool

theorem cB_len (bs : List Bool) : (cB bs).length = bs.length := List.length_map ..

section bits
variable {t e : TypeId} {x y : Operand} {i : TI} {b o n : Nat} {T : TypeId} {bs : List Bool} {U' : List Asn}

theorem n_loadA (hx : val fr x = some (.pointer (some ⟨b, 0, none⟩))) (ht : tl E.T t = some i) (hU : Tak (blk b T (cB bs)) U U') (ha : aggB i.d = true) (hs : bs.length = i.size) : NEV E (.load t x) fr U (.agg (cB bs).toArray) := by
  refine n_load hx ht hU ?_
  exact ld_all (n := i.size) (by rw [cB_len, hs]) ha rfl rfl

theorem n_loadB (hx : val fr x = some (.pointer (some ⟨b, o, none⟩))) (ht : tl E.T t = some i) (hU : Tak (blk b T (cB bs)) U U') (ha : aggB i.d = false) (j : Nat) (hj : j < bs.length) (ho : o = j) : NEV E (.load t x) fr U (.bool bs[j]) := by
  subst ho
  refine n_load hx ht hU ?_
  unfold loadL
  rw [ha, cond_false, List.getElem?_map, List.getElem?_eq_getElem hj]; rfl

theorem n_idxB {ix : Operand} {k : IntKind} {q : Int} {len s1 b1 : Nat} {z1 : List Value} (hx : val fr x = some (.agg (cB bs).toArray)) (hi : val fr ix = some (.int k q)) (ht : tl E.T t = some ⟨.arr len e, s1, b1, z1⟩) (he : tl E.T e = some i) (ha : aggB i.d = false) (hs : Nat.beq i.size 1 = true)
    (hl : len ≤ bs.length) (j : Nat) (hj : q = (j : Int)) (hlt : j < len) : NEV E (.index t x ix) fr U (.bool (bs[j]'(by omega))) := by
  subst hj
  intro a w dst ty pos af g hf _
  obtain ⟨inf, v0, hinf, _, hsz, _, _⟩ := ti_info (d := i.d) (s := i.size) (b := i.bytes) (z := i.zero) he
  have h1 : ((0 : Int) ≤ (j : Int) ∧ (j : Int) < (len : Int)) := by omega
  have hs2 := Nat.eq_of_beq_eq_true hs
  have hsz2 : (sizeOf e).run E.P w = .ok 1 w := by rw [run_size hinf, hsz, hs2]
  have hjl : j < bs.length := by omega
  have hc : (cB bs).toArray[j]? = some (.bool bs[j]) := by rw [List.getElem?_toArray, List.getElem?_map, List.getElem?_eq_getElem hjl]; rfl
  have hag := run_isAgg (E := E) he w
  rw [ha] at hag
  simp only [execOp, hf.eval hx, hf.eval hi, Instr.index, asIntOf, Sem.run_bind, Sem.run_pure, Result.andThen_ok, run_under (u_arr ht), h1, and_self, if_true, hsz2, Int.toNat_natCast, Nat.mul_one, part, hag, Bool.false_eq_true, if_false, hc]

theorem o_storeB {ty : TypeId} {pos : String} {af : Array Edge} {g : Option (Nat × Bool)} {v : Bool} (hx : val fr x = some (.pointer (some ⟨b, o, none⟩))) (hy : val fr y = some (.bool v)) (ht : tl E.T t = some i) (hs : Nat.beq i.size 1 = true)
    (j : Nat) (hj : j < bs.length) (ho : o = j) (hU : Upd (blk b T (cB bs)) (blk b T (cB (bs.set j v))) U U') (h : N fr U') : EV1 E ⟨none, .store t x y, ty, pos, af, g⟩ fr U N := by
  subst ho
  have e : setMany (cB bs) o [.bool v] = cB (bs.set o v) := by simp only [setMany]; show _ = (bs.set o v).map Value.bool; rw [List.map_set]
  rw [← e] at hU
  refine o_store hx hy ht rfl ?_ rfl ?_ hU h
  · rw [Nat.eq_of_beq_eq_true hs]; rfl
  · rw [Nat.eq_of_beq_eq_true hs, cB_len, Nat.ble_eq]; omega

theorem o_storeA {ty : TypeId} {pos : String} {af : Array Edge} {g : Option (Nat × Bool)} {cs : List Bool} (hx : val fr x = some (.pointer (some ⟨b, 0, none⟩))) (hy : val fr y = some (.agg (cB cs).toArray)) (ht : tl E.T t = some i) (hs : cs.length = i.size) (hl : bs.length = i.size)
    (hU : Upd (blk b T (cB bs)) (blk b T (cB cs)) U U') (h : N fr U') : EV1 E ⟨none, .store t x y, ty, pos, af, g⟩ fr U N := by
  have e : setMany (cB bs) 0 (cB cs) = cB cs := setMany_all _ _ (by rw [cB_len, cB_len, hs, hl])
  rw [← e] at hU
  refine o_store hx hy ht rfl ?_ ?_ ?_ hU h
  · simp only [Value.cells]; rw [cB_len, hs]; exact Nat.beq_refl _
  · simp only [Value.cells]
    rw [List.all_eq_true]
    intro u hu
    obtain ⟨q, _, rfl⟩ := List.mem_map.1 hu
    rfl
  · rw [cB_len, hl, Nat.zero_add, Nat.ble_eq]; exact Nat.le_refl _

/-- A slice of an array: all of it, or its first terms. -/
theorem n_arrAll {len s1 b1 : Nat} {z1 : List Value} (hx : val fr x = some (.pointer (some ⟨b, 0, none⟩))) (ht : tl E.T t = some ⟨.arr len e, s1, b1, z1⟩) (he : tl E.T e = some i) : NEV E (.slice t x none none none) fr U (.slice (some ⟨b, 0, none⟩) len len) := by
  intro a w dst ty pos af g hf _
  obtain ⟨inf, v0, hinf, _, hsz, _, _⟩ := ti_info (d := i.d) (s := i.size) (b := i.bytes) (z := i.zero) he
  have hu := u_arr ht
  have hr : (Instr.sliceAt t (.pointer (some ⟨b, 0, none⟩)) none none none).run E.P w = .ok (.slice (some ⟨b, 0, none⟩) len len) w := by
    simp [Instr.sliceAt, Instr.sureAddr, slicedAt, run_under hu, Instr.sliceBounds, run_sliceBound, sliced, run_size hinf, Addr.add, Result.andThen]
  simp [execOp, hf.eval hx, hr, Result.andThen]

theorem n_arrTo {len s1 b1 : Nat} {z1 : List Value} {h : Operand} {k : IntKind} {q : Int} (hx : val fr x = some (.pointer (some ⟨b, 0, none⟩))) (hh : val fr h = some (.int k q)) (ht : tl E.T t = some ⟨.arr len e, s1, b1, z1⟩) (he : tl E.T e = some i) (m : Nat) (hq : q = (m : Int)) (hm : m ≤ len) :
    NEV E (.slice t x none (some h) none) fr U (.slice (some ⟨b, 0, none⟩) m len) := by
  subst hq
  intro a w dst ty pos af g hf _
  obtain ⟨inf, v0, hinf, _, hsz, _, _⟩ := ti_info (d := i.d) (s := i.size) (b := i.bytes) (z := i.zero) he
  have hu := u_arr ht
  have h2 : ¬ ((m : Int) > (len : Int)) := by omega
  have h3 : (m : Int) ≤ (len : Int) := by omega
  have hr : (Instr.sliceAt t (.pointer (some ⟨b, 0, none⟩)) none (some (.int k (m : Int))) none).run E.P w = .ok (.slice (some ⟨b, 0, none⟩) m len) w := by
    simp [Instr.sliceAt, Instr.sureAddr, slicedAt, run_under hu, Instr.sliceBounds, run_sliceBound, sliced, run_size hinf, Addr.add, Result.andThen, hm]
  simp [execOp, hf.eval hx, hf.eval hh, hr, Result.andThen]

/-- An array, read as a slice. -/
theorem can_bits {kd : Kd Bool} (hsz : kd.sz = 1) (henc : ∀ w S x, kd.R w S [.bool x] x) {m c bytes : Nat} (ht : Tak (blk b T (cB bs)) U U') (hm : m ≤ bs.length) (hc : m ≤ c) (hb : m * bytes ≤ 140737488355328) : Can E U ((kslice bytes kd).rd [.slice (some ⟨b, 0, none⟩) m c] (bs.take m)) :=
  Can.of fun w S hs => by
    obtain ⟨S1, ⟨h1, h2⟩, hsub⟩ := ht.mem hs
    have hlen : (bs.take m).length = m := by rw [List.length_take]; omega
    refine ⟨some ⟨b, 0, none⟩, c, by rw [hlen], by omega, by rw [hlen]; exact hb, fun i hi => ?_⟩
    rw [hlen] at hi
    refine ⟨b, 0, [.bool (bs.take m)[i]], rfl, hsub b h1, henc _ _ _, fun j u hu => ?_⟩
    cases j with
    | succ j => simp at hu
    | zero =>
      simp only [List.getElem?_cons_zero, Option.some.injEq] at hu
      subst hu
      rw [hsz, Nat.mul_one, Nat.zero_add, Nat.add_zero, List.getElem_take]
      rw [cell_of_row w b i _ _ _ h2, List.getElem?_toArray, List.getElem?_map, List.getElem?_eq_getElem (by omega)]; rfl
end bits

end Go.Proofs.YtcnpjhaedjncdaaGreatDoor.E

namespace Go.Proofs.YtcnpjhaedjncdaaGreatDoor.E
set_option linter.all false
variable {E : Env} {fr : Frm} {U : List Asn} {N : Frm → List Asn → Prop}


theorem NEV.weak {op : Op} {V : List Asn} {v : Value} (he : Ent U V) (h : NEV E op fr V v) : NEV E op fr U v :=
  fun a w dst ty pos af g hf hm => h a w dst ty pos af g hf (hm.ent he)

/-- A label: nothing is done. -/
theorem s_label {K : Frm → List Asn → Prop} {k : List It} {l : Nat} (h : EVS E K k fr U) : EVS E K (.code (.label l) :: k) fr U :=
  fun _ _ hf hm => wp_label ⟨fr, U, h, hf, hm⟩

/-- A scope of labels, without a jump. -/
theorem s_scope {K : Frm → List Asn → Prop} {k : List It} {c : Code} (h : EVS E K (.code c :: k) fr U) : EVS E K (.code (.scope c) :: k) fr U := by
  intro a w hf hm
  refine wp_scope_straight (wp_mono (h a w hf hm) ?_)
  rintro e a' w' ⟨fr', U', he, hf', hm'⟩
  cases e with
  | normal => exact ⟨fr', U', he, hf', hm'⟩
  | exit id => exact ⟨fr', U', he, hf', hm'⟩
  | goto l => exact (show False by cases k with | nil => exact he | cons x k => cases x <;> exact he).elim
  | ret => exact ⟨fr', U', by rw [EVX_ret] at he ⊢; exact he, hf', hm'⟩
  | panic c => exact (show False by cases k with | nil => exact he | cons x k => cases x <;> exact he).elim
  | outgrown => exact (show False by cases k with | nil => exact he | cons x k => cases x <;> exact he).elim

/-! ### arrays that are built -/
theorem n_buildA0 {t e : TypeId} {len s1 b1 : Nat} {z1 : List Value} {i : TI} (ht : tl E.T t = some ⟨.arr len e, s1, b1, z1⟩) (he : tl E.T e = some i) : NEV E (.build t #[]) fr U (.agg z1.toArray) := by
  intro a w dst ty pos af g hf _
  obtain ⟨inf0, zv, hi0, hz, _, _, hzc⟩ := ti_info ht
  obtain ⟨inf, v0, hinf, _, hsz, _, _⟩ := ti_info (d := i.d) (s := i.size) (b := i.bytes) (z := i.zero) he
  have e1 : zv.cells = z1.toArray := by rw [← hzc]
  simp [execOp, Instr.build, run_zero hi0 hz, run_under (u_arr ht), run_size hinf, Instr.fill, e1, Result.andThen]

theorem n_buildA1 {t e : TypeId} {len s1 b1 : Nat} {z1 : List Value} {i : TI} {x : Operand} {v : Value} (ht : tl E.T t = some ⟨.arr len e, s1, b1, z1⟩) (he : tl E.T e = some i) (hx : val fr x = some v) (hv : v.cells = #[v]) (hs : Nat.beq i.size 1 = true) (hl : Nat.ble 1 z1.length = true) :
    NEV E (.build t #[(0, x)]) fr U (.agg (z1.set 0 v).toArray) := by
  intro a w dst ty pos af g hf _
  obtain ⟨inf0, zv, hi0, hz, _, _, hzc⟩ := ti_info ht
  obtain ⟨inf, v0, hinf, _, hsz, _, _⟩ := ti_info (d := i.d) (s := i.size) (b := i.bytes) (z := i.zero) he
  have hs2 := Nat.eq_of_beq_eq_true hs
  have hl2 := Nat.le_of_ble_eq_true hl
  have e1 : zv.cells = z1.toArray := by rw [← hzc]
  have h2 : ¬ (1 > z1.length) := by omega
  have h3 : z1 ≠ [] := by intro h; subst h; simp at hl2
  simp [execOp, hf.eval hx, Instr.build, run_zero hi0 hz, run_under (u_arr ht), run_size hinf, hsz, hs2, Instr.fill, e1, hv, Result.andThen, h2, h3, Array.zipIdx]

/-! ### a pointer that may be none -/
theorem n_eqlP {t t2 e : TypeId} {x y : Operand} {A : Option Addr} (hu : E.P.underlying t = some (.pointer e)) (hq : E.P.eqGuardType E.P.depth t = false) (hx : val fr x = some (.pointer A)) (hy : val fr y = some (.pointer none)) :
    NEV E (.binOp .eql t x y t2) fr U (.bool A.isNone) := by
  intro a w dst ty pos af g hf _
  have he : (Op.equal t (.pointer A) (.pointer none)).run E.P w = .ok A.isNone w := by
    unfold Op.equal Op.maxDepth Op.equalIn
    cases A <;> simp [run_underlying hu, Result.andThen]
  simp [execOp, hf.eval hx, hf.eval hy, eqGuard, hq, binOp, he]

theorem n_neqP {t t2 e : TypeId} {x y : Operand} {A : Option Addr} (hu : E.P.underlying t = some (.pointer e)) (hq : E.P.eqGuardType E.P.depth t = false) (hx : val fr x = some (.pointer A)) (hy : val fr y = some (.pointer none)) :
    NEV E (.binOp .neq t x y t2) fr U (.bool (!A.isNone)) := by
  intro a w dst ty pos af g hf _
  have he : (Op.equal t (.pointer A) (.pointer none)).run E.P w = .ok A.isNone w := by
    unfold Op.equal Op.maxDepth Op.equalIn
    cases A <;> simp [run_underlying hu, Result.andThen]
  simp [execOp, hf.eval hx, hf.eval hy, eqGuard, hq, binOp, he]

/-! ### copying into an array -/
theorem o_copyB {d : Nat} {t t' e : TypeId} {x y : Operand} {ty : TypeId} {pos : String} {af : Array Edge} {g : Option (Nat × Bool)} {s1 b1 : Nat} {z1 : List Value} {i : TI} {b bu m c len c2 : Nat} {T e2 : TypeId} {bs src : List Bool} {W U' : List Asn}
    (ht : tl E.T t = some ⟨.slice e, s1, b1, z1⟩) (he : tl E.T e = some i) (hs : Nat.beq i.size 1 = true) (hx : val fr x = some (.slice (some ⟨b, 0, none⟩) len c2)) (hy : val fr y = some (.slice (some ⟨bu, 0, none⟩) m c))
    (hsr : Tak (osl e2 1 (.slice (some ⟨bu, 0, none⟩) m c) m (cB src)) U W) (hlen : bs.length = len) (hm : m ≤ len) (hd : Nat.ble (d + 1) E.n = true)
    (hU : Upd (blk b T (cB bs)) (blk b T (cB (src ++ bs.drop m))) U U') (h : N ((d, .int .i64 m) :: fr) U') : EV1 E ⟨some d, .call ⟨.builtin .copy, #[x, y], #[t, t']⟩, ty, pos, af, g⟩ fr U N := by
  intro a w hf hmm
  obtain ⟨S2, hP2, _⟩ := hmm.tak hsr
  obtain ⟨S1, ⟨hS, hb⟩, hlt, hk⟩ := hmm.upd hU
  obtain ⟨inf, v0, hinf, _, hsz, _, _⟩ := ti_info (d := i.d) (s := i.size) (b := i.bytes) (z := i.zero) he
  have hsrc : src.length = m := by have := hP2.1.1; rw [cB_len] at this; omega
  have hblt : b < w.heap.size := hlt b hS
  have hrun := run_copy_row (P := E.P) w t t' ty e b 0 len c2 ⟨bu, 0, none⟩ m c (cB bs).toArray T (cB src) (u_slice ht) (by rw [hinf]; simp [hsz, Nat.eq_of_beq_eq_true hs]) hb
    (by rw [cB_len, hsrc]; exact (Nat.min_eq_left hm).symm)
    (fun j v hj => by have h1 := osl_cells hP2 j v hj; have h2 : (⟨bu, 0, none⟩ : Addr).add j = ⟨bu, j, none⟩ := (by unfold Addr.add; split <;> simp_all); rw [h2]; exact h1)
    (by rw [cB_len, List.size_toArray, cB_len]; omega)
    (fun v hv => by obtain ⟨q, _, rfl⟩ := List.mem_map.1 hv; rfl)
  have e1 : (((cB bs).toArray.toList.take 0 ++ cB src ++ (cB bs).toArray.toList.drop (0 + (cB src).length)).toArray : Array Value) = (cB (src ++ bs.drop m)).toArray := by
    rw [List.take_zero, List.nil_append, Nat.zero_add, cB_len, hsrc]
    show _ = ((src ++ bs.drop m).map Value.bool).toArray
    rw [List.map_append, List.map_drop]
  rw [e1, cB_len, hsrc] at hrun
  unfold Oper.wp execOp
  simp only [resolve, invoke, builtin, List.map_toArray, List.map_cons, List.map_nil, hf.eval hx, hf.eval hy, Sem.run_bind, hrun, Result.andThen_ok, Sem.run_pure]
  have hset : ∀ q : Nat, q ≠ b → (w.setRow b (cB (src ++ bs.drop m)).toArray).heap[q]? = w.heap[q]? := fun q hq => setRow_other w b q _ hq
  refine ⟨_, _, h, hf.put (Nat.le_of_ble_eq_true hd) _, hk _ S1 ⟨rfl, rfl, rfl, by simp, fun q hq hn => hset q (fun e => hn (e ▸ hS))⟩ ⟨hS, setRow_heap w b _ _ T _ hb⟩ (fun q hq => ⟨by simpa using hlt q hq, .inl hq⟩)⟩

/-! ### stamped entries -/
section maps
variable {κ : Type} [DecidableEq κ]

/-- A map of one's own, with its entries' stamps. -/
def mapS (enc : κ → Value) (b : Nat) (l : List (κ × Value)) (st : List Nat) (ck : Nat) : Asn where
  P := fun w S => S b ∧ (∃ es : Array MapEntry, w.heap[b]? = some (.map es ck) ∧ es.toList.map (fun e => (e.key, e.val)) = l.map (fun p => (enc p.1, p.2)) ∧ es.toList.map (·.born) = st) ∧ st.Nodup ∧ ∀ s ∈ st, s < ck
  fr := fun _ _ _ h ⟨h1, ⟨es, h2, h3, h4⟩, h5⟩ => ⟨h1, ⟨es, (h b h1).trans h2, h3, h4⟩, h5⟩

theorem ent_mapS {enc : κ → Value} {b : Nat} {l : List (κ × Value)} {st : List Nat} {ck : Nat} {V : List Asn} : Ent (mapS enc b l st ck :: V) (mapA enc b l :: V) := fun w S ⟨S1, S2, h1, h2, h3⟩ => by
  obtain ⟨a, ⟨es, hb, hk, _⟩, _⟩ := h1
  exact ⟨S1, S2, ⟨a, es, ck, hb, hk⟩, h2, h3⟩

theorem o_newMapS {d : Nat} {t : TypeId} {ty : TypeId} {pos : String} {af : Array Edge} {g : Option (Nat × Bool)} (enc : κ → Value) (hd : Nat.ble (d + 1) E.n = true)
    (h : ∀ b, N ((d, .map (some b)) :: fr) (mapS enc b ([] : List (κ × Value)) [] 0 :: U)) : EV1 E ⟨some d, .makeMap t none, ty, pos, af, g⟩ fr U N := by
  intro a w hf hm
  unfold Oper.wp execOp
  simp only [Instr.makeMap, newObj]
  refine ⟨_, _, h w.heap.size, hf.put (Nat.le_of_ble_eq_true hd) _, hm.new (T1 := fun k => k = w.heap.size) (step_alloc w (.map #[] 0)) ⟨rfl, ⟨#[], heap_alloc_new w _, rfl, rfl⟩, List.nodup_nil, fun s hs => by cases hs⟩ ?_⟩
  rintro b rfl
  exact ⟨by simp, Nat.le_refl _⟩

theorem findK_none {l : List (κ × Value)} {k : κ} (h : lookK l k = none) : ∀ i, findK k l i = none := by
  induction l with
  | nil => intro i; rfl
  | cons p l ih =>
    intro i
    unfold findK
    by_cases hk : p.1 = k
    · unfold lookK at h; rw [List.find?_cons_of_pos (by simpa using hk)] at h; cases h
    · rw [if_neg hk]
      refine ih ?_ (i + 1)
      unfold lookK at h ⊢
      rwa [List.find?_cons_of_neg (by simpa using hk)] at h

/-- A new entry of a map, its value still nothing. -/
theorem o_mapEntry {P : Program} {d : Nat} {t kt e : TypeId} {s1 b1 : Nat} {z1 : List Value} {x y : Operand} {z : Value} {ty : TypeId} {pos : String} {af : Array Edge} {g : Option (Nat × Bool)} {b : Nat} {k : κ} {enc : κ → Value} {l : List (κ × Value)} {st : List Nat} {ck : Nat} {U' : List Asn} (hP : E.P = P) (K : MKey P kt enc)
    (hz : ∀ w, (zeroValue e).run P w = .ok z w) (ht : tl E.T t = some ⟨.map kt e, s1, b1, z1⟩) (hx : val fr x = some (.map (some b))) (hy : val fr y = some (enc k)) (hk0 : lookK l k = none) (hd : Nat.ble (d + 1) E.n = true)
    (hU : Upd (mapS enc b l st ck) (mapS enc b (l ++ [(k, z)]) (st ++ [ck]) (ck + 1)) U U') (h : N ((d, .tuple #[z, .int .i64 ck]) :: fr) U') :
    EV1 E ⟨some d, .mapEntry t x y, ty, pos, af, g⟩ fr U N := by
  subst hP
  intro a w hf hm
  obtain ⟨S1, ⟨hS, ⟨es, hb, hes, hst⟩, hnd, hck⟩, hlt, hk⟩ := hm.upd hU
  have hf2 := K.find w k es.toList l hes
  rw [findK_none hk0] at hf2
  have hblt : b < w.heap.size := hlt b hS
  have hrun : (Instr.mapEntry t (.map (some b)) (enc k)).run E.P w = .ok (.tuple #[z, .int .i64 ck]) { w with heap := w.heap.setIfInBounds b (.map (es.push { key := enc k, val := z, born := ck }) (ck + 1)) } := by
    simp [Instr.mapEntry, run_under (u_map ht), MapKept.run_getObj_map hb, K.check, hf2, hz, MapKept.run_setObj_map _ hb, Result.andThen, goInt]
  unfold Oper.wp execOp
  simp only [hf.eval hx, hf.eval hy, Sem.run_bind, hrun, Result.andThen_ok, Sem.run_pure]
  have hset : ∀ q : Nat, q ≠ b → ({ w with heap := w.heap.setIfInBounds b (.map (es.push { key := enc k, val := z, born := ck }) (ck + 1)) } : World).heap[q]? = w.heap[q]? := fun q hq => by
    simp [Array.getElem?_setIfInBounds_ne (Ne.symm hq)]
  refine ⟨_, _, h, hf.put (Nat.le_of_ble_eq_true hd) _, hk _ S1 ⟨rfl, rfl, rfl, by simp, fun q hq hn => hset q (fun e => hn (e ▸ hS))⟩
    ⟨hS, ⟨es.push { key := enc k, val := z, born := ck }, by simp [hblt], by simp [hes], by simp [hst]⟩, ?_, fun s hs => ?_⟩ (fun q hq => ⟨by simpa using hlt q hq, .inl hq⟩)⟩
  · rw [List.nodup_append]
    exact ⟨hnd, by simp, fun s hs u hu e => by rw [List.mem_singleton] at hu; subst hu; subst e; exact absurd (hck _ hs) (Nat.lt_irrefl _)⟩
  · rcases List.mem_append.1 hs with hs | hs
    · have := hck s hs; omega
    · rw [List.mem_singleton] at hs; omega

/-- Its value. -/
theorem o_entryStore {t : TypeId} {x y u : Operand} {z v : Value} {ty : TypeId} {pos : String} {af : Array Edge} {g : Option (Nat × Bool)} {b : Nat} {k : κ} {enc : κ → Value} {l : List (κ × Value)} {st : List Nat} {ck : Nat} {q : Int} {U' : List Asn}
    (hx : val fr x = some (.map (some b))) (hy : val fr y = some (.int .i64 q)) (hq : q = (ck : Int)) (hu : val fr u = some v)
    (hU : Upd (mapS enc b (l ++ [(k, z)]) (st ++ [ck]) (ck + 1)) (mapS enc b (l ++ [(k, v)]) (st ++ [ck]) (ck + 1)) U U') (h : N fr U') :
    EV1 E ⟨none, .entryStore t x y u, ty, pos, af, g⟩ fr U N := by
  subst hq
  intro a w hf hm
  obtain ⟨S1, ⟨hS, ⟨es, hb, hes, hst⟩, hnd, hck⟩, hlt, hk⟩ := hm.upd hU
  have hblt : b < w.heap.size := hlt b hS
  have hlen : es.size = l.length + 1 := by have := congrArg List.length hes; simpa using this
  have hstl : st.length = l.length := by have := congrArg List.length hst; simp at this; omega
  have hlast : es.toList[l.length]? = some es[l.length] := by rw [List.getElem?_eq_getElem (by simp [hlen])]; simp
  have hborn : es[l.length].born = ck := by
    have := congrArg (fun l' => l'[l.length]?) hst
    simp only [List.getElem?_map, hlast, Option.map_some] at this
    rw [List.getElem?_append_right (by omega), hstl, Nat.sub_self] at this
    simpa using this
  have hfind : es.findIdx? (fun e => (e.born : Int) == (ck : Int)) = some l.length := by
    rw [Go.WideElems.findIdx_arr, ← hborn]
    exact Go.WideElems.findIdx_born (by rw [hst]; exact hnd) hlast
  have hrun : (Instr.entryStore t (.map (some b)) (.int .i64 ck) v).run E.P w = .ok () { w with heap := w.heap.setIfInBounds b (.map (es.modify l.length fun e => { e with val := v }) (ck + 1)) } := by
    simp [Instr.entryStore, MapKept.run_getObj_map hb, asInt, asIntOf, hfind, MapKept.run_setObj_map _ hb, Result.andThen]
  unfold Oper.wp execOp
  simp only [hf.eval hx, hf.eval hy, hf.eval hu, Sem.run_bind, hrun, Result.andThen_ok, Sem.run_pure]
  have hset : ∀ q : Nat, q ≠ b → ({ w with heap := w.heap.setIfInBounds b (.map (es.modify l.length fun e => { e with val := v }) (ck + 1)) } : World).heap[q]? = w.heap[q]? := fun q hq => by
    simp [Array.getElem?_setIfInBounds_ne (Ne.symm hq)]
  refine ⟨_, _, h, hf.put_none _, hk _ S1 ⟨rfl, rfl, rfl, by simp, fun q hq hn => hset q (fun e => hn (e ▸ hS))⟩
    ⟨hS, ⟨es.modify l.length fun e => { e with val := v }, by simp [hblt], ?_, ?_⟩, hnd, hck⟩ (fun q hq => ⟨by simpa using hlt q hq, .inl hq⟩)⟩
  · apply List.ext_getElem?
    intro i
    have hei := congrArg (fun l => l[i]?) hes
    simp only [List.getElem?_map] at hei
    simp only [List.getElem?_map, Array.toList_modify, List.getElem?_modify]
    by_cases hij : l.length = i
    · subst hij
      rw [hlast] at hei ⊢
      rw [List.getElem?_append_right (Nat.le_refl _), Nat.sub_self] at hei ⊢
      simp at hei ⊢
      exact hei.1
    · simp only [if_neg hij]
      have h2 : (l ++ [(k, v)])[i]? = (l ++ [(k, z)])[i]? := by
        by_cases hlt2 : i < l.length
        · rw [List.getElem?_append_left hlt2, List.getElem?_append_left hlt2]
        · rw [List.getElem?_eq_none (by simp; omega), List.getElem?_eq_none (by simp; omega)]
      rw [h2]
      simpa using hei
  · apply List.ext_getElem?
    intro i
    have hei := congrArg (fun l => l[i]?) hst
    simp only [List.getElem?_map] at hei
    simp only [List.getElem?_map, Array.toList_modify, List.getElem?_modify]
    rw [← hei]
    by_cases hij : l.length = i
    · subst hij
      cases es.toList[l.length]? <;> simp
    · simp only [if_neg hij]; simp
end maps

end Go.Proofs.YtcnpjhaedjncdaaGreatDoor.E

namespace Go.Proofs.YtcnpjhaedjncdaaGreatDoor
set_option linter.all false
open Go.Proofs.YtcnpjhaedjncdaaGreatDoor.E

/-- An item in a state. -/
structure Plc where
  s : Nat
  x : Itm
deriving DecidableEq

def keyX (x : Itm) : Value := .agg #[.int .i64 x.Prod, .int .i64 x.Dot]
def keyP (p : Plc) : Value := .agg #[.int .i64 p.s, .int .i64 p.x.Prod, .int .i64 p.x.Dot]

theorem f42 : Tryz.prog.fieldsOf 79 = #[{ name := "Prod", type := 3, offset := 0, embedded := false, tag := "", pkgPath := "", byteOffset := 0 }, { name := "Dot", type := 3, offset := 1, embedded := false, tag := "", pkgPath := "", byteOffset := 8 }] := by kernel_rfl
theorem f107 : Tryz.prog.fieldsOf 81 = #[{ name := "state", type := 3, offset := 0, embedded := false, tag := "", pkgPath := "incunable/ahead", byteOffset := 0 }, { name := "item", type := 79, offset := 1, embedded := false, tag := "", pkgPath := "incunable/ahead", byteOffset := 8 }] := by kernel_rfl
theorem u42 : Tryz.prog.underlying 79 = some (.struct (Tryz.prog.fieldsOf 79)) := by kernel_rfl
theorem u107 : Tryz.prog.underlying 81 = some (.struct (Tryz.prog.fieldsOf 81)) := by kernel_rfl

theorem part3 (w : World) (cs : Array Value) (o : Nat) (u : Int) (h : cs[o]? = some (.int .i64 u)) : (part 3 cs o).run Tryz.prog w = .ok (.int .i64 u) w :=
  run_part_plain (P := Tryz.prog) w (by kernel_rfl) h

theorem part42 (w : World) (a b c : Int) : (part 79 #[.int .i64 a, .int .i64 b, .int .i64 c] 1).run Tryz.prog w = .ok (.agg #[.int .i64 b, .int .i64 c]) w := by
  have hs : (sizeOf 79).run Tryz.prog w = .ok 2 w := by kernel_rfl
  have ha : (isAgg 79).run Tryz.prog w = .ok true w := by kernel_rfl
  unfold part
  simp [ha, hs, Result.andThen]

theorem equalP (w : World) (a b : Plc) : (Op.equal 81 (keyP a) (keyP b)).run Tryz.prog w = .ok (decide (a = b)) w := by
  unfold Op.equal Op.maxDepth keyP
  rw [run_equalIn_struct (P := Tryz.prog) w 9999 81 _ _ (by kernel_rfl) (by kernel_rfl), f107]
  have e : ∀ u v : Int, (Op.equalIn 9999 3 (.int .i64 u) (.int .i64 v)).run Tryz.prog w = .ok (u == v) w := fun u v => run_equalIn_int w 9998 3 .i64 .i64 u v Tryz.underlying3
  have e2 : ∀ u v : Int, (Op.equalIn 9998 3 (.int .i64 u) (.int .i64 v)).run Tryz.prog w = .ok (u == v) w := fun u v => run_equalIn_int w 9997 3 .i64 .i64 u v Tryz.underlying3
  have e42 : ∀ p q u v : Int, (Op.equalIn 9999 79 (.agg #[.int .i64 p, .int .i64 q]) (.agg #[.int .i64 u, .int .i64 v])).run Tryz.prog w = .ok (p == u && q == v) w := fun p q u v => by
    rw [run_equalIn_struct (P := Tryz.prog) w 9998 79 _ _ (by kernel_rfl) (by kernel_rfl), f42]
    simp only [Op.eqFields]
    simp only [Sem.run_bind, part3 w #[.int .i64 p, .int .i64 q] 0 p rfl, part3 w #[.int .i64 u, .int .i64 v] 0 u rfl, part3 w #[.int .i64 p, .int .i64 q] 1 q rfl, part3 w #[.int .i64 u, .int .i64 v] 1 v rfl, e2, Result.andThen_ok, Sem.run_ite, Sem.run_pure]
    cases p == u <;> cases q == v <;> simp [part3 w #[.int .i64 p, .int .i64 q] 1 q rfl, part3 w #[.int .i64 u, .int .i64 v] 1 v rfl, e2, *]
  have hd : decide (a = b) = ((a.s : Int) == (b.s : Int) && (a.x.Prod == b.x.Prod && a.x.Dot == b.x.Dot)) := by
    obtain ⟨s, x⟩ := a
    obtain ⟨s', x'⟩ := b
    rw [eqItm, Bool.eq_iff_iff]
    simp
    intro _
    omega
  rw [hd]
  simp only [Op.eqFields]
  simp only [Sem.run_bind, part3 w #[.int .i64 a.s, .int .i64 a.x.Prod, .int .i64 a.x.Dot] 0 a.s rfl, part3 w #[.int .i64 b.s, .int .i64 b.x.Prod, .int .i64 b.x.Dot] 0 b.s rfl, part42, e, e42, Result.andThen_ok, Sem.run_ite, Sem.run_pure]
  cases (a.s : Int) == (b.s : Int) <;> cases (a.x.Prod == b.x.Prod && a.x.Dot == b.x.Dot) <;> simp [part42, e42, *]

theorem stays_agg (w : World) (l : List Int) : (Instr.keyThatStays (.agg (l.map fun n => Value.int .i64 n).toArray) (.agg (l.map fun n => Value.int .i64 n).toArray)).run Tryz.prog w = .ok (.agg (l.map fun n => Value.int .i64 n).toArray) w := by
  have : Instr.sameBits 10000 (.agg (l.map fun n => Value.int .i64 n).toArray) (.agg (l.map fun n => Value.int .i64 n).toArray) = true := by
    simp only [Instr.sameBits, beq_self_eq_true, Bool.true_and]
    induction l with
    | nil => rfl
    | cons n l ih => simp [Instr.sameBits] at ih ⊢; exact ih
  unfold Instr.keyThatStays
  rw [this]; rfl

theorem check3 (w : World) (e : Bool) (n : Nat) (k : IntKind) (v : Int) : (Instr.checkKey e (n + 1) 3 (.int k v)).run Tryz.prog w = .ok () w := by
  unfold Instr.checkKey
  simp [run_underlying Tryz.underlying3, Result.andThen]

theorem check42 (w : World) (e : Bool) (n : Nat) (a b : Int) : (Instr.checkKey e (n + 2) 79 (.agg #[.int .i64 a, .int .i64 b])).run Tryz.prog w = .ok () w := by
  unfold Instr.checkKey
  simp [run_underlying u42, f42, Result.andThen, part3 w #[.int .i64 a, .int .i64 b] 0 a rfl, part3 w #[.int .i64 a, .int .i64 b] 1 b rfl, check3]

theorem check107 (w : World) (e : Bool) (n : Nat) (s a b : Int) : (Instr.checkKey e (n + 3) 81 (.agg #[.int .i64 s, .int .i64 a, .int .i64 b])).run Tryz.prog w = .ok () w := by
  unfold Instr.checkKey
  simp [run_underlying u107, f107, Result.andThen, part3 w #[.int .i64 s, .int .i64 a, .int .i64 b] 0 s rfl, part42, check3, check42]

theorem mkey42 : MKey Tryz.prog 79 keyX := mkey_struct u42
  (fun w a b => by rw [← eqItm]; exact equal42 w a.Prod a.Dot b.Prod b.Dot)
  (fun w e k => check42 w e 9998 _ _)
  (fun w k => stays_agg w [k.Prod, k.Dot])

theorem mkeyP : MKey Tryz.prog 81 keyP := mkey_struct u107 equalP
  (fun w e k => check107 w e 9997 _ _ _)
  (fun w k => stays_agg w [k.s, k.x.Prod, k.x.Dot])

end Go.Proofs.YtcnpjhaedjncdaaGreatDoor

namespace Go.Proofs.YtcnpjhaedjncdaaGreatDoor
set_option linter.all false
open Go.Proofs.YtcnpjhaedjncdaaGreatDoor.E

abbrev Bits := List Bool
def zer : Bits := List.replicate 48 false
theorem zer_len : zer.length = 48 := List.length_replicate

/-- Of two rows, one or the other, in the first i places. -/
def orTo (old l : Bits) (i : Nat) : Bits := (List.range old.length).map fun t => old.getD t false || (decide (t < i) && l.getD t false)
def orB (old l : Bits) : Bits := orTo old l old.length
/-- Is something new in the first i places? -/
def newTo (old l : Bits) (i : Nat) : Bool := (List.range i).any fun t => l.getD t false && !old.getD t false
def newB (old l : Bits) : Bool := newTo old l old.length

theorem orTo_len (old l : Bits) (i : Nat) : (orTo old l i).length = old.length := by unfold orTo; simp
theorem orTo_get {old l : Bits} {i t : Nat} (h : t < (orTo old l i).length) : (orTo old l i)[t] = (old.getD t false || (decide (t < i) && l.getD t false)) := by
  have h2 : t < ((List.range old.length).map fun t => old.getD t false || (decide (t < i) && l.getD t false)).length := h
  show ((List.range old.length).map fun t => old.getD t false || (decide (t < i) && l.getD t false))[t] = _
  rw [List.getElem_map, List.getElem_range]
theorem orTo_zero (old l : Bits) : orTo old l 0 = old := by
  apply List.ext_getElem (orTo_len _ _ _)
  intro t h1 h2
  rw [orTo_get, List.getD_eq_getElem?_getD, List.getElem?_eq_getElem h2]; simp
theorem orTo_succ {old l : Bits} {i : Nat} (h : i < old.length) : orTo old l (i + 1) = if l.getD i false && !((orTo old l i).getD i false) then (orTo old l i).set i true else orTo old l i := by
  have hi : (orTo old l i).getD i false = old.getD i false := by
    have hl : i < (orTo old l i).length := by rw [orTo_len]; exact h
    rw [List.getD_eq_getElem?_getD, List.getElem?_eq_getElem hl, Option.getD_some, orTo_get]; simp
  rw [hi]
  apply List.ext_getElem
  · split <;> simp [orTo_len]
  · intro t h1 h2
    rw [orTo_get]
    by_cases ht : t = i
    · subst ht
      split
      · rename_i hc
        rw [List.getElem_set_self]
        simp only [Bool.and_eq_true] at hc
        rw [hc.1]; simp
      · rename_i hc
        rw [orTo_get]
        cases hl : l.getD t false with
        | false => simp
        | true =>
          have ho : old.getD t false = true := by
            cases ho : old.getD t false with
            | true => rfl
            | false => rw [hl, ho] at hc; simp at hc
          rw [ho]; simp
    · have e : decide (t < i + 1) = decide (t < i) := by rw [Bool.eq_iff_iff]; simp; omega
      split
      · rw [List.getElem_set_ne (Ne.symm ht), orTo_get, e]
      · rw [orTo_get, e]
theorem newTo_succ (old l : Bits) (i : Nat) : newTo old l (i + 1) = (newTo old l i || (l.getD i false && !old.getD i false)) := by
  unfold newTo
  rw [List.range_succ, List.any_append]; simp
theorem orTo_old {old l : Bits} {i : Nat} (h : i < old.length) : (orTo old l i).getD i false = old.getD i false := by
  have hl : i < (orTo old l i).length := by rw [orTo_len]; exact h
  rw [List.getD_eq_getElem?_getD, List.getElem?_eq_getElem hl, Option.getD_some, orTo_get]; simp

/-- What is kept: places in the order in which they came, the terms behind each, and places to do. -/
structure Stt where
  ks : List Plc
  bs : List Bits
  td : List Plc

def addKs (ks : List Plc) (p : Plc) : List Plc := if p ∈ ks then ks else ks ++ [p]
def addBs (ks : List Plc) (bs : List Bits) (p : Plc) : List Bits := if p ∈ ks then bs else bs ++ [zer]
def getB (ks : List Plc) (bs : List Bits) (p : Plc) : Bits := if p ∈ ks then bs.getD (ix ks p) zer else zer

/-- Terms are added behind a place. -/
def addS (st : Stt) (p : Plc) (l : Bits) : Stt :=
  ⟨addKs st.ks p, (addBs st.ks st.bs p).set (ix (addKs st.ks p) p) (orB (getB st.ks st.bs p) l), if newB (getB st.ks st.bs p) l then st.td ++ [p] else st.td⟩

theorem addKs_mem (ks : List Plc) (p : Plc) : p ∈ addKs ks p := by
  unfold addKs; split
  · assumption
  · simp
theorem addKs_ix (ks : List Plc) (p : Plc) : ix (addKs ks p) p < (addKs ks p).length := ix_lt (addKs_mem ks p)
theorem addBs_len {ks : List Plc} {bs : List Bits} (h : bs.length = ks.length) (p : Plc) : (addBs ks bs p).length = (addKs ks p).length := by
  unfold addBs addKs; split <;> simp [h]
theorem addBs_get {ks : List Plc} {bs : List Bits} (h : bs.length = ks.length) (p : Plc) : (addBs ks bs p)[ix (addKs ks p) p]? = some (getB ks bs p) := by
  unfold addBs addKs getB
  by_cases hp : p ∈ ks
  · rw [if_pos hp, if_pos hp, if_pos hp]
    have := ix_lt hp
    rw [List.getD_eq_getElem?_getD, List.getElem?_eq_getElem (by omega)]; rfl
  · rw [if_neg hp, if_neg hp, if_neg hp, ix_app_not hp, ← h]
    simp

/-- All rows are 48 long. -/
def Len48 (bs : List Bits) : Prop := ∀ b ∈ bs, b.length = 48
theorem getB_len {ks : List Plc} {bs : List Bits} (h : Len48 bs) (p : Plc) : (getB ks bs p).length = 48 := by
  unfold getB
  split
  · rw [List.getD_eq_getElem?_getD]
    cases hb : bs[ix ks p]? with
    | none => exact zer_len
    | some b => exact h b (List.mem_of_getElem? hb)
  · exact zer_len

structure SttOk (st : Stt) : Prop where
  len : st.bs.length = st.ks.length
  l48 : Len48 st.bs
  nd : st.ks.Nodup
  td : ∀ p ∈ st.td, p ∈ st.ks

theorem addS_ok {st : Stt} (h : SttOk st) (p : Plc) (l : Bits) : SttOk (addS st p l) where
  len := by
    show ((addBs st.ks st.bs p).set _ _).length = (addKs st.ks p).length
    rw [List.length_set, addBs_len h.len]
  l48 b hb := by
    rcases List.mem_or_eq_of_mem_set hb with hb | hb
    · unfold addBs at hb
      split at hb
      · exact h.l48 b hb
      · rcases List.mem_append.1 hb with hb | hb
        · exact h.l48 b hb
        · rw [List.mem_singleton] at hb; subst hb; exact zer_len
    · subst hb
      unfold orB
      rw [orTo_len, getB_len h.l48]
  nd := by
    show (addKs st.ks p).Nodup
    unfold addKs
    split
    · exact h.nd
    · rename_i hp
      rw [List.nodup_append]
      exact ⟨h.nd, by simp, fun a ha b hb e => by rw [List.mem_singleton] at hb; subst hb; subst e; exact hp ha⟩
  td q hq := by
    have hsub : ∀ q ∈ st.ks, q ∈ addKs st.ks p := fun q hq => by unfold addKs; split; exact hq; exact List.mem_append_left _ hq
    have hq : q ∈ (if newB (getB st.ks st.bs p) l then st.td ++ [p] else st.td) := hq
    split at hq
    · rcases List.mem_append.1 hq with hq | hq
      · exact hsub q (h.td q hq)
      · rw [List.mem_singleton] at hq; subst hq; exact addKs_mem _ _
    · exact hsub q (h.td q hq)

end Go.Proofs.YtcnpjhaedjncdaaGreatDoor

namespace Go.Proofs.YtcnpjhaedjncdaaGreatDoor
set_option linter.all false
open Go.Proofs.YtcnpjhaedjncdaaGreatDoor.E

theorem pre_get {α : Type} {a b : List α} (h : a <+: b) {i : Nat} (hi : i < a.length) : ∃ h2 : i < b.length, b[i] = a[i] := by
  obtain ⟨d, rfl⟩ := h
  exact ⟨by rw [List.length_append]; omega, List.getElem_append_left hi⟩

theorem symK_mem {g : Gram} {l : List Itm} {ks : List (List Itm)} {n s : Nat} (hs : s < n) (hne : goI g l s ≠ []) : goI g l s ∈ symK g l ks n := by
  obtain ⟨d, hd⟩ := Nat.exists_eq_add_of_le (show s + 1 ≤ n by omega)
  have h1 := symK_mono g l ks (s + 1) d
  rw [← hd] at h1
  refine h1.subset ?_
  rw [symK_succ]
  exact addK_mem hne

/-- What a state goes on to is a state. -/
theorem lrF_closed (g : Gram) : ∀ (f i : Nat) (ks fin : List (List Itm)), lrF g f i ks = some fin → ∀ (j : Nat) (hj : j < fin.length), i ≤ j → ∀ s < g.Terms.length + g.Nons.length, goI g (closedP g fin[j]) s ≠ [] → goI g (closedP g fin[j]) s ∈ fin
  | 0, _, _, _, h => by cases h
  | f + 1, i, ks, fin, h => by
    have h0 := h
    unfold lrF at h
    cases hk : ks[i]? with
    | none =>
      rw [hk] at h
      simp only [Option.some.injEq] at h
      subst h
      intro j hj hij
      rw [List.getElem?_eq_none_iff] at hk
      omega
    | some k =>
      rw [hk] at h
      simp only at h
      split at h
      · cases h
      · intro j hj hij s hs hne
        have hp := lrF_pre g _ _ _ _ h
        by_cases e : j = i
        · subst e
          have hjk : j < ks.length := (List.getElem?_eq_some_iff.1 hk).1
          have hkk : ks[j] = k := (List.getElem?_eq_some_iff.1 hk).2
          obtain ⟨_, e1⟩ := pre_get ((symK_pre g (closedP g k) ks (g.Terms.length + g.Nons.length)).trans hp) hjk
          rw [e1, hkk] at hne ⊢
          exact hp.subset (symK_mem hs hne)
        · exact lrF_closed g f (i + 1) _ fin h j hj (by omega) s hs hne

theorem lr_closed {g : Gram} (h : lrE g = 0) {j : Nat} (hj : j < (lrKs g).length) {s : Nat} (hs : s < g.Terms.length + g.Nons.length) : goI g (closedP g (lrKs g)[j]) s = [] ∨ goI g (closedP g (lrKs g)[j]) s ∈ lrKs g := by
  by_cases e : goI g (closedP g (lrKs g)[j]) s = []
  · exact .inl e
  · exact .inr (lrF_closed g _ _ _ _ (lr_fin h).2.1 j hj (Nat.zero_le _) s hs e)

theorem lr_first {g : Gram} (h : lrE g = 0) : ∃ h0 : 0 < (lrKs g).length, (lrKs g)[0] = [⟨0, 0⟩] := by
  have hp := lrF_pre g _ _ _ _ (lr_fin h).2.1
  exact pre_get hp (i := 0) (by simp)

theorem lr_len (g : Gram) : (lrGs g).length = (lrKs g).length := by unfold lrGs; rw [List.length_map]

theorem lr_row {g : Gram} {i : Nat} (hi : i < (lrGs g).length) : (lrGs g)[i] = gotoR g (lrKs g) ((lrKs g)[i]'(by rw [← lr_len]; exact hi)) := by
  have : ∀ (l : List (List Int)) (h : i < l.length), l = (lrKs g).map (gotoR g (lrKs g)) → l[i] = gotoR g (lrKs g) ((lrKs g)[i]'(by rw [← lr_len]; exact hi)) := fun l h e => by subst e; rw [List.getElem_map]
  exact this _ hi rfl

theorem gotoR_len (g : Gram) (ks : List (List Itm)) (k : List Itm) : (gotoR g ks k).length = g.Terms.length + g.Nons.length := by unfold gotoR; simp
theorem gotoR_get {g : Gram} {ks : List (List Itm)} {k : List Itm} {s : Nat} (h : s < (gotoR g ks k).length) : (gotoR g ks k)[s] = numK ks (goI g (closedP g k) s) := by
  have h2 : s < ((List.range (g.Terms.length + g.Nons.length)).map fun (s : Nat) => numK ks (goI g (closedP g k) s)).length := h
  show ((List.range (g.Terms.length + g.Nons.length)).map fun (s : Nat) => numK ks (goI g (closedP g k) s))[s] = _
  rw [List.getElem_map, List.getElem_range]

theorem close_in {g : Gram} (hc : checkE g = 0) {l : List Itm} (hl : l.length ≤ 2000) (hin : ∀ x ∈ l, inG g x = true) : closeE g l = 0 ∧ closeL g l = closedP g l := by
  have h1 : closeE g l = 0 := by
    unfold closeE
    rw [if_neg (fun h => h hc), if_neg (by omega), if_pos]
    unfold allIn
    rw [List.all_eq_true]
    exact hin
  exact ⟨h1, by unfold closeL; rw [if_pos h1]⟩

theorem numK_at {ks : List (List Itm)} {k : List Itm} (h : k ∈ ks) (hne : k ≠ []) : ∃ (j : Nat) (hj : j < ks.length), numK ks k = (j : Int) ∧ ks[j] = k := by
  unfold numK
  rw [if_neg hne]
  exact ⟨ix ks k, ix_lt h, rfl, by have := ix_get h; rw [List.getElem?_eq_getElem (ix_lt h), Option.some.injEq] at this; exact this⟩

end Go.Proofs.YtcnpjhaedjncdaaGreatDoor

namespace Go.Proofs.YtcnpjhaedjncdaaGreatDoor
set_option linter.all false
open Go.Proofs.YtcnpjhaedjncdaaGreatDoor.E

/-- What is known of the states that were found, as the statements ask it. -/
structure GoF (g : Gram) (KS : List (List Itm)) (GS : List (List Int)) : Prop where
  gk : GS.length = KS.length
  n : KS.length ≤ 512
  p0 : 0 < KS.length
  k0 : ∀ h : 0 < KS.length, KS[0] = [⟨0, 0⟩]
  ok : ∀ (i : Nat) (h : i < KS.length), SortI KS[i] ∧ (∀ x ∈ KS[i], inG g x = true) ∧ KS[i].length ≤ 2000 ∧ KS[i] ≠ []
  cl : ∀ (i : Nat) (h : i < KS.length), closeE g KS[i] = 0 ∧ closeL g KS[i] = closedP g KS[i] ∧ SortI (closedP g KS[i]) ∧ (∀ x ∈ closedP g KS[i], inG g x = true) ∧ (closedP g KS[i]).length ≤ 2000
  row : ∀ (i : Nat) (h : i < GS.length), GS[i].length = g.Terms.length + g.Nons.length
  get : ∀ (i : Nat) (h : i < KS.length) (h2 : i < GS.length) (s : Nat) (h3 : s < GS[i].length),
    (goI g (closedP g KS[i]) s = [] ∧ GS[i][s] = -1) ∨ ∃ (j : Nat) (hj : j < KS.length), goI g (closedP g KS[i]) s = KS[j] ∧ GS[i][s] = (j : Int)
  lim : Lims g
  wf : Wf0 g

theorem goF {g : Gram} (h : lrE g = 0) : GoF g (lrKs g) (lrGs g) := by
  obtain ⟨hc, hk, hK, hn⟩ := lr_fin h
  obtain ⟨hlm, hwf⟩ := checkE_ok hc
  have hL := lims hlm
  have o := GOk.of hwf
  obtain ⟨p0, k0⟩ := lr_first h
  have ok : ∀ (i : Nat) (h : i < (lrKs g).length), SortI (lrKs g)[i] ∧ (∀ x ∈ (lrKs g)[i], inG g x = true) ∧ (lrKs g)[i].length ≤ 2000 ∧ (lrKs g)[i] ≠ [] := fun i h => by
    have hki := hK.ok _ (List.getElem_mem h)
    have := sort_len hL hki.sort hki.inG
    exact ⟨hki.sort, hki.inG, by omega, hki.ne⟩
  refine ⟨lr_len g, hn, p0, fun _ => k0, ok, fun i h => ?_, fun i h => by rw [lr_row h, gotoR_len], fun i h1 h2 s h3 => ?_, hL, hwf⟩
  · obtain ⟨s1, s2, s3, _⟩ := ok i h
    obtain ⟨e1, e2⟩ := close_in hc s3 s2
    obtain ⟨hs, hm⟩ := closedP_spec o.beh o.left s2
    have hci : ∀ x ∈ closedP g (lrKs g)[i], inG g x = true := fun x hx => ((hm x).1 hx).inG s2
    have := sort_len hL hs hci
    exact ⟨e1, e2, hs, hci, by omega⟩
  · have e := lr_row h2
    have hs : s < g.Terms.length + g.Nons.length := by rw [e, gotoR_len] at h3; exact h3
    have hv : (lrGs g)[i][s] = numK (lrKs g) (goI g (closedP g (lrKs g)[i]) s) := by
      have : ∀ (r : List Int) (hr : s < r.length), r = gotoR g (lrKs g) (lrKs g)[i] → r[s] = numK (lrKs g) (goI g (closedP g (lrKs g)[i]) s) := fun r hr e => by subst e; exact gotoR_get hr
      exact this _ h3 e
    by_cases hne : goI g (closedP g (lrKs g)[i]) s = []
    · refine .inl ⟨hne, ?_⟩
      rw [hv, hne]; unfold numK; rw [if_pos rfl]
    · obtain ⟨j, hj, h4, h5⟩ := numK_at ((lr_closed h h1 hs).resolve_left hne) hne
      exact .inr ⟨j, hj, h5.symm, by rw [hv, h4]⟩


end Go.Proofs.YtcnpjhaedjncdaaGreatDoor

namespace Go.Proofs.YtcnpjhaedjncdaaGreatDoor
set_option linter.all false
open Go.Proofs.YtcnpjhaedjncdaaGreatDoor.E

/-! ### what adding changes -/
theorem ix_ne {κ : Type} [DecidableEq κ] {u : List κ} {a b : κ} (ha : a ∈ u) (hb : b ∈ u) (h : a ≠ b) : ix u a ≠ ix u b := fun e => h (ix_inj ha hb e)

theorem getB_add {st : Stt} (h : SttOk st) (p q : Plc) (l : Bits) : getB (addS st p l).ks (addS st p l).bs q = if q = p then orB (getB st.ks st.bs p) l else getB st.ks st.bs q := by
  show getB (addKs st.ks p) ((addBs st.ks st.bs p).set (ix (addKs st.ks p) p) (orB (getB st.ks st.bs p) l)) q = _
  have hp := addKs_mem st.ks p
  have hlen := addBs_len h.len p
  by_cases e : q = p
  · subst e
    rw [if_pos rfl]
    unfold getB
    rw [if_pos hp, List.getD_eq_getElem?_getD, List.getElem?_set_self (by rw [hlen]; exact ix_lt hp)]
    rfl
  · rw [if_neg e]
    unfold getB
    by_cases hq : q ∈ st.ks
    · have hq2 : q ∈ addKs st.ks p := by unfold addKs; split; exact hq; exact List.mem_append_left _ hq
      rw [if_pos hq2, if_pos hq, List.getD_eq_getElem?_getD, List.getElem?_set_ne (ix_ne hp hq2 (Ne.symm e)), ← List.getD_eq_getElem?_getD]
      unfold addBs addKs
      split
      · rfl
      · rw [ix_app_mem hq, List.getD_eq_getElem?_getD, List.getElem?_append_left (by rw [h.len]; exact ix_lt hq), ← List.getD_eq_getElem?_getD]
    · have hq2 : q ∉ addKs st.ks p := by
        unfold addKs
        split
        · exact hq
        · rw [List.mem_append, List.mem_singleton]; rintro (h | h); exact hq h; exact e h
      rw [if_neg hq2, if_neg hq]

/-! ### a measure -/
def cntZ (b : Bits) : Nat := (List.range b.length).countP fun t => !b.getD t false

theorem countP_le {p q : Nat → Bool} (h : ∀ t, q t = true → p t = true) : ∀ l : List Nat, l.countP q + (if l.any (fun t => p t && !q t) then 1 else 0) ≤ l.countP p
  | [] => by simp
  | t :: l => by
    have ih := countP_le h l
    rw [List.countP_cons, List.countP_cons, List.any_cons]
    cases hq : q t with
    | true =>
      rw [h t hq]
      simp only [Bool.not_true, Bool.and_false, Bool.false_or, if_true]
      omega
    | false =>
      cases hp : p t with
      | true =>
        simp only [Bool.not_false, Bool.and_self, Bool.true_or, if_true, Bool.false_eq_true, if_false]
        split at ih <;> omega
      | false =>
        simp only [Bool.false_and, Bool.false_or, Bool.false_eq_true, if_false]
        exact ih

theorem orB_getD {old l : Bits} (t : Nat) (h : t < old.length) : (orB old l).getD t false = (old.getD t false || l.getD t false) := by
  unfold orB
  have h2 : t < (orTo old l old.length).length := by rw [orTo_len]; exact h
  rw [List.getD_eq_getElem?_getD, List.getElem?_eq_getElem h2, Option.getD_some, orTo_get]
  simp [h]

theorem cntZ_or (old l : Bits) : cntZ (orB old l) + (if newB old l then 1 else 0) ≤ cntZ old := by
  have hlen : (orB old l).length = old.length := orTo_len _ _ _
  unfold cntZ
  rw [hlen]
  have h1 : (List.range old.length).countP (fun t => !(orB old l).getD t false) = (List.range old.length).countP (fun t => !(old.getD t false || l.getD t false)) := by
    apply List.countP_congr
    intro t ht
    rw [orB_getD t (List.mem_range.1 ht)]
  rw [h1]
  have h2 : newB old l = (List.range old.length).any (fun t => (!old.getD t false) && !(!(old.getD t false || l.getD t false))) := by
    unfold newB newTo
    congr 1
    funext t
    cases old.getD t false <;> cases l.getD t false <;> rfl
  rw [h2]
  exact countP_le (p := fun t => !old.getD t false) (q := fun t => !(old.getD t false || l.getD t false)) (fun t ht => by
    cases ho : old.getD t false with
    | true => rw [ho] at ht; simp at ht
    | false => rfl) _

def miss (univ : List Plc) (st : Stt) : Nat := (univ.map fun p => cntZ (getB st.ks st.bs p)).sum
def meas (univ : List Plc) (st : Stt) : Nat := 2 * miss univ st + st.td.length

theorem sum_le {f f' : Plc → Nat} {p : Plc} {b : Nat} (h : ∀ q, f' q ≤ f q) (hp : f' p + b ≤ f p) : ∀ {l : List Plc}, p ∈ l → (l.map f').sum + b ≤ (l.map f).sum
  | q :: l, hm => by
    rw [List.map_cons, List.map_cons, List.sum_cons, List.sum_cons]
    have hle : ∀ l : List Plc, (l.map f').sum ≤ (l.map f).sum := by
      intro l
      induction l with
      | nil => exact Nat.le_refl _
      | cons x l ih => rw [List.map_cons, List.map_cons, List.sum_cons, List.sum_cons]; have := h x; omega
    rcases List.mem_cons.1 hm with rfl | hm
    · have := hle l; omega
    · have := sum_le h hp hm; have := h q; omega

theorem meas_add {univ : List Plc} {st : Stt} (h : SttOk st) {p : Plc} (hp : p ∈ univ) (l : Bits) : meas univ (addS st p l) ≤ meas univ st := by
  have h1 := cntZ_or (getB st.ks st.bs p) l
  have h2 : miss univ (addS st p l) + (if newB (getB st.ks st.bs p) l then 1 else 0) ≤ miss univ st := by
    unfold miss
    refine sum_le (p := p) (fun q => ?_) ?_ hp
    · rw [getB_add h]
      split
      · rename_i e; subst e; split at h1 <;> omega
      · exact Nat.le_refl _
    · rw [getB_add h, if_pos rfl]; exact h1
  have h3 : (addS st p l).td.length = st.td.length + (if newB (getB st.ks st.bs p) l then 1 else 0) := by
    show (if newB (getB st.ks st.bs p) l then st.td ++ [p] else st.td).length = _
    split <;> simp
  unfold meas
  rw [h3]
  split at h2 <;> split <;> simp_all <;> omega

/-! ### a round -/
def nextP (g : Gram) (GS : List (List Int)) (p : Plc) : Plc := ⟨((GS.getD p.s []).getD (beh g p.x).toNat 0).toNat, ⟨p.x.Prod, p.x.Dot + 1⟩⟩
def comb (a own : Bits) (nl : Bool) : Bits := (List.range a.length).map fun t => a.getD t false || (nl && own.getD t false)
def prodsAdd (g : Gram) (p : Plc) (l : Bits) (st : Stt) (m : Nat) : Stt := (List.range m).foldl (fun st (k : Nat) => if (prd g k).Left = beh g p.x - g.Terms.length then addS st ⟨p.s, ⟨k, 0⟩⟩ l else st) st
theorem prodsAdd_succ (g : Gram) (p : Plc) (l : Bits) (st : Stt) (m : Nat) : prodsAdd g p l st (m + 1) = if (prd g m).Left = beh g p.x - g.Terms.length then addS (prodsAdd g p l st m) ⟨p.s, ⟨m, 0⟩⟩ l else prodsAdd g p l st m := by
  unfold prodsAdd; rw [List.range_succ, List.foldl_append]; rfl

section rounds
variable (g : Gram) (GS : List (List Int)) (rB : Itm → Bits) (rN : Itm → Bool)
def roundG (st : Stt) (p : Plc) : Stt :=
  if p.x.Dot = (prd g p.x.Prod).Right.length then ⟨st.ks, st.bs, st.td.dropLast⟩
  else if beh g p.x < g.Terms.length then addS ⟨st.ks, st.bs, st.td.dropLast⟩ (nextP g GS p) (getB st.ks st.bs p)
  else prodsAdd g p (comb (rB p.x) (getB st.ks st.bs p) (rN p.x)) (addS ⟨st.ks, st.bs, st.td.dropLast⟩ (nextP g GS p) (getB st.ks st.bs p)) g.Prods.length
def stepG (st : Stt) : Stt := match st.td.getLast? with
  | none => st
  | some p => roundG g GS rB rN st p
def stepN : Nat → Stt → Stt
  | 0, st => st
  | n + 1, st => stepN n (stepG g GS rB rN st)
end rounds

/-- Places that are in the states. -/
def VP (g : Gram) (KS : List (List Itm)) (p : Plc) : Prop := ∃ h : p.s < KS.length, p.x ∈ closedP g KS[p.s]
def univ (g : Gram) (KS : List (List Itm)) : List Plc := (List.range KS.length).flatMap fun s => (closedP g (KS.getD s [])).map fun x => ⟨s, x⟩
theorem VP.mem {g : Gram} {KS : List (List Itm)} {p : Plc} (h : VP g KS p) : p ∈ univ g KS := by
  obtain ⟨h1, h2⟩ := h
  unfold univ
  rw [List.mem_flatMap]
  refine ⟨p.s, List.mem_range.2 h1, List.mem_map.2 ⟨p.x, ?_, rfl⟩⟩
  rw [List.getD_eq_getElem?_getD, List.getElem?_eq_getElem h1]
  exact h2

theorem VP.in_ {g : Gram} {KS : List (List Itm)} {GS : List (List Int)} (hF : GoF g KS GS) {p : Plc} (h : VP g KS p) : inG g p.x = true := by
  obtain ⟨h1, h2⟩ := h
  exact (hF.cl p.s h1).2.2.2.1 _ h2

/-- Where a place goes by the symbol behind its dot. -/
theorem VP.next {g : Gram} {KS : List (List Itm)} {GS : List (List Int)} (hF : GoF g KS GS) {p : Plc} (h : VP g KS p) (hd : p.x.Dot ≠ (prd g p.x.Prod).Right.length) :
    ∃ (s : Nat) (h1 : p.s < GS.length) (h2 : s < GS[p.s].length) (j : Nat), beh g p.x = (s : Int) ∧ GS[p.s][s] = (j : Int) ∧ nextP g GS p = ⟨j, ⟨p.x.Prod, p.x.Dot + 1⟩⟩ ∧ VP g KS (nextP g GS p) := by
  have hin := h.in_ hF
  obtain ⟨h1, h2⟩ := h
  have hin2 := hin
  unfold inG at hin2
  simp only [Bool.and_eq_true, decide_eq_true_eq] at hin2
  have hr := beh_rng hF.wf hin
  have hb0 := hr.2.2 (by omega)
  obtain ⟨s, hs⟩ : ∃ s : Nat, beh g p.x = (s : Int) := ⟨(beh g p.x).toNat, by omega⟩
  have hg1 : p.s < GS.length := by rw [hF.gk]; exact h1
  have hrow := hF.row p.s hg1
  have hs2 : s < GS[p.s].length := by omega
  rcases hF.get p.s h1 hg1 s hs2 with ⟨e1, _⟩ | ⟨j, hj, e1, e2⟩
  · exfalso
    have : (⟨p.x.Prod, p.x.Dot + 1⟩ : Itm) ∈ goI g (closedP g KS[p.s]) s := by
      unfold goI
      exact List.mem_map.2 ⟨p.x, List.mem_filter.2 ⟨h2, decide_eq_true hs⟩, rfl⟩
    rw [e1] at this
    cases this
  · have hn : nextP g GS p = ⟨j, ⟨p.x.Prod, p.x.Dot + 1⟩⟩ := by
      unfold nextP
      rw [hs, Int.toNat_natCast]
      have hg2 : GS.getD p.s [] = GS[p.s] := by rw [List.getD_eq_getElem?_getD, List.getElem?_eq_getElem hg1]; rfl
      have : (GS[p.s]).getD s 0 = (j : Int) := by rw [List.getD_eq_getElem?_getD, List.getElem?_eq_getElem hs2, Option.getD_some, e2]
      rw [hg2, this, Int.toNat_natCast]
    refine ⟨s, hg1, hs2, j, hs, e2, hn, ?_⟩
    rw [hn]
    refine ⟨hj, ?_⟩
    have o := GOk.of hF.wf
    refine ((closedP_spec o.beh o.left (hF.ok j hj).2.1).2 _).2 (.base ?_)
    rw [← e1]
    unfold goI
    exact List.mem_map.2 ⟨p.x, List.mem_filter.2 ⟨h2, decide_eq_true hs⟩, rfl⟩

theorem VP.prod {g : Gram} {KS : List (List Itm)} {GS : List (List Int)} (hF : GoF g KS GS) {p : Plc} (h : VP g KS p) {k : Nat} (hk : k < g.Prods.length) (hl : (prd g k).Left = beh g p.x - g.Terms.length) : VP g KS ⟨p.s, ⟨k, 0⟩⟩ := by
  obtain ⟨h1, h2⟩ := h
  have o := GOk.of hF.wf
  have hsp := (closedP_spec o.beh o.left (hF.ok p.s h1).2.1).2
  exact ⟨h1, (hsp _).2 (.step ((hsp _).1 h2) hk (by omega))⟩

/-- What holds on the way. -/
structure GInv (g : Gram) (KS : List (List Itm)) (st : Stt) : Prop where
  ok : SttOk st
  vp : ∀ p ∈ st.ks, VP g KS p

theorem GInv.add {g : Gram} {KS : List (List Itm)} {st : Stt} (h : GInv g KS st) {p : Plc} (hp : VP g KS p) (l : Bits) : GInv g KS (addS st p l) where
  ok := addS_ok h.ok p l
  vp q hq := by
    have hq : q ∈ addKs st.ks p := hq
    unfold addKs at hq
    split at hq
    · exact h.vp q hq
    · rcases List.mem_append.1 hq with hq | hq
      · exact h.vp q hq
      · rw [List.mem_singleton] at hq; subst hq; exact hp

theorem GInv.pop {g : Gram} {KS : List (List Itm)} {st : Stt} (h : GInv g KS st) : GInv g KS ⟨st.ks, st.bs, st.td.dropLast⟩ where
  ok := ⟨h.ok.len, h.ok.l48, h.ok.nd, fun p hp => h.ok.td p (List.dropLast_subset _ hp)⟩
  vp := h.vp

theorem meas_pop {u : List Plc} {st : Stt} (h : st.td ≠ []) : meas u ⟨st.ks, st.bs, st.td.dropLast⟩ + 1 = meas u st := by
  have : st.td.length ≠ 0 := fun e => h (List.eq_nil_of_length_eq_zero e)
  unfold meas miss
  simp only [List.length_dropLast]
  omega

theorem prodsAdd_inv {g : Gram} {KS : List (List Itm)} {GS : List (List Int)} (hF : GoF g KS GS) {p : Plc} (hp : VP g KS p) (l : Bits) {st : Stt} (h : GInv g KS st) : ∀ m, m ≤ g.Prods.length → GInv g KS (prodsAdd g p l st m) ∧ meas (univ g KS) (prodsAdd g p l st m) ≤ meas (univ g KS) st
  | 0, _ => ⟨h, Nat.le_refl _⟩
  | m + 1, hm => by
    obtain ⟨h1, h2⟩ := prodsAdd_inv hF hp l h m (by omega)
    rw [prodsAdd_succ]
    split
    · rename_i hl
      have hv := hp.prod hF (by omega) hl
      exact ⟨h1.add hv l, Nat.le_trans (meas_add h1.ok hv.mem l) h2⟩
    · exact ⟨h1, h2⟩

end Go.Proofs.YtcnpjhaedjncdaaGreatDoor
