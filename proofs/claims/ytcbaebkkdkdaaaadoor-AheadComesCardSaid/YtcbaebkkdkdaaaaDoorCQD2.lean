/-
  Canonical items in order, and one more.
-/
import Derived.Test.YtcbaebkkdkdaaaaDoorCQD1
import Derived.Test.YtcbaebkkdkdaaaaDoorAhBase4

namespace Go.Proofs.YtcbaebkkdkdaaaaDoor
set_option linter.all false
open Go.Proofs.YtcbaebkkdkdaaaaDoor.E

def encO (o : On) : List Value := [.int .i64 o.x.Prod, .int .i64 o.x.Dot, .int .i64 o.t]
abbrev pO (A : Option Addr) (n c : Nat) (l : List On) : Asn := osl 75 3 (.slice A n c) n (l.flatMap encO)
theorem load_cellO {xs : List Value} {o : Nat} {v : Value} {i : TI} (ha : aggB i.d = false) (h : xs[o]? = some v) : loadL i xs o = some v := by unfold loadL; rw [ha]; exact h

theorem encO_len (l : List On) : (l.flatMap encO).length = l.length * 3 := by
  induction l with
  | nil => rfl
  | cons x l ih => rw [List.flatMap_cons, List.length_append, ih]; simp [encO]; omega

theorem encO_one (l : List On) : ∀ u ∈ l.flatMap encO, oneB u = true := by
  intro u hu
  obtain ⟨x, _, hx⟩ := List.mem_flatMap.1 hu
  unfold encO at hx
  simp only [List.mem_cons, List.not_mem_nil, or_false] at hx
  rcases hx with rfl | rfl | rfl <;> rfl

theorem encO_get : ∀ {l : List On} {i : Nat} (h : i < l.length), ((l.flatMap encO).drop (i * 3)).take 3 = encO l[i]
  | x :: l, 0, _ => by simp [encO]
  | x :: l, i + 1, h => by
    have h2 : i < l.length := by simpa using h
    rw [List.flatMap_cons, List.getElem_cons_succ, ← encO_get h2, show (i + 1) * 3 = 3 + i * 3 by omega, ← List.drop_drop]
    rfl

theorem encO_load {l : List On} {i : Nat} (h : i < l.length) {z : List Value} : loadL ⟨.struct [(0, 2), (2, 1)], 3, 24, z⟩ (l.flatMap encO) (0 + i * 3) = some (.agg (encO l[i]).toArray) := by
  unfold loadL
  simp only [aggB, cond_true]
  have : Nat.ble (0 + i * 3 + 3) (l.flatMap encO).length = true := by rw [encO_len]; exact Nat.ble_eq_true_of_le (by omega)
  rw [this, cond_true, Nat.zero_add, encO_get h]
theorem encO_cell {l : List On} {i k : Nat} (h : i < l.length) (hk : k < 3) : (l.flatMap encO)[i * 3 + k]? = (encO l[i])[k]? := by
  have := encO_get h
  rw [← this, List.getElem?_take_of_lt hk, List.getElem?_drop]
theorem encO_ldP {l : List On} {i o : Nat} (h : i < l.length) (ho : o = i * 3) {s b : Nat} {z : List Value} : loadL ⟨.int .i64, s, b, z⟩ (l.flatMap encO) o = some (.int .i64 l[i].x.Prod) := by
  subst ho; exact load_cellO rfl (encO_cell (k := 0) h (by omega))
theorem encO_ldD {l : List On} {i o : Nat} (h : i < l.length) (ho : o = i * 3 + 1) {s b : Nat} {z : List Value} : loadL ⟨.int .i64, s, b, z⟩ (l.flatMap encO) o = some (.int .i64 l[i].x.Dot) := by
  subst ho; exact load_cellO rfl (encO_cell (k := 1) h (by omega))
theorem encO_ldT {l : List On} {i o : Nat} (h : i < l.length) (ho : o = i * 3 + 2) {s b : Nat} {z : List Value} : loadL ⟨.int .i64, s, b, z⟩ (l.flatMap encO) o = some (.int .i64 l[i].t) := by
  subst ho; exact load_cellO rfl (encO_cell (k := 2) h (by omega))

theorem encO_take : ∀ {l : List On} {n : Nat}, (l.take n).flatMap encO = (l.flatMap encO).take (n * 3)
  | [], n => by simp
  | x :: l, 0 => by simp
  | x :: l, n + 1 => by
    rw [List.take_succ_cons, List.flatMap_cons, List.flatMap_cons, encO_take (l := l) (n := n), show (n + 1) * 3 = n * 3 + 3 by omega]
    rfl

theorem encO_drop : ∀ {l : List On} {n : Nat}, (l.drop n).flatMap encO = (l.flatMap encO).drop (n * 3)
  | [], n => by simp
  | x :: l, 0 => by simp
  | x :: l, n + 1 => by
    rw [List.drop_succ_cons, List.flatMap_cons, encO_drop (l := l) (n := n), show (n + 1) * 3 = n * 3 + 3 by omega]
    rfl


theorem f75 : Tryd.prog.fieldsOf 75 = #[{ name := "x", type := 42, offset := 0, embedded := false, tag := "", pkgPath := "incunable/incunablelaw20", byteOffset := 0 }, { name := "t", type := 3, offset := 2, embedded := false, tag := "", pkgPath := "incunable/incunablelaw20", byteOffset := 16 }] := by kernel_rfl
theorem part42' (w : World) (a b c : Int) : (part 42 #[.int .i64 a, .int .i64 b, .int .i64 c] 0).run Tryd.prog w = .ok (.agg #[.int .i64 a, .int .i64 b]) w := by
  have hs : (sizeOf 42).run Tryd.prog w = .ok 2 w := by kernel_rfl
  have ha : (isAgg 42).run Tryd.prog w = .ok true w := by kernel_rfl
  unfold part
  simp [ha, hs, Result.andThen]
theorem eqOn {a b : On} : decide (a = b) = (decide (a.x = b.x) && (a.t == b.t)) := by
  obtain ⟨x, t⟩ := a
  obtain ⟨x', t'⟩ := b
  rw [Bool.eq_iff_iff]; simp
theorem equalO (w : World) (a b : On) : (Op.equal 75 (.agg (encO a).toArray) (.agg (encO b).toArray)).run Tryd.prog w = .ok (decide (a = b)) w := by
  unfold Op.equal Op.maxDepth encO
  rw [run_equalIn_struct (P := Tryd.prog) w 9999 75 _ _ (by kernel_rfl) (by kernel_rfl), f75]
  have e : ∀ u v : Int, (Op.equalIn 9999 3 (.int .i64 u) (.int .i64 v)).run Tryd.prog w = .ok (u == v) w := fun u v => run_equalIn_int w 9998 3 .i64 .i64 u v Tryd.underlying3
  have e2 : ∀ u v : Int, (Op.equalIn 9998 3 (.int .i64 u) (.int .i64 v)).run Tryd.prog w = .ok (u == v) w := fun u v => run_equalIn_int w 9997 3 .i64 .i64 u v Tryd.underlying3
  have e42 : ∀ p q u v : Int, (Op.equalIn 9999 42 (.agg #[.int .i64 p, .int .i64 q]) (.agg #[.int .i64 u, .int .i64 v])).run Tryd.prog w = .ok (p == u && q == v) w := fun p q u v => by
    rw [run_equalIn_struct (P := Tryd.prog) w 9998 42 _ _ (by kernel_rfl) (by kernel_rfl), f42]
    simp only [Op.eqFields]
    simp only [Sem.run_bind, part3 w #[.int .i64 p, .int .i64 q] 0 p rfl, part3 w #[.int .i64 u, .int .i64 v] 0 u rfl, part3 w #[.int .i64 p, .int .i64 q] 1 q rfl, part3 w #[.int .i64 u, .int .i64 v] 1 v rfl, e2, Result.andThen_ok, Sem.run_ite, Sem.run_pure]
    cases p == u <;> cases q == v <;> simp [part3 w #[.int .i64 p, .int .i64 q] 1 q rfl, part3 w #[.int .i64 u, .int .i64 v] 1 v rfl, e2, *]
  rw [eqOn, ← eqItm]
  simp only [Op.eqFields]
  simp only [Sem.run_bind, part42', part3 w #[.int .i64 a.x.Prod, .int .i64 a.x.Dot, .int .i64 a.t] 2 a.t rfl, part3 w #[.int .i64 b.x.Prod, .int .i64 b.x.Dot, .int .i64 b.t] 2 b.t rfl, e, e42, Result.andThen_ok, Sem.run_ite, Sem.run_pure]
  cases (a.x.Prod == b.x.Prod && a.x.Dot == b.x.Dot) <;> cases (a.t == b.t) <;> simp [part3 w #[.int .i64 a.x.Prod, .int .i64 a.x.Dot, .int .i64 a.t] 2 a.t rfl, part3 w #[.int .i64 b.x.Prod, .int .i64 b.x.Dot, .int .i64 b.t] 2 b.t rfl, e, *]

theorem n_eqlO {w0 : World} {SM : BSet} {n : Nat} {fr : Frm} {U : List Asn} {x y : Operand} {a b : On} {t2 : TypeId} (hx : val fr x = some (.agg (encO a).toArray)) (hy : val fr y = some (.agg (encO b).toArray)) :
    NEV ⟨Tryd.prog, Tryd.tab, Tryd.tabOk, n, w0, SM⟩ (.binOp .eql 75 x y t2) fr U (.bool (decide (a = b))) := by
  intro ac w dst ty pos af g hf _
  have hg : Tryd.prog.eqGuardType Tryd.prog.depth 75 = false := by kernel_rfl
  have he := equalO w a b
  unfold execOp
  simp only [hf.eval hx, hf.eval hy]
  simp [eqGuard, hg, binOp, he]

end Go.Proofs.YtcbaebkkdkdaaaaDoor
