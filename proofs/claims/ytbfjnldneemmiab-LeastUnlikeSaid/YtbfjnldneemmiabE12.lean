/-
  The engine, twelfth part: from the model's reading of an argument to the kinds of data; from a contract to the walk of a law.
-/
import Derived.Test.YtbfjnldneemmiabE11
import Derived.WalkKit
import Derived.ProofKit
import Derived.OpenShut
import Derived.ShutString
import Derived.ChangeOld
import Derived.Below
import Derived.SizedLaws
namespace Go.Proofs.Ytbfjnldneemmiab.E
set_option linter.all false
open Go.RowKit

/-- What the model reads as a value of a type is data of a kind. -/
def Opn {α : Type} (P : Program) (t : TypeId) (k : Kd α) : Prop :=
  ∀ (H : Type) (enc : TypeId × Value → H) (w : World) (fuel : Nat) (cs : List Value) (x : DataW H × List MemPlace),
    DataW.trod enc P w 0 (fun _ => true) true fuel t cs = some x → (∀ n ∈ x.1.weights P t, n ≤ 140737488351232) → ∃ y, k.R w (fun b => b < w.heap.size) cs y

theorem op_int {P : Program} {t : TypeId} (ht : P.underlying t = some (.int .i64)) : Opn P t kint := by
  intro H enc w fuel cs x h _
  obtain ⟨n, rfl, _, hw⟩ := DataW.trod_int ht h
  refine ⟨n, rfl, ?_⟩
  simp only [Lit.wf, Bool.and_eq_true, decide_eq_true_eq] at hw
  exact hw

theorem op_bool {P : Program} {t : TypeId} (ht : P.underlying t = some .bool) : Opn P t kbool := by
  intro H enc w fuel cs x h _
  obtain ⟨b, rfl, _⟩ := DataW.trod_bool ht h
  exact ⟨b, rfl⟩

theorem op_str {P : Program} {t : TypeId} (ht : P.underlying t = some .string) : Opn P t kstr := by
  intro H enc w fuel cs x h _
  obtain ⟨s, rfl, _⟩ := DataW.trod_string ht h
  exact ⟨s, rfl⟩

theorem op_iso {α β : Type} {P : Program} {t : TypeId} {k : Kd α} {f : β → α} (hs : ∀ y, ∃ x, f x = y) (h : Opn P t k) : Opn P t (kiso k f) := by
  intro H enc w fuel cs x hx hw
  obtain ⟨y, hy⟩ := h H enc w fuel cs x hx hw
  obtain ⟨z, rfl⟩ := hs y
  exact ⟨z, hy⟩

theorem weightsAll_mem {H : Type} {P : Program} {e : TypeId} : ∀ {ds : List (DataW H)} {d : DataW H}, d ∈ ds → ∀ n ∈ d.weights P e, n ∈ DataW.weightsAll P e ds
  | a :: ds, d, hd, n, hn => by
    simp only [DataW.weightsAll, List.mem_append]
    rcases List.mem_cons.1 hd with rfl | h
    · exact .inl hn
    · exact .inr (weightsAll_mem h n hn)
  | [], _, hd, _, _ => by cases hd

theorem op_slice {α : Type} {P : Program} {t e : TypeId} {k : Kd α} {bytes : Nat} (ht : P.underlying t = some (.slice e)) (hb : P.bytesOf e = bytes) (hc : P.cellsOf e = k.sz) (hp : 0 < k.sz) (h : Opn P e k) :
    Opn P t (kslice bytes k) := by
  intro H enc w fuel cs x hx hw
  rcases DataW.trod_slice ht hx with ⟨rfl, _⟩ | ⟨a, len, cap, elems, rest, n, _, rfl, rfl, _, hl, _, hlen, hel, _, _⟩
  · exact ⟨[], none, 0, rfl, Nat.le_refl _, by simp, fun i hi => absurd hi (Nat.not_lt_zero _)⟩
  · simp only [DataW.weights, ht, List.mem_cons, List.mem_append] at hw
    have cells : ∀ i, i < len → ∃ d es, elems[i]? = some d ∧ es.length = k.sz ∧ (∀ j, j < k.sz → w.cell? ((a.add (i * k.sz)).add j) = es[j]?) ∧ DataW.trod enc P w 0 (fun _ => true) true n e es = some d := by
      intro i hi
      have h1 := hel i hi
      obtain ⟨d, hd⟩ : ∃ d, elems[i]? = some d := ⟨elems[i]'(by omega), List.getElem?_eq_getElem _⟩
      rw [hd, Option.bind_eq_some_iff] at h1
      obtain ⟨es, he, hy⟩ := h1
      obtain ⟨_, hlen', hcell⟩ := World.cells?_some he
      rw [hc] at hlen' hcell
      exact ⟨d, es, hd, hlen', hcell, hy⟩
    have hadd : ∀ (a : Addr) (i j : Nat), (a.add i).add j = a.add (i + j) := by
      intro a i j
      unfold Addr.add
      by_cases hi : i = 0
      · subst hi; simp
      · by_cases hj : j = 0
        · subst hj; simp [hi]
        · simp [hi, hj, Nat.add_assoc]
    have form : 0 < len → ∃ b o, a = ⟨b, o, none⟩ ∧ b < w.heap.size := by
      intro h0
      obtain ⟨d, es, _, hl', hcell, _⟩ := cells 0 h0
      have h1 := hcell 0 hp
      obtain ⟨v0, hv0⟩ : ∃ v, es[0]? = some v := ⟨es[0]'(by omega), List.getElem?_eq_getElem _⟩
      rw [hv0, hadd] at h1
      simp only [Nat.zero_mul, Nat.add_zero] at h1
      have ha0 : a.add 0 = a := by simp [Addr.add]
      rw [ha0] at h1
      obtain ⟨b, o, s⟩ := a
      unfold World.cell? at h1
      split at h1
      · rename_i hb
        have hlt : b < w.heap.size := (Array.getElem?_eq_some_iff.1 hb).1
        cases s with
        | none => exact ⟨b, o, rfl, hlt⟩
        | some s => simp at h1
      · cases h1
    have each : ∀ i : Fin len, ∃ y : α, ∃ b o es, (some a : Option Addr) = some ⟨b, o, none⟩ ∧ b < w.heap.size ∧ k.R w (fun b => b < w.heap.size) es y ∧ ∀ j u, es[j]? = some u → w.cell? ⟨b, o + i * k.sz + j, none⟩ = some u := by
      intro ⟨i, hi⟩
      obtain ⟨d, es, hd, hl', hcell, hy⟩ := cells i hi
      obtain ⟨b, o, rfl, hlt⟩ := form (by omega)
      obtain ⟨y, hy⟩ := h H enc w n es d hy fun m hm => hw m (.inr (.inl (weightsAll_mem (List.mem_map_of_mem (List.mem_of_getElem? hd)) m hm)))
      refine ⟨y, b, o, es, rfl, hlt, hy, fun j u hu => ?_⟩
      have hj : j < es.length := (List.getElem?_eq_some_iff.1 hu).1
      have h2 := hcell j (by omega)
      rw [hu, hadd] at h2
      rw [← h2]
      unfold Addr.add
      by_cases h0 : i * k.sz + j = 0
      · rw [if_pos h0, Nat.add_assoc, h0]; rfl
      · rw [if_neg h0, Nat.add_assoc]
    refine ⟨List.ofFn fun i => Classical.choose (each i), some a, cap, by simp, by simpa using hl, ?_, ?_⟩
    · have := hw _ (.inl rfl)
      simp only [List.length_map, hb] at this
      simp only [List.length_ofFn]
      have h3 : len * bytes ≤ (elems.length + rest.length) * bytes := Nat.mul_le_mul_right _ (by omega)
      omega
    · intro i hi
      simp only [List.length_ofFn] at hi
      simp only [List.getElem_ofFn]
      exact Classical.choose_spec (each ⟨i, hi⟩)

/-- What the model reads as the fields of a struct from an offset on. -/
def OpnS {α : Type} (P : Program) (fs : List Field) (k : Kd α) (o : Nat) : Prop :=
  ∀ (H : Type) (enc : TypeId × Value → H) (w : World) (n : Nat) (cs : List Value) (xs : List (DataW H × List MemPlace)), xs.length = fs.length →
    (∀ (i : Nat) (f : Field), fs[i]? = some f → DataW.trod enc P w 0 (fun _ => true) true n f.type ((cs.drop f.offset).take (P.cellsOf f.type)) = xs[i]?) →
    (∀ n ∈ DataW.weightsEach P (fs.map (·.type)) (xs.map (·.1)), n ≤ 140737488351232) → ∃ y, k.R w (fun b => b < w.heap.size) ((cs.drop o).take k.sz) y

theorem ops_one {α : Type} {P : Program} {f : Field} {k : Kd α} (hc : P.cellsOf f.type = k.sz) (h : Opn P f.type k) : OpnS P [f] k f.offset := by
  intro H enc w n cs xs hl hx hw
  match xs, hl with
  | [x], _ =>
    have h0 := hx 0 f rfl
    rw [hc] at h0
    exact h H enc w n _ x h0 fun m hm => hw m (by simp [DataW.weightsEach, hm])

theorem ops_cons {α β : Type} {P : Program} {f : Field} {fs : List Field} {k : Kd α} {l : Kd β} {o : Nat} (hc : P.cellsOf f.type = k.sz) (h : Opn P f.type k) (ho : f.offset + k.sz = o) (hs : OpnS P fs l o) :
    OpnS P (f :: fs) (kpair k l) f.offset := by
  intro H enc w n cs xs hl hx hw
  match xs, hl with
  | x :: xs, hl =>
    have h0 := hx 0 f rfl
    rw [hc] at h0
    obtain ⟨y, hy⟩ := h H enc w n _ x h0 fun m hm => hw m (by simp [DataW.weightsEach, hm])
    obtain ⟨z, hz⟩ := hs H enc w n cs xs (by simpa using hl) (fun i g hg => hx (i + 1) g (by simpa using hg)) fun m hm => hw m (by simp only [List.map_cons, DataW.weightsEach, List.mem_append]; exact .inr hm)
    refine ⟨(y, z), _, _, ?_, hy, hz⟩
    show (cs.drop f.offset).take (k.sz + l.sz) = _
    rw [List.take_add, List.drop_drop, ho]

theorem op_struct {α : Type} {P : Program} {t : TypeId} {fs : Array Field} {k : Kd α} (ht : P.underlying t = some (.struct fs)) (hc : P.cellsOf t = k.sz) (h : OpnS P fs.toList k 0) : Opn P t k := by
  intro H enc w fuel cs x hx hw
  obtain ⟨xs, n, _, rfl, hl, hlen, hf⟩ := DataW.trod_struct ht hx
  simp only [DataW.weights, ht] at hw
  obtain ⟨y, hy⟩ := h H enc w n cs xs (by simpa using hlen) (fun i f hi => hf i f (by simpa using hi)) hw
  rw [List.drop_zero, List.take_of_length_le (by rw [hl, hc]; exact Nat.le_refl _)] at hy
  exact ⟨y, hy⟩

/-- A parameter of a law: the kind's reading, out of the model's. -/
theorem op_arg {H α : Type} {P : Program} {t : TypeId} {k : Kd α} (ho : Opn P t k) {enc : TypeId × Value → H} {w : World} {fuel : Nat} {cs : List Value} {x : DataW H × List MemPlace} {ts : List TypeId} {ds : List (DataW H)} {j : Nat}
    (hx : DataW.trod enc P w 0 (fun _ => true) true fuel t cs = some x) (hz : (DataW.weightsEach P ts ds).all (· ≤ reachBytes) = true) (ht : ts[j]? = some t) (hd : ds[j]? = some x.1) : ∃ y, k.R w (fun b => b < w.heap.size) cs y :=
  ho H enc w fuel cs x hx fun n hn => of_decide_eq_true (List.all_eq_true.1 hz _ (DataW.weights_mem_each ht hd n hn))

/-- From a contract that owns nothing to the walk of a law. -/
theorem Trip.law {P : Program} {f : FuncId} {args : List Value} {R : Rd} {v : Value} (h : Trip P f args R [] (fun u V => u = v ∧ V = [])) (w : World) (hR : R.P w (fun b => b < w.heap.size)) :
    Calls P f args.toArray w fun e w' => e = .returned v ∧ Below w.heap.size w w' :=
  (h.calls w (fun _ => False) (fun _ h => h.elim) trivial (R.mono _ _ _ (fun _ hb => ⟨hb, fun h => h⟩) hR)).mono
    fun _ _ ⟨_, _, _, he, ⟨hv, _⟩, _, _, st⟩ => ⟨hv ▸ he, st.os, st.tape, st.output, st.size, fun b hb => st.same b hb fun h => h⟩

end Go.Proofs.Ytbfjnldneemmiab.E
