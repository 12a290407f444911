/-
  The engine, fifth part: data that is read (numbers, strings, slices, structs), loops that keep part of the frame, small aids.
-/
import Derived.Test.YtbfjnldneemmiabE4
namespace Go.Proofs.Ytbfjnldneemmiab.E
set_option linter.all false
variable {E : Env} {fr : Frm} {U : List Asn} {N : Frm → List Asn → Prop}

/-- How a value of a type lies in cells. -/
structure Kd (α : Type) where
  sz : Nat
  R : World → BSet → List Value → α → Prop
  len : ∀ {w S cs x}, R w S cs x → cs.length = sz
  fr : ∀ {w w' : World} {S : BSet} {cs x}, (∀ b, S b → w'.heap[b]? = w.heap[b]?) → R w S cs x → R w' S cs x
  mono : ∀ {w : World} {S S' : BSet} {cs x}, (∀ b, S b → S' b) → R w S cs x → R w S' cs x

def Kd.rd {α : Type} (k : Kd α) (cs : List Value) (x : α) : Rd := ⟨fun w S => k.R w S cs x, fun _ _ _ h hr => k.fr h hr, fun _ _ _ h hr => k.mono h hr⟩

/-- Numbers of the kind int. -/
def I64 (x : Int) : Prop := -9223372036854775808 ≤ x ∧ x ≤ 9223372036854775807

def kint : Kd Int where
  sz := 1
  R := fun _ _ cs x => cs = [.int .i64 x] ∧ I64 x
  len := by rintro w S cs x ⟨rfl, _⟩; rfl
  fr := fun _ h => h
  mono := fun _ h => h

def kbool : Kd Bool where
  sz := 1
  R := fun _ _ cs x => cs = [.bool x]
  len := by rintro w S cs x rfl; rfl
  fr := fun _ h => h
  mono := fun _ h => h

def kstr : Kd ByteArray where
  sz := 1
  R := fun _ _ cs x => cs = [.string x]
  len := by rintro w S cs x rfl; rfl
  fr := fun _ h => h
  mono := fun _ h => h

/-- The elements of a row from an address on. -/
def Els {α : Type} (k : Kd α) (w : World) (S : BSet) (A : Option Addr) (xs : List α) : Prop :=
  ∀ i (h : i < xs.length), ∃ b o es, A = some ⟨b, o, none⟩ ∧ S b ∧ k.R w S es xs[i] ∧ ∀ j u, es[j]? = some u → w.cell? ⟨b, o + i * k.sz + j, none⟩ = some u

theorem els_fr {α : Type} {k : Kd α} {w w' : World} {S : BSet} {A : Option Addr} {xs : List α} (h : ∀ b, S b → w'.heap[b]? = w.heap[b]?) (hr : Els k w S A xs) : Els k w' S A xs := by
  intro i hi
  obtain ⟨b, o, es, hA, hb, he, hc⟩ := hr i hi
  exact ⟨b, o, es, hA, hb, k.fr h he, fun j u hu => by rw [cell_block (h b hb)]; exact hc j u hu⟩

theorem els_mono {α : Type} {k : Kd α} {w : World} {S S' : BSet} {A : Option Addr} {xs : List α} (h : ∀ b, S b → S' b) (hr : Els k w S A xs) : Els k w S' A xs := by
  intro i hi
  obtain ⟨b, o, es, hA, hb, he, hc⟩ := hr i hi
  exact ⟨b, o, es, hA, h b hb, k.mono h he, hc⟩

/-- A slice; an element has so many bytes. -/
def kslice {α : Type} (bytes : Nat) (k : Kd α) : Kd (List α) where
  sz := 1
  R := fun w S cs xs => ∃ A c, cs = [.slice A xs.length c] ∧ xs.length ≤ c ∧ xs.length * bytes ≤ 140737488355328 ∧ Els k w S A xs
  len := by rintro w S cs x ⟨A, c, rfl, _⟩; rfl
  fr := by rintro w w' S cs x h ⟨A, c, h1, h2, h3, h4⟩; exact ⟨A, c, h1, h2, h3, els_fr h h4⟩
  mono := by rintro w S S' cs x h ⟨A, c, h1, h2, h3, h4⟩; exact ⟨A, c, h1, h2, h3, els_mono h h4⟩

def kpair {α β : Type} (a : Kd α) (b : Kd β) : Kd (α × β) where
  sz := a.sz + b.sz
  R := fun w S cs x => ∃ c1 c2, cs = c1 ++ c2 ∧ a.R w S c1 x.1 ∧ b.R w S c2 x.2
  len := by rintro w S cs x ⟨c1, c2, rfl, h1, h2⟩; rw [List.length_append, a.len h1, b.len h2]
  fr := by rintro w w' S cs x h ⟨c1, c2, h1, h2, h3⟩; exact ⟨c1, c2, h1, a.fr h h2, b.fr h h3⟩
  mono := by rintro w S S' cs x h ⟨c1, c2, h1, h2, h3⟩; exact ⟨c1, c2, h1, a.mono h h2, b.mono h h3⟩

def kiso {α β : Type} (a : Kd α) (f : β → α) : Kd β where
  sz := a.sz
  R := fun w S cs x => a.R w S cs (f x)
  len := fun h => a.len h
  fr := fun h hr => a.fr h hr
  mono := fun h hr => a.mono h hr

/-- What a load of an element finds: several cells. -/
theorem loads_agg {w : World} {i : TI} {b o : Nat} {es : List Value} (ha : aggB i.d = true) (hl : es.length = i.size) (hc : ∀ j u, es[j]? = some u → w.cell? ⟨b, o + j, none⟩ = some u) :
    loads w i b o (.agg es.toArray) := by
  refine ⟨es, hc, ?_⟩
  unfold loadL
  have : Nat.ble (0 + i.size) es.length = true := by rw [Nat.ble_eq, Nat.zero_add]; omega
  simp only [ha, cond_true, this, List.drop_zero]
  rw [← hl, List.take_length]

/-- One cell. -/
theorem loads_one {w : World} {i : TI} {b o : Nat} {v : Value} (ha : aggB i.d = false) (hc : w.cell? ⟨b, o, none⟩ = some v) : loads w i b o v :=
  ⟨[v], fun j u hu => by
    cases j with
    | zero => simp at hu; subst hu; simpa using hc
    | succ j => simp at hu, by unfold loadL; simp [ha]⟩

/-! ### numbers -/
theorem wrap_i64 {x : Int} (h1 : -9223372036854775808 ≤ x) (h2 : x ≤ 9223372036854775807) : IntKind.i64.wrap x = x := by
  rw [IntKind.wrap_i64]; omega

theorem int_eq {k : IntKind} {a b : Int} (h : a = b) : Value.int k a = Value.int k b := by rw [h]

/-! ### loops -/
def pickFr (fr : Frm) : List Nat → Option Frm
  | [] => some []
  | d :: ds => match look fr d, pickFr fr ds with
    | some v, some r => some ((d, v) :: r)
    | _, _ => none

theorem s_loopK {K : Frm → List Asn → Prop} {k : List It} {c : Code} {ι : Type} {base : Frm} (keep : List Nat) (hk : pickFr fr keep = some base) (x : ι) (vars : ι → Frm) (V : ι → List Asn) (μ : ι → Nat)
    (hs : Sub fr (vars x ++ base)) (he : Ent U (V x))
    (round : ∀ i, EVS E K (.code c :: .back (fun fr' U' => ∃ j, μ j < μ i ∧ Sub fr' (vars j ++ base) ∧ Ent U' (V j)) :: k) (vars i ++ base) (V i)) :
    EVS E K (.code (.loop c) :: k) fr U :=
  s_loop x (fun i => vars i ++ base) V μ hs he round

theorem Sub.consE {fr fr' : Frm} {d : Nat} {u v : Value} (h : look fr d = some u) (e : u = v) (hs : Sub fr fr') : Sub fr ((d, v) :: fr') := Sub.cons (e ▸ h) hs

/-- What is owned may be told otherwise. -/
theorem e_ent {K : Frm → List Asn → Prop} {k : List It} {ops : Array Oper} {l : List Oper} {V : List Asn} (he : Ent U V) (h : EVO E K k ops l fr V) : EVO E K k ops l fr U :=
  e_weak (Sub.refl _) he h

/-- A slice that is one's own: where it is not nil it begins at a block. -/
theorem osl_form {e : TypeId} {sz n c k : Nat} {A : Option Addr} {xs : List Value} {w : World} {S : BSet} (h : (osl e sz (.slice A n c) k xs).P w S) (hk : 0 < k) : ∃ b, A = some ⟨b, 0, none⟩ := by
  rcases h.1.2 with ⟨h1, h2⟩ | ⟨g, cap, cur, hv, _⟩
  · omega
  · simp only [Value.slice.injEq] at hv; exact ⟨g, hv.1⟩

theorem e_open {K : Frm → List Asn → Prop} {k : List It} {ops : Array Oper} {l : List Oper} {e : TypeId} {sz n c m : Nat} {A : Option Addr} {xs : List Value} {U' : List Asn}
    (ht : Tak (osl e sz (.slice A n c) m xs) U U') (hm : 0 < m) (h : ∀ b, A = some ⟨b, 0, none⟩ → EVO E K k ops l fr U) : EVO E K k ops l fr U := by
  intro a w hf hme
  obtain ⟨S1, hP, _⟩ := hme.tak ht
  obtain ⟨b, hb⟩ := osl_form hP hm
  exact h b hb a w hf hme

theorem l_open {K : Frm → List Asn → Prop} {k : List It} {ops : Array Oper} {es : List Nat} {V : List Asn} {i : Nat} {l : List Oper} {e : TypeId} {sz n c m : Nat} {A : Option Addr} {xs : List Value} {U' : List Asn}
    (ht : Tak (osl e sz (.slice A n c) m xs) U U') (hm : 0 < m) (h : ∀ b, A = some ⟨b, 0, none⟩ → EVL E K k ops es V i l fr U) : EVL E K k ops es V i l fr U := by
  intro h0 h3 a w hf hme
  obtain ⟨S1, hP, _⟩ := hme.tak ht
  obtain ⟨b, hb⟩ := osl_form hP hm
  exact h b hb h0 h3 a w hf hme

end Go.Proofs.Ytbfjnldneemmiab.E
