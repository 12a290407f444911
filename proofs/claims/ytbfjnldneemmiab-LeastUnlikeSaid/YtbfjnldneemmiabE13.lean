/-
  The engine, thirteenth part: data that is one's own and only read; copies.
-/
import Derived.Test.YtbfjnldneemmiabE12
namespace Go.Proofs.Ytbfjnldneemmiab.E
set_option linter.all false
variable {E : Env} {fr : Frm} {U : List Asn} {N : Frm → List Asn → Prop}

/-- Data of a kind, in blocks of one's own. -/
def rdA {α : Type} (k : Kd α) (cs : List Value) (x : α) : Asn := ⟨fun w S => k.R w S cs x, fun _ _ _ h hr => k.fr h hr⟩

/-- Several data of a kind. -/
def rdL {α : Type} (k : Kd α) (ess : List (List Value)) (xs : List α) : Asn :=
  ⟨fun w S => ess.length = xs.length ∧ ∀ i (h1 : i < ess.length) (h2 : i < xs.length), k.R w S ess[i] xs[i], fun _ _ _ h ⟨hl, hr⟩ => ⟨hl, fun i h1 h2 => k.fr h (hr i h1 h2)⟩⟩

theorem Can.rdA {α : Type} {k : Kd α} {cs : List Value} {x : α} {U' : List Asn} (ht : Tak (rdA k cs x) U U') : Can E U (k.rd cs x) :=
  Can.of fun _ _ hs => by
    obtain ⟨_, h1, hsub⟩ := ht.mem hs
    exact k.mono hsub h1

/-- Two assertions, each of which allows its set to grow, as one. -/
theorem Ent.two {A B C : Asn} {U : List Asn} (h : ∀ w S1 S2, A.P w S1 → B.P w S2 → C.P w (fun b => S1 b ∨ S2 b)) : Ent (A :: B :: U) (C :: U) := by
  rintro w S ⟨S1, S2, h1, ⟨S3, S4, h3, h4, hd2, j1, j2⟩, hd, i1, i2⟩
  refine ⟨fun b => S1 b ∨ S3 b, S4, h w S1 S3 h1 h3, h4, ?_, ?_, fun b hb => i2 b (j2 b hb)⟩
  · rintro b (hb | hb) hc
    · exact hd b hb (j2 b hc)
    · exact hd2 b hb hc
  · rintro b (hb | hb)
    · exact i1 b hb
    · exact i2 b (j1 b hb)

theorem Ent.one {A C : Asn} {U : List Asn} (h : ∀ w S, A.P w S → C.P w S) : Ent (A :: U) (C :: U) := by
  rintro w S ⟨S1, S2, h1, h2, hd, i1, i2⟩
  exact ⟨S1, S2, h w S1 h1, h2, hd, i1, i2⟩

theorem ent_nilL {α : Type} {k : Kd α} : Ent U (rdL k [] ([] : List α) :: U) := fun w S hs =>
  ⟨fun _ => False, S, ⟨rfl, fun i h1 => absurd h1 (Nat.not_lt_zero _)⟩, hs, fun _ h => h.elim, fun _ h => h.elim, fun _ h => h⟩

theorem ent_snoc {α : Type} {k : Kd α} {ess : List (List Value)} {xs : List α} {es : List Value} {x : α} : Ent (rdL k ess xs :: rdA k es x :: U) (rdL k (ess ++ [es]) (xs ++ [x]) :: U) :=
  Ent.two fun w S1 S2 ⟨hl, h1⟩ h2 => ⟨by simp [hl], fun i h3 h4 => by
    by_cases hi : i < ess.length
    · rw [List.getElem_append_left hi, List.getElem_append_left (by omega)]
      exact k.mono (fun _ h => .inl h) (h1 i hi (by omega))
    · have e1 : i = ess.length := by simp at h3; omega
      subst e1
      have e2 : (ess ++ [es])[ess.length]'h3 = es := by simp
      have e3 : (xs ++ [x])[ess.length]'h4 = x := by simp [hl]
      rw [e2, e3]
      exact k.mono (fun _ h => .inr h) h2⟩

theorem ent_slice {α : Type} {k : Kd α} {bytes n c : Nat} {e : TypeId} {A : Option Addr} {ess : List (List Value)} {xs : List α} (hn : n = xs.length) (hb : n * bytes ≤ 140737488355328) :
    Ent (osl e k.sz (.slice A n c) n ess.flatten :: rdL k ess xs :: U) (rdA (kslice bytes k) [.slice A n c] xs :: U) :=
  Ent.two fun w S1 S2 h1 ⟨hl, h2⟩ => by
    obtain ⟨h3, h4⟩ := osl_elsG (S := fun b => S1 b ∨ S2 b) h1 (fun _ h => .inl h) hl hn fun i h1 h2' => k.mono (fun _ h => .inr h) (h2 i h1 h2')
    subst hn
    exact ⟨A, c, rfl, h4, hb, h3⟩

theorem ent_pair {α β : Type} {a : Kd α} {b : Kd β} {c1 c2 : List Value} {x : α} {y : β} : Ent (rdA a c1 x :: rdA b c2 y :: U) (rdA (kpair a b) (c1 ++ c2) (x, y) :: U) :=
  Ent.two fun _ _ _ h1 h2 => ⟨c1, c2, rfl, a.mono (fun _ h => .inl h) h1, b.mono (fun _ h => .inr h) h2⟩

/-- Data that holds no address. -/
def Flat {α : Type} (k : Kd α) : Prop := ∀ w S w' S' cs x, k.R w S cs x → k.R w' S' cs x

theorem flat_int : Flat kint := fun _ _ _ _ _ _ h => h
theorem flat_bool : Flat kbool := fun _ _ _ _ _ _ h => h
theorem flat_str : Flat kstr := fun _ _ _ _ _ _ h => h
theorem flat_pair {α β : Type} {a : Kd α} {b : Kd β} (ha : Flat a) (hb : Flat b) : Flat (kpair a b) := fun w S w' S' _ _ ⟨c1, c2, h, h1, h2⟩ => ⟨c1, c2, h, ha w S w' S' _ _ h1, hb w S w' S' _ _ h2⟩
theorem flat_iso {α β : Type} {a : Kd α} {f : β → α} (ha : Flat a) : Flat (kiso a f) := fun w S w' S' cs x h => ha w S w' S' cs (f x) h

def OneC {α : Type} (k : Kd α) : Prop := ∀ w S cs x, k.R w S cs x → ∀ u ∈ cs, oneB u = true
theorem onec_int : OneC kint := by rintro w S cs x ⟨rfl, _⟩ u hu; simp at hu; subst hu; rfl
theorem onec_bool : OneC kbool := by rintro w S cs x rfl u hu; simp at hu; subst hu; rfl
theorem onec_str : OneC kstr := by rintro w S cs x rfl u hu; simp at hu; subst hu; rfl
theorem onec_pair {α β : Type} {a : Kd α} {b : Kd β} (ha : OneC a) (hb : OneC b) : OneC (kpair a b) := by
  rintro w S cs x ⟨c1, c2, rfl, h1, h2⟩ u hu
  rcases List.mem_append.1 hu with h | h
  · exact ha w S _ _ h1 u h
  · exact hb w S _ _ h2 u h
theorem onec_iso {α β : Type} {a : Kd α} {f : β → α} (ha : OneC a) : OneC (kiso a f) := fun w S cs x h => ha w S cs (f x) h

theorem flatten_get {sz : Nat} : ∀ (ess : List (List Value)) (_ : ∀ es ∈ ess, es.length = sz) (j : Nat) (u : Value), ess.flatten[j]? = some u → ∃ i r, ∃ (h : i < ess.length), j = i * sz + r ∧ ess[i][r]? = some u
  | [], _, j, u, h => by simp at h
  | e0 :: ess, hall, j, u, h => by
    have h0 := hall e0 (List.mem_cons_self ..)
    rw [List.flatten_cons] at h
    by_cases hj : j < e0.length
    · rw [List.getElem?_append_left hj] at h
      exact ⟨0, j, by simp, by omega, by simpa using h⟩
    · rw [List.getElem?_append_right (by omega)] at h
      obtain ⟨i, r, hi, hjr, hu⟩ := flatten_get ess (fun es hes => hall es (List.mem_cons_of_mem _ hes)) _ _ h
      exact ⟨i + 1, r, by simpa using hi, by rw [Nat.succ_mul]; omega, by simpa using hu⟩

/-- The cells of a slice's elements, in a row. -/
theorem els_cells {α : Type} {k : Kd α} {w : World} {S : BSet} {b o : Nat} {xs : List α} (h : Els k w S (some ⟨b, o, none⟩) xs) :
    ∃ ess : List (List Value), ess.length = xs.length ∧ (∀ i (h1 : i < ess.length) (h2 : i < xs.length), k.R w S ess[i] xs[i]) ∧ (∀ es ∈ ess, es.length = k.sz) ∧
      ∀ j u, ess.flatten[j]? = some u → w.cell? ⟨b, o + j, none⟩ = some u := by
  have each : ∀ i : Fin xs.length, ∃ es, k.R w S es xs[i.1] ∧ ∀ j u, es[j]? = some u → w.cell? ⟨b, o + i.1 * k.sz + j, none⟩ = some u := by
    rintro ⟨i, hi⟩
    obtain ⟨b', o', es, hA, _, hR, hc⟩ := h i hi
    simp only [Option.some.injEq, Addr.mk.injEq, and_true] at hA
    obtain ⟨rfl, rfl⟩ := hA
    exact ⟨es, hR, hc⟩
  refine ⟨List.ofFn fun i => Classical.choose (each i), by simp, ?_, ?_, ?_⟩
  · intro i h1 h2
    simp only [List.getElem_ofFn]
    exact (Classical.choose_spec (each ⟨i, h2⟩)).1
  · intro es hes
    rw [List.mem_ofFn] at hes
    obtain ⟨i, rfl⟩ := hes
    exact k.len (Classical.choose_spec (each i)).1
  · intro j u hu
    obtain ⟨i, r, hi, rfl, hu2⟩ := flatten_get (sz := k.sz) _ (by
      intro es hes
      rw [List.mem_ofFn] at hes
      obtain ⟨i, rfl⟩ := hes
      exact k.len (Classical.choose_spec (each i)).1) _ _ hu
    simp only [List.getElem_ofFn] at hu2
    have h2 : i < xs.length := by simpa using hi
    have := (Classical.choose_spec (each ⟨i, h2⟩)).2 r u hu2
    rw [← Nat.add_assoc]
    exact this

/-- append(nil, l...): a copy of a slice that is read. -/
theorem o_copy {α : Type} {k : Kd α} {bytes : Nat} {d : Nat} {t e : TypeId} {x y : Operand} {ty : TypeId} {pos : String} {af : Array Edge} {g : Option (Nat × Bool)} {s1 b1 : Nat} {z1 : List Value} {i : TI}
    {A : Option Addr} {n c : Nat} {xs : List α} (hf : Flat k) (ho : OneC k)
    (ht : tl E.T t = some ⟨.slice e, s1, b1, z1⟩) (he : tl E.T e = some i) (hx : val fr x = some (.slice none 0 0)) (hy : val fr y = some (.slice A n c)) (hn : n = xs.length)
    (hr : Can E U ((kslice bytes k).rd [.slice A n c] xs)) (hsz : i.size = k.sz) (hbb : i.bytes = bytes) (hby : n * bytes ≤ 140737488355328) (hp : Nat.ble 1 bytes = true)
    (hzl : Nat.beq i.zero.length i.size = true) (hd : Nat.ble (d + 1) E.n = true)
    (h : ∀ A' c', N ((d, .slice A' n c') :: fr) (rdA (kslice bytes k) [.slice A' n c'] xs :: U)) :
    EV1 E ⟨some d, .call ⟨.builtin .append, #[x, y], #[t, t]⟩, ty, pos, af, g⟩ fr U N := by
  have hp' := Nat.le_of_ble_eq_true hp
  intro a w hfr hm
  obtain ⟨S, hs, hS⟩ := hm.own
  obtain ⟨A2, c2, hA, hc, _, hels⟩ := hr w S hm.same hs
  simp only [List.cons.injEq, Value.slice.injEq, and_true] at hA
  obtain ⟨rfl, _, rfl⟩ := hA
  by_cases hn0 : n = 0
  · subst hn0
    have hxs : xs = [] := List.eq_nil_of_length_eq_zero hn.symm
    subst hxs
    have h0 := n_append0 (E := E) (fr := fr) (U := U) (c := 0) ht he hx hy (Nat.le_refl _) a w (some d) ty pos af g hfr hm
    unfold Oper.wp
    rw [h0]
    refine ⟨_, _, h none 0, hfr.put (Nat.le_of_ble_eq_true hd) _, hm.ent ?_⟩
    exact fun w S hs => ⟨fun _ => False, S, ⟨none, 0, rfl, Nat.le_refl _, by simp, fun i hi => absurd hi (Nat.not_lt_zero _)⟩, hs, fun _ h => h.elim, fun _ h => h.elim, fun _ h => h⟩
  · have hx0 : 0 < xs.length := by omega
    obtain ⟨b, o, es, rfl, _, _, _⟩ := hels 0 hx0
    obtain ⟨ess, hl, hR, hlen, hcell⟩ := els_cells hels
    have h63 : n ≤ 9223372036854775807 := by
      have : n * 1 ≤ n * bytes := Nat.mul_le_mul_left _ hp'
      omega
    have hfl : ess.flatten.length = n * i.size := by
      rw [List.length_flatten, hsz, hn, ← hl]
      have : ess.map List.length = ess.map fun _ => k.sz := List.map_congr_left hlen
      rw [this]
      clear this hcell hR hlen hl
      induction ess with
      | nil => simp
      | cons e0 ess ih => simp only [List.map_cons, List.sum_cons, ih, List.length_cons, Nat.succ_mul]; omega
    have hone : ∀ u ∈ ess.flatten, oneB u = true := by
      intro u hu
      rw [List.mem_flatten] at hu
      obtain ⟨es', hes, hu⟩ := hu
      obtain ⟨i', hi', rfl⟩ := List.getElem_of_mem hes
      exact ho w _ _ _ (hR i' hi' (by omega)) u hu
    obtain ⟨dd, sz, bts, z⟩ := i
    obtain ⟨inf, zv, hinf, hzv, hs', hbb', hzc⟩ := ti_info he
    have hzsize : zv.cells.size = inf.size := by rw [hzc, hs']; simpa using Nat.eq_of_beq_eq_true hzl
    simp only at hfl hsz hbb
    subst hs'
    subst hbb'
    subst hbb
    have hO0 : w.ownsRow 0 e inf.size (.slice none 0 0) 0 [] := ⟨by simp, .inl ⟨rfl, rfl⟩⟩
    obtain ⟨b', c', w', hrun, hO', hgr, hb'⟩ := append_own2 (P := E.P) w t ty e inf zv (u_slice ht) hinf hzv hzsize (.slice none 0 0) 0 [] hO0 ⟨b, o, none⟩ n c ess.flatten hfl
      (fun j u hu => by rw [add_at]; exact hcell j u hu) (fun u hu => oneB_eq (hone u hu)) (by omega) (by omega) (by simpa using hby)
    have hst := step_grown hgr
    have hbe : b' = w.heap.size := by
      rcases hb' with h | h
      · cases h
      · exact h
    have hblt : b' < w'.heap.size := (World.ownsRow.lt hO' b' rfl).2
    unfold Oper.wp execOp
    simp only [resolve, invoke, builtin, Sem.run_bind, Sem.run_pure, Result.andThen_ok, List.map_toArray, List.map_cons, List.map_nil, hfr.eval hx, hfr.eval hy, hrun]
    rw [Nat.zero_add, List.nil_append, hsz] at hO'
    rw [Nat.zero_add]
    refine ⟨_, _, h (some ⟨b', 0, none⟩) c', hfr.put (Nat.le_of_ble_eq_true hd) _, hm.new (T1 := fun q => q = b') ⟨hst.os, hst.tape, hst.output, hst.size, fun q hq _ => hst.same q hq (by intro e; cases e)⟩ ?_ ?_⟩
    · obtain ⟨h3, h4⟩ := osl_elsG (kd := k) (S := fun q => q = b') (S1 := fun q => q = b') (xs := xs) ⟨hO', fun q hq => by simpa [Value.ownBlock] using hq.symm⟩ (fun _ h => h) hl hn fun i h1 h2 => hf w _ _ _ _ _ (hR i h1 h2)
      subst hn
      exact ⟨_, c', rfl, h4, hby, h3⟩
    · rintro q rfl
      exact ⟨hblt, by omega⟩

theorem ent_can {α : Type} {k : Kd α} {cs : List Value} {x : α} {A : Asn} (P : Program) (h : ∀ E : Env, Can E [A] (k.rd cs x)) : Ent (A :: U) (rdA k cs x :: U) :=
  Ent.one fun w S hA => k.mono (fun b hb => hb.elim (fun h => absurd trivial h.2) id)
    (h ⟨P, [], (fun _ h => nomatch h), 0, w, fun _ => True⟩ w S (fun _ _ => rfl) ⟨S, fun _ => False, hA, trivial, fun _ _ h => h, fun _ h => h, fun _ h => h.elim⟩)

/-- A contract, what comes back told otherwise. -/
theorem Trip.monoE {P : Program} {f : FuncId} {args : List Value} {R : Rd} {Ms : List Asn} {Q Q' : Value → List Asn → Prop} (h : Trip P f args R Ms Q) (hq : ∀ v V, Q v V → ∃ V', Q' v V' ∧ Ent V V') : Trip P f args R Ms Q' :=
  ⟨h.enters, fun w SM h1 h2 h3 => (h.calls w SM h1 h2 h3).mono fun _ _ ⟨v, V, S, a, b, c, d⟩ => by
    obtain ⟨V', hV', he⟩ := hq v V b
    exact ⟨v, V', S, a, hV', he _ _ c, d⟩⟩

theorem ent_nilS {α : Type} {k : Kd α} {bytes : Nat} : Ent U (rdA (kslice bytes k) [.slice none 0 0] ([] : List α) :: U) := fun w S hs =>
  ⟨fun _ => False, S, ⟨none, 0, rfl, Nat.le_refl _, by simp, fun i h1 => absurd h1 (Nat.not_lt_zero _)⟩, hs, fun _ h => h.elim, fun _ h => h.elim, fun _ h => h⟩

/-- The ways through a region meet at its end. -/
theorem e_join {K : Frm → List Asn → Prop} {k : List It} {ops : Array Oper} {l : List Oper} {ι : Type} (frX : ι → Frm) (UX : ι → List Asn) (hfin : ∀ x, EVS E K k (frX x) (UX x))
    (h : (∀ x, EVS E K k (frX x) (UX x)) → EVO E K k ops l fr U) : EVO E K k ops l fr U := h hfin

theorem e_joinU {K : Frm → List Asn → Prop} {k : List It} {ops : Array Oper} {l : List Oper} (frX : Frm) (hfin : EVS E K k frX U) (h : EVS E K k frX U → EVO E K k ops l fr U) : EVO E K k ops l fr U := h hfin

/-- A slice of slices, opened, its parts behind what is loaded often. -/
theorem ent_rows {α : Type} {enc : α → Value} {eo ei : TypeId} {v : Value} {n : Nat} {acs : List (Option Addr × Nat)} {rows : List (List α)} {V W : List Asn} (hl : acs.length = rows.length) :
    Ent (osl eo 1 v n (rowC acs rows) :: (V ++ (rowL enc ei acs rows ++ W))) (orow enc eo ei v n rows :: (V ++ W)) := by
  refine Ent.ex (φ := fun acs : List (Option Addr × Nat) => acs.length = rows.length) acs hl ?_
  rw [List.cons_append]
  exact Ent.cons Ent.comm3

end Go.Proofs.Ytbfjnldneemmiab.E
