/-
  The engine, fourteenth part: the rest of a division; a copy appended.
-/
import Derived.Test.YtbfjnldneemmiabE13
namespace Go.Proofs.Ytbfjnldneemmiab.E
set_option linter.all false
variable {E : Env} {fr : Frm} {U : List Asn} {N : Frm → List Asn → Prop}

theorem n_rem {x y : Operand} {t t2 : TypeId} {k : IntKind} {a b : Int} (hx : val fr x = some (.int k a)) (hy : val fr y = some (.int k b)) (hb : b ≠ 0) : NEV E (.binOp .rem t x y t2) fr U (.int k (a.tmod b)) := by
  intro ac w dst ty pos af g hf _
  simp [execOp, hf.eval hx, hf.eval hy, eqGuard, binOp, Op.intDiv, hb]

/-- append(l, m...): both are one's own. -/
theorem o_appendO {d : Nat} {t e : TypeId} {x y : Operand} {ty : TypeId} {pos : String} {af : Array Edge} {g : Option (Nat × Bool)} {s1 b1 : Nat} {z1 : List Value} {i : TI} {A B : Option Addr} {n c m c2 : Nat} {xs ys : List Value} {W : List Asn}
    (U' : Option Addr → Nat → List Asn) (ht : tl E.T t = some ⟨.slice e, s1, b1, z1⟩) (he : tl E.T e = some i) (hx : val fr x = some (.slice A n c)) (hy : val fr y = some (.slice B m c2))
    (hs : Tak (osl e i.size (.slice B m c2) m ys) U W) (h1 : ∀ u ∈ ys, oneB u = true)
    (hzl : Nat.beq i.zero.length i.size = true) (hby : (n + m) * i.bytes ≤ 140737488355328) (h63 : n + m ≤ 9223372036854775807) (hd : Nat.ble (d + 1) E.n = true)
    (hU : ∀ A' c', Upd (osl e i.size (.slice A n c) n xs) (osl e i.size (.slice A' (n + m) c') (n + m) (xs ++ ys)) U (U' A' c'))
    (h : ∀ A' c', N ((d, .slice A' (n + m) c') :: fr) (U' A' c')) :
    EV1 E ⟨some d, .call ⟨.builtin .append, #[x, y], #[t, t]⟩, ty, pos, af, g⟩ fr U N := by
  intro a w hf hm
  obtain ⟨S2, hP2, _⟩ := hm.tak hs
  by_cases hm0 : m = 0
  · subst hm0
    have hys : ys = [] := List.eq_nil_of_length_eq_zero (by have := hP2.1.1; simpa using this)
    subst hys
    obtain ⟨S1, hP1, hlt, hk⟩ := hm.upd (hU A c)
    have hnc : n ≤ c := by
      rcases hP1.1.2 with ⟨hv, hn⟩ | ⟨g', cap, cur, hv, _, _, hnc, _⟩
      · omega
      · simp only [Value.slice.injEq] at hv; omega
    have h0 := n_append0 (E := E) (fr := fr) (U := U) ht he hx hy hnc a w (some d) ty pos af g hf hm
    unfold Oper.wp
    rw [h0]
    refine ⟨_, _, h A c, hf.put (Nat.le_of_ble_eq_true hd) _, hk w S1 (Step.refl w S1) ?_ (fun b hb => ⟨hlt b hb, .inl hb⟩)⟩
    rw [List.append_nil, Nat.add_zero]
    exact hP1
  · obtain ⟨g2, rfl⟩ := osl_form hP2 (by omega)
    refine o_append (g2 := g2) (o2 := 0) (news := ys) (xs := xs) (v := .slice A n c) (n := n) (m := m) (fun b c => U' (some ⟨b, 0, none⟩) c) ht he hx hy (fun w' hm' j u hu => ?_) hP2.1.1 h1 hzl (by omega) hby h63 hd (fun b c => hU _ _) (fun b c => h _ _) a w hf hm
    obtain ⟨S3, hP3, _⟩ := hm'.tak hs
    rw [Nat.zero_add]
    exact osl_cells hP3 j u hu

theorem oneB_ints (l : List Int) : ∀ u ∈ l.map (Value.int .i64), oneB u = true := by
  intro u hu
  obtain ⟨x, _, rfl⟩ := List.mem_map.1 hu
  rfl

/-- A slice of numbers of one's own, read. -/
theorem can_ints {e : TypeId} {A : Option Addr} {n c : Nat} {l : List Int} {U' : List Asn} (ht : Tak (osl e 1 (.slice A n c) n (l.map (Value.int .i64))) U U') (hI : ∀ x ∈ l, I64 x) (hb : n * 8 ≤ 140737488355328) : Can E U ((kslice 8 kint).rd [.slice A n c] l) :=
  Can.of fun w S hs => by
    obtain ⟨S1, h1, hsub⟩ := ht.mem hs
    have hn : n = l.length := by have := h1.1.1; simpa using this.symm
    have h2 : (osl e kint.sz (.slice A n c) n (l.map fun x => [Value.int .i64 x]).flatten).P w S1 := by
      have : (l.map fun x => [Value.int .i64 x]).flatten = l.map (Value.int .i64) := by
        clear h1 hn ht hI
        induction l with
        | nil => rfl
        | cons a l ih => simp [ih]
      rw [this]; exact h1
    obtain ⟨h3, h4⟩ := osl_elsG (xs := l) h2 hsub (by simp) hn fun i h1 h2 => by
      simp only [List.getElem_map]
      exact ⟨rfl, hI _ (List.getElem_mem _)⟩
    subst hn
    exact ⟨A, c, rfl, h4, hb, h3⟩

/-- An element of a slice that is one's own to read: one cell, told by what it is. -/
theorem n_load_rd {α : Type} {k : Kd α} {bytes n c : Nat} {xs : List α} (enc : α → Value) (hk : ∀ w S cs x, k.R w S cs x → cs = [enc x]) {t : TypeId} {x : Operand} {i : TI} {b o o' : Nat} {U' : List Asn}
    (hx : val fr x = some (.pointer (some ⟨b, o', none⟩))) (ht : tl E.T t = some i) (ha : aggB i.d = false) (hU : Tak (rdA (kslice bytes k) [.slice (some ⟨b, o, none⟩) n c] xs) U U') (j : Nat) (hj : j < xs.length) (hs : k.sz = 1) (ho : o' = o + j * 1) :
    NEV E (.load t x) fr U (enc xs[j]) :=
  n_load_of hx ht fun w S hst => by
    obtain ⟨S1, ⟨A, c', e, _, _, hels⟩, _⟩ := hU.mem hst
    simp only [List.cons.injEq, Value.slice.injEq, and_true] at e
    obtain ⟨rfl, _, rfl⟩ := e
    obtain ⟨b', o2, es, hA, _, hR, hc⟩ := hels j hj
    simp only [Option.some.injEq, Addr.mk.injEq, and_true] at hA
    obtain ⟨rfl, rfl⟩ := hA
    have := hk _ _ _ _ hR
    subst this
    have h0 := hc 0 _ rfl
    rw [hs, Nat.add_zero, ← ho] at h0
    exact loads_one ha h0

theorem rd_form {α : Type} {k : Kd α} {bytes n c : Nat} {xs : List α} {A : Option Addr} {w : World} {S : BSet} (h : (rdA (kslice bytes k) [.slice A n c] xs).P w S) (hm : 0 < xs.length) : ∃ b o, A = some ⟨b, o, none⟩ := by
  obtain ⟨A', c', e, _, _, hels⟩ := h
  simp only [List.cons.injEq, Value.slice.injEq, and_true] at e
  obtain ⟨rfl, _, rfl⟩ := e
  obtain ⟨b', o2, es, hA, _⟩ := hels 0 hm
  exact ⟨b', o2, hA⟩

theorem s_openR {K : Frm → List Asn → Prop} {k : List It} {cd : Code} {α : Type} {kd : Kd α} {bytes n c : Nat} {xs : List α} {A : Option Addr} {U' : List Asn}
    (ht : Tak (rdA (kslice bytes kd) [.slice A n c] xs) U U') (hm : 0 < xs.length) (h : ∀ b o, A = some ⟨b, o, none⟩ → EVS E K (.code cd :: k) fr U) : EVS E K (.code cd :: k) fr U := by
  intro a w hf hme
  obtain ⟨S1, hP, _⟩ := hme.tak ht
  obtain ⟨b, o, hb⟩ := rd_form hP hm
  exact h b o hb a w hf hme

theorem e_openR {K : Frm → List Asn → Prop} {k : List It} {ops : Array Oper} {l : List Oper} {α : Type} {kd : Kd α} {bytes n c : Nat} {xs : List α} {A : Option Addr} {U' : List Asn}
    (ht : Tak (rdA (kslice bytes kd) [.slice A n c] xs) U U') (hm : 0 < xs.length) (h : ∀ b o, A = some ⟨b, o, none⟩ → EVO E K k ops l fr U) : EVO E K k ops l fr U := by
  intro a w hf hme
  obtain ⟨S1, hP, _⟩ := hme.tak ht
  obtain ⟨b, o, hb⟩ := rd_form hP hm
  exact h b o hb a w hf hme

theorem kbool_is (w : World) (S : BSet) (cs : List Value) (x : Bool) (h : kbool.R w S cs x) : cs = [.bool x] := h

end Go.Proofs.Ytbfjnldneemmiab.E
