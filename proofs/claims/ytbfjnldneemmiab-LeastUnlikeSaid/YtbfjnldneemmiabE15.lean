/-
  The engine, fifteenth part: what is left of a slice; a slice appended, however it is known.
-/
import Derived.Test.YtbfjnldneemmiabE14
import Derived.Laws.Slices
namespace Go.Proofs.Ytbfjnldneemmiab.E
set_option linter.all false
variable {E : Env} {fr : Frm} {U : List Asn} {N : Frm → List Asn → Prop}

/-- l[1:] -/
theorem n_tail {t e : TypeId} {x : Operand} {s1 b1 : Nat} {z1 : List Value} {i : TI} {A : Option Addr} {n c : Nat} {k : IntKind}
    (ht : tl E.T t = some ⟨.slice e, s1, b1, z1⟩) (he : tl E.T e = some i) (hx : val fr x = some (.slice A n c)) (hn : 1 ≤ n) :
    NEV E (.slice t x (some (.const (.int k 1))) none none) fr U (.slice (if c = 1 then A else A.map (·.add (1 * i.size))) (n - 1) (c - 1)) := by
  intro a w dst ty pos af g hf _
  obtain ⟨dd, sz, bytes, z⟩ := i
  obtain ⟨inf, zv, hinf, hzv, hs, hbb, hzc⟩ := ti_info he
  have hu := u_slice ht
  have hel : E.P.elem t = e := by simp [Program.elem, hu]
  have hsz : (sizeOf e).run E.P w = .ok sz w := by simp [sizeOf, run_info hinf, hs]
  have hr := run_slice_l (P := E.P) (w := w) t A n c (by rw [hel]; exact hu) k 1 (by omega) (by omega)
  rw [hel, hsz] at hr
  have ha := run_sliceAt_slice (P := E.P) (w := w) t (.slice A n c) (some (.int k 1)) none none (by rw [hel]; exact hu)
  rw [hr] at ha
  have hev : a.eval (.const (.int k 1)) = .int k 1 := rfl
  simp [execOp, hf.eval hx, hev, ha, sliced, Result.andThen]

/-- append(l, m...): l is one's own; m's cells are known. -/
theorem o_appendS {d : Nat} {t e : TypeId} {x y : Operand} {ty : TypeId} {pos : String} {af : Array Edge} {g : Option (Nat × Bool)} {s1 b1 : Nat} {z1 : List Value} {i : TI} {A B : Option Addr} {n c m c2 : Nat} {xs ys : List Value}
    (U' : Option Addr → Nat → List Asn) (ht : tl E.T t = some ⟨.slice e, s1, b1, z1⟩) (he : tl E.T e = some i) (hx : val fr x = some (.slice A n c)) (hy : val fr y = some (.slice B m c2))
    (hl : ys.length = m * i.size) (hB : 0 < m → ∃ g2 o2, B = some ⟨g2, o2, none⟩ ∧ ∀ w, Mem E U w → ∀ j u, ys[j]? = some u → w.cell? ⟨g2, o2 + j, none⟩ = some u) (h1 : ∀ u ∈ ys, oneB u = true)
    (hzl : Nat.beq i.zero.length i.size = true) (hby : (n + m) * i.bytes ≤ 140737488355328) (h63 : n + m ≤ 9223372036854775807) (hd : Nat.ble (d + 1) E.n = true)
    (hU : ∀ A' c', Upd (osl e i.size (.slice A n c) n xs) (osl e i.size (.slice A' (n + m) c') (n + m) (xs ++ ys)) U (U' A' c'))
    (h : ∀ A' c', N ((d, .slice A' (n + m) c') :: fr) (U' A' c')) :
    EV1 E ⟨some d, .call ⟨.builtin .append, #[x, y], #[t, t]⟩, ty, pos, af, g⟩ fr U N := by
  intro a w hf hm
  by_cases hm0 : m = 0
  · subst hm0
    have hys : ys = [] := List.eq_nil_of_length_eq_zero (by simpa using hl)
    subst hys
    obtain ⟨S1, hP1, hlt, hk⟩ := hm.upd (hU A c)
    have hnc : n ≤ c := by
      rcases hP1.1.2 with ⟨hv, hn⟩ | ⟨g', cap, cur, hv, _, _, hnc, _⟩
      · omega
      · simp only [Value.slice.injEq] at hv; omega
    have h0 := n_append0 (E := E) (fr := fr) (U := U) ht he hx hy hnc a w (some d) ty pos af g hf hm
    unfold Oper.wp
    rw [h0]
    refine ⟨_, _, h A c, hf.put (Nat.le_of_ble_eq_true hd) _, hk w S1 (Step.refl w S1) ?_ (fun b hb => ⟨hlt b hb, .inl hb⟩)⟩
    rw [List.append_nil, Nat.add_zero]
    exact hP1
  · obtain ⟨g2, o2, rfl, hc⟩ := hB (by omega)
    exact o_append (g2 := g2) (o2 := o2) (news := ys) (xs := xs) (v := .slice A n c) (n := n) (m := m) (fun b c => U' (some ⟨b, 0, none⟩) c) ht he hx hy hc hl h1 hzl (by omega) hby h63 hd (fun b c => hU _ _) (fun b c => h _ _) a w hf hm

/-- The cells of a slice of numbers that is read. -/
theorem ro_ints {A : Option Addr} {xs : List Int} (h : Els kint E.w0 E.ro A xs) (hm : 0 < xs.length) : ∃ g2 o2, A = some ⟨g2, o2, none⟩ ∧ ∀ w, Mem E U w → ∀ j u, (xs.map (Value.int .i64))[j]? = some u → w.cell? ⟨g2, o2 + j, none⟩ = some u := by
  obtain ⟨b, o, es, hA, hb, _, _⟩ := h 0 hm
  refine ⟨b, o, hA, fun w hw j u hu => ?_⟩
  have hj : j < xs.length := by simpa using (List.getElem?_eq_some_iff.1 hu).1
  obtain ⟨b', o', es', hA', hb', ⟨rfl, _⟩, hc⟩ := h j hj
  rw [hA] at hA'
  simp only [Option.some.injEq, Addr.mk.injEq, and_true] at hA'
  obtain ⟨rfl, rfl⟩ := hA'
  have h0 := hc 0 _ rfl
  rw [List.getElem?_map, List.getElem?_eq_getElem hj, Option.map_some, Option.some.injEq] at hu
  subst hu
  rw [cell_block (hw.same b hb)]
  simpa [kint] using h0

theorem s_open {K : Frm → List Asn → Prop} {k : List It} {cd : Code} {e : TypeId} {sz n c m : Nat} {A : Option Addr} {xs : List Value} {U' : List Asn}
    (ht : Tak (osl e sz (.slice A n c) m xs) U U') (hm : 0 < m) (h : ∀ b, A = some ⟨b, 0, none⟩ → EVS E K (.code cd :: k) fr U) : EVS E K (.code cd :: k) fr U := by
  intro a w hf hme
  obtain ⟨S1, hP, _⟩ := hme.tak ht
  obtain ⟨b, hb⟩ := osl_form hP hm
  exact h b hb a w hf hme

theorem s_cap {K : Frm → List Asn → Prop} {k : List It} {cd : Code} {e : TypeId} {sz n c m : Nat} {A : Option Addr} {xs : List Value} {U' : List Asn}
    (ht : Tak (osl e sz (.slice A n c) m xs) U U') (h : m ≤ c → EVS E K (.code cd :: k) fr U) : EVS E K (.code cd :: k) fr U := by
  intro a w hf hme
  obtain ⟨S1, hP, _⟩ := hme.tak ht
  refine h ?_ a w hf hme
  rcases hP.1.2 with ⟨_, hn⟩ | ⟨g', cap, cur, hv, _, _, hnc, _⟩
  · omega
  · simp only [Value.slice.injEq] at hv; omega

end Go.Proofs.Ytbfjnldneemmiab.E
