/-
  Rows of one's own, written and read where they lie.
-/
import Derived.Test.YtcbaebkkdkdaaaaDoorAhBase5

namespace Go.Proofs.YtcbaebkkdkdaaaaDoor
set_option linter.all false
open Go.Proofs.YtcbaebkkdkdaaaaDoor.E

theorem EV1_ent {E0 : Go.Proofs.YtcbaebkkdkdaaaaDoor.E.Env} {o : Oper} {fr : Frm} {U U2 : List Asn} {N : Frm → List Asn → Prop} (he : Ent U U2) (h : EV1 E0 o fr U2 (fun fr' V' => ∃ U', Ent V' U' ∧ N fr' U')) : EV1 E0 o fr U N := fun a w hf hm =>
  Oper.wp_mono2 (fun a' w' ⟨fr', V', ⟨U', h1, h2⟩, h3, h4⟩ => ⟨fr', U', h2, h3, h4.ent h1⟩) (h a w hf (hm.ent he))

theorem o_store_row {E0 : Go.Proofs.YtcbaebkkdkdaaaaDoor.E.Env} {fr : Frm} {U W : List Asn} {N : Frm → List Asn → Prop} {α : Type} {f : List α → List Value} {sz : Nat} {ei : TypeId} {acs : AcL} {rows : List (List α)} {t : TypeId} {x y : Operand} {ty : TypeId} {pos : String} {af : Array Edge} {g : Option (Nat × Bool)} {i : TI} {b o : Nat} {vs : List Value} {v : Value}
    (hx : val fr x = some (.pointer (some ⟨b, o, none⟩))) (hy : val fr y = some v) (ht : tl E0.T t = some i) (hv : v.cells.toList = vs) (hl1 : Nat.beq vs.length i.size = true) (h1 : vs.all oneB = true) (hl : acs.length = rows.length) (j : Nat) (hj : j < rows.length) (hb : (acs[j]'(hl ▸ hj)).1 = some ⟨b, 0, none⟩)
    (hle : o + i.size ≤ (f rows[j]).length) (hU : Tak (bun (rowX f sz ei acs rows)) U W) (r' : List α) (hr : r'.length = rows[j].length) (hf : setMany (f rows[j]) o vs = f r') (h : N fr (bun (rowX f sz ei acs (rows.set j r')) :: W)) : EV1 E0 ⟨none, .store t x y, ty, pos, af, g⟩ fr U N := by
  have e1 : rowA f sz ei (acs[j]'(hl ▸ hj)) rows[j] = osl ei sz (.slice (some ⟨b, 0, none⟩) rows[j].length (acs[j]'(hl ▸ hj)).2) rows[j].length (f rows[j]) := by
    show osl ei sz (.slice (acs[j]'(hl ▸ hj)).1 _ _) _ _ = _
    rw [hb]
  have e2 : rowA f sz ei (acs[j]'(hl ▸ hj)) r' = osl ei sz (.slice (some ⟨b, 0, none⟩) rows[j].length (acs[j]'(hl ▸ hj)).2) rows[j].length (f r') := by
    show osl ei sz (.slice (acs[j]'(hl ▸ hj)).1 r'.length _) r'.length _ = _
    rw [hb, hr]
  have hin := ent_btake (f := f) (sz := sz) (ei := ei) (V := W) hl hj
  rw [e1] at hin
  refine EV1_ent (Ent.trans (Ent.tak hU (Ent.refl _)) hin) (o_store_osl hx hy ht hv hl1 h1 hle .z ⟨_, ?_, h⟩)
  rw [hf, ← e2]
  have := ent_bput (f := f) (sz := sz) (ei := ei) (V := W) hl hj (ac := acs[j]'(hl ▸ hj)) (r := r')
  rwa [List.set_getElem_self] at this

section rows
variable {α : Type} {acs : AcL} {F F2 : List (List α)}
/-- Slices of rows that are as long. -/
theorem rowC_same : ∀ {acs : AcL} {F F2 : List (List α)}, F.length = F2.length → (∀ (i : Nat) (h1 : i < F.length) (h2 : i < F2.length), F[i].length = F2[i].length) → rowC acs F = rowC acs F2
  | [], _, _, _, _ => rfl
  | _ :: _, [], [], _, _ => rfl
  | _ :: _, [], _ :: _, h, _ => by simp at h
  | _ :: _, _ :: _, [], h, _ => by simp at h
  | a :: acs, r :: F, r2 :: F2, h, hr => by
    have ih := rowC_same (acs := acs) (F := F) (F2 := F2) (by simpa using h) (fun i h1 h2 => hr (i + 1) (Nat.succ_lt_succ h1) (Nat.succ_lt_succ h2))
    have h0 : r.length = r2.length := hr 0 (Nat.succ_pos _) (Nat.succ_pos _)
    unfold rowC at ih ⊢
    rw [List.zipWith_cons_cons, List.zipWith_cons_cons, ih, h0]
end rows

/-! ### single terms of the answer -/
section inn
variable {E0 : Go.Proofs.YtcbaebkkdkdaaaaDoor.E.Env} {fr : Frm} {U U' : List Asn} {D : List AcL} {X : List (List Bits)}
abbrev InnA (D : List AcL) (X : List (List Bits)) : Prop := ∀ (i : Nat) (h1 : i < D.length) (h2 : i < X.length) (j : Nat) (h3 : j < D[i].length) (h4 : j < X[i].length), 0 < X[i][j].length → ∃ b, D[i][j].1 = some ⟨b, 0, none⟩
theorem inn_addrs (hD : D.length = X.length) (hDr : ∀ (i : Nat) (h1 : i < D.length) (h2 : i < X.length), D[i].length = X[i].length) {w : World} {S : BSet} (h : (bun (innB D X)).P w S) : InnA D X := fun i h1 h2 j h3 h4 hp => by
  obtain ⟨S2, h5, _⟩ := star_mem (innB_get hD h2) h
  exact bun_addrs (hDr i h1 h2) h5 j h3 h4 hp
theorem s_innA {K : Frm → List Asn → Prop} {k : List It} {c : Code} (ht : Tak (bun (innB D X)) U U') (hD : D.length = X.length) (hDr : ∀ (i : Nat) (h1 : i < D.length) (h2 : i < X.length), D[i].length = X[i].length) (h : InnA D X → EVS E0 K (.code c :: k) fr U) : EVS E0 K (.code c :: k) fr U := by
  intro a w hf hme
  obtain ⟨S1, hP, _⟩ := hme.tak ht
  exact h (inn_addrs hD hDr hP) a w hf hme
theorem n_load_inn {t : TypeId} {x : Operand} {i : TI} {b o : Nat} {v : Value} (hx : val fr x = some (.pointer (some ⟨b, o, none⟩))) (ht : tl E0.T t = some i) (hU : Tak (bun (innB D X)) U U') (hD : D.length = X.length) (p : Nat) (hp : p < X.length) (hl : (D[p]'(hD ▸ hp)).length = X[p].length) (q : Nat) (hq : q < X[p].length) (hb : ((D[p]'(hD ▸ hp))[q]'(hl ▸ hq)).1 = some ⟨b, 0, none⟩)
    (hv : loadL i (cB X[p][q]) o = some v) : NEV E0 (.load t x) fr U v := by
  intro a w dst ty pos af g hf hm
  obtain ⟨S1, hP, _⟩ := hm.tak hU
  obtain ⟨S2, h2, _⟩ := star_mem (innB_get hD hp) hP
  obtain ⟨S3, h3, _⟩ := star_mem (rowX_get (f := cB) (sz := 1) (ei := 4) hl hq) h2
  have h4 : (osl 4 1 (.slice (some ⟨b, 0, none⟩) X[p][q].length ((D[p]'(hD ▸ hp))[q]'(hl ▸ hq)).2) X[p][q].length (cB X[p][q])).P w S3 := by rw [← hb]; exact h3
  simp [execOp, hf.eval hx, Instr.loadAt, Instr.sureAddr, run_loadVar ht (osl_cells h4) hv]
end inn

theorem loadB {r : List Bool} {j o : Nat} (hj : j < r.length) (ho : o = j) {bytes : Nat} {z : List Value} : loadL ⟨.bool, 1, bytes, z⟩ (cB r) o = some (.bool (r.getD j false)) := by
  subst ho
  refine load_cell rfl ?_
  rw [List.getElem?_map, List.getElem?_eq_getElem hj, List.getD_eq_getElem?_getD, List.getElem?_eq_getElem hj]; rfl

end Go.Proofs.YtcbaebkkdkdaaaaDoor
