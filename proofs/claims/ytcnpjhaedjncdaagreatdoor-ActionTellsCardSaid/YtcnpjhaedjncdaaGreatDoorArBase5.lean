/-
  Part 5 of what the law's walk stands on: lemmas and contracts, each proved here without a condition but those that it names.
-/
import Derived.Test.YtcnpjhaedjncdaaGreatDoorArBase4

namespace Go.Proofs.YtcnpjhaedjncdaaGreatDoor
set_option linter.all false
open Go.Proofs.YtcnpjhaedjncdaaGreatDoor.E

section rd
variable {E0 : Go.Proofs.YtcnpjhaedjncdaaGreatDoor.E.Env} {fr : Frm} {U U' : List Asn} {α : Type} {f : List α → List Value} {sz : Nat} {ei : TypeId} {acs : AcL} {rows : List (List α)}
abbrev Addrs (acs : AcL) (rows : List (List α)) : Prop := ∀ (i : Nat) (h1 : i < acs.length) (h2 : i < rows.length), 0 < rows[i].length → ∃ b, acs[i].1 = some ⟨b, 0, none⟩
theorem bun_addrs (hl : acs.length = rows.length) {w : World} {S : BSet} (h : (bun (rowX f sz ei acs rows)).P w S) : Addrs acs rows := fun i h1 h2 hp => by
  obtain ⟨S2, h3, _⟩ := star_mem (rowX_get (f := f) (sz := sz) (ei := ei) hl h2) h
  exact osl_form h3 hp
theorem e_addrs {K : Frm → List Asn → Prop} {k : List It} {ops : Array Oper} {l : List Oper} (ht : Tak (bun (rowX f sz ei acs rows)) U U') (hl : acs.length = rows.length) (h : Addrs acs rows → EVO E0 K k ops l fr U) : EVO E0 K k ops l fr U := by
  intro a w hf hme
  obtain ⟨S1, hP, _⟩ := hme.tak ht
  exact h (bun_addrs hl hP) a w hf hme
theorem s_addrs {K : Frm → List Asn → Prop} {k : List It} {c : Code} (ht : Tak (bun (rowX f sz ei acs rows)) U U') (hl : acs.length = rows.length) (h : Addrs acs rows → EVS E0 K (.code c :: k) fr U) : EVS E0 K (.code c :: k) fr U := by
  intro a w hf hme
  obtain ⟨S1, hP, _⟩ := hme.tak ht
  exact h (bun_addrs hl hP) a w hf hme
theorem n_load_row {t : TypeId} {x : Operand} {i : TI} {b o : Nat} {v : Value} (hx : val fr x = some (.pointer (some ⟨b, o, none⟩))) (ht : tl E0.T t = some i) (hU : Tak (bun (rowX f sz ei acs rows)) U U') (hl : acs.length = rows.length) (j : Nat) (hj : j < rows.length) (hb : (acs[j]'(hl ▸ hj)).1 = some ⟨b, 0, none⟩)
    (hv : loadL i (f rows[j]) o = some v) : NEV E0 (.load t x) fr U v := by
  intro a w dst ty pos af g hf hm
  obtain ⟨S1, hP, _⟩ := hm.tak hU
  obtain ⟨S2, h2, _⟩ := star_mem (rowX_get (f := f) (sz := sz) (ei := ei) hl hj) hP
  have h3 : (osl ei sz (.slice (some ⟨b, 0, none⟩) rows[j].length (acs[j]'(hl ▸ hj)).2) rows[j].length (f rows[j])).P w S2 := by rw [← hb]; exact h2
  simp [execOp, hf.eval hx, Instr.loadAt, Instr.sureAddr, run_loadVar ht (osl_cells h3) hv]
end rd

theorem innB_get {D : List AcL} {X : List (List Bits)} (hD : D.length = X.length) {i : Nat} (hi : i < X.length) : (innB D X)[i]? = some (bun (rowX cB 1 4 (D[i]'(hD ▸ hi)) X[i])) := by
  unfold innB
  rw [List.getElem?_zipWith, List.getElem?_eq_getElem (by omega), List.getElem?_eq_getElem hi]
theorem rowVs_get {D : List AcL} {X : List (List Bits)} (hD : D.length = X.length) {i : Nat} (h : i < (rowVs D X).length) (hi : i < X.length) : (rowVs D X)[i] = rowC (D[i]'(hD ▸ hi)) X[i] := by
  have h2 : i < (List.zipWith rowC D X).length := h
  show (List.zipWith rowC D X)[i] = _
  rw [List.getElem_zipWith]
theorem x_load {acs : AcL} {D : List AcL} {X : List (List Bits)} (hal : acs.length = X.length) (hD : D.length = X.length) (hDr : ∀ (i : Nat) (h1 : i < D.length) (h2 : i < X.length), D[i].length = X[i].length) {i : Nat} (hi : i < X.length) {P b : Nat} (hP : X[i].length = P) (hb : (acs[i]'(hal ▸ hi)).1 = some ⟨b, 0, none⟩) {e : TypeId} {bytes : Nat} {z : List Value} :
    loadL ⟨.slice e, 1, bytes, z⟩ (rowC acs (rowVs D X)) (0 + i * 1) = some (.slice (some ⟨b, 0, none⟩) P (acs[i]'(hal ▸ hi)).2) := by
  have hv : (rowVs D X).length = X.length := rowVs_len hD
  have h := rowC_load (acs := acs) (rows := rowVs D X) (by rw [hv]; exact hal) (i := i) (by rw [hv]; exact hi) (e := e) (bytes := bytes) (z := z)
  rw [h, hb, rowVs_get hD (by rw [hv]; exact hi) hi, rowC_len0 (hDr i (hD ▸ hi) hi), hP]
theorem x_addr {acs : AcL} {D : List AcL} {X : List (List Bits)} (hal : acs.length = X.length) (hD : D.length = X.length) (hDr : ∀ (i : Nat) (h1 : i < D.length) (h2 : i < X.length), D[i].length = X[i].length) (hA : Addrs acs (rowVs D X)) {i : Nat} (hi : i < X.length) (hP : 0 < X[i].length) : ∃ b, (acs[i]'(hal ▸ hi)).1 = some ⟨b, 0, none⟩ := by
  have hv : (rowVs D X).length = X.length := rowVs_len hD
  refine hA i (hal ▸ hi) (by rw [hv]; exact hi) ?_
  rw [rowVs_get hD (by rw [hv]; exact hi) hi, rowC_len0 (hDr i (hD ▸ hi) hi)]; exact hP
/-- A slice of terms, out of the answer. -/
theorem n_xcell {E0 : Go.Proofs.YtcnpjhaedjncdaaGreatDoor.E.Env} {fr : Frm} {U U' : List Asn} {acs : AcL} {D : List AcL} {X : List (List Bits)} {t e : TypeId} {x : Operand} {bytes : Nat} {z : List Value} {b o : Nat} (hx : val fr x = some (.pointer (some ⟨b, o, none⟩))) (ht : tl E0.T t = some ⟨.slice e, 1, bytes, z⟩) (hU : Tak (rowO acs D X) U U') (hal : acs.length = X.length) (hD : D.length = X.length)
    (hDr : ∀ (i : Nat) (h1 : i < D.length) (h2 : i < X.length), D[i].length = X[i].length) {i : Nat} (hi : i < X.length) (hb : (acs[i]'(hal ▸ hi)).1 = some ⟨b, 0, none⟩) {j : Nat} (hj : j < X[i].length) (ho : o = 0 + j * 1) {n : Nat} (hn : X[i][j].length = n) :
    NEV E0 (.load t x) fr U (.slice ((D[i]'(hD ▸ hi))[j]'((hDr i (hD ▸ hi) hi) ▸ hj)).1 n ((D[i]'(hD ▸ hi))[j]'((hDr i (hD ▸ hi) hi) ▸ hj)).2) := by
  have hv : (rowVs D X).length = X.length := rowVs_len hD
  refine n_load_row hx ht hU (by rw [hv]; exact hal) i (by rw [hv]; exact hi) hb ?_
  rw [rowVs_get hD (by rw [hv]; exact hi) hi, ho, rowC_load (hDr i (hD ▸ hi) hi) hj, hn]

attribute [local irreducible] EVX EVO EVL EV1 NEV
attribute [local irreducible] own osl exA rdA rdL
attribute [local irreducible] bldA mapA bun mapS
set_option maxRecDepth 10000
set_option maxHeartbeats 4000000

end Go.Proofs.YtcnpjhaedjncdaaGreatDoor

namespace Go.Proofs.YtcnpjhaedjncdaaGreatDoor
set_option linter.all false
open Go.Proofs.YtcnpjhaedjncdaaGreatDoor.E

theorem EV1_ent {E0 : Go.Proofs.YtcnpjhaedjncdaaGreatDoor.E.Env} {o : Oper} {fr : Frm} {U U2 : List Asn} {N : Frm → List Asn → Prop} (he : Ent U U2) (h : EV1 E0 o fr U2 (fun fr' V' => ∃ U', Ent V' U' ∧ N fr' U')) : EV1 E0 o fr U N := fun a w hf hm =>
  Oper.wp_mono2 (fun a' w' ⟨fr', V', ⟨U', h1, h2⟩, h3, h4⟩ => ⟨fr', U', h2, h3, h4.ent h1⟩) (h a w hf (hm.ent he))

theorem o_store_row {E0 : Go.Proofs.YtcnpjhaedjncdaaGreatDoor.E.Env} {fr : Frm} {U W : List Asn} {N : Frm → List Asn → Prop} {α : Type} {f : List α → List Value} {sz : Nat} {ei : TypeId} {acs : AcL} {rows : List (List α)} {t : TypeId} {x y : Operand} {ty : TypeId} {pos : String} {af : Array Edge} {g : Option (Nat × Bool)} {i : TI} {b o : Nat} {vs : List Value} {v : Value}
    (hx : val fr x = some (.pointer (some ⟨b, o, none⟩))) (hy : val fr y = some v) (ht : tl E0.T t = some i) (hv : v.cells.toList = vs) (hl1 : Nat.beq vs.length i.size = true) (h1 : vs.all oneB = true) (hl : acs.length = rows.length) (j : Nat) (hj : j < rows.length) (hb : (acs[j]'(hl ▸ hj)).1 = some ⟨b, 0, none⟩)
    (hle : o + i.size ≤ (f rows[j]).length) (hU : Tak (bun (rowX f sz ei acs rows)) U W) (r' : List α) (hr : r'.length = rows[j].length) (hf : setMany (f rows[j]) o vs = f r') (h : N fr (bun (rowX f sz ei acs (rows.set j r')) :: W)) : EV1 E0 ⟨none, .store t x y, ty, pos, af, g⟩ fr U N := by
  have e1 : rowA f sz ei (acs[j]'(hl ▸ hj)) rows[j] = osl ei sz (.slice (some ⟨b, 0, none⟩) rows[j].length (acs[j]'(hl ▸ hj)).2) rows[j].length (f rows[j]) := by
    show osl ei sz (.slice (acs[j]'(hl ▸ hj)).1 _ _) _ _ = _
    rw [hb]
  have e2 : rowA f sz ei (acs[j]'(hl ▸ hj)) r' = osl ei sz (.slice (some ⟨b, 0, none⟩) rows[j].length (acs[j]'(hl ▸ hj)).2) rows[j].length (f r') := by
    show osl ei sz (.slice (acs[j]'(hl ▸ hj)).1 r'.length _) r'.length _ = _
    rw [hb, hr]
  have hin := ent_btake (f := f) (sz := sz) (ei := ei) (V := W) hl hj
  rw [e1] at hin
  refine EV1_ent (Ent.trans (Ent.tak hU (Ent.refl _)) hin) (o_store_osl hx hy ht hv hl1 h1 hle .z ⟨_, ?_, h⟩)
  rw [hf, ← e2]
  have := ent_bput (f := f) (sz := sz) (ei := ei) (V := W) hl hj (ac := acs[j]'(hl ▸ hj)) (r := r')
  rwa [List.set_getElem_self] at this

section rows
variable {α : Type} {acs : AcL} {F F2 : List (List α)}
/-- Slices of rows that are as long. -/
theorem rowC_same : ∀ {acs : AcL} {F F2 : List (List α)}, F.length = F2.length → (∀ (i : Nat) (h1 : i < F.length) (h2 : i < F2.length), F[i].length = F2[i].length) → rowC acs F = rowC acs F2
  | [], _, _, _, _ => rfl
  | _ :: _, [], [], _, _ => rfl
  | _ :: _, [], _ :: _, h, _ => by simp at h
  | _ :: _, _ :: _, [], h, _ => by simp at h
  | a :: acs, r :: F, r2 :: F2, h, hr => by
    have ih := rowC_same (acs := acs) (F := F) (F2 := F2) (by simpa using h) (fun i h1 h2 => hr (i + 1) (Nat.succ_lt_succ h1) (Nat.succ_lt_succ h2))
    have h0 : r.length = r2.length := hr 0 (Nat.succ_pos _) (Nat.succ_pos _)
    unfold rowC at ih ⊢
    rw [List.zipWith_cons_cons, List.zipWith_cons_cons, ih, h0]
end rows

/-! ### single terms of the answer -/
section inn
variable {E0 : Go.Proofs.YtcnpjhaedjncdaaGreatDoor.E.Env} {fr : Frm} {U U' : List Asn} {D : List AcL} {X : List (List Bits)}
abbrev InnA (D : List AcL) (X : List (List Bits)) : Prop := ∀ (i : Nat) (h1 : i < D.length) (h2 : i < X.length) (j : Nat) (h3 : j < D[i].length) (h4 : j < X[i].length), 0 < X[i][j].length → ∃ b, D[i][j].1 = some ⟨b, 0, none⟩
theorem inn_addrs (hD : D.length = X.length) (hDr : ∀ (i : Nat) (h1 : i < D.length) (h2 : i < X.length), D[i].length = X[i].length) {w : World} {S : BSet} (h : (bun (innB D X)).P w S) : InnA D X := fun i h1 h2 j h3 h4 hp => by
  obtain ⟨S2, h5, _⟩ := star_mem (innB_get hD h2) h
  exact bun_addrs (hDr i h1 h2) h5 j h3 h4 hp
theorem s_innA {K : Frm → List Asn → Prop} {k : List It} {c : Code} (ht : Tak (bun (innB D X)) U U') (hD : D.length = X.length) (hDr : ∀ (i : Nat) (h1 : i < D.length) (h2 : i < X.length), D[i].length = X[i].length) (h : InnA D X → EVS E0 K (.code c :: k) fr U) : EVS E0 K (.code c :: k) fr U := by
  intro a w hf hme
  obtain ⟨S1, hP, _⟩ := hme.tak ht
  exact h (inn_addrs hD hDr hP) a w hf hme
theorem n_load_inn {t : TypeId} {x : Operand} {i : TI} {b o : Nat} {v : Value} (hx : val fr x = some (.pointer (some ⟨b, o, none⟩))) (ht : tl E0.T t = some i) (hU : Tak (bun (innB D X)) U U') (hD : D.length = X.length) (p : Nat) (hp : p < X.length) (hl : (D[p]'(hD ▸ hp)).length = X[p].length) (q : Nat) (hq : q < X[p].length) (hb : ((D[p]'(hD ▸ hp))[q]'(hl ▸ hq)).1 = some ⟨b, 0, none⟩)
    (hv : loadL i (cB X[p][q]) o = some v) : NEV E0 (.load t x) fr U v := by
  intro a w dst ty pos af g hf hm
  obtain ⟨S1, hP, _⟩ := hm.tak hU
  obtain ⟨S2, h2, _⟩ := star_mem (innB_get hD hp) hP
  obtain ⟨S3, h3, _⟩ := star_mem (rowX_get (f := cB) (sz := 1) (ei := 4) hl hq) h2
  have h4 : (osl 4 1 (.slice (some ⟨b, 0, none⟩) X[p][q].length ((D[p]'(hD ▸ hp))[q]'(hl ▸ hq)).2) X[p][q].length (cB X[p][q])).P w S3 := by rw [← hb]; exact h3
  simp [execOp, hf.eval hx, Instr.loadAt, Instr.sureAddr, run_loadVar ht (osl_cells h4) hv]
end inn

theorem loadB {r : List Bool} {j o : Nat} (hj : j < r.length) (ho : o = j) {bytes : Nat} {z : List Value} : loadL ⟨.bool, 1, bytes, z⟩ (cB r) o = some (.bool (r.getD j false)) := by
  subst ho
  refine load_cell rfl ?_
  rw [List.getElem?_map, List.getElem?_eq_getElem hj, List.getD_eq_getElem?_getD, List.getElem?_eq_getElem hj]; rfl

end Go.Proofs.YtcnpjhaedjncdaaGreatDoor

namespace Go.Proofs.YtcnpjhaedjncdaaGreatDoor
set_option linter.all false
open Go.Proofs.YtcnpjhaedjncdaaGreatDoor.E
attribute [local irreducible] EVX EVO EVL EV1 NEV
attribute [local irreducible] own osl exA rdA rdL
set_option maxRecDepth 10000
set_option maxHeartbeats 1000000

theorem rowR_w (gr : List Value) (hgr : gr.length = 4) (A0 : Option Addr) (t c0 : Nat) (An : Option Addr) (n cn : Nat) (Af : Option Addr) (cf : Nat) (s : BSt) (hs : BInv t n s)
    (ht : t * 16 ≤ 140737488355328) (hn : n * 16 ≤ 140737488355328) (Al : Option Addr) (m cl : Nat) (xs : List Int) (hm : m = xs.length) (hx : ∀ x ∈ xs, 0 ≤ x ∧ x < (t : Int) + n) :
    Trip Tryz.prog 69 [.agg #[.slice An n cn, .slice Af n cf], .agg (.slice A0 t c0 :: gr).toArray, .slice Al m cl]
      ((((kslice 1 kbool).rd [.slice An n cn] s.1).and ((kslice 24 (kslice 1 kbool)).rd [.slice Af n cf] s.2)).and ((kslice 8 kint).rd [.slice Al m cl] xs)) []
      (fun v V => ∃ bu, v = .tuple #[.slice (some ⟨bu, 0, none⟩) t t, .bool (rowT t s xs).2] ∧ V = [osl 4 1 (.slice (some ⟨bu, 0, none⟩) t t) t ((rowT t s xs).1.map Value.bool)]) := by
  subst hm
  obtain ⟨g1, g2, g3, g4, rfl⟩ : ∃ g1 g2 g3 g4, gr = [g1, g2, g3, g4] := by
    match gr, hgr with
    | [g1, g2, g3, g4], _ => exact ⟨g1, g2, g3, g4, rfl⟩
  refine trip Tryz.tabOk Tryz.func69 rfl rfl rfl rfl ?_
  rintro w SM ⟨⟨⟨An', cn', en, hno⟩, Af', cf', ef, hfi⟩, Al', cl', el, hl⟩
  obtain ⟨lno, lfi, lrows⟩ := hs
  obtain ⟨no, fi⟩ := s
  simp only at lno lfi lrows hno hfi
  cases el
  simp only [List.cons.injEq, Value.slice.injEq, and_true] at en ef
  obtain ⟨rfl, _, rfl⟩ := en
  obtain ⟨rfl, _, rfl⟩ := ef
  have hll := hl.2.1
  repeat' (first | refine e_nil ?_ | ((refine e_op ?_); (first | refine o_n (peval_sound rfl) rfl ?_ | refine o_n (nl rfl rfl tc rfl) rfl ?_ | refine o_box rfl rfl (fun _ => ?_))) | refine s_seq ?_ | refine s_region ?_)
  rename_i b3 b4
  refine e_op (o_make rfl rfl rfl rfl t rfl rfl (by omega) (by omega) rfl (fun bu => ?_))
  repeat' (first | refine e_nil ?_ | ((refine e_op ?_); (refine o_n (peval_sound rfl) rfl ?_)) | refine s_seq ?_ | refine s_region ?_ | refine s_block ?_)
  refine s_loopK (ι := {x : Nat × List Bool // x.1 ≤ xs.length ∧ x.2.length = t ∧ rowT t (no, fi) xs = rowS t no fi (xs.drop x.1) x.2}) [2, 3, 8, 9] rfl ⟨(0, List.replicate t false), by simp, by simp, rfl⟩
    (fun x => [(10, .int .i64 x.1.1)]) (fun x => [osl 4 1 (.slice (some ⟨bu, 0, none⟩) t t) t (x.1.2.map Value.bool), blk b4 27 [.slice A0 t c0, g1, g2, g3, g4], blk b3 120 [.slice An n cn, .slice Af n cf]]) (fun x => xs.length - x.1.1) ?_ ?_ ?_
  · repeat' (first | exact Sub.nil _ | refine Sub.cons rfl ?_)
  · rw [show List.replicate t (Value.bool false) = (List.replicate t false).map Value.bool from by simp]
    repeat' (first | exact Ent.nil _ | refine Ent.tak tk ?_)
  rintro ⟨⟨i, acc⟩, hi, hacc, hrow⟩
  simp only at hi hacc hrow ⊢
  repeat' (first | refine e_nil ?_ | ((refine e_op ?_); (refine o_n (peval_sound rfl) rfl ?_)) | refine s_seq ?_ | refine s_region ?_)
  refine s_cond rfl (fun h => ?_) (fun h => ?_)
  · have hlt : i < xs.length := by have := of_decide_eq_true h; omega
    clear h
    obtain ⟨b, o, es, rfl, hb, ⟨rfl, hsI⟩, hc⟩ := hl.2.2 i hlt
    obtain ⟨hx0, hx1⟩ := hx _ (List.getElem_mem hlt)
    rw [List.drop_eq_getElem_cons hlt, rowS] at hrow
    repeat' (first | ((refine e_op ?_); (refine o_n (peval_sound rfl) rfl ?_)) | refine s_seq ?_ | refine s_region ?_ | refine s_block ?_ | refine s_skip ?_)
    refine e_op (o_n (n_index rfl rfl rfl rfl i rfl hlt) rfl ?_)
    refine e_op (o_n (n_load_ro rfl rfl hb (loads_one rfl (hc 0 _ rfl))) rfl ?_)
    repeat' (first | refine e_nil ?_ | ((refine e_op ?_); (refine o_n (peval_sound rfl) rfl ?_)))
    refine s_cond rfl (fun h => ?_) (fun h => ?_)
    · have hst := of_decide_eq_true h
      clear h
      rw [if_pos hst] at hrow
      have hlt2 : xs[i].toNat < acc.length := by omega
      repeat' (first | ((refine e_op ?_); (refine o_n (peval_sound rfl) rfl ?_)) | refine s_seq ?_ | refine s_region ?_)
      refine e_op (o_n (n_index rfl rfl rfl rfl i rfl hlt) rfl ?_)
      refine e_op (o_n (n_load_ro rfl rfl hb (loads_one rfl (hc 0 _ rfl))) rfl ?_)
      skip
      refine e_op (o_n (n_index rfl rfl rfl rfl xs[i].toNat (by omega) (by omega)) rfl ?_)
      refine e_op (o_store_osl (vs := [.bool true]) rfl rfl rfl rfl rfl rfl (by simp; omega) .z ?_)
      repeat' (first | refine e_nil ?_ | ((refine e_op ?_); (refine o_n (peval_sound rfl) rfl ?_)) | refine s_seq ?_ | refine s_region ?_)
      refine s_ret ⟨_, _, res2 rfl rfl rfl, ⟨bu, ?_, rfl⟩, ?_⟩
      · rw [hrow]
      · rw [hrow]
        simp only [setMany, Nat.zero_add, Nat.mul_one, List.map_set]
        repeat' (first | exact Ent.nil _ | refine Ent.tak tk ?_)
    · have hst := of_decide_eq_false h
      clear h
      rw [if_neg hst] at hrow
      have hj : (xs[i] - (t : Int)).toNat < n := by omega
      generalize hjj : (xs[i] - (t : Int)).toNat = j at *
      have hw : IntKind.i64.wrap (xs[i] - (t : Int)) = (j : Int) := by rw [wrap_i64] <;> omega
      obtain ⟨b2, o2, es2, rfl, hb2, ⟨Ar, cr, rfl, hrow2⟩, hc2⟩ := hfi.2.2 j (by omega)
      have hlr : fi[j].length = t := lrows _ (List.getElem_mem _)
      have hgd : fi.getD j [] = fi[j] := by rw [List.getD_eq_getElem?_getD, List.getElem?_eq_getElem]; rfl
      rw [hgd] at hrow
      repeat' (first | refine e_nil ?_ | ((refine e_op ?_); (refine o_n (peval_sound rfl) rfl ?_)) | refine s_seq ?_ | refine s_region ?_ | refine s_block ?_ | refine s_skip ?_)
      refine s_loopK (ι := {k : Nat // k ≤ t}) [2, 3, 8, 9, 10] rfl ⟨0, by omega⟩
        (fun x => [(11, .int .i64 x.1)]) (fun x => [osl 4 1 (.slice (some ⟨bu, 0, none⟩) t t) t ((orP acc fi[j] x.1).map Value.bool), blk b4 27 [.slice A0 t c0, g1, g2, g3, g4], blk b3 120 [.slice An n cn, .slice (some ⟨b2, o2, none⟩) n cf]]) (fun x => t - x.1) ?_ ?_ ?_
      · repeat' (first | exact Sub.nil _ | refine Sub.cons rfl ?_)
      · rw [orP_zero]; repeat' (first | exact Ent.nil _ | refine Ent.tak tk ?_)
      rintro ⟨k, hk2⟩
      simp only at hk2 ⊢
      repeat' (first | refine e_nil ?_ | ((refine e_op ?_); (refine o_n (peval_sound rfl) rfl ?_)) | refine s_seq ?_ | refine s_region ?_)
      refine s_cond rfl (fun h => ?_) (fun h => ?_)
      · have hkt : k < t := by have := of_decide_eq_true h; omega
        clear h
        obtain ⟨b3', o3, es3, e3, hb3, e4, hc3⟩ := hrow2.2.2 k (by omega)
        cases e4
        cases e3
        have hka : k < (orP acc fi[j] k).length := by rw [orP_len]; omega
        have hval : (orP acc fi[j] k)[k] = acc[k] := by
          have := orP_at (r := acc) (te := fi[j]) (k := k) (by omega)
          rw [List.getElem?_eq_getElem hka] at this
          exact Option.some.inj this
        repeat' (first | refine s_seq ?_ | refine s_block ?_ | refine s_skip ?_)
        refine s_drawZ [22] Tryz.mixed (by decide +kernel) ?_
        repeat' (refine z_n (peval_sound rfl) rfl rfl ?_)
        refine z_n (n_index rfl rfl rfl rfl k rfl (by omega)) rfl rfl ?_
        refine z_n (n_load_osl (v := .bool acc[k]) rfl rfl .z (by simp [loadL, aggB, hka, hval])) rfl rfl ?_
        repeat' (first | refine z_no rfl rfl rfl rfl ?_ | refine z_n (peval_sound rfl) rfl rfl ?_ | refine z_ny rfl (peval_sound rfl) rfl rfl ?_ | refine z_ny rfl (nl rfl rfl tc rfl) rfl rfl ?_ | ((fail_if_success (refine z_dec true (by exact rfl) ?_)); (fail_if_success (refine z_dec false (by exact rfl) ?_)); refine z_part rfl rfl (fun h => ?_) (fun h => ?_)))
        · refine z_n (n_index rfl rfl rfl rfl k rfl (by omega)) rfl rfl ?_
          refine z_e rfl (o_store_osl (vs := [.bool true]) rfl rfl rfl rfl rfl rfl (by simp; omega) .z ?_)
          repeat' (refine z_nil ?_)
          repeat' (first | refine e_nil ?_ | ((refine e_op ?_); (refine o_n (peval_sound rfl) rfl ?_)) | refine s_region ?_ | refine s_end ?_)
          refine s_back ⟨⟨k + 1, by omega⟩, by simp only; omega, ?_, ?_⟩
          · repeat' (first | exact Sub.nil _ | refine Sub.cons rfl ?_ | refine Sub.consE rfl ?_ ?_)
            exact inc (i := k) (by omega)
          · simp only [setMany, Nat.zero_add, Nat.mul_one]
            rw [← orP_succ (v := true) (show k < acc.length by omega) (by rw [h]; rfl), List.map_set]
            repeat' (first | exact Ent.nil _ | refine Ent.tak tk ?_)
        · refine z_ny rfl (n_index rfl rfl rfl rfl i rfl hlt) rfl rfl ?_
          refine z_ny rfl (n_load_ro rfl rfl hb (loads_one rfl (hc 0 _ rfl))) rfl rfl ?_
          repeat' (refine z_ny rfl (peval_sound rfl) rfl rfl ?_)
          refine z_ny rfl (n_index rfl rfl rfl rfl j hw (by omega)) rfl rfl ?_
          refine z_ny rfl (n_load_ro rfl rfl hb2 (loads_one rfl (hc2 0 _ rfl))) rfl rfl ?_
          repeat' (refine z_ny rfl (peval_sound rfl) rfl rfl ?_)
          refine z_ny rfl (n_index rfl rfl rfl rfl k rfl (by omega)) rfl rfl ?_
          refine z_ny rfl (n_load_ro rfl rfl hb3 (loads_one rfl (hc3 0 _ rfl))) rfl rfl ?_
          repeat' (refine z_n (peval_sound rfl) rfl rfl ?_)
          refine z_n (n_index rfl rfl rfl rfl k rfl (by omega)) rfl rfl ?_
          refine z_e rfl (o_store_osl (vs := [.bool fi[j][k]]) rfl rfl rfl rfl rfl rfl (by simp; omega) .z ?_)
          repeat' (refine z_nil ?_)
          repeat' (first | refine e_nil ?_ | ((refine e_op ?_); (refine o_n (peval_sound rfl) rfl ?_)) | refine s_region ?_ | refine s_end ?_)
          refine s_back ⟨⟨k + 1, by omega⟩, by simp only; omega, ?_, ?_⟩
          · repeat' (first | exact Sub.nil _ | refine Sub.cons rfl ?_ | refine Sub.consE rfl ?_ ?_)
            exact inc (i := k) (by omega)
          · simp only [setMany, Nat.zero_add, Nat.mul_one]
            rw [← orP_succ (v := fi[j][k]) (show k < acc.length by omega) (by rw [h, List.getD_eq_getElem?_getD, List.getElem?_eq_getElem]; rfl), List.map_set]
            repeat' (first | exact Ent.nil _ | refine Ent.tak tk ?_)
      have hge : t = k := by have := of_decide_eq_false h; omega
      subst hge
      clear h
      have hor : orP acc fi[j] t = orL acc fi[j] := by unfold orL; rw [hacc]
      rw [hor]
      obtain ⟨b4', o4, es4, e4, hb4, e5, hc4⟩ := hno.2.2 j (by omega)
      cases e5
      cases e4
      have hgn : no.getD j false = no[j] := by rw [List.getD_eq_getElem?_getD, List.getElem?_eq_getElem]; rfl
      rw [hgn] at hrow
      repeat' (first | refine s_seq ?_ | refine s_exit ?_ | refine x_hit ?_ | refine x_code ?_ | refine x_back ?_)
      refine s_drawU [] Tryz.mixed (by decide +kernel) ?_
      repeat' (((first | refine l_n (peval_sound rfl) rfl ?_ rfl ?_ | refine l_n (nl rfl rfl tc rfl) rfl ?_ rfl ?_); · (exact Ent.refl _)))
      refine l_n (n_index rfl rfl rfl rfl i rfl hlt) rfl (by (exact Ent.refl _)) rfl ?_
      refine l_n (n_load_ro rfl rfl hb (loads_one rfl (hc 0 _ rfl))) rfl (by (exact Ent.refl _)) rfl ?_
      repeat' (((refine l_n (peval_sound rfl) rfl ?_ rfl ?_); · (exact Ent.refl _)))
      refine l_n (n_index rfl rfl rfl rfl j hw (by omega)) rfl (by (exact Ent.refl _)) rfl ?_
      refine l_n (n_load_ro rfl rfl hb4 (loads_one rfl (hc4 0 _ rfl))) rfl (by (exact Ent.refl _)) rfl ?_
      repeat' (first | refine l_nil ?_ | ((refine l_n (peval_sound rfl) rfl ?_ rfl ?_); · (exact Ent.refl _)))
      skip
      refine s_cond rfl (fun h => ?_) (fun h => ?_)
      · repeat' (first | refine e_nil ?_ | ((refine e_op ?_); (refine o_n (peval_sound rfl) rfl ?_)) | refine s_seq ?_ | refine s_region ?_)
        rw [Bool.not_eq_true'] at h
        rw [h, if_neg (by simp)] at hrow
        refine s_ret ⟨_, _, res2 rfl rfl rfl, ⟨bu, ?_, rfl⟩, ?_⟩
        · rw [hrow]
        · rw [hrow]
          repeat' (first | exact Ent.nil _ | refine Ent.tak tk ?_)
      · repeat' (first | refine e_nil ?_ | ((refine e_op ?_); (refine o_n (peval_sound rfl) rfl ?_)) | refine s_region ?_ | refine s_end ?_ | refine s_skip ?_)
        rw [Bool.not_eq_false'] at h
        rw [h, if_pos rfl] at hrow
        refine s_back ⟨⟨(i + 1, orL acc fi[j]), by simp only; omega, by simp only [orL_len]; exact hacc, hrow⟩, by simp only; omega, ?_, by repeat' (first | exact Ent.nil _ | refine Ent.tak tk ?_)⟩
        repeat' (first | exact Sub.nil _ | refine Sub.cons rfl ?_ | refine Sub.consE rfl ?_ ?_)
        exact inc (i := i) (by omega)
  · have hge : i = xs.length := by have := of_decide_eq_false h; omega
    subst hge
    clear h
    rw [List.drop_length, rowS] at hrow
    repeat' (first | refine e_nil ?_ | ((refine e_op ?_); (refine o_n (peval_sound rfl) rfl ?_)) | refine s_seq ?_ | refine s_region ?_ | refine s_exit ?_ | refine x_hit ?_ | refine x_code ?_ | refine x_back ?_)
    refine s_ret ⟨_, _, res2 rfl rfl rfl, ⟨bu, ?_, rfl⟩, ?_⟩
    · rw [hrow]
    · rw [hrow]
      repeat' (first | exact Ent.nil _ | refine Ent.tak tk ?_)

end Go.Proofs.YtcnpjhaedjncdaaGreatDoor

namespace Go.Proofs.YtcnpjhaedjncdaaGreatDoor
set_option linter.all false
open Go.Proofs.YtcnpjhaedjncdaaGreatDoor.E
attribute [local irreducible] EVX EVO EVL EV1 NEV
attribute [local irreducible] own osl exA rdA rdL
set_option maxRecDepth 10000
set_option maxHeartbeats 1000000

/-- What 'All' leaves. -/
def alM (g : Gram) (bn bf cf : Nat) : List Asn :=
  [osl 4 1 (.slice (some ⟨bn, 0, none⟩) g.Nons.length g.Nons.length) g.Nons.length ((bFix g).1.map Value.bool), orow Value.bool 39 4 (.slice (some ⟨bf, 0, none⟩) g.Nons.length cf) g.Nons.length (bFix g).2]

theorem allR_w (cs : List Value) (g : Gram) (hce : checkE g = 0) : Trip Tryz.prog 48 [.agg cs.toArray] (kGram.rd cs g) []
    (fun v V => ∃ bn bf cf, v = .agg #[.slice (some ⟨bn, 0, none⟩) g.Nons.length g.Nons.length, .slice (some ⟨bf, 0, none⟩) g.Nons.length cf] ∧ V = alM g bn bf cf) := by
  refine trip Tryz.tabOk Tryz.func48 rfl rfl rfl rfl ?_
  intro w SM hR
  obtain ⟨A0, A1, A2, A3, A4, c0, c1, c2, c3, c4, rfl, hG⟩ := kGram_open hR
  obtain ⟨hl, hw0⟩ := wf0_of hce
  obtain ⟨ht48, hn48, _⟩ := lim_n hl
  have hbs := bsOk_of hw0
  have hn2 := hw0.n
  have hT := hG.terms.2.1
  have hN := hG.nons.2.1
  have hP := hG.prods.2.1
  have hnat := hbs.nat
  generalize hgn : g.Nons.length = n at *
  generalize hgt : g.Terms.length = t at *
  repeat' (first | refine e_nil ?_ | ((refine e_op ?_); (first | refine o_n (peval_sound rfl) rfl ?_ | refine o_n (nl rfl rfl tc rfl) rfl ?_ | refine o_box rfl rfl (fun _ => ?_) | refine o_alloc rfl rfl (fun _ => ?_))) | refine s_seq ?_ | refine s_region ?_)
  rename_i b1 b2
  refine e_op (o_make rfl rfl rfl rfl n rfl rfl (by omega) (by omega) rfl (fun bn => ?_))
  repeat' (first | refine e_nil ?_ | ((refine e_op ?_); (first | refine o_n (peval_sound rfl) rfl ?_ | refine o_storeC rfl rfl rfl rfl tc uc rfl rfl rfl ?_ | refine o_alloc rfl rfl (fun _ => ?_))) | refine s_seq ?_ | refine s_region ?_ | refine s_block ?_)
  rename_i b3
  refine s_loopK (ι := {x : Nat × Value × List (Option Addr × Nat) // x.1 ≤ n ∧ x.2.2.length = x.1 ∧ (x.1 = 0 → x.2.1 = .slice none 0 0) ∧ (0 < x.1 → ∃ b c, x.2.1 = .slice (some ⟨b, 0, none⟩) x.1 c)}) [1, 2, 3] rfl
    ⟨(0, .slice none 0 0, []), by simp⟩
    (fun x => [(4, .int .i64 x.1.1)])
    (fun x => blk b3 120 [.slice (some ⟨bn, 0, none⟩) n n, x.1.2.1] ::
      osl 4 1 (.slice (some ⟨bn, 0, none⟩) n n) n ((List.replicate n false).map Value.bool) ::
      blk b2 120 [.slice none 0 0, .slice none 0 0] :: blk b1 27 [.slice A0 t c0, .slice A1 g.Levels.length c1, .slice A2 g.Pats.length c2, .slice A3 n c3, .slice A4 g.Prods.length c4] ::
      osl 39 1 x.1.2.1 x.1.1 (rowC x.1.2.2 (List.replicate x.1.1 (List.replicate t false))) :: rowL Value.bool 4 x.1.2.2 (List.replicate x.1.1 (List.replicate t false)))
    (fun x => n - x.1.1) ?_ ?_ ?_
  · repeat' (first | exact Sub.nil _ | refine Sub.cons rfl ?_)
  · rw [show List.replicate n (Value.bool false) = (List.replicate n false).map Value.bool from by simp]
    exact Ent.tak .z (Ent.tak .z (Ent.tak .z (Ent.tak .z (Ent.osl0 (Ent.nil _)))))
  · rintro ⟨⟨k, v, acs⟩, hk, hacs, hv0, hv1⟩
    simp only at hk hacs hv0 hv1 ⊢
    repeat' (first | refine e_nil ?_ | ((refine e_op ?_); (first | refine o_n (peval_sound rfl) rfl ?_ | refine o_n (nl rfl rfl tc rfl) rfl ?_)) | refine s_seq ?_ | refine s_region ?_)
    refine s_cond rfl (fun h => ?_) (fun h => ?_)
    · have hkn : k < n := by have := of_decide_eq_true h; omega
      clear h
      have hal : acs.length = (List.replicate k (List.replicate t false)).length := by simp [hacs]
      repeat' (first | refine s_seq ?_ | refine s_block ?_ | refine s_skip ?_)
      refine s_drawB [9] [5, 6, 7] (blk b3 120 [.slice (some ⟨bn, 0, none⟩) n n, v] ::
        osl 4 1 (.slice (some ⟨bn, 0, none⟩) n n) n ((List.replicate n false).map Value.bool) ::
        blk b2 120 [.slice none 0 0, .slice none 0 0] :: blk b1 27 [.slice A0 t c0, .slice A1 g.Levels.length c1, .slice A2 g.Pats.length c2, .slice A3 n c3, .slice A4 g.Prods.length c4] :: rowL Value.bool 4 acs (List.replicate k (List.replicate t false))) Tryz.mixed (by decide +kernel) ?_
      repeat' (((first | refine b_n (peval_sound rfl) rfl rfl ?_ rfl ?_ | refine b_n (nl rfl rfl tc rfl) rfl rfl ?_ rfl ?_); · (repeat' (first | exact Ent.refl _ | refine Ent.tak .z ?_ | refine Ent.wk ?_))))
      refine b_e rfl rfl (o_make rfl rfl rfl rfl t rfl rfl (by omega) (by omega) rfl (fun b8 => ⟨(by (repeat' (first | exact Ent.refl _ | refine Ent.tak .z ?_ | refine Ent.wk ?_))), ?_⟩))
      refine b_e rfl rfl (o_lit rfl rfl rfl rfl rfl rfl rfl (fun b9 => ⟨(by (repeat' (first | exact Ent.refl _ | refine Ent.tak .z ?_ | refine Ent.wk ?_))), ?_⟩))
      refine b_e rfl rfl (o_append (v := v) (n := k) (m := 1) (news := [.slice (some ⟨b8, 0, none⟩) t t]) _ rfl rfl rfl rfl (fun w hm j u hu => ?_) rfl ?_ rfl (by omega) (by simp only; omega) (by omega) rfl (fun b c => .s (.s (.s (.s (.s (.s .z)))))) (fun ba c => ⟨(by (repeat' (first | exact Ent.refl _ | refine Ent.tak .z ?_ | refine Ent.wk ?_))), ?_⟩))
      · obtain ⟨S1, hP, _⟩ := hm.tak Tak.z
        rw [Nat.zero_add]
        exact osl_cells hP j u hu
      · intro u hu
        simp only [List.mem_singleton] at hu
        subst hu; rfl
      repeat' (((refine b_n (peval_sound rfl) rfl rfl ?_ rfl ?_); · (repeat' (first | exact Ent.refl _ | refine Ent.tak .z ?_ | refine Ent.wk ?_))))
      refine b_z rfl (o_store rfl rfl rfl rfl rfl rfl rfl (.s (.s .z)) ⟨[], ?_⟩)
      repeat' (refine b_nil ?_)
      repeat' (first | refine e_nil ?_ | ((refine e_op ?_); (refine o_n (peval_sound rfl) rfl ?_)) | refine s_region ?_ | refine s_end ?_)
      refine s_back ⟨⟨(k + 1, .slice (some ⟨ba, 0, none⟩) (k + 1) c, acs ++ [(some ⟨b8, 0, none⟩, t)]), by simp only; omega, by simp [hacs], by simp, fun _ => ⟨_, _, rfl⟩⟩, by simp only; omega, ?_, ?_⟩
      · repeat' (first | exact Sub.nil _ | refine Sub.cons rfl ?_ | refine Sub.consE rfl ?_ ?_)
        exact inc (i := k) (by omega)
      · simp only [List.replicate_succ', rowC_snoc hal, rowL_snoc hal, List.length_replicate, List.map_replicate]
        refine Ent.tak (.s (.s .z)) (Ent.tak (.s (.s .z)) (Ent.tak (.s (.s .z)) (Ent.tak (.s (.s .z)) (Ent.tak (.s (.s .z)) (Ent.wk ?_)))))
        have := Ent.mid (A := osl 4 1 (.slice (some ⟨b8, 0, none⟩) t t) t (List.replicate t (Value.bool false))) (L := rowL Value.bool 4 acs (List.replicate k (List.replicate t false))) (U := [])
        rw [List.append_nil] at this
        exact this
    · have hge : n = k := by have := of_decide_eq_false h; omega
      subst hge
      clear h
      obtain ⟨bf, cf, rfl⟩ := hv1 (by omega)
      subst hgn
      subst hgt
      have hinit : BInv g.Terms.length g.Nons.length (bInit g.Terms.length g.Nons.length) := bInit_inv _ _
      repeat' (first | refine e_nil ?_ | ((refine e_op ?_); (refine o_n (peval_sound rfl) rfl ?_)) | refine s_seq ?_ | refine s_region ?_ | refine s_block ?_ | refine s_exit ?_ | refine x_hit ?_ | refine x_code ?_ | refine x_back ?_)
      refine s_loopK (ι := {x : Bool × BSt // BInv g.Terms.length g.Nons.length x.2 ∧ (∃ m, x.2 = it (bRound g.Terms.length g.Prods) m (bInit g.Terms.length g.Nons.length)) ∧ (x.1 = false → bRound g.Terms.length g.Prods x.2 = x.2)}) [1, 2, 3] rfl
        ⟨(true, bInit g.Terms.length g.Nons.length), hinit, ⟨0, rfl⟩, by simp⟩ (fun x => [(5, .bool x.1.1)])
        (fun x => [blk b3 120 [.slice (some ⟨bn, 0, none⟩) g.Nons.length g.Nons.length, .slice (some ⟨bf, 0, none⟩) g.Nons.length cf],
          osl 4 1 (.slice (some ⟨bn, 0, none⟩) g.Nons.length g.Nons.length) g.Nons.length (x.1.2.1.map Value.bool), orow Value.bool 39 4 (.slice (some ⟨bf, 0, none⟩) g.Nons.length cf) g.Nons.length x.1.2.2,
          blk b2 120 [.slice none 0 0, .slice none 0 0], blk b1 27 [.slice A0 g.Terms.length c0, .slice A1 g.Levels.length c1, .slice A2 g.Pats.length c2, .slice A3 g.Nons.length c3, .slice A4 g.Prods.length c4]])
        (fun x => if x.1.1 then g.Nons.length + g.Nons.length * g.Terms.length + 1 - cntS x.1.2 else 0) ?_ ?_ ?_
      · repeat' (first | exact Sub.nil _ | refine Sub.cons rfl ?_)
      · refine Ent.tak .z (Ent.tak .z ?_)
        refine Ent.trans (Ent.tak .z (Ent.tak .z (Ent.refl _))) ?_
        refine Ent.trans (Ent.tak (.s (.s .z)) (Ent.refl _)) ?_
        have hin := ent_rows (enc := Value.bool) (eo := 39) (ei := 4) (v := .slice (some ⟨bf, 0, none⟩) g.Nons.length cf) (n := g.Nons.length) (V := [blk b2 120 [.slice none 0 0, .slice none 0 0], blk b1 27 [.slice A0 g.Terms.length c0, .slice A1 g.Levels.length c1, .slice A2 g.Pats.length c2, .slice A3 g.Nons.length c3, .slice A4 g.Prods.length c4]])
          (W := []) (rows := List.replicate g.Nons.length (List.replicate g.Terms.length false)) (acs := acs) (by simp [hacs])
        rw [List.append_nil] at hin
        exact hin
      rintro ⟨⟨more, s⟩, hsi, ⟨m, hm⟩, hmore⟩
      simp only at hsi hm hmore ⊢
      repeat' (first | refine e_nil ?_ | ((refine e_op ?_); (refine o_n (peval_sound rfl) rfl ?_)) | refine s_seq ?_ | refine s_region ?_)
      refine s_cond rfl (fun h => ?_) (fun h => ?_)
      · subst h
        repeat' (first | refine e_nil ?_ | ((refine e_op ?_); (refine o_n (peval_sound rfl) rfl ?_)) | refine s_seq ?_ | refine s_region ?_ | refine s_block ?_ | refine s_skip ?_)
        refine s_loopK (ι := {i : Nat // i ≤ g.Prods.length}) [1, 2, 3] rfl ⟨0, by omega⟩
          (fun x => [(6, .int .i64 x.1), (5, .bool (decide (cntS s < cntS (bRound g.Terms.length (g.Prods.take x.1) s))))])
          (fun x => [blk b3 120 [.slice (some ⟨bn, 0, none⟩) g.Nons.length g.Nons.length, .slice (some ⟨bf, 0, none⟩) g.Nons.length cf],
            osl 4 1 (.slice (some ⟨bn, 0, none⟩) g.Nons.length g.Nons.length) g.Nons.length ((bRound g.Terms.length (g.Prods.take x.1) s).1.map Value.bool),
            orow Value.bool 39 4 (.slice (some ⟨bf, 0, none⟩) g.Nons.length cf) g.Nons.length (bRound g.Terms.length (g.Prods.take x.1) s).2,
            blk b2 120 [.slice none 0 0, .slice none 0 0], blk b1 27 [.slice A0 g.Terms.length c0, .slice A1 g.Levels.length c1, .slice A2 g.Pats.length c2, .slice A3 g.Nons.length c3, .slice A4 g.Prods.length c4]])
          (fun x => g.Prods.length - x.1) ?_ (Ent.refl _) ?_
        · repeat' (first | exact Sub.nil _ | refine Sub.cons rfl ?_ | refine Sub.consE rfl ?_ ?_)
          simp [bRound]
        rintro ⟨i, hi⟩
        simp only at hi ⊢
        repeat' (first | refine e_nil ?_ | ((refine e_op ?_); (first | refine o_n (peval_sound rfl) rfl ?_ | refine o_n (nl rfl rfl tc rfl) rfl ?_)) | refine s_seq ?_ | refine s_region ?_)
        refine s_cond rfl (fun h => ?_) (fun h => ?_)
        · have hlt : i < g.Prods.length := by have := of_decide_eq_true h; omega
          clear h
          obtain ⟨b, o, es, rfl, hb, he, hc⟩ := hG.prods.2.2 i hlt
          obtain ⟨Ar, cr, rfl, hl', hlN, hlK, hr⟩ := kPrd_open he
          have hrl := hr.2.1
          have hcI : BInv g.Terms.length g.Nons.length (bRound g.Terms.length (g.Prods.take i) s) := bRound_inv _ (fun p hp => hnat p (List.mem_of_mem_take hp)) s hsi
          have hmi : cntS s ≤ cntS (bRound g.Terms.length (g.Prods.take i) s) := by
            rcases bRound_cnt (g.Prods.take i) (fun p hp => hnat p (List.mem_of_mem_take hp)) s hsi with h | h
            · rw [h]; exact Nat.le_refl _
            · omega
          have hstep := bRound_take (t := g.Terms.length) hlt s
          generalize hcur : bRound g.Terms.length (g.Prods.take i) s = cur at *
          obtain ⟨hl0, hl1⟩ := hbs.left i hlt
          have hLn : g.Prods[i].Left.toNat < g.Nons.length := by omega
          repeat' (first | ((refine e_op ?_); (first | refine o_n (peval_sound rfl) rfl ?_ | refine o_n (nl rfl rfl tc rfl) rfl ?_)) | refine s_seq ?_ | refine s_region ?_ | refine s_block ?_ | refine s_skip ?_)
          refine e_op (o_n (n_index rfl rfl rfl rfl i rfl hlt) rfl ?_)
          repeat' (((refine e_op ?_); (refine o_n (peval_sound rfl) rfl ?_)))
          refine e_op (o_n (n_load_ro rfl rfl hb (loads_one rfl (hc 0 _ rfl))) rfl ?_)
          repeat' (first | refine e_nil ?_ | ((refine e_op ?_); (refine o_n (peval_sound rfl) rfl ?_)) | refine s_seq ?_)
          refine s_drawU [8] Tryz.mixed (by decide +kernel) ?_
          repeat' (((first | refine l_n (peval_sound rfl) rfl ?_ rfl ?_ | refine l_n (nl rfl rfl tc rfl) rfl ?_ rfl ?_); · (exact Ent.refl _)))
          refine l_n (n_index rfl rfl rfl rfl i rfl hlt) rfl (by (exact Ent.refl _)) rfl ?_
          repeat' (((refine l_n (peval_sound rfl) rfl ?_ rfl ?_); · (exact Ent.refl _)))
          refine l_n (n_load_ro rfl rfl hb (loads_one rfl (hc 1 _ rfl))) rfl (by (exact Ent.refl _)) rfl ?_
          skip
          refine l_e rfl (o_call (rowR_w [.slice A1 g.Levels.length c1, .slice A2 g.Pats.length c2, .slice A3 g.Nons.length c3, .slice (some ⟨b, o, none⟩) g.Prods.length c4] rfl A0 g.Terms.length c0 (some ⟨bn, 0, none⟩) g.Nons.length g.Nons.length (some ⟨bf, 0, none⟩) cf cur hcI hT (by omega) Ar
            g.Prods[i].Right.length cr g.Prods[i].Right rfl (hbs.right i hlt)) rfl .nil
            (Can.and (Can.and (Can.osl Value.bool rfl kbool_enc (.s .z) (by omega)) (Can.orow Value.bool rfl kbool_enc (.s (.s .z)) (by omega) (fun r hr => by rw [hcI.rows r hr]; omega))) (Can.ro (sl_mk hr))) rfl ?_)
          rintro v V ⟨bt, rfl, rfl⟩
          refine ⟨(by (repeat' (first | exact Ent.refl _ | refine Ent.wk ?_))), ?_⟩
          have hrt := rowT_len g.Terms.length cur g.Prods[i].Right
          have hsplit := bPart_cnt hcI g.Prods[i] hLn (k := 0) (by omega)
          have hno := hcI.no
          have hlL : g.Prods[i].Left.toNat < cur.1.length := by omega
          have hgN : cur.1.getD g.Prods[i].Left.toNat false = cur.1[g.Prods[i].Left.toNat] := by rw [List.getD_eq_getElem?_getD, List.getElem?_eq_getElem hlL]; rfl
          repeat' (first | refine l_nil ?_ | ((refine l_n (peval_sound rfl) rfl ?_ rfl ?_); · (repeat' (first | exact Ent.refl _ | refine Ent.wk ?_))))
          repeat' (first | ((refine e_op ?_); (refine o_n (peval_sound rfl) rfl ?_)) | refine s_seq ?_ | refine s_region ?_)
          refine e_join (ι := Unit) (fun _ => [(1, .pointer (some ⟨b1, 0, none⟩)), (2, .pointer (some ⟨b2, 0, none⟩)), (3, .pointer (some ⟨b3, 0, none⟩)), (6, .int .i64 i), (7, .int .i64 g.Prods[i].Left), (8, .slice (some ⟨bt, 0, none⟩) g.Terms.length g.Terms.length),
              (5, .bool (decide (cntS s < cntS cur))), (66, .bool ((rowT g.Terms.length cur g.Prods[i].Right).2 && !cur.1[g.Prods[i].Left.toNat]))])
            (fun _ => [osl 4 1 (.slice (some ⟨bt, 0, none⟩) g.Terms.length g.Terms.length) g.Terms.length ((rowT g.Terms.length cur g.Prods[i].Right).1.map Value.bool), blk b3 120 [.slice (some ⟨bn, 0, none⟩) g.Nons.length g.Nons.length, .slice (some ⟨bf, 0, none⟩) g.Nons.length cf],
              osl 4 1 (.slice (some ⟨bn, 0, none⟩) g.Nons.length g.Nons.length) g.Nons.length (cur.1.map Value.bool),
              orow Value.bool 39 4 (.slice (some ⟨bf, 0, none⟩) g.Nons.length cf) g.Nons.length cur.2,
              blk b2 120 [.slice none 0 0, .slice none 0 0], blk b1 27 [.slice A0 g.Terms.length c0, .slice A1 g.Levels.length c1, .slice A2 g.Pats.length c2, .slice A3 g.Nons.length c3, .slice (some ⟨b, o, none⟩) g.Prods.length c4]]) ?_ (fun hfin => ?_)
          · rintro ⟨⟩
            refine s_condJ (ι := Unit) (fun _ => [(1, .pointer (some ⟨b1, 0, none⟩)), (2, .pointer (some ⟨b2, 0, none⟩)), (3, .pointer (some ⟨b3, 0, none⟩)), (6, .int .i64 i), (7, .int .i64 g.Prods[i].Left), (8, .slice (some ⟨bt, 0, none⟩) g.Terms.length g.Terms.length),
                (5, .bool (decide (cntS s < cntS (bNo g.Terms.length cur g.Prods[i], cur.2))))])
              (fun _ => [osl 4 1 (.slice (some ⟨bt, 0, none⟩) g.Terms.length g.Terms.length) g.Terms.length ((rowT g.Terms.length cur g.Prods[i].Right).1.map Value.bool), blk b3 120 [.slice (some ⟨bn, 0, none⟩) g.Nons.length g.Nons.length, .slice (some ⟨bf, 0, none⟩) g.Nons.length cf],
                osl 4 1 (.slice (some ⟨bn, 0, none⟩) g.Nons.length g.Nons.length) g.Nons.length ((bNo g.Terms.length cur g.Prods[i]).map Value.bool),
                orow Value.bool 39 4 (.slice (some ⟨bf, 0, none⟩) g.Nons.length cf) g.Nons.length cur.2,
                blk b2 120 [.slice none 0 0, .slice none 0 0], blk b1 27 [.slice A0 g.Terms.length c0, .slice A1 g.Levels.length c1, .slice A2 g.Pats.length c2, .slice A3 g.Nons.length c3, .slice (some ⟨b, o, none⟩) g.Prods.length c4]])
              rfl (fun hnt hfin => ?_) (fun hnt hfin => ?_) ?_
            · rw [Bool.and_eq_true, Bool.not_eq_true'] at hnt
              have hb2 : bNo g.Terms.length cur g.Prods[i] = cur.1.set g.Prods[i].Left.toNat true := by unfold bNo; rw [if_pos hnt.1]
              repeat' (first | ((refine e_op ?_); (first | refine o_n (peval_sound rfl) rfl ?_ | refine o_n (nl rfl rfl tc rfl) rfl ?_)) | refine s_seq ?_ | refine s_region ?_)
              refine e_op (o_n (n_index rfl rfl rfl rfl g.Prods[i].Left.toNat (by omega) (by omega)) rfl ?_)
              refine e_op (o_store_osl (vs := [.bool true]) rfl rfl rfl rfl rfl rfl (by simp; omega) (.s (.s .z)) ?_)
              skip
              refine e_nil (s_region ?_)
              repeat' (((refine e_op ?_); (refine o_n (peval_sound rfl) rfl ?_)))
              refine e_nil (s_weak ?_ ?_ (hfin ()))
              · repeat' (first | exact Sub.nil _ | refine Sub.cons rfl ?_ | refine Sub.consE rfl ?_ ?_)
                rw [bNo_new hcI _ hLn hnt.1 (by rw [hgN]; exact hnt.2), decide_eq_true (by omega)]
              · rw [hb2, List.map_set]
                simp only [setMany, Nat.zero_add, Nat.mul_one]
                repeat' (first | exact Ent.nil _ | refine Ent.tak tk ?_)
            · have hold := bNo_old hcI g.Prods[i] hLn (by
                rw [hgN]
                cases hr2 : (rowT g.Terms.length cur g.Prods[i].Right).2 with
                | false => exact .inl rfl
                | true => rw [hr2] at hnt; exact .inr (by simpa using hnt))
              refine s_skip ?_
              refine s_weak ?_ ?_ (hfin ())
              · repeat' (first | exact Sub.nil _ | refine Sub.cons rfl ?_ | refine Sub.consE rfl ?_ ?_)
                rw [hold]
              · rw [hold]
                repeat' (first | exact Ent.nil _ | refine Ent.tak tk ?_)
            rintro ⟨⟩
            generalize hte : (rowT g.Terms.length cur g.Prods[i].Right).1 = te at *
            have hnoM : ∀ k, k ≤ g.Terms.length → cntS s ≤ cntS (bNo g.Terms.length cur g.Prods[i], bFi g.Terms.length cur g.Prods[i] k) := fun k hk => by
              rcases bPart_cnt hcI g.Prods[i] hLn (k := k) hk with h | h
              · rw [h]; exact hmi
              · omega
            repeat' (first | refine e_nil ?_ | ((refine e_op ?_); (refine o_n (peval_sound rfl) rfl ?_)) | refine s_seq ?_ | refine s_region ?_ | refine s_block ?_)
            refine s_loopK (ι := {j : Nat // j ≤ g.Terms.length}) [1, 2, 3, 6, 7, 8] rfl ⟨0, by omega⟩
              (fun x => [(10, .int .i64 x.1), (5, .bool (decide (cntS s < cntS (bNo g.Terms.length cur g.Prods[i], bFi g.Terms.length cur g.Prods[i] x.1))))])
              (fun x => [osl 4 1 (.slice (some ⟨bt, 0, none⟩) g.Terms.length g.Terms.length) g.Terms.length (te.map Value.bool), blk b3 120 [.slice (some ⟨bn, 0, none⟩) g.Nons.length g.Nons.length, .slice (some ⟨bf, 0, none⟩) g.Nons.length cf],
                osl 4 1 (.slice (some ⟨bn, 0, none⟩) g.Nons.length g.Nons.length) g.Nons.length ((bNo g.Terms.length cur g.Prods[i]).map Value.bool),
                orow Value.bool 39 4 (.slice (some ⟨bf, 0, none⟩) g.Nons.length cf) g.Nons.length (bFi g.Terms.length cur g.Prods[i] x.1),
                blk b2 120 [.slice none 0 0, .slice none 0 0], blk b1 27 [.slice A0 g.Terms.length c0, .slice A1 g.Levels.length c1, .slice A2 g.Pats.length c2, .slice A3 g.Nons.length c3, .slice (some ⟨b, o, none⟩) g.Prods.length c4]])
              (fun x => g.Terms.length - x.1) ?_ ?_ ?_
            · repeat' (first | exact Sub.nil _ | refine Sub.cons rfl ?_ | refine Sub.consE rfl ?_ ?_)
              rw [bFi_zero hcI _ hLn]
            · rw [bFi_zero hcI _ hLn]
              exact Ent.refl _
            rintro ⟨j, hj⟩
            simp only at hj ⊢
            repeat' (first | refine e_nil ?_ | ((refine e_op ?_); (refine o_n (peval_sound rfl) rfl ?_)) | refine s_seq ?_ | refine s_region ?_)
            refine s_cond rfl (fun h => ?_) (fun h => ?_)
            · have hjt : j < g.Terms.length := by have := of_decide_eq_true h; omega
              clear h
              have hjl : j < te.length := by omega
              have hgt : te.getD j false = te[j] := by rw [List.getD_eq_getElem?_getD, List.getElem?_eq_getElem hjl]; rfl
              have hrj : (cur.2.getD g.Prods[i].Left.toNat []).length = g.Terms.length := hcI.row hLn
              have hfiL := hcI.fi
              have hbl : (bFi g.Terms.length cur g.Prods[i] j).length = g.Nons.length := by unfold bFi; rw [List.length_set]; exact hfiL
              have hLb : g.Prods[i].Left.toNat < (bFi g.Terms.length cur g.Prods[i] j).length := by omega
              have hrowe : (bFi g.Terms.length cur g.Prods[i] j)[g.Prods[i].Left.toNat] = orP (cur.2.getD g.Prods[i].Left.toNat []) te j := by
                have := bFi_get hcI g.Prods[i] hLn j
                rw [List.getElem?_eq_getElem hLb, hte] at this
                exact Option.some.inj this
              have hrowl : (bFi g.Terms.length cur g.Prods[i] j)[g.Prods[i].Left.toNat].length = g.Terms.length := by rw [hrowe, orP_len]; exact hrj
              have hjr : j < (bFi g.Terms.length cur g.Prods[i] j)[g.Prods[i].Left.toNat].length := by omega
              have hat : (bFi g.Terms.length cur g.Prods[i] j)[g.Prods[i].Left.toNat][j] = (cur.2.getD g.Prods[i].Left.toNat []).getD j false := by
                have h1 := orP_at (r := cur.2.getD g.Prods[i].Left.toNat []) (te := te) (k := j) (by omega)
                rw [← hrowe, List.getElem?_eq_getElem hjr] at h1
                rw [Option.some.inj h1]
                rw [List.getD_eq_getElem?_getD (i := j), List.getElem?_eq_getElem]; rfl
              repeat' (first | ((refine e_op ?_); (refine o_n (peval_sound rfl) rfl ?_)) | refine s_seq ?_ | refine s_region ?_ | refine s_block ?_ | refine s_skip ?_)
              refine e_op (o_n (n_index rfl rfl rfl rfl j rfl hjt) rfl ?_)
              refine e_op (o_n (n_load_osl (v := .bool te[j]) rfl rfl .z (by simp [loadL, aggB, hjl])) rfl ?_)
              refine e_ex (.s (.s (.s .z))) ?_
              rintro acs hacs
              have hget := rowL_get (enc := Value.bool) (ei := 4) hacs hLb
              have hcg := rowC_get hacs hLb
              generalize hrw : bFi g.Terms.length cur g.Prods[i] j = rows at *
              simp only [List.cons_append]
              refine e_ent (Ent.tak (.s (.right .z)) (Ent.tak (.s (.right .z)) (Ent.tak .z (Ent.tak (.right (.s .z)) (Ent.tak (.right (.s .z)) (Ent.refl _)))))) ?_
              refine e_open (.s (.s (.s (.s (.s (tak_get hget)))))) (by omega) (fun br hbr => ?_)
              rw [hbr] at hget hcg
              have hLa : g.Prods[i].Left.toNat < acs.length := by rw [hacs]; exact hLb
              have hout : ∀ rows', acs.length = rows'.length → Ent (osl 4 1 (.slice (some ⟨bt, 0, none⟩) g.Terms.length g.Terms.length) g.Terms.length (te.map Value.bool) :: blk b3 120 [.slice (some ⟨bn, 0, none⟩) g.Nons.length g.Nons.length, .slice (some ⟨bf, 0, none⟩) g.Nons.length cf] ::
                  osl 39 1 (.slice (some ⟨bf, 0, none⟩) g.Nons.length cf) g.Nons.length (rowC acs rows') :: blk b2 120 [.slice none 0 0, .slice none 0 0] ::
                  blk b1 27 [.slice A0 g.Terms.length c0, .slice A1 g.Levels.length c1, .slice A2 g.Pats.length c2, .slice A3 g.Nons.length c3, .slice (some ⟨b, o, none⟩) g.Prods.length c4] ::
                  (rowL Value.bool 4 acs rows' ++ [osl 4 1 (.slice (some ⟨bn, 0, none⟩) g.Nons.length g.Nons.length) g.Nons.length ((bNo g.Terms.length cur g.Prods[i]).map Value.bool)]))
                [osl 4 1 (.slice (some ⟨bt, 0, none⟩) g.Terms.length g.Terms.length) g.Terms.length (te.map Value.bool), blk b3 120 [.slice (some ⟨bn, 0, none⟩) g.Nons.length g.Nons.length, .slice (some ⟨bf, 0, none⟩) g.Nons.length cf],
                  osl 4 1 (.slice (some ⟨bn, 0, none⟩) g.Nons.length g.Nons.length) g.Nons.length ((bNo g.Terms.length cur g.Prods[i]).map Value.bool), orow Value.bool 39 4 (.slice (some ⟨bf, 0, none⟩) g.Nons.length cf) g.Nons.length rows',
                  blk b2 120 [.slice none 0 0, .slice none 0 0], blk b1 27 [.slice A0 g.Terms.length c0, .slice A1 g.Levels.length c1, .slice A2 g.Pats.length c2, .slice A3 g.Nons.length c3, .slice (some ⟨b, o, none⟩) g.Prods.length c4]] := fun rows' hl' =>
                Ent.tak .z (Ent.tak .z (Ent.tak (.s (.s (.s (.right .z)))) (ent_rows (V := [_, _]) (W := []) hl')))
              refine e_joinU [(1, .pointer (some ⟨b1, 0, none⟩)), (2, .pointer (some ⟨b2, 0, none⟩)), (3, .pointer (some ⟨b3, 0, none⟩)), (6, .int .i64 i), (7, .int .i64 g.Prods[i].Left), (8, .slice (some ⟨bt, 0, none⟩) g.Terms.length g.Terms.length), (10, .int .i64 j),
                  (5, .bool (decide (cntS s < cntS (bNo g.Terms.length cur g.Prods[i], rows)))), (91, .bool (te[j] && !rows[g.Prods[i].Left.toNat][j]))] ?_ (fun hfin => ?_)
              · refine s_cond rfl (fun h => ?_) (fun h => ?_)
                · rw [Bool.and_eq_true, Bool.not_eq_true'] at h
                  obtain ⟨htj, hrr⟩ := h
                  have hnt' := bFi_next_t hcI g.Prods[i] hLn hjt (by rw [hte, hgt]; exact htj)
                  rw [hte, ← hrowe] at hnt'
                  have hnn := bFi_next_n hcI g.Prods[i] hLn hjt (by rw [hte, hgt]; exact htj) (hat ▸ hrr) (bNo g.Terms.length cur g.Prods[i])
                  rw [hrw] at hnt' hnn
                  have hset := rowL_set (enc := Value.bool) (ei := 4) (rows := rows) (r := rows[g.Prods[i].Left.toNat].set j true) (List.getElem?_eq_getElem hLa)
                  rw [List.length_set, hbr, List.map_set, hnt'] at hset
                  have hcs := rowC_set (acs := acs) (rows := rows) (i := g.Prods[i].Left.toNat) (r := rows[g.Prods[i].Left.toNat].set j true) (fun _ => List.length_set ..)
                  rw [hnt'] at hcs
                  have hbj := hnoM j (by omega)
                  rw [hrw] at hbj
                  repeat' (first | ((refine e_op ?_); (first | refine o_n (peval_sound rfl) rfl ?_ | refine o_n (nl rfl rfl tc rfl) rfl ?_)) | refine s_seq ?_ | refine s_region ?_)
                  refine e_op (o_n (n_index rfl rfl rfl rfl g.Prods[i].Left.toNat (by omega) (by omega)) rfl ?_)
                  refine e_op (o_n (n_load_osl (v := .slice (some ⟨br, 0, none⟩) rows[g.Prods[i].Left.toNat].length acs[g.Prods[i].Left.toNat].2) rfl rfl (.s (.s .z)) (by simp only [loadL, aggB, Nat.zero_add, Nat.mul_one, cond_false]; exact hcg)) rfl ?_)
                  repeat' (((refine e_op ?_); (refine o_n (peval_sound rfl) rfl ?_)))
                  refine e_op (o_n (n_index rfl rfl rfl rfl j rfl hjr) rfl ?_)
                  refine e_op (o_store_osl (vs := [.bool true]) rfl rfl rfl rfl rfl rfl (by simp; omega) (.s (.s (.s (.s (.s (upd_get hget)))))) ?_)
                  repeat' (first | refine e_nil ?_ | ((refine e_op ?_); (refine o_n (peval_sound rfl) rfl ?_)) | refine s_region ?_ | refine s_end ?_)
                  refine s_back ⟨⟨j + 1, by omega⟩, by simp only; omega, ?_, ?_⟩
                  · repeat' (first | exact Sub.nil _ | refine Sub.cons rfl ?_ | refine Sub.consE rfl ?_ ?_)
                    · exact inc (i := j) (by omega)
                    · rw [hnn, decide_eq_true]
                      omega
                  · simp only [setMany, Nat.zero_add, Nat.mul_one]
                    rw [hset, ← hcs]
                    exact hout _ (by rw [← hnt', List.length_set]; exact hacs)
                · have hnf := bFi_next_f hcI g.Prods[i] hLn hjt (by
                    rw [hte, hgt, ← hat]
                    cases htj : te[j] with
                    | false => exact .inl rfl
                    | true => rw [htj] at h; exact .inr (by simpa using h))
                  rw [hrw] at hnf
                  repeat' (first | refine e_nil ?_ | ((refine e_op ?_); (refine o_n (peval_sound rfl) rfl ?_)) | refine s_region ?_ | refine s_end ?_ | refine s_skip ?_)
                  refine s_back ⟨⟨j + 1, by omega⟩, by simp only; omega, ?_, ?_⟩
                  · repeat' (first | exact Sub.nil _ | refine Sub.cons rfl ?_ | refine Sub.consE rfl ?_ ?_)
                    · exact inc (i := j) (by omega)
                    · rw [hnf]
                  · rw [hnf]
                    exact hout _ hacs
              · repeat' (((refine e_op ?_); (refine o_n (peval_sound rfl) rfl ?_)))
                refine e_part rfl rfl (fun h => ?_) (fun h => ?_)
                · repeat' (((refine e_yes rfl ?_); (first | refine o_n (peval_sound rfl) rfl ?_ | refine o_n (nl rfl rfl tc rfl) rfl ?_)))
                  refine e_yes rfl (o_n (n_index rfl rfl rfl rfl g.Prods[i].Left.toNat (by omega) (by omega)) rfl ?_)
                  refine e_yes rfl (o_n (n_load_osl (v := .slice (some ⟨br, 0, none⟩) rows[g.Prods[i].Left.toNat].length acs[g.Prods[i].Left.toNat].2) rfl rfl (.s (.s .z)) (by simp only [loadL, aggB, Nat.zero_add, Nat.mul_one, cond_false]; exact hcg)) rfl ?_)
                  repeat' (((refine e_yes rfl ?_); (refine o_n (peval_sound rfl) rfl ?_)))
                  refine e_yes rfl (o_n (n_index rfl rfl rfl rfl j rfl hjr) rfl ?_)
                  refine e_yes rfl (o_n (n_load_osl (v := .bool rows[g.Prods[i].Left.toNat][j]) rfl rfl (.s (.s (.s (.s (.s (tak_get hget)))))) (by simp [loadL, aggB, hjr])) rfl ?_)
                  repeat' (((first | refine e_op ?_ | refine e_yes rfl ?_); (refine o_n (peval_sound rfl) rfl ?_)))
                  refine e_nil (s_weak ?_ (Ent.refl _) hfin)
                  repeat' (first | exact Sub.nil _ | refine Sub.cons rfl ?_ | refine Sub.consE rfl ?_ ?_)
                  rw [h]; rfl
                · repeat' (first | ((refine e_op ?_); (refine o_n (peval_sound rfl) rfl ?_)) | refine e_noU rfl rfl rfl ?_)
                  refine e_nil (s_weak ?_ (Ent.refl _) hfin)
                  repeat' (first | exact Sub.nil _ | refine Sub.cons rfl ?_ | refine Sub.consE rfl ?_ ?_)
                  rw [h]; rfl
            · have hge : g.Terms.length = j := by have := of_decide_eq_false h; omega
              have hst2 : bStep g.Terms.length cur g.Prods[i] = (bNo g.Terms.length cur g.Prods[i], bFi g.Terms.length cur g.Prods[i] j) := by rw [← hge]; rfl
              clear h
              repeat' (first | refine e_nil ?_ | ((refine e_op ?_); (refine o_n (peval_sound rfl) rfl ?_)) | refine s_region ?_ | refine s_end ?_ | refine s_exit ?_ | refine x_hit ?_ | refine x_code ?_ | refine x_back ?_)
              refine s_back ⟨⟨i + 1, by omega⟩, by simp only; omega, ?_, ?_⟩
              · repeat' (first | exact Sub.nil _ | refine Sub.cons rfl ?_ | refine Sub.consE rfl ?_ ?_)
                · exact inc (i := i) (by omega)
                · rw [hstep, hst2]
              · simp only [hstep, hst2]
                repeat' (first | exact Ent.nil _ | refine Ent.tak tk ?_)
          · refine e_part rfl rfl (fun h => ?_) (fun h => ?_)
            · repeat' (((refine e_yes rfl ?_); (first | refine o_n (peval_sound rfl) rfl ?_ | refine o_n (nl rfl rfl tc rfl) rfl ?_)))
              refine e_yes rfl (o_n (n_index rfl rfl rfl rfl g.Prods[i].Left.toNat (by omega) (by omega)) rfl ?_)
              refine e_yes rfl (o_n (n_load_osl (v := .bool cur.1[g.Prods[i].Left.toNat]) rfl rfl (.s (.s .z)) (by simp [loadL, aggB, hlL])) rfl ?_)
              repeat' (((first | refine e_op ?_ | refine e_yes rfl ?_); (refine o_n (peval_sound rfl) rfl ?_)))
              refine e_nil (s_weak ?_ ?_ (hfin ()))
              · repeat' (first | exact Sub.nil _ | refine Sub.cons rfl ?_ | refine Sub.consE rfl ?_ ?_)
                rw [h]; rfl
              · repeat' (first | exact Ent.nil _ | refine Ent.tak tk ?_)
            · repeat' (first | ((refine e_op ?_); (refine o_n (peval_sound rfl) rfl ?_)) | refine e_noU rfl rfl rfl ?_)
              refine e_nil (s_weak ?_ ?_ (hfin ()))
              · repeat' (first | exact Sub.nil _ | refine Sub.cons rfl ?_ | refine Sub.consE rfl ?_ ?_)
                rw [h]; rfl
              · repeat' (first | exact Ent.nil _ | refine Ent.tak tk ?_)
        · have hge : i = g.Prods.length := by have := of_decide_eq_false h; omega
          subst hge
          clear h
          rw [List.take_length]
          repeat' (first | refine s_end ?_ | refine s_exit ?_ | refine x_hit ?_ | refine x_code ?_ | refine x_back ?_)
          rcases bRound_cnt g.Prods hnat s hsi with h | h
          · rw [h]
            refine s_back ⟨⟨(false, s), hsi, ⟨m, hm⟩, fun _ => h⟩, ?_, ?_, Ent.refl _⟩
            · have := cntS_le hsi
              simp only [Bool.false_eq_true, if_false, if_true]; omega
            · repeat' (first | exact Sub.nil _ | refine Sub.cons rfl ?_ | refine Sub.consE rfl ?_ ?_)
              simp
          · refine s_back ⟨⟨(true, bRound g.Terms.length g.Prods s), bRound_inv _ hnat s hsi, ⟨m + 1, by rw [it_succ, hm]⟩, by simp⟩, ?_, ?_, Ent.refl _⟩
            · have := cntS_le (bRound_inv _ hnat s hsi)
              simp only [if_true]; omega
            · repeat' (first | exact Sub.nil _ | refine Sub.cons rfl ?_ | refine Sub.consE rfl ?_ ?_)
              rw [decide_eq_true h]
      · subst h
        have hfix := hmore rfl
        have hu : s = bFix g := by
          rw [hm]
          refine bFix_unique hnat ?_
          rw [← hm]; exact hfix
        subst hu
        repeat' (first | refine e_nil ?_ | ((refine e_op ?_); (first | refine o_n (nl rfl rfl tc rfl) rfl ?_ | refine o_storeC rfl rfl rfl rfl tc uc rfl rfl rfl ?_)) | refine s_seq ?_ | refine s_region ?_ | refine s_exit ?_ | refine x_hit ?_ | refine x_code ?_ | refine x_back ?_)
        refine s_ret ⟨_, _, resc rfl rfl rfl (.s (.s (.s .z))) rfl, ⟨bn, bf, cf, rfl, rfl⟩, ?_⟩
        exact Ent.wk (Ent.tak .z (Ent.tak .z (Ent.nil _)))

end Go.Proofs.YtcnpjhaedjncdaaGreatDoor

namespace Go.Proofs.YtcnpjhaedjncdaaGreatDoor
set_option linter.all false
open Go.Proofs.YtcnpjhaedjncdaaGreatDoor.E

/-! ### states in memory -/
def Sx.asn (s : Sx) : List Asn := [osl 79 2 (.slice s.lA s.l.length s.lc) s.l.length (s.l.flatMap encX), osl 39 1 (.slice s.tA s.r.length s.tc) s.r.length (rowC s.d s.r), bun (rowX cB 1 4 s.d s.r)]
abbrev stB (X : List Sx) : Asn := bun (X.map fun s => bun s.asn)
abbrev stS (A : Option Addr) (n c : Nat) (X : List Sx) : Asn := osl 90 2 (.slice A n c) n (X.flatMap Sx.hd)

theorem stB_get {X : List Sx} {i : Nat} (hi : i < X.length) : (X.map fun s => bun s.asn)[i]? = some (bun X[i].asn) := by rw [List.getElem?_map, List.getElem?_eq_getElem hi]; rfl
/-- One state is taken out of them. -/
theorem ent_stT {X : List Sx} {V : List Asn} {i : Nat} (hi : i < X.length) : Ent (stB X :: V) (X[i].asn ++ (bun ((X.map fun s => bun s.asn).eraseIdx i) :: V)) :=
  ent_unbun.trans ((Ent.tak (tak_get (stB_get hi)) (Ent.refl _)).trans ((Ent.cons ent_bun).trans ent_unbun))
/-- It is put back, changed. -/
theorem ent_stP {X : List Sx} {V : List Asn} {i : Nat} (hi : i < X.length) {s : Sx} : Ent (s.asn ++ (bun ((X.map fun s => bun s.asn).eraseIdx i) :: V)) (stB (X.set i s) :: V) := by
  refine ent_bun.trans ((Ent.cons ent_unbun).trans ((ent_put (stB_get hi)).trans ?_))
  have e : (X.map fun s => bun s.asn).set i (bun s.asn) = (X.set i s).map fun s => bun s.asn := by rw [List.map_set]
  rw [e]
  exact ent_bun
theorem ent_stN {X : List Sx} {V : List Asn} {s : Sx} : Ent (s.asn ++ (stB X :: V)) (stB (X ++ [s]) :: V) := by
  refine ent_bun.trans ((Ent.cons ent_unbun).trans (Ent.mid.trans ?_))
  refine Ent.trans ?_ (ent_bunE (L := X.map (fun s => bun s.asn) ++ [bun s.asn]) (by rw [List.map_append]; rfl))
  refine Ent.trans ?_ ent_bun
  rw [List.append_assoc]
  exact Ent.refl _
theorem setX_eq {X : List Sx} {i k t : Nat} (hi : i < X.length) : setX X i k t = X.set i (X[i].put k t) := by
  refine List.ext_getElem? fun j => ?_
  unfold setX
  rw [mod_at, List.getElem?_set]
  by_cases e : i = j
  · subst e; rw [if_pos rfl, if_pos rfl, List.getElem?_eq_getElem hi, if_pos hi]; rfl
  · rw [if_neg e, if_neg e]

/-- Where slices that are not empty lie. -/
structure StA (X : List Sx) : Prop where
  l : ∀ (i : Nat) (h : i < X.length), 0 < X[i].l.length → ∃ b, X[i].lA = some ⟨b, 0, none⟩
  t : ∀ (i : Nat) (h : i < X.length), 0 < X[i].r.length → ∃ b, X[i].tA = some ⟨b, 0, none⟩
  d : ∀ (i : Nat) (h : i < X.length) (k : Nat) (h1 : k < X[i].d.length) (h2 : k < X[i].r.length), 0 < X[i].r[k].length → ∃ b, X[i].d[k].1 = some ⟨b, 0, none⟩
theorem stB_addrs {X : List Sx} (hd : ∀ (i : Nat) (h : i < X.length), X[i].d.length = X[i].r.length) {w : World} {S : BSet} (h : (stB X).P w S) : StA X := by
  have h1 : ∀ (i : Nat) (hi : i < X.length), ∃ S2, star X[i].asn w S2 := fun i hi => by
    obtain ⟨S2, h2, _⟩ := star_mem (stB_get hi) h
    exact ⟨S2, h2⟩
  refine ⟨fun i hi hp => ?_, fun i hi hp => ?_, fun i hi k g1 g2 hp => ?_⟩
  · obtain ⟨S2, h2⟩ := h1 i hi
    obtain ⟨_, h3, _⟩ := star_mem (i := 0) rfl h2
    exact osl_form h3 hp
  · obtain ⟨S2, h2⟩ := h1 i hi
    obtain ⟨_, h3, _⟩ := star_mem (i := 1) rfl h2
    exact osl_form h3 hp
  · obtain ⟨S2, h2⟩ := h1 i hi
    obtain ⟨_, h3, _⟩ := star_mem (i := 2) rfl h2
    exact bun_addrs (hd i hi) h3 k g1 g2 hp

section rules
variable {E0 : Go.Proofs.YtcnpjhaedjncdaaGreatDoor.E.Env} {fr : Frm} {U U' : List Asn} {X : List Sx}
theorem s_stA {K : Frm → List Asn → Prop} {k : List It} {c : Code} (ht : Tak (stB X) U U') (hd : ∀ (i : Nat) (h : i < X.length), X[i].d.length = X[i].r.length) (h : StA X → EVS E0 K (.code c :: k) fr U) : EVS E0 K (.code c :: k) fr U := by
  intro a w hf hme
  obtain ⟨S1, hP, _⟩ := hme.tak ht
  exact h (stB_addrs hd hP) a w hf hme
theorem st_mem (ht : Tak (stB X) U U') (i : Nat) (hi : i < X.length) {w : World} {S : BSet} (hs : star U w S) : ∃ S1, star X[i].asn w S1 ∧ ∀ b, S1 b → S b := by
  obtain ⟨S1, h1, i1⟩ := ht.mem hs
  obtain ⟨S2, h2, i2⟩ := star_mem (stB_get hi) h1
  exact ⟨S2, h2, fun b hb => i1 b (i2 b hb)⟩
/-- The items of a state are read. -/
theorem can_stL (ht : Tak (stB X) U U') (i : Nat) (hi : i < X.length) (hx : ∀ x ∈ X[i].l, I64 x.Prod ∧ I64 x.Dot) (hb : X[i].l.length ≤ 100000) :
    Go.Proofs.YtcnpjhaedjncdaaGreatDoor.E.Can E0 U ((kslice 16 kItm).rd [.slice X[i].lA X[i].l.length X[i].lc] X[i].l) := Can.of fun w S hs => by
  obtain ⟨S1, h1, i1⟩ := st_mem ht i hi hs
  obtain ⟨S2, h2, i2⟩ := star_mem (i := 0) rfl h1
  have h4 := can_to (R := (kslice 16 kItm).rd [.slice X[i].lA X[i].l.length X[i].lc] X[i].l) Tryz.prog (fun E => can_items .z hx hb) h2
  exact (kslice 16 kItm).mono (fun b hb => i1 b (i2 b hb)) h4
theorem n_stL {t : TypeId} {x : Operand} {i : TI} {b o : Nat} {v : Value} (hx : val fr x = some (.pointer (some ⟨b, o, none⟩))) (ht : tl E0.T t = some i) (hU : Tak (stB X) U U') (j : Nat) (hj : j < X.length) (hb : X[j].lA = some ⟨b, 0, none⟩) (hv : loadL i (X[j].l.flatMap encX) o = some v) : NEV E0 (.load t x) fr U v := by
  intro a w dst ty pos af g hf hm
  obtain ⟨S1, hP, _⟩ := hm.tak hU
  obtain ⟨S2, h2, _⟩ := star_mem (stB_get hj) hP
  obtain ⟨S3, h3, _⟩ := star_mem (i := 0) rfl h2
  have h3 : (osl 79 2 (.slice X[j].lA X[j].l.length X[j].lc) X[j].l.length (X[j].l.flatMap encX)).P w S3 := h3
  rw [hb] at h3
  simp [execOp, hf.eval hx, Instr.loadAt, Instr.sureAddr, run_loadVar ht (osl_cells h3) hv]
theorem n_stT {t : TypeId} {x : Operand} {i : TI} {b o : Nat} {v : Value} (hx : val fr x = some (.pointer (some ⟨b, o, none⟩))) (ht : tl E0.T t = some i) (hU : Tak (stB X) U U') (j : Nat) (hj : j < X.length) (hb : X[j].tA = some ⟨b, 0, none⟩) (hv : loadL i (rowC X[j].d X[j].r) o = some v) : NEV E0 (.load t x) fr U v := by
  intro a w dst ty pos af g hf hm
  obtain ⟨S1, hP, _⟩ := hm.tak hU
  obtain ⟨S2, h2, _⟩ := star_mem (stB_get hj) hP
  obtain ⟨S3, h3, _⟩ := star_mem (i := 1) rfl h2
  have h3 : (osl 39 1 (.slice X[j].tA X[j].r.length X[j].tc) X[j].r.length (rowC X[j].d X[j].r)).P w S3 := h3
  rw [hb] at h3
  simp [execOp, hf.eval hx, Instr.loadAt, Instr.sureAddr, run_loadVar ht (osl_cells h3) hv]
theorem n_stB {t : TypeId} {x : Operand} {i : TI} {b o : Nat} {v : Value} (hx : val fr x = some (.pointer (some ⟨b, o, none⟩))) (ht : tl E0.T t = some i) (hU : Tak (stB X) U U') (j : Nat) (hj : j < X.length) (k : Nat) (hd : X[j].d.length = X[j].r.length) (hk : k < X[j].r.length) (hb : (X[j].d[k]'(hd ▸ hk)).1 = some ⟨b, 0, none⟩) (hv : loadL i (cB X[j].r[k]) o = some v) : NEV E0 (.load t x) fr U v := by
  intro a w dst ty pos af g hf hm
  obtain ⟨S1, hP, _⟩ := hm.tak hU
  obtain ⟨S2, h2, _⟩ := star_mem (stB_get hj) hP
  obtain ⟨S3, h3, _⟩ := star_mem (i := 2) rfl h2
  obtain ⟨S4, h4, _⟩ := star_mem (rowX_get (f := cB) (sz := 1) (ei := 4) hd hk) h3
  have h4 : (osl 4 1 (.slice (X[j].d[k]'(hd ▸ hk)).1 X[j].r[k].length (X[j].d[k]'(hd ▸ hk)).2) X[j].r[k].length (cB X[j].r[k])).P w S4 := h4
  rw [hb] at h4
  simp [execOp, hf.eval hx, Instr.loadAt, Instr.sureAddr, run_loadVar ht (osl_cells h4) hv]
end rules

theorem hd_len : ∀ X : List Sx, (X.flatMap Sx.hd).length = X.length * 2
  | [] => rfl
  | s :: X => by rw [List.flatMap_cons, List.length_append, hd_len X, List.length_cons]; show 2 + _ = _; omega
theorem hd_get : ∀ {X : List Sx} {i : Nat} (h : i < X.length), ((X.flatMap Sx.hd).drop (i * 2)).take 2 = X[i].hd
  | x :: l, 0, _ => by simp [Sx.hd]
  | x :: l, i + 1, h => by
    have h2 : i < l.length := by simpa using h
    rw [List.flatMap_cons, List.getElem_cons_succ, ← hd_get h2, show (i + 1) * 2 = 2 + i * 2 by omega, ← List.drop_drop]
    rfl
theorem hd_load {X : List Sx} {i : Nat} (h : i < X.length) {b : Nat} {z : List Value} {fs : List (Nat × Nat)} : loadL ⟨.struct fs, 2, b, z⟩ (X.flatMap Sx.hd) (0 + i * 2) = some (.agg X[i].hd.toArray) := by
  unfold loadL
  simp only [aggB, cond_true]
  have : Nat.ble (0 + i * 2 + 2) (X.flatMap Sx.hd).length = true := by rw [hd_len]; exact Nat.ble_eq_true_of_le (by omega)
  rw [this, cond_true, Nat.zero_add, hd_get h]
theorem hd_loadL {X : List Sx} {i : Nat} (h : i < X.length) {e : TypeId} {b : Nat} {z : List Value} : loadL ⟨.slice e, 1, b, z⟩ (X.flatMap Sx.hd) (0 + i * 2 + 0) = some (.slice X[i].lA X[i].l.length X[i].lc) := by
  refine load_cell rfl ?_
  have h1 := hd_get h
  have h2 : (((X.flatMap Sx.hd).drop (i * 2)).take 2)[0]? = X[i].hd[0]? := by rw [h1]
  rw [List.getElem?_take, List.getElem?_drop] at h2
  rw [show 0 + i * 2 + 0 = i * 2 + 0 by omega]
  simp only [show (0 : Nat) < 2 by decide, if_true] at h2
  exact h2
theorem hd_loadT {X : List Sx} {i : Nat} (h : i < X.length) {e : TypeId} {b : Nat} {z : List Value} : loadL ⟨.slice e, 1, b, z⟩ (X.flatMap Sx.hd) (0 + i * 2 + 1) = some (.slice X[i].tA X[i].r.length X[i].tc) := by
  refine load_cell rfl ?_
  have h1 := hd_get h
  have h2 : (((X.flatMap Sx.hd).drop (i * 2)).take 2)[1]? = X[i].hd[1]? := by rw [h1]
  rw [List.getElem?_take, List.getElem?_drop] at h2
  rw [show 0 + i * 2 + 1 = i * 2 + 1 by omega]
  simp only [show (1 : Nat) < 2 by decide, if_true] at h2
  exact h2

attribute [local irreducible] EVX EVO EVL EV1 NEV
attribute [local irreducible] own osl exA rdA rdL
attribute [local irreducible] bldA mapA bun mapS
set_option maxRecDepth 10000
set_option maxHeartbeats 4000000

theorem row70_w (gr : List Value) (hgr : gr.length = 4) (A0 : Option Addr) (t c0 : Nat) (An : Option Addr) (n cn : Nat) (Af : Option Addr) (cf : Nat) (s : BSt) (hs : BInv t n s)
    (ht : t * 16 ≤ 140737488355328) (hn : n * 16 ≤ 140737488355328) (Al : Option Addr) (m cl : Nat) (xs : List Int) (hm : m = xs.length) (hx : ∀ x ∈ xs, 0 ≤ x ∧ x < (t : Int) + n) :
    Trip Tryz.prog 70 [.agg (.slice A0 t c0 :: gr).toArray, .agg #[.slice An n cn, .slice Af n cf], .slice Al m cl]
      ((((kslice 1 kbool).rd [.slice An n cn] s.1).and ((kslice 24 (kslice 1 kbool)).rd [.slice Af n cf] s.2)).and ((kslice 8 kint).rd [.slice Al m cl] xs)) []
      (fun v V => ∃ bu, v = .tuple #[.slice (some ⟨bu, 0, none⟩) t t, .bool (rowT t s xs).2] ∧ V = [osl 4 1 (.slice (some ⟨bu, 0, none⟩) t t) t ((rowT t s xs).1.map Value.bool)]) := by
  have hrow := rowR_w gr hgr A0 t c0 An n cn Af cf s hs ht hn Al m cl xs hm hx
  obtain ⟨g1, g2, g3, g4, rfl⟩ : ∃ g1 g2 g3 g4, gr = [g1, g2, g3, g4] := by
    match gr, hgr with
    | [g1, g2, g3, g4], _ => exact ⟨g1, g2, g3, g4, rfl⟩
  refine trip Tryz.tabOk Tryz.func70 rfl rfl rfl rfl ?_
  rintro w SM hR
  repeat' (first | refine e_nil ?_ | ((refine e_op ?_); (first | refine o_n (peval_sound rfl) rfl ?_ | refine o_n (nl rfl rfl tc rfl) rfl ?_ | refine o_box rfl rfl (fun _ => ?_))) | refine s_seq ?_ | refine s_region ?_)
  refine e_op (o_call hrow rfl .nil (Can.ro hR) rfl ?_)
  rintro v V ⟨bu, rfl, rfl⟩
  simp only [List.nil_append]
  repeat' (first | refine e_nil ?_ | ((refine e_op ?_); (refine o_n (peval_sound rfl) rfl ?_)))
  refine s_ret ⟨_, _, res2 rfl rfl rfl, ⟨bu, rfl, rfl⟩, ?_⟩
  exact Ent.tak .z (Ent.nil _)

end Go.Proofs.YtcnpjhaedjncdaaGreatDoor

namespace Go.Proofs.YtcnpjhaedjncdaaGreatDoor
set_option linter.all false
open Go.Proofs.YtcnpjhaedjncdaaGreatDoor.E

theorem rowC_mod {r : List Bits} {k t : Nat} {d : AcL} : rowC d (r.modify k fun b => b.set t true) = rowC d r := by
  refine rowC_same (by rw [List.length_modify]) (fun i h1 h2 => ?_)
  rw [List.getElem_modify]
  split
  · rw [List.length_set]
  · rfl
theorem put_asn (s : Sx) (k t : Nat) : (s.put k t).asn = [osl 79 2 (.slice s.lA s.l.length s.lc) s.l.length (s.l.flatMap encX), osl 39 1 (.slice s.tA s.r.length s.tc) s.r.length (rowC s.d s.r), bun (rowX cB 1 4 s.d (s.r.modify k fun b => b.set t true))] := by
  unfold Sx.asn Sx.put
  simp only [List.length_modify, rowC_mod]
theorem DI.items {g : Gram} {X : List Sx} (he : lrE g = 0) (h : DI g X) {i : Nat} (hi : i < X.length) : (∀ x ∈ X[i].l, inG g x = true ∧ I64 x.Prod ∧ I64 x.Dot) ∧ X[i].l.length ≤ 2000 ∧ X[i].l.Nodup := by
  have hF := goF he
  have hik : i < (lrKs g).length := by rw [← h.n]; exact hi
  have hc := hF.cl i hik
  have e : X[i].l = closedP g (lrKs g)[i] := by rw [h.l i hi]; unfold LS; rw [List.getD_eq_getElem?_getD, List.getElem?_eq_getElem hik]; rfl
  rw [e]
  refine ⟨fun x hx => ⟨hc.2.2.2.1 x hx, ?_⟩, hc.2.2.2.2, SortI.nodup hc.2.2.1⟩
  have := inG_dot hF.lim (hc.2.2.2.1 x hx)
  exact ⟨⟨by omega, by omega⟩, ⟨by omega, by omega⟩⟩

attribute [local irreducible] EVX EVO EVL EV1 NEV
attribute [local irreducible] own osl exA rdA rdL
attribute [local irreducible] bldA mapA bun mapS
set_option maxRecDepth 10000
set_option maxHeartbeats 4000000

theorem put_w (g : Gram) (he : lrE g = 0) (X : List Sx) (hI : DI g X) (i t : Nat) (hi : i < X.length) (x : Itm) (hx : x ∈ LS g i) (ht : t < g.Terms.length) (hla : LA g (lrGs g) ⟨i, x⟩ t) :
    Trip Tryz.prog 47 [.agg #[.slice X[i].lA X[i].l.length X[i].lc, .slice X[i].tA X[i].r.length X[i].tc], .agg (encX x).toArray, .int .i64 t] Rd.tt [stB X]
      (fun v V => ∃ X1 m, v = .bool m ∧ V = [stB X1] ∧ DI g X1 ∧ Gro X X1 m ∧ BP g X1 ⟨i, x⟩ t) := by
  obtain ⟨hit, hln, hnd⟩ := hI.items he hi
  have hT := (goF he).lim.t
  obtain ⟨k, hk0⟩ : ∃ k, ix X[i].l x = k := ⟨_, rfl⟩
  have hxl : x ∈ X[i].l := by rw [hI.l i hi]; exact hx
  have hkl : k < X[i].l.length := by rw [← hk0]; exact ix_lt hxl
  have hk : k < X[i].r.length := by rw [hI.r i hi]; exact hkl
  have hxk : (LS g i)[k]? = some x := by rw [← hk0, hI.l i hi]; exact ix_get hx
  have hrl : X[i].r[k].length = g.Terms.length := hI.t i hi _ (List.getElem_mem hk)
  have htk : t < X[i].r[k].length := by rw [hrl]; exact ht
  have hD := hI.d i hi
  obtain ⟨q1, q2, q3, q4⟩ := hI.put hi hk ht hxk hla
  have hix := (hit x hxl).2
  have hrn : X[i].r.length ≤ 2000 := by rw [hI.r i hi]; exact hln
  refine trip Tryz.tabOk Tryz.func47 rfl rfl rfl rfl ?_
  rintro w SM hW
  clear hW
  refine s_ent (ent_stT hi) ?_
  have eA : X[i].asn = [osl 79 2 (.slice X[i].lA X[i].l.length X[i].lc) X[i].l.length (X[i].l.flatMap encX), osl 39 1 (.slice X[i].tA X[i].r.length X[i].tc) X[i].r.length (rowC X[i].d X[i].r), bun (rowX cB 1 4 X[i].d X[i].r)] := rfl
  rw [eA]
  have hP : ∀ U, Ent (X[i].asn ++ (bun ((X.map fun s => bun s.asn).eraseIdx i) :: U)) (stB X :: U) := fun U => by
    have h := ent_stP (V := U) hi (s := X[i])
    rwa [List.set_getElem_self] at h
  rw [eA] at hP
  have hP2 : ∀ U, Ent ((X[i].put k t).asn ++ (bun ((X.map fun s => bun s.asn).eraseIdx i) :: U)) (stB (setX X i k t) :: U) := fun U => by
    rw [setX_eq hi]; exact ent_stP hi
  rw [put_asn] at hP2
  generalize hB : bun ((X.map fun s => bun s.asn).eraseIdx i) = BB at hP hP2 ⊢
  simp only [List.cons_append, List.nil_append] at hP hP2 ⊢
  refine s_open (.s .z) (by omega) ?_
  intro bB hbB
  refine s_addrs (.s (.s .z)) hD (fun hA => ?_)
  obtain ⟨bR, hR⟩ := hA k (by omega) hk (by omega)
  unfold encX
  rw [hbB] at hP hP2 ⊢
  repeat' (first | refine e_nil ?_ | ((refine e_op ?_); (first | refine o_n (peval_sound rfl) rfl ?_ | refine o_n (nl rfl rfl tc rfl) rfl ?_ | refine o_box rfl rfl (fun _ => ?_))) | refine s_seq ?_ | refine s_region ?_)
  refine e_op (o_call (find_w X[i].lA X[i].lc X[i].l _ x ⟨_, _, _, rfl⟩) rfl .nil (can_items (.s (.s .z)) (fun y hy => (hit y hy).2) (by omega)) rfl ?_)
  rintro v V ⟨rfl, rfl⟩
  have hf : fndI X[i].l x = (k : Int) := by unfold fndI; rw [if_pos hxl, hk0]
  rw [hf]
  simp only [List.nil_append]
  repeat' (first | refine e_nil ?_ | ((first | refine e_op ?_ | refine e_yes rfl ?_); (first | refine o_n (peval_sound rfl) rfl ?_ | refine o_n (nl rfl rfl tc rfl) rfl ?_)) | refine s_seq ?_ | refine s_region ?_)
  refine e_yes rfl (o_n (n_index rfl rfl rfl rfl k rfl hk) rfl ?_)
  refine e_yes rfl (o_n (n_load_osl rfl rfl (.s (.s (.s .z))) (rowC_load hD hk)) rfl ?_)
  rw [hR]
  repeat' (((refine e_yes rfl ?_); (refine o_n (peval_sound rfl) rfl ?_)))
  refine e_yes rfl (o_n (n_index rfl rfl rfl rfl t rfl htk) rfl ?_)
  refine e_yes rfl (o_n (n_load_row rfl rfl (.s (.s (.s (.s .z)))) hD k hk hR (loadB htk (by show 0 + t * 1 = t; omega))) rfl ?_)
  repeat' (first | refine e_nil ?_ | ((refine e_op ?_); (refine o_n (peval_sound rfl) rfl ?_)))
  cases hq : X[i].r[k].getD t false with
  | true =>
    repeat' (first | refine e_nil ?_ | ((refine e_op ?_); (refine o_n (peval_sound rfl) rfl ?_)) | refine s_seq ?_ | refine s_region ?_ | refine s_true rfl ?_)
    refine s_ret ⟨_, _, res1 rfl rfl, ⟨X, false, rfl, rfl, hI, Gro.refl X, q3 hq⟩, ?_⟩
    refine Ent.wk (Ent.wk (hP []))
  | false =>
    repeat' (first | ((refine e_op ?_); (first | refine o_n (peval_sound rfl) rfl ?_ | refine o_n (nl rfl rfl tc rfl) rfl ?_)) | refine s_seq ?_ | refine s_region ?_ | refine s_skip ?_ | refine s_false rfl ?_)
    refine e_op (o_n (n_index rfl rfl rfl rfl k rfl hk) rfl ?_)
    refine e_op (o_n (n_load_osl rfl rfl (.s (.s (.s .z))) (rowC_load hD hk)) rfl ?_)
    rw [hR]
    repeat' (((refine e_op ?_); (refine o_n (peval_sound rfl) rfl ?_)))
    refine e_op (o_n (n_index rfl rfl rfl rfl t rfl htk) rfl ?_)
    refine e_op (o_store_row rfl rfl rfl rfl rfl rfl hD k hk hR ?_ (.s (.s (.s (.s .z)))) (X[i].r[k].set t true) (by rw [List.length_set]) (by show setMany (cB X[i].r[k]) (0 + t * 1) [.bool true] = _; rw [show 0 + t * 1 = t by omega]; simp only [setMany]; unfold cB; rw [List.map_set]) ?_)
    · show 0 + t * 1 + 1 ≤ (cB X[i].r[k]).length
      rw [cB_len]; omega
    have e2 : (X[i].r.modify k fun b => b.set t true) = X[i].r.set k (X[i].r[k].set t true) := by
      refine List.ext_getElem? fun j => ?_
      rw [mod_at, List.getElem?_set]
      by_cases e : k = j
      · subst e; rw [if_pos rfl, if_pos rfl, List.getElem?_eq_getElem hk, if_pos hk]; rfl
      · rw [if_neg e, if_neg e]
    repeat' (first | refine e_nil ?_ | ((refine e_op ?_); (refine o_n (peval_sound rfl) rfl ?_)) | refine s_seq ?_ | refine s_region ?_)
    refine s_ret ⟨_, _, res1 rfl rfl, ⟨setX X i k t, true, rfl, rfl, q1, q2 hq, q4⟩, ?_⟩
    rw [e2] at hP2
    refine Ent.trans ?_ (hP2 [])
    exact Ent.tak (.s (.s (.s .z))) (Ent.tak (.s (.s (.s .z))) (Ent.tak .z (Ent.tak (.s (.s .z)) (Ent.nil _))))

end Go.Proofs.YtcnpjhaedjncdaaGreatDoor

namespace Go.Proofs.YtcnpjhaedjncdaaGreatDoor
set_option linter.all false
open Go.Proofs.YtcnpjhaedjncdaaGreatDoor.E

def begA (g : Gram) (x : Itm) (a : Nat) : Bits := if restN g x then (rowT g.Terms.length (bFix g) (restL g x)).1.set a true else (rowT g.Terms.length (bFix g) (restL g x)).1
theorem begA_len (g : Gram) (x : Itm) (a : Nat) : (begA g x a).length = g.Terms.length := by
  unfold begA
  split
  · rw [List.length_set, rowT_len]
  · rw [rowT_len]
theorem begA_bit {g : Gram} {x : Itm} {a u : Nat} (ha : a < g.Terms.length) (hu : u < g.Terms.length) : (begA g x a).getD u false = true ↔ (restB g x).getD u false = true ∨ (restN g x = true ∧ u = a) := by
  have e1 : (restB g x).getD u false = (rowT g.Terms.length (bFix g) (restL g x)).1.getD u false := by
    unfold restB
    rw [List.getD_eq_getElem?_getD, List.getElem?_append_left (by rw [rowT_len]; exact hu), ← List.getD_eq_getElem?_getD]
  rw [e1]
  unfold begA
  split
  · rename_i h
    rw [List.getD_eq_getElem?_getD, List.getElem?_set]
    by_cases e : a = u
    · subst e; rw [if_pos rfl, if_pos (by rw [rowT_len]; exact ha)]; simp [h]
    · rw [if_neg e, ← List.getD_eq_getElem?_getD]
      constructor
      · intro h; exact .inl h
      · rintro (h | ⟨_, h⟩)
        · exact h
        · exact absurd h.symm e
  · rename_i h
    simp only [Bool.not_eq_true] at h
    rw [h]
    constructor
    · intro h; exact .inl h
    · rintro (h | ⟨h, _⟩)
      · exact h
      · cases h
theorem restB_hi {g : Gram} {x : Itm} {u : Nat} (h : (restB g x).getD u false = true) : u < g.Terms.length := by
  refine Classical.byContradiction fun hn => ?_
  unfold restB at h
  rw [List.getD_eq_getElem?_getD, List.getElem?_append_right (by rw [rowT_len]; omega), List.getElem?_drop, ← List.getD_eq_getElem?_getD, zer_get] at h
  cases h

/-- All consequences of a place are there. -/
theorem shut_of {g : Gram} {X : List Sx} {i k a : Nat} {x : Itm} (ha : a < g.Terms.length) (hx : (LS g i)[k]? = some x) (h1 : BP g X (nextP g (lrGs g) ⟨i, x⟩) a)
    (h2 : ¬ beh g x < g.Terms.length → ∀ p : Nat, p < g.Prods.length → (prd g p).Left = beh g x - g.Terms.length → ∀ u, u < g.Terms.length → (begA g x a).getD u false = true → BP g X ⟨i, ⟨p, 0⟩⟩ u) : Shut g X i k a := by
  intro y hy q u hc
  rw [hx] at hy
  cases hy
  cases hc with
  | shift hd => exact h1
  | @close p u hd hb hp hl hu =>
    have hut : u < g.Terms.length := by
      rcases hu with hu | ⟨_, rfl⟩
      · exact restB_hi hu
      · exact ha
    exact h2 hb p hp hl u hut ((begA_bit ha hut).2 hu)

attribute [local irreducible] EVX EVO EVL EV1 NEV
attribute [local irreducible] own osl exA rdA rdL
attribute [local irreducible] bldA mapA bun mapS
set_option maxRecDepth 10000
set_option maxHeartbeats 4000000

theorem rules_w (g : Gram) (he : lrE g = 0) (cs cl : List Value) (A : Option Addr) (c : Nat) (X : List Sx) (An Af : Option Addr) (cn cf : Nat) (i k a : Nat) (x : Itm) (hI : DI g X) (hi : i < X.length) (hx : (LS g i)[k]? = some x) (hb : BX X i k a) (hbeh : 0 ≤ beh g x) :
    Trip Tryz.prog 50 [.agg cs.toArray, .agg cl.toArray, .slice A X.length c, .agg #[.slice An g.Nons.length cn, .slice Af g.Nons.length cf], .int .i64 i, .int .i64 k, .int .i64 a]
      ((((kGram.rd cs g).and (kLr.rd cl (lrKs g, lrGs g))).and ((kslice 1 kbool).rd [.slice An g.Nons.length cn] (bFix g).1)).and ((kslice 24 (kslice 1 kbool)).rd [.slice Af g.Nons.length cf] (bFix g).2))
      [stS A X.length c X, stB X] (fun v V => ∃ X1 m, v = .bool m ∧ V = [stS A X.length c X, stB X1] ∧ DI g X1 ∧ Gro X X1 m ∧ Shut g X1 i k a) := by
  have hF := goF he
  have hL := hF.lim
  have hT := hL.t
  have hNn := hL.n
  have hce : checkE g = 0 := Classical.byContradiction fun hn => hn (by unfold lrE at he; rw [if_pos hn] at he; exact he)
  obtain ⟨hit, hln, hnd⟩ := hI.items he hi
  obtain ⟨y, hy, hla⟩ := hI.so i k a hb
  rw [hx] at hy
  cases hy
  have hik : i < (lrKs g).length := by rw [← hI.n]; exact hi
  have eK : (lrKs g).getD i [] = (lrKs g)[i] := by rw [List.getD_eq_getElem?_getD, List.getElem?_eq_getElem hik]; rfl
  obtain ⟨hkL, hxk⟩ := List.getElem?_eq_some_iff.1 hx
  have hkl : k < X[i].l.length := by rw [hI.l i hi]; exact hkL
  have exk : X[i].l[k] = x := by
    have e1 : X[i].l[k]? = some x := by rw [hI.l i hi]; exact hx
    rw [List.getElem?_eq_getElem hkl] at e1
    exact Option.some.inj e1
  have ha : a < g.Terms.length := by
    obtain ⟨s, b, e1, e2, e3⟩ := hb
    rw [List.getElem?_eq_getElem hi] at e1
    cases e1
    obtain ⟨q, _⟩ := List.getElem?_eq_some_iff.1 e3
    rw [hI.t i hi b (List.mem_of_getElem? e2)] at q
    exact q
  have hxin : inG g x = true := by rw [← exk]; exact (hit _ (List.getElem_mem hkl)).1
  have hdne := beh_dot hbeh
  have hvp : VP g (lrKs g) ⟨i, x⟩ := ⟨hik, by unfold LS at hx; rw [eK] at hx; exact List.mem_of_getElem? hx⟩
  obtain ⟨s, g1, g2, j, hbs, hGs, hnx, hvn⟩ := hvp.next hF hdne
  rw [hnx] at hvn
  obtain ⟨hjk, hjm⟩ := hvn
  simp only at g1 g2 hbs hGs hjk hjm
  have hj : j < X.length := by rw [hI.n]; exact hjk
  have hjm2 : (⟨x.Prod, x.Dot + 1⟩ : Itm) ∈ LS g j := by unfold LS; rw [List.getD_eq_getElem?_getD, List.getElem?_eq_getElem hjk]; exact hjm
  have hla1 : LA g (lrGs g) ⟨j, ⟨x.Prod, x.Dot + 1⟩⟩ a := by
    have hc : Cons g (lrGs g) ⟨i, x⟩ a (nextP g (lrGs g) ⟨i, x⟩) a := .shift hdne
    rw [hnx] at hc
    exact .step hla hc
  have hxd := inG_dot hL hxin
  have hPn := hL.p
  have hnX : X.length ≤ 512 := by rw [hI.n]; exact hF.n
  refine trip Tryz.tabOk Tryz.func50 rfl rfl rfl rfl ?_
  rintro w SM ⟨⟨⟨hG0, ⟨d1, d2, rfl, ⟨A1, a1, rfl, h1⟩, ⟨A2, a2, rfl, h2⟩⟩⟩, hN⟩, hFi⟩
  simp only at h1 h2
  obtain ⟨A0, B1, B2, B3, A4, c0, c1, c2, c3, c4, rfl, hG⟩ := kGram_open hG0
  simp only [List.cons_append, List.nil_append]
  refine s_open .z (by omega) ?_
  rintro bA rfl
  refine s_stA (.s .z) hI.d (fun hA => ?_)
  obtain ⟨bl, hbl⟩ := hA.l i hi (by omega)
  repeat' (first | refine e_nil ?_ | ((refine e_op ?_); (first | refine o_n (peval_sound rfl) rfl ?_ | refine o_n (nl rfl rfl tc rfl) rfl ?_ | refine o_box rfl rfl (fun _ => ?_))) | refine s_seq ?_ | refine s_region ?_)
  refine e_op (o_n (n_index rfl rfl rfl rfl i rfl hi) rfl ?_)
  repeat' (((refine e_op ?_); (refine o_n (peval_sound rfl) rfl ?_)))
  refine e_op (o_n (n_load_osl rfl rfl (TakA.tak (A := stS (some ⟨bA, 0, none⟩) X.length c X)) (hd_loadL hi)) rfl ?_)
  rw [hbl]
  repeat' (((refine e_op ?_); (refine o_n (peval_sound rfl) rfl ?_)))
  refine e_op (o_n (n_index rfl rfl rfl rfl k rfl hkl) rfl ?_)
  refine e_op (o_n (n_stL rfl rfl (TakA.tak (A := stB X)) i hi hbl (encX_load hkl)) rfl ?_)
  rw [exk]
  repeat' (((refine e_op ?_); (first | refine o_storeC rfl rfl rfl rfl tc uc rfl rfl rfl ?_ | refine o_alloc rfl rfl (fun _ => ?_))))
  rename_i bG bL bK bx
  refine e_nil ?_
  refine s_weak (fr' := [(14, .bool false), (15, .int .i64 g.Terms.length), (16, ptrN bx), (10, ptrN bK), (8, ptrN bL), (7, ptrN bG), (2, .slice (some ⟨bA, 0, none⟩) X.length c), (4, .int .i64 i), (5, .int .i64 k), (6, .int .i64 a)]) (V := [blk bx 79 (encX x), blk bK 120 [.slice An g.Nons.length cn, .slice Af g.Nons.length cf], blk bL 66 [.slice A1 (lrKs g).length a1, .slice A2 (lrGs g).length a2], blk bG 27 [.slice A0 g.Terms.length c0, .slice B1 g.Levels.length c1, .slice B2 g.Pats.length c2, .slice B3 g.Nons.length c3, .slice A4 g.Prods.length c4], stS (some ⟨bA, 0, none⟩) X.length c X, stB X]) ?_ (Ent.refl _) ?_
  · repeat' (first | exact Sub.nil _ | refine Sub.cons rfl ?_)
  have hldx : ∀ {z : List Value}, loadL ⟨.struct [(0, 1), (1, 1)], 2, 16, z⟩ (encX x) 0 = some (.agg (encX x).toArray) := ld_all (n := 2) rfl rfl rfl rfl
  refine s_seq ?_
  refine s_region ?_
  repeat' (((refine e_op ?_); (refine o_n (nl rfl rfl tc rfl) rfl ?_)))
  refine e_op (o_call (behR_w _ g x hxin) rfl .nil (Can.ro hG0) rfl ?_)
  rintro v V ⟨rfl, rfl⟩
  simp only [List.nil_append]
  repeat' (((refine e_op ?_); (refine o_n (peval_sound rfl) rfl ?_)))
  refine e_nil ?_
  refine s_weak (fr' := [(17, .int .i64 s), (14, .bool false), (15, .int .i64 g.Terms.length), (16, ptrN bx), (10, ptrN bK), (8, ptrN bL), (7, ptrN bG), (2, .slice (some ⟨bA, 0, none⟩) X.length c), (4, .int .i64 i), (5, .int .i64 k), (6, .int .i64 a)]) (V := [blk bx 79 (encX x), blk bK 120 [.slice An g.Nons.length cn, .slice Af g.Nons.length cf], blk bL 66 [.slice A1 (lrKs g).length a1, .slice A2 (lrGs g).length a2], blk bG 27 [.slice A0 g.Terms.length c0, .slice B1 g.Levels.length c1, .slice B2 g.Pats.length c2, .slice B3 g.Nons.length c3, .slice A4 g.Prods.length c4], stS (some ⟨bA, 0, none⟩) X.length c X, stB X]) ?_ (Ent.refl _) ?_
  · rw [hbs]; repeat' (first | exact Sub.nil _ | refine Sub.cons rfl ?_)
  obtain ⟨e2, o2, es2, rfl, he2, ⟨B4, m4, rfl, hr2⟩, hc2⟩ := h2.2.2 i g1
  obtain ⟨e3, o3, es3, rfl, he3, hr3, hc3⟩ := hr2.2.2 s g2
  obtain ⟨rfl, hj64⟩ := hr3
  have hw1 : IntKind.i64.wrap (x.Dot + 1) = x.Dot + 1 := by rw [wrap_i64] <;> omega
  have hvj : loadL ⟨.int .i64, 1, 8, [.int .i64 0]⟩ (encX x) 1 = some (.int .i64 x.Dot) := load_cell rfl rfl
  repeat' (refine s_seq ?_)
  refine s_drawT [18] (TakA.tak (A := stB X)) Tryz.mixed (by decide +kernel) ?_
  repeat' (((first | refine l_n (peval_sound rfl) rfl ?_ rfl ?_ | refine l_n (nl rfl rfl tc rfl) rfl ?_ rfl ?_); · (repeat' (first | exact Ent.nil _ | refine Ent.tak .z ?_))))
  refine l_n (n_index rfl rfl rfl rfl i rfl g1) rfl (by (repeat' (first | exact Ent.nil _ | refine Ent.tak .z ?_))) rfl ?_
  refine l_n (n_load_ro rfl rfl he2 (loads_one rfl (hc2 0 _ rfl))) rfl (by (repeat' (first | exact Ent.nil _ | refine Ent.tak .z ?_))) rfl ?_
  repeat' (((refine l_n (peval_sound rfl) rfl ?_ rfl ?_); · (repeat' (first | exact Ent.nil _ | refine Ent.tak .z ?_))))
  refine l_n (n_index rfl rfl rfl rfl s rfl g2) rfl (by (repeat' (first | exact Ent.nil _ | refine Ent.tak .z ?_))) rfl ?_
  refine l_n (n_load_ro rfl rfl he3 (loads_one rfl (hc3 0 _ rfl))) rfl (by (repeat' (first | exact Ent.nil _ | refine Ent.tak .z ?_))) rfl ?_
  rw [hGs]
  refine l_n (n_index rfl rfl rfl rfl j rfl hj) rfl (by (repeat' (first | exact Ent.nil _ | refine Ent.tak .z ?_))) rfl ?_
  refine l_n (n_load_osl rfl rfl (TakA.tak (A := stS (some ⟨bA, 0, none⟩) X.length c X)) (hd_load hj)) rfl (by (repeat' (first | exact Ent.nil _ | refine Ent.tak .z ?_))) rfl ?_
  repeat' (((first | refine l_n (peval_sound rfl) rfl ?_ rfl ?_ | refine l_n (nl rfl rfl tc rfl) rfl ?_ rfl ?_); · (repeat' (first | exact Ent.nil _ | refine Ent.tak .z ?_))))
  rw [hw1]
  skip
  refine l_e rfl (o_call (put_w g he X hI j a hj ⟨x.Prod, x.Dot + 1⟩ hjm2 ha hla1) rfl (.cons (TakA.tak (A := stB X)) .nil) Can.tt rfl ?_)
  rintro v V ⟨X1, m1, rfl, rfl, hI1, hG1, hB1⟩
  refine ⟨(by (repeat' (first | exact Ent.refl _ | refine Ent.wk ?_))), ?_⟩
  simp only [List.cons_append, List.nil_append]
  repeat' (first | refine l_nil ?_ | ((refine l_n (peval_sound rfl) rfl ?_ rfl ?_); · (repeat' (first | exact Ent.refl _ | refine Ent.wk ?_))))
  refine s_weak (fr' := [(18, .bool m1), (17, .int .i64 s), (14, .bool false), (15, .int .i64 g.Terms.length), (16, ptrN bx), (10, ptrN bK), (8, ptrN bL), (7, ptrN bG), (2, .slice (some ⟨bA, 0, none⟩) X.length c), (4, .int .i64 i), (5, .int .i64 k), (6, .int .i64 a)]) (V := [stB X1, blk bx 79 (encX x), blk bK 120 [.slice An g.Nons.length cn, .slice Af g.Nons.length cf], blk bL 66 [.slice A1 (lrKs g).length a1, .slice (some ⟨e2, o2, none⟩) (lrGs g).length a2], blk bG 27 [.slice A0 g.Terms.length c0, .slice B1 g.Levels.length c1, .slice B2 g.Pats.length c2, .slice B3 g.Nons.length c3, .slice A4 g.Prods.length c4], stS (some ⟨bA, 0, none⟩) X.length c X]) ?_ (by (exact Ent.refl _)) ?_
  · repeat' (first | exact Sub.nil _ | refine Sub.cons rfl ?_)
  repeat' (first | refine e_nil ?_ | ((refine e_op ?_); (refine o_n (peval_sound rfl) rfl ?_)) | refine s_seq ?_ | refine s_region ?_)
  refine s_cond rfl (fun h => ?_) (fun h => ?_)
  · have hlow : beh g x < g.Terms.length := by rw [hbs]; simpa using h
    repeat' (first | refine e_nil ?_ | ((refine e_op ?_); (refine o_n (peval_sound rfl) rfl ?_)) | refine s_seq ?_ | refine s_region ?_)
    refine s_ret ⟨_, _, res1 rfl rfl, ⟨X1, m1, rfl, rfl, hI1, hG1, shut_of ha hx (by rw [hnx]; exact hB1) (fun hn => absurd hlow hn)⟩, ?_⟩
    exact Ent.tak (TakA.tak (A := stS (some ⟨bA, 0, none⟩) X.length c X)) (Ent.tak .z (Ent.nil _))
  have hnlow : ¬ beh g x < g.Terms.length := by rw [hbs]; simpa using h
  have hbi := bFix_inv (g := g) (gOk hce).bs.nat
  obtain ⟨hlm, hwf⟩ := checkE_ok hce
  have hin2 := hxin
  unfold inG at hin2
  simp only [Bool.and_eq_true, decide_eq_true_eq] at hin2
  obtain ⟨xp, xd⟩ := x
  simp only at hin2 hdne
  obtain ⟨p, rfl⟩ : ∃ p : Nat, xp = (p : Int) := ⟨xp.toNat, by omega⟩
  obtain ⟨d, rfl⟩ : ∃ d : Nat, xd = (d : Int) := ⟨xd.toNat, by omega⟩
  have hpl : p < g.Prods.length := by omega
  have hr12 := hL.r _ (List.getElem_mem hpl)
  have hd2 : d < g.Prods[p].Right.length := by rw [prd_at hpl] at hdne hin2; omega
  have hl : restL g ⟨p, d⟩ = g.Prods[p].Right.drop (d + 1) := by unfold restL; rw [prd_at hpl, Int.toNat_natCast]
  obtain ⟨b9, o9, es9, rfl, hb9, he9, hc9⟩ := hG.prods.2.2 p hpl
  obtain ⟨Ar, cr, rfl, hl9, hlN, hlK, hri⟩ := kPrd_open he9
  have hw1 : IntKind.i64.wrap ((d : Int) + 1) = ((d + 1 : Nat) : Int) := by rw [wrap_i64] <;> omega
  have hdr := els_drop (q := d + 1) hri.2.2 hri.1
  unfold encX
  repeat' (first | refine s_seq ?_ | refine s_skip ?_)
  refine s_drawU [13] Tryz.mixed (by decide +kernel) ?_
  repeat' (((first | refine l_n (peval_sound rfl) rfl ?_ rfl ?_ | refine l_n (nl rfl rfl tc rfl) rfl ?_ rfl ?_); · (exact Ent.refl _)))
  refine l_n (n_index rfl rfl rfl rfl p rfl hpl) rfl (by (exact Ent.refl _)) rfl ?_
  repeat' (((refine l_n (peval_sound rfl) rfl ?_ rfl ?_); · (exact Ent.refl _)))
  refine l_n (n_load_ro rfl rfl hb9 (loads_one rfl (hc9 1 _ rfl))) rfl (by (exact Ent.refl _)) rfl ?_
  repeat' (((first | refine l_n (peval_sound rfl) rfl ?_ rfl ?_ | refine l_n (nl rfl rfl tc rfl) rfl ?_ rfl ?_); · (exact Ent.refl _)))
  rw [hw1]
  refine l_n (n_fromV (d + 1) rfl rfl rfl rfl rfl (by omega)) rfl (by (exact Ent.refl _)) rfl ?_
  refine l_e rfl (o_call (row70_w [.slice B1 g.Levels.length c1, .slice B2 g.Pats.length c2, .slice B3 g.Nons.length c3, .slice (some ⟨b9, o9, none⟩) g.Prods.length c4] rfl A0 g.Terms.length c0 An g.Nons.length cn Af cf (bFix g) hbi (by omega) (by omega) _ (g.Prods[p].Right.length - (d + 1)) (cr - (d + 1)) (g.Prods[p].Right.drop (d + 1)) (by rw [List.length_drop]) (fun x hx => (prod_ok hwf hpl).2.2 x (List.mem_of_mem_drop hx))) rfl .nil
    (Can.and (Can.and (Can.ro hN) (Can.ro hFi)) (Can.ro ⟨_, _, by rw [List.length_drop]; rfl, by rw [List.length_drop]; have := hri.1; omega, by rw [List.length_drop]; have := hri.2.1; omega, hdr⟩)) rfl ?_)
  rintro v V ⟨bu, rfl, rfl⟩
  refine ⟨(by (repeat' (first | exact Ent.refl _ | refine Ent.wk ?_))), ?_⟩
  simp only [List.cons_append, List.nil_append]
  repeat' (first | refine l_nil ?_ | ((refine l_n (peval_sound rfl) rfl ?_ rfl ?_); · (repeat' (first | exact Ent.refl _ | refine Ent.wk ?_))))
  rw [← hl]
  refine s_weak (fr' := [(20, .bool (restN g ⟨p, d⟩)), (19, .slice (some ⟨bu, 0, none⟩) g.Terms.length g.Terms.length), (18, .bool m1), (17, .int .i64 s), (14, .bool false), (15, .int .i64 g.Terms.length), (16, ptrN bx), (10, ptrN bK), (8, ptrN bL), (7, ptrN bG), (2, .slice (some ⟨bA, 0, none⟩) X.length c), (4, .int .i64 i), (5, .int .i64 k), (6, .int .i64 a)]) (V := [osl 4 1 (.slice (some ⟨bu, 0, none⟩) g.Terms.length g.Terms.length) g.Terms.length ((rowT g.Terms.length (bFix g) (restL g ⟨p, d⟩)).1.map Value.bool), stB X1, blk bx 79 [.int .i64 p, .int .i64 d], blk bK 120 [.slice An g.Nons.length cn, .slice Af g.Nons.length cf], blk bL 66 [.slice A1 (lrKs g).length a1, .slice (some ⟨e2, o2, none⟩) (lrGs g).length a2], blk bG 27 [.slice A0 g.Terms.length c0, .slice B1 g.Levels.length c1, .slice B2 g.Pats.length c2, .slice B3 g.Nons.length c3, .slice (some ⟨b9, o9, none⟩) g.Prods.length c4], stS (some ⟨bA, 0, none⟩) X.length c X]) ?_ (by (exact Ent.refl _)) ?_
  · repeat' (first | exact Sub.nil _ | refine Sub.cons rfl ?_)
  repeat' (first | refine e_nil ?_ | ((refine e_op ?_); (refine o_n (peval_sound rfl) rfl ?_)) | refine s_seq ?_ | refine s_region ?_)
  have hst : ∀ {Y : List Sx} {m : Bool}, Gro X Y m → stS (some ⟨bA, 0, none⟩) X.length c Y = stS (some ⟨bA, 0, none⟩) X.length c X := fun h => by
    show osl _ _ _ _ _ = osl _ _ _ _ _
    rw [h.hd]
  rw [← hst hG1]
  have hbn := begA_len g ⟨p, d⟩ a
  refine s_condJ (ι := Unit) (fun _ => [(18, .bool m1), (19, .slice (some ⟨bu, 0, none⟩) g.Terms.length g.Terms.length), (17, .int .i64 s), (14, .bool false), (15, .int .i64 g.Terms.length), (16, ptrN bx), (10, ptrN bK), (8, ptrN bL), (7, ptrN bG), (2, .slice (some ⟨bA, 0, none⟩) X.length c), (4, .int .i64 i), (5, .int .i64 k), (6, .int .i64 a)]) (fun _ => [osl 4 1 (.slice (some ⟨bu, 0, none⟩) g.Terms.length g.Terms.length) g.Terms.length (cB (begA g ⟨p, d⟩ a)), stB X1, blk bx 79 [.int .i64 p, .int .i64 d], blk bK 120 [.slice An g.Nons.length cn, .slice Af g.Nons.length cf], blk bL 66 [.slice A1 (lrKs g).length a1, .slice (some ⟨e2, o2, none⟩) (lrGs g).length a2], blk bG 27 [.slice A0 g.Terms.length c0, .slice B1 g.Levels.length c1, .slice B2 g.Pats.length c2, .slice B3 g.Nons.length c3, .slice (some ⟨b9, o9, none⟩) g.Prods.length c4], stS (some ⟨bA, 0, none⟩) X.length c X1]) rfl (fun h hfin => ?_) (fun h hfin => ?_) ?_
  · have e1 : begA g ⟨p, d⟩ a = (rowT g.Terms.length (bFix g) (restL g ⟨p, d⟩)).1.set a true := by unfold begA; rw [if_pos h]
    repeat' (first | ((refine e_op ?_); (refine o_n (peval_sound rfl) rfl ?_)) | refine s_region ?_)
    refine e_op (o_n (n_index rfl rfl rfl rfl a rfl ha) rfl ?_)
    refine e_op (o_storeO rfl rfl rfl rfl to uc rfl rfl ?_ ?_)
    · rw [List.length_map, rowT_len]; show 0 + a * 1 + 1 ≤ _; omega
    refine e_nil ?_
    refine s_weak ?_ ?_ (hfin ())
    · repeat' (first | exact Sub.nil _ | refine Sub.cons rfl ?_)
    · have e2 : setMany ((rowT g.Terms.length (bFix g) (restL g ⟨p, d⟩)).1.map Value.bool) (0 + a * 1) [.bool true] = cB (begA g ⟨p, d⟩ a) := by
        rw [e1, show 0 + a * 1 = a by omega]
        simp only [setMany]; unfold cB; rw [List.map_set]
      rw [← e2]
      exact Ent.refl _
  · have e1 : begA g ⟨p, d⟩ a = (rowT g.Terms.length (bFix g) (restL g ⟨p, d⟩)).1 := by unfold begA; rw [if_neg (by rw [h]; decide)]
    rw [e1] at hfin
    refine s_skip ?_
    refine s_weak ?_ (Ent.refl _) (hfin ())
    repeat' (first | exact Sub.nil _ | refine Sub.cons rfl ?_)
  rintro -
  repeat' (first | refine e_nil ?_ | ((refine e_op ?_); (refine o_n (peval_sound rfl) rfl ?_)) | refine s_seq ?_ | refine s_region ?_ | refine s_block ?_)
  refine s_loopK (ι := {z : Nat × List Sx × Bool // z.1 ≤ g.Prods.length ∧ DI g z.2.1 ∧ Gro X z.2.1 z.2.2 ∧ BP g z.2.1 ⟨j, ⟨p, d + 1⟩⟩ a ∧ ∀ q : Nat, q < z.1 → (prd g q).Left = beh g ⟨p, d⟩ - g.Terms.length → ∀ u, u < g.Terms.length → (begA g ⟨p, d⟩ a).getD u false = true → BP g z.2.1 ⟨i, ⟨q, 0⟩⟩ u}) [19, 17, 14, 15, 16, 10, 8, 7, 2, 4, 5, 6] rfl ⟨(0, X1, m1), by simp only; omega, hI1, hG1, hB1, fun q hq => absurd hq (Nat.not_lt_zero _)⟩ (fun z => [(21, .int .i64 z.1.1), (18, .bool z.1.2.2)])
    (fun z => [osl 4 1 (.slice (some ⟨bu, 0, none⟩) g.Terms.length g.Terms.length) g.Terms.length (cB (begA g ⟨p, d⟩ a)), stB z.1.2.1, blk bx 79 [.int .i64 p, .int .i64 d], blk bK 120 [.slice An g.Nons.length cn, .slice Af g.Nons.length cf], blk bL 66 [.slice A1 (lrKs g).length a1, .slice (some ⟨e2, o2, none⟩) (lrGs g).length a2], blk bG 27 [.slice A0 g.Terms.length c0, .slice B1 g.Levels.length c1, .slice B2 g.Pats.length c2, .slice B3 g.Nons.length c3, .slice (some ⟨b9, o9, none⟩) g.Prods.length c4], stS (some ⟨bA, 0, none⟩) X.length c z.1.2.1]) (fun z => g.Prods.length - z.1.1) ?_ (Ent.refl _) ?_
  · repeat' (first | exact Sub.nil _ | refine Sub.cons rfl ?_)
  rintro ⟨⟨q, Y, m⟩, hq, hIY, hGY, hBY, hdone⟩
  simp only at hq hIY hGY hBY hdone ⊢
  repeat' (first | refine e_nil ?_ | ((refine e_op ?_); (first | refine o_n (peval_sound rfl) rfl ?_ | refine o_n (nl rfl rfl tc rfl) rfl ?_)) | refine s_seq ?_ | refine s_region ?_)
  refine s_cond rfl (fun h => ?_) (fun h => ?_)
  · have hqlt : q < g.Prods.length := by simpa using h
    obtain ⟨_, _, esq, e10, hbq, heq, hcq⟩ := hG.prods.2.2 q hqlt
    cases e10
    obtain ⟨Aq, cq, rfl, hlq, hlqN, hlqK, hrq⟩ := kPrd_open heq
    have hlv := (prod_ok hwf hqlt)
    have ePq := prd_at hqlt
    have hsub : IntKind.i64.wrap ((s : Int) - (g.Terms.length : Int)) = (s : Int) - g.Terms.length := by
      have := hF.row i g1
      rw [wrap_i64] <;> omega
    repeat' (first | refine e_nil ?_ | ((refine e_op ?_); (refine o_n (peval_sound rfl) rfl ?_)) | refine s_seq ?_ | refine s_region ?_ | refine s_block ?_ | refine s_skip ?_)
    refine s_loopK (ι := {z : Nat × List Sx × Bool // z.1 ≤ g.Terms.length ∧ DI g z.2.1 ∧ Gro X z.2.1 z.2.2 ∧ BP g z.2.1 ⟨j, ⟨p, d + 1⟩⟩ a ∧ (∀ q' : Nat, q' < q → (prd g q').Left = beh g ⟨p, d⟩ - g.Terms.length → ∀ u, u < g.Terms.length → (begA g ⟨p, d⟩ a).getD u false = true → BP g z.2.1 ⟨i, ⟨q', 0⟩⟩ u) ∧ (∀ u, u < z.1 → (begA g ⟨p, d⟩ a).getD u false = true → BP g z.2.1 ⟨i, ⟨q, 0⟩⟩ u)}) [21, 19, 17, 14, 15, 16, 10, 8, 7, 2, 4, 5, 6] rfl ⟨(0, Y, m), by simp only; omega, hIY, hGY, hBY, hdone, fun u hu => absurd hu (Nat.not_lt_zero _)⟩ (fun z => [(22, .int .i64 z.1.1), (18, .bool z.1.2.2)])
      (fun z => [osl 4 1 (.slice (some ⟨bu, 0, none⟩) g.Terms.length g.Terms.length) g.Terms.length (cB (begA g ⟨p, d⟩ a)), stB z.1.2.1, blk bx 79 [.int .i64 p, .int .i64 d], blk bK 120 [.slice An g.Nons.length cn, .slice Af g.Nons.length cf], blk bL 66 [.slice A1 (lrKs g).length a1, .slice (some ⟨e2, o2, none⟩) (lrGs g).length a2], blk bG 27 [.slice A0 g.Terms.length c0, .slice B1 g.Levels.length c1, .slice B2 g.Pats.length c2, .slice B3 g.Nons.length c3, .slice (some ⟨b9, o9, none⟩) g.Prods.length c4], stS (some ⟨bA, 0, none⟩) X.length c z.1.2.1]) (fun z => g.Terms.length - z.1.1) ?_ (Ent.refl _) ?_
    · repeat' (first | exact Sub.nil _ | refine Sub.cons rfl ?_)
    rintro ⟨⟨u, Z, n⟩, hu, hIZ, hGZ, hBZ, hpr, hcu⟩
    simp only at hu hIZ hGZ hBZ hpr hcu ⊢
    repeat' (first | ((refine e_op ?_); (refine o_n (peval_sound rfl) rfl ?_)) | refine s_seq ?_ | refine s_region ?_)
    by_cases hu2 : u < g.Terms.length
    · rw [decide_eq_true (p := ((u : Int) < (g.Terms.length : Int))) (by omega)]
      repeat' (((refine e_yes rfl ?_); (first | refine o_n (peval_sound rfl) rfl ?_ | refine o_n (nl rfl rfl tc rfl) rfl ?_)))
      refine e_yes rfl (o_n (n_index rfl rfl rfl rfl q rfl hqlt) rfl ?_)
      repeat' (((refine e_yes rfl ?_); (refine o_n (peval_sound rfl) rfl ?_)))
      refine e_yes rfl (o_n (n_load_ro rfl rfl hbq (loads_one rfl (hcq 0 _ rfl))) rfl ?_)
      repeat' (first | refine e_nil ?_ | ((first | refine e_op ?_ | refine e_yes rfl ?_); (refine o_n (peval_sound rfl) rfl ?_)))
      rw [hsub]
      skip
      refine s_cond rfl (fun h => ?_) (fun h => ?_)
      · have hle : (prd g q).Left = beh g ⟨p, d⟩ - g.Terms.length := by rw [ePq, hbs]; simpa using h
        repeat' (first | ((refine e_op ?_); (refine o_n (peval_sound rfl) rfl ?_)) | refine s_seq ?_ | refine s_region ?_ | refine s_block ?_ | refine s_skip ?_)
        refine e_op (o_n (n_index rfl rfl rfl rfl u rfl hu2) rfl ?_)
        refine e_op (o_n (no rfl rfl to (loadB (by rw [hbn]; exact hu2) (by show 0 + u * 1 = u; omega))) rfl ?_)
        repeat' (refine e_nil ?_)
        refine s_cond rfl (fun h => ?_) (fun h => ?_)
        · have hla2 : LA g (lrGs g) ⟨i, ⟨q, 0⟩⟩ u := .step hla (.close hdne hnlow hqlt hle ((begA_bit ha hu2).1 h))
          obtain ⟨hv1, hv2⟩ := hvp.prod hF hqlt hle
          have hqm : (⟨q, 0⟩ : Itm) ∈ LS g i := by unfold LS; rw [eK]; exact hv2
          have hiZ : i < Z.length := by rw [hGZ.len]; exact hi
          repeat' (first | ((refine e_op ?_); (refine o_n (peval_sound rfl) rfl ?_)) | refine s_region ?_)
          refine e_op (o_n (n_index rfl rfl rfl rfl i rfl hi) rfl ?_)
          refine e_op (o_n (n_load_osl rfl rfl (TakA.tak (A := stS (some ⟨bA, 0, none⟩) X.length c Z)) (hd_load hiZ)) rfl ?_)
          repeat' (((refine e_op ?_); (refine o_n (peval_sound rfl) rfl ?_)))
          refine e_op (o_call (put_w g he Z hIZ i u hiZ ⟨q, 0⟩ hqm hu2 hla2) rfl (.cons (TakA.tak (A := stB Z)) .nil) Can.tt rfl ?_)
          rintro v V ⟨Z1, n1, rfl, rfl, hI2, hG2, hB2⟩
          simp only [List.cons_append, List.nil_append]
          have hG3 : Gro X Z1 (n1 || n) := hGZ.trans hG2
          have hcell : stS (some ⟨bA, 0, none⟩) X.length c Z = stS (some ⟨bA, 0, none⟩) X.length c Z1 := by rw [hst hGZ, hst hG3]
          rw [hcell]
          cases n1 with
          | true =>
            repeat' (first | refine e_nil ?_ | ((refine e_op ?_); (refine o_n (peval_sound rfl) rfl ?_)) | refine e_noU rfl rfl rfl ?_ | refine s_region ?_ | refine s_end ?_)
            refine s_back ⟨⟨(u + 1, Z1, true), by simp only; omega, hI2, hG3, hBZ.mono hG2, fun q' hq' hl' u' hu' hb' => (hpr q' hq' hl' u' hu' hb').mono hG2, fun u' hu' hb' => ?_⟩, by simp only; omega, ?_, ?_⟩
            · by_cases e : u' = u
              · subst e; exact hB2
              · exact (hcu u' (by simp only at hu'; omega) hb').mono hG2
            · repeat' (first | exact Sub.nil _ | refine Sub.cons rfl ?_ | refine Sub.consE rfl ?_ ?_)
              exact inc (i := u) (by omega)
            · exact Ent.tak (.s .z) (Ent.tak .z (Ent.refl _))
          | false =>
            repeat' (first | refine e_nil ?_ | ((first | refine e_op ?_ | refine e_yes rfl ?_); (refine o_n (peval_sound rfl) rfl ?_)) | refine s_region ?_ | refine s_end ?_)
            refine s_back ⟨⟨(u + 1, Z1, n), by simp only; omega, hI2, by simpa using hG3, hBZ.mono hG2, fun q' hq' hl' u' hu' hb' => (hpr q' hq' hl' u' hu' hb').mono hG2, fun u' hu' hb' => ?_⟩, by simp only; omega, ?_, ?_⟩
            · by_cases e : u' = u
              · subst e; exact hB2
              · exact (hcu u' (by simp only at hu'; omega) hb').mono hG2
            · repeat' (first | exact Sub.nil _ | refine Sub.cons rfl ?_ | refine Sub.consE rfl ?_ ?_)
              exact inc (i := u) (by omega)
            · exact Ent.tak (.s .z) (Ent.tak .z (Ent.refl _))
        · repeat' (first | refine e_nil ?_ | ((refine e_op ?_); (refine o_n (peval_sound rfl) rfl ?_)) | refine s_region ?_ | refine s_end ?_ | refine s_skip ?_)
          refine s_back ⟨⟨(u + 1, Z, n), by simp only; omega, hIZ, hGZ, hBZ, hpr, fun u' hu' hb' => ?_⟩, by simp only; omega, ?_, Ent.refl _⟩
          · by_cases e : u' = u
            · subst e; rw [h] at hb'; cases hb'
            · exact hcu u' (by simp only at hu'; omega) hb'
          · repeat' (first | exact Sub.nil _ | refine Sub.cons rfl ?_ | refine Sub.consE rfl ?_ ?_)
            exact inc (i := u) (by omega)
      · have hle : (prd g q).Left ≠ beh g ⟨p, d⟩ - g.Terms.length := by rw [ePq, hbs]; simpa using h
        repeat' (first | refine e_nil ?_ | ((refine e_op ?_); (refine o_n (peval_sound rfl) rfl ?_)) | refine s_region ?_ | refine s_end ?_ | refine s_exit ?_ | refine x_hit ?_ | refine x_code ?_ | refine x_back ?_)
        refine s_back ⟨⟨(q + 1, Z, n), by simp only; omega, hIZ, hGZ, hBZ, fun q' hq' hl' u' hu' hb' => ?_⟩, by simp only; omega, ?_, Ent.refl _⟩
        · by_cases e : q' = q
          · subst e; exact absurd hl' hle
          · exact hpr q' (by simp only at hq'; omega) hl' u' hu' hb'
        · repeat' (first | exact Sub.nil _ | refine Sub.cons rfl ?_ | refine Sub.consE rfl ?_ ?_)
          exact inc (i := q) (by omega)
    · rw [decide_eq_false (p := ((u : Int) < (g.Terms.length : Int))) (by omega)]
      repeat' (first | refine e_nil ?_ | ((refine e_op ?_); (refine o_n (peval_sound rfl) rfl ?_)) | refine e_noU rfl rfl rfl ?_ | refine s_region ?_ | refine s_end ?_ | refine s_exit ?_ | refine s_false rfl ?_ | refine x_hit ?_ | refine x_code ?_ | refine x_back ?_)
      refine s_back ⟨⟨(q + 1, Z, n), by simp only; omega, hIZ, hGZ, hBZ, fun q' hq' hl' u' hu' hb' => ?_⟩, by simp only; omega, ?_, Ent.refl _⟩
      · by_cases e : q' = q
        · subst e; exact hcu u' (by omega) hb'
        · exact hpr q' (by simp only at hq'; omega) hl' u' hu' hb'
      · repeat' (first | exact Sub.nil _ | refine Sub.cons rfl ?_ | refine Sub.consE rfl ?_ ?_)
        exact inc (i := q) (by omega)
  · have hqe : ¬ q < g.Prods.length := by simpa using h
    repeat' (first | refine e_nil ?_ | ((refine e_op ?_); (refine o_n (peval_sound rfl) rfl ?_)) | refine s_seq ?_ | refine s_region ?_ | refine s_exit ?_ | refine x_hit ?_ | refine x_code ?_ | refine x_back ?_)
    refine s_ret ⟨_, _, res1 rfl rfl, ⟨Y, m, rfl, rfl, hIY, hGY, shut_of ha hx (by rw [hnx]; exact hBY) (fun _ q' hq' hl' u' hu' hb' => hdone q' (by omega) hl' u' hu' hb')⟩, ?_⟩
    rw [hst hG1, ← hst hGY]
    exact Ent.tak (TakA.tak (A := stS (some ⟨bA, 0, none⟩) X.length c Y)) (Ent.tak (TakA.tak (A := stB Y)) (Ent.nil _))

end Go.Proofs.YtcnpjhaedjncdaaGreatDoor

namespace Go.Proofs.YtcnpjhaedjncdaaGreatDoor
set_option linter.all false
open Go.Proofs.YtcnpjhaedjncdaaGreatDoor.E

/-- States as they are before anything is put. -/
structure B0 (g : Gram) (X : List Sx) : Prop where
  l : ∀ (i : Nat) (h : i < X.length), X[i].l = LS g i
  r : ∀ (i : Nat) (h : i < X.length), X[i].r = List.replicate X[i].l.length (List.replicate g.Terms.length false)
  d : ∀ (i : Nat) (h : i < X.length), X[i].d.length = X[i].l.length
theorem B0.nil (g : Gram) : B0 g [] := ⟨fun i h => absurd h (Nat.not_lt_zero _), fun i h => absurd h (Nat.not_lt_zero _), fun i h => absurd h (Nat.not_lt_zero _)⟩
theorem B0.snoc {g : Gram} {X : List Sx} (h : B0 g X) {s : Sx} (h1 : s.l = LS g X.length) (h2 : s.r = List.replicate s.l.length (List.replicate g.Terms.length false)) (h3 : s.d.length = s.l.length) : B0 g (X ++ [s]) := by
  have key : ∀ (P : Nat → Sx → Prop), (∀ (i : Nat) (h : i < X.length), P i X[i]) → P X.length s → ∀ (i : Nat) (h : i < (X ++ [s]).length), P i (X ++ [s])[i] := fun P ha hb i hi => by
    rw [List.length_append, List.length_singleton] at hi
    by_cases e : i < X.length
    · rw [List.getElem_append_left e]; exact ha i e
    · have e2 : i = X.length := by omega
      subst e2
      rw [List.getElem_append_right (Nat.le_refl _)]
      simp only [Nat.sub_self, List.getElem_singleton]; exact hb
  exact ⟨key (fun i x => x.l = LS g i) h.l h1, key (fun i x => x.r = List.replicate x.l.length (List.replicate g.Terms.length false)) h.r h2, key (fun i x => x.d.length = x.l.length) h.d h3⟩
theorem B0.di {g : Gram} {X : List Sx} (h : B0 g X) (hn : X.length = (lrKs g).length) : DI g X where
  n := hn
  l := h.l
  r i hi := by rw [h.r i hi, List.length_replicate]
  d i hi := by rw [h.d i hi, h.r i hi, List.length_replicate]
  t i hi b hb := by
    rw [h.r i hi] at hb
    rw [(List.mem_replicate.1 hb).2, List.length_replicate]
  so i k t hb := by
    obtain ⟨s, b, e1, e2, e3⟩ := hb
    obtain ⟨hi, rfl⟩ := List.getElem?_eq_some_iff.1 e1
    have e4 := List.mem_of_getElem? e2
    rw [h.r i hi] at e4
    rw [(List.mem_replicate.1 e4).2] at e3
    have := (List.mem_replicate.1 (List.mem_of_getElem? e3)).2
    cases this

/-- A state's items and the terms behind them, being made. -/
structure Mk2 where
  b : Nat
  A : Option Addr
  c : Nat
structure Mk3 where
  k : Nat
  A : Option Addr
  c : Nat
  D : AcL

attribute [local irreducible] EVX EVO EVL EV1 NEV
attribute [local irreducible] own osl exA rdA rdL
attribute [local irreducible] bldA mapA bun mapS
set_option maxRecDepth 10000
set_option maxHeartbeats 4000000

theorem states_w (cs cl : List Value) (g : Gram) (he : lrE g = 0) : Trip Tryz.prog 27 [.agg cs.toArray, .agg cl.toArray] ((kGram.rd cs g).and (kLr.rd cl (lrKs g, lrGs g))) []
    (fun v V => ∃ A c X, v = .slice A X.length c ∧ V = [stS A X.length c X, stB X] ∧ DI g X ∧ BP g X p00 0 ∧ ∀ i k a, BX X i k a → Shut g X i k a) := by
  have hF := goF he
  have hL := hF.lim
  have hT := hL.t
  have hNn := hL.n
  have hPn := hL.p
  have hKn := hF.n
  have hce : checkE g = 0 := Classical.byContradiction fun hn => hn (by unfold lrE at he; rw [if_pos hn] at he; exact he)
  obtain ⟨hlm, hwf⟩ := checkE_ok hce
  have o := GOk.of hwf
  refine trip Tryz.tabOk Tryz.func27 rfl rfl rfl rfl ?_
  rintro w SM ⟨hG0, ⟨d1, d2, rfl, ⟨A1, a1, rfl, h1⟩, ⟨A2, a2, rfl, h2⟩⟩⟩
  have hR2 : (kLr.rd [.slice A1 (lrKs g).length a1, .slice A2 (lrGs g).length a2] (lrKs g, lrGs g)).P w (fun b => b < w.heap.size ∧ ¬SM b) := ⟨_, _, rfl, ⟨A1, a1, rfl, h1⟩, ⟨A2, a2, rfl, h2⟩⟩
  simp only at h1 h2
  obtain ⟨A0, B1, B2, B3, A4, c0, c1, c2, c3, c4, rfl, hG⟩ := kGram_open hG0
  simp only [List.cons_append, List.nil_append]
  obtain ⟨e1, o1, es1, rfl, -, -, -⟩ := h1.2.2 0 hF.p0
  repeat' (first | refine e_nil ?_ | ((refine e_op ?_); (first | refine o_n (peval_sound rfl) rfl ?_ | refine o_n (nl rfl rfl tc rfl) rfl ?_ | refine o_box rfl rfl (fun _ => ?_))) | refine s_seq ?_ | refine s_region ?_ | refine s_block ?_)
  rename_i bG bL
  refine s_ent (V := stS none ([] : List Sx).length 0 [] :: stB [] :: blk bL 66 [.slice (some ⟨e1, o1, none⟩) (lrKs g).length a1, .slice A2 (lrGs g).length a2] :: [blk bG 27 [.slice A0 g.Terms.length c0, .slice B1 g.Levels.length c1, .slice B2 g.Pats.length c2, .slice B3 g.Nons.length c3, .slice A4 g.Prods.length c4]]) (Ent.trans (ent_bun (L := [])) (Ent.osl0 (Ent.refl _))) ?_
  refine s_loopK (ι := {z : Option Addr × Nat × List Sx // z.2.2.length ≤ (lrKs g).length ∧ B0 g z.2.2}) [2, 3, 5] rfl ⟨(none, 0, []), Nat.zero_le _, B0.nil g⟩ (fun z => [(7, .int .i64 z.1.2.2.length), (6, .slice z.1.1 z.1.2.2.length z.1.2.1)])
    (fun z => [stS z.1.1 z.1.2.2.length z.1.2.1 z.1.2.2, stB z.1.2.2, blk bL 66 [.slice (some ⟨e1, o1, none⟩) (lrKs g).length a1, .slice A2 (lrGs g).length a2], blk bG 27 [.slice A0 g.Terms.length c0, .slice B1 g.Levels.length c1, .slice B2 g.Pats.length c2, .slice B3 g.Nons.length c3, .slice A4 g.Prods.length c4]]) (fun z => (lrKs g).length - z.1.2.2.length) ?_ (Ent.refl _) ?_
  · repeat' (first | exact Sub.nil _ | refine Sub.cons rfl ?_)
  rintro ⟨⟨A, c, X⟩, hn, hB⟩
  simp only at hn hB ⊢
  repeat' (first | refine e_nil ?_ | ((refine e_op ?_); (first | refine o_n (peval_sound rfl) rfl ?_ | refine o_n (nl rfl rfl tc rfl) rfl ?_)) | refine s_seq ?_ | refine s_region ?_)
  refine s_cond rfl (fun h => ?_) (fun h => ?_)
  · obtain ⟨i, hi⟩ : ∃ i, i = X.length := ⟨_, rfl⟩
    have hlt : i < (lrKs g).length := by rw [hi]; simpa using h
    obtain ⟨_, _, es, e5, hb5, ⟨B5, m5, rfl, hr5⟩, hc5⟩ := h1.2.2 i hlt
    cases e5
    have eK : closedP g (lrKs g)[i] = LS g i := by unfold LS; rw [List.getD_eq_getElem?_getD, List.getElem?_eq_getElem hlt]; rfl
    have hok := hF.ok i hlt
    have hcl := hF.cl i hlt
    rw [eK] at hcl
    have hll : (LS g i).length ≤ 2000 := hcl.2.2.2.2
    rw [← hi]
    repeat' (first | refine s_seq ?_ | refine s_block ?_ | refine s_skip ?_)
    refine s_join (ι := Mk2) (fun z => [(8, ptrN z.b), (5, .int .i64 g.Terms.length), (7, .int .i64 i), (6, .slice A i c), (2, ptrN bG), (3, ptrN bL)]) (fun z => [blk z.b 90 [.slice z.A (LS g i).length z.c, .slice none 0 0], pX z.A (LS g i).length z.c (LS g i), stS A i c X, stB X, blk bL 66 [.slice (some ⟨e1, o1, none⟩) (lrKs g).length a1, .slice A2 (lrGs g).length a2], blk bG 27 [.slice A0 g.Terms.length c0, .slice B1 g.Levels.length c1, .slice B2 g.Pats.length c2, .slice B3 g.Nons.length c3, .slice A4 g.Prods.length c4]]) (fun hfin => ?_) ?_
    · refine s_anyU Tryz.mixed ?_
      refine a_n 0 rfl (nl rfl rfl tc rfl) (by decide +kernel) (by (exact Ent.refl _)) rfl ?_
      refine a_n 1 rfl (peval_sound rfl) (by decide +kernel) (by (exact Ent.refl _)) rfl ?_
      refine a_n 2 rfl (nl rfl rfl tc rfl) (by decide +kernel) (by (exact Ent.refl _)) rfl ?_
      refine a_n 3 rfl (peval_sound rfl) (by decide +kernel) (by (exact Ent.refl _)) rfl ?_
      refine a_n 4 rfl (n_index rfl rfl rfl rfl i rfl hlt) (by decide +kernel) (by (exact Ent.refl _)) rfl ?_
      refine a_n 5 rfl (n_load_ro rfl rfl hb5 (loads_one rfl (hc5 0 _ rfl))) (by decide +kernel) (by (exact Ent.refl _)) rfl ?_
      refine a_2 6 8 (by decide +kernel) rfl rfl rfl rfl (o_call (closed_w _ g o B5 m5 (lrKs g)[i] (by omega) (by omega) (by omega) (by omega) hok.2.1) rfl .nil (Can.and (Can.ro hG0) (Can.ro ⟨B5, m5, rfl, hr5⟩)) rfl ?_) (o_alloc rfl rfl (fun b8 => ?_))
      · rintro v V ⟨Ac, cc, rfl, rfl⟩
        rw [eK]
        refine ⟨(by (repeat' (first | exact Ent.refl _ | refine Ent.wk ?_))), ?_⟩
        simp only [List.cons_append, List.nil_append]
        refine a_n 7 rfl (peval_sound rfl) (by decide +kernel) (by (repeat' (first | exact Ent.refl _ | refine Ent.wk ?_))) rfl ?_
        refine a_1 8 (by decide +kernel) rfl rfl (o_alloc rfl rfl (fun b8 => ?_))
        refine ⟨(by (repeat' (first | exact Ent.refl _ | refine Ent.wk ?_))), ?_⟩
        refine a_1 9 (by decide +kernel) rfl rfl (o_storeC rfl rfl rfl rfl tc uc rfl rfl rfl ?_)
        refine ⟨(by (repeat' (first | exact Ent.refl _ | refine Ent.wk ?_))), ?_⟩
        refine a_done (by decide +kernel) ?_
        refine s_weak ?_ ?_ (hfin ⟨b8, Ac, cc⟩)
        · repeat' (first | exact Sub.nil _ | refine Sub.cons rfl ?_)
        · repeat' (first | exact Ent.nil _ | refine Ent.tak tk ?_ | refine Ent.blkC tc rfl ?_)
      · refine ⟨(by (repeat' (first | exact Ent.refl _ | refine Ent.wk ?_))), ?_⟩
        refine a_1 6 (by decide +kernel) rfl rfl (o_call (closed_w _ g o B5 m5 (lrKs g)[i] (by omega) (by omega) (by omega) (by omega) hok.2.1) rfl .nil (Can.and (Can.ro hG0) (Can.ro ⟨B5, m5, rfl, hr5⟩)) rfl ?_)
        rintro v V ⟨Ac, cc, rfl, rfl⟩
        rw [eK]
        refine ⟨(by (repeat' (first | exact Ent.refl _ | refine Ent.wk ?_))), ?_⟩
        simp only [List.cons_append, List.nil_append]
        refine a_n 7 rfl (peval_sound rfl) (by decide +kernel) (by (repeat' (first | exact Ent.refl _ | refine Ent.wk ?_))) rfl ?_
        refine a_1 9 (by decide +kernel) rfl rfl (o_storeC rfl rfl rfl rfl tc uc rfl rfl rfl ?_)
        refine ⟨(by (repeat' (first | exact Ent.refl _ | refine Ent.wk ?_))), ?_⟩
        refine a_done (by decide +kernel) ?_
        refine s_weak ?_ ?_ (hfin ⟨b8, Ac, cc⟩)
        · repeat' (first | exact Sub.nil _ | refine Sub.cons rfl ?_)
        · repeat' (first | exact Ent.nil _ | refine Ent.tak tk ?_ | refine Ent.blkC tc rfl ?_)
    · rintro ⟨b8, Ac, cc⟩
      simp only
      obtain ⟨r0, hr0⟩ : ∃ r0, r0 = List.replicate g.Terms.length false := ⟨_, rfl⟩
      have hr0l : r0.length = g.Terms.length := by rw [hr0, List.length_replicate]
      have hr0c : List.replicate g.Terms.length (Value.bool false) = cB r0 := by rw [hr0]; unfold cB; rw [List.map_replicate]
      repeat' (first | refine e_nil ?_ | ((refine e_op ?_); (refine o_n (peval_sound rfl) rfl ?_)) | refine s_seq ?_ | refine s_region ?_ | refine s_block ?_)
      refine s_ent (V := blk b8 90 [.slice Ac (LS g i).length cc, .slice none 0 0] :: osl 39 1 (.slice none 0 0) 0 (rowC [] (List.replicate 0 r0)) :: bun (rowX cB 1 4 [] (List.replicate 0 r0)) :: pX Ac (LS g i).length cc (LS g i) :: stS A i c X :: stB X :: blk bL 66 [.slice (some ⟨e1, o1, none⟩) (lrKs g).length a1, .slice A2 (lrGs g).length a2] :: [blk bG 27 [.slice A0 g.Terms.length c0, .slice B1 g.Levels.length c1, .slice B2 g.Pats.length c2, .slice B3 g.Nons.length c3, .slice A4 g.Prods.length c4]]) ?_ ?_
      · exact Ent.tak .z (Ent.osl0 (Ent.trans (ent_bun (L := [])) (Ent.refl _)))
      refine s_loopK (ι := {z : Mk3 // z.k ≤ (LS g i).length ∧ z.D.length = z.k}) [8, 5, 7, 6, 2, 3] rfl ⟨⟨0, none, 0, []⟩, Nat.zero_le _, rfl⟩ (fun z => [(9, .int .i64 z.1.k)])
        (fun z => [blk b8 90 [.slice Ac (LS g i).length cc, .slice z.1.A z.1.k z.1.c], osl 39 1 (.slice z.1.A z.1.k z.1.c) z.1.k (rowC z.1.D (List.replicate z.1.k r0)), bun (rowX cB 1 4 z.1.D (List.replicate z.1.k r0)), pX Ac (LS g i).length cc (LS g i), stS A i c X, stB X, blk bL 66 [.slice (some ⟨e1, o1, none⟩) (lrKs g).length a1, .slice A2 (lrGs g).length a2], blk bG 27 [.slice A0 g.Terms.length c0, .slice B1 g.Levels.length c1, .slice B2 g.Pats.length c2, .slice B3 g.Nons.length c3, .slice A4 g.Prods.length c4]]) (fun z => (LS g i).length - z.1.k) ?_ (Ent.refl _) ?_
      · repeat' (first | exact Sub.nil _ | refine Sub.cons rfl ?_)
      rintro ⟨⟨k, AT, cT, D⟩, hk, hD⟩
      simp only at hk hD ⊢
      repeat' (first | refine e_nil ?_ | ((refine e_op ?_); (first | refine o_n (peval_sound rfl) rfl ?_ | refine o_n (nl rfl rfl tc rfl) rfl ?_)) | refine s_seq ?_ | refine s_region ?_)
      refine s_cond rfl (fun h => ?_) (fun h => ?_)
      · have hkl : k < (LS g i).length := by simpa using h
        repeat' (first | refine s_seq ?_ | refine s_block ?_ | refine s_skip ?_)
        refine s_P Tryz.mixed (by decide +kernel) ?_
        refine p_barU 5 ?_
        refine q_n 0 rfl (peval_sound rfl) (by decide +kernel) (by decide +kernel) (Ent.refl _) rfl ?_
        refine q_n 1 rfl (nl rfl rfl tc rfl) (by decide +kernel) (by decide +kernel) (Ent.refl _) rfl ?_
        refine q_n 2 rfl (peval_sound rfl) (by decide +kernel) (by decide +kernel) (Ent.refl _) rfl ?_
        refine q_1 3 (by decide +kernel) rfl rfl rfl (o_make rfl rfl rfl rfl g.Terms.length rfl rfl (by omega) (by omega) rfl (fun br => ⟨Ent.wk (Ent.refl _), ?_⟩))
        refine q_1 4 (by decide +kernel) rfl rfl rfl (o_lit (ps := [(0, .slice (some ⟨br, 0, none⟩) g.Terms.length g.Terms.length)]) (cs := [.slice (some ⟨br, 0, none⟩) g.Terms.length g.Terms.length]) rfl rfl rfl rfl rfl rfl rfl (fun bl2 => ⟨Ent.wk (Ent.wk (Ent.refl _)), ?_⟩))
        refine q_z 5 (by decide +kernel) rfl rfl (o_app1 (m := 1) (news := [.slice (some ⟨br, 0, none⟩) g.Terms.length g.Terms.length]) rfl rfl rfl rfl to uv rfl rfl rfl rfl (by omega) (by simp only; omega) rfl (by decide) (fun bh cb => ?_))
        refine p_barU 7 ?_
        refine q_n 6 rfl (peval_sound rfl) (by decide +kernel) (by decide +kernel) (Ent.refl _) rfl ?_
        refine q_z 7 (by decide +kernel) rfl rfl (o_storeC rfl rfl rfl rfl tc uc rfl rfl rfl ?_)
        refine p_done (by decide +kernel) ?_
        repeat' (first | refine e_nil ?_ | ((refine e_op ?_); (refine o_n (peval_sound rfl) rfl ?_)) | refine s_region ?_ | refine s_end ?_)
        refine s_back ⟨⟨⟨k + 1, some ⟨bh, 0, none⟩, cb, D ++ [(some ⟨br, 0, none⟩, g.Terms.length)]⟩, by simp only; omega, by simp [hD]⟩, by simp only; omega, ?_, ?_⟩
        · repeat' (first | exact Sub.nil _ | refine Sub.cons rfl ?_ | refine Sub.consE rfl ?_ ?_)
          exact inc (i := k) (by omega)
        · simp only
          have e2 : List.replicate (k + 1) r0 = List.replicate k r0 ++ [r0] := List.replicate_succ'
          have e4 : osl 4 1 (.slice (some ⟨br, 0, none⟩) g.Terms.length g.Terms.length) g.Terms.length (List.replicate g.Terms.length (Value.bool false)) = rowA cB 1 4 (some ⟨br, 0, none⟩, g.Terms.length) r0 := by unfold rowA; rw [hr0c, hr0l]
          rw [e2, Go.Proofs.YtcnpjhaedjncdaaGreatDoor.E.rowC_snoc (by rw [List.length_replicate]; exact hD), hr0l, e4]
          refine Ent.blkC tc rfl (Ent.tak tk (Ent.snocB ta ta (by rw [List.length_replicate]; exact hD) ?_))
          repeat' (first | exact Ent.nil _ | refine Ent.tak tk ?_)
      obtain rfl : k = (LS g i).length := by have h := of_decide_eq_false h; omega
      repeat' (first | ((refine e_op ?_); (first | refine o_n (peval_sound rfl) rfl ?_ | refine o_n (nl rfl rfl tc rfl) rfl ?_)) | refine s_region ?_ | refine s_exit ?_ | refine x_hit ?_ | refine x_code ?_ | refine x_back ?_)
      refine e_op (o_lit (ps := [(0, .agg #[.slice Ac (LS g i).length cc, .slice AT (LS g i).length cT])]) (cs := [.slice Ac (LS g i).length cc, .slice AT (LS g i).length cT]) rfl rfl rfl rfl rfl rfl rfl (fun bl => ?_))
      refine e_op (o_app1 (m := 1) (news := [.slice Ac (LS g i).length cc, .slice AT (LS g i).length cT]) rfl rfl rfl rfl to uv rfl rfl rfl rfl (by omega) (by simp only; omega) rfl (by decide) (fun ba ca => ?_))
      repeat' (first | refine e_nil ?_ | ((refine e_op ?_); (refine o_n (peval_sound rfl) rfl ?_)) | refine s_region ?_ | refine s_end ?_)
      obtain ⟨sx, hsx⟩ : ∃ sx : Sx, sx = ⟨Ac, cc, LS g i, AT, cT, List.replicate (LS g i).length r0, D⟩ := ⟨_, rfl⟩
      have e1 : sx.hd = [.slice Ac (LS g i).length cc, .slice AT (LS g i).length cT] := by rw [hsx]; unfold Sx.hd; simp only [List.length_replicate]
      have e2 : sx.asn = [pX Ac (LS g i).length cc (LS g i), osl 39 1 (.slice AT (LS g i).length cT) (LS g i).length (rowC D (List.replicate (LS g i).length r0)), bun (rowX cB 1 4 D (List.replicate (LS g i).length r0))] := by rw [hsx]; unfold Sx.asn; simp only [List.length_replicate]
      have e3 : (X ++ [sx]).flatMap Sx.hd = X.flatMap Sx.hd ++ [.slice Ac (LS g i).length cc, .slice AT (LS g i).length cT] := by rw [List.flatMap_append, ← e1]; simp
      have e5 : (X ++ [sx]).length = i + 1 := by rw [List.length_append, ← hi]; rfl
      refine s_back ⟨⟨(some ⟨ba, 0, none⟩, ca, X ++ [sx]), by simp only [e5]; omega, hB.snoc (by rw [hsx, ← hi]) (by rw [hsx, hr0]) (by rw [hsx]; exact hD)⟩, by simp only [e5]; omega, ?_, ?_⟩
      · simp only [e5]
        repeat' (first | exact Sub.nil _ | refine Sub.cons rfl ?_ | refine Sub.consE rfl ?_ ?_)
        exact inc (i := i) (by omega)
      · simp only [e5]
        unfold stS
        rw [e3]
        refine Ent.trans ?_ (Ent.cons (ent_stN (s := sx)))
        rw [e2]
        simp only [List.cons_append, List.nil_append]
        repeat' (first | exact Ent.nil _ | refine Ent.tak tk ?_)
  · have hXn : X.length = (lrKs g).length := by have h := of_decide_eq_false h; omega
    have hDI := hB.di hXn
    have hv0 := vp00 hF
    have hm0 : (⟨0, 0⟩ : Itm) ∈ LS g 0 := by obtain ⟨q1, q2⟩ := hv0; unfold LS; rw [List.getD_eq_getElem?_getD, List.getElem?_eq_getElem q1]; exact q2
    have h0X : 0 < X.length := by rw [hXn]; exact hF.p0
    have hbi := bFix_inv (g := g) (gOk hce).bs.nat
    have hTp : 0 < g.Terms.length := hwf.t
    refine s_open .z h0X ?_
    rintro bA rfl
    repeat' (first | ((refine e_op ?_); (refine o_n (peval_sound rfl) rfl ?_)) | refine s_seq ?_ | refine s_region ?_ | refine s_exit ?_ | refine x_hit ?_ | refine x_code ?_ | refine x_back ?_)
    refine e_op (o_n (n_index rfl rfl rfl rfl 0 rfl h0X) rfl ?_)
    refine e_op (o_n (n_load_osl rfl rfl .z (hd_load h0X)) rfl ?_)
    repeat' (((refine e_op ?_); (refine o_n (peval_sound rfl) rfl ?_)))
    refine e_op (o_call (put_w g he X hDI 0 0 h0X ⟨0, 0⟩ hm0 hTp .base) rfl (.cons (.s .z) .nil) Can.tt rfl ?_)
    rintro v V ⟨X1, m1, rfl, rfl, hI1, hG1, hB1⟩
    simp only [List.cons_append, List.nil_append]
    repeat' (first | refine e_nil ?_ | ((refine e_op ?_); (refine o_n (nl rfl rfl tc rfl) rfl ?_)) | refine s_seq ?_ | refine s_region ?_)
    refine e_op (o_call (allR_w _ g hce) rfl .nil (Can.ro hG0) rfl ?_)
    rintro v V ⟨bn, bf, cf, rfl, rfl⟩
    unfold alM
    simp only [List.cons_append, List.nil_append]
    repeat' (((refine e_op ?_); (first | refine o_storeC rfl rfl rfl rfl tc uc rfl rfl rfl ?_ | refine o_alloc rfl rfl (fun _ => ?_))))
    refine e_nil ?_
    rename_i bK
    have hst : stS (some ⟨bA, 0, none⟩) X.length c X = stS (some ⟨bA, 0, none⟩) X.length c X1 := by
      show osl _ _ _ _ _ = osl _ _ _ _ _
      rw [hG1.hd]
    rw [hst]
    refine s_weak (fr' := [(6, .slice (some ⟨bA, 0, none⟩) X.length c), (5, .int .i64 g.Terms.length), (10, ptrN bK), (2, ptrN bG), (3, ptrN bL)]) (V := [stS (some ⟨bA, 0, none⟩) X.length c X1, stB X1, blk bK 120 [.slice (some ⟨bn, 0, none⟩) g.Nons.length g.Nons.length, .slice (some ⟨bf, 0, none⟩) g.Nons.length cf], osl 4 1 (.slice (some ⟨bn, 0, none⟩) g.Nons.length g.Nons.length) g.Nons.length ((bFix g).1.map Value.bool), orow Value.bool 39 4 (.slice (some ⟨bf, 0, none⟩) g.Nons.length cf) g.Nons.length (bFix g).2, blk bL 66 [.slice (some ⟨e1, o1, none⟩) (lrKs g).length a1, .slice A2 (lrGs g).length a2], blk bG 27 [.slice A0 g.Terms.length c0, .slice B1 g.Levels.length c1, .slice B2 g.Pats.length c2, .slice B3 g.Nons.length c3, .slice A4 g.Prods.length c4]]) ?_ ?_ ?_
    · repeat' (first | exact Sub.nil _ | refine Sub.cons rfl ?_)
    · repeat' (first | exact Ent.nil _ | refine Ent.tak tk ?_ | refine Ent.blkC tc rfl ?_)
    have hl1 : X1.length = X.length := hG1.len
    clear hst
    repeat' (first | refine e_nil ?_ | ((refine e_op ?_); (refine o_n (peval_sound rfl) rfl ?_)) | refine s_seq ?_ | refine s_region ?_ | refine s_block ?_)
    refine s_loopK (ι := {z : Bool × List Sx // DI g z.2 ∧ BP g z.2 p00 0 ∧ z.2.length = X.length ∧ (z.1 = false → ∀ i k a, BX z.2 i k a → Shut g z.2 i k a)}) [6, 5, 10, 2, 3] rfl ⟨(true, X1), hI1, hB1, hl1, fun h => Bool.noConfusion h⟩ (fun z => [(11, .bool z.1.1)])
      (fun z => [stS (some ⟨bA, 0, none⟩) X.length c z.1.2, stB z.1.2, blk bK 120 [.slice (some ⟨bn, 0, none⟩) g.Nons.length g.Nons.length, .slice (some ⟨bf, 0, none⟩) g.Nons.length cf], osl 4 1 (.slice (some ⟨bn, 0, none⟩) g.Nons.length g.Nons.length) g.Nons.length ((bFix g).1.map Value.bool), orow Value.bool 39 4 (.slice (some ⟨bf, 0, none⟩) g.Nons.length cf) g.Nons.length (bFix g).2, blk bL 66 [.slice (some ⟨e1, o1, none⟩) (lrKs g).length a1, .slice A2 (lrGs g).length a2], blk bG 27 [.slice A0 g.Terms.length c0, .slice B1 g.Levels.length c1, .slice B2 g.Pats.length c2, .slice B3 g.Nons.length c3, .slice A4 g.Prods.length c4]]) (fun z => 2 * cntX z.1.2 + (if z.1.1 then 1 else 0)) ?_ (Ent.refl _) ?_
    · repeat' (first | exact Sub.nil _ | refine Sub.cons rfl ?_)
    rintro ⟨⟨more, Y⟩, hIY, hBY, hlY, hsh⟩
    simp only at hIY hBY hlY hsh ⊢
    repeat' (first | refine e_nil ?_ | ((refine e_op ?_); (refine o_n (peval_sound rfl) rfl ?_)) | refine s_seq ?_ | refine s_region ?_)
    cases more with
    | false =>
      repeat' (first | refine e_nil ?_ | ((refine e_op ?_); (refine o_n (peval_sound rfl) rfl ?_)) | refine s_seq ?_ | refine s_region ?_ | refine s_exit ?_ | refine s_false rfl ?_ | refine x_hit ?_ | refine x_code ?_ | refine x_back ?_)
      refine s_ret ⟨_, _, res1 rfl rfl, ⟨some ⟨bA, 0, none⟩, c, Y, by rw [hlY], rfl, hIY, hBY, hsh rfl⟩, ?_⟩
      rw [hlY]
      repeat' (first | exact Ent.nil _ | refine Ent.tak tk ?_)
    | true =>
    repeat' (first | refine e_nil ?_ | ((refine e_op ?_); (refine o_n (peval_sound rfl) rfl ?_)) | refine s_seq ?_ | refine s_region ?_ | refine s_block ?_ | refine s_skip ?_ | refine s_true rfl ?_)
    refine s_loopK (ι := {z : Nat × Bool × List Sx // z.1 ≤ X.length ∧ DI g z.2.2 ∧ Gro Y z.2.2 z.2.1 ∧ (z.2.1 = false → ∀ i', i' < z.1 → ∀ k a, BX Y i' k a → Shut g Y i' k a)}) [6, 5, 10, 2, 3] rfl ⟨(0, false, Y), Nat.zero_le _, hIY, Gro.refl Y, fun _ i' h => absurd h (Nat.not_lt_zero _)⟩ (fun z => [(12, .int .i64 z.1.1), (11, .bool z.1.2.1)])
      (fun z => [stS (some ⟨bA, 0, none⟩) X.length c z.1.2.2, stB z.1.2.2, blk bK 120 [.slice (some ⟨bn, 0, none⟩) g.Nons.length g.Nons.length, .slice (some ⟨bf, 0, none⟩) g.Nons.length cf], osl 4 1 (.slice (some ⟨bn, 0, none⟩) g.Nons.length g.Nons.length) g.Nons.length ((bFix g).1.map Value.bool), orow Value.bool 39 4 (.slice (some ⟨bf, 0, none⟩) g.Nons.length cf) g.Nons.length (bFix g).2, blk bL 66 [.slice (some ⟨e1, o1, none⟩) (lrKs g).length a1, .slice A2 (lrGs g).length a2], blk bG 27 [.slice A0 g.Terms.length c0, .slice B1 g.Levels.length c1, .slice B2 g.Pats.length c2, .slice B3 g.Nons.length c3, .slice A4 g.Prods.length c4]]) (fun z => X.length - z.1.1) ?_ (Ent.refl _) ?_
    · repeat' (first | exact Sub.nil _ | refine Sub.cons rfl ?_)
    rintro ⟨⟨i, m, Z⟩, hi, hIZ, hGZ, hz⟩
    simp only at hi hIZ hGZ hz ⊢
    repeat' (first | refine e_nil ?_ | ((refine e_op ?_); (refine o_n (peval_sound rfl) rfl ?_)) | refine s_seq ?_ | refine s_region ?_)
    refine s_cond rfl (fun h => ?_) (fun h => ?_)
    · have hiX : i < X.length := by simpa using h
      repeat' (first | refine e_nil ?_ | ((refine e_op ?_); (refine o_n (peval_sound rfl) rfl ?_)) | refine s_seq ?_ | refine s_region ?_ | refine s_block ?_ | refine s_skip ?_)
      refine s_loopK (ι := {z : Nat × Bool × List Sx // z.1 ≤ (LS g i).length ∧ DI g z.2.2 ∧ Gro Y z.2.2 z.2.1 ∧ (z.2.1 = false → (∀ i', i' < i → ∀ k a, BX Y i' k a → Shut g Y i' k a) ∧ ∀ k', k' < z.1 → ∀ a, BX Y i k' a → Shut g Y i k' a)}) [12, 6, 5, 10, 2, 3] rfl ⟨(0, m, Z), Nat.zero_le _, hIZ, hGZ, fun hm => ⟨hz hm, fun k' h => absurd h (Nat.not_lt_zero _)⟩⟩ (fun z => [(13, .int .i64 z.1.1), (11, .bool z.1.2.1)])
        (fun z => [stS (some ⟨bA, 0, none⟩) X.length c z.1.2.2, stB z.1.2.2, blk bK 120 [.slice (some ⟨bn, 0, none⟩) g.Nons.length g.Nons.length, .slice (some ⟨bf, 0, none⟩) g.Nons.length cf], osl 4 1 (.slice (some ⟨bn, 0, none⟩) g.Nons.length g.Nons.length) g.Nons.length ((bFix g).1.map Value.bool), orow Value.bool 39 4 (.slice (some ⟨bf, 0, none⟩) g.Nons.length cf) g.Nons.length (bFix g).2, blk bL 66 [.slice (some ⟨e1, o1, none⟩) (lrKs g).length a1, .slice A2 (lrGs g).length a2], blk bG 27 [.slice A0 g.Terms.length c0, .slice B1 g.Levels.length c1, .slice B2 g.Pats.length c2, .slice B3 g.Nons.length c3, .slice A4 g.Prods.length c4]]) (fun z => (LS g i).length - z.1.1) ?_ (Ent.refl _) ?_
      · repeat' (first | exact Sub.nil _ | refine Sub.cons rfl ?_)
      rintro ⟨⟨k, m2, Z2⟩, hk, hI2, hG2, hz2⟩
      simp only at hk hI2 hG2 hz2 ⊢
      have hi2 : i < Z2.length := by rw [hG2.len, hlY]; exact hiX
      have hl2 : Z2[i].l = LS g i := hI2.l i hi2
      obtain ⟨hit, hln, hnd⟩ := hI2.items he hi2
      repeat' (first | ((refine e_op ?_); (refine o_n (peval_sound rfl) rfl ?_)) | refine s_seq ?_ | refine s_region ?_)
      refine e_op (o_n (n_index rfl rfl rfl rfl i rfl hiX) rfl ?_)
      repeat' (((refine e_op ?_); (refine o_n (peval_sound rfl) rfl ?_)))
      refine e_op (o_n (n_load_osl rfl rfl (TakA.tak (A := stS (some ⟨bA, 0, none⟩) X.length c Z2)) (hd_loadL hi2)) rfl ?_)
      repeat' (first | refine e_nil ?_ | ((refine e_op ?_); (refine o_n (peval_sound rfl) rfl ?_)))
      refine s_cond rfl (fun h => ?_) (fun h => ?_)
      · have hkl : k < Z2[i].l.length := by simpa using h
        have hkL : k < (LS g i).length := by rw [← hl2]; exact hkl
        have hx : (LS g i)[k]? = some Z2[i].l[k] := by rw [← hl2, List.getElem?_eq_getElem hkl]
        refine s_stA (TakA.tak (A := stB Z2)) hI2.d (fun hA => ?_)
        obtain ⟨bl, hbl⟩ := hA.l i hi2 (by omega)
        obtain ⟨x, hxd⟩ : ∃ x, x = Z2[i].l[k] := ⟨_, rfl⟩
        have hxin : inG g x = true := by rw [hxd]; exact (hit _ (List.getElem_mem hkl)).1
        rw [← hxd] at hx
        have hx64 := inG_dot hL hxin
        repeat' (first | refine s_seq ?_ | refine s_block ?_ | refine s_skip ?_)
        refine s_drawU [9] Tryz.mixed (by decide +kernel) ?_
        repeat' (((first | refine l_n (peval_sound rfl) rfl ?_ rfl ?_ | refine l_n (nl rfl rfl tc rfl) rfl ?_ rfl ?_); · (exact Ent.refl _)))
        refine l_n (n_index rfl rfl rfl rfl i rfl hiX) rfl (Ent.refl _) rfl ?_
        repeat' (((refine l_n (peval_sound rfl) rfl ?_ rfl ?_); · (exact Ent.refl _)))
        refine l_n (n_load_osl rfl rfl (TakA.tak (A := stS (some ⟨bA, 0, none⟩) X.length c Z2)) (hd_loadL hi2)) rfl (Ent.refl _) rfl ?_
        rw [hbl]
        repeat' (((refine l_n (peval_sound rfl) rfl ?_ rfl ?_); · (exact Ent.refl _)))
        refine l_n (n_index rfl rfl rfl rfl k rfl hkl) rfl (Ent.refl _) rfl ?_
        refine l_n (n_stL rfl rfl (TakA.tak (A := stB Z2)) i hi2 hbl (encX_load hkl)) rfl (Ent.refl _) rfl ?_
        rw [← hxd]
        refine l_e rfl (o_call (behR_w _ g x hxin) rfl .nil (Can.ro hG0) rfl ?_)
        rintro v V ⟨rfl, rfl⟩
        refine ⟨Ent.refl _, ?_⟩
        simp only [List.nil_append]
        repeat' (first | refine l_nil ?_ | ((refine l_n (peval_sound rfl) rfl ?_ rfl ?_); · (exact Ent.refl _)))
        repeat' (first | refine e_nil ?_ | ((refine e_op ?_); (refine o_n (peval_sound rfl) rfl ?_)) | refine s_seq ?_ | refine s_region ?_ | refine s_block ?_)
        have hnc : ∀ (a : Nat), beh g x < 0 → Shut g Y i k a := fun a hb y hy q u hc => by
          rw [hx] at hy
          cases hy
          have hik : i < (lrKs g).length := by omega
          have hvp : VP g (lrKs g) ⟨i, x⟩ := ⟨hik, by
            have := List.mem_of_getElem? hx
            unfold LS at this
            rwa [List.getD_eq_getElem?_getD, List.getElem?_eq_getElem hik] at this⟩
          have hd : x.Dot ≠ (prd g x.Prod).Right.length := by
            cases hc with
            | shift hd => exact hd
            | close hd => exact hd
          obtain ⟨s, _, _, _, hs, _⟩ := hvp.next hF hd
          simp only at hs
          omega
        have hnext : ∀ (m3 : Bool) (Z3 : List Sx), Gro Y Z3 m3 → (m3 = false → (∀ i', i' < i → ∀ k a, BX Y i' k a → Shut g Y i' k a) ∧ (∀ k', k' < k → ∀ a, BX Y i k' a → Shut g Y i k' a) ∧ ∀ a, BX Y i k a → Shut g Y i k a) → (m3 = false → (∀ i', i' < i → ∀ k a, BX Y i' k a → Shut g Y i' k a) ∧ ∀ k', k' < k + 1 → ∀ a, BX Y i k' a → Shut g Y i k' a) := fun m3 Z3 _ hs hm => by
          obtain ⟨q1, q2, q3⟩ := hs hm
          refine ⟨q1, fun k' hk' => ?_⟩
          by_cases e : k' = k
          · subst e; exact q3
          · exact q2 k' (by omega)
        refine s_loopK (ι := {z : Nat × Bool × List Sx // z.1 ≤ g.Terms.length ∧ DI g z.2.2 ∧ Gro Y z.2.2 z.2.1 ∧ (z.2.1 = false → (∀ i', i' < i → ∀ k a, BX Y i' k a → Shut g Y i' k a) ∧ (∀ k', k' < k → ∀ a, BX Y i k' a → Shut g Y i k' a) ∧ ∀ a, a < z.1 → BX Y i k a → Shut g Y i k a)}) [14, 13, 12, 6, 5, 10, 2, 3] rfl ⟨(0, m2, Z2), Nat.zero_le _, hI2, hG2, fun hm => ⟨(hz2 hm).1, (hz2 hm).2, fun a h => absurd h (Nat.not_lt_zero _)⟩⟩ (fun z => [(15, .int .i64 z.1.1), (11, .bool z.1.2.1)])
          (fun z => [stS (some ⟨bA, 0, none⟩) X.length c z.1.2.2, stB z.1.2.2, blk bK 120 [.slice (some ⟨bn, 0, none⟩) g.Nons.length g.Nons.length, .slice (some ⟨bf, 0, none⟩) g.Nons.length cf], osl 4 1 (.slice (some ⟨bn, 0, none⟩) g.Nons.length g.Nons.length) g.Nons.length ((bFix g).1.map Value.bool), orow Value.bool 39 4 (.slice (some ⟨bf, 0, none⟩) g.Nons.length cf) g.Nons.length (bFix g).2, blk bL 66 [.slice (some ⟨e1, o1, none⟩) (lrKs g).length a1, .slice A2 (lrGs g).length a2], blk bG 27 [.slice A0 g.Terms.length c0, .slice B1 g.Levels.length c1, .slice B2 g.Pats.length c2, .slice B3 g.Nons.length c3, .slice A4 g.Prods.length c4]]) (fun z => g.Terms.length - z.1.1) ?_ (Ent.refl _) ?_
        · repeat' (first | exact Sub.nil _ | refine Sub.cons rfl ?_)
        rintro ⟨⟨a, m3, Z3⟩, ha, hI3, hG3, hz3⟩
        simp only at ha hI3 hG3 hz3 ⊢
        have hi3 : i < Z3.length := by rw [hG3.len, hlY]; exact hiX
        have hl3 : Z3[i].l = LS g i := hI3.l i hi3
        have hr3 := hI3.r i hi3
        have hd3 := hI3.d i hi3
        have hk3 : k < Z3[i].r.length := by rw [hr3, hl3]; exact hkL
        have hrk := hI3.t i hi3 _ (List.getElem_mem hk3)
        repeat' (first | ((refine e_op ?_); (refine o_n (peval_sound rfl) rfl ?_)) | refine s_seq ?_ | refine s_region ?_)
        by_cases haT : a < g.Terms.length
        · rw [decide_eq_true (p := ((a : Int) < (g.Terms.length : Int))) (by omega)]
          repeat' (first | refine e_nil ?_ | ((first | refine e_op ?_ | refine e_yes rfl ?_); (refine o_n (peval_sound rfl) rfl ?_)))
          refine s_cond rfl (fun h => ?_) (fun h => ?_)
          · have hbeh : 0 ≤ beh g x := by simpa using h
            refine s_stA (TakA.tak (A := stB Z3)) hI3.d (fun hA3 => ?_)
            obtain ⟨bt, hbt⟩ := hA3.t i hi3 (by omega)
            obtain ⟨br, hbr⟩ := hA3.d i hi3 k (by omega) hk3 (by omega)
            repeat' (first | ((refine e_op ?_); (refine o_n (peval_sound rfl) rfl ?_)) | refine s_seq ?_ | refine s_region ?_ | refine s_block ?_ | refine s_skip ?_)
            refine e_op (o_n (n_index rfl rfl rfl rfl i rfl hiX) rfl ?_)
            repeat' (((refine e_op ?_); (refine o_n (peval_sound rfl) rfl ?_)))
            refine e_op (o_n (n_load_osl rfl rfl (TakA.tak (A := stS (some ⟨bA, 0, none⟩) X.length c Z3)) (hd_loadT hi3)) rfl ?_)
            rw [hbt]
            repeat' (((refine e_op ?_); (refine o_n (peval_sound rfl) rfl ?_)))
            refine e_op (o_n (n_index rfl rfl rfl rfl k rfl hk3) rfl ?_)
            refine e_op (o_n (n_stT rfl rfl (TakA.tak (A := stB Z3)) i hi3 hbt (rowC_load hd3 hk3)) rfl ?_)
            rw [hbr]
            repeat' (((refine e_op ?_); (refine o_n (peval_sound rfl) rfl ?_)))
            refine e_op (o_n (n_index rfl rfl rfl rfl a rfl (by rw [hrk]; exact haT)) rfl ?_)
            refine e_op (o_n (n_stB rfl rfl (TakA.tak (A := stB Z3)) i hi3 k hd3 hk3 hbr (loadB (by rw [hrk]; exact haT) (by show 0 + a * 1 = a; omega))) rfl ?_)
            repeat' (refine e_nil ?_)
            have hga : ∀ b, Z3[i].r[k].getD a false = b → (BX Z3 i k a ↔ b = true) := fun b hb => by
              rw [List.getD_eq_getElem?_getD] at hb
              constructor
              · rintro ⟨s, b2, q1, q2, q3⟩
                rw [List.getElem?_eq_getElem hi3] at q1
                cases q1
                rw [List.getElem?_eq_getElem hk3] at q2
                cases q2
                rw [q3] at hb
                exact hb.symm
              · intro e
                subst e
                refine ⟨_, _, List.getElem?_eq_getElem hi3, List.getElem?_eq_getElem hk3, ?_⟩
                have hq : a < Z3[i].r[k].length := by rw [hrk]; exact haT
                rw [List.getElem?_eq_getElem hq] at hb ⊢
                exact congrArg some hb
            refine s_cond rfl (fun h => ?_) (fun h => ?_)
            · have hbx := (hga true h).2 rfl
              repeat' (first | ((refine e_op ?_); (first | refine o_n (peval_sound rfl) rfl ?_ | refine o_n (nl rfl rfl tc rfl) rfl ?_)) | refine s_region ?_)
              refine e_op (o_call (rules_w g he _ _ (some ⟨bA, 0, none⟩) c Z3 (some ⟨bn, 0, none⟩) (some ⟨bf, 0, none⟩) g.Nons.length cf i k a x hI3 hi3 hx hbx hbeh) (by rw [hG3.len, hlY]; rfl) (.cons (by rw [hG3.len, hlY]; exact .z) (.cons .z .nil)) (Can.and (Can.and (Can.and (Can.ro hG0) (Can.ro hR2)) (Can.osl Value.bool rfl kbool_enc (.s .z) (by omega))) (Can.orow Value.bool rfl kbool_enc (.s (.s .z)) (by omega) (fun r hr => by rw [hbi.rows r hr]; omega))) rfl ?_)
              rintro v V ⟨Z4, m4, rfl, rfl, hI4, hG4, hS4⟩
              simp only [List.cons_append, List.nil_append]
              rw [show Z3.length = X.length by rw [hG3.len, hlY]]
              have hst : stS (some ⟨bA, 0, none⟩) X.length c Z3 = stS (some ⟨bA, 0, none⟩) X.length c Z4 := by
                show osl _ _ _ _ _ = osl _ _ _ _ _
                rw [hG4.hd]
              rw [hst]
              have hG5 := hG3.trans hG4
              have hz5 : ((m4 || m3) = false → (∀ i', i' < i → ∀ k a, BX Y i' k a → Shut g Y i' k a) ∧ (∀ k', k' < k → ∀ a, BX Y i k' a → Shut g Y i k' a) ∧ ∀ a', a' < a + 1 → BX Y i k a' → Shut g Y i k a') := fun hm => by
                have e4 := hG5.eq hm
                simp only [Bool.or_eq_false_iff] at hm
                obtain ⟨q1, q2, q3⟩ := hz3 hm.2
                refine ⟨q1, q2, fun a' ha' hb => ?_⟩
                by_cases e : a' = a
                · subst e; rw [← e4]; exact hS4
                · exact q3 a' (by omega) hb
              cases m4 with
              | true =>
                repeat' (first | refine e_nil ?_ | ((refine e_op ?_); (refine o_n (peval_sound rfl) rfl ?_)) | refine e_noU rfl rfl rfl ?_ | refine s_region ?_ | refine s_end ?_)
                refine s_back ⟨⟨(a + 1, true, Z4), by simp only; omega, hI4, hG5, hz5⟩, by simp only; omega, ?_, Ent.refl _⟩
                repeat' (first | exact Sub.nil _ | refine Sub.cons rfl ?_ | refine Sub.consE rfl ?_ ?_)
                exact inc (i := a) (by omega)
              | false =>
                repeat' (first | refine e_nil ?_ | ((first | refine e_op ?_ | refine e_yes rfl ?_); (refine o_n (peval_sound rfl) rfl ?_)) | refine s_region ?_ | refine s_end ?_)
                refine s_back ⟨⟨(a + 1, m3, Z4), by simp only; omega, hI4, by simpa using hG5, by simpa using hz5⟩, by simp only; omega, ?_, Ent.refl _⟩
                repeat' (first | exact Sub.nil _ | refine Sub.cons rfl ?_ | refine Sub.consE rfl ?_ ?_)
                exact inc (i := a) (by omega)
            · have hbx : ¬ BX Z3 i k a := fun hb => by have := (hga false h).1 hb; cases this
              repeat' (first | refine e_nil ?_ | ((refine e_op ?_); (refine o_n (peval_sound rfl) rfl ?_)) | refine s_region ?_ | refine s_end ?_ | refine s_skip ?_)
              refine s_back ⟨⟨(a + 1, m3, Z3), by simp only; omega, hI3, hG3, fun hm => ?_⟩, by simp only; omega, ?_, Ent.refl _⟩
              · obtain ⟨q1, q2, q3⟩ := hz3 hm
                have e3 := hG3.eq hm
                refine ⟨q1, q2, fun a' ha' hb => ?_⟩
                by_cases e : a' = a
                · subst e; rw [← e3] at hb; exact absurd hb hbx
                · exact q3 a' (by simp only at ha'; omega) hb
              · repeat' (first | exact Sub.nil _ | refine Sub.cons rfl ?_ | refine Sub.consE rfl ?_ ?_)
                exact inc (i := a) (by omega)
          · have hbeh : beh g x < 0 := by simpa using h
            repeat' (first | refine e_nil ?_ | ((refine e_op ?_); (refine o_n (peval_sound rfl) rfl ?_)) | refine s_region ?_ | refine s_end ?_ | refine s_exit ?_ | refine x_hit ?_ | refine x_code ?_ | refine x_back ?_)
            refine s_back ⟨⟨(k + 1, m3, Z3), by simp only; omega, hI3, hG3, hnext m3 Z3 hG3 (fun hm => ⟨(hz3 hm).1, (hz3 hm).2.1, fun a' _ => hnc a' hbeh⟩)⟩, by simp only; omega, ?_, Ent.refl _⟩
            repeat' (first | exact Sub.nil _ | refine Sub.cons rfl ?_ | refine Sub.consE rfl ?_ ?_)
            exact inc (i := k) (by omega)
        · rw [decide_eq_false (p := ((a : Int) < (g.Terms.length : Int))) (by omega)]
          repeat' (first | refine e_nil ?_ | ((refine e_op ?_); (refine o_n (peval_sound rfl) rfl ?_)) | refine e_noU rfl rfl rfl ?_ | refine s_region ?_ | refine s_end ?_ | refine s_exit ?_ | refine s_false rfl ?_ | refine x_hit ?_ | refine x_code ?_ | refine x_back ?_)
          refine s_back ⟨⟨(k + 1, m3, Z3), by simp only; omega, hI3, hG3, hnext m3 Z3 hG3 (fun hm => ⟨(hz3 hm).1, (hz3 hm).2.1, fun a' hb => ?_⟩)⟩, by simp only; omega, ?_, Ent.refl _⟩
          · refine (hz3 hm).2.2 a' ?_ hb
            obtain ⟨s, b, q1, q2, q3⟩ := hb
            obtain ⟨hq, rfl⟩ := List.getElem?_eq_some_iff.1 q1
            have q4 := (List.getElem?_eq_some_iff.1 q3).1
            rw [hIY.t i hq b (List.mem_of_getElem? q2)] at q4
            omega
          · repeat' (first | exact Sub.nil _ | refine Sub.cons rfl ?_ | refine Sub.consE rfl ?_ ?_)
            exact inc (i := k) (by omega)
      · have hkl : k = (LS g i).length := by have h := of_decide_eq_false h; rw [hl2] at h; omega
        repeat' (first | refine e_nil ?_ | ((refine e_op ?_); (refine o_n (peval_sound rfl) rfl ?_)) | refine s_region ?_ | refine s_end ?_ | refine s_exit ?_ | refine x_hit ?_ | refine x_code ?_ | refine x_back ?_)
        refine s_back ⟨⟨(i + 1, m2, Z2), by simp only; omega, hI2, hG2, fun hm i' hi' k' a' hb => ?_⟩, by simp only; omega, ?_, Ent.refl _⟩
        · obtain ⟨q1, q2⟩ := hz2 hm
          by_cases e : i' = i
          · subst e
            refine q2 k' ?_ a' hb
            obtain ⟨s, b, p1, p2, p3⟩ := hb
            obtain ⟨hq, rfl⟩ := List.getElem?_eq_some_iff.1 p1
            have p4 := (List.getElem?_eq_some_iff.1 p2).1
            rw [hIY.r i' hq, hIY.l i' hq] at p4
            omega
          · exact q1 i' (by simp only at hi'; omega) k' a' hb
        · repeat' (first | exact Sub.nil _ | refine Sub.cons rfl ?_ | refine Sub.consE rfl ?_ ?_)
          exact inc (i := i) (by omega)
    · have hie : i = X.length := by have h := of_decide_eq_false h; omega
      repeat' (first | refine s_end ?_ | refine s_exit ?_ | refine x_hit ?_ | refine x_code ?_ | refine x_back ?_)
      have hc := hGZ.cnt
      refine s_back ⟨⟨(m, Z), hIZ, hBY.mono hGZ, by rw [hGZ.len]; exact hlY, fun hm i' k' a' hb => ?_⟩, ?_, ?_, Ent.refl _⟩
      · have e := hGZ.eq hm
        subst e
        refine hz hm i' ?_ k' a' hb
        obtain ⟨s, b, p1, _⟩ := hb
        have := (List.getElem?_eq_some_iff.1 p1).1
        simp only at this
        omega
      · simp only
        cases m with
        | true => rw [if_pos rfl] at hc ⊢; rw [if_pos trivial]; omega
        | false => rw [if_neg (by decide)] at hc ⊢; rw [if_pos trivial]; omega
      · repeat' (first | exact Sub.nil _ | refine Sub.cons rfl ?_)

end Go.Proofs.YtcnpjhaedjncdaaGreatDoor

namespace Go.Proofs.YtcnpjhaedjncdaaGreatDoor
set_option linter.all false
open Go.Proofs.YtcnpjhaedjncdaaGreatDoor.E

abbrev k3 : Kd (List (List Bits)) := kslice 24 (kslice 24 (kslice 1 kbool))
abbrev nilS3 : Value := .slice none 0 0
open Classical in
/-- The slice that stands for a row. -/
noncomputable def hV (g : Gram) (X : List Sx) (i p : Nat) : Value :=
  if h : i < X.length ∧ (⟨p, (prd g p).Right.length⟩ : Itm) ∈ LS g i then .slice (X[i].d.getD (ix (LS g i) ⟨p, (prd g p).Right.length⟩) (none, 0)).1 g.Terms.length (X[i].d.getD (ix (LS g i) ⟨p, (prd g p).Right.length⟩) (none, 0)).2 else nilS3
noncomputable def hRow (g : Gram) (X : List Sx) (i : Nat) : List Value := (List.range g.Prods.length).map (hV g X i)
noncomputable def hRows (g : Gram) (X : List Sx) (n : Nat) : List (List Value) := (List.range n).map (hRow g X)
noncomputable def hTo (g : Gram) (X : List Sx) (i m : Nat) : List Value := (List.range m).map (hV g X i) ++ List.replicate (g.Prods.length - m) nilS3
theorem hRow_len (g : Gram) (X : List Sx) (i : Nat) : (hRow g X i).length = g.Prods.length := by unfold hRow; simp
theorem hRows_len (g : Gram) (X : List Sx) (n : Nat) : (hRows g X n).length = n := by unfold hRows; simp
theorem hRows_succ (g : Gram) (X : List Sx) (n : Nat) : hRows g X (n + 1) = hRows g X n ++ [hRow g X n] := by unfold hRows; rw [List.range_succ, List.map_append]; rfl
theorem hTo_zero (g : Gram) (X : List Sx) (i : Nat) : hTo g X i 0 = List.replicate g.Prods.length nilS3 := by unfold hTo; simp
theorem hTo_full (g : Gram) (X : List Sx) (i : Nat) : hTo g X i g.Prods.length = hRow g X i := by unfold hTo hRow; simp
theorem hTo_len {g : Gram} {X : List Sx} {i m : Nat} (h : m ≤ g.Prods.length) : (hTo g X i m).length = g.Prods.length := by unfold hTo; rw [List.length_append, List.length_map, List.length_range, List.length_replicate]; omega
theorem hTo_app {g : Gram} {X : List Sx} {i m : Nat} : hTo g X i (m + 1) = (List.range m).map (hV g X i) ++ hV g X i m :: List.replicate (g.Prods.length - (m + 1)) nilS3 := by
  unfold hTo
  rw [List.range_succ, List.map_append, List.append_assoc]; rfl
theorem hTo_split {g : Gram} {X : List Sx} {i m : Nat} (h : m < g.Prods.length) : hTo g X i m = (List.range m).map (hV g X i) ++ nilS3 :: List.replicate (g.Prods.length - (m + 1)) nilS3 := by
  unfold hTo
  rw [show g.Prods.length - m = (g.Prods.length - (m + 1)) + 1 by omega, List.replicate_succ]
theorem hTo_set {g : Gram} {X : List Sx} {i m : Nat} (h : m < g.Prods.length) : (hTo g X i m).set m (hV g X i m) = hTo g X i (m + 1) := by
  have hl : ((List.range m).map (hV g X i)).length = m := by simp
  rw [hTo_split h, hTo_app, List.set_append_right _ _ (by rw [hl]; exact Nat.le_refl _), hl, Nat.sub_self, List.set_cons_zero]
theorem hTo_same {g : Gram} {X : List Sx} {i m : Nat} (h : m < g.Prods.length) (hv : hV g X i m = nilS3) : hTo g X i (m + 1) = hTo g X i m := by
  rw [hTo_split h, hTo_app, hv]

theorem hV_in {g : Gram} {X : List Sx} {i p n q : Nat} (hi : i < X.length) (en : (prd g p).Right.length = n) (hm : (⟨p, n⟩ : Itm) ∈ LS g i) (hq : ix (LS g i) (⟨p, n⟩ : Itm) = q) (hd : q < X[i].d.length) : hV g X i p = .slice (X[i].d[q]).1 g.Terms.length (X[i].d[q]).2 := by
  subst en; subst hq
  unfold hV
  rw [dif_pos ⟨hi, hm⟩, List.getD_eq_getElem?_getD, List.getElem?_eq_getElem hd]; rfl
theorem hV_out {g : Gram} {X : List Sx} {i p n : Nat} (en : (prd g p).Right.length = n) (hm : (⟨p, n⟩ : Itm) ∉ LS g i) : hV g X i p = nilS3 := by
  subst en
  unfold hV
  rw [dif_neg (fun h => hm h.2)]

theorem rd_la {g : Gram} (he : lrE g = 0) {X : List Sx} (h : DI g X) (h0 : BP g X p00 0) (hs : ∀ i k a, BX X i k a → Shut g X i k a) {AX : Option Addr} {cX : Nat} {acs : AcL} (hl : acs.length = X.length) {w : World} {S : BSet}
    (hw : star [osl 38 1 (.slice AX X.length cX) X.length (rowC acs (hRows g X X.length)), bun (rowX (fun l : List Value => l) 1 39 acs (hRows g X X.length)), stB X] w S) : k3.R w S [.slice AX (laX g).length cX] (laX g) := by
  have hF := goF he
  have hT := hF.lim.t
  have hP := hF.lim.p
  have hK := hF.n
  have hXn := h.n
  obtain ⟨S1, w1, i1⟩ := star_mem (i := 0) rfl hw
  obtain ⟨S2, w2, i2⟩ := star_mem (i := 1) rfl hw
  obtain ⟨S3, w3, i3⟩ := star_mem (i := 2) rfl hw
  have hlX : (laX g).length = X.length := by unfold laX; rw [if_pos he]; simp [hXn]
  have hrl := hRows_len g X X.length
  have hrow : ∀ (i : Nat) (hi : i < (laX g).length), (laX g)[i] = (List.range g.Prods.length).map fun k => laRow g i k := fun i hi => by
    have e : (laX g)[i]? = some ((List.range g.Prods.length).map fun k => laRow g i k) := by
      unfold laX
      rw [if_pos he, List.getElem?_map, List.getElem?_range (by omega)]; rfl
    rw [List.getElem?_eq_getElem hi] at e
    exact Option.some.inj e
  rw [← rowC_flat] at w1
  have hE := osl_elsG (kd := kslice 24 (kslice 1 kbool)) (xs := laX g) (S := S) (ess := List.zipWith (fun (ac : Option Addr × Nat) (r : List Value) => [Value.slice ac.1 r.length ac.2]) acs (hRows g X X.length)) w1 i1 (by simp [hl, hrl, hlX]) hlX.symm (fun i g1 g2 => by
    have hi : i < X.length := by omega
    rw [List.getElem_zipWith, hrow i g2]
    have hhr : (hRows g X X.length)[i]'(by rw [hrl]; exact hi) = hRow g X i := by unfold hRows; simp
    obtain ⟨S4, w4, i4⟩ := star_mem (rowX_get (f := fun l : List Value => l) (sz := 1) (ei := 39) (by rw [hrl]; exact hl) (by rw [hrl]; exact hi)) w2
    rw [hhr] at w4 ⊢
    have w5 : (osl 39 (kslice 1 kbool).sz (.slice (acs[i]'(by omega)).1 (hRow g X i).length (acs[i]'(by omega)).2) (hRow g X i).length ((hRow g X i).map fun v => [v]).flatten).P w S4 := by
      rw [← List.flatMap_def, show (hRow g X i).flatMap (fun v => [v]) = hRow g X i by simp]
      exact w4
    have hE2 := osl_elsG (kd := kslice 1 kbool) (xs := (List.range g.Prods.length).map fun k => laRow g i k) (S := S) w5 (fun b hb => i2 b (i4 b hb)) (by simp [hRow_len]) (by simp [hRow_len]) (fun p g3 g4 => by
      have hp : p < g.Prods.length := by simpa using g4
      have e1 : ((hRow g X i).map fun v => [v])[p] = [hV g X i p] := by unfold hRow; simp
      have e2 : ((List.range g.Prods.length).map fun k => laRow g i k)[p] = laRow g i p := by simp
      rw [e1, e2]
      have hrd := rowD_eq he h h0 hs (p := p) hi
      by_cases hm : (⟨p, (prd g p).Right.length⟩ : Itm) ∈ LS g i
      · unfold rowD at hrd
        unfold hV
        rw [dif_pos ⟨hi, hm⟩] at hrd ⊢
        have hq := ix_lt hm
        generalize ix (LS g i) (⟨p, (prd g p).Right.length⟩ : Itm) = q at hq hrd ⊢
        have hk : q < X[i].r.length := by rw [h.r i hi, h.l i hi]; exact hq
        have hkd : q < X[i].d.length := by rw [h.d i hi]; exact hk
        have ht := h.t i hi _ (List.getElem_mem hk)
        rw [List.getD_eq_getElem?_getD, List.getElem?_eq_getElem hk, Option.getD_some] at hrd
        rw [List.getD_eq_getElem?_getD, List.getElem?_eq_getElem hkd, Option.getD_some, ← hrd]
        obtain ⟨S5, w6, i5⟩ := star_mem (stB_get hi) w3
        obtain ⟨S6, w7, i6⟩ := star_mem (i := 2) rfl w6
        obtain ⟨S7, w8, i7⟩ := star_mem (rowX_get (f := cB) (sz := 1) (ei := 4) (h.d i hi) hk) w7
        have w9 : (osl 4 1 (.slice (X[i].d[q]).1 X[i].r[q].length (X[i].d[q]).2) X[i].r[q].length (X[i].r[q].map Value.bool)).P w S7 := w8
        obtain ⟨q1, _, q2⟩ := osl_els (k := kbool) Value.bool rfl kbool_enc w9
        refine (kslice 1 kbool).mono (S := S7) (fun b hb => i3 b (i5 b (i6 b (i7 b hb)))) ⟨_, _, by rw [ht], q2, by rw [ht]; omega, q1⟩
      · have hnil : laRow g i p = [] := by
          unfold rowD at hrd
          rw [dif_neg (fun hh => hm hh.2)] at hrd
          exact hrd.symm
        unfold hV
        rw [dif_neg (fun hh => hm hh.2), hnil]
        exact ⟨none, 0, rfl, Nat.le_refl _, by simp, fun i hi => absurd hi (Nat.not_lt_zero _)⟩)
    refine ⟨_, _, by rw [hRow_len]; simp, hE2.2, by simp; omega, hE2.1⟩)
  exact ⟨_, _, rfl, hE.2, by omega, hE.1⟩

theorem bun_star {L : List Asn} {w : World} {S : BSet} (h : (bun L).P w S) : star L w S := h

attribute [local irreducible] EVX EVO EVL EV1 NEV
attribute [local irreducible] own osl exA rdA rdL
attribute [local irreducible] bldA mapA bun mapS
set_option maxRecDepth 10000
set_option maxHeartbeats 4000000


theorem of20_w (cs : List Value) (g : Gram) : Trip Tryz.prog 10 [.agg cs.toArray] (kGram.rd cs g) []
    (fun v V => ∃ AX cX W, v = .tuple #[.slice AX (laX g).length cX, .int .i64 (lrE g)] ∧ V = [W] ∧ ∀ w S, W.P w S → k3.R w S [.slice AX (laX g).length cX] (laX g)) := by
  refine trip Tryz.tabOk Tryz.func10 rfl rfl rfl rfl ?_
  rintro w SM hG0
  obtain ⟨A0, A1, A2, A3, A4, c0, c1, c2, c3, c4, rfl, hG⟩ := kGram_open hG0
  repeat' (first | refine e_nil ?_ | ((refine e_op ?_); (first | refine o_n (peval_sound rfl) rfl ?_ | refine o_n (nl rfl rfl tc rfl) rfl ?_ | refine o_box rfl rfl (fun _ => ?_))) | refine s_seq ?_ | refine s_region ?_)
  refine e_op (o_call (ofR19_w _ g) rfl .nil (Can.ro hG0) rfl ?_)
  rintro v V ⟨x, rfl, AK, cK, lcs, AG, cG, bcs, hlk, hlb, rfl, rfl⟩
  simp only [List.cons_append, List.nil_append]
  repeat' (first | refine e_nil ?_ | ((refine e_op ?_); (first | refine o_n (peval_sound rfl) rfl ?_ | refine o_storeC rfl rfl rfl rfl tc uc rfl rfl rfl ?_ | refine o_alloc rfl rfl (fun _ => ?_))) | refine s_seq ?_ | refine s_region ?_)
  by_cases h0 : lrE g ≠ 0
  · rw [show (lrE g != 0) = true by simpa using h0]
    have hX : laX g = [] := by unfold laX; rw [if_neg h0]
    rw [hX]
    repeat' (first | refine e_nil ?_ | ((refine e_op ?_); (refine o_n (peval_sound rfl) rfl ?_)) | refine s_seq ?_ | refine s_region ?_ | refine s_true rfl ?_)
    refine s_ret ⟨_, _, res2 rfl rfl rfl, ⟨none, 0, bun [], rfl, rfl, fun w S _ => ⟨none, 0, rfl, Nat.le_refl _, by simp, fun i hi => absurd hi (Nat.not_lt_zero _)⟩⟩, ?_⟩
    exact (Ent.nil _).trans (ent_bun (L := []))
  replace h0 : lrE g = 0 := Classical.not_not.1 h0
  rw [show (lrE g != 0) = false by simpa using h0]
  have hF := goF h0
  have hN := lr_num g
  have hL := hF.lim
  have hPn := hL.p
  have hT := hL.t
  rename_i bg bl
  refine s_weak (fr' := [(18, .bool false), (4, ptrN bl), (1, ptrN bg)]) (V := [blk bl 66 [.slice AK (lrKs g).length cK, .slice AG (lrGs g).length cG], kerS AK (lrKs g).length cK lcs (lrKs g), kerB lcs (lrKs g), gotS AG (lrGs g).length cG bcs (lrGs g), gotB bcs (lrGs g), blk bg 27 [.slice A0 g.Terms.length c0, .slice A1 g.Levels.length c1, .slice A2 g.Pats.length c2, .slice A3 g.Nons.length c3, .slice A4 g.Prods.length c4]]) ?_ (Ent.refl _) ?_
  · repeat' (first | exact Sub.nil _ | refine Sub.cons rfl ?_)
  repeat' (first | ((refine e_op ?_); (refine o_n (nl rfl rfl tc rfl) rfl ?_)) | refine s_seq ?_ | refine s_region ?_ | refine s_skip ?_ | refine s_false rfl ?_)
  refine e_op (o_call (states_w _ _ g h0) rfl .nil (Can.and (Can.ro hG0) (can_lr hlk hlb hN (Ent.wk (Ent.refl _)))) rfl ?_)
  rintro v V ⟨A, c, X, rfl, rfl, hI, hB0, hSh⟩
  simp only [List.cons_append, List.nil_append]
  have hXn := hI.n
  have hKn := hF.n
  have hlX : (laX g).length = X.length := by unfold laX; rw [if_pos h0]; simp [hXn]
  repeat' (((refine e_op ?_); (refine o_n (peval_sound rfl) rfl ?_)))
  refine e_nil ?_
  refine s_weak (fr' := [(6, .slice A X.length c), (1, ptrN bg)]) (V := [stS A X.length c X, stB X, blk bg 27 [.slice A0 g.Terms.length c0, .slice A1 g.Levels.length c1, .slice A2 g.Pats.length c2, .slice A3 g.Nons.length c3, .slice A4 g.Prods.length c4]]) ?_ ?_ ?_
  · repeat' (first | exact Sub.nil _ | refine Sub.cons rfl ?_)
  · repeat' (first | exact Ent.nil _ | refine Ent.tak tk ?_)
  refine s_open .z (by rw [hXn]; exact hF.p0) ?_
  rintro bA rfl
  refine s_seq ?_
  refine s_region ?_
  repeat' (((refine e_op ?_); (refine o_n (peval_sound rfl) rfl ?_)))
  refine e_nil ?_
  repeat' (first | refine e_nil ?_ | ((refine e_op ?_); (refine o_n (peval_sound rfl) rfl ?_)) | refine s_seq ?_ | refine s_region ?_ | refine s_block ?_)
  refine s_ent (V := osl 38 1 (.slice none 0 0) 0 (rowC [] (hRows g X 0)) :: bun (rowX (fun l : List Value => l) 1 39 [] (hRows g X 0)) :: stS (some ⟨bA, 0, none⟩) X.length c X :: stB X :: [blk bg 27 [.slice A0 g.Terms.length c0, .slice A1 g.Levels.length c1, .slice A2 g.Pats.length c2, .slice A3 g.Nons.length c3, .slice A4 g.Prods.length c4]]) (Ent.trans (ent_bun (L := [])) (Ent.osl0 (Ent.refl _))) ?_
  refine s_loopK (ι := {z : Nat × Option Addr × Nat × AcL // z.1 ≤ X.length ∧ z.2.2.2.length = z.1}) [6, 1] rfl ⟨(0, none, 0, []), Nat.zero_le _, rfl⟩ (fun z => [(8, .int .i64 z.1.1), (7, .slice z.1.2.1 z.1.1 z.1.2.2.1)])
    (fun z => [osl 38 1 (.slice z.1.2.1 z.1.1 z.1.2.2.1) z.1.1 (rowC z.1.2.2.2 (hRows g X z.1.1)), bun (rowX (fun l : List Value => l) 1 39 z.1.2.2.2 (hRows g X z.1.1)), stS (some ⟨bA, 0, none⟩) X.length c X, stB X, blk bg 27 [.slice A0 g.Terms.length c0, .slice A1 g.Levels.length c1, .slice A2 g.Pats.length c2, .slice A3 g.Nons.length c3, .slice A4 g.Prods.length c4]]) (fun z => X.length - z.1.1) ?_ (Ent.refl _) ?_
  · repeat' (first | exact Sub.nil _ | refine Sub.cons rfl ?_)
  rintro ⟨⟨i, AX, cX, acs⟩, hi, hal⟩
  simp only at hi hal ⊢
  repeat' (first | refine e_nil ?_ | ((refine e_op ?_); (refine o_n (peval_sound rfl) rfl ?_)) | refine s_seq ?_ | refine s_region ?_)
  refine s_cond rfl (fun h => ?_) (fun h => ?_)
  · have hiX : i < X.length := by simpa using h
    have hil : X[i].l = LS g i := hI.l i hiX
    obtain ⟨hit, hln, hnd⟩ := hI.items h0 hiX
    repeat' (first | ((refine e_op ?_); (first | refine o_n (peval_sound rfl) rfl ?_ | refine o_n (nl rfl rfl tc rfl) rfl ?_)) | refine s_seq ?_ | refine s_region ?_ | refine s_block ?_ | refine s_skip ?_)
    refine e_op (o_make rfl rfl rfl rfl g.Prods.length rfl rfl (by omega) (by omega) rfl (fun br => ?_))
    repeat' (first | refine e_nil ?_ | ((refine e_op ?_); (refine o_n (peval_sound rfl) rfl ?_)) | refine s_seq ?_ | refine s_region ?_ | refine s_block ?_)
    rw [← hTo_zero g X i]
    refine s_loopK (ι := {p : Nat // p ≤ g.Prods.length}) [8, 7, 6, 1, 9] rfl ⟨0, Nat.zero_le _⟩ (fun p => [(10, .int .i64 p.1)])
      (fun p => [osl 39 1 (.slice (some ⟨br, 0, none⟩) g.Prods.length g.Prods.length) g.Prods.length (hTo g X i p.1), osl 38 1 (.slice AX i cX) i (rowC acs (hRows g X i)), bun (rowX (fun l : List Value => l) 1 39 acs (hRows g X i)), stS (some ⟨bA, 0, none⟩) X.length c X, stB X, blk bg 27 [.slice A0 g.Terms.length c0, .slice A1 g.Levels.length c1, .slice A2 g.Pats.length c2, .slice A3 g.Nons.length c3, .slice A4 g.Prods.length c4]]) (fun p => g.Prods.length - p.1) ?_ (Ent.refl _) ?_
    · repeat' (first | exact Sub.nil _ | refine Sub.cons rfl ?_)
    rintro ⟨p, hp⟩
    simp only at hp ⊢
    repeat' (first | refine e_nil ?_ | ((refine e_op ?_); (first | refine o_n (peval_sound rfl) rfl ?_ | refine o_n (nl rfl rfl tc rfl) rfl ?_)) | refine s_seq ?_ | refine s_region ?_)
    refine s_cond rfl (fun h => ?_) (fun h => ?_)
    · have hpl : p < g.Prods.length := by simpa using h
      obtain ⟨b9, o9, es9, rfl, hb9, he9, hc9⟩ := hG.prods.2.2 p hpl
      obtain ⟨Ar, cr, rfl, hl9, hlN, hlK, hri⟩ := kPrd_open he9
      have epd : prd g (p : Int) = g.Prods[p] := prd_at hpl
      repeat' (first | refine s_seq ?_ | refine s_block ?_ | refine s_skip ?_)
      refine s_drawU [13] Tryz.mixed (by decide +kernel) ?_
      repeat' (((refine l_n (peval_sound rfl) rfl ?_ rfl ?_); · (exact Ent.refl _)))
      refine l_n (n_index rfl rfl rfl rfl i rfl hiX) rfl (Ent.refl _) rfl ?_
      refine l_n (n_load_osl rfl rfl (TakA.tak (A := stS (some ⟨bA, 0, none⟩) X.length c X)) (hd_load hiX)) rfl (Ent.refl _) rfl ?_
      repeat' (((first | refine l_n (peval_sound rfl) rfl ?_ rfl ?_ | refine l_n (nl rfl rfl tc rfl) rfl ?_ rfl ?_); · (exact Ent.refl _)))
      refine l_n (n_index rfl rfl rfl rfl p rfl hpl) rfl (Ent.refl _) rfl ?_
      repeat' (((refine l_n (peval_sound rfl) rfl ?_ rfl ?_); · (exact Ent.refl _)))
      refine l_n (n_load_ro rfl rfl hb9 (loads_one rfl (hc9 1 _ rfl))) rfl (Ent.refl _) rfl ?_
      repeat' (((refine l_n (peval_sound rfl) rfl ?_ rfl ?_); · (exact Ent.refl _)))
      refine l_e rfl (o_call (find_w X[i].lA X[i].lc X[i].l (.slice X[i].tA X[i].r.length X[i].tc) ⟨p, g.Prods[p].Right.length⟩ ⟨_, _, _, rfl⟩) rfl .nil (can_stL (TakA.tak (A := stB X)) i hiX (fun y hy => (hit y hy).2) (by omega)) rfl ?_)
      rintro v V ⟨rfl, rfl⟩
      refine ⟨Ent.refl _, ?_⟩
      simp only [List.nil_append]
      repeat' (first | refine l_nil ?_ | ((refine l_n (peval_sound rfl) rfl ?_ rfl ?_); · (exact Ent.refl _)))
      repeat' (first | refine e_nil ?_ | ((refine e_op ?_); (refine o_n (peval_sound rfl) rfl ?_)) | refine s_seq ?_ | refine s_region ?_)
      by_cases hm : (⟨p, g.Prods[p].Right.length⟩ : Itm) ∈ X[i].l
      · obtain ⟨q, hq⟩ : ∃ q, ix X[i].l ⟨p, g.Prods[p].Right.length⟩ = q := ⟨_, rfl⟩
        have hf : fndI X[i].l ⟨p, g.Prods[p].Right.length⟩ = (q : Int) := by unfold fndI; rw [if_pos hm, hq]
        have hql : q < X[i].l.length := by rw [← hq]; exact ix_lt hm
        have hqr : q < X[i].r.length := by rw [hI.r i hiX]; exact hql
        have hD := hI.d i hiX
        have hqd : q < X[i].d.length := by omega
        have hrt := hI.t i hiX _ (List.getElem_mem hqr)
        rw [hf, decide_eq_true (p := ((q : Int) ≥ 0)) (by omega)]
        refine s_stA (TakA.tak (A := stB X)) hI.d (fun hA => ?_)
        obtain ⟨bt, hbt⟩ := hA.t i hiX (by omega)
        repeat' (first | ((refine e_op ?_); (refine o_n (peval_sound rfl) rfl ?_)) | refine s_region ?_ | refine s_true rfl ?_)
        refine e_op (o_n (n_index rfl rfl rfl rfl i rfl hiX) rfl ?_)
        repeat' (((refine e_op ?_); (refine o_n (peval_sound rfl) rfl ?_)))
        refine e_op (o_n (n_load_osl rfl rfl (TakA.tak (A := stS (some ⟨bA, 0, none⟩) X.length c X)) (hd_loadT hiX)) rfl ?_)
        rw [hbt]
        repeat' (((refine e_op ?_); (refine o_n (peval_sound rfl) rfl ?_)))
        refine e_op (o_n (n_index rfl rfl rfl rfl q rfl hqr) rfl ?_)
        refine e_op (o_n (n_stT rfl rfl (TakA.tak (A := stB X)) i hiX hbt (rowC_load hD hqr)) rfl ?_)
        refine e_op (o_n (n_index rfl rfl rfl rfl p rfl hpl) rfl ?_)
        refine e_op (o_storeO rfl rfl rfl rfl to uc rfl rfl (by rw [hTo_len hp]; show 0 + p * 1 + 1 ≤ _; omega) ?_)
        refine e_nil ?_
        have hset : setMany (hTo g X i p) (0 + p * 1) [.slice (X[i].d[q]'hqd).1 X[i].r[q].length (X[i].d[q]'hqd).2] = hTo g X i (p + 1) := by
          rw [← hTo_set hpl, show 0 + p * 1 = p by omega, hrt]
          simp only [setMany]
          rw [hV_in hiX (by rw [epd]) (by rw [← hil]; exact hm) (by rw [← hil]; exact hq) hqd]
        repeat' (first | refine e_nil ?_ | ((refine e_op ?_); (refine o_n (peval_sound rfl) rfl ?_)) | refine s_region ?_ | refine s_end ?_)
        refine s_back ⟨⟨p + 1, by omega⟩, by simp only; omega, ?_, ?_⟩
        · repeat' (first | exact Sub.nil _ | refine Sub.cons rfl ?_ | refine Sub.consE rfl ?_ ?_)
          exact inc (i := p) (by omega)
        · simp only
          rw [← hset]
          exact Ent.refl _
      · have hf : fndI X[i].l ⟨p, g.Prods[p].Right.length⟩ = -1 := by unfold fndI; rw [if_neg hm]
        rw [hf]
        repeat' (first | refine e_nil ?_ | ((refine e_op ?_); (refine o_n (peval_sound rfl) rfl ?_)) | refine s_region ?_ | refine s_end ?_ | refine s_skip ?_ | refine s_false rfl ?_)
        refine s_back ⟨⟨p + 1, by omega⟩, by simp only; omega, ?_, ?_⟩
        · repeat' (first | exact Sub.nil _ | refine Sub.cons rfl ?_ | refine Sub.consE rfl ?_ ?_)
          exact inc (i := p) (by omega)
        · simp only
          rw [hTo_same hpl (hV_out (by rw [epd]) (by rw [← hil]; exact hm))]
          exact Ent.refl _
    · obtain rfl : p = g.Prods.length := by have h := of_decide_eq_false h; omega
      rw [hTo_full]
      repeat' (first | ((refine e_op ?_); (refine o_n (peval_sound rfl) rfl ?_)) | refine s_region ?_ | refine s_exit ?_ | refine x_hit ?_ | refine x_code ?_ | refine x_back ?_)
      refine e_op (o_lit (ps := [(0, .slice (some ⟨br, 0, none⟩) g.Prods.length g.Prods.length)]) (cs := [.slice (some ⟨br, 0, none⟩) g.Prods.length g.Prods.length]) rfl rfl rfl rfl rfl rfl rfl (fun bl => ?_))
      refine e_op (o_app1 (m := 1) (news := [.slice (some ⟨br, 0, none⟩) g.Prods.length g.Prods.length]) rfl rfl rfl rfl to uv rfl rfl rfl rfl (by omega) (by simp only; omega) rfl (by decide) (fun ba ca => ?_))
      repeat' (first | refine e_nil ?_ | ((refine e_op ?_); (refine o_n (peval_sound rfl) rfl ?_)) | refine s_region ?_ | refine s_end ?_)
      refine s_back ⟨⟨(i + 1, some ⟨ba, 0, none⟩, ca, acs ++ [(some ⟨br, 0, none⟩, g.Prods.length)]), by simp only; omega, by simp [hal]⟩, by simp only; omega, ?_, ?_⟩
      · repeat' (first | exact Sub.nil _ | refine Sub.cons rfl ?_ | refine Sub.consE rfl ?_ ?_)
        exact inc (i := i) (by omega)
      · simp only
        have e1 : osl 39 1 (.slice (some ⟨br, 0, none⟩) g.Prods.length g.Prods.length) g.Prods.length (hRow g X i) = rowA (fun l : List Value => l) 1 39 (some ⟨br, 0, none⟩, g.Prods.length) (hRow g X i) := by unfold rowA; simp only [hRow_len]
        have e2 : rowC (acs ++ [(some ⟨br, 0, none⟩, g.Prods.length)]) (hRows g X i ++ [hRow g X i]) = rowC acs (hRows g X i) ++ [.slice (some ⟨br, 0, none⟩) g.Prods.length g.Prods.length] := by rw [Go.Proofs.YtcnpjhaedjncdaaGreatDoor.E.rowC_snoc (by rw [hRows_len]; exact hal), hRow_len]
        rw [hRows_succ, e2, e1]
        refine Ent.tak tk (Ent.snocB ta ta (by rw [hRows_len]; exact hal) ?_)
        repeat' (first | exact Ent.nil _ | refine Ent.tak tk ?_)
  · obtain rfl : i = X.length := by have h := of_decide_eq_false h; omega
    repeat' (first | refine e_nil ?_ | ((refine e_op ?_); (refine o_n (peval_sound rfl) rfl ?_)) | refine s_seq ?_ | refine s_region ?_ | refine s_exit ?_ | refine x_hit ?_ | refine x_code ?_ | refine x_back ?_)
    refine s_ret ⟨_, _, res2 rfl rfl rfl, ⟨AX, cX, bun [osl 38 1 (.slice AX X.length cX) X.length (rowC acs (hRows g X X.length)), bun (rowX (fun l : List Value => l) 1 39 acs (hRows g X X.length)), stB X], by rw [hlX, h0], rfl, fun w S hw => rd_la h0 hI hB0 hSh hal (bun_star hw)⟩, ?_⟩
    refine Ent.trans ?_ (ent_bun (V := []))
    repeat' (first | exact Ent.nil _ | refine Ent.tak tk ?_)

end Go.Proofs.YtcnpjhaedjncdaaGreatDoor

namespace Go.Proofs.YtcnpjhaedjncdaaGreatDoor
set_option linter.all false
open Go.Proofs.YtcnpjhaedjncdaaGreatDoor.E

attribute [local irreducible] EVX EVO EVL EV1 NEV
attribute [local irreducible] own osl exA rdA rdL
attribute [local irreducible] bldA mapA bun mapS
set_option maxRecDepth 10000
set_option maxHeartbeats 4000000

end Go.Proofs.YtcnpjhaedjncdaaGreatDoor

namespace Go.Proofs.YtcnpjhaedjncdaaGreatDoor
set_option linter.all false
open Go.Proofs.YtcnpjhaedjncdaaGreatDoor.E

def uLe (a b : List Bool) : Prop := ∀ i, a.getD i false = true → b.getD i false = true
theorem okSym_le {t : Nat} {a b : List Bool} (h : uLe a b) {s : Int} (hs : okSym t a s = true) : okSym t b s = true := by
  unfold okSym at hs ⊢
  rw [Bool.or_eq_true] at hs ⊢
  exact hs.imp id (h _)
theorem uStep_le {t : Nat} {a b : List Bool} (h : uLe a b) {p : Prd} (hp : p.Right.all (okSym t b) = true → b.getD p.Left.toNat false = true) : uLe (uStep t a p) b := by
  unfold uStep
  split
  · rename_i ha
    intro i hi
    rcases getD_set_true hi with ⟨rfl, _⟩ | hi
    · exact hp (List.all_eq_true.2 fun s hs => okSym_le h (List.all_eq_true.1 ha s hs))
    · exact h i hi
  · exact h
theorem uRound_le {t : Nat} {b : List Bool} : ∀ (ps : List Prd) (_ : ∀ p ∈ ps, p.Right.all (okSym t b) = true → b.getD p.Left.toNat false = true) (a : List Bool), uLe a b → uLe (uRound t ps a) b
  | [], _, a, h => h
  | p :: ps, hp, a, h => uRound_le ps (fun q hq => hp q (List.mem_cons_of_mem _ hq)) _ (uStep_le h (hp p List.mem_cons_self))
theorem uFix_least {g : Gram} {b : List Bool} (hp : ∀ p ∈ g.Prods, p.Right.all (okSym g.Terms.length b) = true → b.getD p.Left.toNat false = true) : uLe (uFix g) b := by
  unfold uFix
  refine it_inv (I := fun a => uLe a b) (fun a h => uRound_le g.Prods hp a h) ?_ _
  intro i hi
  rw [List.getD_eq_getElem?_getD, List.getElem?_replicate] at hi
  split at hi <;> simp at hi
theorem uRound_fixed {t : Nat} : ∀ (ps : List Prd) (u : List Bool), uRound t ps u = u → ∀ p ∈ ps, uStep t u p = u
  | [], _, _ => fun p hp => nomatch hp
  | q :: ps, u, h => by
    have h1 : uRound t ps (uStep t u q) = u := h
    have h2 : uStep t u q = u := by
      rcases uStep_cnt t u q with e | e
      · exact e
      · rcases uRound_cnt t ps (uStep t u q) with e2 | e2
        · rw [h1] at e2; exact e2.symm
        · rw [h1] at e2; omega
    intro p hp
    rcases List.mem_cons.1 hp with rfl | hp
    · exact h2
    · rw [h2] at h1
      exact uRound_fixed ps u h1 p hp
theorem uFix_len (g : Gram) : (uFix g).length = g.Nons.length := by
  unfold uFix
  exact it_inv (I := fun a : List Bool => a.length = g.Nons.length) (fun a h => by rw [uRound_len]; exact h) (by simp) _
theorem uFix_closed {g : Gram} {p : Prd} (hp : p ∈ g.Prods) (hl : p.Left.toNat < g.Nons.length) (ha : p.Right.all (okSym g.Terms.length (uFix g)) = true) : (uFix g).getD p.Left.toNat false = true := by
  have h1 := uRound_fixed g.Prods _ (uFix_fix g) p hp
  unfold uStep at h1
  rw [if_pos ha] at h1
  rw [← h1, List.getD_eq_getElem?_getD, List.getElem?_set_self (by rw [uFix_len]; exact hl)]; rfl

/-- What a grammar that may be has, and the other one shares. -/
structure Like (g h : Gram) (σ τ : Nat → Nat) : Prop where
  t : h.Terms.length = g.Terms.length
  n : h.Nons.length = g.Nons.length
  p : h.Prods.length = g.Prods.length
  s : ∀ k, k < g.Prods.length → σ k < g.Prods.length ∧ τ (σ k) = k
  ts : ∀ k, k < g.Prods.length → τ k < g.Prods.length ∧ σ (τ k) = k
  s0 : σ 0 = 0
  l : ∀ k : Nat, k < g.Prods.length → (prd h (σ k)).Left = (prd g k).Left ∧ (prd h (σ k)).Right = (prd g k).Right
  ll : h.Levels.length = g.Levels.length
  lb : ∀ x ∈ h.Levels, mayBind x.N x.Kind = true
  pb : ∀ k : Nat, k < g.Prods.length → mayBind (prd h k).L.N (prd h k).L.Kind = true

theorem Like.sim {g h : Gram} {σ τ : Nat → Nat} (H : Like g h σ τ) (hg : checkE g = 0) : Sim g h σ τ := by
  obtain ⟨hlm, hwf⟩ := checkE_ok hg
  have hL := lims hlm
  have hrt : ∀ (k : Nat) (hk : k < h.Prods.length), ∃ (j : Nat) (hj : j < g.Prods.length), h.Prods[k].Left = g.Prods[j].Left ∧ h.Prods[k].Right = g.Prods[j].Right ∧ (j = 0 ↔ k = 0) := fun k hk => by
    have hk2 : k < g.Prods.length := by rw [← H.p]; exact hk
    have h1 := H.l (τ k) (H.ts k hk2).1
    rw [(H.ts k hk2).2, prd_at hk, prd_at (H.ts k hk2).1] at h1
    refine ⟨τ k, (H.ts k hk2).1, h1.1, h1.2, fun e => ?_, fun e => ?_⟩
    · have := (H.ts k hk2).2; rw [e, H.s0] at this; exact this.symm
    · have h0 := (H.s 0 hwf.prods).2
      rw [H.s0] at h0
      rw [e]; exact h0
  have hlim : limitsB h = false := by
    unfold limitsB
    simp only [Bool.or_eq_false_iff, decide_eq_false_iff_not, List.any_eq_false, decide_eq_true_eq]
    have := hL.t; have := hL.n; have := hL.p
    refine ⟨by rw [H.t]; omega, by rw [H.n]; omega, by rw [H.p]; omega, fun p hp => ?_⟩
    obtain ⟨k, hk, rfl⟩ := List.getElem_of_mem hp
    obtain ⟨j, hj, _, e2, _⟩ := hrt k hk
    rw [e2]
    have := hL.r _ (List.getElem_mem hj); omega
  have hw : Wf0 h := by
    refine ⟨by rw [H.t]; exact hwf.t, by rw [H.n]; exact hwf.n, by rw [H.ll, H.t]; exact hwf.lev, by rw [H.p]; exact hwf.prods, H.lb, fun k hk => ?_, ?_⟩
    · obtain ⟨j, hj, e1, e2, e3⟩ := hrt k hk
      have h1 := hwf.prod j hj
      have h2 := H.pb k (by rw [← H.p]; exact hk)
      rw [prd_at hk] at h2
      unfold prodOk at h1 ⊢
      rw [H.t, H.n, e1, e2]
      rw [h2]
      simp only [Bool.and_eq_true] at h1 ⊢
      refine ⟨h1.1, h1.2.1, ?_, trivial, h1.2.2.2.2⟩
      have h3 := h1.2.2.1
      rw [decide_eq_decide.2 e3] at h3
      exact h3
    · have h1 := hwf.start
      have h0 : 0 < h.Prods.length := by rw [H.p]; exact hwf.prods
      have h2 := (H.l 0 hwf.prods).2
      rw [H.s0, prd_at h0, prd_at hwf.prods] at h2
      have hh := hwf.prods
      rw [H.t]
      cases hgp : g.Prods with
      | nil => rw [hgp] at hh; simp at hh
      | cons a ga =>
        cases hhp : h.Prods with
        | nil => rw [hhp] at h0; simp at h0
        | cons b bs =>
          simp only [hgp, hhp, List.getElem_cons_zero] at h2
          rw [hgp] at h1
          unfold startOk at h1 ⊢
          simp only at h1 ⊢
          rw [h2]; exact h1
  have hu : (uFix h).all id = true := by
    have hug : (uFix g).all id = true := by
      unfold checkE at hg
      rw [if_neg (by rw [hlm]; simp)] at hg
      split at hg
      · rename_i hwg
        unfold wf at hwg
        rw [Bool.and_eq_true] at hwg
        exact hwg.2
      · cases hg
    have hle : uLe (uFix g) (uFix h) := uFix_least (fun p hp ha => by
      obtain ⟨k, hk, rfl⟩ := List.getElem_of_mem hp
      have hs : σ k < h.Prods.length := by rw [H.p]; exact (H.s k hk).1
      obtain ⟨e1, e2⟩ := H.l k hk
      rw [prd_at hs, prd_at hk] at e1 e2
      have hlt := prod_ok hw hs
      rw [← e1]
      refine uFix_closed (List.getElem_mem hs) (by omega) ?_
      rw [e2, H.t]; exact ha)
    rw [List.all_eq_true] at hug ⊢
    intro b hb
    obtain ⟨i, hi, rfl⟩ := List.getElem_of_mem hb
    have hi2 : i < (uFix g).length := by rw [uFix_len] at hi ⊢; rw [← H.n]; exact hi
    have h1 := hug _ (List.getElem_mem hi2)
    have h2 := hle i (by rw [List.getD_eq_getElem?_getD, List.getElem?_eq_getElem hi2]; exact h1)
    rw [List.getD_eq_getElem?_getD, List.getElem?_eq_getElem hi] at h2
    exact h2
  refine ⟨hg, ?_, H.t, H.n, H.p, H.s, H.ts, H.s0, H.l⟩
  unfold checkE
  rw [if_neg (by rw [hlim]; simp), if_pos (by unfold wf; rw [(wf0_iff h).2 hw, hu]; rfl)]

end Go.Proofs.YtcnpjhaedjncdaaGreatDoor

namespace Go.Proofs.YtcnpjhaedjncdaaGreatDoor
set_option linter.all false
open Go.Proofs.YtcnpjhaedjncdaaGreatDoor.E

structure Acn where
  k : Int
  n : Int
deriving DecidableEq
abbrev ac0 : Acn := ⟨0, 0⟩

def shN (g : Gram) (s t : Nat) : Int := ((lrGs g).getD s []).getD t (-1)
noncomputable def lab (g : Gram) (s t k : Nat) : Bool := (laRow g s k).getD t false
noncomputable def redsN (g : Gram) (s t m : Nat) : List Nat := (List.range m).filter (lab g s t)
def redA (k : Nat) : Acn := if k = 0 then ⟨3, 0⟩ else ⟨2, k⟩
def shL (g : Gram) (s t : Nat) : List Acn := if 0 ≤ shN g s t then [⟨1, shN g s t⟩] else []
noncomputable def toldN (g : Gram) (s t m : Nat) : List Acn := shL g s t ++ (redsN g s t m).map redA
noncomputable def told (g : Gram) (s t : Nat) : List Acn := toldN g s t g.Prods.length

theorem redsN_succ (g : Gram) (s t m : Nat) : redsN g s t (m + 1) = if lab g s t m then redsN g s t m ++ [m] else redsN g s t m := by
  unfold redsN
  rw [List.range_succ, List.filter_append, List.filter_cons, List.filter_nil]
  split <;> simp
theorem toldN_succ (g : Gram) (s t m : Nat) : toldN g s t (m + 1) = if lab g s t m then toldN g s t m ++ [redA m] else toldN g s t m := by
  unfold toldN
  rw [redsN_succ]
  split <;> simp
theorem redsN_len (g : Gram) (s t m : Nat) : (redsN g s t m).length ≤ m := by
  unfold redsN
  have := List.length_filter_le (lab g s t) (List.range m)
  rwa [List.length_range] at this
theorem toldN_len (g : Gram) (s t m : Nat) : (toldN g s t m).length ≤ m + 1 := by
  unfold toldN shL
  have := redsN_len g s t m
  rw [List.length_append, List.length_map]
  split <;> simp <;> omega

def lvl (g : Gram) (t : Nat) : Lev := g.Levels.getD t ⟨0, 0⟩
/-- Between two levels: the first, the second, neither, or not decided. -/
def bindB (a b : Lev) (x y : Acn) : Acn × Bool :=
  if a.N = 0 ∨ b.N = 0 then (ac0, false) else if a.N > b.N then (x, true) else if a.N < b.N then (y, true) else if a.Kind = 1 then (y, true) else if a.Kind = 2 then (x, true) else (ac0, true)
def decA (g : Gram) (l : List Acn) (t : Nat) : Acn × Bool := match l with
  | [x, y] => if x.k = 1 ∧ y.k = 2 then bindB (lvl g t) (prd g y.n).L x y else (ac0, false)
  | _ => (ac0, false)
def actL (g : Gram) (l : List Acn) (t : Nat) : Acn := if l.length = 1 then l.getD 0 ac0 else if 2 ≤ l.length ∧ (decA g l t).2 = true then (decA g l t).1 else ac0
def claL (g : Gram) (l : List Acn) (t : Nat) : Bool := decide (2 ≤ l.length) && !(decA g l t).2
def decL (g : Gram) (l : List Acn) (t : Nat) : Bool := decide (2 ≤ l.length) && (decA g l t).2

noncomputable def actC (g : Gram) (s t : Nat) : Acn := actL g (told g s t) t
noncomputable def claB (g : Gram) (s t : Nat) : Bool := claL g (told g s t) t
noncomputable def decB (g : Gram) (s t : Nat) : Bool := decL g (told g s t) t

/-- All cells before the state s, and of it those before the term t. -/
def cellsTo (T s t : Nat) : List (Nat × Nat) := ((List.range s).flatMap fun i => (List.range T).map fun j => (i, j)) ++ (List.range t).map fun j => (s, j)
theorem cellsTo_succ (T s t : Nat) : cellsTo T s (t + 1) = cellsTo T s t ++ [(s, t)] := by
  unfold cellsTo; rw [List.range_succ (n := t), List.map_append, List.append_assoc]; rfl
theorem cellsTo_next (T s : Nat) : cellsTo T (s + 1) 0 = cellsTo T s T := by
  unfold cellsTo; rw [List.range_succ (n := s), List.flatMap_append]; simp
theorem cellsTo_len (T s t : Nat) : (cellsTo T s t).length = s * T + t := by
  unfold cellsTo
  rw [List.length_append, List.length_map, List.length_range]
  congr 1
  induction s with
  | zero => simp
  | succ s ih => rw [List.range_succ, List.flatMap_append, List.length_append, ih]; simp [Nat.succ_mul]
noncomputable def claTo (g : Gram) (s t : Nat) : List (Nat × Nat) := (cellsTo g.Terms.length s t).filter fun c => claB g c.1 c.2
noncomputable def decTo (g : Gram) (s t : Nat) : Nat := (cellsTo g.Terms.length s t).countP fun c => decB g c.1 c.2
theorem claTo_succ (g : Gram) (s t : Nat) : claTo g s (t + 1) = if claB g s t then claTo g s t ++ [(s, t)] else claTo g s t := by
  unfold claTo
  rw [cellsTo_succ, List.filter_append, List.filter_cons, List.filter_nil]
  split <;> simp
theorem decTo_succ (g : Gram) (s t : Nat) : decTo g s (t + 1) = decTo g s t + if decB g s t then 1 else 0 := by
  unfold decTo
  rw [cellsTo_succ, List.countP_append, List.countP_cons, List.countP_nil]; simp
theorem claTo_next (g : Gram) (s : Nat) : claTo g (s + 1) 0 = claTo g s g.Terms.length := by unfold claTo; rw [cellsTo_next]
theorem decTo_next (g : Gram) (s : Nat) : decTo g (s + 1) 0 = decTo g s g.Terms.length := by unfold decTo; rw [cellsTo_next]
theorem claTo_le (g : Gram) (s t : Nat) : (claTo g s t).length ≤ s * g.Terms.length + t := by
  have := List.length_filter_le (fun c : Nat × Nat => claB g c.1 c.2) (cellsTo g.Terms.length s t)
  rwa [cellsTo_len] at this
theorem decTo_le (g : Gram) (s t : Nat) : decTo g s t ≤ s * g.Terms.length + t := by
  have := List.countP_le_length (p := fun c : Nat × Nat => decB g c.1 c.2) (l := cellsTo g.Terms.length s t)
  rwa [cellsTo_len] at this

/-- All clashes; how often something was decided. -/
noncomputable def claA (g : Gram) : List (Nat × Nat) := claTo g (lrKs g).length 0
noncomputable def decN (g : Gram) : Nat := decTo g (lrKs g).length 0
noncomputable def actRow (g : Gram) (s : Nat) : List Acn := (List.range g.Terms.length).map (actC g s)
noncomputable def actA (g : Gram) : List (List Acn) := (List.range (lrKs g).length).map (actRow g)
def gotA (g : Gram) : List (List Int) := (lrGs g).map fun r => r.drop g.Terms.length
/-- Which error a grammar's parser has. -/
noncomputable def actE (g : Gram) : Int := if lrE g ≠ 0 then lrE g else if claA g ≠ [] then 210 else 0

/-! ### of two grammars that are alike -/
section sim
variable {g h : Gram} {σ τ : Nat → Nat}
theorem mem_redsN {g : Gram} {s t m k : Nat} : k ∈ redsN g s t m ↔ k < m ∧ lab g s t k = true := by unfold redsN; rw [List.mem_filter, List.mem_range]
end sim

end Go.Proofs.YtcnpjhaedjncdaaGreatDoor

namespace Go.Proofs.YtcnpjhaedjncdaaGreatDoor
set_option linter.all false
open Go.Proofs.YtcnpjhaedjncdaaGreatDoor.E

/-! ### of one cell -/
structure AllS where
  a : Bool
  r : Nat
  b : Nat
/-! ### other levels -/
section lev
variable {f : Lev → Lev} {g : Gram}
end lev

end Go.Proofs.YtcnpjhaedjncdaaGreatDoor

namespace Go.Proofs.YtcnpjhaedjncdaaGreatDoor
set_option linter.all false
open Go.Proofs.YtcnpjhaedjncdaaGreatDoor.E

abbrev encA (a : Acn) : List Value := [.int .i64 a.k, .int .i64 a.n]
abbrev encAs (L : List Acn) : List Value := L.flatMap encA
def addA (L : List Acn) (is : Bool) (a : Acn) : List Acn := if is then L ++ [a] else L

attribute [local irreducible] EVX EVO EVL EV1 NEV
attribute [local irreducible] own osl exA rdA rdL
attribute [local irreducible] bldA mapA bun mapS
set_option maxRecDepth 10000
set_option maxHeartbeats 4000000

theorem told1_w (bo : Nat) (A : Option Addr) (c : Nat) (L : List Acn) (hL : L.length ≤ 1000) (is : Bool) (a : Acn) :
    Trip Tryz.prog 52 [.bool is, .int .i64 a.k, .int .i64 a.n, ptrN bo] Rd.tt [blk bo 54 [.slice A L.length c], osl 53 2 (.slice A L.length c) L.length (encAs L)]
      (fun v V => ∃ A' c', v = .tuple #[] ∧ V = [blk bo 54 [.slice A' (addA L is a).length c'], osl 53 2 (.slice A' (addA L is a).length c') (addA L is a).length (encAs (addA L is a))]) := by
  refine trip Tryz.tabOk Tryz.func52 rfl rfl rfl rfl ?_
  rintro w SM -
  repeat' (first | refine e_nil ?_ | ((refine e_op ?_); (refine o_n (peval_sound rfl) rfl ?_)) | refine s_seq ?_ | refine s_region ?_)
  cases is with
  | false =>
    repeat' (first | refine s_skip ?_ | refine s_false rfl ?_)
    refine s_nil ?_
    exact ⟨_, _, res0 rfl, ⟨A, c, rfl, rfl⟩, Ent.refl _⟩
  | true =>
    have q1 : (addA L true a).length = L.length + 1 := by unfold addA; simp
    have q2 : encAs (addA L true a) = encAs L ++ encA a := by unfold addA encAs; rw [if_pos rfl, List.flatMap_append]; simp
    repeat' (first | ((refine e_op ?_); (first | refine o_n (peval_sound rfl) rfl ?_ | refine o_n (nl rfl rfl tc rfl) rfl ?_)) | refine s_region ?_ | refine s_true rfl ?_)
    refine e_op (o_lit (ps := [(0, .agg (encA a).toArray)]) (cs := encA a) rfl rfl rfl rfl rfl rfl rfl (fun bl => ?_))
    skip
    refine e_op (o_append (v := .slice A L.length c) (n := L.length) (m := 1) (xs := encAs L) (news := encA a) _ rfl rfl rfl rfl (fun w hm q u hu => ?_) rfl ?_ rfl (by omega) (by simp only; omega) (by omega) rfl (fun b c => (.s (.s .z))) (fun ba ca => ?_))
    · obtain ⟨S2, hP, _⟩ := hm.tak .z
      rw [Nat.zero_add]
      exact osl_cells hP q u hu
    · simp [encA, oneB]
    repeat' (first | refine e_nil ?_ | ((refine e_op ?_); (refine o_storeC rfl rfl rfl rfl tc uc rfl rfl rfl ?_)))
    refine s_nil ?_
    refine ⟨_, _, res0 rfl, ⟨some ⟨ba, 0, none⟩, ca, rfl, rfl⟩, ?_⟩
    rw [q1, q2]
    exact Ent.wk (Ent.refl _)

end Go.Proofs.YtcnpjhaedjncdaaGreatDoor

namespace Go.Proofs.YtcnpjhaedjncdaaGreatDoor
set_option linter.all false
open Go.Proofs.YtcnpjhaedjncdaaGreatDoor.E

theorem shN_at {g : Gram} {s t : Nat} (hs : s < (lrGs g).length) (ht : t < (lrGs g)[s].length) : shN g s t = (lrGs g)[s][t] := by
  unfold shN
  rw [List.getD_eq_getElem?_getD, List.getD_eq_getElem?_getD, List.getElem?_eq_getElem hs, Option.getD_some, List.getElem?_eq_getElem ht]; rfl
theorem add_sh (g : Gram) (s t : Nat) : addA [] (decide (0 ≤ shN g s t)) ⟨1, shN g s t⟩ = toldN g s t 0 := by
  unfold addA toldN shL redsN
  by_cases h : 0 ≤ shN g s t
  · rw [decide_eq_true h, if_pos h]; rfl
  · rw [decide_eq_false h, if_neg h]; rfl

attribute [local irreducible] EVX EVO EVL EV1 NEV
attribute [local irreducible] own osl exA rdA rdL
attribute [local irreducible] bldA mapA bun mapS
set_option maxRecDepth 10000
set_option maxHeartbeats 4000000

theorem told_w (bx : Nat) (g0 g1 g2 g3 g4 vK : Value) (AG : Option Addr) (cG : Nat) (bcs : AcL) (bX : Nat) (cX : Nat) (acs : AcL) (D : List AcL) (g : Gram) (h0 : lrE g = 0) (hb : bcs.length = (lrGs g).length) (X : List (List Bits)) (hXn : X.length = (lrKs g).length) (hXP : ∀ (i : Nat) (hi : i < X.length), X[i].length = g.Prods.length) (hXv : ∀ (i k : Nat) (hi : i < X.length) (hk : k < X[i].length), X[i][k] = laRow g i k)
    (hal : acs.length = X.length) (hD : D.length = X.length) (hDr : ∀ (i : Nat) (h1 : i < D.length) (h2 : i < X.length), D[i].length = X[i].length) (s t : Nat) (hs : s < (lrKs g).length) (ht : t < g.Terms.length) :
    Trip Tryz.prog 32 [ptrN bx, .int .i64 s, .int .i64 t] Rd.tt [blk bx 98 [g0, g1, g2, g3, g4, vK, .slice AG (lrGs g).length cG, .slice (some ⟨bX, 0, none⟩) X.length cX], gotS AG (lrGs g).length cG bcs (lrGs g), gotB bcs (lrGs g), osl 38 1 (.slice (some ⟨bX, 0, none⟩) X.length cX) X.length (rowC acs (rowVs D X)), rowO acs D X, bun (innB D X)]
      (fun v V => ∃ A c, v = .slice A (told g s t).length c ∧ V = [osl 53 2 (.slice A (told g s t).length c) (told g s t).length (encAs (told g s t)), blk bx 98 [g0, g1, g2, g3, g4, vK, .slice AG (lrGs g).length cG, .slice (some ⟨bX, 0, none⟩) X.length cX], gotS AG (lrGs g).length cG bcs (lrGs g), gotB bcs (lrGs g), osl 38 1 (.slice (some ⟨bX, 0, none⟩) X.length cX) X.length (rowC acs (rowVs D X)), rowO acs D X, bun (innB D X)]) := by
  refine trip Tryz.tabOk Tryz.func32 rfl rfl rfl rfl ?_
  rintro w SM -
  have hF := goF h0
  have hL := hF.lim
  have hwf := hF.wf
  have hP0 := hwf.prods
  have hPr := hL.p
  have hTl := hL.t
  have hNl := hL.n
  have hsG : s < (lrGs g).length := by rw [hF.gk]; exact hs
  have hrow := hF.row s hsG
  have htG : t < (lrGs g)[s].length := by omega
  have hsX : s < X.length := by rw [hXn]; exact hs
  have hPs := hXP s hsX
  have hXlen : ∀ (k : Nat) (hk : k < X[s].length), X[s][k].length = g.Terms.length ∨ X[s][k] = [] := fun k hk => by
    rw [hXv s k hsX hk]
    exact laRow_len h0 s k
  refine s_open (.s .z) (by omega) ?_
  rintro bG rfl
  refine s_addrs (.s (.s .z)) hb (fun hGA => ?_)
  refine s_addrs (.s (.s (.s (.s .z)))) (by rw [rowVs_len hD]; exact hal) (fun hXA => ?_)
  refine s_innA (.s (.s (.s (.s (.s .z))))) hD hDr (fun hXI => ?_)
  obtain ⟨bgr, hbgr⟩ := hGA s (by rw [hb]; exact hsG) hsG (by omega)
  obtain ⟨bxr, hxr⟩ := x_addr hal hD hDr hXA hsX (by omega)
  have hldg := rowC_load hb hsG (e := 3) (bytes := 24) (z := [.slice none 0 0])
  rw [hbgr] at hldg
  have hvn : loadL ⟨.int .i64, 1, 8, [.int .i64 0]⟩ ((fun l : List Int => l.map (Value.int .i64)) (lrGs g)[s]) (0 + t * 1) = some (.int .i64 (shN g s t)) := by
    refine load_cell rfl ?_
    rw [Nat.zero_add, Nat.mul_one, List.getElem?_map, List.getElem?_eq_getElem htG, shN_at hsG htG]; rfl
  repeat' (first | refine e_nil ?_ | ((refine e_op ?_); (first | refine o_n (peval_sound rfl) rfl ?_ | refine o_n (nl rfl rfl tc rfl) rfl ?_ | refine o_alloc rfl rfl (fun _ => ?_))) | refine s_seq ?_ | refine s_region ?_)
  rename_i bo
  refine e_op (o_n (n_index rfl rfl rfl rfl s rfl hsG) rfl ?_)
  refine e_op (o_n (n_load_osl rfl rfl (.s (.s .z)) hldg) rfl ?_)
  repeat' (((refine e_op ?_); (refine o_n (peval_sound rfl) rfl ?_)))
  refine e_op (o_n (n_index rfl rfl rfl rfl t rfl htG) rfl ?_)
  refine e_op (o_n (n_load_row rfl rfl (.s (.s (.s .z))) hb s hsG hbgr hvn) rfl ?_)
  repeat' (first | refine e_nil ?_ | ((refine e_op ?_); (refine o_n (peval_sound rfl) rfl ?_)) | refine s_seq ?_ | refine s_region ?_)
  refine e_ent (Ent.osl0 (e := 53) (sz := 2) (Ent.refl _)) ?_
  refine e_op (o_callv (l := []) (m := [ptrN bo]) rfl (told1_w bo none 0 [] (by simp) (decide (0 ≤ shN g s t)) ⟨1, shN g s t⟩) rfl (.cons (.s .z) (.cons .z .nil)) Can.tt rfl ?_)
  rintro v V ⟨A1, c1, rfl, rfl⟩
  simp only [List.cons_append, List.nil_append]
  rw [add_sh]
  repeat' (first | refine e_nil ?_ | ((refine e_op ?_); (first | refine o_n (peval_sound rfl) rfl ?_ | refine o_n (nl rfl rfl tc rfl) rfl ?_)) | refine s_seq ?_ | refine s_region ?_)
  refine e_op (o_n (n_index rfl rfl rfl rfl s rfl hsX) rfl ?_)
  refine e_op (o_n (n_load_osl rfl rfl (.s (.s (.s (.s (.s .z))))) (x_load hal hD hDr hsX hPs hxr)) rfl ?_)
  repeat' (first | refine e_nil ?_ | ((refine e_op ?_); (refine o_n (peval_sound rfl) rfl ?_)) | refine s_block ?_)
  refine s_loopK (ι := {x : Nat × Option Addr × Nat // x.1 ≤ g.Prods.length}) [2, 7, 8, 36, 37] rfl ⟨(0, A1, c1), by simp⟩ (fun x => [(38, .int .i64 x.1.1)])
    (fun x => [blk bo 54 [.slice x.1.2.1 (toldN g s t x.1.1).length x.1.2.2], osl 53 2 (.slice x.1.2.1 (toldN g s t x.1.1).length x.1.2.2) (toldN g s t x.1.1).length (encAs (toldN g s t x.1.1)), blk bx 98 [g0, g1, g2, g3, g4, vK, .slice (some ⟨bG, 0, none⟩) (lrGs g).length cG, .slice (some ⟨bX, 0, none⟩) X.length cX], gotS (some ⟨bG, 0, none⟩) (lrGs g).length cG bcs (lrGs g), gotB bcs (lrGs g), osl 38 1 (.slice (some ⟨bX, 0, none⟩) X.length cX) X.length (rowC acs (rowVs D X)), rowO acs D X, bun (innB D X)]) (fun x => g.Prods.length - x.1.1) ?_ (Ent.refl _) ?_
  · repeat' (first | exact Sub.nil _ | refine Sub.cons rfl ?_)
  rintro ⟨⟨k, A, c⟩, hk⟩
  simp only at hk ⊢
  repeat' (first | refine e_nil ?_ | ((refine e_op ?_); (refine o_n (peval_sound rfl) rfl ?_)) | refine s_seq ?_ | refine s_region ?_)
  by_cases hkl : k < g.Prods.length
  · rw [decide_eq_true (p := (k : Int) < (g.Prods.length : Int)) (by omega)]
    have hkX : k < X[s].length := by omega
    have hle := toldN_len g s t k
    have hlb : lab g s t k = X[s][k].getD t false := by unfold lab; rw [hXv s k hsX hkX]
    repeat' (first | ((refine e_op ?_); (refine o_n (peval_sound rfl) rfl ?_)) | refine s_seq ?_ | refine s_region ?_ | refine s_block ?_ | refine s_skip ?_ | refine s_true rfl ?_)
    refine e_op (o_n (n_index rfl rfl rfl rfl k rfl hkl) rfl ?_)
    refine e_op (o_n (n_xcell rfl rfl (.s (.s (.s (.s (.s (.s .z)))))) hal hD hDr hsX hxr hkX rfl rfl) rfl ?_)
    repeat' (first | refine e_nil ?_ | ((refine e_op ?_); (refine o_n (peval_sound rfl) rfl ?_)) | refine s_seq ?_ | refine s_region ?_)
    by_cases hlX : X[s][k].length = 0
    · have hlb2 : lab g s t k = false := by rw [hlb, List.eq_nil_of_length_eq_zero hlX]; rfl
      rw [decide_eq_false (p := (X[s][k].length : Int) > 0) (by omega)]
      have he : addA (addA (toldN g s t k) false ⟨3, 0⟩) false ⟨2, (k : Int)⟩ = toldN g s t (k + 1) := by
        rw [toldN_succ, hlb2]
        rfl
      repeat' (first | refine e_nil ?_ | ((refine e_op ?_); (refine o_n (peval_sound rfl) rfl ?_)) | refine e_noU rfl rfl rfl ?_ | refine s_seq ?_ | refine s_region ?_)
      refine e_op (o_callv (l := []) (m := [ptrN bo]) rfl (told1_w bo A c (toldN g s t k) (by omega) false ⟨3, 0⟩) rfl (.cons .z (.cons .z .nil)) Can.tt rfl ?_)
      rintro v V ⟨A3, c3, rfl, rfl⟩
      simp only [List.cons_append, List.nil_append]
      repeat' (first | refine e_nil ?_ | ((refine e_op ?_); (refine o_n (peval_sound rfl) rfl ?_)) | refine e_noU rfl rfl rfl ?_ | refine s_region ?_)
      refine e_op (o_callv (l := []) (m := [ptrN bo]) rfl (told1_w bo A3 c3 (addA (toldN g s t k) false ⟨3, 0⟩) (by unfold addA; simp; omega) false ⟨2, (k : Int)⟩) rfl (.cons .z (.cons .z .nil)) Can.tt rfl ?_)
      rintro v V ⟨A4, c4, rfl, rfl⟩
      simp only [List.cons_append, List.nil_append]
      rw [he]
      repeat' (first | refine e_nil ?_ | ((refine e_op ?_); (refine o_n (peval_sound rfl) rfl ?_)) | refine s_region ?_ | refine s_end ?_)
      refine s_back ⟨⟨(k + 1, A4, c4), by simp only; omega⟩, by simp only; omega, ?_, Ent.refl _⟩
      repeat' (first | exact Sub.nil _ | refine Sub.cons rfl ?_ | refine Sub.consE rfl ?_ ?_)
      exact inc (i := k) (by omega)
    · have hlT : t < X[s][k].length := by rcases hXlen k hkX with h | h; omega; rw [h] at hlX; exact absurd rfl hlX
      obtain ⟨bxi, hbxi⟩ := hXI s (by omega) hsX k (by have := hDr s (by omega) hsX; omega) hkX (by omega)
      have hvx := loadB (r := X[s][k]) (j := t) (o := 0 + t * 1) hlT (by omega) (bytes := 1) (z := [.bool false])
      rw [← hlb] at hvx
      rw [decide_eq_true (p := (X[s][k].length : Int) > 0) (by omega), hbxi]
      repeat' (((refine e_yes rfl ?_); (refine o_n (peval_sound rfl) rfl ?_)))
      refine e_yes rfl (o_n (n_index rfl rfl rfl rfl t rfl hlT) rfl ?_)
      refine e_yes rfl (o_n (n_load_inn rfl rfl (.s (.s (.s (.s (.s (.s (.s .z))))))) hD s hsX (hDr s (by omega) hsX) k hkX hbxi hvx) rfl ?_)
      cases hlb2 : lab g s t k with
      | false =>
        have he : addA (addA (toldN g s t k) false ⟨3, 0⟩) false ⟨2, (k : Int)⟩ = toldN g s t (k + 1) := by
          rw [toldN_succ, hlb2]
          rfl
        repeat' (first | refine e_nil ?_ | ((refine e_op ?_); (refine o_n (peval_sound rfl) rfl ?_)) | refine e_noU rfl rfl rfl ?_ | refine s_seq ?_ | refine s_region ?_)
        refine e_op (o_callv (l := []) (m := [ptrN bo]) rfl (told1_w bo A c (toldN g s t k) (by omega) false ⟨3, 0⟩) rfl (.cons .z (.cons .z .nil)) Can.tt rfl ?_)
        rintro v V ⟨A3, c3, rfl, rfl⟩
        simp only [List.cons_append, List.nil_append]
        repeat' (first | refine e_nil ?_ | ((refine e_op ?_); (refine o_n (peval_sound rfl) rfl ?_)) | refine e_noU rfl rfl rfl ?_ | refine s_region ?_)
        refine e_op (o_callv (l := []) (m := [ptrN bo]) rfl (told1_w bo A3 c3 (addA (toldN g s t k) false ⟨3, 0⟩) (by unfold addA; simp; omega) false ⟨2, (k : Int)⟩) rfl (.cons .z (.cons .z .nil)) Can.tt rfl ?_)
        rintro v V ⟨A4, c4, rfl, rfl⟩
        simp only [List.cons_append, List.nil_append]
        rw [he]
        repeat' (first | refine e_nil ?_ | ((refine e_op ?_); (refine o_n (peval_sound rfl) rfl ?_)) | refine s_region ?_ | refine s_end ?_)
        refine s_back ⟨⟨(k + 1, A4, c4), by simp only; omega⟩, by simp only; omega, ?_, Ent.refl _⟩
        repeat' (first | exact Sub.nil _ | refine Sub.cons rfl ?_ | refine Sub.consE rfl ?_ ?_)
        exact inc (i := k) (by omega)
      | true =>
        by_cases hk0 : k = 0
        · have he : addA (addA (toldN g s t k) true ⟨3, 0⟩) false ⟨2, (k : Int)⟩ = toldN g s t (k + 1) := by
            rw [toldN_succ, hlb2]
            unfold addA redA; rw [if_pos rfl, if_pos rfl, if_pos hk0]; rfl
          repeat' (first | refine e_nil ?_ | ((first | refine e_op ?_ | refine e_yes rfl ?_); (refine o_n (peval_sound rfl) rfl ?_)) | refine s_seq ?_ | refine s_region ?_)
          rw [show ((k : Int) == 0) = true by rw [beq_iff_eq]; omega]
          skip
          refine e_op (o_callv (l := []) (m := [ptrN bo]) rfl (told1_w bo A c (toldN g s t k) (by omega) true ⟨3, 0⟩) rfl (.cons .z (.cons .z .nil)) Can.tt rfl ?_)
          rintro v V ⟨A3, c3, rfl, rfl⟩
          simp only [List.cons_append, List.nil_append]
          repeat' (first | refine e_nil ?_ | ((first | refine e_op ?_ | refine e_yes rfl ?_); (refine o_n (peval_sound rfl) rfl ?_)) | refine s_region ?_)
          rw [show decide ((k : Int) > 0) = false from decide_eq_false (by omega)]
          skip
          refine e_op (o_callv (l := []) (m := [ptrN bo]) rfl (told1_w bo A3 c3 (addA (toldN g s t k) true ⟨3, 0⟩) (by unfold addA; simp; omega) false ⟨2, (k : Int)⟩) rfl (.cons .z (.cons .z .nil)) Can.tt rfl ?_)
          rintro v V ⟨A4, c4, rfl, rfl⟩
          simp only [List.cons_append, List.nil_append]
          rw [he]
          repeat' (first | refine e_nil ?_ | ((refine e_op ?_); (refine o_n (peval_sound rfl) rfl ?_)) | refine s_region ?_ | refine s_end ?_)
          refine s_back ⟨⟨(k + 1, A4, c4), by simp only; omega⟩, by simp only; omega, ?_, Ent.refl _⟩
          repeat' (first | exact Sub.nil _ | refine Sub.cons rfl ?_ | refine Sub.consE rfl ?_ ?_)
          exact inc (i := k) (by omega)
        · have he : addA (addA (toldN g s t k) false ⟨3, 0⟩) true ⟨2, (k : Int)⟩ = toldN g s t (k + 1) := by
            rw [toldN_succ, hlb2]
            unfold addA redA; rw [if_pos rfl, if_pos rfl, if_neg hk0]; rfl
          repeat' (first | refine e_nil ?_ | ((first | refine e_op ?_ | refine e_yes rfl ?_); (refine o_n (peval_sound rfl) rfl ?_)) | refine s_seq ?_ | refine s_region ?_)
          rw [show ((k : Int) == 0) = false by rw [beq_eq_false_iff_ne]; omega]
          skip
          refine e_op (o_callv (l := []) (m := [ptrN bo]) rfl (told1_w bo A c (toldN g s t k) (by omega) false ⟨3, 0⟩) rfl (.cons .z (.cons .z .nil)) Can.tt rfl ?_)
          rintro v V ⟨A3, c3, rfl, rfl⟩
          simp only [List.cons_append, List.nil_append]
          repeat' (first | refine e_nil ?_ | ((first | refine e_op ?_ | refine e_yes rfl ?_); (refine o_n (peval_sound rfl) rfl ?_)) | refine s_region ?_)
          rw [show decide ((k : Int) > 0) = true from decide_eq_true (by omega)]
          skip
          refine e_op (o_callv (l := []) (m := [ptrN bo]) rfl (told1_w bo A3 c3 (addA (toldN g s t k) false ⟨3, 0⟩) (by unfold addA; simp; omega) true ⟨2, (k : Int)⟩) rfl (.cons .z (.cons .z .nil)) Can.tt rfl ?_)
          rintro v V ⟨A4, c4, rfl, rfl⟩
          simp only [List.cons_append, List.nil_append]
          rw [he]
          repeat' (first | refine e_nil ?_ | ((refine e_op ?_); (refine o_n (peval_sound rfl) rfl ?_)) | refine s_region ?_ | refine s_end ?_)
          refine s_back ⟨⟨(k + 1, A4, c4), by simp only; omega⟩, by simp only; omega, ?_, Ent.refl _⟩
          repeat' (first | exact Sub.nil _ | refine Sub.cons rfl ?_ | refine Sub.consE rfl ?_ ?_)
          exact inc (i := k) (by omega)
  rw [decide_eq_false (p := (k : Int) < (g.Prods.length : Int)) (by omega)]
  obtain rfl : k = g.Prods.length := by omega
  repeat' (first | refine e_nil ?_ | ((refine e_op ?_); (first | refine o_n (peval_sound rfl) rfl ?_ | refine o_n (nl rfl rfl tc rfl) rfl ?_)) | refine s_seq ?_ | refine s_region ?_ | refine s_exit ?_ | refine s_false rfl ?_ | refine x_hit ?_ | refine x_code ?_ | refine x_back ?_)
  refine s_ret ⟨_, _, res1 rfl rfl, ⟨A, c, rfl, rfl⟩, Ent.wk (Ent.refl _)⟩

end Go.Proofs.YtcnpjhaedjncdaaGreatDoor

namespace Go.Proofs.YtcnpjhaedjncdaaGreatDoor
set_option linter.all false
open Go.Proofs.YtcnpjhaedjncdaaGreatDoor.E

theorem encAs_len (L : List Acn) : (encAs L).length = L.length * 2 := by
  unfold encAs; induction L with
  | nil => rfl
  | cons x L ih => rw [List.flatMap_cons, List.length_append, ih]; simp only [List.length_cons, List.length_nil]; omega
theorem encAs_drop : ∀ {l : List Acn} {i : Nat} (h : i < l.length), ((encAs l).drop (i * 2)).take 2 = encA l[i]
  | x :: l, 0, _ => by simp [encAs]
  | x :: l, i + 1, h => by
    have h2 : i < l.length := by simpa using h
    rw [List.getElem_cons_succ, ← encAs_drop h2, show (i + 1) * 2 = 2 + i * 2 by omega, ← List.drop_drop]
    rfl
theorem encAs_load {l : List Acn} {i : Nat} (h : i < l.length) {z : List Value} {fs : List (Nat × Nat)} : loadL ⟨.struct fs, 2, 16, z⟩ (encAs l) (0 + i * 2) = some (.agg (encA l[i]).toArray) := by
  unfold loadL
  simp only [aggB, cond_true]
  have : Nat.ble (0 + i * 2 + 2) (encAs l).length = true := by rw [encAs_len]; exact Nat.ble_eq_true_of_le (by omega)
  rw [this, cond_true, Nat.zero_add, encAs_drop h]
theorem encAs_cell {l : List Acn} {i k : Nat} (h : i < l.length) (hk : k < 2) : (encAs l)[i * 2 + k]? = (encA l[i])[k]? := by
  rw [← encAs_drop h, List.getElem?_take, if_pos hk, List.getElem?_drop]
theorem encAs_k {l : List Acn} {i o : Nat} (h : i < l.length) (ho : o = i * 2) {s b : Nat} {z : List Value} : loadL ⟨.int .i64, s, b, z⟩ (encAs l) o = some (.int .i64 l[i].k) := by
  subst ho; exact load_cell rfl (by have := encAs_cell h (k := 0) (by omega); rw [Nat.add_zero] at this; rw [this]; rfl)
theorem encAs_n {l : List Acn} {i o : Nat} (h : i < l.length) (ho : o = i * 2 + 1) {s b : Nat} {z : List Value} : loadL ⟨.int .i64, s, b, z⟩ (encAs l) o = some (.int .i64 l[i].n) := by
  subst ho; exact load_cell rfl (by rw [encAs_cell h (k := 1) (by omega)]; rfl)

theorem decA_ne {g : Gram} {L : List Acn} {t : Nat} (h : L.length ≠ 2) : decA g L t = (ac0, false) := by
  match L with
  | [] => rfl
  | [_] => rfl
  | [x, y] => exact absurd rfl h
  | _ :: _ :: _ :: _ => rfl

attribute [local irreducible] EVX EVO EVL EV1 NEV
attribute [local irreducible] own osl exA rdA rdL
attribute [local irreducible] bldA mapA bun mapS
set_option maxRecDepth 10000
set_option maxHeartbeats 4000000

theorem decide_w (bx : Nat) (A0 A1 A2 A3 A4 : Option Addr) (c0 c1 c2 c3 c4 : Nat) (v5 v6 v7 : Value) (g : Gram) (hl : g.Levels.length = g.Terms.length) (A : Option Addr) (c : Nat) (L : List Acn) (hLn : ∀ y ∈ L, y.k = 2 → ∃ k : Nat, k < g.Prods.length ∧ y.n = (k : Int)) (t : Nat) (ht : t < g.Terms.length) :
    Trip Tryz.prog 33 [ptrN bx, .slice A L.length c, .int .i64 t] (kGram.rd [.slice A0 g.Terms.length c0, .slice A1 g.Levels.length c1, .slice A2 g.Pats.length c2, .slice A3 g.Nons.length c3, .slice A4 g.Prods.length c4] g) [blk bx 98 [.slice A0 g.Terms.length c0, .slice A1 g.Levels.length c1, .slice A2 g.Pats.length c2, .slice A3 g.Nons.length c3, .slice A4 g.Prods.length c4, v5, v6, v7], osl 53 2 (.slice A L.length c) L.length (encAs L)]
      (fun v V => v = .tuple #[.agg (encA (decA g L t).1).toArray, .bool (decA g L t).2] ∧ V = [blk bx 98 [.slice A0 g.Terms.length c0, .slice A1 g.Levels.length c1, .slice A2 g.Pats.length c2, .slice A3 g.Nons.length c3, .slice A4 g.Prods.length c4, v5, v6, v7], osl 53 2 (.slice A L.length c) L.length (encAs L)]) := by
  refine trip Tryz.tabOk Tryz.func33 rfl rfl rfl rfl ?_
  rintro w SM hG0
  obtain ⟨_, _, _, _, _, _, _, _, _, _, ee, hG⟩ := kGram_open hG0
  cases ee
  by_cases h2 : L.length = 2
  · obtain ⟨x, y, rfl⟩ : ∃ x y, L = [x, y] := by
      match L, h2 with
      | [x, y], _ => exact ⟨x, y, rfl⟩
    refine s_open (.s .z) (by simp) ?_
    rintro bL rfl
    refine s_cap (.s .z) (fun hc2 => ?_)
    have hc2 : ¬ c = 1 := by simp only [List.length_cons, List.length_nil] at hc2; omega
    have hld0 : loadL ⟨.int .i64, 1, 8, [.int .i64 0]⟩ (encAs [x, y]) 0 = some (.int .i64 x.k) := encAs_k (l := [x, y]) (i := 0) (o := 0) (by simp) rfl (s := 1) (b := 8) (z := [.int .i64 0])
    have hld1 : loadL ⟨.int .i64, 1, 8, [.int .i64 0]⟩ (encAs [x, y]) 2 = some (.int .i64 y.k) := encAs_k (l := [x, y]) (i := 1) (o := 2) (by simp) rfl (s := 1) (b := 8) (z := [.int .i64 0])
    have hn1 : loadL ⟨.int .i64, 1, 8, [.int .i64 0]⟩ (encAs [x, y]) 3 = some (.int .i64 y.n) := encAs_n (l := [x, y]) (i := 1) (o := 3) (by simp) rfl (s := 1) (b := 8) (z := [.int .i64 0])
    repeat' (first | refine e_nil ?_ | ((first | refine e_op ?_ | refine e_yes rfl ?_); (first | refine o_n (peval_sound rfl) rfl ?_ | refine o_alloc rfl rfl (fun _ => ?_))) | refine s_seq ?_ | refine s_region ?_)
    rename_i b6
    rw [show ((([x, y] : List Acn).length : Int) != 2) = false from rfl]
    skip
    refine e_yes rfl (o_n (n_index rfl rfl rfl rfl 0 rfl (by simp)) rfl ?_)
    repeat' (((refine e_yes rfl ?_); (refine o_n (peval_sound rfl) rfl ?_)))
    refine e_yes rfl (o_n (n_load_osl rfl rfl (.s (.s .z)) hld0) rfl ?_)
    repeat' (((first | refine e_op ?_ | refine e_yes rfl ?_); (refine o_n (peval_sound rfl) rfl ?_)))
    by_cases hx : x.k = 1
    · rw [show (x.k != 1) = false by simpa using hx]
      repeat' (((refine e_yes rfl ?_); (refine o_n (peval_sound rfl) rfl ?_)))
      refine e_yes rfl (o_n (n_index rfl rfl rfl rfl 1 rfl (by simp)) rfl ?_)
      repeat' (((refine e_yes rfl ?_); (refine o_n (peval_sound rfl) rfl ?_)))
      refine e_yes rfl (o_n (n_load_osl rfl rfl (.s (.s .z)) hld1) rfl ?_)
      repeat' (first | refine e_nil ?_ | ((first | refine e_op ?_ | refine e_yes rfl ?_); (refine o_n (peval_sound rfl) rfl ?_)))
      by_cases hy : y.k = 2
      · rw [show (y.k != 2) = false by simpa using hy]
        obtain ⟨k, hk, hyn⟩ := hLn y (by simp) hy
        rw [hyn] at hn1
        have hdec : decA g [x, y] t = bindB (lvl g t) (prd g k).L x y := by
          show (if _ then bindB (lvl g t) (prd g y.n).L x y else _) = _
          rw [if_pos ⟨hx, hy⟩, hyn]
        have htl : t < g.Levels.length := by omega
        have hlv : lvl g t = g.Levels[t] := by unfold lvl; rw [List.getD_eq_getElem?_getD, List.getElem?_eq_getElem htl]; rfl
        rw [hdec, hlv, prd_at hk]
        obtain ⟨bl, ol, el, rfl, hbl, hel, hcl⟩ := hG.levels.2.2 t htl
        obtain ⟨rfl, hlN, hlK⟩ := kLev_open hel
        obtain ⟨bp, op, ep, rfl, hbp, hep, hcp⟩ := hG.prods.2.2 k hk
        obtain ⟨Ar, cr, rfl, hp9, hpN, hpK, hri⟩ := kPrd_open hep
        generalize g.Levels[t] = la at *
        have hcp2 : ∀ (j : Nat) (u : Value), [Value.int .i64 g.Prods[k].L.N, .int .i64 g.Prods[k].L.Kind][j]? = some u → w.cell? ⟨bp, op + k * kPrd.sz + 2 + j, none⟩ = some u := fun j u h => by
          rw [Nat.add_assoc _ 2 j, Nat.add_comm 2 j]
          exact hcp (j + 2) u h
        generalize g.Prods[k].L = lb at *
        repeat' (first | refine s_seq ?_ | refine s_skip ?_ | refine s_false rfl ?_)
        refine s_anyU Tryz.mixed ?_
        refine a_join (ι := Nat × Nat) (fun z => [(8, ptrN z.1), (9, ptrN z.2), (7, .bool false), (6, ptrN b6), (1, .slice (some ⟨bL, 0, none⟩) 2 c)]) (fun z => [blk z.1 59 [.int .i64 la.N, .int .i64 la.Kind], blk z.2 59 [.int .i64 lb.N, .int .i64 lb.Kind], blk b6 53 [.int .i64 0, .int .i64 0], blk bx 98 [.slice A0 g.Terms.length c0, .slice (some ⟨bl, ol, none⟩) g.Levels.length c1, .slice A2 g.Pats.length c2, .slice A3 g.Nons.length c3, .slice (some ⟨bp, op, none⟩) g.Prods.length c4, v5, v6, v7], osl 53 2 (.slice (some ⟨bL, 0, none⟩) 2 c) 2 (encAs [x, y])]) ?_ (fun hfin => ?_)
        · rintro ⟨b8, b9⟩
          simp only
          repeat' (first | ((refine e_op ?_); (first | refine o_n (peval_sound rfl) rfl ?_ | refine o_n (nl rfl rfl tc rfl) rfl ?_)) | refine s_seq ?_ | refine s_region ?_)
          have hA0 : ∀ z, loadL ⟨.struct [(0, 1), (1, 1)], 2, 16, z⟩ (encAs [x, y]) (0 + 0 * 2) = some (.agg (encA x).toArray) := fun z => encAs_load (l := [x, y]) (i := 0) (by simp)
          have hA1 : ∀ z, loadL ⟨.struct [(0, 1), (1, 1)], 2, 16, z⟩ (encAs [x, y]) (0 + 1 * 2) = some (.agg (encA y).toArray) := fun z => encAs_load (l := [x, y]) (i := 1) (by simp)
          by_cases h1 : la.N = 0
          · have hb : bindB la lb x y = (ac0, false) := by unfold bindB; rw [if_pos (.inl h1)]
            rw [hb, show (la.N == 0) = true by simpa using h1]
            repeat' (first | refine e_nil ?_ | ((refine e_op ?_); (first | refine o_n (peval_sound rfl) rfl ?_ | refine o_storeC rfl rfl rfl rfl tc uc rfl rfl rfl ?_)) | refine e_noU rfl rfl rfl ?_ | refine s_seq ?_ | refine s_region ?_ | refine s_true rfl ?_)
            refine s_ret ⟨_, _, resc2 rfl rfl rfl (.s (.s .z)) (ld_all (n := 2) rfl rfl rfl rfl) rfl, ⟨rfl, rfl⟩, Ent.wk (Ent.wk (Ent.wk (Ent.refl _)))⟩
          rw [show (la.N == 0) = false by simpa using h1]
          repeat' (first | refine e_nil ?_ | ((first | refine e_op ?_ | refine e_yes rfl ?_); (first | refine o_n (peval_sound rfl) rfl ?_ | refine o_n (nl rfl rfl tc rfl) rfl ?_)))
          by_cases h2 : lb.N = 0
          · have hb : bindB la lb x y = (ac0, false) := by unfold bindB; rw [if_pos (.inr h2)]
            rw [hb, show (lb.N == 0) = true by simpa using h2]
            repeat' (first | refine e_nil ?_ | ((refine e_op ?_); (first | refine o_n (peval_sound rfl) rfl ?_ | refine o_storeC rfl rfl rfl rfl tc uc rfl rfl rfl ?_)) | refine s_seq ?_ | refine s_region ?_ | refine s_true rfl ?_)
            refine s_ret ⟨_, _, resc2 rfl rfl rfl (.s (.s .z)) (ld_all (n := 2) rfl rfl rfl rfl) rfl, ⟨rfl, rfl⟩, Ent.wk (Ent.wk (Ent.wk (Ent.refl _)))⟩
          rw [show (lb.N == 0) = false by simpa using h2]
          repeat' (first | refine e_nil ?_ | ((refine e_op ?_); (first | refine o_n (peval_sound rfl) rfl ?_ | refine o_n (nl rfl rfl tc rfl) rfl ?_)) | refine s_seq ?_ | refine s_region ?_ | refine s_block ?_ | refine s_skip ?_ | refine s_false rfl ?_)
          have h12 : ¬ (la.N = 0 ∨ lb.N = 0) := fun e => e.elim h1 h2
          by_cases h3 : la.N > lb.N
          · have hb : bindB la lb x y = (x, true) := by unfold bindB; rw [if_neg h12, if_pos h3]
            rw [hb, decide_eq_true h3]
            repeat' (first | ((refine e_op ?_); (refine o_n (peval_sound rfl) rfl ?_)) | refine s_seq ?_ | refine s_region ?_ | refine s_true rfl ?_)
            refine e_op (o_n (n_index rfl rfl rfl rfl 0 rfl (by simp)) rfl ?_)
            refine e_op (o_n (n_load_osl rfl rfl (.s (.s (.s (.s .z)))) (hA0 _)) rfl ?_)
            repeat' (first | refine e_nil ?_ | ((refine e_op ?_); (first | refine o_n (peval_sound rfl) rfl ?_ | refine o_storeC rfl rfl rfl rfl tc uc rfl rfl rfl ?_)))
            refine s_ret ⟨_, _, resc2 rfl rfl rfl (.s (.s .z)) (ld_all (n := 2) rfl rfl rfl rfl) rfl, ⟨rfl, rfl⟩, Ent.wk (Ent.wk (Ent.wk (Ent.refl _)))⟩
          rw [decide_eq_false h3]
          repeat' (first | refine e_nil ?_ | ((refine e_op ?_); (first | refine o_n (peval_sound rfl) rfl ?_ | refine o_n (nl rfl rfl tc rfl) rfl ?_)) | refine s_seq ?_ | refine s_region ?_ | refine s_false rfl ?_)
          by_cases h4 : la.N < lb.N
          · have hb : bindB la lb x y = (y, true) := by unfold bindB; rw [if_neg h12, if_neg h3, if_pos h4]
            rw [hb, decide_eq_true h4]
            repeat' (first | ((refine e_op ?_); (refine o_n (peval_sound rfl) rfl ?_)) | refine s_seq ?_ | refine s_region ?_ | refine s_true rfl ?_)
            refine e_op (o_n (n_index rfl rfl rfl rfl 1 rfl (by simp)) rfl ?_)
            refine e_op (o_n (n_load_osl rfl rfl (.s (.s (.s (.s .z)))) (hA1 _)) rfl ?_)
            repeat' (first | refine e_nil ?_ | ((refine e_op ?_); (first | refine o_n (peval_sound rfl) rfl ?_ | refine o_storeC rfl rfl rfl rfl tc uc rfl rfl rfl ?_)))
            refine s_ret ⟨_, _, resc2 rfl rfl rfl (.s (.s .z)) (ld_all (n := 2) rfl rfl rfl rfl) rfl, ⟨rfl, rfl⟩, Ent.wk (Ent.wk (Ent.wk (Ent.refl _)))⟩
          rw [decide_eq_false h4]
          repeat' (first | refine e_nil ?_ | ((refine e_op ?_); (first | refine o_n (peval_sound rfl) rfl ?_ | refine o_n (nl rfl rfl tc rfl) rfl ?_)) | refine s_seq ?_ | refine s_region ?_ | refine s_block ?_ | refine s_end ?_ | refine s_skip ?_ | refine s_false rfl ?_)
          by_cases h5 : la.Kind = 1
          · have hb : bindB la lb x y = (y, true) := by unfold bindB; rw [if_neg h12, if_neg h3, if_neg h4, if_pos h5]
            rw [hb, show (la.Kind == 1) = true by simpa using h5]
            repeat' (first | ((refine e_op ?_); (refine o_n (peval_sound rfl) rfl ?_)) | refine s_region ?_ | refine s_exit ?_ | refine s_true rfl ?_ | refine x_hit ?_ | refine x_code ?_)
            refine e_op (o_n (n_tail rfl rfl rfl (by simp)) rfl ?_)
            rw [if_neg hc2]
            repeat' (first | refine e_nil ?_ | ((refine e_op ?_); (refine o_n (peval_sound rfl) rfl ?_)) | refine s_seq ?_ | refine s_region ?_ | refine s_end ?_)
            refine e_op (o_n (n_index rfl rfl rfl rfl 0 rfl (by simp)) rfl ?_)
            refine e_op (o_n (n_load_osl rfl rfl (.s (.s (.s (.s .z)))) (hA1 _)) rfl ?_)
            repeat' (first | refine e_nil ?_ | ((refine e_op ?_); (first | refine o_n (peval_sound rfl) rfl ?_ | refine o_storeC rfl rfl rfl rfl tc uc rfl rfl rfl ?_)))
            refine s_ret ⟨_, _, resc2 rfl rfl rfl (.s (.s .z)) (ld_all (n := 2) rfl rfl rfl rfl) rfl, ⟨rfl, rfl⟩, Ent.wk (Ent.wk (Ent.wk (Ent.refl _)))⟩
          rw [show (la.Kind == 1) = false by simpa using h5]
          repeat' (first | refine e_nil ?_ | ((refine e_op ?_); (refine o_n (peval_sound rfl) rfl ?_)) | refine s_seq ?_ | refine s_region ?_ | refine s_skip ?_ | refine s_false rfl ?_)
          by_cases h6 : la.Kind = 2
          · have hb : bindB la lb x y = (x, true) := by unfold bindB; rw [if_neg h12, if_neg h3, if_neg h4, if_neg h5, if_pos h6]
            rw [hb, show (la.Kind == 2) = true by simpa using h6]
            repeat' (first | ((refine e_op ?_); (refine o_n (peval_sound rfl) rfl ?_)) | refine s_seq ?_ | refine s_region ?_ | refine s_exit ?_ | refine s_true rfl ?_ | refine x_hit ?_ | refine x_code ?_ | refine x_miss rfl ?_)
            refine e_op (o_n (n_index rfl rfl rfl rfl 0 rfl (by simp)) rfl ?_)
            refine e_op (o_n (n_load_osl rfl rfl (.s (.s (.s (.s .z)))) (hA0 _)) rfl ?_)
            repeat' (first | refine e_nil ?_ | ((refine e_op ?_); (first | refine o_n (peval_sound rfl) rfl ?_ | refine o_storeC rfl rfl rfl rfl tc uc rfl rfl rfl ?_)))
            refine s_ret ⟨_, _, resc2 rfl rfl rfl (.s (.s .z)) (ld_all (n := 2) rfl rfl rfl rfl) rfl, ⟨rfl, rfl⟩, Ent.wk (Ent.wk (Ent.wk (Ent.refl _)))⟩
          have hb : bindB la lb x y = (ac0, true) := by unfold bindB; rw [if_neg h12, if_neg h3, if_neg h4, if_neg h5, if_neg h6]
          rw [hb, show (la.Kind == 2) = false by simpa using h6]
          repeat' (first | refine e_nil ?_ | ((refine e_op ?_); (first | refine o_n (peval_sound rfl) rfl ?_ | refine o_storeC rfl rfl rfl rfl tc uc rfl rfl rfl ?_)) | refine s_seq ?_ | refine s_region ?_ | refine s_skip ?_ | refine s_exit ?_ | refine s_false rfl ?_ | refine x_hit ?_ | refine x_code ?_ | refine x_miss rfl ?_)
          refine s_ret ⟨_, _, resc2 rfl rfl rfl (.s (.s .z)) (ld_all (n := 2) rfl rfl rfl rfl) rfl, ⟨rfl, rfl⟩, Ent.wk (Ent.wk (Ent.wk (Ent.refl _)))⟩
        refine a_n 0 rfl (peval_sound rfl) (by decide +kernel) (Ent.refl _) rfl ?_
        refine a_n 1 rfl (peval_sound rfl) (by decide +kernel) (Ent.refl _) rfl ?_
        refine a_n 2 rfl (peval_sound rfl) (by decide +kernel) (Ent.refl _) rfl ?_
        refine a_n 3 rfl (peval_sound rfl) (by decide +kernel) (Ent.refl _) rfl ?_
        refine a_n 4 rfl (nl rfl rfl tc rfl) (by decide +kernel) (Ent.refl _) rfl ?_
        refine a_n 5 rfl (peval_sound rfl) (by decide +kernel) (Ent.refl _) rfl ?_
        refine a_n 6 rfl (n_index rfl rfl rfl rfl t rfl htl) (by decide +kernel) (Ent.refl _) rfl ?_
        refine a_n 7 rfl (n_load_ro rfl rfl hbl (loads_agg rfl rfl hcl)) (by decide +kernel) (Ent.refl _) rfl ?_
        refine a_n 8 rfl (peval_sound rfl) (by decide +kernel) (Ent.refl _) rfl ?_
        refine a_n 9 rfl (peval_sound rfl) (by decide +kernel) (Ent.refl _) rfl ?_
        refine a_n 10 rfl (peval_sound rfl) (by decide +kernel) (Ent.refl _) rfl ?_
        refine a_n 11 rfl (peval_sound rfl) (by decide +kernel) (Ent.refl _) rfl ?_
        refine a_n 12 rfl (nl rfl rfl tc rfl) (by decide +kernel) (Ent.refl _) rfl ?_
        refine a_n 13 rfl (peval_sound rfl) (by decide +kernel) (Ent.refl _) rfl ?_
        refine a_n 14 rfl (n_index rfl rfl rfl rfl 1 rfl (by simp)) (by decide +kernel) (Ent.refl _) rfl ?_
        refine a_n 15 rfl (peval_sound rfl) (by decide +kernel) (Ent.refl _) rfl ?_
        refine a_n 16 rfl (n_load_osl rfl rfl (.s (.s .z)) hn1) (by decide +kernel) (Ent.refl _) rfl ?_
        refine a_n 17 rfl (n_index rfl rfl rfl rfl k rfl hk) (by decide +kernel) (Ent.refl _) rfl ?_
        refine a_n 18 rfl (peval_sound rfl) (by decide +kernel) (Ent.refl _) rfl ?_
        refine a_n 19 rfl (n_load_ro rfl rfl hbp (loads_agg (es := [.int .i64 lb.N, .int .i64 lb.Kind]) rfl rfl hcp2)) (by decide +kernel) (Ent.refl _) rfl ?_
        refine a_2 20 21 (by decide +kernel) rfl rfl rfl rfl (o_alloc rfl rfl (fun b8 => ⟨(by (repeat' (first | exact Ent.refl _ | refine Ent.wk ?_))), ?_⟩)) (o_alloc rfl rfl (fun b9 => ⟨(by (repeat' (first | exact Ent.refl _ | refine Ent.wk ?_))), ?_⟩))
        · refine a_1 21 (by decide +kernel) rfl rfl (o_alloc rfl rfl (fun b9 => ⟨(by (repeat' (first | exact Ent.refl _ | refine Ent.wk ?_))), ?_⟩))
          refine a_1 22 (by decide +kernel) rfl rfl (o_storeC rfl rfl rfl rfl tc uc rfl rfl rfl ⟨(by (repeat' (first | exact Ent.refl _ | refine Ent.wk ?_))), ?_⟩)
          refine a_1 23 (by decide +kernel) rfl rfl (o_storeC rfl rfl rfl rfl tc uc rfl rfl rfl ⟨(by (repeat' (first | exact Ent.refl _ | refine Ent.wk ?_))), ?_⟩)
          refine a_done (by decide +kernel) (s_weak ?_ ?_ (hfin (b8, b9)))
          · repeat' (first | exact Sub.nil _ | refine Sub.cons rfl ?_)
          · repeat' (first | exact Ent.nil _ | refine Ent.tak tk ?_ | refine Ent.tak .z ?_ | refine Ent.tak (.s .z) ?_)
        · refine a_1 20 (by decide +kernel) rfl rfl (o_alloc rfl rfl (fun b8 => ⟨(by (repeat' (first | exact Ent.refl _ | refine Ent.wk ?_))), ?_⟩))
          refine a_1 22 (by decide +kernel) rfl rfl (o_storeC rfl rfl rfl rfl tc uc rfl rfl rfl ⟨(by (repeat' (first | exact Ent.refl _ | refine Ent.wk ?_))), ?_⟩)
          refine a_1 23 (by decide +kernel) rfl rfl (o_storeC rfl rfl rfl rfl tc uc rfl rfl rfl ⟨(by (repeat' (first | exact Ent.refl _ | refine Ent.wk ?_))), ?_⟩)
          refine a_done (by decide +kernel) (s_weak ?_ ?_ (hfin (b8, b9)))
          · repeat' (first | exact Sub.nil _ | refine Sub.cons rfl ?_)
          · repeat' (first | exact Ent.nil _ | refine Ent.tak tk ?_ | refine Ent.tak .z ?_)
      · rw [show (y.k != 2) = true by simpa using hy]
        have hdec : decA g [x, y] t = (ac0, false) := by
          show (if _ then bindB (lvl g t) (prd g y.n).L x y else _) = _
          rw [if_neg (fun e => hy e.2)]
        rw [hdec]
        repeat' (first | refine e_nil ?_ | ((refine e_op ?_); (first | refine o_n (peval_sound rfl) rfl ?_ | refine o_storeC rfl rfl rfl rfl tc uc rfl rfl rfl ?_)) | refine s_seq ?_ | refine s_region ?_ | refine s_true rfl ?_)
        refine s_ret ⟨_, _, resc2 rfl rfl rfl .z (ld_all (n := 2) rfl rfl rfl rfl) rfl, ⟨rfl, rfl⟩, Ent.wk (Ent.refl _)⟩
    · rw [show (x.k != 1) = true by simpa using hx]
      have hdec : decA g [x, y] t = (ac0, false) := by
        show (if _ then bindB (lvl g t) (prd g y.n).L x y else _) = _
        rw [if_neg (fun e => hx e.1)]
      rw [hdec]
      repeat' (first | refine e_nil ?_ | ((refine e_op ?_); (first | refine o_n (peval_sound rfl) rfl ?_ | refine o_storeC rfl rfl rfl rfl tc uc rfl rfl rfl ?_)) | refine e_noU rfl rfl rfl ?_ | refine s_seq ?_ | refine s_region ?_ | refine s_true rfl ?_)
      refine s_ret ⟨_, _, resc2 rfl rfl rfl .z (ld_all (n := 2) rfl rfl rfl rfl) rfl, ⟨rfl, rfl⟩, Ent.wk (Ent.refl _)⟩
  · rw [decA_ne h2]
    repeat' (first | refine e_nil ?_ | ((refine e_op ?_); (first | refine o_n (peval_sound rfl) rfl ?_ | refine o_alloc rfl rfl (fun _ => ?_))) | refine s_seq ?_ | refine s_region ?_)
    rw [show ((L.length : Int) != 2) = true by simp; omega]
    repeat' (first | refine e_nil ?_ | ((refine e_op ?_); (first | refine o_n (peval_sound rfl) rfl ?_ | refine o_storeC rfl rfl rfl rfl tc uc rfl rfl rfl ?_)) | refine e_noU rfl rfl rfl ?_ | refine s_seq ?_ | refine s_region ?_ | refine s_true rfl ?_)
    refine s_ret ⟨_, _, resc2 rfl rfl rfl .z (ld_all (n := 2) rfl rfl rfl rfl) rfl, ⟨rfl, rfl⟩, Ent.wk (Ent.refl _)⟩

end Go.Proofs.YtcnpjhaedjncdaaGreatDoor

namespace Go.Proofs.YtcnpjhaedjncdaaGreatDoor
set_option linter.all false
open Go.Proofs.YtcnpjhaedjncdaaGreatDoor.E

theorem zeros2 (n : Nat) : ((List.range (n * 2)).map fun j => [Value.int .i64 0, Value.int .i64 0][j % 2]!) = encAs (List.replicate n ac0) := by
  have h1 : ∀ j : Nat, [Value.int .i64 0, Value.int .i64 0][j % 2]! = Value.int .i64 0 := fun j => by
    rcases Nat.mod_two_eq_zero_or_one j with h | h <;> rw [h] <;> rfl
  have h2 : ∀ n : Nat, encAs (List.replicate n ac0) = List.replicate (n * 2) (Value.int .i64 0) := by
    intro n
    induction n with
    | zero => rfl
    | succ n ih =>
      rw [List.replicate_succ]
      show encA ac0 ++ encAs (List.replicate n ac0) = _
      rw [ih, show (n + 1) * 2 = n * 2 + 1 + 1 by omega, List.replicate_succ, List.replicate_succ]; rfl
  rw [h2]
  simp only [h1]
  rw [List.map_const', List.length_range]

theorem setMany_cons (a : Value) : ∀ (cs r : List Value) (o : Nat), setMany (a :: r) (o + 1) cs = a :: setMany r o cs
  | [], _, _ => rfl
  | c :: cs, r, o => by
    show setMany ((a :: r).set (o + 1) c) (o + 1 + 1) cs = a :: setMany (r.set o c) (o + 1) cs
    rw [List.set_cons_succ]
    exact setMany_cons a cs _ _
theorem encAs_set0 : ∀ {l : List Acn} {i : Nat} (_ : i < l.length) (x : Acn), setMany (encAs l) (i * 2) (encA x) = encAs (l.set i x)
  | a :: l, 0, _, x => rfl
  | a :: l, i + 1, h, x => by
    have h2 : i < l.length := by simpa using h
    rw [List.set_cons_succ, show (i + 1) * 2 = i * 2 + 1 + 1 by omega]
    show setMany (Value.int .i64 a.k :: Value.int .i64 a.n :: encAs l) _ _ = Value.int .i64 a.k :: Value.int .i64 a.n :: encAs (l.set i x)
    rw [setMany_cons, setMany_cons, encAs_set0 h2]
theorem encAs_set {l : List Acn} {i : Nat} (h : i < l.length) (x : Acn) : setMany (encAs l) (0 + i * 2) (encA x) = encAs (l.set i x) := by
  rw [Nat.zero_add]; exact encAs_set0 h x
noncomputable def actT (g : Gram) (s t : Nat) : List Acn := (List.range t).map (actC g s) ++ List.replicate (g.Terms.length - t) ac0
theorem actT_len {g : Gram} {s t : Nat} (h : t ≤ g.Terms.length) : (actT g s t).length = g.Terms.length := by unfold actT; simp; omega
theorem actT_zero (g : Gram) (s : Nat) : actT g s 0 = List.replicate g.Terms.length ac0 := by unfold actT; simp
theorem actT_full (g : Gram) (s : Nat) : actT g s g.Terms.length = actRow g s := by unfold actT actRow; simp
theorem actT_app {g : Gram} {s t : Nat} : actT g s (t + 1) = (List.range t).map (actC g s) ++ actC g s t :: List.replicate (g.Terms.length - (t + 1)) ac0 := by
  unfold actT
  rw [List.range_succ, List.map_append, List.append_assoc]; rfl
theorem actT_succ {g : Gram} {s t : Nat} (h : t < g.Terms.length) : (actT g s t).set t (actC g s t) = actT g s (t + 1) := by
  rw [actT_app]
  unfold actT
  rw [List.set_append_right _ _ (by simp), List.length_map, List.length_range, Nat.sub_self, show g.Terms.length - t = (g.Terms.length - (t + 1)) + 1 by omega, List.replicate_succ, List.set_cons_zero]
theorem actT_same {g : Gram} {s t : Nat} (h : t < g.Terms.length) (h0 : actC g s t = ac0) : actT g s (t + 1) = actT g s t := by
  rw [actT_app, h0]
  unfold actT
  rw [show g.Terms.length - t = (g.Terms.length - (t + 1)) + 1 by omega, List.replicate_succ]
theorem told_prod (g : Gram) (s t : Nat) : ∀ y ∈ told g s t, y.k = 2 → ∃ k : Nat, k < g.Prods.length ∧ y.n = (k : Int) := by
  intro y hy h2
  unfold told toldN at hy
  rcases List.mem_append.1 hy with hy | hy
  · unfold shL at hy
    split at hy
    · rw [List.mem_singleton] at hy; subst hy; simp at h2
    · cases hy
  · obtain ⟨k, hk, rfl⟩ := List.mem_map.1 hy
    unfold redA at h2 ⊢
    split at h2
    · simp at h2
    · rename_i h0
      rw [if_neg h0]
      exact ⟨k, (mem_redsN.1 hk).1, rfl⟩

/-- What Of answers. -/
noncomputable def pAct (g : Gram) : List (List Acn) := if actE g = 0 then actA g else []
noncomputable def pGot (g : Gram) : List (List Int) := if actE g = 0 then gotA g else []
noncomputable def pCla (g : Gram) : List (Nat × Nat) := if lrE g = 0 then claA g else []
noncomputable def pDec (g : Gram) : Nat := if actE g = 0 then decN g else 0
def encCl (c : Nat × Nat) : List Value := [.int .i64 (c.1 : Nat), .int .i64 (c.2 : Nat)]
abbrev encCs (l : List (Nat × Nat)) : List Value := l.flatMap encCl
abbrev actS (A : Option Addr) (n c : Nat) (acs : AcL) (R : List (List Acn)) : Asn := osl 54 1 (.slice A n c) n (rowC acs R)
abbrev actB (acs : AcL) (R : List (List Acn)) : Asn := bun (rowX encAs 2 53 acs R)
abbrev claS (A : Option Addr) (n c : Nat) (l : List (Nat × Nat)) : Asn := osl 57 2 (.slice A n c) n (encCs l)
/-- A parser of one's own: all of it can be written. -/
structure ActV (x : Value) (V : List Asn) (R : List (List Acn)) (G : List (List Int)) (C : List (Nat × Nat)) (d : Nat) (AA : Option Addr) (cA : Nat) (acs : AcL) (AG : Option Addr) (cG : Nat) (bcs : AcL) (AC : Option Addr) (cC : Nat) : Prop where
  la : acs.length = R.length
  lg : bcs.length = G.length
  x : x = .agg #[.slice AA R.length cA, .slice AG G.length cG, .slice AC C.length cC, .int .i64 (d : Nat)]
  v : V = [actS AA R.length cA acs R, actB acs R, gotS AG G.length cG bcs G, gotB bcs G, claS AC C.length cC C]
theorem ent_act0 {U : List Asn} : Ent U [actS none 0 0 [] [], actB [] [], gotS none 0 0 [] [], gotB [] [], claS none 0 0 []] :=
  (Ent.nil _).trans (Ent.osl0 (Ent.trans (V := actB [] [] :: gotS none 0 0 [] [] :: gotB [] [] :: claS none 0 0 [] :: []) (Ent.trans (V := gotS none 0 0 [] [] :: gotB [] [] :: claS none 0 0 [] :: []) (Ent.osl0 (Ent.trans (V := claS none 0 0 [] :: []) (Ent.osl0 (Ent.refl _)) ent_bnil0)) ent_bnil0) (Ent.refl _)))

end Go.Proofs.YtcnpjhaedjncdaaGreatDoor

namespace Go.Proofs.YtcnpjhaedjncdaaGreatDoor
set_option linter.all false
open Go.Proofs.YtcnpjhaedjncdaaGreatDoor.E

theorem n_eqlNil49 {w0 : World} {SM : BSet} {n : Nat} {fr : Frm} {U : List Asn} {x : Operand} {A : Option Addr} {m c : Nat} {t2 : TypeId} (hx : val fr x = some (.slice A m c)) :
    NEV ⟨Tryz.prog, Tryz.tab, Tryz.tabOk, n, w0, SM⟩ (.binOp .eql 55 x (.const (.slice none 0 0)) t2) fr U (.bool A.isNone) := by
  intro ac w dst ty pos af g hf _
  have hu : Tryz.prog.underlying 55 = some (.slice 3) := by kernel_rfl
  have he : (Op.equal 55 (.slice A m c) (.slice none 0 0)).run Tryz.prog w = .ok A.isNone w := run_equal_slice_nil (P := Tryz.prog) w 55 3 A m c hu
  have hg : Tryz.prog.eqGuardType Tryz.prog.depth 55 = false := by kernel_rfl
  have hc : ac.eval (.const (.slice none 0 0)) = .slice none 0 0 := rfl
  unfold execOp
  simp only [hf.eval hx, hc]
  simp [eqGuard, hg, binOp, he]

attribute [local irreducible] EVX EVO EVL EV1 NEV
attribute [local irreducible] own osl exA rdA rdL
set_option maxRecDepth 10000
set_option maxHeartbeats 4000000

theorem cloneI_w (A : Option Addr) (n c : Nat) (l : List Int) (hn : n = l.length) (hsz : l.length ≤ 100000) :
    Trip Tryz.prog 34 [.slice A n c] ((kslice 8 kint).rd [.slice A n c] l) []
      (fun v V => ∃ (A' : Option Addr) (c' : Nat), v = .slice A' n c' ∧ V = [osl 3 1 (.slice A' n c') n (l.map (Value.int .i64))]) := by
  subst hn
  refine trip Tryz.tabOk Tryz.func34 rfl rfl rfl rfl ?_
  rintro w SM ⟨A', c', e1, h1⟩
  cases e1
  repeat' (first | refine e_nil ?_ | ((refine e_op ?_); (refine o_n (peval_sound rfl) rfl ?_)) | refine s_seq ?_ | refine s_region ?_)
  refine e_op (o_n (n_eqlNil49 rfl) rfl ?_)
  repeat' (refine e_nil ?_)
  refine s_cond rfl (fun h => ?_) (fun h => ?_)
  · have hl : l = [] := by
      cases l with
      | nil => rfl
      | cons x l =>
        obtain ⟨b, o, es, hA, _⟩ := h1.2.2 0 (by simp)
        rw [hA] at h; cases h
    subst hl
    repeat' (first | refine e_nil ?_ | ((refine e_op ?_); (refine o_n (peval_sound rfl) rfl ?_)) | refine s_seq ?_ | refine s_region ?_)
    refine s_ret ⟨_, _, res1 rfl rfl, ⟨none, 0, rfl, rfl⟩, Ent.osl0 (Ent.nil _)⟩
  repeat' (first | refine s_seq ?_ | refine s_region ?_ | refine s_skip ?_)
  refine e_op (o_lit (cs := []) rfl rfl rfl rfl rfl rfl rfl (fun b4 => ?_))
  repeat' (((refine e_op ?_); (refine o_n (peval_sound rfl) rfl ?_)))
  refine e_op (o_appendS (n := 0) (xs := []) (ys := l.map (Value.int .i64)) _ rfl rfl rfl rfl (by rw [List.length_map]; simp) (fun h0 => ro_ints h1.2.2 h0) (oneB_ints _) rfl (by simp only; omega) (by omega) rfl (fun A' c' => .z) (fun A5 c5 => ?_))
  simp only [Nat.zero_add, List.nil_append]
  repeat' (first | refine e_nil ?_ | ((refine e_op ?_); (refine o_n (peval_sound rfl) rfl ?_)))
  refine s_ret ⟨_, _, res1 rfl rfl, ⟨A5, c5, rfl, rfl⟩, Ent.tak .z (Ent.nil _)⟩

end Go.Proofs.YtcnpjhaedjncdaaGreatDoor
