/-
  The engine, sixteenth part: copies that are one's own; regions of makers with two operations behind them.
-/
import Derived.Test.YtbfjnldneemmiabE15
namespace Go.Proofs.Ytbfjnldneemmiab.E
set_option linter.all false
variable {E : Env} {fr : Frm} {U V : List Asn} {N : Frm → List Asn → Prop} {K : Frm → List Asn → Prop} {k : List It} {ops : Array Oper}

/-! ### makers, and two operations behind them -/
def mkOk2 (ops : Array Oper) (ms : List Mk) (fr : Frm) : Bool :=
  Nat.beq ops.size (ms.length + 2) && (inOrder ops &&
  ((List.range ms.length).all (fun j => match ms[j]?, ops[j]? with
    | some m, some o => o.guard.isNone && ((look fr m.d).isNone && ((List.range ms.length).all (fun i => Nat.beq i j || match ms[i]? with
        | some m2 => !Nat.beq m.d m2.d
        | none => true) && m.use.all (fun u => Nat.beq u j || waits ops 12 j u)))
    | _, _ => false) &&
  (List.range ms.length).all (fun j => waits ops 12 ms.length j && waits ops 12 (ms.length + 1) j)))

theorem mkOk2_spec {ms : List Mk} (h : mkOk2 ops ms fr = true) : ops.size = ms.length + 2 ∧ inOrder ops = true ∧
    (∀ (j : Nat) (m : Mk) (o : Oper), ms[j]? = some m → ops[j]? = some o → o.guard = none ∧ look fr m.d = none ∧ (∀ (i : Nat) (m2 : Mk), i ≠ j → ms[i]? = some m2 → m.d ≠ m2.d) ∧ (∀ u ∈ m.use, u = j ∨ waits ops 12 j u = true)) ∧
    (∀ i, i < ops.size → ms.length ≤ i → ∀ j < ms.length, waits ops 12 i j = true) := by
  simp only [mkOk2, Bool.and_eq_true] at h
  obtain ⟨h1, h2, h3, h4⟩ := h
  have hsz := Nat.eq_of_beq_eq_true h1
  refine ⟨hsz, h2, ?_, ?_⟩
  · intro j m o hm ho
    have hj : j < ms.length := by
      rcases Nat.lt_or_ge j ms.length with h | h
      · exact h
      · rw [List.getElem?_eq_none h] at hm; cases hm
    have := List.all_eq_true.1 h3 j (List.mem_range.2 hj)
    simp only [hm, ho, Bool.and_eq_true] at this
    obtain ⟨a, b, c, d⟩ := this
    refine ⟨Option.isNone_iff_eq_none.1 a, Option.isNone_iff_eq_none.1 b, ?_, ?_⟩
    · intro i m2 hne hm2 he
      have hi : i < ms.length := by
        rcases Nat.lt_or_ge i ms.length with h | h
        · exact h
        · rw [List.getElem?_eq_none h] at hm2; cases hm2
      have := List.all_eq_true.1 c i (List.mem_range.2 hi)
      rw [hm2, Bool.or_eq_true] at this
      rcases this with h | h
      · exact hne (Nat.eq_of_beq_eq_true h)
      · simp [he] at h
    · intro u hu
      have := List.all_eq_true.1 d u hu
      rw [Bool.or_eq_true] at this
      exact this.imp Nat.eq_of_beq_eq_true id
  · intro i hi hm j hj
    have := List.all_eq_true.1 h4 j (List.mem_range.2 hj)
    rw [Bool.and_eq_true] at this
    rcases Nat.lt_or_ge ms.length i with h | h
    · have e : i = ms.length + 1 := by omega
      rw [e]; exact this.2
    · have e : i = ms.length := by omega
      rw [e]; exact this.1

theorem mk_core2 {ms : List Mk} {fr0 : Frm} {U0 : List Asn} (hok : mkOk2 ops ms fr0 = true) (hstep : ∀ i, i < ms.length → MkStep E ops ms fr0 i)
    (hlast : ∀ (B : Nat → Nat) (fr : Frm) (U : List Asn) (done : List Nat), Sub fr fr0 → (∀ (j : Nat) (m : Mk), ms[j]? = some m → look fr m.d = some (m.val B)) →
      (∀ j, j < ms.length → done.contains j = true) → done.Nodup → (∀ j ∈ done, j < ms.length) → Ent U (ownAll ms B done ++ U0) →
      ∀ (fuel : Nat) (a : Act) (w : World), 2 ≤ fuel → Fr E fr a → Mem E U w → wpAny E.P .any ops (post E K k) fuel (lset ops done) a w) :
    ∀ (fuel : Nat) (done : List Nat) (B : Nat → Nat) (fr : Frm) (U : List Asn) (a : Act) (w : World),
      ((List.range ops.size).filter (fun j => !done.contains j)).length ≤ fuel → done.Nodup → (∀ j ∈ done, j < ms.length) →
      (∀ j ∈ done, ∀ o, ops[j]? = some o → ∀ e ∈ o.after, Region.binds .any e = true → done.contains e.on = true) →
      Sub fr fr0 → (∀ j ∈ done, ∀ (m : Mk), ms[j]? = some m → look fr m.d = some (m.val B)) → Ent U (ownAll ms B done ++ U0) → Fr E fr a → Mem E U w →
      wpAny E.P .any ops (post E K k) fuel (lset ops done) a w := by
  obtain ⟨hsz, hin, hms, hla⟩ := mkOk2_spec hok
  intro fuel
  induction fuel with
  | zero =>
    intro done B fr U a w hfu hnd hlt _ _ _ _ _ _
    have hnil : (List.range ops.size).filter (fun j => !done.contains j) = [] := List.length_eq_zero_iff.1 (by omega)
    rw [List.filter_eq_nil_iff] at hnil
    have := hnil ms.length (List.mem_range.2 (by omega))
    have h2 : done.contains ms.length = true := by
      cases hc : done.contains ms.length with
      | true => rfl
      | false => rw [hc] at this; exact absurd rfl this
    have := hlt ms.length (by simpa using h2)
    omega
  | succ fuel ih =>
    intro done B fr U a w hfu hnd hlt hcl hsub hlook hent hf hm
    have hclo := clo_lset hcl hin
    by_cases hfull : ∀ j, j < ms.length → done.contains j = true
    · refine hlast B fr U done hsub (fun j m hm => hlook j (by
          have hj : j < ms.length := by
            rcases Nat.lt_or_ge j ms.length with h | h
            · exact h
            · rw [List.getElem?_eq_none h] at hm; cases hm
          simpa using hfull j hj) m hm) hfull hnd hlt hent _ a w ?_ hf hm
      have hlen : done.length ≤ ms.length := by
        have := List.Nodup.length_le_of_subset hnd (l₂ := List.range ms.length) (fun j hj => List.mem_range.2 (hlt j hj))
        rwa [List.length_range] at this
      have hc : ops.size - done.length ≤ ((List.range ops.size).filter (fun j => !done.contains j)).length := by
        have h1 : ((List.range ops.size).filter (fun j => done.contains j)).length ≤ done.length :=
          List.Nodup.length_le_of_subset (List.nodup_range.sublist List.filter_sublist) (fun j hj => by
            have := (List.mem_filter.1 hj).2
            simpa using this)
        have h2 := List.length_eq_countP_add_countP (fun j => done.contains j) (l := List.range ops.size)
        rw [List.length_range, List.countP_eq_length_filter, List.countP_eq_length_filter] at h2
        have h3 : (List.range ops.size).filter (fun j => decide ¬(done.contains j = true)) = (List.range ops.size).filter (fun j => !done.contains j) := by
          congr 1; funext j; cases done.contains j <;> rfl
        rw [h3] at h2
        omega
      omega
    refine ⟨fun h0 => ?_, fun i hi => ?_⟩
    · exfalso
      have hall : ∀ j, j < ops.size → done.contains j = true := by
        intro j
        induction j using Nat.strongRecOn with
        | _ j ihj =>
          intro hj
          cases hc : done.contains j with
          | true => rfl
          | false =>
            exfalso
            have : j ∈ Region.ready .any ops (lset ops done) := by
              obtain ⟨o, ho⟩ : ∃ o, ops[j]? = some o := ⟨ops[j], Array.getElem?_eq_getElem hj⟩
              refine mem_ready.2 ⟨by rw [lset_get_t hj]; exact hc, o, ho, fun e he hb => ?_⟩
              simp only [inOrder, List.all_eq_true, List.mem_range] at hin
              have h1 := hin j hj
              simp only [ho] at h1
              have h2 := Array.all_eq_true_iff_forall_mem.1 h1 e he
              rw [Nat.blt_eq] at h2
              rw [lset_get (by omega)]
              exact ihj e.on h2 (by omega)
            rw [h0] at this; cases this
      have h1 := hall ms.length (by omega)
      have := hlt ms.length (by simpa using h1)
      omega
    · obtain ⟨hun, o, ho, hdep⟩ := mem_ready.1 hi
      have hio : i < ops.size := (Array.getElem?_eq_some_iff.1 ho).1
      rw [lset_get_t hio] at hun
      by_cases him : i < ms.length
      · obtain ⟨m, hmm⟩ : ∃ m, ms[i]? = some m := ⟨ms[i], List.getElem?_eq_getElem him⟩
        obtain ⟨hg, hbase, hdif, huse⟩ := hms i m o hmm ho
        have hdep' : ∀ e ∈ o.after, Region.binds .any e = true → done.contains e.on = true := fun e he hb => by
          have h1 := hdep e he hb
          simp only [inOrder, List.all_eq_true, List.mem_range] at hin
          have h2 := hin i hio
          simp only [ho] at h2
          have h3 := Array.all_eq_true_iff_forall_mem.1 h2 e he
          rw [Nat.blt_eq] at h3
          rw [lset_get (by omega)] at h1
          exact h1
        have hnu : ∀ j ∈ done, ∀ (m2 : Mk), ms[j]? = some m2 → ∀ u ∈ m2.use, u ≠ i := by
          intro j hj m2 hm2 u hu he
          subst he
          have hjm := hlt j hj
          obtain ⟨oj, hoj⟩ : ∃ oj, ops[j]? = some oj := ⟨ops[j], Array.getElem?_eq_getElem (by omega)⟩
          rcases (hms j m2 oj hm2 hoj).2.2.2 u hu with h | h
          · subst h
            rw [List.contains_eq_mem, decide_eq_false_iff_not] at hun
            exact hun hj
          · have := waits_listed hclo 12 j h (fun o' ho' e he hb => hclo j o' ho' (by rw [lset_get (by omega)]; simpa using hj) e he hb)
            rw [lset_get hio, hun] at this
            cases this
        have hst := hstep i him o m ho hmm B fr U hsub (fun e he hb m2 hm2 => hlook e.on (by simpa using hdep' e he hb) m2 hm2)
        unfold wpOp
        have hw : Region.wanted o (yielded ops a.tmps) = true := by simp [Region.wanted, hg]
        simp only [ho, hw, if_true]
        refine .inl (Oper.wp_mono2 ?_ (hst a w hf hm))
        rintro a' w' ⟨fr', U', ⟨b, hs', he'⟩, hf', hm'⟩
        rw [lset_cons]
        have hlook0 : ∀ (j : Nat) (m2 : Mk), j ≠ i → ms[j]? = some m2 → ∀ u, look fr m2.d = some u → look fr' m2.d = some u := by
          intro j m2 hj hm2 u hu
          refine hs' _ _ ?_
          have hne := hdif j m2 hj hm2
          simp only [look]
          cases hb : Nat.beq m.d m2.d with
          | true => exact absurd (Nat.eq_of_beq_eq_true hb) hne
          | false => exact hu
        refine ih (i :: done) (setB B i b) fr' U' a' w' ?_ ?_ ?_ ?_ ?_ ?_ ?_ hf' hm'
        · have := mem_unlisted hio hun
          omega
        · rw [List.nodup_cons]
          exact ⟨by rw [List.contains_eq_mem, decide_eq_false_iff_not] at hun; exact hun, hnd⟩
        · intro j hj
          rcases List.mem_cons.1 hj with h | h
          · rw [h]; exact him
          · exact hlt j h
        · intro j hj o' ho' e he hb
          rw [List.contains_cons, Bool.or_eq_true]
          rcases List.mem_cons.1 hj with h | h
          · rw [h, ho] at ho'
            cases ho'
            exact .inr (hdep' e he hb)
          · exact .inr (hcl j h o' ho' e he hb)
        · intro d u hu
          refine hs' d u ?_
          simp only [look]
          cases hb : Nat.beq m.d d with
          | true =>
            rw [← Nat.eq_of_beq_eq_true hb, hbase] at hu; cases hu
          | false => exact hsub d u hu
        · intro j hj m2 hm2
          rcases List.mem_cons.1 hj with h | h
          · subst h
            rw [hmm] at hm2
            cases hm2
            refine hs' _ _ ?_
            simp [look]
          · have hji : j ≠ i := fun e => by
              subst e
              rw [List.contains_eq_mem, decide_eq_false_iff_not] at hun
              exact hun h
            have h1 := hlook0 j m2 hji hm2 _ (hlook j h m2 hm2)
            rw [h1]
            congr 1
            unfold Mk.val
            congr 1
            apply List.map_congr_left
            intro u hu
            exact (setB_ne (hnu j h m2 hm2 u hu)).symm
        · refine he'.trans ?_
          show Ent _ (ownAll ms (setB B i b) (i :: done) ++ U0)
          unfold ownAll
          rw [hmm, ownAll_set hnu, List.append_assoc]
          exact Ent.app hent
      · exfalso
        refine hfull fun j hj => ?_
        have h1 := waits_listed hclo 12 i (hla i hio (by omega) j hj) (fun o' ho' e he hb => by
          rw [ho] at ho'
          cases ho'
          exact hdep e he hb)
        rwa [lset_get (by omega)] at h1

/-- **A region of makers**, two operations behind it, one after the other. -/
theorem s_mk2 {id : Nat} (ms : List Mk) (hmx : E.P.follows .mixedOrders = true) (hok : mkOk2 ops ms fr = true) (hstep : ∀ i, i < ms.length → MkStep E ops ms fr i)
    {o1 o2 : Oper} (ho1 : ops[ms.length]? = some o1) (ho2 : ops[ms.length + 1]? = some o2) (hg1 : o1.guard = none) (hg2 : o2.guard = none)
    (hr1 : Region.ready .any ops (lset ops (List.range ms.length)) = [ms.length]) (hr2 : Region.ready .any ops (lset ops (ms.length :: List.range ms.length)) = [ms.length + 1])
    (hr3 : Region.ready .any ops (lset ops ((ms.length + 1) :: ms.length :: List.range ms.length)) = [])
    (hlast : ∀ (B : Nat → Nat), EV1 E o1 (depFr ms B (List.range ms.length) fr) (ownAll ms B (List.range ms.length) ++ U) (fun fr' U' => EV1 E o2 fr' U' (EVS E K k))) : EVS E K (.code (.region id ops true) :: k) fr U := by
  intro a w hf hmem
  refine wp_region_any hmx ?_
  have := mk_core2 (U0 := U) hok hstep (K := K) (k := k) (fun B fr' U' done hsub hlk hcon hnd hlt hent fuel a' w' hfu hf' hm' => by
    have hp : done.Perm (List.range ms.length) := by
      rw [List.perm_ext_iff_of_nodup hnd List.nodup_range]
      intro j
      constructor
      · intro hj; exact List.mem_range.2 (hlt j hj)
      · intro hj; have := hcon j (List.mem_range.1 hj); simpa using this
    have hls : lset ops done = lset ops (List.range ms.length) := by
      apply Array.ext
      · simp [lset]
      · intro i h1 h2
        simp only [lset, Array.getElem_map, Array.getElem_range]
        rw [Bool.eq_iff_iff, List.contains_iff_mem, List.contains_iff_mem]
        exact hp.mem_iff
    rw [hls]
    obtain ⟨f, rfl⟩ : ∃ f, fuel = f + 2 := ⟨fuel - 2, by omega⟩
    refine ⟨(by intro h0; rw [hr1] at h0; cases h0), fun i hi => ?_⟩
    rw [hr1, List.mem_singleton] at hi
    subst hi
    unfold wpOp
    have hw : Region.wanted o1 (yielded ops a'.tmps) = true := by simp [Region.wanted, hg1]
    simp only [ho1, hw, if_true]
    refine .inl (Oper.wp_mono2 ?_ (hlast B a' w' (hf'.sub (depFr_sub hsub _ (fun j _ m hm => hlk j m hm))) (hm'.ent (hent.trans (ownAll_perm hp U)))))
    rintro a2 w2 ⟨fr2, U2, h2, hf2, hm2⟩
    rw [lset_cons]
    refine ⟨(by intro h0; rw [hr2] at h0; cases h0), fun i hi => ?_⟩
    rw [hr2, List.mem_singleton] at hi
    subst hi
    unfold wpOp
    have hw : Region.wanted o2 (yielded ops a2.tmps) = true := by simp [Region.wanted, hg2]
    simp only [ho2, hw, if_true]
    refine .inl (Oper.wp_mono2 ?_ (h2 a2 w2 hf2 hm2))
    rintro a3 w3 ⟨fr3, U3, h3, hf3, hm3⟩
    rw [lset_cons]
    exact wpAny_done hr3 ⟨fr3, U3, h3, hf3, hm3⟩ f)
    ops.size [] (fun _ => 0) fr U a { w with drawn := w.drawn + 1 } (by
      have := List.length_filter_le (fun j => !([] : List Nat).contains j) (List.range ops.size)
      rw [List.length_range] at this
      exact this) List.nodup_nil (fun j hj => by cases hj) (fun j hj => by cases hj) (Sub.refl _) (fun j hj => by cases hj) (Ent.refl _) hf hmem.drew
  rw [lset_nil] at this
  exact this

/-! ### copies -/
/-- append(nil, l...): a copy of a slice that is read, as one's own. -/
theorem o_copyO {α : Type} {k : Kd α} {bytes : Nat} {d : Nat} {t e : TypeId} {x y : Operand} {ty : TypeId} {pos : String} {af : Array Edge} {g : Option (Nat × Bool)} {s1 b1 : Nat} {z1 : List Value} {i : TI}
    {A : Option Addr} {n c : Nat} {xs : List α} (enc : α → List Value) (hk : ∀ w S cs x, k.R w S cs x → cs = enc x) (ho : OneC k)
    (ht : tl E.T t = some ⟨.slice e, s1, b1, z1⟩) (he : tl E.T e = some i) (hx : val fr x = some (.slice none 0 0)) (hy : val fr y = some (.slice A n c)) (hn : n = xs.length)
    (hr : Can E U ((kslice bytes k).rd [.slice A n c] xs)) (hsz : i.size = k.sz) (hbb : i.bytes = bytes) (hby : n * bytes ≤ 140737488355328) (hp : Nat.ble 1 bytes = true)
    (hzl : Nat.beq i.zero.length i.size = true) (hd : Nat.ble (d + 1) E.n = true)
    (h : ∀ A' c', N ((d, .slice A' n c') :: fr) (osl e k.sz (.slice A' n c') n (xs.flatMap enc) :: U)) :
    EV1 E ⟨some d, .call ⟨.builtin .append, #[x, y], #[t, t]⟩, ty, pos, af, g⟩ fr U N := by
  have hp' := Nat.le_of_ble_eq_true hp
  intro a w hfr hm
  obtain ⟨S, hs, hS⟩ := hm.own
  obtain ⟨A2, c2, hA, hc, _, hels⟩ := hr w S hm.same hs
  simp only [List.cons.injEq, Value.slice.injEq, and_true] at hA
  obtain ⟨rfl, _, rfl⟩ := hA
  by_cases hn0 : n = 0
  · subst hn0
    have hxs : xs = [] := List.eq_nil_of_length_eq_zero hn.symm
    subst hxs
    have h0 := n_append0 (E := E) (fr := fr) (U := U) (c := 0) ht he hx hy (Nat.le_refl _) a w (some d) ty pos af g hfr hm
    unfold Oper.wp
    rw [h0]
    exact ⟨_, _, h none 0, hfr.put (Nat.le_of_ble_eq_true hd) _, hm.ent (Ent.osl0 (Ent.refl _))⟩
  · have hx0 : 0 < xs.length := by omega
    obtain ⟨b, o, es, rfl, _, _, _⟩ := hels 0 hx0
    obtain ⟨ess, hl, hR, hlen, hcell⟩ := els_cells hels
    have h63 : n ≤ 9223372036854775807 := by
      have : n * 1 ≤ n * bytes := Nat.mul_le_mul_left _ hp'
      omega
    have hfl : ess.flatten.length = n * i.size := by
      rw [List.length_flatten, hsz, hn, ← hl]
      have : ess.map List.length = ess.map fun _ => k.sz := List.map_congr_left hlen
      rw [this]
      clear this hcell hR hlen hl
      induction ess with
      | nil => simp
      | cons e0 ess ih => simp only [List.map_cons, List.sum_cons, ih, List.length_cons, Nat.succ_mul]; omega
    have hone : ∀ u ∈ ess.flatten, oneB u = true := by
      intro u hu
      rw [List.mem_flatten] at hu
      obtain ⟨es', hes, hu⟩ := hu
      obtain ⟨i', hi', rfl⟩ := List.getElem_of_mem hes
      exact ho w _ _ _ (hR i' hi' (by omega)) u hu
    obtain ⟨dd, sz, bts, z⟩ := i
    obtain ⟨inf, zv, hinf, hzv, hs', hbb', hzc⟩ := ti_info he
    have hzsize : zv.cells.size = inf.size := by rw [hzc, hs']; simpa using Nat.eq_of_beq_eq_true hzl
    simp only at hfl hsz hbb
    subst hs'
    subst hbb'
    subst hbb
    have hO0 : w.ownsRow 0 e inf.size (.slice none 0 0) 0 [] := ⟨by simp, .inl ⟨rfl, rfl⟩⟩
    obtain ⟨b', c', w', hrun, hO', hgr, hb'⟩ := append_own2 (P := E.P) w t ty e inf zv (u_slice ht) hinf hzv hzsize (.slice none 0 0) 0 [] hO0 ⟨b, o, none⟩ n c ess.flatten hfl
      (fun j u hu => by rw [add_at]; exact hcell j u hu) (fun u hu => oneB_eq (hone u hu)) (by omega) (by omega) (by simpa using hby)
    have hst := step_grown hgr
    have hbe : b' = w.heap.size := by
      rcases hb' with h | h
      · cases h
      · exact h
    have hblt : b' < w'.heap.size := (World.ownsRow.lt hO' b' rfl).2
    unfold Oper.wp execOp
    simp only [resolve, invoke, builtin, Sem.run_bind, Sem.run_pure, Result.andThen_ok, List.map_toArray, List.map_cons, List.map_nil, hfr.eval hx, hfr.eval hy, hrun]
    rw [Nat.zero_add, List.nil_append, hsz] at hO'
    rw [Nat.zero_add]
    refine ⟨_, _, h (some ⟨b', 0, none⟩) c', hfr.put (Nat.le_of_ble_eq_true hd) _, hm.new (T1 := fun q => q = b') ⟨hst.os, hst.tape, hst.output, hst.size, fun q hq _ => hst.same q hq (by intro e; cases e)⟩ ?_ ?_⟩
    · have hfe : xs.flatMap enc = ess.flatten := by
        rw [List.flatMap_def]
        congr 1
        apply List.ext_getElem (by simp [hl])
        intro i h1 h2
        rw [List.getElem_map]
        exact (hk _ _ _ _ (hR i h2 (by simpa using h1))).symm
      rw [hfe]
      exact ⟨hO', fun q hq => by simpa [Value.ownBlock] using hq.symm⟩
    · rintro q rfl
      exact ⟨hblt, by omega⟩


/-- One's own slice of data that hold no address, read. -/
theorem ent_flat {α : Type} {kd : Kd α} {bytes n c : Nat} {e : TypeId} {A : Option Addr} {xs : List α} (enc : α → List Value) (henc : ∀ w S, ∀ x ∈ xs, kd.R w S (enc x) x) (hn : n = xs.length) (hb : n * bytes ≤ 140737488355328) :
    Ent (osl e kd.sz (.slice A n c) n (xs.flatMap enc) :: U) (rdA (kslice bytes kd) [.slice A n c] xs :: U) :=
  Ent.one fun w S h1 => by
    rw [List.flatMap_def] at h1
    obtain ⟨h3, h4⟩ := osl_elsG (S := S) h1 (fun _ h => h) (by simp) hn fun i h1 h2 => by
      rw [List.getElem_map]; exact henc w S _ (List.getElem_mem _)
    subst hn
    exact ⟨A, c, rfl, h4, hb, h3⟩

theorem ent_take {α : Type} {kd : Kd α} {bytes n m c : Nat} {A : Option Addr} {xs : List α} (hm : m ≤ n) : Ent (rdA (kslice bytes kd) [.slice A n c] xs :: U) (rdA (kslice bytes kd) [.slice A m c] (xs.take m) :: U) :=
  Ent.one fun w S ⟨A', c', e, h1, h2, h3⟩ => by
    simp only [List.cons.injEq, Value.slice.injEq, and_true] at e
    obtain ⟨rfl, rfl, rfl⟩ := e
    have hl : (xs.take m).length = m := by rw [List.length_take]; omega
    refine ⟨A, c, by rw [hl], by omega, Nat.le_trans (Nat.mul_le_mul_right _ (by omega)) h2, fun i hi => ?_⟩
    obtain ⟨b, o, es, q1, q2, q3, q4⟩ := h3 i (by omega)
    exact ⟨b, o, es, q1, q2, by rw [List.getElem_take]; exact q3, q4⟩

/-- l[:q] -/
theorem n_head {t e : TypeId} {x : Operand} {s1 b1 : Nat} {z1 : List Value} {i : TI} {A : Option Addr} {n c : Nat} {kk : IntKind} (q : Nat) {q' : Int}
    (ht : tl E.T t = some ⟨.slice e, s1, b1, z1⟩) (he : tl E.T e = some i) (hx : val fr x = some (.slice A n c)) (hq' : q' = (q : Int)) (hq : q ≤ c) :
    NEV E (.slice t x none (some (.const (.int kk q'))) none) fr U (.slice A q c) := by
  intro a w dst ty pos af g hf _
  subst hq'
  obtain ⟨dd, sz, bytes, z⟩ := i
  obtain ⟨inf, zv, hinf, hzv, hs, hbb, hzc⟩ := ti_info he
  have hu := u_slice ht
  have hel : E.P.elem t = e := by simp [Program.elem, hu]
  have hsz : (sizeOf e).run E.P w = .ok sz w := by simp [sizeOf, run_info hinf, hs]
  have hr := run_slice_h (P := E.P) (w := w) t A n c (by rw [hel]; exact hu) kk (q : Int) (by omega) (by omega)
  rw [hel, hsz] at hr
  have ha := run_sliceAt_slice (P := E.P) (w := w) t (.slice A n c) none (some (.int kk (q : Int))) none (by rw [hel]; exact hu)
  rw [hr] at ha
  have hev : a.eval (.const (.int kk (q : Int))) = .int kk (q : Int) := rfl
  have hA : (if c = 0 then A else A.map (·.add (0 * sz))) = A := by
    split
    · rfl
    · cases A <;> simp [Addr.add]
  simp [execOp, hf.eval hx, hev, ha, sliced, Result.andThen]
  cases A <;> simp [Addr.add]

theorem s_blockJ {c : Code} {id : Nat} {ι : Type} (frX : ι → Frm) (UX : ι → List Asn) (h : (∀ x, EVS E K k (frX x) (UX x)) → EVS E K (.code c :: .blk id :: k) fr U) (hfin : ∀ x, EVS E K k (frX x) (UX x)) :
    EVS E K (.code (.block id c) :: k) fr U := s_block (h hfin)

theorem kint_is (w : World) (S : BSet) (cs : List Value) (x : Int) (h : kint.R w S cs x) : cs = [.int .i64 x] := h.1
theorem kstr_is (w : World) (S : BSet) (cs : List Value) (x : ByteArray) (h : kstr.R w S cs x) : cs = [.string x] := h

/-! ### several data of a kind, in a slice -/
theorem Can.rdL {α : Type} {kd : Kd α} {ess : List (List Value)} {xs : List α} {U' : List Asn} (ht : Tak (rdL kd ess xs) U U') (j : Nat) (h1 : j < ess.length) (h2 : j < xs.length) : Can E U (kd.rd ess[j] xs[j]) :=
  Can.of fun _ _ hs => by
    obtain ⟨_, ⟨_, h⟩, hsub⟩ := ht.mem hs
    exact kd.mono hsub (h j h1 h2)

theorem s_rdL {α : Type} {kd : Kd α} {ess : List (List Value)} {xs : List α} {U' : List Asn} {c : Code} (ht : Tak (rdL kd ess xs) U U') (h : ess.length = xs.length → (∀ es ∈ ess, es.length = kd.sz) → EVS E K (.code c :: k) fr U) : EVS E K (.code c :: k) fr U := by
  intro a w hf hme
  obtain ⟨S1, ⟨hl, hr⟩, _⟩ := hme.tak ht
  refine h hl (fun es hes => ?_) a w hf hme
  obtain ⟨i, hi, rfl⟩ := List.getElem_of_mem hes
  exact kd.len (hr i hi (by omega))

theorem flatten_take {sz : Nat} : ∀ (ess : List (List Value)) (_ : ∀ es ∈ ess, es.length = sz) (j : Nat) (h : j < ess.length), (ess.flatten.drop (j * sz)).take sz = ess[j] ∧ (j + 1) * sz ≤ ess.flatten.length
  | [], _, j, h => absurd h (Nat.not_lt_zero _)
  | e0 :: ess, hall, j, h => by
    have h0 := hall e0 (List.mem_cons_self ..)
    rw [List.flatten_cons]
    cases j with
    | zero =>
      refine ⟨?_, by rw [List.length_append]; omega⟩
      rw [Nat.zero_mul, List.drop_zero, List.take_append_of_le_length (by omega), List.take_of_length_le (by omega)]; rfl
    | succ j =>
      obtain ⟨h1, h2⟩ := flatten_take ess (fun es hes => hall es (List.mem_cons_of_mem _ hes)) j (by simpa using h)
      refine ⟨?_, by rw [List.length_append]; have : (j + 1 + 1) * sz = sz + (j + 1) * sz := by rw [Nat.succ_mul, Nat.add_comm]
                     omega⟩
      have e : (j + 1) * sz = e0.length + j * sz := by rw [Nat.succ_mul, h0, Nat.add_comm]
      rw [e, List.drop_append, List.drop_of_length_le (by omega)]
      have e2 : e0.length + j * sz - e0.length = j * sz := by omega
      rw [e2, List.nil_append]
      simpa using h1

theorem load_flat {i : TI} {sz : Nat} {ess : List (List Value)} (hall : ∀ es ∈ ess, es.length = sz) {j o : Nat} (h : j < ess.length) (ha : aggB i.d = true) (hs : i.size = sz) (ho : o = j * sz) : loadL i ess.flatten o = some (.agg ess[j].toArray) := by
  obtain ⟨h1, h2⟩ := flatten_take ess hall j h
  subst ho
  unfold loadL
  have : Nat.ble (j * sz + i.size) ess.flatten.length = true := by rw [Nat.ble_eq, hs]; rw [Nat.succ_mul] at h2; exact h2
  rw [hs] at this
  simp only [ha, hs, cond_true, this, h1]

end Go.Proofs.Ytbfjnldneemmiab.E
