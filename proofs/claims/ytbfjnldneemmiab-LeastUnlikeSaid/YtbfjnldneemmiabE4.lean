/-
  The engine, fourth part: calls, a function from its beginning to its end, regions that draw their order.
-/
import Derived.Test.YtbfjnldneemmiabE3
namespace Go.Proofs.Ytbfjnldneemmiab.E
set_option linter.all false
variable {E : Env} {fr : Frm} {U : List Asn} {N : Frm → List Asn → Prop}

/-- What is read, and not written: it hangs on the blocks of a set alone, and on no more if the set grows. -/
structure Rd where
  P : World → BSet → Prop
  fr : ∀ (w w' : World) (S : BSet), (∀ b, S b → w'.heap[b]? = w.heap[b]?) → P w S → P w' S
  mono : ∀ (w : World) (S S' : BSet), (∀ b, S b → S' b) → P w S → P w S'

def Rd.tt : Rd := ⟨fun _ _ => True, fun _ _ _ _ _ => trivial, fun _ _ _ _ _ => trivial⟩
def Rd.and (A B : Rd) : Rd := ⟨fun w S => A.P w S ∧ B.P w S, fun w w' S h ⟨a, b⟩ => ⟨A.fr w w' S h a, B.fr w w' S h b⟩, fun w S S' h ⟨a, b⟩ => ⟨A.mono w S S' h a, B.mono w S S' h b⟩⟩
def Rd.pure (p : Prop) : Rd := ⟨fun _ _ => p, fun _ _ _ _ h => h, fun _ _ _ _ h => h⟩

/-- The function is entered by a call. -/
def Enters (P : Program) (f : FuncId) : Prop := ∀ args w, (callFunc f args).run P w = .ok (.enter f args) w

theorem enters_of {P : Program} {f : FuncId} {fn : Func} (h : P.funcs[f]? = some fn) (hn : (fn.name == "runtime.NumGoroutine") = false) (hb : fn.body.isNone = false) : Enters P f := by
  intro args w
  have hn' : ¬ fn.name = "runtime.NumGoroutine" := by simpa using hn
  have hb' : ¬ fn.body = none := by intro e; rw [e] at hb; simp at hb
  simp [callFunc, h, hn', hb']

/-- What a call does: from owned blocks Ms, reading R, it comes back with a value and owned blocks; all else is as it was. -/
structure Trip (P : Program) (f : FuncId) (args : List Value) (R : Rd) (Ms : List Asn) (Q : Value → List Asn → Prop) : Prop where
  enters : Enters P f
  calls : ∀ (w : World) (SM : BSet), (∀ b, SM b → b < w.heap.size) → star Ms w SM → R.P w (fun b => b < w.heap.size ∧ ¬ SM b) →
    Calls P f args.toArray w fun e w' => ∃ v V S, e = .returned v ∧ Q v V ∧ star V w' S ∧ (∀ b, S b → b < w'.heap.size ∧ (w.heap.size ≤ b ∨ SM b)) ∧ Step w w' SM

theorem Trip.mono {P : Program} {f : FuncId} {args : List Value} {R R' : Rd} {Ms : List Asn} {Q Q' : Value → List Asn → Prop} (h : Trip P f args R Ms Q)
    (hr : ∀ w S, R'.P w S → R.P w S) (hq : ∀ v V, Q v V → Q' v V) : Trip P f args R' Ms Q' :=
  ⟨h.enters, fun w SM h1 h2 h3 => (h.calls w SM h1 h2 (hr _ _ h3)).mono fun _ _ ⟨v, V, S, a, b, c⟩ => ⟨v, V, S, a, hq v V b, c⟩⟩

/-- Ms are taken out of U; U' is left. -/
inductive Pic : List Asn → List Asn → List Asn → Prop
  | nil {X} : Pic [] X X
  | cons {A Ms X X1 X2} : Tak A X X1 → Pic Ms X1 X2 → Pic (A :: Ms) X X2

theorem Pic.star {Ms U U' : List Asn} (h : Pic Ms U U') {w : World} {S : BSet} (hs : star U w S) : star (Ms ++ U') w S := by
  induction h generalizing S with
  | nil => exact hs
  | cons ht _ ih =>
    obtain ⟨S1, S2, h1, h2, hd, i1, i2⟩ := ht.star hs
    exact ⟨S1, S2, h1, ih h2, hd, i1, i2⟩

/-- R can be read: out of what was there, and the owned blocks U. -/
def Can (E : Env) (U : List Asn) (R : Rd) : Prop :=
  ∀ (w : World) (S : BSet), (∀ b, E.ro b → w.heap[b]? = E.w0.heap[b]?) → star U w S → R.P w (fun b => E.ro b ∨ S b)

theorem Can.tt : Can E U Rd.tt := fun _ _ _ _ => trivial
theorem Can.ro {R : Rd} (h : R.P E.w0 E.ro) : Can E U R := fun w _ ha _ => R.mono w E.ro _ (fun _ hb => .inl hb) (R.fr E.w0 w E.ro ha h)
theorem Can.and {A B : Rd} (h : Can E U A) (h' : Can E U B) : Can E U (A.and B) := fun w S ha hs => ⟨h w S ha hs, h' w S ha hs⟩
theorem Can.pure {p : Prop} (h : p) : Can E U (Rd.pure p) := fun _ _ _ _ => h

theorem call_core {P : Program} (hP : P = E.P) {f : FuncId} {vs : List Value} {R : Rd} {Ms U' : List Asn} {Q : Value → List Asn → Prop} (ht : Trip P f vs R Ms Q) (hp : Pic Ms U U') (hR : Can E U' R)
    {w : World} (hm : Mem E U w) {R2 : Ending → World → Prop} (h : ∀ v V w', Q v V → Mem E (V ++ U') w' → R2 (.returned v) w') : Calls E.P f vs.toArray w R2 := by
  subst hP
  obtain ⟨S, hs, hb⟩ := hm.own
  obtain ⟨S1, S2, h1, h2, hd, i1, i2⟩ := star_split (hp.star hs)
  refine (ht.calls w S1 (fun b h => (hb b (i1 b h)).1) h1 (R.mono _ _ _ ?_ (hR w S2 hm.same h2))).mono ?_
  · rintro b (hro | hS)
    · refine ⟨Nat.lt_of_lt_of_le hro.1 hm.size, fun hc => ?_⟩
      rcases (hb b (i1 b hc)).2 with h | h
      · have := hro.1; omega
      · exact hro.2 h
    · exact ⟨(hb b (i2 b hS)).1, fun hc => hd b hc hS⟩
  · rintro e w' ⟨v, V, T, rfl, hQ, hV, hT, hst⟩
    refine h v V w' hQ ⟨hst.os.trans hm.os, hst.tape.trans hm.tape, hst.output.trans hm.output, Nat.le_trans hm.size hst.size, ?_, fun b => T b ∨ S2 b, star_append hV ?_ ?_, ?_⟩
    · intro b hro
      rw [hst.same b (Nat.lt_of_lt_of_le hro.1 hm.size) (fun hc => by
        rcases (hb b (i1 b hc)).2 with h | h
        · have := hro.1; omega
        · exact hro.2 h)]
      exact hm.same b hro
    · exact star_fr _ _ _ _ (fun b h => hst.same b (hb b (i2 b h)).1 (fun hc => hd b hc h)) h2
    · intro b h1 h2
      rcases (hT b h1).2 with h | h
      · have := (hb b (i2 b h2)).1; omega
      · exact hd b h h2
    · rintro b (h | h)
      · refine ⟨(hT b h).1, ?_⟩
        rcases (hT b h).2 with h2 | h2
        · exact .inl (Nat.le_trans hm.size h2)
        · exact (hb b (i1 b h2)).2
      · exact ⟨Nat.lt_of_lt_of_le (hb b (i2 b h)).1 hst.size, (hb b (i2 b h)).2⟩

/-- A call of a function by its name. -/
theorem o_call {d : Nat} {f : FuncId} {args : Array Operand} {ts : Array TypeId} {ty : TypeId} {pos : String} {af : Array Edge} {g : Option (Nat × Bool)} {vs : List Value} {R : Rd} {Ms U' : List Asn}
    {Q : Value → List Asn → Prop} (ht : Trip E.P f vs R Ms Q) (hv : vals fr args.toList = some vs) (hp : Pic Ms U U') (hR : Can E U' R) (hd : Nat.ble (d + 1) E.n = true)
    (h : ∀ v V, Q v V → N ((d, v) :: fr) (V ++ U')) : EV1 E ⟨some d, .call ⟨.value (.func f), args, ts⟩, ty, pos, af, g⟩ fr U N := by
  intro a w hf hm
  have ha : args.map a.eval = vs.toArray := by rw [← hf.evals hv, map_arr]
  unfold Oper.wp execOp
  simp only [resolve, Act.eval, Deferred.ofValue, Sem.run_bind, Sem.run_pure, Result.andThen_ok, invoke, ha, Array.empty_append, Array.append_empty, ht.enters _ _]
  refine call_core rfl ht hp hR hm (R2 := _) ?_
  intro v V w' hQ hm'
  exact ⟨_, _, h v V hQ, hf.put (Nat.le_of_ble_eq_true hd) _, hm'⟩

/-- A call of a function value. -/
theorem o_callv {d : Nat} {x : Operand} {f : FuncId} {l m : List Value} {args : Array Operand} {ts : Array TypeId} {ty : TypeId} {pos : String} {af : Array Edge} {g : Option (Nat × Bool)} {vs : List Value} {R : Rd} {Ms U' : List Asn}
    {Q : Value → List Asn → Prop} (hx : val fr x = some (.func (.func f) l.toArray m.toArray)) (ht : Trip E.P f (l ++ vs ++ m) R Ms Q) (hv : vals fr args.toList = some vs) (hp : Pic Ms U U') (hR : Can E U' R)
    (hd : Nat.ble (d + 1) E.n = true) (h : ∀ v V, Q v V → N ((d, v) :: fr) (V ++ U')) : EV1 E ⟨some d, .call ⟨.value x, args, ts⟩, ty, pos, af, g⟩ fr U N := by
  intro a w hf hm
  have ha : args.map a.eval = vs.toArray := by rw [← hf.evals hv, map_arr]
  have hargs : l.toArray ++ vs.toArray ++ m.toArray = (l ++ vs ++ m).toArray := by simp
  unfold Oper.wp execOp
  simp only [resolve, hf.eval hx, Deferred.ofValue, Sem.run_bind, Sem.run_pure, Result.andThen_ok, invoke, ha, hargs, ht.enters _ _]
  refine call_core rfl ht hp hR hm (R2 := _) ?_
  intro v V w' hQ hm'
  exact ⟨_, _, h v V hQ, hf.put (Nat.le_of_ble_eq_true hd) _, hm'⟩

/-! ### a function -/
def argFr : List Value → Nat → Frm
  | [], _ => []
  | v :: vs, k => (k, v) :: argFr vs (k + 1)

theorem look_argFr : ∀ (vs : List Value) (k d : Nat) (v : Value), look (argFr vs k) d = some v → k ≤ d ∧ vs[d - k]? = some v
  | [], _, _, _, h => by simp [argFr, look] at h
  | u :: vs, k, d, v, h => by
    simp only [argFr, look] at h
    cases hb : Nat.beq k d with
    | true =>
      have := Nat.eq_of_beq_eq_true hb
      subst this
      simp only [hb, cond_true, Option.some.injEq] at h
      subst h; simp
    | false =>
      simp only [hb, cond_false] at h
      obtain ⟨h1, h2⟩ := look_argFr vs (k + 1) d v h
      refine ⟨by omega, ?_⟩
      rw [show d - k = (d - (k + 1)) + 1 from by omega]
      simpa using h2

/-- What the function hands back. -/
def Res (E : Env) (fn : Func) (fr : Frm) (U : List Asn) (v : Value) : Prop :=
  ∀ a w, Fr E fr a → Mem E U w → (results fn a.tmps).run E.P w = .ok v w

theorem res0 {fn : Func} (h : fn.results = #[]) : Res E fn fr U (.tuple #[]) := fun a w _ _ => results_none h a.tmps E.P w
theorem res1 {fn : Func} {t : Tmp} {v : Value} (h : fn.results = #[.tmp t]) (hv : look fr t = some v) : Res E fn fr U v := fun a w hf _ => by
  rw [results_tmp h, Array.getD_eq_getD_getElem?, hf.frm t v hv]; rfl
theorem res2 {fn : Func} {t t2 : Tmp} {v v2 : Value} (h : fn.results = #[.tmp t, .tmp t2]) (hv : look fr t = some v) (hv2 : look fr t2 = some v2) : Res E fn fr U (.tuple #[v, v2]) := fun a w hf _ => by
  simp [results, h, hf.frm t v hv, hf.frm t2 v2 hv2]
theorem res3 {fn : Func} {t t2 t3 : Tmp} {v v2 v3 : Value} (h : fn.results = #[.tmp t, .tmp t2, .tmp t3]) (hv : look fr t = some v) (hv2 : look fr t2 = some v2) (hv3 : look fr t3 = some v3) :
    Res E fn fr U (.tuple #[v, v2, v3]) := fun a w hf _ => by
  simp [results, h, hf.frm t v hv, hf.frm t2 v2 hv2, hf.frm t3 v3 hv3]
/-- A result that lies in a variable of its own. -/
theorem resc {fn : Func} {p : Tmp} {t : TypeId} {i : TI} {b : Nat} {T : TypeId} {cs : List Value} {v : Value} {U' : List Asn} (h : fn.results = #[.cell p t]) (hp : look fr p = some (.pointer (some ⟨b, 0, none⟩)))
    (ht : tl E.T t = some i) (hU : Tak (blk b T cs) U U') (hl : loadL i cs 0 = some v) : Res E fn fr U v := fun a w hf hm => by
  obtain ⟨S1, ⟨_, hb⟩, _⟩ := hm.tak hU
  have hc : ∀ j u, cs[j]? = some u → w.cell? ⟨b, j, none⟩ = some u := fun j u hu => by rw [cell_of_row w b j _ _ _ hb]; simpa using hu
  have := hf.frm p _ hp
  simp [results, h, this, asAddr, run_loadVar ht hc hl]

/-- From the beginning of a function to its end. -/
theorem trip {P : Program} {T : Tab} (hT : TabOk P T) {f : FuncId} {fn : Func} {c : Code} {n : Nat} {args : List Value} {R : Rd} {Ms : List Asn} {Q : Value → List Asn → Prop}
    (hf : P.funcs[f]? = some fn) (hn : (fn.name == "runtime.NumGoroutine") = false) (hb : fn.body = some c) (hnt : fn.ntmps = n) (hle : Nat.ble args.length n = true)
    (h : ∀ (w : World) (SM : BSet), R.P w (fun b => b < w.heap.size ∧ ¬ SM b) →
      EVS ⟨P, T, hT, n, w, SM⟩ (fun fr U => ∃ v V, Res ⟨P, T, hT, n, w, SM⟩ fn fr U v ∧ Q v V ∧ Ent U V) [.code c] (argFr args 0) Ms) : Trip P f args R Ms Q := by
  refine ⟨enters_of hf hn (by rw [hb]; rfl), fun w SM hlt hs hR => ?_⟩
  have hle' := Nat.le_of_ble_eq_true hle
  have key := h w SM hR { tmps := args.toArray ++ Array.replicate (fn.ntmps - args.toArray.size) undef, defers := [] } w ?_ ?_
  · refine calls_of_wp hf hb (wp_mono key ?_)
    rintro e a' w' ⟨fr', U', he, hf', hm'⟩
    have fin : ∀ (fr' : Frm) (U' : List Asn), Fr ⟨P, T, hT, n, w, SM⟩ fr' a' → Mem ⟨P, T, hT, n, w, SM⟩ U' w' → (∃ v V, Res ⟨P, T, hT, n, w, SM⟩ fn fr' U' v ∧ Q v V ∧ Ent U' V) →
        a'.defers = [] ∧ ∃ v, (results fn a'.tmps).run P w' = .ok v w' ∧ ∃ v' V S, Ending.returned v = .returned v' ∧ Q v' V ∧ star V w' S ∧ (∀ b, S b → b < w'.heap.size ∧ (w.heap.size ≤ b ∨ SM b)) ∧ Step w w' SM := by
      rintro fr' U' hf' hm' ⟨v, V, hr, hQ, hE⟩
      obtain ⟨S, hs', hb'⟩ := hm'.own
      refine ⟨hf'.defers, v, hr a' w' hf' hm', v, V, S, rfl, hQ, hE w' S hs', hb', ⟨hm'.os, hm'.tape, hm'.output, hm'.size, fun b h1 h2 => hm'.same b ⟨h1, h2⟩⟩⟩
    cases e with
    | normal => exact fin fr' U' hf' hm' he
    | ret => rw [EVX_ret] at he; exact fin fr' U' hf' hm' he
    | exit id => exact he.elim
    | goto l => exact he.elim
    | panic ch => exact he.elim
    | outgrown => exact he.elim
  · refine ⟨rfl, by simp [hnt]; omega, fun d v hl => ?_⟩
    obtain ⟨_, h2⟩ := look_argFr args 0 d v hl
    simp only [Nat.sub_zero] at h2
    have hd : d < args.length := (List.getElem?_eq_some_iff.1 h2).1
    rw [Array.getElem?_append_left (by simpa using hd)]
    simpa using h2
  · exact ⟨rfl, rfl, rfl, Nat.le_refl _, fun _ _ => rfl, SM, hs, fun b hb => ⟨hlt b hb, .inr hb⟩⟩

/-! ### regions that draw their order -/
def lst (ops : Array Oper) (i : Nat) : Array Bool := (Array.range ops.size).map (fun j => Nat.blt j i)

theorem lst_zero (ops : Array Oper) : lst ops 0 = Array.replicate ops.size false := by
  apply Array.ext
  · simp [lst]
  · intro j h1 h2
    simp only [lst, Array.getElem_map, Array.getElem_range, Array.getElem_replicate]
    rfl

theorem lst_succ (ops : Array Oper) (i : Nat) : (lst ops i).setIfInBounds i true = lst ops (i + 1) := by
  apply Array.toList_inj.1
  apply List.ext_getElem?
  intro j
  simp only [lst, Array.toList_setIfInBounds, Array.toList_map, Array.toList_range, List.getElem?_set, List.getElem?_map, List.length_map, List.length_range]
  by_cases hj : j < ops.size
  · have e : (List.range ops.size)[j]? = some j := by simp [hj]
    by_cases hij : i = j
    · subst hij
      simp only [if_true, hj, e, Option.map_some]
      congr 1
      symm; rw [Nat.blt_eq]; exact Nat.lt_succ_self i
    · rw [if_neg hij]
      simp only [e, Option.map_some]
      congr 1
      rw [Bool.eq_iff_iff, Nat.blt_eq, Nat.blt_eq]; omega
  · have e : (List.range ops.size)[j]? = none := by simp; omega
    by_cases hij : i = j
    · subst hij; simp [e, hj]
    · rw [if_neg hij, e]; rfl

/-- The text's order is as good as any: each operation may come up in its turn; es are those that act: nothing else may come up beside them. -/
def lexOk (ops : Array Oper) (es : List Nat) : Bool :=
  Region.noSelect ops && (List.range ops.size).all fun i =>
    bif es.contains i then Region.ready .any ops (lst ops i) == [i] else (Region.ready .any ops (lst ops i)).contains i && Region.free .any ops (lst ops i) i

theorem lexOk_e {ops : Array Oper} {es : List Nat} (h : lexOk ops es = true) {i : Nat} (hi : i < ops.size) (he : es.contains i = true) : Region.ready .any ops (lst ops i) = [i] := by
  simp only [lexOk, Bool.and_eq_true, List.all_eq_true, List.mem_range] at h
  have := h.2 i hi
  simp only [he, cond_true] at this
  exact eq_of_beq this

theorem lexOk_n {ops : Array Oper} {es : List Nat} (h : lexOk ops es = true) {i : Nat} (hi : i < ops.size) (he : es.contains i = false) :
    (Region.ready .any ops (lst ops i)).contains i = true ∧ Region.free .any ops (lst ops i) i = true := by
  simp only [lexOk, Bool.and_eq_true, List.all_eq_true, List.mem_range] at h
  have := h.2 i hi
  simp only [he, cond_false, Bool.and_eq_true] at this
  exact this

theorem lexOk_s {ops : Array Oper} {es : List Nat} (h : lexOk ops es = true) : Region.noSelect ops = true := by
  simp only [lexOk, Bool.and_eq_true] at h; exact h.1

/-- The rest of a region that draws: V stays true till its end. -/
def EVL (E : Env) (K : Frm → List Asn → Prop) (k : List It) (ops : Array Oper) (es : List Nat) (V : List Asn) (i : Nat) (l : List Oper) (fr : Frm) (U : List Asn) : Prop :=
  lexOk ops es = true → ops.toList.drop i = l → ∀ a w, Fr E fr a → Mem E U w → wpAnyH E.P .any ops (post E K k) (fun w => Mem E V w) (ops.size - i) (lst ops i) a w

variable {K : Frm → List Asn → Prop} {k : List It} {ops : Array Oper} {es : List Nat} {V : List Asn} {i : Nat}

theorem s_draw {id : Nat} (es : List Nat) (V : List Asn) (hm : E.P.follows .mixedOrders = true) (hlex : lexOk ops es = true) (h : EVL E K k ops es V 0 ops.toList fr U) :
    EVS E K (.code (.region id ops true) :: k) fr U := by
  intro a w hf hmem
  refine wp_region_held (S := fun w => Mem E V w) hm ?_
  have := h hlex rfl a { w with drawn := w.drawn + 1 } hf hmem.drew
  rw [lst_zero, Nat.sub_zero] at this
  exact this

/-- All that is owned stays. -/
theorem s_drawU {id : Nat} (es : List Nat) (hm : E.P.follows .mixedOrders = true) (hlex : lexOk ops es = true) (h : EVL E K k ops es U 0 ops.toList fr U) :
    EVS E K (.code (.region id ops true) :: k) fr U := s_draw es U hm hlex h

/-- All that is owned stays, but for one thing. -/
theorem s_drawT {id : Nat} {A : Asn} (es : List Nat) (_ht : Tak A U V) (hm : E.P.follows .mixedOrders = true) (hlex : lexOk ops es = true) (h : EVL E K k ops es V 0 ops.toList fr U) :
    EVS E K (.code (.region id ops true) :: k) fr U := s_draw es V hm hlex h

theorem l_nil (h : EVS E K k fr U) : EVL E K k ops es V i [] fr U := by
  intro _ hl a w hf hm
  have hsz : ops.size ≤ i := by
    have := congrArg List.length hl
    simp at this; omega
  refine wpAnyH_done ?_ ⟨fr, U, h, hf, hm⟩ _
  unfold Region.ready
  rw [List.filter_eq_nil_iff]
  intro j hj
  simp only [List.mem_range] at hj
  have : (lst ops i).getD j true = true := by
    simp [lst, hj, Nat.blt_eq]; omega
  simp [this]

theorem drop_at {o : Oper} {l : List Oper} (h : ops.toList.drop i = o :: l) : i < ops.size ∧ ops[i]? = some o ∧ ops.toList.drop (i + 1) = l := by
  have hlt : i < ops.toList.length := by
    rcases Nat.lt_or_ge i ops.toList.length with h2 | h2
    · exact h2
    · rw [List.drop_eq_nil_of_le h2] at h; cases h
  rw [List.drop_eq_getElem_cons hlt, List.cons.injEq] at h
  refine ⟨by simpa using hlt, ?_, h.2⟩
  rw [← h.1]; simp

theorem post_panic {c : List PanicEntry} {a : Act} {w : World} {p : Prop} (h : post E K k (.panic c) a w) : p := by
  obtain ⟨_, _, he, _⟩ := h
  cases k with
  | nil => exact he.elim
  | cons x k => cases x <;> exact he.elim

theorem l_take {d : Nat} {o : Op} {ty : TypeId} {pos : String} {af : Array Edge} {g : Option (Nat × Bool)} {l : List Oper} {v : Value}
    (he : es.contains i = false) (hV : Ent U V) (hd : Nat.ble (d + 1) E.n = true)
    (hy : ∀ a, Fr E fr a → YieldsIf E.P ops (fun w => Mem E V w) ⟨some d, o, ty, pos, af, g⟩ v a)
    (h : EVL E K k ops es V (i + 1) l ((d, v) :: fr) U) : EVL E K k ops es V i (⟨some d, o, ty, pos, af, g⟩ :: l) fr U := by
  intro hlex hl a w hf hm
  obtain ⟨hlt, hi, hl'⟩ := drop_at hl
  obtain ⟨hr, hfree⟩ := lexOk_n hlex hlt he
  rw [show ops.size - i = (ops.size - (i + 1)) + 1 from by omega]
  refine wpAnyH_take hi (lexOk_s hlex) hfree hr (fun c a w h => post_panic h) (hy a hf) (hm.ent hV) ?_
  rw [lst_succ]
  exact h hlex hl' _ w (hf.put (Nat.le_of_ble_eq_true hd) _) hm

theorem l_n {d : Nat} {o : Op} {ty : TypeId} {pos : String} {af : Array Edge} {l : List Oper} {v : Value}
    (hn : NEV E o fr V v) (he : es.contains i = false) (hV : Ent U V) (hd : Nat.ble (d + 1) E.n = true)
    (h : EVL E K k ops es V (i + 1) l ((d, v) :: fr) U) : EVL E K k ops es V i (⟨some d, o, ty, pos, af, none⟩ :: l) fr U :=
  l_take he hV hd (fun a hf => .inl ⟨rfl, fun w hw => hn a w _ _ _ _ _ hf hw⟩) h

theorem l_ny {d : Nat} {o : Op} {ty : TypeId} {pos : String} {af : Array Edge} {l : List Oper} {v : Value} {j : Nat} {b : Bool} (hg : gval ops fr j = some b)
    (hn : NEV E o fr V v) (he : es.contains i = false) (hV : Ent U V) (hd : Nat.ble (d + 1) E.n = true)
    (h : EVL E K k ops es V (i + 1) l ((d, v) :: fr) U) : EVL E K k ops es V i (⟨some d, o, ty, pos, af, some (j, b)⟩ :: l) fr U :=
  l_take he hV hd (fun a hf => .inl ⟨by simp [Region.wanted, gval_yielded hf hg], fun w hw => hn a w _ _ _ _ _ hf hw⟩) h

/-- An operation that its guard bars. -/
theorem l_no {d : Nat} {o : Op} {ty : TypeId} {pos : String} {af : Array Edge} {l : List Oper} {j : Nat} {b b' : Bool} (hg : gval ops fr j = some b') (hb : Bool.xor b b' = true)
    (he : es.contains i = false) (hV : Ent U V) (hd : Nat.ble (d + 1) E.n = true)
    (h : EVL E K k ops es V (i + 1) l ((d, undef) :: fr) U) : EVL E K k ops es V i (⟨some d, o, ty, pos, af, some (j, b)⟩ :: l) fr U :=
  l_take he hV hd (fun a hf => .inr ⟨by
    simp only [Region.wanted, gval_yielded hf hg]
    cases b <;> cases b' <;> first | rfl | (simp at hb), rfl⟩) h

/-- For asking whether a guard is decided. -/
theorem e_dec (b' : Bool) {d : Option Tmp} {o : Op} {ty : TypeId} {pos : String} {af : Array Edge} {l : List Oper} {j : Nat} {b : Bool} (_hg : gval ops fr j = some b')
    (h : EVO E K k ops (⟨d, o, ty, pos, af, some (j, b)⟩ :: l) fr U) : EVO E K k ops (⟨d, o, ty, pos, af, some (j, b)⟩ :: l) fr U := h
theorem l_dec (b' : Bool) {d : Option Tmp} {o : Op} {ty : TypeId} {pos : String} {af : Array Edge} {l : List Oper} {j : Nat} {b : Bool} (_hg : gval ops fr j = some b')
    (h : EVL E K k ops es V i (⟨d, o, ty, pos, af, some (j, b)⟩ :: l) fr U) : EVL E K k ops es V i (⟨d, o, ty, pos, af, some (j, b)⟩ :: l) fr U := h

theorem l_part {d : Option Tmp} {o : Op} {ty : TypeId} {pos : String} {af : Array Edge} {l : List Oper} {j s : Nat} {b t : Bool}
    (_hs : (ops[j]?).bind (·.dst) = some s) (hl : look fr s = some (.bool t))
    (h1 : t = true → EVL E K k ops es V i (⟨d, o, ty, pos, af, some (j, b)⟩ :: l) ((s, .bool true) :: fr) U)
    (h2 : t = false → EVL E K k ops es V i (⟨d, o, ty, pos, af, some (j, b)⟩ :: l) ((s, .bool false) :: fr) U) : EVL E K k ops es V i (⟨d, o, ty, pos, af, some (j, b)⟩ :: l) fr U := by
  intro h0 h3 a w hf hm
  cases t
  · exact h2 rfl h0 h3 a w (hf.again hl) hm
  · exact h1 rfl h0 h3 a w (hf.again hl) hm

/-- An operation that acts, when nothing else may come up. -/
theorem l_act {d : Option Tmp} {o : Op} {ty : TypeId} {pos : String} {af : Array Edge} {g : Option (Nat × Bool)} {l : List Oper} (he : es.contains i = true)
    (hw : ∀ a, Fr E fr a → Region.wanted ⟨d, o, ty, pos, af, g⟩ (yielded ops a.tmps) = true)
    (h : EV1 E ⟨d, o, ty, pos, af, g⟩ fr U (fun fr' U' => Ent U' V ∧ EVL E K k ops es V (i + 1) l fr' U')) : EVL E K k ops es V i (⟨d, o, ty, pos, af, g⟩ :: l) fr U := by
  intro hlex hl a w hf hm
  obtain ⟨hlt, hi, hl'⟩ := drop_at hl
  have hr := lexOk_e hlex hlt he
  rw [show ops.size - i = (ops.size - (i + 1)) + 1 from by omega]
  refine wpAnyH_all hr (by simp) ?_
  intro j hj
  simp only [List.mem_singleton] at hj
  subst hj
  unfold wpOp
  simp only [hi, hw a hf, if_true]
  refine .inl (Oper.wp_mono2 ?_ (h a w hf hm))
  rintro a' w' ⟨fr', U', ⟨he', hk⟩, hf', hm'⟩
  refine ⟨hm'.ent he', ?_⟩
  rw [lst_succ]
  exact hk hlex hl' a' w' hf' hm'

theorem l_e {d : Option Tmp} {o : Op} {ty : TypeId} {pos : String} {af : Array Edge} {l : List Oper} (he : es.contains i = true)
    (h : EV1 E ⟨d, o, ty, pos, af, none⟩ fr U (fun fr' U' => Ent U' V ∧ EVL E K k ops es V (i + 1) l fr' U')) : EVL E K k ops es V i (⟨d, o, ty, pos, af, none⟩ :: l) fr U :=
  l_act he (fun _ _ => rfl) h

theorem l_ey {d : Option Tmp} {o : Op} {ty : TypeId} {pos : String} {af : Array Edge} {l : List Oper} {j : Nat} {b : Bool} (hg : gval ops fr j = some b) (he : es.contains i = true)
    (h : EV1 E ⟨d, o, ty, pos, af, some (j, b)⟩ fr U (fun fr' U' => Ent U' V ∧ EVL E K k ops es V (i + 1) l fr' U')) : EVL E K k ops es V i (⟨d, o, ty, pos, af, some (j, b)⟩ :: l) fr U :=
  l_act he (fun a hf => by simp [Region.wanted, gval_yielded hf hg]) h



end Go.Proofs.Ytbfjnldneemmiab.E
