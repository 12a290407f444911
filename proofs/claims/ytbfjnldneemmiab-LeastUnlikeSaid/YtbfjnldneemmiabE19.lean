/-
  The engine, nineteenth part: l[:n:n]; append behind it; maps that number.
-/
import Derived.Test.YtbfjnldneemmiabE18
namespace Go.Proofs.Ytbfjnldneemmiab.E
set_option linter.all false
variable {E : Env} {fr : Frm} {U V : List Asn} {N : Frm → List Asn → Prop}

/-- l[:n:n]. -/
theorem n_full {t e : TypeId} {x y z : Operand} {s1 b1 : Nat} {z1 : List Value} {i : TI} {A : Option Addr} {n c : Nat} {k1 k2 : IntKind} {q1 q2 : Int}
    (ht : tl E.T t = some ⟨.slice e, s1, b1, z1⟩) (he : tl E.T e = some i) (hx : val fr x = some (.slice A n c)) (hy : val fr y = some (.int k1 q1)) (hz : val fr z = some (.int k2 q2)) (h1 : q1 = (n : Int)) (h2 : q2 = (n : Int)) (hn : n ≤ c) :
    NEV E (.slice t x none (some y) (some z)) fr U (.slice A n n) := by
  intro a w dst ty pos af g hf _
  subst h1; subst h2
  obtain ⟨dd, sz, bytes, zz⟩ := i
  obtain ⟨inf, zv, hinf, hzv, hs, hbb, hzc⟩ := ti_info he
  have hu := u_slice ht
  have hel : E.P.elem t = e := by simp [Program.elem, hu]
  have hsz : (sizeOf e).run E.P w = .ok sz w := by simp [sizeOf, run_info hinf, hs]
  have hr := run_slice_any (P := E.P) (w := w) t A n c (by rw [hel]; exact hu) none (some (.int k1 (n : Int))) (some (.int k2 (n : Int)))
  have hb : (Instr.sliceBounds true n c none (some (.int k1 (n : Int))) (some (.int k2 (n : Int)))).run E.P w = .ok (0, n, n) w := by
    simp [Instr.sliceBounds, run_sliceBound, hn, (by omega : (n : Int) ≤ c)]
  rw [hb, hel] at hr
  simp only [Result.andThen_ok, hsz] at hr
  have ha := run_sliceAt_slice (P := E.P) (w := w) t (.slice A n c) none (some (.int k1 (n : Int))) (some (.int k2 (n : Int))) (by rw [hel]; exact hu)
  rw [hr] at ha
  simp [execOp, hf.eval hx, hf.eval hy, hf.eval hz, ha, sliced]
  cases A <;> simp [Addr.add]

/-- append(l[:n:n], m...): always anew. -/
theorem o_appendG {d : Nat} {t e : TypeId} {x y : Operand} {ty : TypeId} {pos : String} {af : Array Edge} {g : Option (Nat × Bool)} {s1 b1 : Nat} {z1 : List Value} {i : TI} {b0 o0 n : Nat} {xs : List Value}
    {g2 o2 m c2 : Nat} {news : List Value}
    (ht : tl E.T t = some ⟨.slice e, s1, b1, z1⟩) (he : tl E.T e = some i) (hx : val fr x = some (.slice (some ⟨b0, o0, none⟩) n n)) (hy : val fr y = some (.slice (some ⟨g2, o2, none⟩) m c2))
    (hol : ∀ w, Mem E U w → ∀ j u, xs[j]? = some u → w.cell? ⟨b0, o0 + j, none⟩ = some u) (hxl : xs.length = n * i.size)
    (hsrc : ∀ w, Mem E U w → ∀ j u, news[j]? = some u → w.cell? ⟨g2, o2 + j, none⟩ = some u) (hl : news.length = m * i.size)
    (hzl : Nat.beq i.zero.length i.size = true) (hm0 : 0 < m) (hby : (n + m) * i.bytes ≤ 140737488355328) (h63 : n + m ≤ 9223372036854775807) (hd : Nat.ble (d + 1) E.n = true)
    (h : ∀ b c, N ((d, .slice (some ⟨b, 0, none⟩) (n + m) c) :: fr) (osl e i.size (.slice (some ⟨b, 0, none⟩) (n + m) c) (n + m) (xs ++ news) :: U)) :
    EV1 E ⟨some d, .call ⟨.builtin .append, #[x, y], #[t, t]⟩, ty, pos, af, g⟩ fr U N := by
  intro a w hf hm
  obtain ⟨dd, sz, bytes, z⟩ := i
  obtain ⟨inf, zv, hinf, hzv, hs, hbb, hzc⟩ := ti_info he
  have hzs : zv.cells.size = inf.size := by rw [hzc, hs]; simpa using Nat.eq_of_beq_eq_true hzl
  simp only at hl hby hxl h
  subst hs
  subst hbb
  have hr := run_append_grow (P := E.P) w t ty e inf zv (u_slice ht) hinf hzv ⟨b0, o0, none⟩ n n xs hxl (fun j u hu => by rw [add_at]; exact hol w hm j u hu) ⟨g2, o2, none⟩ m c2 news hl
    (fun j u hu => by rw [add_at]; exact hsrc w hm j u hu) (by omega) (by omega) (growslice_fits (by omega) hby)
  have hlen : (xs ++ news).length = (n + m) * inf.size := by rw [List.length_append, hxl, hl, Nat.add_mul]
  have hge := grownCap_ge w (n + m) n e
  have hcm : grownCap w (n + m) n e ≤ maxLen := grownCap_le_maxLen w (n + m) n e (by rw [maxLen_eq]; exact h63)
  unfold Oper.wp execOp
  simp only [resolve, invoke, builtin, Sem.run_bind, Sem.run_pure, Result.andThen_ok, List.map_toArray, List.map_cons, List.map_nil, hf.eval hx, hf.eval hy, hr]
  refine ⟨_, _, h w.heap.size (grownCap w (n + m) n e), hf.put (Nat.le_of_ble_eq_true hd) _, ?_⟩
  refine hm.new (T1 := fun k => k = w.heap.size) ⟨rfl, rfl, rfl, by simp, fun k hk _ => heap_alloc_old w.drew _ hk⟩ ⟨⟨hlen, .inr ⟨w.heap.size, _, _, rfl, Nat.zero_le _, heap_alloc_new w.drew _, hge, hcm, ?_, ?_⟩⟩, ?_⟩ ?_
  · simp only [Array.size_append, List.size_toArray, size_zeroCells, hzs, hxl, hl, ← Nat.add_mul]
    congr 1
    omega
  · simp only [Array.toList_append, List.append_assoc]
    rw [← List.append_assoc, ← hlen]
    exact List.take_left
  · intro k hk; simp [Value.ownBlock] at hk; exact hk.symm
  · rintro k rfl
    exact ⟨by simp, Nat.le_refl _⟩

/-! ### a map that numbers things as they come -/
section num
variable {κ : Type} [DecidableEq κ]
def ix : List κ → κ → Nat
  | [], _ => 0
  | x :: u, k => if x = k then 0 else ix u k + 1

theorem ix_cons {u : List κ} {x k : κ} (h : ¬ x = k) : ix (x :: u) k = ix u k + 1 := by show (if x = k then 0 else ix u k + 1) = _; rw [if_neg h]

def asO : Nat → List κ → List (κ × Value)
  | _, [] => []
  | i, k :: u => (k, .int .i64 (i : Nat)) :: asO (i + 1) u

theorem asO_len : ∀ (i : Nat) (u : List κ), (asO i u).length = u.length
  | _, [] => rfl
  | i, _ :: u => by unfold asO; rw [List.length_cons, List.length_cons, asO_len]

theorem asO_look (k : κ) : ∀ (i : Nat) (u : List κ), lookK (asO i u) k = if k ∈ u then some (.int .i64 ((i + ix u k : Nat) : Int)) else none
  | _, [] => by simp [asO, lookK]
  | i, x :: u => by
    unfold asO
    have ih := asO_look k (i + 1) u
    unfold lookK at ih ⊢
    by_cases h : x = k
    · subst h
      rw [List.find?_cons_of_pos (by simp), if_pos List.mem_cons_self]
      simp [ix]
    · rw [List.find?_cons_of_neg (by simpa using h), ih]
      have h2 : ¬ k = x := fun e => h e.symm
      by_cases hm : k ∈ u
      · rw [if_pos hm, if_pos (List.mem_cons_of_mem _ hm)]
        rw [ix_cons h]
        congr 3; omega
      · rw [if_neg hm, if_neg (by rw [List.mem_cons]; exact fun h3 => h3.elim h2 hm)]

theorem asO_set (k : κ) : ∀ (i : Nat) (u : List κ), k ∉ u → setK k (.int .i64 ((i + u.length : Nat) : Int)) (asO i u) = asO i (u ++ [k])
  | i, [], _ => by simp [asO, setK]
  | i, x :: u, h => by
    rw [List.cons_append]
    unfold asO setK
    rw [if_neg (fun e : x = k => h (by rw [e]; exact List.mem_cons_self)), ← asO_set k (i + 1) u (fun h2 => h (List.mem_cons_of_mem _ h2))]
    have e : i + (x :: u).length = i + 1 + u.length := by rw [List.length_cons]; omega
    rw [e]

def asG (u : List κ) : List (κ × Value) := asO 0 u
theorem asG_len (u : List κ) : (asG u).length = u.length := asO_len 0 u
theorem asG_in {u : List κ} {k : κ} (h : k ∈ u) : lookK (asG u) k = some (.int .i64 (ix u k : Nat)) := by unfold asG; rw [asO_look, if_pos h, Nat.zero_add]
theorem asG_out {u : List κ} {k : κ} (h : k ∉ u) : lookK (asG u) k = none := by unfold asG; rw [asO_look, if_neg h]
theorem asG_set {u : List κ} {k : κ} (h : k ∉ u) : setK k (.int .i64 (u.length : Nat)) (asG u) = asG (u ++ [k]) := by
  have := asO_set k 0 u h
  rwa [Nat.zero_add] at this

variable {P : Program} {t kt e : TypeId} {s1 b1 : Nat} {z1 : List Value} {z : Value} {x y : Operand} {b : Nat} {k : κ} {enc : κ → Value} {u : List κ} {U' : List Asn}

theorem n_g2_in (hin : k ∈ u) (hP : E.P = P) (K : MKey P kt enc) (hz : ∀ w, (zeroValue e).run P w = .ok z w) (ht : tl E.T t = some ⟨.map kt e, s1, b1, z1⟩) (hx : val fr x = some (.map (some b))) (hy : val fr y = some (enc k)) (hU : Tak (mapA enc b (asG u)) U U') :
    NEV E (.lookup t x y true) fr U (.tuple #[.int .i64 (ix u k : Nat), .bool true]) := by
  have := n_lookup2 hP K hz ht hx hy hU
  rwa [asG_in hin] at this
theorem n_g2_out (hout : k ∉ u) (hP : E.P = P) (K : MKey P kt enc) (hz : ∀ w, (zeroValue e).run P w = .ok z w) (ht : tl E.T t = some ⟨.map kt e, s1, b1, z1⟩) (hx : val fr x = some (.map (some b))) (hy : val fr y = some (enc k)) (hU : Tak (mapA enc b (asG u)) U U') :
    NEV E (.lookup t x y true) fr U (.tuple #[z, .bool false]) := by
  have := n_lookup2 hP K hz ht hx hy hU
  rwa [asG_out hout] at this
theorem n_g_in (hin : k ∈ u) (hP : E.P = P) (K : MKey P kt enc) (hz : ∀ w, (zeroValue e).run P w = .ok z w) (ht : tl E.T t = some ⟨.map kt e, s1, b1, z1⟩) (hx : val fr x = some (.map (some b))) (hy : val fr y = some (enc k)) (hU : Tak (mapA enc b (asG u)) U U') :
    NEV E (.lookup t x y false) fr U (.int .i64 (ix u k : Nat)) := by
  have := n_lookup hP K hz ht hx hy hU
  rwa [asG_in hin] at this
theorem n_glen (ht : tl E.T t = some ⟨.map kt e, s1, b1, z1⟩) (hx : val fr x = some (.map (some b))) (hU : Tak (mapA enc b (asG u)) U U') : NEV E (.call ⟨.builtin .len, #[x], #[t]⟩) fr U (.int .i64 (u.length : Nat)) := by
  have := n_lenM ht hx hU
  rwa [asG_len] at this
theorem o_gup {w : Operand} {ty : TypeId} {pos : String} {af : Array Edge} {g : Option (Nat × Bool)} (hout : k ∉ u) (hP : E.P = P) (K : MKey P kt enc) (ht : tl E.T t = some ⟨.map kt e, s1, b1, z1⟩) (hx : val fr x = some (.map (some b))) (hy : val fr y = some (enc k)) (hz : val fr w = some (.int .i64 (u.length : Nat)))
    (hU : Upd (mapA enc b (asG u)) (mapA enc b (asG (u ++ [k]))) U U') (h : N fr U') : EV1 E ⟨none, .mapUpdate t x y w, ty, pos, af, g⟩ fr U N := by
  rw [← asG_set hout] at hU
  exact o_mapUpdate hP K ht hx hy hz hU h
end num

theorem ro_cells {b o : Nat} {xs : List Int} (h : Els kint E.w0 E.ro (some ⟨b, o, none⟩) xs) : ∀ w, Mem E U w → ∀ j u, (xs.map (Value.int .i64))[j]? = some u → w.cell? ⟨b, o + j, none⟩ = some u := by
  intro w hw j u hj
  by_cases hm : 0 < xs.length
  · obtain ⟨g2, o2, e, hh⟩ := ro_ints (U := U) h hm
    cases e
    exact hh w hw j u hj
  · have : xs = [] := List.eq_nil_of_length_eq_zero (by omega)
    subst this
    simp at hj

/-- [2]int{a, b}. -/
theorem n_build2 {t e : TypeId} {x y : Operand} {s1 b1 b2 : Nat} {u0 u1 : Value} {z2 : List Value} {a b : Int} (ht : tl E.T t = some ⟨.arr 2 e, s1, b1, [u0, u1]⟩) (he : tl E.T e = some ⟨.int .i64, 1, b2, z2⟩) (hx : val fr x = some (.int .i64 a)) (hy : val fr y = some (.int .i64 b)) :
    NEV E (.build t #[(0, x), (1, y)]) fr U (.agg #[.int .i64 a, .int .i64 b]) := by
  intro ac w dst ty pos af g hf _
  obtain ⟨inf, zv, hinf, hzv, hs, hbb, hzc⟩ := ti_info ht
  obtain ⟨inf2, zv2, hinf2, hzv2, hs2, hbb2, hzc2⟩ := ti_info he
  have hsz : (sizeOf e).run E.P w = .ok 1 w := by rw [run_size hinf2, hs2]
  have ev : ∀ n : Int, (Value.int .i64 n).cells = #[Value.int .i64 n] := fun _ => rfl
  simp [execOp, hf.eval hx, hf.eval hy, Instr.build, run_zero hinf hzv, run_under (u_arr ht), hsz, hzc, Instr.fill, ev]

end Go.Proofs.Ytbfjnldneemmiab.E
