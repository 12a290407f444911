/-
  Numbers of states that are reached.
-/
import Derived.Test.YtbfjnldneemmiabL4
import Derived.Test.YtbfjnldneemmiabP2
namespace Go.Proofs.Ytbfjnldneemmiab
set_option linter.all false
open Go.Proofs.Ytbfjnldneemmiab.E

attribute [local irreducible] EVX EVO EVL EV1 NEV
set_option maxRecDepth 10000
set_option maxHeartbeats 2000000

/-- Parts that are what no text tells apart. -/
structure IsEq (m : Mach) (p : List Int) : Prop where
  good : Good m p
  iff : ∀ s t, St m s → St m t → (pOf p s = pOf p t ↔ Eqv m s t)

/-- States that stand for all that are alike. -/
structure Reps (m : Mach) (st : List Int) : Prop where
  sts : Sts m st
  rep : ∀ s ∈ st, al m s = s

theorem ix_map {α β : Type} [DecidableEq α] [DecidableEq β] (f : α → β) (k : α) : ∀ (u : List α), (∀ x ∈ u, f x = f k → x = k) → ix (u.map f) (f k) = ix u k
  | [], _ => rfl
  | x :: u, h => by
    have ih := ix_map f k u (fun y hy => h y (List.mem_cons_of_mem _ hy))
    rw [List.map_cons]
    unfold ix
    by_cases e : x = k
    · rw [if_pos e, if_pos (by rw [e])]
    · rw [if_neg e, if_neg (fun e2 => e (h x List.mem_cons_self e2)), ih]

theorem rep_inj {m : Mach} (o : MOk m) {p : List Int} (q : IsEq m p) {st : List Int} (r : Reps m st) {t : Int} (ht : St m t) (hr : al m t = t) : ∀ x ∈ st, pOf p x = pOf p t → x = t := by
  intro x hx e
  have := al_uni o (r.sts.st hx) ht ((q.iff _ _ (r.sts.st hx) ht).1 e)
  rwa [r.rep x hx, hr] at this

theorem rep_mem {m : Mach} (o : MOk m) {p : List Int} (q : IsEq m p) {st : List Int} (r : Reps m st) {t : Int} (ht : St m t) (hr : al m t = t) : pOf p t ∈ st.map (pOf p) ↔ t ∈ st := by
  refine ⟨fun h => ?_, fun h => List.mem_map.2 ⟨t, h, rfl⟩⟩
  obtain ⟨x, hx, e⟩ := List.mem_map.1 h
  rwa [rep_inj o q r ht hr x hx e] at hx

theorem addS_reps {m : Mach} (o : MOk m) {st : List Int} (r : Reps m st) {t : Int} (ht : St m t) (hr : al m t = t) : Reps m (addS st t) := by
  refine ⟨addS_sts r.sts ht, fun s hs => ?_⟩
  unfold addS at hs
  split at hs
  · rcases List.mem_append.1 hs with h | h
    · exact r.rep s h
    · rw [List.mem_singleton] at h; rw [h]; exact hr
  · exact r.rep s hs

theorem go_rep {m : Mach} (o : MOk m) {s : Int} (hs : St m s) {b : Nat} (hb : b < 256) : al m (go m s b) = go m s b := by
  unfold go
  split
  · rfl
  · exact al_idem o (nx_st o hs (clsN_lt o hb))

theorem rowS2_reps {m : Mach} (o : MOk m) {s : Int} (hs : St m s) {st : List Int} (h : Reps m st) : ∀ k, k ≤ 256 → Reps m (rowS2 m s st k)
  | 0, _ => h
  | k + 1, hk => by rw [rowS2_succ]; exact addS_reps o (rowS2_reps o hs h k (by omega)) (go_st o hs (by omega)) (go_rep o hs (by omega))

/-- What the finder holds. -/
abbrev fndB (b : Nat) (m : Mach) (A1 A2 Ap Ao : Option Addr) (c1 c2 cp co : Nat) (M1 M2 : Nat) (st : List Int) : Asn :=
  blk b 49 (dC m.Class [.slice A1 m.Next.length c1, .slice A2 m.Rule.length c2, .slice Ap (m.Next.length + 1) cp, .map (some M1), .map (some M2), .slice Ao st.length co])

theorem cls_eq {m : Mach} (o : MOk m) {b : Nat} (h : b < 256) : m.Class.get b = (clsN m b : Nat) := by
  have := o.cls _ (m.Class.get_mem h)
  unfold clsN; omega

theorem number_w (b5 : Nat) (A1 A2 Ap Ao : Option Addr) (c1 c2 cp co M1 M2 : Nat) (m : Mach) (o : MOk m) (p : List Int) (q : IsEq m p) (st : List Int) (r : Reps m st) (s c : Nat) (hs : s < m.Next.length) (hal : al m s = s) (hc : c < 256) :
    Trip Try.prog 18 [.pointer (some ⟨b5, 0, none⟩), .int .i64 s, .int .i64 c] (kNext.rd [.slice A1 m.Next.length c1] m.Next)
      [fndB b5 m A1 A2 Ap Ao c1 c2 cp co M1 M2 st, pI Ap (m.Next.length + 1) cp p, mapA encI M2 (asG (st.map (pOf p))), pI Ao st.length co (st.map (pOf p))]
      (fun v V => ∃ (Ao' : Option Addr) (co' : Nat), v = .int .i64 (findI (addS st (go m s c)) (go m s c)) ∧
        V = [fndB b5 m A1 A2 Ap Ao' c1 c2 cp co' M1 M2 (addS st (go m s c)), pI Ap (m.Next.length + 1) cp p, mapA encI M2 (asG ((addS st (go m s c)).map (pOf p))), pI Ao' (addS st (go m s c)).length co' ((addS st (go m s c)).map (pOf p))]) := by
  refine trip Try.tabOk Try.func18 rfl rfl rfl rfl ?_
  rintro w SM ⟨A', c', e, hN⟩
  cases e
  have hn1 := o.n1
  have hpl := q.good.len
  have hstl := r.sts.len
  have hk := clsN_lt o hc
  obtain ⟨hkl, hnx⟩ := nxt_get o hs hk
  obtain ⟨b3, o3, es3, rfl, hb3, ⟨Ar3, cr3, rfl, hr3⟩, hc3⟩ := hN.2.2 s hs
  obtain ⟨b4, o4, es4, rfl, hb4, ⟨rfl, hi4⟩, hc4⟩ := hr3.2.2 (clsN m c) hkl
  have hto : St m (nx m s (clsN m c)) := nx_st o (st_nat hs) hk
  have hgo : go m s c = al m (nx m s (clsN m c)) := by unfold go; rw [if_neg (by omega)]
  have hI : ∀ x ∈ p, I64 x := fun x hx => ⟨by have := (q.good.rng x hx).1; omega, by have := (q.good.rng x hx).2; omega⟩
  rw [← hnx] at hc4
  generalize nx m s (clsN m c) = to at *
  generalize go m s c = t at *
  have hts : St m t := by rw [hgo]; exact al_st o hto
  have htr : al m t = t := by rw [hgo]; exact al_idem o hto
  have hpt : pOf p to = pOf p t := by rw [hgo]; exact (q.iff _ _ hto (al_st o hto)).2 (al_eqv o hto)
  repeat' (first | refine e_nil ?_ | ((first | refine e_op ?_ | refine e_yes rfl ?_); (first | refine o_dNew rfl rfl rfl (fun _ => ?_) | refine o_dNew0 rfl rfl rfl (fun _ => ?_) | refine dAll rfl rfl rfl td uc rfl rfl rfl ?_ | refine dS rfl rfl rfl rfl rfl rfl rfl td uc rfl ?_ | refine o_n (n_b26 rfl rfl) rfl ?_ | refine o_n (n_b26NR rfl rfl rfl rfl rfl) rfl ?_ | refine o_n (n_b26R rfl rfl rfl rfl) rfl ?_ | refine o_n (n_b26CR rfl rfl rfl rfl) rfl ?_ | refine o_n (n_b91 rfl rfl rfl rfl rfl rfl) rfl ?_ | refine o_n (peval_sound rfl) rfl ?_ | refine o_n (nl rfl rfl tc rfl) rfl ?_ | refine o_n (dR rfl rfl td rfl rfl rfl) rfl ?_ | refine o_n (dA rfl rfl td rfl rfl) rfl ?_ | refine o_n (dK rfl rfl td rfl rfl) rfl ?_ | refine o_storeC rfl rfl rfl rfl tc uc rfl rfl rfl ?_ | refine o_box rfl rfl (fun _ => ?_) | refine o_box1 rfl rfl rfl (fun _ => ?_) | refine o_alloc rfl rfl (fun _ => ?_))) | refine e_noU rfl rfl rfl ?_ | refine e_noN rfl rfl ?_ | refine s_seq ?_ | refine s_region ?_ | refine s_block ?_ | refine s_end ?_ | refine s_skip ?_ | refine s_exit ?_ | refine s_true rfl ?_ | refine s_false rfl ?_ | refine x_hit ?_ | refine x_code ?_ | refine x_back ?_ | refine x_miss rfl ?_)
  refine s_drawU [] Try.mixed (by decide +kernel) ?_
  repeat' (first | refine l_nil ?_ | ((first | refine l_no rfl rfl rfl ?_ rfl ?_ | refine l_noN rfl rfl ?_ rfl ?_ | refine l_n (n_b26 rfl rfl) rfl ?_ rfl ?_ | refine l_n (n_b26NR rfl rfl rfl rfl rfl) rfl ?_ rfl ?_ | refine l_n (n_b26R rfl rfl rfl rfl) rfl ?_ rfl ?_ | refine l_n (n_b26CR rfl rfl rfl rfl) rfl ?_ rfl ?_ | refine l_n (n_b91 rfl rfl rfl rfl rfl rfl) rfl ?_ rfl ?_ | refine l_n (peval_sound rfl) rfl ?_ rfl ?_ | refine l_n (nl rfl rfl tc rfl) rfl ?_ rfl ?_ | refine l_n (dR rfl rfl td rfl rfl rfl) rfl ?_ rfl ?_ | refine l_n (dA rfl rfl td rfl rfl) rfl ?_ rfl ?_ | refine l_n (dK rfl rfl td rfl rfl) rfl ?_ rfl ?_ | refine l_ny rfl (n_b26 rfl rfl) rfl ?_ rfl ?_ | refine l_ny rfl (n_b26NR rfl rfl rfl rfl rfl) rfl ?_ rfl ?_ | refine l_ny rfl (n_b26R rfl rfl rfl rfl) rfl ?_ rfl ?_ | refine l_ny rfl (n_b26CR rfl rfl rfl rfl) rfl ?_ rfl ?_ | refine l_ny rfl (n_b91 rfl rfl rfl rfl rfl rfl) rfl ?_ rfl ?_ | refine l_ny rfl (peval_sound rfl) rfl ?_ rfl ?_ | refine l_ny rfl (nl rfl rfl tc rfl) rfl ?_ rfl ?_ | refine l_ny rfl (dR rfl rfl td rfl rfl rfl) rfl ?_ rfl ?_ | refine l_ny rfl (dA rfl rfl td rfl rfl) rfl ?_ rfl ?_ | refine l_ny rfl (dK rfl rfl td rfl rfl) rfl ?_ rfl ?_); · (first | exact Ent.refl _ | assumption | repeat' (first | exact Ent.refl _ | exact Ent.nil _ | refine Ent.tak .z ?_ | refine Ent.wk ?_))))
  refine l_n (n_index rfl rfl rfl rfl s rfl hs) rfl (Ent.refl _) rfl ?_
  refine l_n (n_load_ro rfl rfl hb3 (loads_one rfl (hc3 0 _ rfl))) rfl (Ent.refl _) rfl ?_
  repeat' (first | refine l_nil ?_ | ((first | refine l_no rfl rfl rfl ?_ rfl ?_ | refine l_noN rfl rfl ?_ rfl ?_ | refine l_n (n_b26 rfl rfl) rfl ?_ rfl ?_ | refine l_n (n_b26NR rfl rfl rfl rfl rfl) rfl ?_ rfl ?_ | refine l_n (n_b26R rfl rfl rfl rfl) rfl ?_ rfl ?_ | refine l_n (n_b26CR rfl rfl rfl rfl) rfl ?_ rfl ?_ | refine l_n (n_b91 rfl rfl rfl rfl rfl rfl) rfl ?_ rfl ?_ | refine l_n (peval_sound rfl) rfl ?_ rfl ?_ | refine l_n (nl rfl rfl tc rfl) rfl ?_ rfl ?_ | refine l_n (dR rfl rfl td rfl rfl rfl) rfl ?_ rfl ?_ | refine l_n (dA rfl rfl td rfl rfl) rfl ?_ rfl ?_ | refine l_n (dK rfl rfl td rfl rfl) rfl ?_ rfl ?_ | refine l_ny rfl (n_b26 rfl rfl) rfl ?_ rfl ?_ | refine l_ny rfl (n_b26NR rfl rfl rfl rfl rfl) rfl ?_ rfl ?_ | refine l_ny rfl (n_b26R rfl rfl rfl rfl) rfl ?_ rfl ?_ | refine l_ny rfl (n_b26CR rfl rfl rfl rfl) rfl ?_ rfl ?_ | refine l_ny rfl (n_b91 rfl rfl rfl rfl rfl rfl) rfl ?_ rfl ?_ | refine l_ny rfl (peval_sound rfl) rfl ?_ rfl ?_ | refine l_ny rfl (nl rfl rfl tc rfl) rfl ?_ rfl ?_ | refine l_ny rfl (dR rfl rfl td rfl rfl rfl) rfl ?_ rfl ?_ | refine l_ny rfl (dA rfl rfl td rfl rfl) rfl ?_ rfl ?_ | refine l_ny rfl (dK rfl rfl td rfl rfl) rfl ?_ rfl ?_); · (first | exact Ent.refl _ | assumption | repeat' (first | exact Ent.refl _ | exact Ent.nil _ | refine Ent.tak .z ?_ | refine Ent.wk ?_))))
  refine l_n (n_indexA rfl rfl rfl rfl c rfl hc) rfl (Ent.refl _) rfl ?_
  refine l_n (n_dC rfl rfl .z rfl c hc (by show 0 + 0 + 0 + c * 1 = c; omega)) rfl (Ent.refl _) rfl ?_
  refine l_n (n_index rfl rfl rfl rfl (clsN m c) (cls_eq o hc) hkl) rfl (Ent.refl _) rfl ?_
  refine l_n (n_load_ro rfl rfl hb4 (loads_one rfl (hc4 0 _ rfl))) rfl (Ent.refl _) rfl ?_
  repeat' (first | refine l_nil ?_ | ((first | refine l_no rfl rfl rfl ?_ rfl ?_ | refine l_noN rfl rfl ?_ rfl ?_ | refine l_n (n_b26 rfl rfl) rfl ?_ rfl ?_ | refine l_n (n_b26NR rfl rfl rfl rfl rfl) rfl ?_ rfl ?_ | refine l_n (n_b26R rfl rfl rfl rfl) rfl ?_ rfl ?_ | refine l_n (n_b26CR rfl rfl rfl rfl) rfl ?_ rfl ?_ | refine l_n (n_b91 rfl rfl rfl rfl rfl rfl) rfl ?_ rfl ?_ | refine l_n (peval_sound rfl) rfl ?_ rfl ?_ | refine l_n (nl rfl rfl tc rfl) rfl ?_ rfl ?_ | refine l_n (dR rfl rfl td rfl rfl rfl) rfl ?_ rfl ?_ | refine l_n (dA rfl rfl td rfl rfl) rfl ?_ rfl ?_ | refine l_n (dK rfl rfl td rfl rfl) rfl ?_ rfl ?_ | refine l_ny rfl (n_b26 rfl rfl) rfl ?_ rfl ?_ | refine l_ny rfl (n_b26NR rfl rfl rfl rfl rfl) rfl ?_ rfl ?_ | refine l_ny rfl (n_b26R rfl rfl rfl rfl) rfl ?_ rfl ?_ | refine l_ny rfl (n_b26CR rfl rfl rfl rfl) rfl ?_ rfl ?_ | refine l_ny rfl (n_b91 rfl rfl rfl rfl rfl rfl) rfl ?_ rfl ?_ | refine l_ny rfl (peval_sound rfl) rfl ?_ rfl ?_ | refine l_ny rfl (nl rfl rfl tc rfl) rfl ?_ rfl ?_ | refine l_ny rfl (dR rfl rfl td rfl rfl rfl) rfl ?_ rfl ?_ | refine l_ny rfl (dA rfl rfl td rfl rfl) rfl ?_ rfl ?_ | refine l_ny rfl (dK rfl rfl td rfl rfl) rfl ?_ rfl ?_); · (first | exact Ent.refl _ | assumption | repeat' (first | exact Ent.refl _ | exact Ent.nil _ | refine Ent.tak .z ?_ | refine Ent.wk ?_))))
  repeat' (first | refine e_nil ?_ | ((first | refine e_op ?_ | refine e_yes rfl ?_); (first | refine o_dNew rfl rfl rfl (fun _ => ?_) | refine o_dNew0 rfl rfl rfl (fun _ => ?_) | refine dAll rfl rfl rfl td uc rfl rfl rfl ?_ | refine dS rfl rfl rfl rfl rfl rfl rfl td uc rfl ?_ | refine o_n (n_b26 rfl rfl) rfl ?_ | refine o_n (n_b26NR rfl rfl rfl rfl rfl) rfl ?_ | refine o_n (n_b26R rfl rfl rfl rfl) rfl ?_ | refine o_n (n_b26CR rfl rfl rfl rfl) rfl ?_ | refine o_n (n_b91 rfl rfl rfl rfl rfl rfl) rfl ?_ | refine o_n (peval_sound rfl) rfl ?_ | refine o_n (nl rfl rfl tc rfl) rfl ?_ | refine o_n (dR rfl rfl td rfl rfl rfl) rfl ?_ | refine o_n (dA rfl rfl td rfl rfl) rfl ?_ | refine o_n (dK rfl rfl td rfl rfl) rfl ?_ | refine o_storeC rfl rfl rfl rfl tc uc rfl rfl rfl ?_ | refine o_box rfl rfl (fun _ => ?_) | refine o_box1 rfl rfl rfl (fun _ => ?_) | refine o_alloc rfl rfl (fun _ => ?_))) | refine e_noU rfl rfl rfl ?_ | refine e_noN rfl rfl ?_ | refine s_seq ?_ | refine s_region ?_ | refine s_block ?_ | refine s_end ?_ | refine s_skip ?_ | refine s_exit ?_ | refine s_true rfl ?_ | refine s_false rfl ?_ | refine x_hit ?_ | refine x_code ?_ | refine x_back ?_ | refine x_miss rfl ?_)
  refine e_op (o_call (of_w Ap (m.Next.length + 1) cp p to hpl (by have := hto.1; have := hto.2; omega) (by omega) (by omega)) rfl .nil (can_ints (.s .z) hI (by omega)) rfl ?_)
  rintro v V ⟨rfl, rfl⟩
  simp only [List.nil_append]
  repeat' (first | refine e_nil ?_ | ((first | refine e_op ?_ | refine e_yes rfl ?_); (first | refine o_dNew rfl rfl rfl (fun _ => ?_) | refine o_dNew0 rfl rfl rfl (fun _ => ?_) | refine dAll rfl rfl rfl td uc rfl rfl rfl ?_ | refine dS rfl rfl rfl rfl rfl rfl rfl td uc rfl ?_ | refine o_n (n_b26 rfl rfl) rfl ?_ | refine o_n (n_b26NR rfl rfl rfl rfl rfl) rfl ?_ | refine o_n (n_b26R rfl rfl rfl rfl) rfl ?_ | refine o_n (n_b26CR rfl rfl rfl rfl) rfl ?_ | refine o_n (n_b91 rfl rfl rfl rfl rfl rfl) rfl ?_ | refine o_n (peval_sound rfl) rfl ?_ | refine o_n (nl rfl rfl tc rfl) rfl ?_ | refine o_n (dR rfl rfl td rfl rfl rfl) rfl ?_ | refine o_n (dA rfl rfl td rfl rfl) rfl ?_ | refine o_n (dK rfl rfl td rfl rfl) rfl ?_ | refine o_storeC rfl rfl rfl rfl tc uc rfl rfl rfl ?_ | refine o_box rfl rfl (fun _ => ?_) | refine o_box1 rfl rfl rfl (fun _ => ?_) | refine o_alloc rfl rfl (fun _ => ?_))) | refine e_noU rfl rfl rfl ?_ | refine e_noN rfl rfl ?_ | refine s_seq ?_ | refine s_region ?_ | refine s_block ?_ | refine s_end ?_ | refine s_skip ?_ | refine s_exit ?_ | refine s_true rfl ?_ | refine s_false rfl ?_ | refine x_hit ?_ | refine x_code ?_ | refine x_back ?_ | refine x_miss rfl ?_)
  refine e_op (o_call (of_w Ap (m.Next.length + 1) cp p (-1) hpl (.inl rfl) (by omega) (by omega)) rfl .nil (can_ints (.s .z) hI (by omega)) rfl ?_)
  rintro v V ⟨rfl, rfl⟩
  simp only [List.nil_append]
  repeat' (first | refine e_nil ?_ | ((first | refine e_op ?_ | refine e_yes rfl ?_); (first | refine o_dNew rfl rfl rfl (fun _ => ?_) | refine o_dNew0 rfl rfl rfl (fun _ => ?_) | refine dAll rfl rfl rfl td uc rfl rfl rfl ?_ | refine dS rfl rfl rfl rfl rfl rfl rfl td uc rfl ?_ | refine o_n (n_b26 rfl rfl) rfl ?_ | refine o_n (n_b26NR rfl rfl rfl rfl rfl) rfl ?_ | refine o_n (n_b26R rfl rfl rfl rfl) rfl ?_ | refine o_n (n_b26CR rfl rfl rfl rfl) rfl ?_ | refine o_n (n_b91 rfl rfl rfl rfl rfl rfl) rfl ?_ | refine o_n (peval_sound rfl) rfl ?_ | refine o_n (nl rfl rfl tc rfl) rfl ?_ | refine o_n (dR rfl rfl td rfl rfl rfl) rfl ?_ | refine o_n (dA rfl rfl td rfl rfl) rfl ?_ | refine o_n (dK rfl rfl td rfl rfl) rfl ?_ | refine o_storeC rfl rfl rfl rfl tc uc rfl rfl rfl ?_ | refine o_box rfl rfl (fun _ => ?_) | refine o_box1 rfl rfl rfl (fun _ => ?_) | refine o_alloc rfl rfl (fun _ => ?_))) | refine e_noU rfl rfl rfl ?_ | refine e_noN rfl rfl ?_ | refine s_seq ?_ | refine s_region ?_ | refine s_block ?_ | refine s_end ?_ | refine s_skip ?_ | refine s_exit ?_ | refine s_true rfl ?_ | refine s_false rfl ?_ | refine x_hit ?_ | refine x_code ?_ | refine x_back ?_ | refine x_miss rfl ?_)
  refine s_cond rfl (fun h => ?_) (fun h => ?_)
  · have h1 : pOf p to = pOf p (-1) := by simpa using h
    have h2 : t = -1 := by rw [hgo]; exact al_dead o hto ((q.iff _ _ hto (st_neg m)).1 h1)
    have h3 : addS st t = st := by unfold addS; rw [if_neg (fun h => by have := h.1; omega)]
    repeat' (first | refine e_nil ?_ | ((first | refine e_op ?_ | refine e_yes rfl ?_); (first | refine o_dNew rfl rfl rfl (fun _ => ?_) | refine o_dNew0 rfl rfl rfl (fun _ => ?_) | refine dAll rfl rfl rfl td uc rfl rfl rfl ?_ | refine dS rfl rfl rfl rfl rfl rfl rfl td uc rfl ?_ | refine o_n (n_b26 rfl rfl) rfl ?_ | refine o_n (n_b26NR rfl rfl rfl rfl rfl) rfl ?_ | refine o_n (n_b26R rfl rfl rfl rfl) rfl ?_ | refine o_n (n_b26CR rfl rfl rfl rfl) rfl ?_ | refine o_n (n_b91 rfl rfl rfl rfl rfl rfl) rfl ?_ | refine o_n (peval_sound rfl) rfl ?_ | refine o_n (nl rfl rfl tc rfl) rfl ?_ | refine o_n (dR rfl rfl td rfl rfl rfl) rfl ?_ | refine o_n (dA rfl rfl td rfl rfl) rfl ?_ | refine o_n (dK rfl rfl td rfl rfl) rfl ?_ | refine o_storeC rfl rfl rfl rfl tc uc rfl rfl rfl ?_ | refine o_box rfl rfl (fun _ => ?_) | refine o_box1 rfl rfl rfl (fun _ => ?_) | refine o_alloc rfl rfl (fun _ => ?_))) | refine e_noU rfl rfl rfl ?_ | refine e_noN rfl rfl ?_ | refine s_seq ?_ | refine s_region ?_ | refine s_block ?_ | refine s_end ?_ | refine s_skip ?_ | refine s_exit ?_ | refine s_true rfl ?_ | refine s_false rfl ?_ | refine x_hit ?_ | refine x_code ?_ | refine x_back ?_ | refine x_miss rfl ?_)
    refine s_ret ⟨_, _, res1 rfl rfl, ⟨Ao, co, ?_, rfl⟩, ?_⟩
    · rw [findI_neg (addS_sts r.sts hts) (by omega)]
    · rw [h3]; exact Ent.refl _
  have h1 : ¬ pOf p to = pOf p (-1) := by simpa using h
  clear h
  have h0 : 0 ≤ t := by
    refine Int.not_lt.1 (fun h => ?_)
    rw [hgo] at h
    exact h1 ((q.iff _ _ hto (st_neg m)).2 ((al_neg o hto).1 h))
  have hix : ix (st.map (pOf p)) (pOf p t) = ix st t := ix_map _ _ _ (rep_inj o q r hts htr)
  by_cases hin : t ∈ st
  · have hing : pOf p to ∈ st.map (pOf p) := by rw [hpt]; exact List.mem_map.2 ⟨t, hin, rfl⟩
    have h3 : addS st t = st := by unfold addS; rw [if_neg (fun h => h.2 hin)]
    repeat' (first | refine e_nil ?_ | ((first | refine e_op ?_ | refine e_yes rfl ?_); (first | refine o_dNew rfl rfl rfl (fun _ => ?_) | refine o_dNew0 rfl rfl rfl (fun _ => ?_) | refine dAll rfl rfl rfl td uc rfl rfl rfl ?_ | refine dS rfl rfl rfl rfl rfl rfl rfl td uc rfl ?_ | refine o_n (n_b26 rfl rfl) rfl ?_ | refine o_n (n_b26NR rfl rfl rfl rfl rfl) rfl ?_ | refine o_n (n_b26R rfl rfl rfl rfl) rfl ?_ | refine o_n (n_b26CR rfl rfl rfl rfl) rfl ?_ | refine o_n (n_b91 rfl rfl rfl rfl rfl rfl) rfl ?_ | refine o_n (peval_sound rfl) rfl ?_ | refine o_n (nl rfl rfl tc rfl) rfl ?_ | refine o_n (dR rfl rfl td rfl rfl rfl) rfl ?_ | refine o_n (dA rfl rfl td rfl rfl) rfl ?_ | refine o_n (dK rfl rfl td rfl rfl) rfl ?_ | refine o_storeC rfl rfl rfl rfl tc uc rfl rfl rfl ?_ | refine o_box rfl rfl (fun _ => ?_) | refine o_box1 rfl rfl rfl (fun _ => ?_) | refine o_alloc rfl rfl (fun _ => ?_))) | refine e_noU rfl rfl rfl ?_ | refine e_noN rfl rfl ?_ | refine s_seq ?_ | refine s_region ?_ | refine s_block ?_ | refine s_end ?_ | refine s_skip ?_ | refine s_exit ?_ | refine s_true rfl ?_ | refine s_false rfl ?_ | refine x_hit ?_ | refine x_code ?_ | refine x_back ?_ | refine x_miss rfl ?_)
    refine e_op (o_n (n_g2_in hing rfl mk3 z3 rfl rfl rfl (.s (.s .z))) rfl ?_)
    repeat' (first | refine e_nil ?_ | ((first | refine e_op ?_ | refine e_yes rfl ?_); (first | refine o_dNew rfl rfl rfl (fun _ => ?_) | refine o_dNew0 rfl rfl rfl (fun _ => ?_) | refine dAll rfl rfl rfl td uc rfl rfl rfl ?_ | refine dS rfl rfl rfl rfl rfl rfl rfl td uc rfl ?_ | refine o_n (n_b26 rfl rfl) rfl ?_ | refine o_n (n_b26NR rfl rfl rfl rfl rfl) rfl ?_ | refine o_n (n_b26R rfl rfl rfl rfl) rfl ?_ | refine o_n (n_b26CR rfl rfl rfl rfl) rfl ?_ | refine o_n (n_b91 rfl rfl rfl rfl rfl rfl) rfl ?_ | refine o_n (peval_sound rfl) rfl ?_ | refine o_n (nl rfl rfl tc rfl) rfl ?_ | refine o_n (dR rfl rfl td rfl rfl rfl) rfl ?_ | refine o_n (dA rfl rfl td rfl rfl) rfl ?_ | refine o_n (dK rfl rfl td rfl rfl) rfl ?_ | refine o_storeC rfl rfl rfl rfl tc uc rfl rfl rfl ?_ | refine o_box rfl rfl (fun _ => ?_) | refine o_box1 rfl rfl rfl (fun _ => ?_) | refine o_alloc rfl rfl (fun _ => ?_))) | refine e_noU rfl rfl rfl ?_ | refine e_noN rfl rfl ?_ | refine s_seq ?_ | refine s_region ?_ | refine s_block ?_ | refine s_end ?_ | refine s_skip ?_ | refine s_exit ?_ | refine s_true rfl ?_ | refine s_false rfl ?_ | refine x_hit ?_ | refine x_code ?_ | refine x_back ?_ | refine x_miss rfl ?_)
    refine s_ret ⟨_, _, res1 rfl rfl, ⟨Ao, co, ?_, rfl⟩, ?_⟩
    · rw [h3, findI_in hin, hpt, hix]
    · rw [h3]; exact Ent.refl _
  · have hing : pOf p to ∉ st.map (pOf p) := by rw [hpt]; exact fun h => hin ((rep_mem o q r hts htr).1 h)
    have h3 : addS st t = st ++ [t] := by unfold addS; rw [if_pos ⟨h0, hin⟩]
    repeat' (first | refine e_nil ?_ | ((first | refine e_op ?_ | refine e_yes rfl ?_); (first | refine o_dNew rfl rfl rfl (fun _ => ?_) | refine o_dNew0 rfl rfl rfl (fun _ => ?_) | refine dAll rfl rfl rfl td uc rfl rfl rfl ?_ | refine dS rfl rfl rfl rfl rfl rfl rfl td uc rfl ?_ | refine o_n (n_b26 rfl rfl) rfl ?_ | refine o_n (n_b26NR rfl rfl rfl rfl rfl) rfl ?_ | refine o_n (n_b26R rfl rfl rfl rfl) rfl ?_ | refine o_n (n_b26CR rfl rfl rfl rfl) rfl ?_ | refine o_n (n_b91 rfl rfl rfl rfl rfl rfl) rfl ?_ | refine o_n (peval_sound rfl) rfl ?_ | refine o_n (nl rfl rfl tc rfl) rfl ?_ | refine o_n (dR rfl rfl td rfl rfl rfl) rfl ?_ | refine o_n (dA rfl rfl td rfl rfl) rfl ?_ | refine o_n (dK rfl rfl td rfl rfl) rfl ?_ | refine o_storeC rfl rfl rfl rfl tc uc rfl rfl rfl ?_ | refine o_box rfl rfl (fun _ => ?_) | refine o_box1 rfl rfl rfl (fun _ => ?_) | refine o_alloc rfl rfl (fun _ => ?_))) | refine e_noU rfl rfl rfl ?_ | refine e_noN rfl rfl ?_ | refine s_seq ?_ | refine s_region ?_ | refine s_block ?_ | refine s_end ?_ | refine s_skip ?_ | refine s_exit ?_ | refine s_true rfl ?_ | refine s_false rfl ?_ | refine x_hit ?_ | refine x_code ?_ | refine x_back ?_ | refine x_miss rfl ?_)
    refine e_op (o_n (n_g2_out hing rfl mk3 z3 rfl rfl rfl (.s (.s .z))) rfl ?_)
    repeat' (first | refine e_nil ?_ | ((first | refine e_op ?_ | refine e_yes rfl ?_); (first | refine o_dNew rfl rfl rfl (fun _ => ?_) | refine o_dNew0 rfl rfl rfl (fun _ => ?_) | refine dAll rfl rfl rfl td uc rfl rfl rfl ?_ | refine dS rfl rfl rfl rfl rfl rfl rfl td uc rfl ?_ | refine o_n (n_b26 rfl rfl) rfl ?_ | refine o_n (n_b26NR rfl rfl rfl rfl rfl) rfl ?_ | refine o_n (n_b26R rfl rfl rfl rfl) rfl ?_ | refine o_n (n_b26CR rfl rfl rfl rfl) rfl ?_ | refine o_n (n_b91 rfl rfl rfl rfl rfl rfl) rfl ?_ | refine o_n (peval_sound rfl) rfl ?_ | refine o_n (nl rfl rfl tc rfl) rfl ?_ | refine o_n (dR rfl rfl td rfl rfl rfl) rfl ?_ | refine o_n (dA rfl rfl td rfl rfl) rfl ?_ | refine o_n (dK rfl rfl td rfl rfl) rfl ?_ | refine o_storeC rfl rfl rfl rfl tc uc rfl rfl rfl ?_ | refine o_box rfl rfl (fun _ => ?_) | refine o_box1 rfl rfl rfl (fun _ => ?_) | refine o_alloc rfl rfl (fun _ => ?_))) | refine e_noU rfl rfl rfl ?_ | refine e_noN rfl rfl ?_ | refine s_seq ?_ | refine s_region ?_ | refine s_block ?_ | refine s_end ?_ | refine s_skip ?_ | refine s_exit ?_ | refine s_true rfl ?_ | refine s_false rfl ?_ | refine x_hit ?_ | refine x_code ?_ | refine x_back ?_ | refine x_miss rfl ?_)
    refine e_op (o_gup hing rfl mk3 rfl rfl rfl (by rw [List.length_map]; rfl) (.s (.s .z)) ?_)
    repeat' (first | refine e_nil ?_ | ((first | refine e_op ?_ | refine e_yes rfl ?_); (first | refine o_dNew rfl rfl rfl (fun _ => ?_) | refine o_dNew0 rfl rfl rfl (fun _ => ?_) | refine dAll rfl rfl rfl td uc rfl rfl rfl ?_ | refine dS rfl rfl rfl rfl rfl rfl rfl td uc rfl ?_ | refine o_n (n_b26 rfl rfl) rfl ?_ | refine o_n (n_b26NR rfl rfl rfl rfl rfl) rfl ?_ | refine o_n (n_b26R rfl rfl rfl rfl) rfl ?_ | refine o_n (n_b26CR rfl rfl rfl rfl) rfl ?_ | refine o_n (n_b91 rfl rfl rfl rfl rfl rfl) rfl ?_ | refine o_n (peval_sound rfl) rfl ?_ | refine o_n (nl rfl rfl tc rfl) rfl ?_ | refine o_n (dR rfl rfl td rfl rfl rfl) rfl ?_ | refine o_n (dA rfl rfl td rfl rfl) rfl ?_ | refine o_n (dK rfl rfl td rfl rfl) rfl ?_ | refine o_storeC rfl rfl rfl rfl tc uc rfl rfl rfl ?_ | refine o_box rfl rfl (fun _ => ?_) | refine o_box1 rfl rfl rfl (fun _ => ?_) | refine o_alloc rfl rfl (fun _ => ?_))) | refine e_noU rfl rfl rfl ?_ | refine e_noN rfl rfl ?_ | refine s_seq ?_ | refine s_region ?_ | refine s_block ?_ | refine s_end ?_ | refine s_skip ?_ | refine s_exit ?_ | refine s_true rfl ?_ | refine s_false rfl ?_ | refine x_hit ?_ | refine x_code ?_ | refine x_back ?_ | refine x_miss rfl ?_)
    refine e_op (o_lit (ps := [(0, .int .i64 (pOf p to))]) (cs := [.int .i64 (pOf p to)]) rfl rfl rfl rfl rfl rfl rfl (fun bl2 => ?_))
    refine e_op (o_append (v := .slice Ao st.length co) (n := st.length) (m := 1) (news := [.int .i64 (pOf p to)]) _ rfl rfl rfl rfl (fun w hm j u hu => ?_) rfl ?_ rfl (by omega) (by simp only; omega) (by omega) rfl (fun b c => .s (.s (.s (.s .z)))) (fun bb cc => ?_))
    · obtain ⟨S1, hP, _⟩ := hm.tak Tak.z
      rw [Nat.zero_add]
      exact osl_cells hP j u hu
    · intro u hu
      simp only [List.mem_cons, List.not_mem_nil, or_false] at hu
      subst hu; rfl
    repeat' (first | refine e_nil ?_ | ((first | refine e_op ?_ | refine e_yes rfl ?_); (first | refine o_dNew rfl rfl rfl (fun _ => ?_) | refine o_dNew0 rfl rfl rfl (fun _ => ?_) | refine dAll rfl rfl rfl td uc rfl rfl rfl ?_ | refine dS rfl rfl rfl rfl rfl rfl rfl td uc rfl ?_ | refine o_n (n_b26 rfl rfl) rfl ?_ | refine o_n (n_b26NR rfl rfl rfl rfl rfl) rfl ?_ | refine o_n (n_b26R rfl rfl rfl rfl) rfl ?_ | refine o_n (n_b26CR rfl rfl rfl rfl) rfl ?_ | refine o_n (n_b91 rfl rfl rfl rfl rfl rfl) rfl ?_ | refine o_n (peval_sound rfl) rfl ?_ | refine o_n (nl rfl rfl tc rfl) rfl ?_ | refine o_n (dR rfl rfl td rfl rfl rfl) rfl ?_ | refine o_n (dA rfl rfl td rfl rfl) rfl ?_ | refine o_n (dK rfl rfl td rfl rfl) rfl ?_ | refine o_storeC rfl rfl rfl rfl tc uc rfl rfl rfl ?_ | refine o_box rfl rfl (fun _ => ?_) | refine o_box1 rfl rfl rfl (fun _ => ?_) | refine o_alloc rfl rfl (fun _ => ?_))) | refine e_noU rfl rfl rfl ?_ | refine e_noN rfl rfl ?_ | refine s_seq ?_ | refine s_region ?_ | refine s_block ?_ | refine s_end ?_ | refine s_skip ?_ | refine s_exit ?_ | refine s_true rfl ?_ | refine s_false rfl ?_ | refine x_hit ?_ | refine x_code ?_ | refine x_back ?_ | refine x_miss rfl ?_)
    refine s_ret ⟨_, _, res1 rfl rfl, ⟨some ⟨bb, 0, none⟩, cc, ?_, rfl⟩, ?_⟩
    · rw [h3, findI_in (by simp), ix_app_not hin]
    · rw [h3]
      simp only [fndB, pI, List.map_append, List.map_cons, List.map_nil, List.length_append, List.length_singleton, hpt]
      exact Ent.wk (Ent.refl _)

end Go.Proofs.Ytbfjnldneemmiab
