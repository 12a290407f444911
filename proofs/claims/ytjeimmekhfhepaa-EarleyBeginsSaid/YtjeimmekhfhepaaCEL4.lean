/-
  The statement EarleyBegins, walked.
-/
import Derived.Test.YtjeimmekhfhepaaErBase3

namespace Go.Proofs.Ytjeimmekhfhepaa
set_option linter.all false
open Go.Proofs.Ytjeimmekhfhepaa.E

attribute [local irreducible] EVX EVO EVL EV1 NEV
attribute [local irreducible] own osl exA rdA rdL
attribute [local irreducible] bldA mapA bun mapS nums iterA mapV
set_option maxRecDepth 10000
set_option maxHeartbeats 4000000

theorem begins24_w (cs : List Value) (g : Gram) (Al : Option Addr) (ml cl : Nat) (l : List Int) (hml : ml = l.length) (many : Int) (hmany : I64 many) :
    Trip Try.prog 3 [.agg cs.toArray, .slice Al ml cl, .int .i64 many] ((kGram.rd cs g).and ((kslice 8 kint).rd [.slice Al ml cl] l)) []
      (fun v V => v = .bool true ∧ V = []) := by
  subst hml
  refine trip Try.tabOk Try.func3 rfl rfl rfl rfl ?_
  rintro wd SM ⟨hR, hRl⟩
  obtain ⟨A0, A1, A2, A3, A4, c0, c1, c2, c3, c4, rfl, hG⟩ := kGram_open hR
  repeat' (first | refine e_nil ?_ | ((refine e_op ?_); (first | refine o_n (peval_sound rfl) rfl ?_ | refine o_box rfl rfl (fun _ => ?_))) | refine s_seq ?_ | refine s_region ?_)
  rename_i b2
  refine e_op (o_call works_w rfl .nil Can.tt rfl ?_)
  rintro v V ⟨rfl, rfl⟩
  simp only [List.nil_append]
  repeat' (first | refine e_nil ?_ | ((refine e_op ?_); (first | refine o_n (peval_sound rfl) rfl ?_ | refine o_n (nl rfl rfl tc rfl) rfl ?_)) | refine s_seq ?_ | refine s_region ?_ | refine s_skip ?_ | refine s_false rfl ?_)
  refine e_op (o_call (check_w _ g) rfl .nil (Can.ro hR) rfl ?_)
  rintro v V ⟨rfl, rfl⟩
  simp only [List.nil_append]
  repeat' (((refine e_op ?_); (refine o_n (peval_sound rfl) rfl ?_)))
  by_cases hce : checkE g = 0
  · rw [show (checkE g != 0) = false by simp [hce]]
    have hS := gSm hce
    repeat' (first | refine e_nil ?_ | ((first | refine e_op ?_ | refine e_yes rfl ?_); (first | refine o_n (peval_sound rfl) rfl ?_ | refine o_n (nl rfl rfl tc rfl) rfl ?_)))
    by_cases h30 : g.Prods.length > 30
    · rw [decide_eq_true (by omega : (g.Prods.length : Int) > 30)]
      repeat' (first | refine e_nil ?_ | ((refine e_op ?_); (refine o_n (peval_sound rfl) rfl ?_)) | refine s_seq ?_ | refine s_region ?_ | refine s_true rfl ?_)
      exact s_ret ⟨_, _, res1 rfl rfl, ⟨rfl, rfl⟩, Ent.nil _⟩
    rw [decide_eq_false (by omega : ¬ (g.Prods.length : Int) > 30)]
    repeat' (first | ((refine e_op ?_); (first | refine o_n (peval_sound rfl) rfl ?_ | refine o_n (nl rfl rfl tc rfl) rfl ?_)) | refine s_seq ?_ | refine s_region ?_ | refine s_skip ?_ | refine s_false rfl ?_)
    refine e_op (o_call (terms_w _ g Al cl l 14 (by decide) hS) rfl .nil (Can.and (Can.ro hR) (Can.ro hRl)) rfl ?_)
    rintro v V ⟨X, cX, rfl, rfl⟩
    have hwl := termsN_len g l 14
    have hE := termsN_chk (l := l) (m := 14) hce (by decide)
    have hI : ∀ x ∈ termsN g l 14, I64 x := fun x hx => by
      have := termsN_mem hx
      have := hS.tt
      unfold I64; omega
    have hmem : ∀ x ∈ termsN g l 14, 1 ≤ x ∧ x < g.Terms.length := fun x hx => termsN_mem hx
    generalize termsN g l 14 = w at *
    simp only [List.cons_append, List.nil_append]
    have hw1 : IntKind.i64.wrap ((w.length : Int) + 1) = (w.length : Int) + 1 := by rw [wrap_i64] <;> omega
    repeat' (first | refine e_nil ?_ | ((refine e_op ?_); (refine o_n (peval_sound rfl) rfl ?_)) | refine s_seq ?_ | refine s_region ?_)
    rw [hw1]
    have hbr := bringN_rng (x := many) (m := (w.length : Int) + 1) (by omega)
    refine e_op (o_call (bring_w many ((w.length : Int) + 1) hmany ⟨by omega, by omega⟩ (by omega)) rfl .nil Can.tt rfl ?_)
    rintro v V ⟨rfl, rfl⟩
    simp only [List.nil_append]
    obtain ⟨k, hk⟩ : ∃ k : Nat, bringN many ((w.length : Int) + 1) = (k : Int) := ⟨(bringN many ((w.length : Int) + 1)).toNat, by omega⟩
    have hkl : k ≤ w.length := by omega
    rw [hk]
    have hK : ∀ {E0 : Go.Proofs.Ytjeimmekhfhepaa.E.Env} {U : List Asn}, Go.Proofs.Ytjeimmekhfhepaa.E.Can E0 (rdA (kslice 8 kint) [.slice X w.length cX] w :: U) ((kslice 8 kint).rd [.slice X w.length cX] w) := Can.rdA .z
    have hKk : ∀ {E0 : Go.Proofs.Ytjeimmekhfhepaa.E.Env} {U : List Asn}, Go.Proofs.Ytjeimmekhfhepaa.E.Can E0 (rdA (kslice 8 kint) [.slice X w.length cX] w :: U) ((kslice 8 kint).rd [.slice X (w.take k).length cX] (w.take k)) := by
      intro E0 U
      have hlk : (w.take k).length = k := by rw [List.length_take]; omega
      rw [hlk]
      exact Can.byEnt (Can.rdA .z) (ent_take hkl)
    repeat' (first | refine e_nil ?_ | ((refine e_op ?_); (first | refine o_n (peval_sound rfl) rfl ?_ | refine o_n (nl rfl rfl tc rfl) rfl ?_)) | refine s_seq ?_ | refine s_region ?_)
    refine e_cap .z (fun hcap => ?_)
    refine e_ent (ent_can Try.prog fun E0 => can_ints .z hI (by omega)) ?_
    refine e_op (o_call (derives_w _ g X cX w) rfl .nil (Can.and (Can.ro hR) hK) rfl ?_)
    rintro v V ⟨d1, rfl, h1, rfl⟩
    simp only [List.nil_append]
    repeat' (first | refine e_nil ?_ | ((refine e_op ?_); (first | refine o_n (peval_sound rfl) rfl ?_ | refine o_n (nl rfl rfl tc rfl) rfl ?_)) | refine s_seq ?_ | refine s_region ?_)
    refine e_op (o_call (viable_w _ g X cX w) rfl .nil (Can.and (Can.ro hR) hK) rfl ?_)
    rintro v V ⟨d2, rfl, h2, rfl⟩
    simp only [List.nil_append]
    repeat' (first | refine e_nil ?_ | ((refine e_op ?_); (refine o_n (peval_sound rfl) rfl ?_)) | refine s_seq ?_)
    have hlk : (w.take k).length = k := by rw [List.length_take]; omega
    have hkE : chkE g (w.take k) = 0 := chk_of hce (by omega) fun x hx => hmem x (List.mem_of_mem_take hx)
    have hcall := viable_w [.slice A0 g.Terms.length c0, .slice A1 g.Levels.length c1, .slice A2 g.Pats.length c2, .slice A3 g.Nons.length c3, .slice A4 g.Prods.length c4] g X cX (w.take k)
    rw [hlk] at hcall hKk
    refine s_drawU [4] Try.mixed (by decide +kernel) ?_
    repeat' (((first | refine l_n (peval_sound rfl) rfl ?_ rfl ?_ | refine l_n (nl rfl rfl tc rfl) rfl ?_ rfl ?_); · (exact Ent.refl _)))
    refine l_n (n_headV k rfl rfl rfl rfl rfl (by omega)) rfl (Ent.refl _) rfl ?_
    refine l_e rfl (o_call hcall rfl .nil (Can.and (Can.ro hR) hKk) rfl ?_)
    rintro v V ⟨d3, rfl, h3, rfl⟩
    simp only [List.nil_append]
    refine ⟨Ent.refl _, ?_⟩
    repeat' (first | refine l_nil ?_ | ((refine l_n (peval_sound rfl) rfl ?_ rfl ?_); · (exact Ent.refl _)))
    repeat' (first | ((refine e_op ?_); (first | refine o_n (peval_sound rfl) rfl ?_ | refine o_n (nl rfl rfl tc rfl) rfl ?_)) | refine s_seq ?_ | refine s_region ?_)
    refine e_op (o_call (counts_w _ g X cX w) rfl .nil (Can.and (Can.ro hR) hK) rfl ?_)
    rintro v V ⟨n, rfl, h4, rfl⟩
    simp only [List.nil_append]
    repeat' (first | refine e_nil ?_ | ((refine e_op ?_); (first | refine o_n (peval_sound rfl) rfl ?_ | refine o_n (nl rfl rfl tc rfl) rfl ?_)) | refine s_seq ?_ | refine s_region ?_)
    refine e_op (o_call (viable_w _ g none 0 []) rfl .nil (Can.and (Can.ro hR) can_inil) rfl ?_)
    rintro v V ⟨d5, rfl, h5, rfl⟩
    simp only [List.nil_append]
    obtain ⟨W, hW, rfl⟩ := h4.2 hE
    have hE0 : chkE g [] = 0 := chk_of hce (by simp) (fun x hx => nomatch hx)
    simp only [hE, hkE, hE0] at h1 h2 h3 h5 ⊢
    have htwo := hW.two 0 0 w.length
    have e5 : d5 = true := h5.2 ⟨trivial, _, .start⟩
    have e1 : d1 = decide ((W 0 0 w.length : Int) > 0) := by
      rw [Bool.eq_iff_iff, h1, decide_eq_true_eq, der_iff hS hW]
      exact ⟨fun h => by have := h.2; omega, fun h => ⟨trivial, by omega⟩⟩
    have e12 : d1 = true → d2 = true := fun h => h2.2 ⟨trivial, _, (h1.1 h).2⟩
    have e23 : d2 = true → d3 = true := fun h => by
      rw [h3]
      exact ⟨trivial, viable_take hS.n0 hkl (h2.1 h).2⟩
    subst e5
    have hdd : (d1 == decide ((W 0 0 w.length : Int) > 0)) = true := by rw [← e1]; exact beq_self_eq_true _
    clear h1 h2 h3 h5 e1 hK hKk hcall
    repeat' (first | refine e_nil ?_ | ((first | refine e_op ?_ | refine e_yes rfl ?_); (refine o_n (peval_sound rfl) rfl ?_)) | refine s_seq ?_ | refine s_region ?_)
    rw [hdd]
    repeat' (((first | refine e_op ?_ | refine e_yes rfl ?_); (refine o_n (peval_sound rfl) rfl ?_)))
    rw [decide_eq_true (by omega : (W 0 0 w.length : Int) ≥ 0)]
    skip
    rw [decide_eq_true (by omega : (W 0 0 w.length : Int) ≤ 2)]
    repeat' (((refine e_yes rfl ?_); (refine o_n (peval_sound rfl) rfl ?_)))
    cases d1 with
    | false =>
      cases d2 with
      | false =>
        repeat' (first | refine e_nil ?_ | ((first | refine e_op ?_ | refine e_yes rfl ?_); (refine o_n (peval_sound rfl) rfl ?_)) | refine e_noU rfl rfl rfl ?_)
        exact s_ret ⟨_, _, res1 rfl rfl, ⟨rfl, rfl⟩, Ent.nil _⟩
      | true =>
        have := e23 rfl
        subst this
        repeat' (first | refine e_nil ?_ | ((first | refine e_op ?_ | refine e_yes rfl ?_); (refine o_n (peval_sound rfl) rfl ?_)) | refine e_noU rfl rfl rfl ?_)
        exact s_ret ⟨_, _, res1 rfl rfl, ⟨rfl, rfl⟩, Ent.nil _⟩
    | true =>
      have := e12 rfl
      subst this
      have := e23 rfl
      subst this
      repeat' (first | refine e_nil ?_ | ((first | refine e_op ?_ | refine e_yes rfl ?_); (refine o_n (peval_sound rfl) rfl ?_)))
      exact s_ret ⟨_, _, res1 rfl rfl, ⟨rfl, rfl⟩, Ent.nil _⟩
  · rw [show (checkE g != 0) = true by simp [hce]]
    repeat' (first | refine e_nil ?_ | ((refine e_op ?_); (refine o_n (peval_sound rfl) rfl ?_)) | refine e_noU rfl rfl rfl ?_ | refine s_seq ?_ | refine s_region ?_ | refine s_true rfl ?_)
    exact s_ret ⟨_, _, res1 rfl rfl, ⟨rfl, rfl⟩, Ent.nil _⟩

end Go.Proofs.Ytjeimmekhfhepaa
