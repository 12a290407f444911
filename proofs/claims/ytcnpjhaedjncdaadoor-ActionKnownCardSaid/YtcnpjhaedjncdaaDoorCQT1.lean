/-
  A grammar whose productions are turned: plain, and walked.
-/
import Derived.Test.YtcnpjhaedjncdaaDoorAcBase5
import Derived.Test.YtcnpjhaedjncdaaDoorAcBase4
import Derived.Test.YtcnpjhaedjncdaaDoorCE29

namespace Go.Proofs.YtcnpjhaedjncdaaDoor
set_option linter.all false
open Go.Proofs.YtcnpjhaedjncdaaDoor.E

theorem modc {a b n : Nat} (ha : a < n) (hb : b ≤ n) : (a + b) % n = if a + b < n then a + b else a + b - n := by
  split
  · rename_i h; exact Nat.mod_eq_of_lt h
  · rename_i h
    rw [Nat.mod_eq_sub_mod (by omega)]
    exact Nat.mod_eq_of_lt (by omega)
def trn (n b k : Nat) : Nat := if k = 0 then 0 else 1 + (k - 1 + b) % n
def prd0 : Prd := ⟨0, [], ⟨0, 0⟩⟩
def renT (ps : List Prd) (b n : Nat) : Nat → List Prd
  | 0 => ps
  | i + 1 => (renT ps b n i).set (1 + (i + b) % n) (ps.getD (1 + i) prd0)
theorem renT_len (ps : List Prd) (b n : Nat) : ∀ i, (renT ps b n i).length = ps.length
  | 0 => rfl
  | i + 1 => by unfold renT; rw [List.length_set, renT_len ps b n i]
theorem renT_zero {ps : List Prd} {b n : Nat} : ∀ i, (renT ps b n i)[0]? = ps[0]?
  | 0 => rfl
  | i + 1 => by unfold renT; rw [List.getElem?_set_ne (by omega), renT_zero i]
theorem renT_get {ps : List Prd} {b n : Nat} (hn : ps.length = n + 1) (hb : b < n) : ∀ (i : Nat), i ≤ n → ∀ j, j < i → (renT ps b n i)[1 + (j + b) % n]? = ps[1 + j]?
  | 0, _, j, h => absurd h (Nat.not_lt_zero _)
  | i + 1, hi, j, h => by
    unfold renT
    have h1 := modc (a := i) (b := b) (n := n) (by omega) (by omega)
    have h2 := modc (a := j) (b := b) (n := n) (by omega) (by omega)
    by_cases e : j = i
    · subst e
      have hlt : 1 + (j + b) % n < (renT ps b n j).length := by
        rw [renT_len]
        have := Nat.mod_lt (j + b) (show 0 < n by omega)
        omega
      rw [List.getElem?_set_self hlt, List.getD_eq_getElem?_getD, List.getElem?_eq_getElem (by omega)]; rfl
    · rw [List.getElem?_set_ne, renT_get hn hb i (by omega) j (by omega)]
      intro e2
      rw [h1, h2] at e2
      split at e2 <;> split at e2 <;> omega

def renG (g : Gram) (b : Nat) : Gram := { g with Prods := renT g.Prods b (g.Prods.length - 1) (g.Prods.length - 1) }
theorem renG_prd {g : Gram} {b : Nat} (h2 : 2 ≤ g.Prods.length) (hb : b < g.Prods.length - 1) {k : Nat} (hk : k < g.Prods.length) : prd (renG g b) (trn (g.Prods.length - 1) b k : Nat) = prd g k := by
  have : (renG g b).Prods[trn (g.Prods.length - 1) b k]? = g.Prods[k]? := by
    unfold trn renG
    by_cases h0 : k = 0
    · rw [if_pos h0, h0]; exact renT_zero _
    · rw [if_neg h0]
      have := renT_get (ps := g.Prods) (b := b) (n := g.Prods.length - 1) (by omega) hb (g.Prods.length - 1) (Nat.le_refl _) (k - 1) (by omega)
      rw [show 1 + (k - 1) = k by omega] at this
      exact this
  unfold prd
  rw [Int.toNat_natCast, Int.toNat_natCast, List.getD_eq_getElem?_getD, List.getD_eq_getElem?_getD, this]
theorem trn_back {n b k : Nat} (hb : b ≤ n) (hk : k < n + 1) : trn n b k < n + 1 ∧ trn n (n - b) (trn n b k) = k := by
  unfold trn
  by_cases h0 : k = 0
  · subst h0; simp
  · have h1 := modc (a := k - 1) (b := b) (n := n) (by omega) hb
    have h3 := Nat.mod_lt (k - 1 + b) (show 0 < n by omega)
    have h2 := modc (a := (k - 1 + b) % n) (b := n - b) (n := n) h3 (by omega)
    rw [if_neg h0, if_neg (by omega), show 1 + (k - 1 + b) % n - 1 = (k - 1 + b) % n by omega, h2, h1]
    constructor
    · split <;> omega
    · split <;> split <;> omega
theorem renG_sim {g : Gram} (he : checkE g = 0) {b : Nat} (h2 : 2 ≤ g.Prods.length) (hb : b < g.Prods.length - 1) :
    Sim g (renG g b) (trn (g.Prods.length - 1) b) (trn (g.Prods.length - 1) (g.Prods.length - 1 - b)) := by
  obtain ⟨hlm, hwf⟩ := checkE_ok he
  have hpl : (renG g b).Prods.length = g.Prods.length := renT_len _ _ _ _
  have hts : ∀ k, k < g.Prods.length → trn (g.Prods.length - 1) (g.Prods.length - 1 - b) k < g.Prods.length ∧ trn (g.Prods.length - 1) b (trn (g.Prods.length - 1) (g.Prods.length - 1 - b) k) = k := fun k hk => by
    have := trn_back (n := g.Prods.length - 1) (b := g.Prods.length - 1 - b) (k := k) (by omega) (by omega)
    rw [show g.Prods.length - 1 - (g.Prods.length - 1 - b) = b by omega] at this
    exact ⟨by omega, this.2⟩
  refine Like.sim ?_ he
  exact { t := rfl, n := rfl, p := hpl, s := fun k hk => by
            have := trn_back (n := g.Prods.length - 1) (b := b) (k := k) (by omega) (by omega)
            exact ⟨by omega, this.2⟩
          ts := hts, s0 := rfl
          l := fun k hk => by rw [renG_prd h2 hb hk]; exact ⟨rfl, rfl⟩, ll := rfl, lb := hwf.bind
          pb := fun k hk => by
            have h := hts k hk
            have h4 := renG_prd (g := g) h2 hb h.1
            rw [h.2] at h4
            rw [h4]
            have h5 := hwf.prod _ h.1
            rw [prd_at h.1]
            unfold prodOk at h5
            simp only [Bool.and_eq_true] at h5
            exact h5.2.2.2.1 }

theorem prC_set : ∀ {acs : List (Option Addr × Nat)} {ps : List Prd} (_ : acs.length = ps.length) {j : Nat} (_ : j < ps.length) (ac : Option Addr × Nat) (p : Prd), setMany (prC acs ps) (j * 4) (prRow ac p) = prC (acs.set j ac) (ps.set j p)
  | [], [], _, _, h, _, _ => absurd h (Nat.not_lt_zero _)
  | [], _ :: _, h, _, _, _, _ => by simp at h
  | _ :: _, [], h, _, _, _, _ => by simp at h
  | a :: acs, q :: ps, _, 0, _, ac, p => rfl
  | a :: acs, q :: ps, hl, j + 1, h, ac, p => by
    have ih := prC_set (acs := acs) (ps := ps) (by simpa using hl) (j := j) (by simpa using h) ac p
    rw [List.set_cons_succ, List.set_cons_succ, show (j + 1) * 4 = j * 4 + 1 + 1 + 1 + 1 by omega]
    show setMany (_ :: _ :: _ :: _ :: prC acs ps) _ _ = _ :: _ :: _ :: _ :: prC (acs.set j ac) (ps.set j p)
    rw [setMany_cons, setMany_cons, setMany_cons, setMany_cons, ih]
theorem prC_len {acs : List (Option Addr × Nat)} {ps : List Prd} (h : acs.length = ps.length) : (prC acs ps).length = ps.length * 4 := by
  unfold prC
  induction ps generalizing acs with
  | nil => cases acs <;> simp
  | cons p ps ih =>
    cases acs with
    | nil => simp at h
    | cons a acs =>
      rw [List.zipWith_cons_cons, List.flatten_cons, List.length_append, ih (by simpa using h)]
      simp only [prRow, List.length_cons, List.length_nil]; omega
theorem prC_load {acs : List (Option Addr × Nat)} {ps : List Prd} (h : acs.length = ps.length) {j : Nat} (hj : j < ps.length) {fs : List (Nat × Nat)} {by_ : Nat} {z : List Value} :
    loadL ⟨.struct fs, 4, by_, z⟩ (prC acs ps) (0 + j * 4) = some (.agg (prRow (acs[j]'(h ▸ hj)) ps[j]).toArray) := by
  have := load_flat (i := ⟨.struct fs, 4, by_, z⟩) (sz := 4) (ess := List.zipWith prRow acs ps) (fun es hes => by
    obtain ⟨i, hi, rfl⟩ := List.getElem_of_mem hes
    rw [List.getElem_zipWith]; rfl) (j := j) (o := 0 + j * 4) (by simp; omega) rfl rfl (by omega)
  rw [List.getElem_zipWith] at this
  exact this
/-- A right side of another grammar's in the place of one's own. -/
theorem ent_moveB {acs acs2 : List (Option Addr × Nat)} {ps ps2 : List Prd} {W : List Asn} (h : acs.length = ps.length) (h2 : acs2.length = ps2.length) {j k : Nat} (hj : j < ps.length) (hk : k < ps2.length) :
    Ent (prB acs ps :: prB acs2 ps2 :: W) (prB (acs.set j (acs2[k]'(h2 ▸ hk))) (ps.set j ps2[k]) :: W) := by
  have hl : acs.length = (ps.map (·.Right)).length := by rw [List.length_map]; exact h
  have hl2 : acs2.length = (ps2.map (·.Right)).length := by rw [List.length_map]; exact h2
  have hj2 : j < (ps.map (·.Right)).length := by rw [List.length_map]; exact hj
  have hk2 : k < (ps2.map (·.Right)).length := by rw [List.length_map]; exact hk
  refine Ent.trans (ent_btake hl hj2) (Ent.wk ?_)
  refine Ent.trans (Ent.tak (.s .z) (Ent.refl _)) ?_
  refine Ent.trans (ent_btake hl2 hk2) ?_
  refine Ent.trans (Ent.cons (Ent.wk (Ent.refl _))) ?_
  refine Ent.trans (ent_bput hl hj2) ?_
  rw [List.getElem_map]
  unfold prB
  rw [List.map_set]
  exact Ent.refl _
theorem copyG2_w (cs : List Value) (g : Gram) (hp : 0 < g.Prods.length) : Trip Tryd.prog 16 [.agg cs.toArray] (kGram.rd cs g) []
    (fun v V => ∃ (a0 a1 a2 a3 : Option Addr) (b4 d0 d1 d2 d3 d4 : Nat) (acs : List (Option Addr × Nat)), acs.length = g.Prods.length ∧
      v = .agg (gSl g a0 a1 a2 a3 (some ⟨b4, 0, none⟩) d0 d1 d2 d3 d4).toArray ∧ V = ownG g a0 a1 a2 a3 (some ⟨b4, 0, none⟩) d0 d1 d2 d3 d4 acs) :=
  (copyG_w cs g).monoS fun v V ⟨a0, a1, a2, a3, a4, d0, d1, d2, d3, d4, acs, hl, hv, hV⟩ w S hs => by
    rw [hV] at hs
    obtain ⟨S1, h1, _⟩ := star_mem (i := 0) rfl hs
    obtain ⟨b, rfl⟩ := osl_form h1 hp
    exact ⟨a0, a1, a2, a3, b, d0, d1, d2, d3, d4, acs, hl, hv, hV⟩

attribute [local irreducible] EVX EVO EVL EV1 NEV
attribute [local irreducible] own osl exA rdA rdL
attribute [local irreducible] bldA mapA bun mapS
set_option maxRecDepth 10000
set_option maxHeartbeats 4000000

theorem renamed_w (cs : List Value) (g : Gram) (b : Nat) (h2 : 2 ≤ g.Prods.length) (hb : b < g.Prods.length - 1) (hP : g.Prods.length ≤ 1000) : Trip Tryd.prog 14 [.agg cs.toArray, .int .i64 b] (kGram.rd cs g) []
    (fun v V => ∃ (a0 a1 a2 a3 : Option Addr) (b4 d0 d1 d2 d3 d4 : Nat) (acs : List (Option Addr × Nat)), acs.length = g.Prods.length ∧
      v = .agg (gSl g a0 a1 a2 a3 (some ⟨b4, 0, none⟩) d0 d1 d2 d3 d4).toArray ∧ V = ownG (renG g b) a0 a1 a2 a3 (some ⟨b4, 0, none⟩) d0 d1 d2 d3 d4 acs) := by
  refine trip Tryd.tabOk Tryd.func14 rfl rfl rfl rfl ?_
  rintro w SM hG0
  obtain ⟨A0, A1, A2, A3, A4, c0, c1, c2, c3, c4, rfl, hG⟩ := kGram_open hG0
  repeat' (first | refine e_nil ?_ | ((refine e_op ?_); (first | refine o_n (nl rfl rfl tc rfl) rfl ?_ | refine o_box rfl rfl (fun _ => ?_) | refine o_alloc rfl rfl (fun _ => ?_))) | refine s_seq ?_ | refine s_region ?_)
  rename_i bg br
  refine e_op (o_call (copyG2_w _ g (by omega)) rfl .nil (Can.ro hG0) rfl ?_)
  rintro v V ⟨a0, a1, a2, a3, bp, d0, d1, d2, d3, d4, acs, hl, rfl, rfl⟩
  unfold ownG
  simp only [List.cons_append, List.nil_append]
  have hwn : IntKind.i64.wrap ((g.Prods.length : Int) - 1) = ((g.Prods.length - 1 : Nat) : Int) := by rw [wrap_i64] <;> omega
  repeat' (first | refine e_nil ?_ | ((refine e_op ?_); (first | refine o_n (peval_sound rfl) rfl ?_ | refine o_n (nl rfl rfl tc rfl) rfl ?_ | refine o_storeC rfl rfl rfl rfl tc uc rfl rfl rfl ?_ | refine o_alloc rfl rfl (fun _ => ?_))) | refine s_seq ?_ | refine s_region ?_ | refine s_block ?_)
  rw [hwn]
  skip
  rename_i b5
  have hRl : ∀ i, (renT g.Prods b (g.Prods.length - 1) i).length = g.Prods.length := renT_len _ _ _
  refine s_loopK (ι := {x : Nat × List (Option Addr × Nat) // x.1 ≤ g.Prods.length - 1 ∧ x.2.length = g.Prods.length}) [1, 2, 4, 5, 6] rfl ⟨(0, acs), by simp [hl]⟩ (fun x => [(7, .int .i64 x.1.1)])
    (fun x => [blk b5 27 (gSl g a0 a1 a2 a3 (some ⟨bp, 0, none⟩) d0 d1 d2 d3 d4), prS (some ⟨bp, 0, none⟩) d4 x.1.2 (renT g.Prods b (g.Prods.length - 1) x.1.1), prB x.1.2 (renT g.Prods b (g.Prods.length - 1) x.1.1), ogT a0 d0 g.Terms, ogL a1 d1 g.Levels, ogP a2 d2 g.Pats, ogT a3 d3 g.Nons, blk br 27 [.slice none 0 0, .slice none 0 0, .slice none 0 0, .slice none 0 0, .slice none 0 0], blk bg 27 [.slice A0 g.Terms.length c0, .slice A1 g.Levels.length c1, .slice A2 g.Pats.length c2, .slice A3 g.Nons.length c3, .slice A4 g.Prods.length c4]]) (fun x => g.Prods.length - 1 - x.1.1) ?_ ?_ ?_
  · repeat' (first | exact Sub.nil _ | refine Sub.cons rfl ?_)
  · simp only [show renT g.Prods b (g.Prods.length - 1) 0 = g.Prods from rfl]
    repeat' (first | exact Ent.nil _ | refine Ent.tak tk ?_ | refine Ent.blkC tc rfl ?_)
  rintro ⟨⟨i, acs⟩, hi, hl⟩
  simp only at hi hl ⊢
  repeat' (first | refine e_nil ?_ | ((refine e_op ?_); (refine o_n (peval_sound rfl) rfl ?_)) | refine s_seq ?_ | refine s_region ?_)
  by_cases hlt : i < g.Prods.length - 1
  · rw [decide_eq_true (p := (i : Int) < ((g.Prods.length - 1 : Nat) : Int)) (by omega)]
    have hj := Nat.mod_lt (i + b) (show 0 < g.Prods.length - 1 by omega)
    have hw1 : IntKind.i64.wrap ((i : Int) + (b : Int)) = ((i + b : Nat) : Int) := by rw [wrap_i64] <;> omega
    have hw2 : IntKind.i64.wrap (1 + (((i + b) % (g.Prods.length - 1) : Nat) : Int)) = ((1 + (i + b) % (g.Prods.length - 1) : Nat) : Int) := by rw [wrap_i64] <;> omega
    have hw3 : IntKind.i64.wrap (1 + (i : Int)) = ((1 + i : Nat) : Int) := by rw [wrap_i64] <;> omega
    repeat' (first | refine s_seq ?_ | refine s_block ?_ | refine s_skip ?_ | refine s_true rfl ?_)
    refine s_P Tryd.mixed (by decide +kernel) ?_
    refine p_barU 16 ?_
    refine q_n 0 rfl (peval_sound rfl) (by decide +kernel) (by decide +kernel) (Ent.refl _) rfl ?_
    refine q_n 1 rfl (nl rfl rfl tc rfl) (by decide +kernel) (by decide +kernel) (Ent.refl _) rfl ?_
    refine q_n 2 rfl (peval_sound rfl) (by decide +kernel) (by decide +kernel) (Ent.refl _) rfl ?_
    refine q_n 3 rfl (peval_sound rfl) (by decide +kernel) (by decide +kernel) (Ent.refl _) rfl ?_
    refine q_n 4 rfl (peval_sound rfl) (by decide +kernel) (by decide +kernel) (Ent.refl _) rfl ?_
    rw [hw1]
    refine q_n 5 rfl (peval_sound rfl) (by decide +kernel) (by decide +kernel) (Ent.refl _) rfl ?_
    refine q_n 6 rfl (n_rem rfl rfl (by omega)) (by decide +kernel) (by decide +kernel) (Ent.refl _) rfl ?_
    rw [show ((i + b : Nat) : Int).tmod ((g.Prods.length - 1 : Nat) : Int) = (((i + b) % (g.Prods.length - 1) : Nat) : Int) from rfl]
    refine q_n 7 rfl (peval_sound rfl) (by decide +kernel) (by decide +kernel) (Ent.refl _) rfl ?_
    rw [hw2]
    refine q_n 8 rfl (nl rfl rfl tc rfl) (by decide +kernel) (by decide +kernel) (Ent.refl _) rfl ?_
    refine q_n 11 rfl (peval_sound rfl) (by decide +kernel) (by decide +kernel) (Ent.refl _) rfl ?_
    refine q_n 12 rfl (peval_sound rfl) (by decide +kernel) (by decide +kernel) (Ent.refl _) rfl ?_
    rw [hw3]
    refine q_1 9 (by decide +kernel) rfl rfl rfl (o_call (copyG2_w _ g (by omega)) rfl .nil (Can.ro hG0) rfl ?_)
    rintro v V ⟨e0, e1, e2, e3, bq, f0, f1, f2, f3, f4, acq, hq, rfl, rfl⟩
    refine ⟨ent_dropL, ?_⟩
    unfold ownG
    simp only [List.cons_append, List.nil_append]
    refine q_n 10 rfl (n_field1 (v := .slice (some ⟨bq, 0, none⟩) g.Prods.length f4) (cs := gSl g e0 e1 e2 e3 (some ⟨bq, 0, none⟩) f0 f1 f2 f3 f4) rfl Tryd.underlying27 rfl rfl rfl rfl rfl rfl) (by decide +kernel) (by decide +kernel) (by (repeat' (first | exact Ent.refl _ | refine Ent.wk ?_))) rfl ?_
    refine q_n 13 rfl (n_index rfl rfl rfl rfl (1 + i) rfl (by omega)) (by decide +kernel) (by decide +kernel) (by (repeat' (first | exact Ent.refl _ | refine Ent.wk ?_))) rfl ?_
    refine q_1 14 (by decide +kernel) rfl rfl rfl (o_n (no rfl rfl to (prC_load hq (by omega))) rfl ⟨(by (repeat' (first | exact Ent.refl _ | refine Ent.wk ?_))), ?_⟩)
    refine q_n 15 rfl (n_index rfl rfl rfl rfl (1 + (i + b) % (g.Prods.length - 1)) rfl (by omega)) (by decide +kernel) (by decide +kernel) (by (repeat' (first | exact Ent.refl _ | refine Ent.wk ?_))) rfl ?_
    refine q_z 16 (by decide +kernel) rfl rfl (o_storeO (vs := prRow (acq[1 + i]'(by omega)) (g.Prods[1 + i]'(by omega))) rfl rfl rfl rfl to uc rfl rfl (by rw [prC_len (by rw [hRl]; exact hl), hRl]; simp only; omega) ?_)
    refine p_done (by decide +kernel) ?_
    repeat' (first | refine e_nil ?_ | ((refine e_op ?_); (refine o_n (peval_sound rfl) rfl ?_)) | refine s_region ?_ | refine s_end ?_)
    refine s_back ⟨⟨(i + 1, acs.set (1 + (i + b) % (g.Prods.length - 1)) (acq[1 + i]'(by omega))), by simp only; omega, by simp only [List.length_set]; exact hl⟩, by simp only; omega, ?_, ?_⟩
    · repeat' (first | exact Sub.nil _ | refine Sub.cons rfl ?_ | refine Sub.consE rfl ?_ ?_)
      exact inc (i := i) (by omega)
    · have hlR : acs.length = (renT g.Prods b (g.Prods.length - 1) i).length := by rw [hRl]; exact hl
      have hjR : 1 + (i + b) % (g.Prods.length - 1) < (renT g.Prods b (g.Prods.length - 1) i).length := by rw [hRl]; omega
      have hrs : renT g.Prods b (g.Prods.length - 1) (i + 1) = (renT g.Prods b (g.Prods.length - 1) i).set (1 + (i + b) % (g.Prods.length - 1)) (g.Prods[1 + i]'(by omega)) := by
        show List.set _ _ (g.Prods.getD (1 + i) prd0) = _
        rw [List.getD_eq_getElem?_getD, List.getElem?_eq_getElem (by omega)]; rfl
      simp only
      rw [hrs, Nat.zero_add, prC_set hlR hjR]
      unfold prS
      simp only [hRl, List.length_set]
      refine Ent.tak tk (Ent.tak tk ?_)
      refine Ent.trans (Ent.tak (A := prB acs (renT g.Prods b (g.Prods.length - 1) i)) tk (Ent.tak (A := prB acq g.Prods) tk (Ent.refl _))) (Ent.trans (ent_moveB hlR hq hjR (by omega)) (Ent.cons ?_))
      repeat' (first | exact Ent.nil _ | refine Ent.tak tk ?_)
  rw [decide_eq_false (p := (i : Int) < ((g.Prods.length - 1 : Nat) : Int)) (by omega)]
  obtain rfl : i = g.Prods.length - 1 := by omega
  repeat' (first | refine e_nil ?_ | ((refine e_op ?_); (first | refine o_n (nl rfl rfl tc rfl) rfl ?_ | refine o_storeC rfl rfl rfl rfl tc uc rfl rfl rfl ?_)) | refine s_seq ?_ | refine s_region ?_ | refine s_exit ?_ | refine s_false rfl ?_ | refine x_hit ?_ | refine x_code ?_ | refine x_back ?_)
  refine s_ret ⟨_, _, resc rfl rfl rfl TakC.tak rfl, ⟨a0, a1, a2, a3, bp, d0, d1, d2, d3, d4, acs, hl, rfl, rfl⟩, ?_⟩
  refine Ent.trans ?_ (Ent.eq (show [prS (some ⟨bp, 0, none⟩) d4 acs (renT g.Prods b (g.Prods.length - 1) (g.Prods.length - 1)), ogT a0 d0 g.Terms, ogL a1 d1 g.Levels, ogP a2 d2 g.Pats, ogT a3 d3 g.Nons, prB acs (renT g.Prods b (g.Prods.length - 1) (g.Prods.length - 1))] = _ from rfl))
  repeat' (first | exact Ent.nil _ | refine Ent.tak tk ?_)

end Go.Proofs.YtcnpjhaedjncdaaDoor
