/-
  Part 4 of what the law's walk stands on: lemmas and contracts, each proved here without a condition but those that it names.
-/
import Derived.Test.YtcnpjhaedjncdaaGreatDoorArBase3
import Derived.Laws.Strings

namespace Go.Proofs.YtcnpjhaedjncdaaGreatDoor
set_option linter.all false
open Go.Proofs.YtcnpjhaedjncdaaGreatDoor.E

def encP (p : Plc) : List Value := [.int .i64 p.s, .int .i64 p.x.Prod, .int .i64 p.x.Dot]
abbrev ptrN (a : Nat) : Value := .pointer (some ⟨a, 0, none⟩)
def prs (ks : List Plc) (al : List Nat) : List (Plc × Value) := List.zipWith (fun p a => (p, ptrN a)) ks al
def bitX (al : List Nat) (bs : List Bits) : List Asn := List.zipWith (fun a b => blk a 83 (cB b)) al bs
abbrev tdS (At : Option Addr) (ct : Nat) (td : List Plc) : Asn := osl 81 3 (.slice At td.length ct) td.length (td.flatMap encP)
abbrev mkB (bm : Nat) (g0 g1 g2 g3 g4 l0 l1 : Value) (b1 : Nat) (At : Option Addr) (n ct b2 b3 : Nat) : Asn := blk bm 76 [g0, g1, g2, g3, g4, l0, l1, .map (some b1), .slice At n ct, .map (some b2), .map (some b3)]

theorem encP_len (l : List Plc) : (l.flatMap encP).length = l.length * 3 := by
  induction l with
  | nil => rfl
  | cons x l ih => rw [List.flatMap_cons, List.length_append, ih]; simp [encP]; omega
theorem look_prs : ∀ {ks : List Plc} {al : List Nat} {p : Plc}, al.length = ks.length → lookK (prs ks al) p = if p ∈ ks then some (ptrN (al.getD (ix ks p) 0)) else none
  | [], [], _, _ => rfl
  | [], _ :: _, _, h => by simp at h
  | _ :: _, [], _, h => by simp at h
  | k :: ks, a :: al, p, h => by
    have ih := look_prs (ks := ks) (al := al) (p := p) (by simpa using h)
    unfold prs at ih ⊢
    rw [List.zipWith_cons_cons]
    by_cases hk : k = p
    · subst hk
      unfold lookK
      rw [List.find?_cons_of_pos (by simp), if_pos (by simp)]
      show some (ptrN a) = some (ptrN ((a :: al).getD (if k = k then 0 else ix ks k + 1) 0))
      rw [if_pos rfl]; rfl
    · have : lookK ((k, ptrN a) :: List.zipWith (fun p a => (p, ptrN a)) ks al) p = lookK (List.zipWith (fun p a => (p, ptrN a)) ks al) p := by unfold lookK; rw [List.find?_cons_of_neg (by simpa using hk)]
      rw [this, ih, ix_cons hk]
      by_cases hp : p ∈ ks
      · rw [if_pos hp, if_pos (List.mem_cons_of_mem _ hp)]; rfl
      · rw [if_neg hp, if_neg (by rw [List.mem_cons]; rintro (e | e); exact hk e.symm; exact hp e)]

theorem setK_new {κ : Type} [DecidableEq κ] {k : κ} {v : Value} : ∀ {l : List (κ × Value)}, lookK l k = none → setK k v l = l ++ [(k, v)]
  | [], _ => rfl
  | q :: l, h => by
    unfold setK
    by_cases hk : q.1 = k
    · unfold lookK at h; rw [List.find?_cons_of_pos (by simpa using hk)] at h; cases h
    · have : lookK l k = none := by unfold lookK at h ⊢; rwa [List.find?_cons_of_neg (by simpa using hk)] at h
      rw [if_neg hk, setK_new this]; rfl

theorem prs_snoc {ks : List Plc} {al : List Nat} (h : al.length = ks.length) {p : Plc} {a : Nat} : prs ks al ++ [(p, ptrN a)] = prs (ks ++ [p]) (al ++ [a]) := by
  unfold prs; rw [List.zipWith_append h.symm]; rfl

section buns
variable {V : List Asn} {L : List Asn} {i : Nat} {A B : Asn}
theorem ent_bunAt (h : L[i]? = some A) : Ent (bun L :: V) (A :: bun (L.eraseIdx i) :: V) := ent_unbun.trans ((Ent.tak (tak_get h) (Ent.refl _)).trans (Ent.cons ent_bun))
theorem ent_bunSet (h : L[i]? = some A) : Ent (B :: bun (L.eraseIdx i) :: V) (bun (L.set i B) :: V) := (Ent.cons ent_unbun).trans ((ent_put h).trans ent_bun)
theorem ent_bunSnoc : Ent (B :: bun L :: V) (bun (L ++ [B]) :: V) := by
  refine (Ent.cons ent_unbun).trans (Ent.mid.trans ?_)
  have : Ent (L ++ (B :: V)) ((L ++ [B]) ++ V) := by rw [List.append_assoc]; exact Ent.refl _
  exact this.trans ent_bun
end buns

theorem bitX_get {al : List Nat} {bs : List Bits} (hl : al.length = bs.length) {i : Nat} {b : Bits} (hb : bs[i]? = some b) : (bitX al bs)[i]? = some (blk (al.getD i 0) 83 (cB b)) := by
  unfold bitX
  have hi := (List.getElem?_eq_some_iff.1 hb).1
  rw [List.getElem?_zipWith, hb, List.getElem?_eq_getElem (by omega), List.getD_eq_getElem?_getD, List.getElem?_eq_getElem (by omega)]; rfl
theorem bitX_set {al : List Nat} {bs : List Bits} (hl : al.length = bs.length) {i : Nat} (hi : i < bs.length) {b : Bits} : (bitX al bs).set i (blk (al.getD i 0) 83 (cB b)) = bitX al (bs.set i b) := by
  unfold bitX
  apply List.ext_getElem
  · simp
  · intro j h1 h2
    rw [List.getElem_zipWith, List.getElem_set, List.getElem_set]
    split
    · rename_i e; subst e
      rw [List.getD_eq_getElem?_getD, List.getElem?_eq_getElem (by omega)]; rfl
    · rw [List.getElem_zipWith]
theorem bitX_snoc {al : List Nat} {bs : List Bits} (hl : al.length = bs.length) {a : Nat} {b : Bits} : bitX al bs ++ [blk a 83 (cB b)] = bitX (al ++ [a]) (bs ++ [b]) := by
  unfold bitX; rw [List.zipWith_append hl]; rfl

attribute [local irreducible] EVX EVO EVL EV1 NEV
attribute [local irreducible] own osl exA rdA rdL
attribute [local irreducible] bldA mapA bun mapS
set_option maxRecDepth 10000
set_option maxHeartbeats 4000000

theorem add_w (bm b1 b2 b3 : Nat) (g0 g1 g2 g3 g4 l0 l1 : Value) (st : Stt) (hok : SttOk st) (htd : st.td.length ≤ 1000000000) (al : List Nat) (hal : al.length = st.ks.length) (At : Option Addr) (ct : Nat) (p : Plc) (l : Bits) (hll : l.length = 48) :
    Trip Tryz.prog 24 [ptrN bm, .agg (encP p).toArray, .agg (cB l).toArray] Rd.tt [mkB bm g0 g1 g2 g3 g4 l0 l1 b1 At st.td.length ct b2 b3, mapA keyP b1 (prs st.ks al), bun (bitX al st.bs), tdS At ct st.td]
      (fun v V => ∃ (al' : List Nat) (At' : Option Addr) (ct' : Nat), v = .tuple #[] ∧ al'.length = (addS st p l).ks.length ∧
        V = [mkB bm g0 g1 g2 g3 g4 l0 l1 b1 At' (addS st p l).td.length ct' b2 b3, mapA keyP b1 (prs (addS st p l).ks al'), bun (bitX al' (addS st p l).bs), tdS At' ct' (addS st p l).td]) := by
  refine trip Tryz.tabOk Tryz.func24 rfl rfl rfl rfl ?_
  rintro w SM hW
  clear hW
  repeat' (first | refine e_nil ?_ | ((refine e_op ?_); (refine o_box rfl rfl (fun _ => ?_))) | refine s_seq ?_ | refine s_region ?_)
  rename_i b4 b5
  have hg48 := getB_len (ks := st.ks) hok.l48 p
  have hal2 : al.length = st.bs.length := by rw [hok.len]; exact hal
  refine s_drawU [] Tryz.mixed (by decide +kernel) ?_
  repeat' (((first | refine l_n (peval_sound rfl) rfl ?_ rfl ?_ | refine l_n (nl rfl rfl tc rfl) rfl ?_ rfl ?_); · (exact Ent.refl _)))
  refine l_n (n_lookup (z := .pointer none) (k := p) rfl mkeyP (fun w => by kernel_rfl) rfl rfl rfl (.s (.s (.s .z)))) rfl (Ent.refl _) rfl ?_
  rw [look_prs hal]
  repeat' (first | refine l_nil ?_ | ((refine l_n (peval_sound rfl) rfl ?_ rfl ?_); · (exact Ent.refl _)))
  refine s_seq ?_
  refine s_join (ι := {al' : List Nat // al'.length = (addKs st.ks p).length}) (fun al' => [(6, ptrN (al'.1.getD (ix (addKs st.ks p) p) 0)), (5, ptrN b5), (4, ptrN b4), (0, ptrN bm)])
    (fun al' => [mapA keyP b1 (prs (addKs st.ks p) al'.1), bun (bitX al'.1 (addBs st.ks st.bs p)), blk b5 83 (cB l), blk b4 81 (encP p), mkB bm g0 g1 g2 g3 g4 l0 l1 b1 At st.td.length ct b2 b3, tdS At ct st.td]) (fun hj => ?_) ?_
  · by_cases hp : p ∈ st.ks
    · have e1 : addKs st.ks p = st.ks := by unfold addKs; rw [if_pos hp]
      have e2 : addBs st.ks st.bs p = st.bs := by unfold addBs; rw [if_pos hp]
      rw [if_pos hp]
      simp only [Option.getD_some]
      repeat' (first | ((refine e_op ?_); (refine o_n (peval_sound rfl) rfl ?_)) | refine s_seq ?_ | refine s_region ?_)
      refine e_op (o_n (n_eqlP Tryz.underlying85 (by kernel_rfl) rfl rfl) rfl ?_)
      refine e_nil ?_
      refine s_false rfl ?_
      refine s_skip ?_
      refine s_weak ?_ ?_ (hj ⟨al, by rw [e1]; exact hal⟩)
      · simp only [e1]
        repeat' (first | exact Sub.nil _ | refine Sub.cons rfl ?_)
      · simp only [e1, e2]
        exact Ent.tak (.s (.s (.s .z))) (Ent.tak (.s (.s (.s .z))) (Ent.refl _))
    · have e1 : addKs st.ks p = st.ks ++ [p] := by unfold addKs; rw [if_neg hp]
      have e2 : addBs st.ks st.bs p = st.bs ++ [zer] := by unfold addBs; rw [if_neg hp]
      rw [if_neg hp]
      simp only [Option.getD_none]
      repeat' (first | ((refine e_op ?_); (refine o_n (peval_sound rfl) rfl ?_)) | refine s_seq ?_ | refine s_region ?_)
      refine e_op (o_n (n_eqlP Tryz.underlying85 (by kernel_rfl) rfl rfl) rfl ?_)
      refine e_nil ?_
      refine s_true rfl ?_
      repeat' (first | refine s_seq ?_ | refine s_region ?_)
      refine e_op (o_n (n_buildA0 rfl rfl) rfl ?_)
      repeat' (first | refine e_nil ?_ | ((refine e_op ?_); (first | refine o_n (peval_sound rfl) rfl ?_ | refine o_box rfl rfl (fun _ => ?_))))
      rename_i bn
      have hz : List.replicate 48 (Value.bool false) = cB zer := by unfold zer; simp
      have hlk : lookK (prs st.ks al) p = none := by rw [look_prs hal, if_neg hp]
      rw [hz]
      refine s_drawT [6] (.s (.s (.s (.s .z)))) Tryz.mixed (by decide +kernel) ?_
      repeat' (((first | refine l_n (peval_sound rfl) rfl ?_ rfl ?_ | refine l_n (nl rfl rfl tc rfl) rfl ?_ rfl ?_); · (repeat' (first | exact Ent.refl _ | refine Ent.tak .z ?_ | refine Ent.wk ?_))))
      refine l_e rfl (o_mapUpdate (k := p) (v := ptrN bn) rfl mkeyP rfl rfl rfl rfl (.s (.s (.s (.s .z)))) ⟨Ent.cons (Ent.cons (Ent.cons (Ent.cons (Ent.wk (Ent.refl _))))), ?_⟩)
      rw [setK_new hlk, prs_snoc hal]
      refine l_nil ?_
      refine s_weak ?_ ?_ (hj ⟨al ++ [bn], by rw [e1, List.length_append, List.length_append, hal]; rfl⟩)
      · have hg : (al ++ [bn]).getD (ix (addKs st.ks p) p) 0 = bn := by
          rw [e1, ix_app_not hp, List.getD_eq_getElem?_getD, ← hal]; simp
        simp only [hg]
        repeat' (first | exact Sub.nil _ | refine Sub.cons rfl ?_)
      · simp only [e1, e2]
        refine Ent.tak (.s (.s (.s (.s .z)))) ?_
        rw [← bitX_snoc hal2]
        refine Ent.trans (Ent.tak .z (Ent.tak (.s (.s (.s .z))) (Ent.refl _))) ?_
        exact ent_bunSnoc
  · rintro ⟨al', hal'⟩
    simp only
    have hix := addKs_ix st.ks p
    have hbl := addBs_len hok.len p
    have hbg := addBs_get hok.len p
    have hab : al'.length = (addBs st.ks st.bs p).length := by rw [hbl]; exact hal'
    generalize hKS : addKs st.ks p = ks at *
    generalize hBS : addBs st.ks st.bs p = bs at *
    generalize hj0 : ix ks p = j at *
    generalize hol : getB st.ks st.bs p = old at *
    refine s_weak (Sub.refl _) (Ent.cons (ent_bunAt (bitX_get hab hbg))) ?_
    have hadd : addS st p l = ⟨ks, bs.set j (orB old l), if newB old l then st.td ++ [p] else st.td⟩ := by unfold addS; rw [hKS, hBS, hol, hj0]
    rw [hadd]
    simp only
    generalize hba : al'.getD j 0 = ba
    repeat' (first | refine e_nil ?_ | ((refine e_op ?_); (refine o_n (peval_sound rfl) rfl ?_)) | refine s_seq ?_ | refine s_region ?_)
    refine e_op (o_n (n_loadA rfl rfl (.s (.s (.s .z))) rfl hll) rfl ?_)
    repeat' (first | refine e_nil ?_ | ((refine e_op ?_); (refine o_n (peval_sound rfl) rfl ?_)) | refine s_block ?_)
    refine s_loopK (ι := {x : Nat // x ≤ 48}) [0, 4, 6, 26] rfl ⟨0, by omega⟩ (fun x => [(27, .int .i64 x.1), (7, .bool (newTo old l x.1))])
      (fun x => [blk ba 83 (cB (orTo old l x.1)), mapA keyP b1 (prs ks al'), bun ((bitX al' bs).eraseIdx j), blk b4 81 (encP p), mkB bm g0 g1 g2 g3 g4 l0 l1 b1 At st.td.length ct b2 b3, tdS At ct st.td]) (fun x => 48 - x.1) ?_ ?_ ?_
    · repeat' (first | exact Sub.nil _ | refine Sub.cons rfl ?_)
    · simp only [orTo_zero]
      exact Ent.tak (.s .z) (Ent.cons (Ent.cons (Ent.wk (Ent.refl _))))
    rintro ⟨i, hi⟩
    simp only at hi ⊢
    repeat' (first | refine e_nil ?_ | ((refine e_op ?_); (refine o_n (peval_sound rfl) rfl ?_)) | refine s_seq ?_ | refine s_region ?_)
    by_cases hlt : i < 48
    · rw [decide_eq_true (p := (i : Int) < 48) (by omega)]
      have hil : i < l.length := by omega
      have hio : i < (orTo old l i).length := by rw [orTo_len]; omega
      have hold := orTo_old (old := old) (l := l) (i := i) (by omega)
      have hsucc := orTo_succ (old := old) (l := l) (i := i) (by omega)
      have hnew := newTo_succ old l i
      have hlg : l.getD i false = l[i] := by rw [List.getD_eq_getElem?_getD, List.getElem?_eq_getElem hil]; rfl
      have hog : (orTo old l i)[i] = old.getD i false := by rw [← hold, List.getD_eq_getElem?_getD, List.getElem?_eq_getElem hio]; rfl
      rw [hold] at hsucc
      rw [hlg] at hsucc hnew
      repeat' (first | ((refine e_op ?_); (refine o_n (peval_sound rfl) rfl ?_)) | refine s_seq ?_ | refine s_region ?_ | refine s_block ?_ | refine s_skip ?_ | refine s_true rfl ?_)
      refine e_op (o_n (n_idxB (bs := l) rfl rfl rfl rfl rfl rfl (by omega) i rfl hlt) rfl ?_)
      repeat' (first | refine e_nil ?_ | ((refine e_op ?_); (refine o_n (peval_sound rfl) rfl ?_)) | refine s_seq ?_ | refine s_region ?_)
      cases hb : l[i] with
      | false =>
        rw [hb] at hsucc hnew
        simp only [Bool.false_and, Bool.or_false, Bool.false_eq_true, if_false] at hsucc hnew
        repeat' (first | refine e_nil ?_ | ((refine e_op ?_); (refine o_n (peval_sound rfl) rfl ?_)) | refine e_noU rfl rfl rfl ?_ | refine s_region ?_ | refine s_end ?_ | refine s_skip ?_ | refine s_false rfl ?_)
        refine s_back ⟨⟨i + 1, by omega⟩, by simp only; omega, ?_, ?_⟩
        · repeat' (first | exact Sub.nil _ | refine Sub.cons rfl ?_ | refine Sub.consE rfl ?_ ?_)
          · exact inc (i := i) (by omega)
          · rw [hnew]
        · simp only [hsucc]; exact Ent.refl _
      | true =>
        rw [hb] at hsucc hnew
        simp only [Bool.true_and] at hsucc hnew
        repeat' (((refine e_yes rfl ?_); (refine o_n (peval_sound rfl) rfl ?_)))
        refine e_yes rfl (o_n (n_indexA rfl rfl rfl rfl i rfl hlt) rfl ?_)
        skip
        refine e_yes rfl (o_n (n_loadB rfl rfl .z rfl i hio (by simp)) rfl ?_)
        rw [hog]
        cases ho : old.getD i false with
        | true =>
          rw [ho] at hsucc hnew
          simp only [Bool.not_true, Bool.or_false, Bool.false_eq_true, if_false] at hsucc hnew
          repeat' (first | refine e_nil ?_ | ((first | refine e_op ?_ | refine e_yes rfl ?_); (refine o_n (peval_sound rfl) rfl ?_)) | refine s_region ?_ | refine s_end ?_ | refine s_skip ?_ | refine s_false rfl ?_)
          refine s_back ⟨⟨i + 1, by omega⟩, by simp only; omega, ?_, ?_⟩
          · repeat' (first | exact Sub.nil _ | refine Sub.cons rfl ?_ | refine Sub.consE rfl ?_ ?_)
            · exact inc (i := i) (by omega)
            · rw [hnew]
          · simp only [hsucc]; exact Ent.refl _
        | false =>
          rw [ho] at hsucc hnew
          simp only [Bool.not_false, Bool.or_true, if_true] at hsucc hnew
          repeat' (first | refine e_nil ?_ | ((first | refine e_op ?_ | refine e_yes rfl ?_); (refine o_n (peval_sound rfl) rfl ?_)) | refine s_region ?_ | refine s_true rfl ?_)
          refine e_op (o_n (n_indexA rfl rfl rfl rfl i rfl hlt) rfl ?_)
          refine e_op (o_storeB rfl rfl rfl rfl i hio (by simp) .z ?_)
          rw [← hsucc]
          repeat' (first | refine e_nil ?_ | ((refine e_op ?_); (refine o_n (peval_sound rfl) rfl ?_)) | refine s_region ?_ | refine s_end ?_)
          refine s_back ⟨⟨i + 1, by omega⟩, by simp only; omega, ?_, Ent.refl _⟩
          repeat' (first | exact Sub.nil _ | refine Sub.cons rfl ?_ | refine Sub.consE rfl ?_ ?_)
          · exact inc (i := i) (by omega)
          · rw [hnew]
    · rw [decide_eq_false (p := (i : Int) < 48) (by omega)]
      obtain rfl : i = 48 := by omega
      have hfin : orTo old l 48 = orB old l := by unfold orB; rw [hg48]
      have hnfin : newTo old l 48 = newB old l := by unfold newB; rw [hg48]
      have hjl : j < bs.length := by omega
      rw [hfin, hnfin]
      have hbk : ∀ V, Ent (blk ba 83 (cB (orB old l)) :: bun ((bitX al' bs).eraseIdx j) :: V) (bun (bitX al' (bs.set j (orB old l))) :: V) := fun V => by
        have h1 := ent_bunSet (V := V) (B := blk (al'.getD j 0) 83 (cB (orB old l))) (bitX_get hab hbg)
        rw [bitX_set hab hjl, hba] at h1
        exact h1
      cases hnb : newB old l with
      | false =>
        repeat' (first | refine e_nil ?_ | ((refine e_op ?_); (refine o_n (peval_sound rfl) rfl ?_)) | refine s_seq ?_ | refine s_region ?_ | refine s_skip ?_ | refine s_exit ?_ | refine s_false rfl ?_ | refine x_hit ?_ | refine x_code ?_ | refine x_back ?_)
        simp only [Bool.false_eq_true, if_false]
        refine s_nil ?_
        refine ⟨_, _, res0 rfl, ⟨al', At, ct, rfl, hal', rfl⟩, ?_⟩
        exact Ent.tak (.s (.s (.s (.s .z)))) (Ent.tak (.s .z) (Ent.trans (Ent.cons (Ent.cons (Ent.wk (Ent.refl _)))) (hbk _)))
      | true =>
        simp only [if_true]
        repeat' (first | refine e_nil ?_ | ((refine e_op ?_); (refine o_n (peval_sound rfl) rfl ?_)) | refine s_seq ?_ | refine s_region ?_ | refine s_exit ?_ | refine s_true rfl ?_ | refine s_false rfl ?_ | refine x_hit ?_ | refine x_code ?_ | refine x_back ?_)
        refine s_P Tryz.mixed (by decide +kernel) ?_
        refine p_mv 0 rfl rfl (by decide +kernel) rfl ?_
        refine p_mv 1 rfl rfl (by decide +kernel) rfl ?_
        refine p_barU 7 ?_
        refine q_n 2 rfl (peval_sound rfl) (by decide +kernel) (by decide +kernel) (Ent.refl _) rfl ?_
        refine q_n 3 rfl (peval_sound rfl) (by decide +kernel) (by decide +kernel) (Ent.refl _) rfl ?_
        refine q_n 4 rfl (nl rfl rfl tc rfl) (by decide +kernel) (by decide +kernel) (Ent.refl _) rfl ?_
        refine q_n 5 rfl (nl rfl rfl tc rfl) (by decide +kernel) (by decide +kernel) (Ent.refl _) rfl ?_
        refine q_1 6 (by decide +kernel) rfl rfl rfl (o_lit (ps := [(0, .agg (encP p).toArray)]) (cs := encP p) rfl rfl rfl rfl rfl rfl rfl (fun bl => ⟨Ent.wk (Ent.refl _), ?_⟩))
        refine q_z 7 (by decide +kernel) rfl rfl (o_append (v := .slice At st.td.length ct) (n := st.td.length) (m := 1) (xs := st.td.flatMap encP) (news := encP p) _ rfl rfl rfl rfl (fun w hm q u hu => ?_) rfl ?_ rfl (by omega) (by simp only; omega) (by omega) rfl (fun b c => .s (.s (.s (.s (.s (.s .z)))))) (fun bt ca => ?_))
        · obtain ⟨S1, hP, _⟩ := hm.tak .z
          rw [Nat.zero_add]
          exact osl_cells hP q u hu
        · simp [encP, oneB]
        refine p_barU 10 ?_
        refine q_n 8 rfl (peval_sound rfl) (by decide +kernel) (by decide +kernel) (Ent.refl _) rfl ?_
        refine q_n 9 rfl (peval_sound rfl) (by decide +kernel) (by decide +kernel) (Ent.refl _) rfl ?_
        refine q_z 10 (by decide +kernel) rfl rfl (o_storeC rfl rfl rfl rfl tc uc rfl rfl rfl ?_)
        refine p_done (by decide +kernel) ?_
        refine s_nil ?_
        have hfl : st.td.flatMap encP ++ encP p = (st.td ++ [p]).flatMap encP := by rw [List.flatMap_append]; simp
        have hfn : st.td.length + 1 = (st.td ++ [p]).length := by simp
        rw [hfl, hfn]
        refine ⟨_, _, res0 rfl, ⟨al', some ⟨bt, 0, none⟩, ca, rfl, hal', rfl⟩, ?_⟩
        exact Ent.wk (Ent.tak (.s (.s (.s (.s .z)))) (Ent.tak (.s .z) (Ent.trans (Ent.cons (Ent.cons (Ent.wk (Ent.refl _)))) (hbk _))))

end Go.Proofs.YtcnpjhaedjncdaaGreatDoor

namespace Go.Proofs.YtcnpjhaedjncdaaGreatDoor
set_option linter.all false
open Go.Proofs.YtcnpjhaedjncdaaGreatDoor.E

def restL (g : Gram) (x : Itm) : List Int := (prd g x.Prod).Right.drop (x.Dot.toNat + 1)
def restB (g : Gram) (x : Itm) : Bits := (rowT g.Terms.length (bFix g) (restL g x)).1 ++ zer.drop g.Terms.length
def restN (g : Gram) (x : Itm) : Bool := (rowT g.Terms.length (bFix g) (restL g x)).2

theorem restB_len {g : Gram} (h : g.Terms.length ≤ 48) (x : Itm) : (restB g x).length = 48 := by
  unfold restB
  rw [List.length_append, rowT_len, List.length_drop, zer_len]; omega

abbrev begM (g : Gram) (c : List Itm) : List (Itm × Value) := c.map fun x => (x, .agg (cB (restB g x)).toArray)
abbrev empM (g : Gram) (c : List Itm) : List (Itm × Value) := c.map fun x => (x, .bool (restN g x))

theorem look_map {v : Itm → Value} : ∀ {c : List Itm} {x : Itm}, lookK (c.map fun x => (x, v x)) x = if x ∈ c then some (v x) else none
  | [], _ => rfl
  | y :: c, x => by
    have ih := look_map (v := v) (c := c) (x := x)
    unfold lookK at ih ⊢
    rw [List.map_cons]
    by_cases h : y = x
    · subst h
      rw [List.find?_cons_of_pos (by simp), if_pos (by simp)]; rfl
    · rw [List.find?_cons_of_neg (by simpa using h), ih]
      by_cases hx : x ∈ c
      · rw [if_pos hx, if_pos (List.mem_cons_of_mem _ hx)]
      · rw [if_neg hx, if_neg (by rw [List.mem_cons]; rintro (e | e); exact h e.symm; exact hx e)]

theorem els_drop {α : Type} {k : Kd α} {w : World} {S : BSet} {A : Option Addr} {xs : List α} {q c : Nat} (h : Els k w S A xs) (hc : xs.length ≤ c) : Els k w S (if c = q then A else A.map (·.add (q * k.sz))) (xs.drop q) := by
  intro i hi
  rw [List.length_drop] at hi
  obtain ⟨b, o, es, rfl, hb, hr, hcl⟩ := h (q + i) (by omega)
  rw [if_neg (by omega)]
  refine ⟨b, o + q * k.sz, es, ?_, hb, by rw [List.getElem_drop]; exact hr, fun j u hu => ?_⟩
  · simp only [Option.map_some, Option.some.injEq]
    unfold Addr.add; split <;> simp_all
  · have := hcl j u hu
    rw [show o + q * k.sz + i * k.sz + j = o + (q + i) * k.sz + j by rw [Nat.add_mul]; omega]
    exact this

theorem ofE_rest {g : Gram} (hc : checkE g = 0) {x : Itm} (hx : inG g x = true) : ofE g (restL g x) = 0 := by
  obtain ⟨hlm, hwf⟩ := checkE_ok hc
  have hL := lims hlm
  unfold inG at hx
  simp only [Bool.and_eq_true, decide_eq_true_eq] at hx
  obtain ⟨p, hp⟩ : ∃ p : Nat, x.Prod = (p : Int) := ⟨x.Prod.toNat, by omega⟩
  have hpl : p < g.Prods.length := by omega
  have hr12 := hL.r _ (List.getElem_mem hpl)
  unfold ofE
  rw [if_neg (fun h => h hc)]
  have hlen : (restL g x).length ≤ 12 := by unfold restL; rw [List.length_drop, hp, prd_at hpl]; omega
  rw [if_neg (by omega), if_neg]
  rw [List.any_eq_true]
  rintro ⟨s, hs, hb⟩
  unfold restL at hs
  rw [hp, prd_at hpl] at hs
  have := (prod_ok hwf hpl).2.2 s (List.mem_of_mem_drop hs)
  unfold inB at hb
  simp only [Bool.or_eq_true, decide_eq_true_eq] at hb
  omega

theorem rescA3 {E0 : Go.Proofs.YtcnpjhaedjncdaaGreatDoor.E.Env} {fr : Frm} {U : List Asn} {fn : Func} {p q r : Tmp} {t : TypeId} {i : TI} {b : Nat} {T : TypeId} {bs : Bits} {v2 v3 : Value} {U' : List Asn} (h : fn.results = #[.cell p t, .tmp q, .tmp r]) (hp : Go.Proofs.YtcnpjhaedjncdaaGreatDoor.E.look fr p = some (.pointer (some ⟨b, 0, none⟩)))
    (ht : tl E0.T t = some i) (hU : Tak (blk b T (cB bs)) U U') (ha : aggB i.d = true) (hs : bs.length = i.size) (hq : Go.Proofs.YtcnpjhaedjncdaaGreatDoor.E.look fr q = some v2) (hr : Go.Proofs.YtcnpjhaedjncdaaGreatDoor.E.look fr r = some v3) : Res E0 fn fr U (.tuple #[.agg (cB bs).toArray, v2, v3]) := fun a w hf hm => by
  obtain ⟨S1, ⟨_, hb⟩, _⟩ := hm.tak hU
  have hc : ∀ j u, (cB bs)[j]? = some u → w.cell? ⟨b, j, none⟩ = some u := fun j u hu => by rw [cell_of_row w b j _ _ _ hb]; simpa using hu
  have hl : loadL i (cB bs) 0 = some (.agg (cB bs).toArray) := ld_all (n := i.size) (by rw [cB_len, hs]) ha rfl rfl
  have h1 := hf.frm p _ hp
  have h2 := hf.frm q _ hq
  have h3 := hf.frm r _ hr
  simp [results, h, h1, h2, h3, asAddr, run_loadVar ht hc hl]
theorem zer48 : List.replicate 48 (Value.bool false) = cB zer := by unfold zer; simp
theorem o_allocB {E0 : Go.Proofs.YtcnpjhaedjncdaaGreatDoor.E.Env} {fr : Frm} {U : List Asn} {N : Frm → List Asn → Prop} {d : Nat} {t : TypeId} {ty : TypeId} {pos : String} {af : Array Edge} {gd : Option (Nat × Bool)} {i : TI} {bs : Bits} (ht : tl E0.T t = some i) (hz : i.zero = cB bs) (hd : Nat.ble (d + 1) E0.n = true)
    (h : ∀ b, N ((d, .pointer (some ⟨b, 0, none⟩)) :: fr) (blk b t (cB bs) :: U)) : EV1 E0 ⟨some d, .alloc t, ty, pos, af, gd⟩ fr U N :=
  o_alloc ht hd (fun b => by rw [hz]; exact h b)
theorem zero109 (w : World) : (zeroValue 83).run Tryz.prog w = .ok (.agg (cB zer).toArray) w := by
  rw [← zer48]; kernel_rfl

attribute [local irreducible] EVX EVO EVL EV1 NEV
attribute [local irreducible] own osl exA rdA rdL
attribute [local irreducible] bldA mapA bun mapS
set_option maxRecDepth 10000
set_option maxHeartbeats 4000000

theorem rest_w (bm b1 b2 b3 : Nat) (A0 A1 A2 A3 A4 : Option Addr) (c0 c1 c2 c3 c4 : Nat) (l0 l1 : Value) (g : Gram) (hc : checkE g = 0) (At : Option Addr) (n ct : Nat) (x : Itm) (hx : inG g x = true) (hd : x.Dot < (prd g x.Prod).Right.length) (c : List Itm) (st2 st3 : List Nat) (k2 k3 : Nat) :
    Trip Tryz.prog 43 [ptrN bm, .agg (encX x).toArray] (kGram.rd [.slice A0 g.Terms.length c0, .slice A1 g.Levels.length c1, .slice A2 g.Pats.length c2, .slice A3 g.Nons.length c3, .slice A4 g.Prods.length c4] g)
      [mkB bm (.slice A0 g.Terms.length c0) (.slice A1 g.Levels.length c1) (.slice A2 g.Pats.length c2) (.slice A3 g.Nons.length c3) (.slice A4 g.Prods.length c4) l0 l1 b1 At n ct b2 b3, mapS keyX b2 (begM g c) st2 k2, mapS keyX b3 (empM g c) st3 k3]
      (fun v V => ∃ (c' : List Itm) (st2' st3' : List Nat) (k2' k3' : Nat), v = .tuple #[.agg (cB (restB g x)).toArray, .bool (restN g x), .int .i64 0] ∧
        V = [mkB bm (.slice A0 g.Terms.length c0) (.slice A1 g.Levels.length c1) (.slice A2 g.Pats.length c2) (.slice A3 g.Nons.length c3) (.slice A4 g.Prods.length c4) l0 l1 b1 At n ct b2 b3, mapS keyX b2 (begM g c') st2' k2', mapS keyX b3 (empM g c') st3' k3']) := by
  refine trip Tryz.tabOk Tryz.func43 rfl rfl rfl rfl ?_
  rintro w SM hG0
  obtain ⟨_, _, _, _, _, _, _, _, _, _, e, hG⟩ := kGram_open hG0
  cases e
  obtain ⟨hlm, hwf⟩ := checkE_ok hc
  have hL := lims hlm
  have hT := hL.t
  repeat' (first | refine e_nil ?_ | ((refine e_op ?_); (first | refine o_n (peval_sound rfl) rfl ?_ | refine o_box rfl rfl (fun _ => ?_) | refine o_alloc rfl rfl (fun _ => ?_))) | refine s_seq ?_ | refine s_region ?_)
  rename_i b3x b4
  dsimp only
  rw [zer48]
  by_cases hxc : x ∈ c
  · have h2 : lookK (begM g c) x = some (.agg (cB (restB g x)).toArray) := by rw [look_map, if_pos hxc]
    have h3 : lookK (empM g c) x = some (.bool (restN g x)) := by rw [look_map, if_pos hxc]
    refine s_anyU Tryz.mixed ?_
    (refine a_n 0 rfl (peval_sound rfl) (by decide +kernel) (by (exact Ent.refl _)) rfl ?_); (refine a_n 1 rfl (peval_sound rfl) (by decide +kernel) (by (exact Ent.refl _)) rfl ?_); (refine a_n 2 rfl (peval_sound rfl) (by decide +kernel) (by (exact Ent.refl _)) rfl ?_); (first | refine a_n 3 rfl (peval_sound rfl) (by decide +kernel) (by (exact Ent.refl _)) rfl ?_ | refine a_n 3 rfl (nl rfl rfl tc rfl) (by decide +kernel) (by (exact Ent.refl _)) rfl ?_); (first | refine a_n 4 rfl (peval_sound rfl) (by decide +kernel) (by (exact Ent.refl _)) rfl ?_ | refine a_n 4 rfl (nl rfl rfl tc rfl) (by decide +kernel) (by (exact Ent.refl _)) rfl ?_)
    refine a_n 5 rfl (NEV.weak (Ent.trans (Ent.tak (.s (.s (.s .z))) (Ent.refl _)) ent_mapS) (n_lookup2 (k := x) rfl mkey42 zero109 rfl rfl rfl .z)) (by decide +kernel) (by (exact Ent.refl _)) rfl ?_
    rw [h2]
    (refine a_n 6 rfl (peval_sound rfl) (by decide +kernel) (by (exact Ent.refl _)) rfl ?_); (refine a_n 7 rfl (peval_sound rfl) (by decide +kernel) (by (exact Ent.refl _)) rfl ?_); (refine a_n 8 rfl (peval_sound rfl) (by decide +kernel) (by (exact Ent.refl _)) rfl ?_)
    refine a_1 9 (by decide +kernel) rfl rfl (o_allocB rfl zer48 rfl (fun b7 => ⟨(by (repeat' (first | exact Ent.refl _ | refine Ent.wk ?_))), ?_⟩))
    refine a_1 10 (by decide +kernel) rfl rfl (o_storeA rfl rfl rfl (restB_len hT x) zer_len .z ⟨(by (repeat' (first | exact Ent.refl _ | refine Ent.wk ?_))), ?_⟩)
    (refine a_n 11 rfl (peval_sound rfl) (by decide +kernel) (by (repeat' (first | exact Ent.refl _ | refine Ent.wk ?_))) rfl ?_)
    refine a_done (by decide +kernel) ?_
    repeat' (first | refine e_nil ?_ | ((refine e_op ?_); (refine o_n (peval_sound rfl) rfl ?_)) | refine s_seq ?_ | refine s_region ?_ | refine s_true rfl ?_)
    refine s_anyT (.s .z) Tryz.mixed ?_
    refine a_n 0 rfl (n_loadA rfl rfl .z rfl (restB_len hT x)) (by decide +kernel) (by (repeat' (first | exact Ent.refl _ | refine Ent.tak .z ?_ | refine Ent.wk ?_))) rfl ?_
    (refine a_n 1 rfl (peval_sound rfl) (by decide +kernel) (by (repeat' (first | exact Ent.refl _ | refine Ent.tak .z ?_ | refine Ent.wk ?_))) rfl ?_); (refine a_n 2 rfl (peval_sound rfl) (by decide +kernel) (by (repeat' (first | exact Ent.refl _ | refine Ent.tak .z ?_ | refine Ent.wk ?_))) rfl ?_); (refine a_n 3 rfl (peval_sound rfl) (by decide +kernel) (by (repeat' (first | exact Ent.refl _ | refine Ent.tak .z ?_ | refine Ent.wk ?_))) rfl ?_); (first | refine a_n 4 rfl (peval_sound rfl) (by decide +kernel) (by (repeat' (first | exact Ent.refl _ | refine Ent.tak .z ?_ | refine Ent.wk ?_))) rfl ?_ | refine a_n 4 rfl (nl rfl rfl tc rfl) (by decide +kernel) (by (repeat' (first | exact Ent.refl _ | refine Ent.tak .z ?_ | refine Ent.wk ?_))) rfl ?_); (first | refine a_n 5 rfl (peval_sound rfl) (by decide +kernel) (by (repeat' (first | exact Ent.refl _ | refine Ent.tak .z ?_ | refine Ent.wk ?_))) rfl ?_ | refine a_n 5 rfl (nl rfl rfl tc rfl) (by decide +kernel) (by (repeat' (first | exact Ent.refl _ | refine Ent.tak .z ?_ | refine Ent.wk ?_))) rfl ?_)
    refine a_n 6 rfl (NEV.weak (Ent.trans (Ent.tak (.s (.s (.s (.s .z)))) (Ent.refl _)) ent_mapS) (n_lookup (z := .bool false) (k := x) rfl mkey42 (fun w => by kernel_rfl) rfl rfl rfl .z)) (by decide +kernel) (by (repeat' (first | exact Ent.refl _ | refine Ent.tak .z ?_ | refine Ent.wk ?_))) rfl ?_
    rw [h3]
    refine a_1 7 (by decide +kernel) rfl rfl (o_storeA rfl rfl rfl (restB_len hT x) zer_len (.s .z) ⟨(by (repeat' (first | exact Ent.refl _ | refine Ent.tak .z ?_ | refine Ent.wk ?_))), ?_⟩)
    (refine a_n 8 rfl (peval_sound rfl) (by decide +kernel) (by (repeat' (first | exact Ent.refl _ | refine Ent.tak .z ?_ | refine Ent.wk ?_))) rfl ?_); (refine a_n 9 rfl (peval_sound rfl) (by decide +kernel) (by (repeat' (first | exact Ent.refl _ | refine Ent.tak .z ?_ | refine Ent.wk ?_))) rfl ?_)
    refine a_done (by decide +kernel) ?_
    skip
    refine s_ret ⟨_, _, rescA3 rfl rfl rfl (.s .z) rfl (restB_len hT x) rfl rfl, ⟨c, st2, st3, k2, k3, rfl, rfl⟩, ?_⟩
    exact Ent.wk (Ent.wk (Ent.wk (Ent.refl _)))
  · have h2 : lookK (begM g c) x = none := by rw [look_map, if_neg hxc]
    have h3 : lookK (empM g c) x = none := by rw [look_map, if_neg hxc]
    refine s_anyU Tryz.mixed ?_
    (refine a_n 0 rfl (peval_sound rfl) (by decide +kernel) (by (exact Ent.refl _)) rfl ?_); (refine a_n 1 rfl (peval_sound rfl) (by decide +kernel) (by (exact Ent.refl _)) rfl ?_); (refine a_n 2 rfl (peval_sound rfl) (by decide +kernel) (by (exact Ent.refl _)) rfl ?_); (first | refine a_n 3 rfl (peval_sound rfl) (by decide +kernel) (by (exact Ent.refl _)) rfl ?_ | refine a_n 3 rfl (nl rfl rfl tc rfl) (by decide +kernel) (by (exact Ent.refl _)) rfl ?_); (first | refine a_n 4 rfl (peval_sound rfl) (by decide +kernel) (by (exact Ent.refl _)) rfl ?_ | refine a_n 4 rfl (nl rfl rfl tc rfl) (by decide +kernel) (by (exact Ent.refl _)) rfl ?_)
    refine a_n 5 rfl (NEV.weak (Ent.trans (Ent.tak (.s (.s (.s .z))) (Ent.refl _)) ent_mapS) (n_lookup2 (k := x) rfl mkey42 zero109 rfl rfl rfl .z)) (by decide +kernel) (by (exact Ent.refl _)) rfl ?_
    rw [h2]
    (refine a_n 6 rfl (peval_sound rfl) (by decide +kernel) (by (exact Ent.refl _)) rfl ?_); (refine a_n 7 rfl (peval_sound rfl) (by decide +kernel) (by (exact Ent.refl _)) rfl ?_); (refine a_n 8 rfl (peval_sound rfl) (by decide +kernel) (by (exact Ent.refl _)) rfl ?_)
    refine a_1 9 (by decide +kernel) rfl rfl (o_allocB rfl zer48 rfl (fun b7 => ⟨(by (repeat' (first | exact Ent.refl _ | refine Ent.wk ?_))), ?_⟩))
    refine a_1 10 (by decide +kernel) rfl rfl (o_storeA rfl rfl rfl zer_len zer_len .z ⟨(by (repeat' (first | exact Ent.refl _ | refine Ent.wk ?_))), ?_⟩)
    (refine a_n 11 rfl (peval_sound rfl) (by decide +kernel) (by (repeat' (first | exact Ent.refl _ | refine Ent.wk ?_))) rfl ?_)
    refine a_done (by decide +kernel) ?_
    repeat' (first | refine e_nil ?_ | ((refine e_op ?_); (refine o_n (peval_sound rfl) rfl ?_)) | refine s_seq ?_ | refine s_region ?_ | refine s_skip ?_ | refine s_false rfl ?_)
    have hxin := hx
    unfold inG at hxin
    simp only [Bool.and_eq_true, decide_eq_true_eq] at hxin
    obtain ⟨xp, xd⟩ := x
    simp only at hxin
    obtain ⟨p, rfl⟩ : ∃ p : Nat, xp = (p : Int) := ⟨xp.toNat, by omega⟩
    obtain ⟨d, rfl⟩ : ∃ d : Nat, xd = (d : Int) := ⟨xd.toNat, by omega⟩
    have hpl : p < g.Prods.length := by omega
    have hr12 := hL.r _ (List.getElem_mem hpl)
    have hd2 : d < g.Prods[p].Right.length := by rw [prd_at hpl] at hd; simp only at hd; omega
    have hl : restL g ⟨p, d⟩ = g.Prods[p].Right.drop (d + 1) := by unfold restL; rw [prd_at hpl, Int.toNat_natCast]
    obtain ⟨b9, o9, es9, rfl, hb9, he9, hc9⟩ := hG.prods.2.2 p hpl
    obtain ⟨Ar, cr, rfl, hl9, hlN, hlK, hri⟩ := kPrd_open he9
    have hw1 : IntKind.i64.wrap ((d : Int) + 1) = ((d + 1 : Nat) : Int) := by rw [wrap_i64] <;> omega
    have hdr := els_drop (q := d + 1) hri.2.2 hri.1
    have hof := ofE_rest hc hx
    rw [hl] at hof
    have hrr : (rowT g.Terms.length (bFix g) (g.Prods[p].Right.drop (d + 1))).1 ++ zer.drop g.Terms.length = restB g ⟨p, d⟩ := by unfold restB; rw [hl]
    have hrn : (rowT g.Terms.length (bFix g) (g.Prods[p].Right.drop (d + 1))).2 = restN g ⟨p, d⟩ := by unfold restN; rw [hl]
    unfold encX
    refine s_drawU [18] Tryz.mixed (by decide +kernel) ?_
    repeat' (((first | refine l_n (peval_sound rfl) rfl ?_ rfl ?_ | refine l_n (nl rfl rfl tc rfl) rfl ?_ rfl ?_); · (exact Ent.refl _)))
    refine l_n (n_index rfl rfl rfl rfl p rfl hpl) rfl (Ent.refl _) rfl ?_
    repeat' (((refine l_n (peval_sound rfl) rfl ?_ rfl ?_); · (exact Ent.refl _)))
    refine l_n (n_load_ro rfl rfl hb9 (loads_one rfl (hc9 1 _ rfl))) rfl (Ent.refl _) rfl ?_
    repeat' (((first | refine l_n (peval_sound rfl) rfl ?_ rfl ?_ | refine l_n (nl rfl rfl tc rfl) rfl ?_ rfl ?_); · (exact Ent.refl _)))
    rw [hw1]
    refine l_n (n_fromV (d + 1) rfl rfl rfl rfl rfl (by omega)) rfl (Ent.refl _) rfl ?_
    skip
    refine l_e rfl (o_call (of_w _ g _ (g.Prods[p].Right.length - (d + 1)) (cr - (d + 1)) (g.Prods[p].Right.drop (d + 1)) (by rw [List.length_drop])) rfl .nil (Can.and (Can.ro hG0) (Can.ro ⟨_, _, by rw [List.length_drop]; rfl, by rw [List.length_drop]; have := hri.1; omega, by rw [List.length_drop]; have := hri.2.1; omega, hdr⟩)) rfl ?_)
    rintro v V (⟨hne, _⟩ | ⟨_, bu, rfl, rfl⟩)
    · exact absurd hof hne
    rw [hrn]
    refine ⟨Ent.wk (Ent.refl _), ?_⟩
    simp only [List.cons_append, List.nil_append]
    repeat' (first | refine l_nil ?_ | ((refine l_n (peval_sound rfl) rfl ?_ rfl ?_); · (repeat' (first | exact Ent.refl _ | refine Ent.wk ?_))))
    repeat' (first | refine e_nil ?_ | ((refine e_op ?_); (refine o_alloc rfl rfl (fun _ => ?_))) | refine s_seq ?_ | refine s_region ?_)
    dsimp only
    rw [zer48]
    rename_i b12
    refine e_op (o_n (n_arrAll rfl rfl rfl) rfl ?_)
    repeat' (((refine e_op ?_); (refine o_n (peval_sound rfl) rfl ?_)))
    refine e_op (o_copyB rfl rfl rfl rfl rfl (.s .z) zer_len hT rfl .z ?_)
    rw [hrr]
    refine e_weak (fr' := [(12, ptrN b12), (11, .int .i64 0), (10, .bool (restN g ⟨p, d⟩)), (4, ptrN b4), (3, ptrN b3x), (0, ptrN bm)]) (V := [blk b12 83 (cB (restB g ⟨p, d⟩)), blk b4 83 (cB zer), blk b3x 79 [.int .i64 p, .int .i64 d], mkB bm (.slice A0 g.Terms.length c0) (.slice A1 g.Levels.length c1) (.slice A2 g.Pats.length c2) (.slice A3 g.Nons.length c3) (.slice (some ⟨b9, o9, none⟩) g.Prods.length c4) l0 l1 b1 At n ct b2 b3, mapS keyX b2 (begM g c) st2 k2, mapS keyX b3 (empM g c) st3 k3]) ?_ (Ent.tak .z (Ent.wk (Ent.wk (Ent.refl _)))) ?_
    · repeat' (first | exact Sub.nil _ | refine Sub.cons rfl ?_)
    repeat' (first | refine e_nil ?_ | refine s_seq ?_)
    refine s_P Tryz.mixed (by decide +kernel) ?_
    refine p_bar 17 [blk b12 83 (cB (restB g ⟨p, d⟩)), blk b4 83 (cB zer), blk b3x 79 [.int .i64 p, .int .i64 d], mkB bm (.slice A0 g.Terms.length c0) (.slice A1 g.Levels.length c1) (.slice A2 g.Pats.length c2) (.slice A3 g.Nons.length c3) (.slice (some ⟨b9, o9, none⟩) g.Prods.length c4) l0 l1 b1 At n ct b2 b3] ?_
    refine q_n 0 rfl (peval_sound rfl) (by decide +kernel) (by decide +kernel) (Ent.cons (Ent.cons (Ent.cons (Ent.cons (Ent.nil _))))) rfl ?_
    refine q_n 1 rfl (peval_sound rfl) (by decide +kernel) (by decide +kernel) (Ent.cons (Ent.cons (Ent.cons (Ent.cons (Ent.nil _))))) rfl ?_
    refine q_n 2 rfl (peval_sound rfl) (by decide +kernel) (by decide +kernel) (Ent.cons (Ent.cons (Ent.cons (Ent.cons (Ent.nil _))))) rfl ?_
    refine q_n 3 rfl (nl rfl rfl tc rfl) (by decide +kernel) (by decide +kernel) (Ent.cons (Ent.cons (Ent.cons (Ent.cons (Ent.nil _))))) rfl ?_
    refine q_n 4 rfl (nl rfl rfl tc rfl) (by decide +kernel) (by decide +kernel) (Ent.cons (Ent.cons (Ent.cons (Ent.cons (Ent.nil _))))) rfl ?_
    refine q_n 5 rfl (peval_sound rfl) (by decide +kernel) (by decide +kernel) (Ent.cons (Ent.cons (Ent.cons (Ent.cons (Ent.nil _))))) rfl ?_
    refine q_n 6 rfl (peval_sound rfl) (by decide +kernel) (by decide +kernel) (Ent.cons (Ent.cons (Ent.cons (Ent.cons (Ent.nil _))))) rfl ?_
    refine q_n 7 rfl (peval_sound rfl) (by decide +kernel) (by decide +kernel) (Ent.cons (Ent.cons (Ent.cons (Ent.cons (Ent.nil _))))) rfl ?_
    refine q_n 8 rfl (nl rfl rfl tc rfl) (by decide +kernel) (by decide +kernel) (Ent.cons (Ent.cons (Ent.cons (Ent.cons (Ent.nil _))))) rfl ?_
    refine q_n 9 rfl (nl rfl rfl tc rfl) (by decide +kernel) (by decide +kernel) (Ent.cons (Ent.cons (Ent.cons (Ent.cons (Ent.nil _))))) rfl ?_
    refine q_n 10 rfl (n_loadA rfl rfl .z rfl (restB_len hT _)) (by decide +kernel) (by decide +kernel) (Ent.cons (Ent.cons (Ent.cons (Ent.cons (Ent.nil _))))) rfl ?_
    refine q_n 11 rfl (peval_sound rfl) (by decide +kernel) (by decide +kernel) (Ent.cons (Ent.cons (Ent.cons (Ent.cons (Ent.nil _))))) rfl ?_
    refine q_1 12 (by decide +kernel) rfl rfl rfl (o_mapEntry (k := ⟨p, d⟩) rfl mkey42 zero109 rfl rfl rfl h2 rfl (.s (.s (.s (.s .z)))) ⟨(Ent.cons (Ent.cons (Ent.cons (Ent.cons (Ent.nil _))))), ?_⟩)
    refine q_n 13 rfl (peval_sound rfl) (by decide +kernel) (by decide +kernel) (Ent.cons (Ent.cons (Ent.cons (Ent.cons (Ent.nil _))))) rfl ?_
    refine q_1 14 (by decide +kernel) rfl rfl rfl (o_entryStore rfl rfl rfl rfl (.s (.s (.s (.s .z)))) ⟨(Ent.cons (Ent.cons (Ent.cons (Ent.cons (Ent.nil _))))), ?_⟩)
    refine q_1 15 (by decide +kernel) rfl rfl rfl (o_mapEntry (z := .bool false) (k := ⟨p, d⟩) rfl mkey42 (fun w => by kernel_rfl) rfl rfl rfl h3 rfl (.s (.s (.s (.s (.s .z))))) ⟨(Ent.cons (Ent.cons (Ent.cons (Ent.cons (Ent.nil _))))), ?_⟩)
    refine q_n 16 rfl (peval_sound rfl) (by decide +kernel) (by decide +kernel) (Ent.cons (Ent.cons (Ent.cons (Ent.cons (Ent.nil _))))) rfl ?_
    refine q_z 17 (by decide +kernel) rfl rfl (o_entryStore rfl rfl rfl rfl (.s (.s (.s (.s (.s .z))))) ?_)
    refine p_done (by decide +kernel) ?_
    repeat' (first | refine s_seq ?_ | refine s_region ?_)
    refine e_op (o_n (n_loadA rfl rfl .z rfl (restB_len hT _)) rfl ?_)
    repeat' (((refine e_op ?_); (refine o_n (peval_sound rfl) rfl ?_)))
    refine e_op (o_storeA rfl rfl rfl (restB_len hT _) zer_len (.s .z) ?_)
    repeat' (first | refine e_nil ?_ | ((refine e_op ?_); (refine o_n (peval_sound rfl) rfl ?_)))
    refine s_ret ⟨_, _, rescA3 rfl rfl rfl (.s .z) rfl (restB_len hT _) rfl rfl, ⟨c ++ [⟨p, d⟩], st2 ++ [k2], st3 ++ [k3], k2 + 1, k3 + 1, rfl, rfl⟩, ?_⟩
    have e2 : begM g (c ++ [⟨p, d⟩]) = begM g c ++ [(⟨p, d⟩, .agg (cB (restB g ⟨p, d⟩)).toArray)] := by simp
    have e3 : empM g (c ++ [⟨p, d⟩]) = empM g c ++ [(⟨p, d⟩, .bool (restN g ⟨p, d⟩))] := by simp
    rw [e2, e3]
    exact Ent.wk (Ent.wk (Ent.wk (Ent.refl _)))

end Go.Proofs.YtcnpjhaedjncdaaGreatDoor

namespace Go.Proofs.YtcnpjhaedjncdaaGreatDoor
set_option linter.all false
open Go.Proofs.YtcnpjhaedjncdaaGreatDoor.E

theorem ent_oslTake {e : TypeId} {sz n c m : Nat} {A : Option Addr} {xs : List Value} {V : List Asn} (hm : m ≤ n) : Ent (osl e sz (.slice A n c) n xs :: V) (osl e sz (.slice A m c) m (xs.take (m * sz)) :: V) := fun w S ⟨S1, S2, ⟨⟨hlen, h⟩, hS⟩, rest⟩ => by
  have hle : m * sz ≤ n * sz := Nat.mul_le_mul_right _ hm
  refine ⟨S1, S2, ⟨⟨by rw [List.length_take, hlen]; omega, ?_⟩, fun k hk => hS k (by cases A with | none => cases hk | some a => exact hk)⟩, rest⟩
  rcases h with ⟨hv, hn⟩ | ⟨b, cap, cur, hv, hb, hg, hnc, hcm, hcs, ht⟩
  · simp only [Value.slice.injEq] at hv
    obtain ⟨rfl, h1, h2⟩ := hv
    subst h2
    have : m = 0 := by omega
    subst this
    exact .inl ⟨rfl, rfl⟩
  · simp only [Value.slice.injEq, Option.some.injEq] at hv
    obtain ⟨rfl, _, rfl⟩ := hv
    refine .inr ⟨b, c, cur, rfl, hb, hg, by omega, hcm, hcs, ?_⟩
    rw [← ht, List.take_take, Nat.min_eq_left hle]

theorem encP_take : ∀ {l : List Plc} {n : Nat}, (l.take n).flatMap encP = (l.flatMap encP).take (n * 3)
  | [], n => by simp
  | x :: l, 0 => by simp
  | x :: l, n + 1 => by
    rw [List.take_succ_cons, List.flatMap_cons, List.flatMap_cons, encP_take (l := l) (n := n), show (n + 1) * 3 = n * 3 + 3 by omega]
    rfl
theorem encP_get : ∀ {l : List Plc} {i : Nat} (h : i < l.length), ((l.flatMap encP).drop (i * 3)).take 3 = encP l[i]
  | x :: l, 0, _ => by simp [encP]
  | x :: l, i + 1, h => by
    have h2 : i < l.length := by simpa using h
    rw [List.flatMap_cons, List.getElem_cons_succ, ← encP_get h2, show (i + 1) * 3 = 3 + i * 3 by omega, ← List.drop_drop]
    rfl
theorem encP_load {l : List Plc} {i : Nat} (h : i < l.length) {b : Nat} {z : List Value} : loadL ⟨.struct [(0, 1), (1, 2)], 3, b, z⟩ (l.flatMap encP) (0 + i * 3) = some (.agg (encP l[i]).toArray) := by
  unfold loadL
  simp only [aggB, cond_true]
  have : Nat.ble (0 + i * 3 + 3) (l.flatMap encP).length = true := by rw [encP_len]; exact Nat.ble_eq_true_of_le (by omega)
  rw [this, cond_true, Nat.zero_add, encP_get h]

/-- What lies in memory beside the places. -/
structure Mem2 where
  c : List Itm
  s2 : List Nat
  k2 : Nat
  s3 : List Nat
  k3 : Nat

theorem stepN_succ (g : Gram) (GS : List (List Int)) (rB : Itm → Bits) (rN : Itm → Bool) : ∀ (n : Nat) (st : Stt), stepN g GS rB rN (n + 1) st = stepG g GS rB rN (stepN g GS rB rN n st)
  | 0, _ => rfl
  | n + 1, st => by
    show stepN g GS rB rN (n + 1) (stepG g GS rB rN st) = stepG g GS rB rN (stepN g GS rB rN n (stepG g GS rB rN st))
    rw [stepN_succ g GS rB rN n]

/-- The first i places combined. -/
def combTo (a own : Bits) (nl : Bool) (i : Nat) : Bits := (List.range a.length).map fun t => a.getD t false || (decide (t < i) && (nl && own.getD t false))
theorem combTo_len (a own : Bits) (nl : Bool) (i : Nat) : (combTo a own nl i).length = a.length := by unfold combTo; simp
theorem combTo_get {a own : Bits} {nl : Bool} {i t : Nat} (h : t < (combTo a own nl i).length) : (combTo a own nl i)[t] = (a.getD t false || (decide (t < i) && (nl && own.getD t false))) := by
  have h2 : t < ((List.range a.length).map fun t => a.getD t false || (decide (t < i) && (nl && own.getD t false))).length := h
  show ((List.range a.length).map fun t => a.getD t false || (decide (t < i) && (nl && own.getD t false)))[t] = _
  rw [List.getElem_map, List.getElem_range]
theorem combTo_zero (a own : Bits) (nl : Bool) : combTo a own nl 0 = a := by
  apply List.ext_getElem (combTo_len _ _ _ _)
  intro t h1 h2
  rw [combTo_get, List.getD_eq_getElem?_getD, List.getElem?_eq_getElem h2]; simp
theorem combTo_all (a own : Bits) (nl : Bool) : combTo a own nl a.length = comb a own nl := by
  unfold combTo comb
  apply List.map_congr_left
  intro t ht
  rw [decide_eq_true (List.mem_range.1 ht), Bool.true_and]
theorem combTo_succ {a own : Bits} {nl : Bool} {i : Nat} (h : i < a.length) : combTo a own nl (i + 1) = (combTo a own nl i).set i (a.getD i false || (nl && own.getD i false)) := by
  apply List.ext_getElem
  · simp [combTo_len]
  · intro t h1 h2
    rw [combTo_get, List.getElem_set]
    split
    · rename_i e; subst e; simp
    · rename_i e
      rw [combTo_get]
      have : decide (t < i + 1) = decide (t < i) := by rw [Bool.eq_iff_iff]; simp; omega
      rw [this]
theorem combTo_at {a own : Bits} {nl : Bool} {i : Nat} (h : i < (combTo a own nl i).length) : (combTo a own nl i)[i] = a.getD i false := by rw [combTo_get]; simp

theorem ent_bunBack {L : List Asn} {i : Nat} {A : Asn} {V : List Asn} (h : L[i]? = some A) : Ent (A :: bun (L.eraseIdx i) :: V) (bun L :: V) := by
  have := ent_bunSet (V := V) (B := A) h
  have e : L.set i A = L := by
    obtain ⟨hi, rfl⟩ := List.getElem?_eq_some_iff.1 h
    exact List.set_getElem_self hi
  rwa [e] at this

attribute [local irreducible] EVX EVO EVL EV1 NEV
attribute [local irreducible] own osl exA rdA rdL
attribute [local irreducible] bldA mapA bun mapS
set_option maxRecDepth 10000
set_option maxHeartbeats 4000000

theorem growG_w (bm b1 b2 b3 : Nat) (A0 A1 A2 A3 A4 AK AG : Option Addr) (c0 c1 c2 c3 c4 cK cG : Nat) (g : Gram) (hc : checkE g = 0) (KS : List (List Itm)) (GS : List (List Int)) (hF : GoF g KS GS) (st0 : Stt) (hi0 : GInv g KS st0) (hm0 : meas (univ g KS) st0 ≤ 1000000000) (al0 : List Nat) (hal0 : al0.length = st0.ks.length) (At0 : Option Addr) (ct0 : Nat) (m0 : Mem2) :
    Trip Tryz.prog 25 [ptrN bm] ((kGram.rd [.slice A0 g.Terms.length c0, .slice A1 g.Levels.length c1, .slice A2 g.Pats.length c2, .slice A3 g.Nons.length c3, .slice A4 g.Prods.length c4] g).and (kLr.rd [.slice AK KS.length cK, .slice AG GS.length cG] (KS, GS)))
      [mkB bm (.slice A0 g.Terms.length c0) (.slice A1 g.Levels.length c1) (.slice A2 g.Pats.length c2) (.slice A3 g.Nons.length c3) (.slice A4 g.Prods.length c4) (.slice AK KS.length cK) (.slice AG GS.length cG) b1 At0 st0.td.length ct0 b2 b3, mapA keyP b1 (prs st0.ks al0), bun (bitX al0 st0.bs), tdS At0 ct0 st0.td, mapS keyX b2 (begM g m0.c) m0.s2 m0.k2, mapS keyX b3 (empM g m0.c) m0.s3 m0.k3]
      (fun v V => v = .int .i64 0 ∧ ∃ (n : Nat) (st : Stt) (al : List Nat) (At : Option Addr) (ct : Nat) (m : Mem2), st = stepN g GS (restB g) (restN g) n st0 ∧ st.td = [] ∧ GInv g KS st ∧ al.length = st.ks.length ∧
        V = [mkB bm (.slice A0 g.Terms.length c0) (.slice A1 g.Levels.length c1) (.slice A2 g.Pats.length c2) (.slice A3 g.Nons.length c3) (.slice A4 g.Prods.length c4) (.slice AK KS.length cK) (.slice AG GS.length cG) b1 At st.td.length ct b2 b3, mapA keyP b1 (prs st.ks al), bun (bitX al st.bs), tdS At ct st.td, mapS keyX b2 (begM g m.c) m.s2 m.k2, mapS keyX b3 (empM g m.c) m.s3 m.k3]) := by
  refine trip Tryz.tabOk Tryz.func25 rfl rfl rfl rfl ?_
  rintro w SM ⟨hG0, hLr⟩
  obtain ⟨_, _, _, _, _, _, _, _, _, _, e, hG⟩ := kGram_open hG0
  cases e
  obtain ⟨d1, d2, e, ⟨AK', cK', rfl, hk1⟩, ⟨AG', cG', rfl, hg1⟩⟩ := hLr
  simp only [List.cons_append, List.nil_append, List.cons.injEq, Value.slice.injEq, and_true, true_and] at e hk1 hg1
  obtain ⟨⟨rfl, rfl⟩, rfl, rfl⟩ := e
  obtain ⟨hgc, hgb, hge⟩ := hg1
  have hlim := hF.lim
  have hwf := hF.wf
  have hT := hlim.t
  have hNo := hlim.n
  have hPr := hlim.p
  repeat' (first | refine e_nil ?_ | ((refine e_op ?_); (refine o_n (peval_sound rfl) rfl ?_)) | refine s_seq ?_ | refine s_region ?_)
  refine s_scope ?_
  repeat' (first | refine e_nil ?_ | ((refine e_op ?_); (first | refine o_n (peval_sound rfl) rfl ?_ | refine o_n (nl rfl rfl tc rfl) rfl ?_)) | refine s_seq ?_ | refine s_region ?_)
  refine s_label ?_
  repeat' (first | refine s_seq ?_ | refine s_block ?_)
  refine s_loopK (ι := {x : Stt × List Nat × Option Addr × Nat × Mem2 // GInv g KS x.1 ∧ x.2.1.length = x.1.ks.length ∧ meas (univ g KS) x.1 ≤ 1000000000 ∧ ∃ n, x.1 = stepN g GS (restB g) (restN g) n st0}) [0, 3] rfl ⟨(st0, al0, At0, ct0, m0), hi0, hal0, hm0, 0, rfl⟩ (fun _ => [])
    (fun x => [mkB bm (.slice A0 g.Terms.length c0) (.slice A1 g.Levels.length c1) (.slice A2 g.Pats.length c2) (.slice A3 g.Nons.length c3) (.slice A4 g.Prods.length c4) (.slice AK KS.length cK) (.slice AG GS.length cG) b1 x.1.2.2.1 x.1.1.td.length x.1.2.2.2.1 b2 b3, mapA keyP b1 (prs x.1.1.ks x.1.2.1), bun (bitX x.1.2.1 x.1.1.bs), tdS x.1.2.2.1 x.1.2.2.2.1 x.1.1.td, mapS keyX b2 (begM g x.1.2.2.2.2.c) x.1.2.2.2.2.s2 x.1.2.2.2.2.k2, mapS keyX b3 (empM g x.1.2.2.2.2.c) x.1.2.2.2.2.s3 x.1.2.2.2.2.k3]) (fun x => meas (univ g KS) x.1.1) ?_ (Ent.refl _) ?_
  · repeat' (first | exact Sub.nil _ | refine Sub.cons rfl ?_)
  rintro ⟨⟨st, al, At, ct, m⟩, hi, hal, hme, hn⟩
  simp only at hi hal hme hn ⊢
  obtain ⟨n, hn⟩ := hn
  have htl : st.td.length ≤ 1000000000 := by unfold meas at hme; omega
  repeat' (first | refine e_nil ?_ | ((refine e_op ?_); (first | refine o_n (peval_sound rfl) rfl ?_ | refine o_n (nl rfl rfl tc rfl) rfl ?_)) | refine s_seq ?_ | refine s_region ?_)
  by_cases htd : st.td.length = 0
  · have htd0 := List.eq_nil_of_length_eq_zero htd
    rw [decide_eq_false (p := (st.td.length : Int) > 0) (by omega)]
    repeat' (first | refine e_nil ?_ | ((refine e_op ?_); (refine o_n (peval_sound rfl) rfl ?_)) | refine s_seq ?_ | refine s_region ?_ | refine s_exit ?_ | refine s_false rfl ?_ | refine x_hit ?_ | refine x_code ?_ | refine x_back ?_)
    refine s_ret ⟨_, _, res1 rfl rfl, ⟨rfl, n, st, al, At, ct, m, hn, htd0, hi, hal, rfl⟩, Ent.refl _⟩
  · have htp : st.td.length - 1 < st.td.length := by omega
    have hne : st.td ≠ [] := fun e => htd (by rw [e]; rfl)
    rw [decide_eq_true (p := (st.td.length : Int) > 0) (by omega)]
    repeat' (first | refine s_seq ?_ | refine s_block ?_ | refine s_skip ?_ | refine s_true rfl ?_)
    refine s_cap (.s (.s (.s .z))) (fun hcap => ?_)
    refine s_open (.s (.s (.s .z))) (by omega) ?_
    rintro bt rfl
    have hw1 : IntKind.i64.wrap ((st.td.length : Int) - 1) = ((st.td.length - 1 : Nat) : Int) := by rw [wrap_i64] <;> omega
    generalize hp : st.td[st.td.length - 1] = p
    have hpt : p ∈ st.td := by rw [← hp]; exact List.getElem_mem htp
    have hpk := hi.ok.td p hpt
    have hvp := hi.vp p hpk
    have hlast : st.td.getLast? = some p := by rw [List.getLast?_eq_getElem?, List.getElem?_eq_getElem htp, hp]
    have hstep : stepN g GS (restB g) (restN g) (n + 1) st0 = roundG g GS (restB g) (restN g) st p := by
      rw [stepN_succ, ← hn]; unfold stepG; rw [hlast]
    refine s_join (ι := Nat) (fun b4 => [(4, ptrN b4), (3, .int .i64 g.Terms.length), (0, ptrN bm)]) (fun b4 => [blk b4 81 (encP p), mkB bm (.slice A0 g.Terms.length c0) (.slice A1 g.Levels.length c1) (.slice A2 g.Pats.length c2) (.slice A3 g.Nons.length c3) (.slice A4 g.Prods.length c4) (.slice AK KS.length cK) (.slice AG GS.length cG) b1 (some ⟨bt, 0, none⟩) st.td.length ct b2 b3, mapA keyP b1 (prs st.ks al), bun (bitX al st.bs), tdS (some ⟨bt, 0, none⟩) ct st.td, mapS keyX b2 (begM g m.c) m.s2 m.k2, mapS keyX b3 (empM g m.c) m.s3 m.k3]) (fun hj => ?_) ?_
    · refine s_anyU Tryz.mixed ?_
      (refine a_n 0 rfl (peval_sound rfl) (by decide +kernel) (by (exact Ent.refl _)) rfl ?_); (refine a_n 1 rfl (peval_sound rfl) (by decide +kernel) (by (exact Ent.refl _)) rfl ?_); (refine a_n 2 rfl (peval_sound rfl) (by decide +kernel) (by (exact Ent.refl _)) rfl ?_); (first | refine a_n 3 rfl (peval_sound rfl) (by decide +kernel) (by (exact Ent.refl _)) rfl ?_ | refine a_n 3 rfl (nl rfl rfl tc rfl) (by decide +kernel) (by (exact Ent.refl _)) rfl ?_); (refine a_n 4 rfl (peval_sound rfl) (by decide +kernel) (by (exact Ent.refl _)) rfl ?_); (refine a_n 5 rfl (peval_sound rfl) (by decide +kernel) (by (exact Ent.refl _)) rfl ?_); (refine a_n 6 rfl (peval_sound rfl) (by decide +kernel) (by (exact Ent.refl _)) rfl ?_); (first | refine a_n 7 rfl (peval_sound rfl) (by decide +kernel) (by (exact Ent.refl _)) rfl ?_ | refine a_n 7 rfl (nl rfl rfl tc rfl) (by decide +kernel) (by (exact Ent.refl _)) rfl ?_); (refine a_n 8 rfl (peval_sound rfl) (by decide +kernel) (by (exact Ent.refl _)) rfl ?_); (refine a_n 9 rfl (peval_sound rfl) (by decide +kernel) (by (exact Ent.refl _)) rfl ?_)
      rw [hw1]
      refine a_n 10 rfl (n_index rfl rfl rfl rfl (st.td.length - 1) rfl htp) (by decide +kernel) (by (exact Ent.refl _)) rfl ?_
      refine a_n 11 rfl (n_load_osl rfl rfl (.s (.s (.s .z))) (encP_load htp)) (by decide +kernel) (by (exact Ent.refl _)) rfl ?_
      rw [hp]
      refine a_1 12 (by decide +kernel) rfl rfl (o_alloc rfl rfl (fun b4 => ⟨(by (repeat' (first | exact Ent.refl _ | refine Ent.wk ?_))), ?_⟩))
      refine a_1 13 (by decide +kernel) rfl rfl (o_store rfl rfl rfl rfl rfl rfl rfl .z ⟨(by (repeat' (first | exact Ent.refl _ | refine Ent.wk ?_))), ?_⟩)
      refine a_done (by decide +kernel) ?_
      refine s_weak ?_ (Ent.refl _) (hj b4)
      repeat' (first | exact Sub.nil _ | refine Sub.cons rfl ?_)
    · intro b4
      have hin := hvp.in_ hF
      have hin2 := hin
      unfold inG at hin2
      simp only [Bool.and_eq_true, decide_eq_true_eq] at hin2
      obtain ⟨ps, xp, xd⟩ := p
      simp only at hin2
      obtain ⟨q, rfl⟩ : ∃ q : Nat, xp = (q : Int) := ⟨xp.toNat, by omega⟩
      obtain ⟨d, rfl⟩ : ∃ d : Nat, xd = (d : Int) := ⟨xd.toNat, by omega⟩
      have hql : q < g.Prods.length := by omega
      rw [prd_at hql] at hin2
      have hr12 := hlim.r _ (List.getElem_mem hql)
      have hbq := hG.prods.2.2 q hql
      obtain ⟨b9, o9, es9, rfl, hb9, he9, hc9⟩ := hbq
      obtain ⟨Ar, cr, rfl, hl9, hlN, hlK, hri⟩ := kPrd_open he9
      have hdl : st.td.dropLast.length = st.td.length - 1 := by simp
      have hdf : (st.td.flatMap encP).take ((st.td.length - 1) * 3) = st.td.dropLast.flatMap encP := by rw [List.dropLast_eq_take, encP_take]
      refine s_seq ?_
      refine s_P Tryz.mixed (by decide +kernel) ?_
      refine p_barU 14 ?_
      refine q_n 0 rfl (peval_sound rfl) (by decide +kernel) (by decide +kernel) (Ent.refl _) rfl ?_
      refine q_n 1 rfl (peval_sound rfl) (by decide +kernel) (by decide +kernel) (Ent.refl _) rfl ?_
      refine q_n 2 rfl (peval_sound rfl) (by decide +kernel) (by decide +kernel) (Ent.refl _) rfl ?_
      refine q_n 3 rfl (peval_sound rfl) (by decide +kernel) (by decide +kernel) (Ent.refl _) rfl ?_
      refine q_n 4 rfl (nl rfl rfl tc rfl) (by decide +kernel) (by decide +kernel) (Ent.refl _) rfl ?_
      refine q_n 5 rfl (peval_sound rfl) (by decide +kernel) (by decide +kernel) (Ent.refl _) rfl ?_
      refine q_n 6 rfl (peval_sound rfl) (by decide +kernel) (by decide +kernel) (Ent.refl _) rfl ?_
      refine q_n 7 rfl (peval_sound rfl) (by decide +kernel) (by decide +kernel) (Ent.refl _) rfl ?_
      refine q_n 8 rfl (nl rfl rfl tc rfl) (by decide +kernel) (by decide +kernel) (Ent.refl _) rfl ?_
      refine q_n 9 rfl (peval_sound rfl) (by decide +kernel) (by decide +kernel) (Ent.refl _) rfl ?_
      refine q_n 10 rfl (peval_sound rfl) (by decide +kernel) (by decide +kernel) (Ent.refl _) rfl ?_
      rw [hw1]
      refine q_n 11 rfl (n_headV (st.td.length - 1) rfl rfl rfl rfl rfl (by omega)) (by decide +kernel) (by decide +kernel) (Ent.refl _) rfl ?_
      refine q_n 12 rfl (peval_sound rfl) (by decide +kernel) (by decide +kernel) (Ent.refl _) rfl ?_
      refine q_n 13 rfl (peval_sound rfl) (by decide +kernel) (by decide +kernel) (Ent.refl _) rfl ?_
      refine q_z 14 (by decide +kernel) rfl rfl (o_storeC rfl rfl rfl rfl tc uc rfl rfl rfl ?_)
      refine p_done (by decide +kernel) ?_
      have hshr : ∀ V, Ent (tdS (some ⟨bt, 0, none⟩) ct st.td :: V) (tdS (some ⟨bt, 0, none⟩) ct st.td.dropLast :: V) := fun V => by
        have h := ent_oslTake (e := 81) (sz := 3) (n := st.td.length) (c := ct) (m := st.td.length - 1) (A := some ⟨bt, 0, none⟩) (xs := st.td.flatMap encP) (V := V) (by omega)
        rw [hdf] at h
        show Ent _ (osl 81 3 (.slice _ st.td.dropLast.length ct) st.td.dropLast.length _ :: V)
        rw [hdl]
        exact h
      obtain ⟨st1, hst1⟩ : ∃ s : Stt, s = ⟨st.ks, st.bs, st.td.dropLast⟩ := ⟨_, rfl⟩
      have q1 : st1.ks = st.ks := by rw [hst1]
      have q2 : st1.bs = st.bs := by rw [hst1]
      have q3 : st1.td = st.td.dropLast := by rw [hst1]
      have hi1 : GInv g KS st1 := by rw [hst1]; exact hi.pop
      have hme1 : meas (univ g KS) st1 + 1 = meas (univ g KS) st := by rw [hst1]; exact meas_pop hne
      have hal1 : al.length = st1.ks.length := by rw [q1]; exact hal
      refine s_weak (fr' := [(4, ptrN b4), (3, .int .i64 g.Terms.length), (0, ptrN bm)]) (V := [blk b4 81 [.int .i64 ps, .int .i64 q, .int .i64 d], mkB bm (.slice A0 g.Terms.length c0) (.slice A1 g.Levels.length c1) (.slice A2 g.Pats.length c2) (.slice A3 g.Nons.length c3) (.slice (some ⟨b9, o9, none⟩) g.Prods.length c4) (.slice AK KS.length cK) (.slice AG GS.length cG) b1 (some ⟨bt, 0, none⟩) st1.td.length ct b2 b3, mapA keyP b1 (prs st1.ks al), bun (bitX al st1.bs), tdS (some ⟨bt, 0, none⟩) ct st1.td, mapS keyX b2 (begM g m.c) m.s2 m.k2, mapS keyX b3 (empM g m.c) m.s3 m.k3]) ?_ ?_ ?_
      · repeat' (first | exact Sub.nil _ | refine Sub.cons rfl ?_)
      · rw [q1, q2, q3]
        refine Ent.cons ?_
        rw [hdl]
        refine Ent.cons (Ent.cons (Ent.cons ?_))
        exact hshr _
      repeat' (refine s_seq ?_)
      refine s_drawU [] Tryz.mixed (by decide +kernel) ?_
      repeat' (((first | refine l_n (peval_sound rfl) rfl ?_ rfl ?_ | refine l_n (nl rfl rfl tc rfl) rfl ?_ rfl ?_); · (exact Ent.refl _)))
      refine l_n (n_index rfl rfl rfl rfl q rfl hql) rfl (Ent.refl _) rfl ?_
      repeat' (((refine l_n (peval_sound rfl) rfl ?_ rfl ?_); · (exact Ent.refl _)))
      refine l_n (n_load_ro rfl rfl hb9 (loads_one rfl (hc9 1 _ rfl))) rfl (Ent.refl _) rfl ?_
      repeat' (first | refine l_nil ?_ | ((refine l_n (peval_sound rfl) rfl ?_ rfl ?_); · (exact Ent.refl _)))
      repeat' (first | refine e_nil ?_ | ((refine e_op ?_); (first | refine o_n (peval_sound rfl) rfl ?_ | refine o_n (nl rfl rfl tc rfl) rfl ?_)) | refine s_seq ?_ | refine s_region ?_)
      by_cases hdd : d = g.Prods[q].Right.length
      · have hround : roundG g GS (restB g) (restN g) st ⟨ps, ⟨q, d⟩⟩ = st1 := by
          unfold roundG
          rw [prd_at hql, if_pos (by simp only; omega), hst1]
        rw [show ((d : Int) == (g.Prods[q].Right.length : Int)) = true by simp [hdd]]
        repeat' (first | refine s_exit ?_ | refine s_true rfl ?_ | refine x_hit ?_ | refine x_code ?_)
        refine s_back ⟨⟨(st1, al, some ⟨bt, 0, none⟩, ct, m), hi1, hal1, by simp only; omega, n + 1, by rw [hstep, hround]⟩, by simp only; omega, ?_, Ent.wk (Ent.refl _)⟩
        repeat' (first | exact Sub.nil _ | refine Sub.cons rfl ?_)
      · have hdlt : d < g.Prods[q].Right.length := by omega
        rw [show ((d : Int) == (g.Prods[q].Right.length : Int)) = false by simp only [beq_eq_false_iff_ne]; omega]
        obtain ⟨sy, hg1, hg2, j, hbeh, hgs, hnx, hvn⟩ := hvp.next hF (by simp only; rw [prd_at hql]; omega)
        simp only at hg1 hg2 hgs hnx
        have hpk1 : (⟨ps, ⟨q, d⟩⟩ : Plc) ∈ st1.ks := by rw [q1]; exact hpk
        have hix := ix_lt hpk1
        have hown : getB st1.ks st1.bs ⟨ps, ⟨q, d⟩⟩ = getB st.ks st.bs ⟨ps, ⟨q, d⟩⟩ := by rw [q1, q2]
        have hol := getB_len (ks := st1.ks) hi1.ok.l48 ⟨ps, ⟨q, d⟩⟩
        have hab : al.length = st1.bs.length := by rw [hi1.ok.len]; exact hal1
        have hbb : st1.bs[ix st1.ks ⟨ps, ⟨q, d⟩⟩]? = some (getB st1.ks st1.bs ⟨ps, ⟨q, d⟩⟩) := by
          unfold getB
          rw [if_pos hpk1, List.getD_eq_getElem?_getD, List.getElem?_eq_getElem (by rw [hi1.ok.len]; exact hix)]; rfl
        have hbit := bitX_get hab hbb
        have hlk := look_prs (ks := st1.ks) (al := al) (p := ⟨ps, ⟨q, d⟩⟩) hal1
        rw [if_pos hpk1] at hlk
        generalize hba : al.getD (ix st1.ks ⟨ps, ⟨q, d⟩⟩) 0 = ba at hbit hlk
        generalize how : getB st1.ks st1.bs ⟨ps, ⟨q, d⟩⟩ = own at hown hol hbit
        obtain ⟨b5, o5, es5, hA5, hb5, ⟨rfl, hI5⟩, hc5⟩ := hri.2.2 d hdlt
        have hRd : g.Prods[q].Right[d] = (sy : Int) := by
          have := hbeh
          unfold beh at this
          simp only at this
          rw [prd_at hql, if_pos (by omega), Int.toNat_natCast, List.getD_eq_getElem?_getD, List.getElem?_eq_getElem hdlt] at this
          exact this
        rw [hRd] at hc5
        repeat' (first | refine s_seq ?_ | refine s_skip ?_ | refine s_false rfl ?_)
        refine s_weak (Sub.refl _) (Ent.cons (Ent.cons (Ent.cons (ent_bunAt hbit)))) ?_
        refine s_anyU Tryz.mixed ?_
        (refine a_n 0 rfl (peval_sound rfl) (by decide +kernel) (by (exact Ent.refl _)) rfl ?_); (refine a_n 1 rfl (peval_sound rfl) (by decide +kernel) (by (exact Ent.refl _)) rfl ?_); (refine a_n 2 rfl (peval_sound rfl) (by decide +kernel) (by (exact Ent.refl _)) rfl ?_); (first | refine a_n 3 rfl (peval_sound rfl) (by decide +kernel) (by (exact Ent.refl _)) rfl ?_ | refine a_n 3 rfl (nl rfl rfl tc rfl) (by decide +kernel) (by (exact Ent.refl _)) rfl ?_); (first | refine a_n 4 rfl (peval_sound rfl) (by decide +kernel) (by (exact Ent.refl _)) rfl ?_ | refine a_n 4 rfl (nl rfl rfl tc rfl) (by decide +kernel) (by (exact Ent.refl _)) rfl ?_)
        refine a_n 5 rfl (n_lookup (z := .pointer none) (k := ⟨ps, ⟨q, d⟩⟩) rfl mkeyP (fun w => by kernel_rfl) rfl rfl rfl (.s (.s .z))) (by decide +kernel) (by (exact Ent.refl _)) rfl ?_
        rw [hlk]
        simp only [Option.getD_some]
        (refine a_n 6 rfl (peval_sound rfl) (by decide +kernel) (by (exact Ent.refl _)) rfl ?_)
        refine a_n 7 rfl (n_loadA rfl rfl (.s (.s (.s .z))) rfl hol) (by decide +kernel) (by (exact Ent.refl _)) rfl ?_
        refine a_1 8 (by decide +kernel) rfl rfl (o_allocB rfl zer48 rfl (fun b6 => ⟨(by (repeat' (first | exact Ent.refl _ | refine Ent.wk ?_))), ?_⟩))
        refine a_1 9 (by decide +kernel) rfl rfl (o_storeA rfl rfl rfl hol zer_len .z ⟨(by (repeat' (first | exact Ent.refl _ | refine Ent.wk ?_))), ?_⟩)
        refine a_done (by decide +kernel) ?_
        repeat' (first | ((refine e_op ?_); (first | refine o_n (peval_sound rfl) rfl ?_ | refine o_n (nl rfl rfl tc rfl) rfl ?_)) | refine s_seq ?_ | refine s_region ?_)
        rw [hA5]
        refine e_op (o_n (n_index rfl rfl rfl rfl d rfl hdlt) rfl ?_)
        skip
        refine e_op (o_n (n_load_ro rfl rfl hb5 (loads_one rfl (hc5 0 _ rfl))) rfl ?_)
        repeat' (first | refine e_nil ?_ | ((refine e_op ?_); (refine o_n (peval_sound rfl) rfl ?_)) | refine s_seq ?_)
        obtain ⟨bG, oG, esG, rfl, hbG, ⟨ArG, crG, rfl, _, _, hrG⟩, hcG⟩ := hge ps hg1
        obtain ⟨bR, oR, esR, rfl, hbR, ⟨rfl, _⟩, hcR⟩ := hrG sy hg2
        rw [hgs] at hcR
        have hw2 : IntKind.i64.wrap ((d : Int) + 1) = (d : Int) + 1 := by rw [wrap_i64] <;> omega
        refine s_weak (fr' := [(7, .int .i64 sy), (6, ptrN b6), (5, .slice Ar g.Prods[q].Right.length cr), (4, ptrN b4), (3, .int .i64 g.Terms.length), (0, ptrN bm)]) ?_ (Ent.cons (Ent.cons (Ent.cons (Ent.cons (ent_bunBack hbit))))) ?_
        · rw [hA5]
          repeat' (first | exact Sub.nil _ | refine Sub.cons rfl ?_)
        refine s_P Tryz.mixed (by decide +kernel) ?_
        refine p_barU 23 ?_
        refine q_n 0 rfl (peval_sound rfl) (by decide +kernel) (by decide +kernel) (Ent.refl _) rfl ?_
        refine q_n 1 rfl (peval_sound rfl) (by decide +kernel) (by decide +kernel) (Ent.refl _) rfl ?_
        refine q_n 2 rfl (peval_sound rfl) (by decide +kernel) (by decide +kernel) (Ent.refl _) rfl ?_
        refine q_n 3 rfl (peval_sound rfl) (by decide +kernel) (by decide +kernel) (Ent.refl _) rfl ?_
        refine q_n 4 rfl (peval_sound rfl) (by decide +kernel) (by decide +kernel) (Ent.refl _) rfl ?_
        refine q_n 5 rfl (nl rfl rfl tc rfl) (by decide +kernel) (by decide +kernel) (Ent.refl _) rfl ?_
        refine q_n 6 rfl (peval_sound rfl) (by decide +kernel) (by decide +kernel) (Ent.refl _) rfl ?_
        refine q_n 7 rfl (nl rfl rfl tc rfl) (by decide +kernel) (by decide +kernel) (Ent.refl _) rfl ?_
        refine q_n 8 rfl (n_index rfl rfl rfl rfl ps rfl hg1) (by decide +kernel) (by decide +kernel) (Ent.refl _) rfl ?_
        refine q_n 9 rfl (n_load_ro rfl rfl hbG (loads_one rfl (hcG 0 _ rfl))) (by decide +kernel) (by decide +kernel) (Ent.refl _) rfl ?_
        refine q_n 10 rfl (peval_sound rfl) (by decide +kernel) (by decide +kernel) (Ent.refl _) rfl ?_
        refine q_n 11 rfl (n_index rfl rfl rfl rfl sy rfl hg2) (by decide +kernel) (by decide +kernel) (Ent.refl _) rfl ?_
        refine q_n 12 rfl (n_load_ro rfl rfl hbR (loads_one rfl (hcR 0 _ rfl))) (by decide +kernel) (by decide +kernel) (Ent.refl _) rfl ?_
        refine q_n 13 rfl (peval_sound rfl) (by decide +kernel) (by decide +kernel) (Ent.refl _) rfl ?_
        refine q_n 14 rfl (peval_sound rfl) (by decide +kernel) (by decide +kernel) (Ent.refl _) rfl ?_
        refine q_n 15 rfl (nl rfl rfl tc rfl) (by decide +kernel) (by decide +kernel) (Ent.refl _) rfl ?_
        refine q_n 16 rfl (peval_sound rfl) (by decide +kernel) (by decide +kernel) (Ent.refl _) rfl ?_
        refine q_n 17 rfl (peval_sound rfl) (by decide +kernel) (by decide +kernel) (Ent.refl _) rfl ?_
        refine q_n 18 rfl (nl rfl rfl tc rfl) (by decide +kernel) (by decide +kernel) (Ent.refl _) rfl ?_
        refine q_n 19 rfl (peval_sound rfl) (by decide +kernel) (by decide +kernel) (Ent.refl _) rfl ?_
        rw [hw2]
        refine q_n 20 rfl (peval_sound rfl) (by decide +kernel) (by decide +kernel) (Ent.refl _) rfl ?_
        refine q_n 21 rfl (peval_sound rfl) (by decide +kernel) (by decide +kernel) (Ent.refl _) rfl ?_
        refine q_n 22 rfl (n_loadA rfl rfl .z rfl hol) (by decide +kernel) (by decide +kernel) (Ent.refl _) rfl ?_
        have htl1 : st1.td.length ≤ 1000000000 := by rw [q3, hdl]; omega
        refine q_z 23 (by decide +kernel) rfl rfl (o_call (add_w bm b1 b2 b3 (.slice A0 g.Terms.length c0) (.slice A1 g.Levels.length c1) (.slice A2 g.Pats.length c2) (.slice A3 g.Nons.length c3) (.slice (some ⟨b9, o9, none⟩) g.Prods.length c4) (.slice AK KS.length cK) (.slice (some ⟨bG, oG, none⟩) GS.length cG) st1 hi1.ok htl1 al hal1 (some ⟨bt, 0, none⟩) ct ⟨j, ⟨q, (d : Int) + 1⟩⟩ own hol) rfl (.cons (.s (.s .z)) (.cons (.s (.s .z)) (.cons (.s (.s .z)) (.cons (.s (.s .z)) .nil)))) Can.tt rfl ?_)
        rintro v V ⟨al2, At2, ct2, rfl, hal2, rfl⟩
        simp only [List.cons_append, List.nil_append]
        refine p_done (by decide +kernel) ?_
        rw [hnx] at hvn
        have hi2 := hi1.add hvn own
        have hme2 := meas_add (univ := univ g KS) hi1.ok hvn.mem own
        generalize hst2 : addS st1 ⟨j, ⟨q, (d : Int) + 1⟩⟩ own = st2 at hal2 hi2 hme2 ⊢
        repeat' (first | refine e_nil ?_ | ((refine e_op ?_); (refine o_n (peval_sound rfl) rfl ?_)) | refine s_seq ?_ | refine s_region ?_)
        by_cases hsT : sy < g.Terms.length
        · have hround : roundG g GS (restB g) (restN g) st ⟨ps, ⟨q, d⟩⟩ = st2 := by
            unfold roundG
            rw [prd_at hql, if_neg (by simp only; omega), if_pos (by simp only [hbeh]; omega), hnx, ← hst1, ← hown, hst2]
          rw [decide_eq_true (p := (sy : Int) < (g.Terms.length : Int)) (by omega)]
          repeat' (first | refine s_exit ?_ | refine s_true rfl ?_ | refine x_hit ?_ | refine x_code ?_)
          refine s_back ⟨⟨(st2, al2, At2, ct2, m), hi2, hal2, by simp only; omega, n + 1, by rw [hstep, hround]⟩, by simp only; omega, ?_, ?_⟩
          · repeat' (first | exact Sub.nil _ | refine Sub.cons rfl ?_)
          · exact Ent.tak .z (Ent.tak .z (Ent.tak .z (Ent.tak .z (Ent.wk (Ent.wk (Ent.refl _))))))
        · rw [decide_eq_false (p := (sy : Int) < (g.Terms.length : Int)) (by omega)]
          repeat' (first | ((refine e_op ?_); (first | refine o_n (peval_sound rfl) rfl ?_ | refine o_n (nl rfl rfl tc rfl) rfl ?_)) | refine s_seq ?_ | refine s_region ?_ | refine s_skip ?_ | refine s_false rfl ?_)
          refine e_op (o_call (rest_w bm b1 b2 b3 A0 A1 A2 A3 (some ⟨b9, o9, none⟩) c0 c1 c2 c3 c4 (.slice AK KS.length cK) (.slice (some ⟨bG, oG, none⟩) GS.length cG) g hc At2 st2.td.length ct2 ⟨q, d⟩ hin (by simp only; rw [prd_at hql]; omega) m.c m.s2 m.s3 m.k2 m.k3) rfl (.cons .z (.cons (.s (.s (.s (.s (.s .z))))) (.cons (.s (.s (.s (.s (.s .z))))) .nil))) (Can.ro hG0) rfl ?_)
          rintro v V ⟨c', s2', s3', k2', k3', rfl, rfl⟩
          simp only [List.cons_append, List.nil_append]
          have hRl := restB_len hT (⟨q, d⟩ : Itm)
          repeat' (((refine e_op ?_); (first | refine o_n (peval_sound rfl) rfl ?_ | refine o_alloc rfl rfl (fun _ => ?_))))
          rename_i b8
          dsimp only
          rw [zer48]
          refine e_op (o_storeA rfl rfl rfl hRl zer_len .z ?_)
          repeat' (first | refine e_nil ?_ | ((refine e_op ?_); (refine o_n (peval_sound rfl) rfl ?_)) | refine s_seq ?_ | refine s_region ?_ | refine s_block ?_ | refine s_skip ?_ | refine s_false rfl ?_)
          refine s_weak (fr' := [(121, .int .i64 0), (9, .bool (restN g ⟨q, d⟩)), (8, ptrN b8), (7, .int .i64 sy), (6, ptrN b6), (4, ptrN b4), (3, .int .i64 g.Terms.length), (0, ptrN bm)]) ?_ (Ent.refl _) ?_
          · repeat' (first | exact Sub.nil _ | refine Sub.cons rfl ?_)
          obtain ⟨m2, hm2⟩ : ∃ m2 : Mem2, m2 = ⟨c', s2', k2', s3', k3'⟩ := ⟨_, rfl⟩
          have r1 : c' = m2.c := by rw [hm2]
          have r2 : s2' = m2.s2 := by rw [hm2]
          have r3 : k2' = m2.k2 := by rw [hm2]
          have r4 : s3' = m2.s3 := by rw [hm2]
          have r5 : k3' = m2.k3 := by rw [hm2]
          rw [r1, r2, r3, r4, r5]
          clear hm2 r1 r2 r3 r4 r5
          generalize hRB : restB g ⟨q, d⟩ = R at hRl ⊢
          generalize hRN : restN g ⟨q, d⟩ = nz
          refine s_loopK (ι := {x : Nat // x ≤ 48}) [0, 3, 4, 6, 7, 8, 9] rfl ⟨0, by omega⟩ (fun x => [(121, .int .i64 x.1)])
            (fun x => [blk b8 83 (cB (combTo R own nz x.1)), blk b6 83 (cB own), blk b4 81 [.int .i64 ps, .int .i64 q, .int .i64 d], mkB bm (.slice A0 g.Terms.length c0) (.slice A1 g.Levels.length c1) (.slice A2 g.Pats.length c2) (.slice A3 g.Nons.length c3) (.slice (some ⟨b9, o9, none⟩) g.Prods.length c4) (.slice AK KS.length cK) (.slice (some ⟨bG, oG, none⟩) GS.length cG) b1 At2 st2.td.length ct2 b2 b3, mapA keyP b1 (prs st2.ks al2), bun (bitX al2 st2.bs), tdS At2 ct2 st2.td, mapS keyX b2 (begM g m2.c) m2.s2 m2.k2, mapS keyX b3 (empM g m2.c) m2.s3 m2.k3]) (fun x => 48 - x.1) ?_ ?_ ?_
          · repeat' (first | exact Sub.nil _ | refine Sub.cons rfl ?_)
          · simp only [combTo_zero]
            exact Ent.cons (Ent.tak (.s (.s (.s (.s (.s (.s .z)))))) (Ent.tak (.s (.s (.s (.s (.s (.s .z)))))) (Ent.tak .z (Ent.tak (.s (.s .z)) (Ent.tak (.s (.s .z)) (Ent.tak (.s (.s .z)) (Ent.refl _)))))))
          rintro ⟨i, hi48⟩
          simp only at hi48 ⊢
          repeat' (first | refine e_nil ?_ | ((refine e_op ?_); (refine o_n (peval_sound rfl) rfl ?_)) | refine s_seq ?_ | refine s_region ?_)
          by_cases hi8 : i < 48
          · rw [decide_eq_true (p := (i : Int) < 48) (by omega)]
            have hcl : i < (combTo R own nz i).length := by rw [combTo_len]; omega
            have hio : i < own.length := by omega
            have hcs := combTo_succ (a := R) (own := own) (nl := nz) (i := i) (by omega)
            have hca := combTo_at hcl
            have hog : own.getD i false = own[i] := by rw [List.getD_eq_getElem?_getD, List.getElem?_eq_getElem hio]; rfl
            repeat' (first | refine e_nil ?_ | ((refine e_op ?_); (refine o_n (peval_sound rfl) rfl ?_)) | refine s_seq ?_ | refine s_region ?_ | refine s_block ?_ | refine s_skip ?_ | refine s_true rfl ?_)
            refine e_op (o_n (n_indexA rfl rfl rfl rfl i rfl hi8) rfl ?_)
            skip
            refine e_op (o_n (n_loadB rfl rfl .z rfl i hcl (by simp)) rfl ?_)
            rw [hca]
            repeat' (((refine e_op ?_); (refine o_n (peval_sound rfl) rfl ?_)))
            cases hRi : R.getD i false with
            | true =>
              rw [hRi, Bool.true_or] at hcs
              repeat' (first | ((refine e_op ?_); (refine o_n (peval_sound rfl) rfl ?_)) | refine e_noU rfl rfl rfl ?_ | refine e_noN rfl rfl ?_)
              refine e_op (o_n (n_indexA rfl rfl rfl rfl i rfl hi8) rfl ?_)
              refine e_op (o_storeB rfl rfl rfl rfl i hcl (by simp) .z ?_)
              rw [← hcs]
              repeat' (first | refine e_nil ?_ | ((refine e_op ?_); (refine o_n (peval_sound rfl) rfl ?_)) | refine s_region ?_ | refine s_end ?_)
              refine s_back ⟨⟨i + 1, by omega⟩, by simp only; omega, ?_, Ent.refl _⟩
              repeat' (first | exact Sub.nil _ | refine Sub.cons rfl ?_ | refine Sub.consE rfl ?_ ?_)
              exact inc (i := i) (by omega)
            | false =>
              rw [hRi, Bool.false_or] at hcs
              cases nz with
              | false =>
                rw [Bool.false_and] at hcs
                repeat' (first | ((first | refine e_op ?_ | refine e_yes rfl ?_); (refine o_n (peval_sound rfl) rfl ?_)) | refine e_noU rfl rfl rfl ?_)
                refine e_op (o_n (n_indexA rfl rfl rfl rfl i rfl hi8) rfl ?_)
                refine e_op (o_storeB rfl rfl rfl rfl i hcl (by simp) .z ?_)
                rw [← hcs]
                repeat' (first | refine e_nil ?_ | ((refine e_op ?_); (refine o_n (peval_sound rfl) rfl ?_)) | refine s_region ?_ | refine s_end ?_)
                refine s_back ⟨⟨i + 1, by omega⟩, by simp only; omega, ?_, Ent.refl _⟩
                repeat' (first | exact Sub.nil _ | refine Sub.cons rfl ?_ | refine Sub.consE rfl ?_ ?_)
                exact inc (i := i) (by omega)
              | true =>
                rw [Bool.true_and, hog] at hcs
                repeat' (((refine e_yes rfl ?_); (refine o_n (peval_sound rfl) rfl ?_)))
                refine e_yes rfl (o_n (n_indexA rfl rfl rfl rfl i rfl hi8) rfl ?_)
                skip
                refine e_yes rfl (o_n (n_loadB rfl rfl (.s .z) rfl i hio (by simp)) rfl ?_)
                repeat' (((first | refine e_op ?_ | refine e_yes rfl ?_); (refine o_n (peval_sound rfl) rfl ?_)))
                refine e_op (o_n (n_indexA rfl rfl rfl rfl i rfl hi8) rfl ?_)
                refine e_op (o_storeB rfl rfl rfl rfl i hcl (by simp) .z ?_)
                rw [← hcs]
                repeat' (first | refine e_nil ?_ | ((refine e_op ?_); (refine o_n (peval_sound rfl) rfl ?_)) | refine s_region ?_ | refine s_end ?_)
                refine s_back ⟨⟨i + 1, by omega⟩, by simp only; omega, ?_, Ent.refl _⟩
                repeat' (first | exact Sub.nil _ | refine Sub.cons rfl ?_ | refine Sub.consE rfl ?_ ?_)
                exact inc (i := i) (by omega)
          · rw [decide_eq_false (p := (i : Int) < 48) (by omega)]
            obtain rfl : i = 48 := by omega
            have hfin : combTo R own nz 48 = comb R own nz := by rw [← hRl]; exact combTo_all _ _ _
            rw [hfin]
            repeat' (first | refine e_nil ?_ | ((refine e_op ?_); (first | refine o_n (peval_sound rfl) rfl ?_ | refine o_n (nl rfl rfl tc rfl) rfl ?_)) | refine s_seq ?_ | refine s_region ?_ | refine s_block ?_ | refine s_exit ?_ | refine s_false rfl ?_ | refine x_hit ?_ | refine x_code ?_ | refine x_back ?_)
            have hcbl : (comb R own nz).length = 48 := by unfold comb; simp [hRl]
            have hvp2 : VP g KS ⟨ps, ⟨q, d⟩⟩ := hvp
            have hpa := prodsAdd_inv (p := ⟨ps, ⟨q, d⟩⟩) hF hvp2 (comb R own nz) hi2
            refine s_loopK (ι := {x : Nat × List Nat × Option Addr × Nat // x.1 ≤ g.Prods.length ∧ x.2.1.length = (prodsAdd g ⟨ps, ⟨q, d⟩⟩ (comb R own nz) st2 x.1).ks.length}) [0, 3, 4, 7, 8, 142, 143] rfl ⟨(0, al2, At2, ct2), by omega, hal2⟩ (fun x => [(144, .int .i64 x.1.1)])
              (fun x => [blk b8 83 (cB (comb R own nz)), blk b4 81 [.int .i64 ps, .int .i64 q, .int .i64 d], mkB bm (.slice A0 g.Terms.length c0) (.slice A1 g.Levels.length c1) (.slice A2 g.Pats.length c2) (.slice A3 g.Nons.length c3) (.slice (some ⟨b9, o9, none⟩) g.Prods.length c4) (.slice AK KS.length cK) (.slice (some ⟨bG, oG, none⟩) GS.length cG) b1 x.1.2.2.1 (prodsAdd g ⟨ps, ⟨q, d⟩⟩ (comb R own nz) st2 x.1.1).td.length x.1.2.2.2 b2 b3, mapA keyP b1 (prs (prodsAdd g ⟨ps, ⟨q, d⟩⟩ (comb R own nz) st2 x.1.1).ks x.1.2.1), bun (bitX x.1.2.1 (prodsAdd g ⟨ps, ⟨q, d⟩⟩ (comb R own nz) st2 x.1.1).bs), tdS x.1.2.2.1 x.1.2.2.2 (prodsAdd g ⟨ps, ⟨q, d⟩⟩ (comb R own nz) st2 x.1.1).td, mapS keyX b2 (begM g m2.c) m2.s2 m2.k2, mapS keyX b3 (empM g m2.c) m2.s3 m2.k3]) (fun x => g.Prods.length - x.1.1) ?_ (Ent.cons (Ent.wk (Ent.refl _))) ?_
            · repeat' (first | exact Sub.nil _ | refine Sub.cons rfl ?_)
            rintro ⟨⟨k, al3, At3, ct3⟩, hk, hal3⟩
            simp only at hk hal3 ⊢
            obtain ⟨hi3, hme3⟩ := hpa k hk
            have hsu := prodsAdd_succ g ⟨ps, ⟨q, d⟩⟩ (comb R own nz) st2 k
            generalize hst3 : prodsAdd g ⟨ps, ⟨q, d⟩⟩ (comb R own nz) st2 k = st3 at hal3 hi3 hme3 hsu ⊢
            repeat' (first | refine e_nil ?_ | ((refine e_op ?_); (refine o_n (peval_sound rfl) rfl ?_)) | refine s_seq ?_ | refine s_region ?_)
            by_cases hkl : k < g.Prods.length
            · rw [decide_eq_true (p := (k : Int) < (g.Prods.length : Int)) (by omega)]
              repeat' (first | ((refine e_op ?_); (refine o_n (peval_sound rfl) rfl ?_)) | refine s_seq ?_ | refine s_region ?_ | refine s_block ?_ | refine s_skip ?_ | refine s_true rfl ?_)
              refine e_op (o_n (n_index rfl rfl rfl rfl k rfl hkl) rfl ?_)
              obtain ⟨bk2, ok2, esk, ek, hbk, hek, hck⟩ := hG.prods.2.2 k hkl
              cases ek
              obtain ⟨Ak, ck, rfl, hlk9, _, _, _⟩ := kPrd_open hek
              have hLk := prod_ok hwf hkl
              have hw3 : IntKind.i64.wrap ((sy : Int) - (g.Terms.length : Int)) = (sy : Int) - (g.Terms.length : Int) := by rw [wrap_i64] <;> omega
              refine e_op (o_n (n_load_ro rfl rfl hb9 (loads_agg rfl rfl hck)) rfl ?_)
              repeat' (first | refine e_nil ?_ | ((refine e_op ?_); (first | refine o_n (peval_sound rfl) rfl ?_ | refine o_n (nl rfl rfl tc rfl) rfl ?_ | refine o_storeC rfl rfl rfl rfl tc uc rfl rfl rfl ?_ | refine o_alloc rfl rfl (fun _ => ?_))) | refine s_seq ?_ | refine s_region ?_)
              rw [hw3]
              simp only [hbeh] at hsu
              rw [prd_at hkl] at hsu
              by_cases hle : g.Prods[k].Left = (sy : Int) - (g.Terms.length : Int)
              · rw [if_pos hle] at hsu
                rw [show (g.Prods[k].Left == (sy : Int) - (g.Terms.length : Int)) = true by simpa using hle]
                have htl3 : st3.td.length ≤ 1000000000 := by
                  have : st3.td.length ≤ meas (univ g KS) st3 := by unfold meas; omega
                  omega
                repeat' (first | ((refine e_op ?_); (first | refine o_n (peval_sound rfl) rfl ?_ | refine o_n (nl rfl rfl tc rfl) rfl ?_)) | refine s_region ?_ | refine s_true rfl ?_)
                refine e_op (o_n (n_loadA rfl rfl (.s .z) rfl hcbl) rfl ?_)
                refine e_op (o_call (add_w bm b1 b2 b3 (.slice A0 g.Terms.length c0) (.slice A1 g.Levels.length c1) (.slice A2 g.Pats.length c2) (.slice A3 g.Nons.length c3) (.slice (some ⟨b9, o9, none⟩) g.Prods.length c4) (.slice AK KS.length cK) (.slice (some ⟨bG, oG, none⟩) GS.length cG) st3 hi3.ok htl3 al3 hal3 At3 ct3 ⟨ps, ⟨k, 0⟩⟩ (comb R own nz) hcbl) rfl (.cons (.s (.s (.s .z))) (.cons (.s (.s (.s .z))) (.cons (.s (.s (.s .z))) (.cons (.s (.s (.s .z))) .nil)))) Can.tt rfl ?_)
                rintro v V ⟨al4, At4, ct4, rfl, hal4, rfl⟩
                simp only [List.cons_append, List.nil_append]
                rw [← hsu] at hal4 ⊢
                repeat' (first | refine e_nil ?_ | ((refine e_op ?_); (refine o_n (peval_sound rfl) rfl ?_)) | refine s_region ?_ | refine s_end ?_)
                refine s_back ⟨⟨(k + 1, al4, At4, ct4), by simp only; omega, hal4⟩, by simp only; omega, ?_, ?_⟩
                · repeat' (first | exact Sub.nil _ | refine Sub.cons rfl ?_ | refine Sub.consE rfl ?_ ?_)
                  exact inc (i := k) (by omega)
                · simp only
                  exact Ent.tak (.s (.s (.s (.s (.s .z))))) (Ent.tak (.s (.s (.s (.s (.s .z))))) (Ent.tak .z (Ent.tak .z (Ent.tak .z (Ent.tak .z (Ent.wk (Ent.refl _)))))))
              · rw [if_neg hle] at hsu
                rw [show (g.Prods[k].Left == (sy : Int) - (g.Terms.length : Int)) = false by simpa using hle]
                repeat' (first | refine e_nil ?_ | ((refine e_op ?_); (refine o_n (peval_sound rfl) rfl ?_)) | refine s_region ?_ | refine s_end ?_ | refine s_skip ?_ | refine s_false rfl ?_)
                refine s_back ⟨⟨(k + 1, al3, At3, ct3), by simp only; omega, by simp only [hsu]; exact hal3⟩, by simp only; omega, ?_, ?_⟩
                · repeat' (first | exact Sub.nil _ | refine Sub.cons rfl ?_ | refine Sub.consE rfl ?_ ?_)
                  exact inc (i := k) (by omega)
                · simp only [hsu]
                  exact Ent.wk (Ent.refl _)
            · rw [decide_eq_false (p := (k : Int) < (g.Prods.length : Int)) (by omega)]
              have hkE : k = g.Prods.length := by omega
              have hround : roundG g GS (restB g) (restN g) st ⟨ps, ⟨q, d⟩⟩ = st3 := by
                unfold roundG
                rw [prd_at hql, if_neg (by simp only; omega), if_neg (by simp only [hbeh]; omega), hnx, ← hst1, ← hown, hst2, ← hst3, hkE]
                simp only [hRB, hRN]
              repeat' (first | refine s_end ?_ | refine s_exit ?_ | refine s_false rfl ?_ | refine x_hit ?_ | refine x_code ?_ | refine x_back ?_)
              refine s_back ⟨⟨(st3, al3, At3, ct3, m2), hi3, hal3, by simp only; omega, n + 1, by rw [hstep, hround]⟩, by simp only; omega, ?_, Ent.wk (Ent.wk (Ent.refl _))⟩
              repeat' (first | exact Sub.nil _ | refine Sub.cons rfl ?_)

end Go.Proofs.YtcnpjhaedjncdaaGreatDoor

namespace Go.Proofs.YtcnpjhaedjncdaaGreatDoor
set_option linter.all false
open Go.Proofs.YtcnpjhaedjncdaaGreatDoor.E

abbrev p00 : Plc := ⟨0, ⟨0, 0⟩⟩
def one0 : Bits := true :: List.replicate 47 false
def st00 : Stt := ⟨[], [], []⟩
def la0 : Stt := addS st00 p00 one0
def laN (g : Gram) (n : Nat) : Stt := stepN g (lrGs g) (restB g) (restN g) n la0

section steps
variable {g : Gram} {GS : List (List Int)} {rB : Itm → Bits} {rN : Itm → Bool}
theorem stepN_done {st : Stt} (h : st.td = []) : ∀ n, stepN g GS rB rN n st = st
  | 0 => rfl
  | n + 1 => by
    show stepN g GS rB rN n (stepG g GS rB rN st) = st
    have : stepG g GS rB rN st = st := by unfold stepG; rw [h]; rfl
    rw [this]; exact stepN_done h n
theorem stepN_plus : ∀ (m n : Nat) (st : Stt), stepN g GS rB rN (m + n) st = stepN g GS rB rN n (stepN g GS rB rN m st)
  | 0, n, st => by rw [Nat.zero_add]; rfl
  | m + 1, n, st => by
    rw [show m + 1 + n = (m + n) + 1 by omega]
    show stepN g GS rB rN (m + n) (stepG g GS rB rN st) = _
    rw [stepN_plus m n]; rfl
theorem stepN_two {st : Stt} {m n : Nat} (hm : (stepN g GS rB rN m st).td = []) (hn : (stepN g GS rB rN n st).td = []) : stepN g GS rB rN m st = stepN g GS rB rN n st := by
  rcases Nat.le_total m n with h | h
  · rw [show n = m + (n - m) by omega, stepN_plus, stepN_done hm]
  · rw [show m = n + (m - n) by omega, stepN_plus, stepN_done hn]
end steps

open Classical in
/-- Where growing ends. -/
noncomputable def laFin (g : Gram) : Stt := if h : ∃ n, (laN g n).td = [] then laN g (Classical.choose h) else la0
theorem laFin_eq {g : Gram} {n : Nat} (h : (laN g n).td = []) : laFin g = laN g n := by
  have he : ∃ n, (laN g n).td = [] := ⟨n, h⟩
  unfold laFin
  rw [dif_pos he]
  exact stepN_two (Classical.choose_spec he) h

/-- Of a state and a production: the terms behind it, where it is whole; else nothing. -/
noncomputable def laRow (g : Gram) (s k : Nat) : Bits := if (⟨s, ⟨k, (prd g k).Right.length⟩⟩ : Plc) ∈ (laFin g).ks then (getB (laFin g).ks (laFin g).bs ⟨s, ⟨k, (prd g k).Right.length⟩⟩).take g.Terms.length else []
noncomputable def laX (g : Gram) : List (List Bits) := if lrE g = 0 then (List.range (lrKs g).length).map fun s => (List.range g.Prods.length).map fun k => laRow g s k else []

/-! ### the least relation -/
/-- What comes of a term behind a place, at once. -/
inductive Cons (g : Gram) (GS : List (List Int)) : Plc → Nat → Plc → Nat → Prop
  | shift {p : Plc} {t : Nat} : p.x.Dot ≠ (prd g p.x.Prod).Right.length → Cons g GS p t (nextP g GS p) t
  | close {p : Plc} {t k u : Nat} : p.x.Dot ≠ (prd g p.x.Prod).Right.length → ¬ beh g p.x < g.Terms.length → k < g.Prods.length → (prd g k).Left = beh g p.x - g.Terms.length →
      ((restB g p.x).getD u false = true ∨ (restN g p.x = true ∧ u = t)) → Cons g GS p t ⟨p.s, ⟨k, 0⟩⟩ u
inductive LA (g : Gram) (GS : List (List Int)) : Plc → Nat → Prop
  | base : LA g GS p00 0
  | step {p q : Plc} {t u : Nat} : LA g GS p t → Cons g GS p t q u → LA g GS q u

def bit (st : Stt) (p : Plc) (t : Nat) : Bool := (getB st.ks st.bs p).getD t false

theorem getD_lt {l : Bits} {t : Nat} (h : l.getD t false = true) : t < l.length := by
  rcases Nat.lt_or_ge t l.length with h1 | h1
  · exact h1
  · rw [List.getD_eq_getElem?_getD, List.getElem?_eq_none h1] at h; cases h

section adds
variable {st : Stt} (hok : SttOk st) {r : Plc} {l : Bits} (hl : l.length = 48)
include hok hl
theorem bit_add (q : Plc) (t : Nat) : bit (addS st r l) q t = (bit st q t || (decide (q = r) && l.getD t false)) := by
  unfold bit
  rw [getB_add hok]
  split
  · rename_i e; subst e
    rw [decide_eq_true rfl, Bool.true_and]
    by_cases ht : t < 48
    · rw [orB_getD t (by rw [getB_len hok.l48]; exact ht)]
    · have h1 : ∀ b : Bits, b.length = 48 → b.getD t false = false := fun b hb => by rw [List.getD_eq_getElem?_getD, List.getElem?_eq_none (by omega)]; rfl
      rw [h1 _ (by unfold orB; rw [orTo_len, getB_len hok.l48]), h1 _ (getB_len hok.l48 q), h1 _ hl]; rfl
  · rename_i e
    rw [decide_eq_false e]; simp
theorem bit_mono {q : Plc} {t : Nat} (h : bit st q t = true) : bit (addS st r l) q t = true := by rw [bit_add hok hl, h]; rfl
theorem bit_in {t : Nat} (h : l.getD t false = true) : bit (addS st r l) r t = true := by rw [bit_add hok hl, h]; simp
theorem td_new {q : Plc} {t : Nat} (h : bit (addS st r l) q t = true) (h0 : bit st q t = false) : q = r ∧ q ∈ (addS st r l).td := by
  rw [bit_add hok hl, h0, Bool.false_or] at h
  simp only [Bool.and_eq_true, decide_eq_true_eq] at h
  obtain ⟨rfl, h⟩ := h
  refine ⟨rfl, ?_⟩
  have : newB (getB st.ks st.bs q) l = true := by
    unfold newB newTo
    rw [List.any_eq_true]
    refine ⟨t, List.mem_range.2 (by rw [getB_len hok.l48]; have := getD_lt h; omega), ?_⟩
    rw [h]; unfold bit at h0; rw [h0]; rfl
  show q ∈ (if newB (getB st.ks st.bs q) l then st.td ++ [q] else st.td)
  rw [if_pos this]; simp
theorem td_mono {q : Plc} (h : q ∈ st.td) : q ∈ (addS st r l).td := by
  show q ∈ (if newB (getB st.ks st.bs r) l then st.td ++ [r] else st.td)
  split
  · exact List.mem_append_left _ h
  · exact h
theorem td_some (hs : ∀ q ∈ st.td, ∃ t, bit st q t = true) : ∀ q ∈ (addS st r l).td, ∃ t, bit (addS st r l) q t = true := by
  intro q hq
  have hq : q ∈ (if newB (getB st.ks st.bs r) l then st.td ++ [r] else st.td) := hq
  have hold : q ∈ st.td → ∃ t, bit (addS st r l) q t = true := fun h => by obtain ⟨t, ht⟩ := hs q h; exact ⟨t, bit_mono hok hl ht⟩
  split at hq
  · rename_i hn
    rcases List.mem_append.1 hq with h | h
    · exact hold h
    · rw [List.mem_singleton] at h; subst h
      unfold newB newTo at hn
      rw [List.any_eq_true] at hn
      obtain ⟨t, _, ht⟩ := hn
      simp only [Bool.and_eq_true] at ht
      exact ⟨t, bit_in hok hl ht.1⟩
  · exact hold hq
end adds

/-- In the midst of a round: what is told is so, what grew is to do, else what comes of it is there. -/
structure Half (g : Gram) (GS : List (List Int)) (p : Plc) (own : Bits) (st : Stt) : Prop where
  ok : SttOk st
  sound : ∀ q t, bit st q t = true → LA g GS q t
  some_ : ∀ q ∈ st.td, ∃ t, bit st q t = true
  comp : ∀ q t, bit st q t = true → q ∈ st.td ∨ (q = p ∧ own.getD t false = true) ∨ ∀ r u, Cons g GS q t r u → bit st r u = true

theorem Half.add {g : Gram} {GS : List (List Int)} {p : Plc} {own : Bits} {st : Stt} (h : Half g GS p own st) {r : Plc} {l : Bits} (hl : l.length = 48) (hs : ∀ t, l.getD t false = true → LA g GS r t) : Half g GS p own (addS st r l) where
  ok := addS_ok h.ok r l
  sound q t hq := by
    rw [bit_add h.ok hl] at hq
    simp only [Bool.or_eq_true, Bool.and_eq_true, decide_eq_true_eq] at hq
    rcases hq with hq | ⟨rfl, hq⟩
    · exact h.sound q t hq
    · exact hs t hq
  some_ := td_some h.ok hl h.some_
  comp q t hq := by
    cases h0 : bit st q t with
    | true =>
      rcases h.comp q t h0 with h1 | h1 | h1
      · exact .inl (td_mono h.ok hl h1)
      · exact .inr (.inl h1)
      · exact .inr (.inr fun r u hc => bit_mono h.ok hl (h1 r u hc))
    | false => exact .inl (td_new h.ok hl hq h0).2

theorem comb_getD {a own : Bits} {nz : Bool} {t : Nat} (h : (comb a own nz).getD t false = true) : a.getD t false = true ∨ (nz = true ∧ own.getD t false = true) := by
  have ht := getD_lt h
  unfold comb at h ht
  rw [List.length_map, List.length_range] at ht
  rw [List.getD_eq_getElem?_getD, List.getElem?_eq_getElem (by simpa using ht), Option.getD_some, List.getElem_map, List.getElem_range] at h
  simpa using h
theorem comb_set {a own : Bits} {nz : Bool} {t : Nat} (ht : t < a.length) (h : a.getD t false = true ∨ (nz = true ∧ own.getD t false = true)) : (comb a own nz).getD t false = true := by
  unfold comb
  rw [List.getD_eq_getElem?_getD, List.getElem?_eq_getElem (by simpa using ht), Option.getD_some, List.getElem_map, List.getElem_range]
  simpa using h
theorem comb_len (a own : Bits) (nz : Bool) : (comb a own nz).length = a.length := by unfold comb; simp

theorem prods_half {g : Gram} {GS : List (List Int)} {p : Plc} {own : Bits} {st : Stt} (h : Half g GS p own st) {l : Bits} (hl : l.length = 48)
    (hs : ∀ t, l.getD t false = true → ∀ k : Nat, k < g.Prods.length → (prd g k).Left = beh g p.x - g.Terms.length → LA g GS ⟨p.s, ⟨k, 0⟩⟩ t) : ∀ m, m ≤ g.Prods.length → Half g GS p own (prodsAdd g p l st m) ∧ (∀ q t, bit st q t = true → bit (prodsAdd g p l st m) q t = true) ∧
      (∀ k : Nat, k < m → (prd g k).Left = beh g p.x - g.Terms.length → ∀ t, l.getD t false = true → bit (prodsAdd g p l st m) ⟨p.s, ⟨k, 0⟩⟩ t = true)
  | 0, _ => ⟨h, fun _ _ h => h, fun k hk => by omega⟩
  | m + 1, hm => by
    obtain ⟨h1, h2, h3⟩ := prods_half h hl hs m (by omega)
    rw [prodsAdd_succ]
    split
    · rename_i hle
      refine ⟨h1.add hl (fun t ht => hs t ht m (by omega) hle), fun q t hq => bit_mono h1.ok hl (h2 q t hq), fun k hk hlk t ht => ?_⟩
      by_cases e : k = m
      · subst e; exact bit_in h1.ok hl ht
      · exact bit_mono h1.ok hl (h3 k (by omega) hlk t ht)
    · rename_i hle
      refine ⟨h1, h2, fun k hk hlk t ht => ?_⟩
      by_cases e : k = m
      · subst e; exact absurd hlk hle
      · exact h3 k (by omega) hlk t ht

/-- Between rounds. -/
structure Whole (g : Gram) (GS : List (List Int)) (st : Stt) : Prop where
  ok : SttOk st
  sound : ∀ q t, bit st q t = true → LA g GS q t
  some_ : ∀ q ∈ st.td, ∃ t, bit st q t = true
  comp : ∀ q t, bit st q t = true → q ∈ st.td ∨ ∀ r u, Cons g GS q t r u → bit st r u = true

theorem Whole.of {g : Gram} {GS : List (List Int)} {p : Plc} {own : Bits} {st : Stt} (h : Half g GS p own st) (hp : ∀ t, own.getD t false = true → ∀ r u, Cons g GS p t r u → bit st r u = true) : Whole g GS st :=
  ⟨h.ok, h.sound, h.some_, fun q t hq => by
    rcases h.comp q t hq with h1 | ⟨rfl, h1⟩ | h1
    · exact .inl h1
    · exact .inr (hp t h1)
    · exact .inr h1⟩

theorem whole_round {g : Gram} (hT : g.Terms.length ≤ 48) {GS : List (List Int)} {st : Stt} (h : Whole g GS st) {p : Plc} (hp : st.td.getLast? = some p) : Whole g GS (roundG g GS (restB g) (restN g) st p) := by
  obtain ⟨ys, hys⟩ := List.getLast?_eq_some_iff.1 hp
  have hmem : p ∈ st.td := by rw [hys]; simp
  obtain ⟨t0, ht0⟩ := h.some_ p hmem
  have hdl : st.td.dropLast = ys := by rw [hys, List.dropLast_concat]
  have hH : Half g GS p (getB st.ks st.bs p) ⟨st.ks, st.bs, st.td.dropLast⟩ := by
    refine ⟨⟨h.ok.len, h.ok.l48, h.ok.nd, fun p hp => h.ok.td p (List.dropLast_subset _ hp)⟩, h.sound, fun q hq => h.some_ q (List.dropLast_subset _ hq), fun q t hq => ?_⟩
    rcases h.comp q t hq with h1 | h1
    · rw [hys] at h1
      rcases List.mem_append.1 h1 with h1 | h1
      · refine .inl ?_; show q ∈ st.td.dropLast; rw [hdl]; exact h1
      · rw [List.mem_singleton] at h1; subst h1; exact .inr (.inl ⟨rfl, hq⟩)
    · exact .inr (.inr h1)
  have hlo := getB_len (ks := st.ks) h.ok.l48 p
  have hso : ∀ t, (getB st.ks st.bs p).getD t false = true → LA g GS p t := fun t ht => h.sound p t ht
  have hst0 : (getB st.ks st.bs p).getD t0 false = true := ht0
  unfold roundG
  generalize getB st.ks st.bs p = own at *
  split
  · rename_i hd
    exact .of hH fun t ht r u hc => by cases hc with
      | shift h1 => exact absurd hd h1
      | close h1 => exact absurd hd h1
  · rename_i hd
    have hA := hH.add (r := nextP g GS p) hlo (fun t ht => .step (hso t ht) (.shift hd))
    split
    · rename_i hb
      refine .of hA fun t ht r u hc => ?_
      cases hc with
      | shift h1 => exact bit_in hH.ok hlo ht
      | close _ h2 => exact absurd hb h2
    · rename_i hb
      have hlc : (comb (restB g p.x) own (restN g p.x)).length = 48 := by rw [comb_len, restB_len hT]
      obtain ⟨h1, h2, h3⟩ := prods_half hA hlc (fun t ht k hk hle => by
        rcases comb_getD ht with h1 | ⟨h1, h2⟩
        · exact .step (hso t0 hst0) (.close hd hb hk hle (.inl h1))
        · exact .step (hso t h2) (.close hd hb hk hle (.inr ⟨h1, rfl⟩))) g.Prods.length (Nat.le_refl _)
      refine .of h1 fun t ht r u hc => ?_
      cases hc with
      | shift _ => exact h2 _ _ (bit_in hH.ok hlo ht)
      | close _ _ hk hle hu =>
        refine h3 _ hk hle u (comb_set ?_ ?_)
        · rcases hu with hu | ⟨_, rfl⟩
          · exact getD_lt hu
          · rw [restB_len hT]; have := getD_lt ht; omega
        · rcases hu with hu | ⟨hu, rfl⟩
          · exact .inl hu
          · exact .inr ⟨hu, ht⟩

theorem whole_N {g : Gram} (hT : g.Terms.length ≤ 48) {GS : List (List Int)} : ∀ (n : Nat) {st : Stt}, Whole g GS st → Whole g GS (stepN g GS (restB g) (restN g) n st)
  | 0, _, h => h
  | n + 1, st, h => by
    show Whole g GS (stepN g GS (restB g) (restN g) n (stepG g GS (restB g) (restN g) st))
    refine whole_N hT n ?_
    unfold stepG
    cases hl : st.td.getLast? with
    | none => exact h
    | some p => exact whole_round hT h hl

theorem ok00 : SttOk st00 := ⟨rfl, (fun b hb => nomatch hb), List.nodup_nil, (fun p hp => nomatch hp)⟩
theorem one0_len : one0.length = 48 := by decide
theorem one0_get {t : Nat} (h : one0.getD t false = true) : t = 0 := by
  cases t with
  | zero => rfl
  | succ t =>
    exfalso
    unfold one0 at h
    rw [List.getD_cons_succ, List.getD_eq_getElem?_getD] at h
    rcases Nat.lt_or_ge t 47 with h1 | h1
    · rw [List.getElem?_replicate, if_pos h1] at h; cases h
    · rw [List.getElem?_replicate, if_neg (by omega)] at h; cases h

theorem whole0 (g : Gram) (GS : List (List Int)) : Whole g GS la0 := by
  have hb : ∀ q t, bit st00 q t = false := fun q t => by
    unfold bit getB st00
    simp only [List.not_mem_nil, if_false]
    unfold zer
    rw [List.getD_eq_getElem?_getD]
    cases h : (List.replicate 48 false)[t]? with
    | none => rfl
    | some b => have := List.mem_of_getElem? h; rw [List.mem_replicate] at this; rw [this.2]; rfl
  have h0 : Half g GS p00 one0 st00 := ⟨ok00, (fun q t h => by rw [hb] at h; cases h), (fun q hq => nomatch hq), (fun q t h => by rw [hb] at h; cases h)⟩
  have h1 := h0.add (r := p00) one0_len (fun t ht => by rw [one0_get ht]; exact .base)
  refine ⟨h1.ok, h1.sound, h1.some_, fun q t hq => ?_⟩
  exact .inl (td_new ok00 one0_len hq (hb q t)).2

theorem la_end {g : Gram} (hT : g.Terms.length ≤ 48) {n : Nat} (h : (laN g n).td = []) {p : Plc} {t : Nat} : bit (laN g n) p t = true ↔ LA g (lrGs g) p t := by
  have hw := whole_N hT n (whole0 g (lrGs g))
  refine ⟨hw.sound p t, fun hl => ?_⟩
  induction hl with
  | base =>
    have mono : ∀ n, bit (laN g n) p00 0 = true → True := fun _ _ => trivial
    have keep : ∀ (n : Nat) {st : Stt}, Whole g (lrGs g) st → bit st p00 0 = true → bit (stepN g (lrGs g) (restB g) (restN g) n st) p00 0 = true := by
      intro n
      induction n with
      | zero => exact fun _ h => h
      | succ n ih =>
        intro st hw hb
        show bit (stepN g (lrGs g) (restB g) (restN g) n (stepG g (lrGs g) (restB g) (restN g) st)) p00 0 = true
        have hw2 : Whole g (lrGs g) (stepG g (lrGs g) (restB g) (restN g) st) := whole_N hT 1 hw
        refine ih hw2 ?_
        unfold stepG
        cases hl : st.td.getLast? with
        | none => exact hb
        | some p =>
          simp only
          have hok : SttOk ⟨st.ks, st.bs, st.td.dropLast⟩ := ⟨hw.ok.len, hw.ok.l48, hw.ok.nd, fun p hp => hw.ok.td p (List.dropLast_subset _ hp)⟩
          have hlo := getB_len (ks := st.ks) hw.ok.l48 p
          have h1 : bit (addS ⟨st.ks, st.bs, st.td.dropLast⟩ (nextP g (lrGs g) p) (getB st.ks st.bs p)) p00 0 = true := bit_mono hok hlo hb
          have hlc : (comb (restB g p.x) (getB st.ks st.bs p) (restN g p.x)).length = 48 := by rw [comb_len, restB_len hT]
          have hpa : ∀ m, SttOk (prodsAdd g p (comb (restB g p.x) (getB st.ks st.bs p) (restN g p.x)) (addS ⟨st.ks, st.bs, st.td.dropLast⟩ (nextP g (lrGs g) p) (getB st.ks st.bs p)) m) ∧ bit (prodsAdd g p (comb (restB g p.x) (getB st.ks st.bs p) (restN g p.x)) (addS ⟨st.ks, st.bs, st.td.dropLast⟩ (nextP g (lrGs g) p) (getB st.ks st.bs p)) m) p00 0 = true := by
            intro m
            induction m with
            | zero => exact ⟨addS_ok hok _ _, h1⟩
            | succ m ih2 =>
              rw [prodsAdd_succ]
              split
              · exact ⟨addS_ok ih2.1 _ _, bit_mono ih2.1 hlc ih2.2⟩
              · exact ih2
          unfold roundG
          split
          · exact hb
          · split
            · exact h1
            · exact (hpa _).2
    exact keep n (whole0 g (lrGs g)) (bit_in ok00 one0_len rfl)
  | step _ hc ih =>
    rcases hw.comp _ _ ih with h1 | h1
    · rw [show (stepN g (lrGs g) (restB g) (restN g) n la0).td = [] from h] at h1; cases h1
    · exact h1 _ _ hc

theorem vp00 {g : Gram} {KS : List (List Itm)} {GS : List (List Int)} (hF : GoF g KS GS) : VP g KS p00 := by
  refine ⟨hF.p0, ?_⟩
  have o := GOk.of hF.wf
  refine ((closedP_spec o.beh o.left (hF.ok 0 hF.p0).2.1).2 _).2 (.base ?_)
  rw [hF.k0 hF.p0]; simp

theorem la_vp {g : Gram} {KS : List (List Itm)} {GS : List (List Int)} (hF : GoF g KS GS) {p : Plc} {t : Nat} (h : LA g GS p t) : VP g KS p := by
  induction h with
  | base => exact vp00 hF
  | step _ hc ih =>
    cases hc with
    | shift hd =>
      obtain ⟨_, _, _, _, _, _, _, h⟩ := ih.next hF hd
      exact h
    | close _ _ hk hl _ => exact ih.prod hF hk hl

end Go.Proofs.YtcnpjhaedjncdaaGreatDoor

namespace Go.Proofs.YtcnpjhaedjncdaaGreatDoor
set_option linter.all false
open Go.Proofs.YtcnpjhaedjncdaaGreatDoor.E

abbrev AcL := List (Option Addr × Nat)
def rowVs (D : List AcL) (R : List (List Bits)) : List (List Value) := List.zipWith rowC D R
def innB (D : List AcL) (R : List (List Bits)) : List Asn := List.zipWith (fun d r => bun (rowX cB 1 4 d r)) D R
abbrev rowO (acs : AcL) (D : List AcL) (R : List (List Bits)) : Asn := bun (rowX (fun l : List Value => l) 1 39 acs (rowVs D R))
/-- The answer, in memory of one's own. -/
structure AheV (V : List Asn) (AX : Option Addr) (n cX : Nat) (X : List (List Bits)) (acs : AcL) (D : List AcL) : Prop where
  m : n = X.length
  l : acs.length = X.length
  d : D.length = X.length
  r : ∀ (i : Nat) (h1 : i < D.length) (h2 : i < X.length), D[i].length = X[i].length
  v : V = [osl 38 1 (.slice AX n cX) n (rowC acs (rowVs D X)), rowO acs D X, bun (innB D X)]

theorem rowVs_len {D : List AcL} {R : List (List Bits)} (h : D.length = R.length) : (rowVs D R).length = R.length := by unfold rowVs; simp [h]
theorem pad_set {α : Type} (A : List α) (m : Nat) (x v : α) : (A ++ List.replicate (m + 1) x).set A.length v = (A ++ [v]) ++ List.replicate m x := by
  rw [List.set_append_right _ _ (Nat.le_refl _), Nat.sub_self, List.replicate_succ, List.set_cons_zero, List.append_assoc]; rfl

theorem univ_len {g : Gram} {KS : List (List Itm)} {GS : List (List Int)} (hF : GoF g KS GS) : (univ g KS).length ≤ 512 * 2000 := by
  unfold univ
  have h1 : ∀ (l : List Nat), (∀ s ∈ l, s < KS.length) → (l.flatMap fun s => (closedP g (KS.getD s [])).map fun x => (⟨s, x⟩ : Plc)).length ≤ l.length * 2000 := by
    intro l
    induction l with
    | nil => intro _; simp
    | cons s l ih =>
      intro h
      rw [List.flatMap_cons, List.length_append, List.length_map, List.length_cons]
      have h2 := ih (fun x hx => h x (List.mem_cons_of_mem _ hx))
      have h3 := h s (List.mem_cons_self ..)
      have h4 := (hF.cl s h3).2.2.2.2
      rw [List.getD_eq_getElem?_getD, List.getElem?_eq_getElem h3, Option.getD_some]
      have := Nat.add_mul l.length 1 2000
      omega
  have h2 := h1 (List.range KS.length) (fun s hs => List.mem_range.1 hs)
  rw [List.length_range] at h2
  exact Nat.le_trans h2 (Nat.mul_le_mul_right _ hF.n)
theorem sum_bound {f : Plc → Nat} {b : Nat} (h : ∀ q, f q ≤ b) : ∀ l : List Plc, (l.map f).sum ≤ l.length * b
  | [] => by simp
  | x :: l => by
    rw [List.map_cons, List.sum_cons, List.length_cons, Nat.add_mul]
    have := sum_bound h l
    have := h x
    omega
theorem meas0 {g : Gram} {KS : List (List Itm)} {GS : List (List Int)} (hF : GoF g KS GS) : meas (univ g KS) la0 ≤ 1000000000 := by
  have h1 : (univ g KS).length ≤ 1024000 := univ_len hF
  have h2 : miss (univ g KS) la0 ≤ (univ g KS).length * 48 := by
    unfold miss
    refine sum_bound (fun q => ?_) _
    unfold cntZ
    refine Nat.le_trans List.countP_le_length ?_
    rw [List.length_range, getB_len (ks := la0.ks) (bs := la0.bs) (addS_ok ok00 p00 one0).l48]; exact Nat.le_refl _
  have h3 : la0.td.length ≤ 1 := by decide
  unfold meas
  omega

theorem ginv0 {g : Gram} {KS : List (List Itm)} {GS : List (List Int)} (hF : GoF g KS GS) : GInv g KS la0 :=
  GInv.add (st := st00) ⟨ok00, fun p hp => by cases hp⟩ (vp00 hF) one0

noncomputable def YR (g : Gram) (s k : Nat) : List Bits := (List.range k).map fun j => laRow g s j
noncomputable def XR (g : Gram) (s : Nat) : List (List Bits) := (List.range s).map fun i => YR g i g.Prods.length
theorem YR_len (g : Gram) (s k : Nat) : (YR g s k).length = k := by unfold YR; simp
theorem XR_len (g : Gram) (s : Nat) : (XR g s).length = s := by unfold XR; simp
theorem YR_succ (g : Gram) (s k : Nat) : YR g s (k + 1) = YR g s k ++ [laRow g s k] := by unfold YR; rw [List.range_succ, List.map_append]; rfl
theorem XR_succ (g : Gram) (s : Nat) : XR g (s + 1) = XR g s ++ [YR g s g.Prods.length] := by unfold XR; rw [List.range_succ, List.map_append]; rfl
theorem XR_get {g : Gram} {s i : Nat} (h : i < (XR g s).length) : (XR g s)[i] = YR g i g.Prods.length := by
  have h2 : i < ((List.range s).map fun i => YR g i g.Prods.length).length := h
  show ((List.range s).map fun i => YR g i g.Prods.length)[i] = _
  rw [List.getElem_map, List.getElem_range]
theorem laX_ok {g : Gram} (h : lrE g = 0) : laX g = XR g (lrKs g).length := by unfold laX; rw [if_pos h]; rfl
theorem rowC_len0 {α : Type} {acs : AcL} {rows : List (List α)} (h : acs.length = rows.length) : (rowC acs rows).length = rows.length := by unfold rowC; simp [h]
theorem rowVs_snoc {D : List AcL} {R : List (List Bits)} (h : D.length = R.length) (d : AcL) (r : List Bits) : rowVs (D ++ [d]) (R ++ [r]) = rowVs D R ++ [rowC d r] := by unfold rowVs; rw [List.zipWith_append h]; rfl
theorem innB_snoc {D : List AcL} {R : List (List Bits)} (h : D.length = R.length) (d : AcL) (r : List Bits) : innB (D ++ [d]) (R ++ [r]) = innB D R ++ [bun (rowX cB 1 4 d r)] := by unfold innB; rw [List.zipWith_append h]; rfl
theorem flat_cB : ∀ l : List Bool, l.flatMap (fun b => [Value.bool b]) = cB l
  | [] => rfl
  | b :: l => by rw [List.flatMap_cons, flat_cB l]; rfl
theorem load_cell {xs : List Value} {o : Nat} {v : Value} {i : TI} (ha : aggB i.d = false) (h : xs[o]? = some v) : loadL i xs o = some v := by unfold loadL; rw [ha]; exact h
abbrev nilV : Value := .slice none 0 0
theorem pad_set1 {A : List Value} {n s : Nat} {v : Value} (h : A.length = s) (hs : s < n) : setMany (A ++ List.replicate (n - s) nilV) (0 + s * 1) [v] = (A ++ [v]) ++ List.replicate (n - (s + 1)) nilV := by
  subst h
  simp only [setMany, Nat.zero_add, Nat.mul_one]
  rw [show n - A.length = (n - (A.length + 1)) + 1 by omega]
  exact pad_set A _ _ v
theorem pad_len {A : List Value} {n s : Nat} (h : A.length = s) (hs : s ≤ n) : (A ++ List.replicate (n - s) nilV).length = n := by rw [List.length_append, List.length_replicate]; omega

attribute [local irreducible] EVX EVO EVL EV1 NEV
attribute [local irreducible] own osl exA rdA rdL
attribute [local irreducible] bldA mapA bun mapS
set_option maxRecDepth 10000
set_option maxHeartbeats 4000000

theorem aheadOf_w (cs : List Value) (g : Gram) (hp : checkE g = 0 → g.Prods.length ≤ 100) : Trip Tryz.prog 8 [.agg cs.toArray] (kGram.rd cs g) []
    (fun v V => ∃ (AX : Option Addr) (n cX : Nat) (acs : AcL) (D : List AcL), v = .tuple #[.slice AX n cX, .int .i64 (lrE g)] ∧ AheV V AX n cX (laX g) acs D) := by
  refine trip Tryz.tabOk Tryz.func8 rfl rfl rfl rfl ?_
  rintro w SM hG0
  obtain ⟨A0, A1, A2, A3, A4, c0, c1, c2, c3, c4, rfl, hG⟩ := kGram_open hG0
  repeat' (first | refine e_nil ?_ | ((refine e_op ?_); (first | refine o_n (peval_sound rfl) rfl ?_ | refine o_n (nl rfl rfl tc rfl) rfl ?_ | refine o_box rfl rfl (fun _ => ?_))) | refine s_seq ?_ | refine s_region ?_)
  refine e_op (o_call (ofP_w _ g hp) rfl .nil (Can.ro hG0) rfl ?_)
  rintro v V ⟨x, rfl, AK, cK, acs, AG, cG, bcs, hl, hb, rfl, rfl⟩
  simp only [List.cons_append, List.nil_append]
  repeat' (first | refine e_nil ?_ | ((refine e_op ?_); (first | refine o_n (peval_sound rfl) rfl ?_ | refine o_storeC rfl rfl rfl rfl tc uc rfl rfl rfl ?_ | refine o_alloc rfl rfl (fun _ => ?_))) | refine s_seq ?_ | refine s_region ?_)
  by_cases h0 : lrE g ≠ 0
  · rw [show (lrE g != 0) = true by simpa using h0]
    have hX : laX g = [] := by unfold laX; rw [if_neg h0]
    rw [hX]
    repeat' (first | refine e_nil ?_ | ((refine e_op ?_); (refine o_n (peval_sound rfl) rfl ?_)) | refine s_seq ?_ | refine s_region ?_ | refine s_true rfl ?_)
    refine s_ret ⟨_, _, res2 rfl rfl rfl, ⟨none, 0, 0, [], [], rfl, ⟨rfl, rfl, rfl, (fun i h1 => nomatch h1), rfl⟩⟩, ?_⟩
    exact (Ent.nil _).trans (Ent.osl0 (ent_bnil0.trans (Ent.cons (ent_bun (L := [])))))
  replace h0 : lrE g = 0 := Classical.not_not.1 h0
  rw [show (lrE g != 0) = false by simpa using h0]
  have hce := (lr_fin h0).1
  have hF := goF h0
  have hN := lr_num g
  repeat' (first | ((refine e_op ?_); (refine o_n (nl rfl rfl tc rfl) rfl ?_)) | refine s_seq ?_ | refine s_region ?_ | refine s_skip ?_ | refine s_false rfl ?_)
  refine e_op (o_newMap keyP rfl (fun b1 => ?_))
  refine e_op (o_newMapS keyX rfl (fun b2 => ?_))
  refine e_op (o_newMapS keyX rfl (fun b3 => ?_))
  repeat' (((refine e_op ?_); (first | refine o_n (peval_sound rfl) rfl ?_ | refine o_box rfl rfl (fun _ => ?_))))
  rename_i bg bl bm
  refine e_nil ?_
  refine s_weak (fr' := [(6, ptrN bm), (4, ptrN bl), (1, ptrN bg)]) (V := [mkB bm (.slice A0 g.Terms.length c0) (.slice A1 g.Levels.length c1) (.slice A2 g.Pats.length c2) (.slice A3 g.Nons.length c3) (.slice A4 g.Prods.length c4) (.slice AK (lrKs g).length cK) (.slice AG (lrGs g).length cG) b1 none 0 0 b2 b3, mapA keyP b1 (prs st00.ks []), bun (bitX [] st00.bs), tdS none 0 st00.td, mapS keyX b2 (begM g []) [] 0, mapS keyX b3 (empM g []) [] 0,
    blk bl 66 [.slice AK (lrKs g).length cK, .slice AG (lrGs g).length cG], kerS AK (lrKs g).length cK acs (lrKs g), kerB acs (lrKs g), gotS AG (lrGs g).length cG bcs (lrGs g), gotB bcs (lrGs g), blk bg 27 [.slice A0 g.Terms.length c0, .slice A1 g.Levels.length c1, .slice A2 g.Pats.length c2, .slice A3 g.Nons.length c3, .slice A4 g.Prods.length c4]]) ?_ ?_ ?_
  · repeat' (first | exact Sub.nil _ | refine Sub.cons rfl ?_)
  · refine Ent.cons (Ent.tak (.s (.s .z)) (Ent.trans (Ent.tak (.s .z) (Ent.tak .z (Ent.refl _))) ?_))
    exact Ent.trans (Ent.osl0 (e := 81) (sz := 3) (Ent.refl _)) (ent_bun (L := []))
  repeat' (first | ((refine e_op ?_); (refine o_n (peval_sound rfl) rfl ?_)) | refine s_seq ?_ | refine s_region ?_)
  refine e_op (o_n (n_buildA1 rfl rfl rfl rfl rfl rfl) rfl ?_)
  skip
  refine e_op (o_call (add_w bm b1 b2 b3 (.slice A0 g.Terms.length c0) (.slice A1 g.Levels.length c1) (.slice A2 g.Pats.length c2) (.slice A3 g.Nons.length c3) (.slice A4 g.Prods.length c4) (.slice AK (lrKs g).length cK) (.slice AG (lrGs g).length cG) st00 ok00 (by decide) [] rfl none 0 p00 one0 one0_len) rfl (.cons .z (.cons .z (.cons .z (.cons .z .nil)))) Can.tt rfl ?_)
  rintro v V ⟨al, At, ct, rfl, hal, rfl⟩
  simp only [List.cons_append, List.nil_append]
  rw [show addS st00 p00 one0 = la0 from rfl] at hal ⊢
  repeat' (first | refine e_nil ?_ | ((refine e_op ?_); (refine o_n (peval_sound rfl) rfl ?_)) | refine s_seq ?_ | refine s_region ?_)
  refine e_op (o_call (growG_w bm b1 b2 b3 A0 A1 A2 A3 A4 AK AG c0 c1 c2 c3 c4 cK cG g hce (lrKs g) (lrGs g) hF la0 (ginv0 hF) (meas0 hF) al hal At ct ⟨[], [], 0, [], 0⟩) rfl (.cons .z (.cons .z (.cons .z (.cons .z (.cons .z (.cons .z .nil)))))) (Can.and (Can.ro hG0) (can_lr hl hb hN (Ent.wk (Ent.refl _)))) rfl ?_)
  rintro v V ⟨rfl, n, st, al2, At2, ct2, m, hst, htd, hi, hal2, rfl⟩
  simp only [List.cons_append, List.nil_append]
  have hlaN : laN g n = st := hst.symm
  have hfin : laFin g = st := by rw [laFin_eq (n := n) (by rw [hlaN]; exact htd)]; exact hlaN
  have hn512 := hF.n
  have hP100 := hp hce
  have hT48 : g.Terms.length ≤ 48 := hF.lim.t
  repeat' (first | refine e_nil ?_ | ((refine e_op ?_); (first | refine o_n (peval_sound rfl) rfl ?_ | refine o_n (nl rfl rfl tc rfl) rfl ?_)) | refine s_seq ?_ | refine s_region ?_ | refine s_skip ?_ | refine s_false rfl ?_)
  refine e_op (o_make rfl rfl rfl rfl (lrKs g).length rfl rfl (by omega) (by omega) rfl (fun bX => ?_))
  repeat' (first | refine e_nil ?_ | ((refine e_op ?_); (refine o_n (peval_sound rfl) rfl ?_)) | refine s_seq ?_ | refine s_region ?_ | refine s_block ?_)
  refine s_loopK (ι := {x : Nat × AcL × List AcL // x.1 ≤ (lrKs g).length ∧ x.2.1.length = x.1 ∧ x.2.2.length = x.1 ∧ ∀ d ∈ x.2.2, d.length = g.Prods.length}) [1, 6, 8, 42] rfl ⟨(0, [], []), by simp⟩ (fun x => [(43, .int .i64 x.1.1)])
    (fun x => [osl 38 1 (.slice (some ⟨bX, 0, none⟩) (lrKs g).length (lrKs g).length) (lrKs g).length (rowC x.1.2.1 (rowVs x.1.2.2 (XR g x.1.1)) ++ List.replicate ((lrKs g).length - x.1.1) nilV), rowO x.1.2.1 x.1.2.2 (XR g x.1.1), bun (innB x.1.2.2 (XR g x.1.1)),
      mkB bm (.slice A0 g.Terms.length c0) (.slice A1 g.Levels.length c1) (.slice A2 g.Pats.length c2) (.slice A3 g.Nons.length c3) (.slice A4 g.Prods.length c4) (.slice AK (lrKs g).length cK) (.slice AG (lrGs g).length cG) b1 At2 st.td.length ct2 b2 b3, mapA keyP b1 (prs st.ks al2), bun (bitX al2 st.bs), blk bg 27 [.slice A0 g.Terms.length c0, .slice A1 g.Levels.length c1, .slice A2 g.Pats.length c2, .slice A3 g.Nons.length c3, .slice A4 g.Prods.length c4]]) (fun x => (lrKs g).length - x.1.1) ?_ ?_ ?_
  · repeat' (first | exact Sub.nil _ | refine Sub.cons rfl ?_)
  · refine Ent.cons ?_
    refine Ent.trans ?_ (ent_bnil0.trans (Ent.cons (ent_bun (L := []))))
    exact Ent.cons (Ent.cons (Ent.cons (Ent.wk (Ent.wk (Ent.wk (Ent.wk (Ent.wk (Ent.wk (Ent.wk (Ent.wk (Ent.refl _)))))))))))
  rintro ⟨⟨s, acs2, D⟩, hs, ha, hD, hDl⟩
  simp only at hs ha hD hDl ⊢
  repeat' (first | refine e_nil ?_ | ((refine e_op ?_); (refine o_n (peval_sound rfl) rfl ?_)) | refine s_seq ?_ | refine s_region ?_)
  have hvl : (rowVs D (XR g s)).length = s := by rw [rowVs_len (by rw [XR_len]; exact hD), XR_len]
  have hrc : (rowC acs2 (rowVs D (XR g s))).length = s := by rw [rowC_len0 (by rw [hvl]; exact ha), hvl]
  by_cases hlt : s < (lrKs g).length
  · rw [decide_eq_true (p := (s : Int) < ((lrKs g).length : Int)) (by omega)]
    repeat' (first | refine e_nil ?_ | ((refine e_op ?_); (first | refine o_n (peval_sound rfl) rfl ?_ | refine o_n (nl rfl rfl tc rfl) rfl ?_)) | refine s_seq ?_ | refine s_region ?_ | refine s_block ?_ | refine s_skip ?_ | refine s_true rfl ?_)
    refine e_op (o_make rfl rfl rfl rfl g.Prods.length rfl rfl (by omega) (by omega) rfl (fun bR => ?_))
    skip
    refine e_op (o_n (n_index rfl rfl rfl rfl s rfl hlt) rfl ?_)
    refine e_op (o_store_osl (vs := [.slice (some ⟨bR, 0, none⟩) g.Prods.length g.Prods.length]) rfl rfl rfl rfl rfl rfl (by rw [pad_len hrc hs]; simp only; omega) (.s .z) ?_)
    rw [pad_set1 hrc hlt]
    repeat' (first | refine e_nil ?_ | ((refine e_op ?_); (first | refine o_n (peval_sound rfl) rfl ?_ | refine o_n (nl rfl rfl tc rfl) rfl ?_)) | refine s_seq ?_ | refine s_region ?_ | refine s_block ?_)
    obtain ⟨OC, hOC⟩ : ∃ OC, OC = rowC acs2 (rowVs D (XR g s)) ++ [Value.slice (some ⟨bR, 0, none⟩) g.Prods.length g.Prods.length] ++ List.replicate ((lrKs g).length - (s + 1)) nilV := ⟨_, rfl⟩
    have hOCs : OC[s]? = some (Value.slice (some ⟨bR, 0, none⟩) g.Prods.length g.Prods.length) := by
      rw [hOC, List.append_assoc, List.getElem?_append_right (by omega), hrc, Nat.sub_self]; rfl
    rw [← hOC]
    refine s_loopK (ι := {y : Nat × AcL // y.1 ≤ g.Prods.length ∧ y.2.length = y.1}) [1, 6, 8, 9, 42, 43, 54, 55] rfl ⟨(0, []), by simp⟩ (fun y => [(56, .int .i64 y.1.1)])
      (fun y => [osl 39 1 (.slice (some ⟨bR, 0, none⟩) g.Prods.length g.Prods.length) g.Prods.length (rowC y.1.2 (YR g s y.1.1) ++ List.replicate (g.Prods.length - y.1.1) nilV), bun (rowX cB 1 4 y.1.2 (YR g s y.1.1)), osl 38 1 (.slice (some ⟨bX, 0, none⟩) (lrKs g).length (lrKs g).length) (lrKs g).length OC, rowO acs2 D (XR g s), bun (innB D (XR g s)),
        mkB bm (.slice A0 g.Terms.length c0) (.slice A1 g.Levels.length c1) (.slice A2 g.Pats.length c2) (.slice A3 g.Nons.length c3) (.slice A4 g.Prods.length c4) (.slice AK (lrKs g).length cK) (.slice AG (lrGs g).length cG) b1 At2 st.td.length ct2 b2 b3, mapA keyP b1 (prs st.ks al2), bun (bitX al2 st.bs), blk bg 27 [.slice A0 g.Terms.length c0, .slice A1 g.Levels.length c1, .slice A2 g.Pats.length c2, .slice A3 g.Nons.length c3, .slice A4 g.Prods.length c4]])
      (fun y => g.Prods.length - y.1.1) ?_ ?_ ?_
    · repeat' (first | exact Sub.nil _ | refine Sub.cons rfl ?_)
    · exact Ent.cons ent_bnil0
    rintro ⟨⟨k, d⟩, hk, hd⟩
    simp only at hk hd ⊢
    have hdy : d.length = (YR g s k).length := by rw [YR_len]; exact hd
    have hdc : (rowC d (YR g s k)).length = k := by rw [rowC_len0 hdy, YR_len]
    repeat' (first | refine e_nil ?_ | ((refine e_op ?_); (refine o_n (peval_sound rfl) rfl ?_)) | refine s_seq ?_ | refine s_region ?_)
    by_cases hkl : k < g.Prods.length
    · rw [decide_eq_true (p := (k : Int) < (g.Prods.length : Int)) (by omega)]
      obtain ⟨b9, o9, es9, rfl, hb9, he9, hc9⟩ := hG.prods.2.2 k hkl
      obtain ⟨Ar, cr, rfl, hl9, hlN, hlK, hri⟩ := kPrd_open he9
      repeat' (first | ((refine e_op ?_); (refine o_n (peval_sound rfl) rfl ?_)) | refine s_seq ?_ | refine s_region ?_ | refine s_block ?_ | refine s_skip ?_ | refine s_true rfl ?_)
      refine e_op (o_n (n_index rfl rfl rfl rfl k rfl hkl) rfl ?_)
      refine e_op (o_n (n_load_ro rfl rfl hb9 (loads_agg rfl rfl hc9)) rfl ?_)
      repeat' (first | refine e_nil ?_ | ((refine e_op ?_); (first | refine o_n (peval_sound rfl) rfl ?_ | refine o_storeC rfl rfl rfl rfl tc uc rfl rfl rfl ?_ | refine o_alloc rfl rfl (fun _ => ?_))) | refine s_seq ?_)
      rename_i b53
      refine s_drawU [] Tryz.mixed (by decide +kernel) ?_
      repeat' (((first | refine l_n (peval_sound rfl) rfl ?_ rfl ?_ | refine l_n (nl rfl rfl tc rfl) rfl ?_ rfl ?_); · (exact Ent.refl _)))
      refine l_n (n_lookup (z := .pointer none) (k := ⟨s, ⟨(k : Int), (g.Prods[k].Right.length : Int)⟩⟩) rfl mkeyP (fun w => by kernel_rfl) rfl rfl rfl (.s (.s (.s (.s (.s (.s (.s .z)))))))) rfl (Ent.refl _) rfl ?_
      rw [look_prs hal2]
      repeat' (first | refine l_nil ?_ | ((refine l_n (peval_sound rfl) rfl ?_ rfl ?_); · (exact Ent.refl _)))
      have hrow : laRow g s k = if (⟨s, ⟨(k : Int), (g.Prods[k].Right.length : Int)⟩⟩ : Plc) ∈ st.ks then (getB st.ks st.bs ⟨s, ⟨(k : Int), (g.Prods[k].Right.length : Int)⟩⟩).take g.Terms.length else [] := by
        unfold laRow; rw [hfin, prd_at hkl]
      generalize (⟨s, ⟨(k : Int), (g.Prods[k].Right.length : Int)⟩⟩ : Plc) = p at hrow ⊢
      by_cases hpk : p ∈ st.ks
      · rw [if_pos hpk] at hrow ⊢
        simp only [Option.getD_some]
        have hgb : st.bs[ix st.ks p]? = some (getB st.ks st.bs p) := by
          unfold getB
          have := ix_lt hpk
          have hlb := hi.ok.len
          rw [if_pos hpk, List.getD_eq_getElem?_getD, List.getElem?_eq_getElem (by omega)]; rfl
        have hb48 := getB_len (ks := st.ks) hi.ok.l48 p
        generalize getB st.ks st.bs p = b at hrow hgb hb48
        generalize hba : al2.getD (ix st.ks p) 0 = ba
        repeat' (first | ((refine e_op ?_); (refine o_n (peval_sound rfl) rfl ?_)) | refine s_seq ?_ | refine s_region ?_)
        refine e_op (o_n (n_neqP Tryz.underlying85 (by kernel_rfl) rfl rfl) rfl ?_)
        refine e_nil ?_
        refine s_true rfl ?_
        have hat : ∀ V, Ent (bun (bitX al2 st.bs) :: V) (blk ba 83 (cB b) :: bun ((bitX al2 st.bs).eraseIdx (ix st.ks p)) :: V) := fun V => by
          rw [← hba]; exact ent_bunAt (bitX_get (by rw [hal2, hi.ok.len]) hgb)
        have hbk : ∀ V, Ent (blk ba 83 (cB b) :: bun ((bitX al2 st.bs).eraseIdx (ix st.ks p)) :: V) (bun (bitX al2 st.bs) :: V) := fun V => by
          rw [← hba]; exact ent_bunBack (bitX_get (by rw [hal2, hi.ok.len]) hgb)
        refine s_weak (fr' := [(12, ptrN ba), (10, .int .i64 k), (56, .int .i64 k), (1, ptrN bg), (6, ptrN bm), (8, .slice (some ⟨bX, 0, none⟩) (lrKs g).length (lrKs g).length), (9, .int .i64 s), (42, .int .i64 (lrKs g).length), (43, .int .i64 s), (54, .slice (some ⟨b9, o9, none⟩) g.Prods.length c4), (55, .int .i64 g.Prods.length)])
          (V := [blk ba 83 (cB b), bun ((bitX al2 st.bs).eraseIdx (ix st.ks p)), osl 39 1 (.slice (some ⟨bR, 0, none⟩) g.Prods.length g.Prods.length) g.Prods.length (rowC d (YR g s k) ++ List.replicate (g.Prods.length - k) nilV), bun (rowX cB 1 4 d (YR g s k)), osl 38 1 (.slice (some ⟨bX, 0, none⟩) (lrKs g).length (lrKs g).length) (lrKs g).length OC, rowO acs2 D (XR g s), bun (innB D (XR g s)), mkB bm (.slice A0 g.Terms.length c0) (.slice A1 g.Levels.length c1) (.slice A2 g.Pats.length c2) (.slice A3 g.Nons.length c3) (.slice (some ⟨b9, o9, none⟩) g.Prods.length c4) (.slice AK (lrKs g).length cK) (.slice AG (lrGs g).length cG) b1 At2 st.td.length ct2 b2 b3, mapA keyP b1 (prs st.ks al2), blk bg 27 [.slice A0 g.Terms.length c0, .slice A1 g.Levels.length c1, .slice A2 g.Pats.length c2, .slice A3 g.Nons.length c3, .slice (some ⟨b9, o9, none⟩) g.Prods.length c4]]) ?_ ?_ ?_
        · repeat' (first | exact Sub.nil _ | refine Sub.cons rfl ?_)
        · exact Ent.trans (Ent.tak (.s (.s (.s (.s (.s (.s (.s (.s .z)))))))) (Ent.refl _)) (Ent.trans (hat _) (Ent.cons (Ent.cons (Ent.wk (Ent.refl _)))))
        refine s_anyT (.s (.s .z)) Tryz.mixed ?_
        (refine a_n 0 rfl (peval_sound rfl) (by decide +kernel) (by (repeat' (first | exact Ent.refl _ | refine Ent.tak .z ?_ | refine Ent.wk ?_))) rfl ?_); (refine a_n 1 rfl (peval_sound rfl) (by decide +kernel) (by (repeat' (first | exact Ent.refl _ | refine Ent.tak .z ?_ | refine Ent.wk ?_))) rfl ?_)
        refine a_n 2 rfl (n_index rfl rfl rfl rfl s rfl hlt) (by decide +kernel) (by (repeat' (first | exact Ent.refl _ | refine Ent.tak .z ?_ | refine Ent.wk ?_))) rfl ?_
        refine a_n 3 rfl (n_load_osl rfl rfl (.s (.s (.s .z))) (load_cell rfl (by simpa using hOCs))) (by decide +kernel) (by (repeat' (first | exact Ent.refl _ | refine Ent.tak .z ?_ | refine Ent.wk ?_))) rfl ?_
        (refine a_n 4 rfl (peval_sound rfl) (by decide +kernel) (by (repeat' (first | exact Ent.refl _ | refine Ent.tak .z ?_ | refine Ent.wk ?_))) rfl ?_); (refine a_n 5 rfl (peval_sound rfl) (by decide +kernel) (by (repeat' (first | exact Ent.refl _ | refine Ent.tak .z ?_ | refine Ent.wk ?_))) rfl ?_); (refine a_n 6 rfl (peval_sound rfl) (by decide +kernel) (by (repeat' (first | exact Ent.refl _ | refine Ent.tak .z ?_ | refine Ent.wk ?_))) rfl ?_); (refine a_n 7 rfl (peval_sound rfl) (by decide +kernel) (by (repeat' (first | exact Ent.refl _ | refine Ent.tak .z ?_ | refine Ent.wk ?_))) rfl ?_); (first | refine a_n 8 rfl (peval_sound rfl) (by decide +kernel) (by (repeat' (first | exact Ent.refl _ | refine Ent.tak .z ?_ | refine Ent.wk ?_))) rfl ?_ | refine a_n 8 rfl (nl rfl rfl tc rfl) (by decide +kernel) (by (repeat' (first | exact Ent.refl _ | refine Ent.tak .z ?_ | refine Ent.wk ?_))) rfl ?_); (refine a_n 9 rfl (peval_sound rfl) (by decide +kernel) (by (repeat' (first | exact Ent.refl _ | refine Ent.tak .z ?_ | refine Ent.wk ?_))) rfl ?_)
        refine a_n 10 rfl (n_arrTo rfl rfl rfl rfl g.Terms.length rfl hT48) (by decide +kernel) (by (repeat' (first | exact Ent.refl _ | refine Ent.tak .z ?_ | refine Ent.wk ?_))) rfl ?_
        refine a_1 11 (by decide +kernel) rfl rfl (o_copyO (k := kbool) (bytes := 1) (fun b => [.bool b]) kbool_is onec_bool rfl rfl rfl rfl (xs := b.take g.Terms.length) (by rw [List.length_take]; omega) (can_bits (kd := kbool) rfl (fun _ _ _ => rfl) .z (by omega) hT48 (by omega)) rfl rfl (by omega) rfl rfl rfl (fun A' c' => ⟨(by (repeat' (first | exact Ent.refl _ | refine Ent.tak .z ?_ | refine Ent.wk ?_))), ?_⟩))
        rw [flat_cB, ← hrow]
        refine a_n 12 rfl (n_index rfl rfl rfl rfl k rfl hkl) (by decide +kernel) (by (repeat' (first | exact Ent.refl _ | refine Ent.tak .z ?_ | refine Ent.wk ?_))) rfl ?_
        refine a_1 13 (by decide +kernel) rfl rfl (o_store_osl (vs := [.slice A' g.Terms.length c']) rfl rfl rfl rfl rfl rfl (by rw [pad_len hdc hk]; simp only; omega) (.s (.s (.s .z))) ⟨(by (repeat' (first | exact Ent.refl _ | refine Ent.tak .z ?_ | refine Ent.wk ?_))), ?_⟩)
        rw [pad_set1 hdc hkl]
        refine a_done (by decide +kernel) ?_
        repeat' (first | refine e_nil ?_ | ((refine e_op ?_); (refine o_n (peval_sound rfl) rfl ?_)) | refine s_region ?_ | refine s_end ?_)
        have hLr : (laRow g s k).length = g.Terms.length := by rw [hrow, List.length_take]; omega
        have e4 : osl 4 kbool.sz (.slice A' g.Terms.length c') g.Terms.length (cB (laRow g s k)) = rowA cB 1 4 (A', c') (laRow g s k) := by
          show osl 4 1 _ _ _ = osl 4 1 (.slice A' (laRow g s k).length c') (laRow g s k).length _
          rw [hLr]
        refine s_back ⟨⟨(k + 1, d ++ [(A', c')]), by simp only; omega, by simp [hd]⟩, by simp only; omega, ?_, ?_⟩
        · repeat' (first | exact Sub.nil _ | refine Sub.cons rfl ?_ | refine Sub.consE rfl ?_ ?_)
          exact inc (i := k) (by omega)
        · simp only
          rw [YR_succ, rowC_snoc hdy, hLr, e4]
          refine Ent.tak (.s (.s (.s .z))) ?_
          refine Ent.trans (Ent.cons (Ent.tak (.s (.s .z)) (Ent.refl _))) ?_
          refine Ent.trans (ent_bsnoc hdy) (Ent.cons (Ent.trans (hbk _) ?_))
          exact Ent.tak (.s .z) (Ent.tak (.s .z) (Ent.tak (.s .z) (Ent.tak (.s .z) (Ent.tak (.s .z) (Ent.refl _)))))
      · rw [if_neg hpk] at hrow ⊢
        simp only [Option.getD_none]
        repeat' (first | ((refine e_op ?_); (refine o_n (peval_sound rfl) rfl ?_)) | refine s_seq ?_ | refine s_region ?_)
        refine e_op (o_n (n_neqP Tryz.underlying85 (by kernel_rfl) rfl rfl) rfl ?_)
        refine e_nil ?_
        refine s_false rfl ?_
        refine s_skip ?_
        repeat' (first | refine e_nil ?_ | ((refine e_op ?_); (refine o_n (peval_sound rfl) rfl ?_)) | refine s_region ?_ | refine s_end ?_)
        refine s_back ⟨⟨(k + 1, d ++ [(none, 0)]), by simp only; omega, by simp [hd]⟩, by simp only; omega, ?_, ?_⟩
        · repeat' (first | exact Sub.nil _ | refine Sub.cons rfl ?_ | refine Sub.consE rfl ?_ ?_)
          exact inc (i := k) (by omega)
        · simp only
          rw [YR_succ, rowC_snoc hdy, hrow, show g.Prods.length - k = (g.Prods.length - (k + 1)) + 1 by omega, List.replicate_succ, List.append_cons]
          refine Ent.trans (Ent.wk (Ent.refl _)) (Ent.cons ?_)
          refine Ent.trans ?_ (Ent.trans (ent_bsnoc (ac := (none, 0)) (r := ([] : List Bool)) hdy) (Ent.refl _))
          exact Ent.osl0 (Ent.refl _)
    · rw [decide_eq_false (p := (k : Int) < (g.Prods.length : Int)) (by omega)]
      obtain rfl : k = g.Prods.length := by omega
      repeat' (first | refine e_nil ?_ | ((refine e_op ?_); (refine o_n (peval_sound rfl) rfl ?_)) | refine s_region ?_ | refine s_end ?_ | refine s_exit ?_ | refine s_false rfl ?_ | refine x_hit ?_ | refine x_code ?_ | refine x_back ?_)
      have e70 : osl 39 1 (.slice (some ⟨bR, 0, none⟩) g.Prods.length g.Prods.length) g.Prods.length (rowC d (YR g s g.Prods.length)) = rowA (fun l : List Value => l) 1 39 (some ⟨bR, 0, none⟩, g.Prods.length) (rowC d (YR g s g.Prods.length)) := by
        show _ = osl 39 1 (.slice _ (rowC d (YR g s g.Prods.length)).length _) (rowC d (YR g s g.Prods.length)).length _
        rw [hdc]
      have hDX : D.length = (XR g s).length := by rw [XR_len]; exact hD
      refine s_back ⟨⟨(s + 1, acs2 ++ [(some ⟨bR, 0, none⟩, g.Prods.length)], D ++ [d]), by simp only; omega, by simp [ha], by simp [hD], fun x hx => ?_⟩, by simp only; omega, ?_, ?_⟩
      · rcases List.mem_append.1 hx with hx | hx
        · exact hDl x hx
        · rw [List.mem_singleton] at hx; subst hx; exact hd
      · repeat' (first | exact Sub.nil _ | refine Sub.cons rfl ?_ | refine Sub.consE rfl ?_ ?_)
        exact inc (i := s) (by omega)
      · simp only
        have hR : rowO (acs2 ++ [(some ⟨bR, 0, none⟩, g.Prods.length)]) (D ++ [d]) (XR g s ++ [YR g s g.Prods.length]) = bun (rowX (fun l : List Value => l) 1 39 (acs2 ++ [(some ⟨bR, 0, none⟩, g.Prods.length)]) (rowVs D (XR g s) ++ [rowC d (YR g s g.Prods.length)])) := by
          show bun (rowX _ 1 39 _ (rowVs _ _)) = _
          rw [rowVs_snoc hDX]
        rw [XR_succ, hR, rowVs_snoc hDX, innB_snoc hDX, Go.Proofs.YtcnpjhaedjncdaaGreatDoor.E.rowC_snoc (acs := acs2) (rows := rowVs D (XR g s)) (ac := (some ⟨bR, 0, none⟩, g.Prods.length)) (r := rowC d (YR g s g.Prods.length)) (by rw [hvl]; exact ha), hdc, ← hOC, Nat.sub_self, List.replicate_zero, List.append_nil, e70]
        refine Ent.tak (.s (.s .z)) ?_
        refine Ent.trans (Ent.cons (Ent.tak (.s .z) (Ent.refl _))) ?_
        refine Ent.trans (ent_bsnoc (by rw [hvl]; exact ha)) (Ent.cons ?_)
        exact ent_bunSnoc
  · rw [decide_eq_false (p := (s : Int) < ((lrKs g).length : Int)) (by omega)]
    obtain rfl : s = (lrKs g).length := by omega
    repeat' (first | refine e_nil ?_ | ((refine e_op ?_); (refine o_n (peval_sound rfl) rfl ?_)) | refine s_seq ?_ | refine s_region ?_ | refine s_exit ?_ | refine s_false rfl ?_ | refine x_hit ?_ | refine x_code ?_ | refine x_back ?_)
    rw [h0, laX_ok h0, Nat.sub_self, List.replicate_zero, List.append_nil]
    refine s_ret ⟨_, _, res2 rfl rfl rfl, ⟨some ⟨bX, 0, none⟩, (lrKs g).length, (lrKs g).length, acs2, D, rfl, ⟨by rw [XR_len], by rw [XR_len]; exact ha, by rw [XR_len]; exact hD, fun i h1 h2 => ?_, rfl⟩⟩, ?_⟩
    · rw [XR_get h2, YR_len]; exact hDl _ (List.getElem_mem h1)
    · exact Ent.cons (Ent.cons (Ent.cons (Ent.nil _)))

end Go.Proofs.YtcnpjhaedjncdaaGreatDoor

namespace Go.Proofs.YtcnpjhaedjncdaaGreatDoor
set_option linter.all false
open Go.Proofs.YtcnpjhaedjncdaaGreatDoor.E

theorem round_inv {g : Gram} {KS : List (List Itm)} {GS : List (List Int)} (hF : GoF g KS GS) {st : Stt} (hi : GInv g KS st) {p : Plc} (hp : st.td.getLast? = some p) :
    GInv g KS (roundG g GS (restB g) (restN g) st p) ∧ meas (univ g KS) (roundG g GS (restB g) (restN g) st p) + 1 ≤ meas (univ g KS) st := by
  obtain ⟨ys, hys⟩ := List.getLast?_eq_some_iff.1 hp
  have hmem : p ∈ st.td := by rw [hys]; simp
  have hne : st.td ≠ [] := fun e => by rw [e] at hmem; cases hmem
  have hm := meas_pop (u := univ g KS) hne
  have hip := hi.pop
  have hvp := hi.vp p (hi.ok.td p hmem)
  unfold roundG
  split
  · exact ⟨hip, by omega⟩
  · rename_i hd
    obtain ⟨_, _, _, _, _, _, _, hvn⟩ := hvp.next hF hd
    have h1 := hip.add hvn (getB st.ks st.bs p)
    have h2 := meas_add hip.ok hvn.mem (getB st.ks st.bs p)
    split
    · exact ⟨h1, by omega⟩
    · obtain ⟨h3, h4⟩ := prodsAdd_inv hF hvp (comb (restB g p.x) (getB st.ks st.bs p) (restN g p.x)) h1 g.Prods.length (Nat.le_refl _)
      exact ⟨h3, by omega⟩

theorem step_end {g : Gram} {KS : List (List Itm)} {GS : List (List Int)} (hF : GoF g KS GS) : ∀ (m : Nat) {st : Stt}, GInv g KS st → meas (univ g KS) st ≤ m → (stepN g GS (restB g) (restN g) m st).td = []
  | 0, st, _, h => by
    have : st.td.length = 0 := by unfold meas at h; omega
    exact List.eq_nil_of_length_eq_zero this
  | m + 1, st, hi, h => by
    show (stepN g GS (restB g) (restN g) m (stepG g GS (restB g) (restN g) st)).td = []
    unfold stepG
    cases hl : st.td.getLast? with
    | none =>
      have : st.td = [] := List.getLast?_eq_none_iff.1 hl
      exact (by rw [stepN_done this]; exact this)
    | some p =>
      obtain ⟨h1, h2⟩ := round_inv hF hi hl
      show (stepN g GS (restB g) (restN g) m (roundG g GS (restB g) (restN g) st p)).td = []
      exact step_end hF m h1 (by omega)

theorem la_fin {g : Gram} (h : lrE g = 0) : ∃ n, (laN g n).td = [] := by
  have hF := goF h
  exact ⟨_, step_end hF (meas (univ g (lrKs g)) la0) (ginv0 hF) (Nat.le_refl _)⟩

theorem zer_get (t : Nat) : zer.getD t false = false := by
  unfold zer
  rw [List.getD_eq_getElem?_getD]
  cases h : (List.replicate 48 false)[t]? with
  | none => rfl
  | some b => have := List.mem_of_getElem? h; rw [List.mem_replicate] at this; rw [this.2]; rfl

/-- Terms behind whole productions. -/
theorem laRow_bit {g : Gram} (h : lrE g = 0) {s k a : Nat} : (laRow g s k).getD a false = true ↔ a < g.Terms.length ∧ LA g (lrGs g) ⟨s, ⟨k, (prd g k).Right.length⟩⟩ a := by
  obtain ⟨n, hn⟩ := la_fin h
  have hT := (goF h).lim.t
  have he := la_end hT hn (p := ⟨s, ⟨k, (prd g k).Right.length⟩⟩) (t := a)
  unfold laRow
  rw [laFin_eq hn, ← he]
  unfold bit
  split
  · rename_i hp
    rw [List.getD_eq_getElem?_getD, List.getElem?_take]
    split
    · rename_i ha; rw [← List.getD_eq_getElem?_getD]; simp [ha]
    · rename_i ha; simp [ha]
  · rename_i hp
    have : getB (laN g n).ks (laN g n).bs ⟨s, ⟨k, (prd g k).Right.length⟩⟩ = zer := by unfold getB; rw [if_neg hp]
    rw [this, zer_get]
    simp

theorem laRow_len {g : Gram} (h : lrE g = 0) (s k : Nat) : (laRow g s k).length = g.Terms.length ∨ laRow g s k = [] := by
  obtain ⟨n, hn⟩ := la_fin h
  have hT := (goF h).lim.t
  have hw := whole_N hT n (whole0 g (lrGs g))
  unfold laRow
  rw [laFin_eq hn]
  split
  · refine .inl ?_
    rw [List.length_take, getB_len (ks := (laN g n).ks) (bs := (laN g n).bs) hw.ok.l48]; omega
  · exact .inr rfl

end Go.Proofs.YtcnpjhaedjncdaaGreatDoor

namespace Go.Proofs.YtcnpjhaedjncdaaGreatDoor
set_option linter.all false

structure GrOk (g : Gram) : Prop where
  t48 : g.Terms.length ≤ 48
  n48 : g.Nons.length ≤ 48
  n2 : 2 ≤ g.Nons.length
  bs : BsOk g.Terms.length g.Nons.length g.Prods
  inv : BInv g.Terms.length g.Nons.length (bFix g)

theorem gOk {g : Gram} (h : checkE g = 0) : GrOk g := by
  obtain ⟨hl, hw⟩ := wf0_of h
  obtain ⟨h1, h2, _⟩ := lim_n hl
  exact ⟨h1, h2, hw.n, bsOk_of hw, bFix_inv (bsOk_of hw).nat⟩

theorem orP_get0 {r te : List Bool} {i : Nat} (h : i < r.length) : (orL r te)[i]? = some (r.getD i false || te.getD i false) := by
  unfold orL
  rw [orP_get h, decide_eq_true h, Bool.true_and]
  congr 2
  rw [List.getD_eq_getElem?_getD, List.getElem?_eq_getElem h]; rfl

theorem orL_getD {r te : List Bool} (i : Nat) (hl : te.length = r.length) : (orL r te).getD i false = (r.getD i false || te.getD i false) := by
  by_cases h : i < r.length
  · rw [List.getD_eq_getElem?_getD, orP_get0 h]; rfl
  · have h1 : (orL r te)[i]? = none := List.getElem?_eq_none (by rw [orL_len]; omega)
    have h2 : r[i]? = none := List.getElem?_eq_none (by omega)
    have h3 : te[i]? = none := List.getElem?_eq_none (by omega)
    simp only [List.getD_eq_getElem?_getD, h1, h2, h3]; rfl

theorem ext_getD {a b : List Bool} (hl : a.length = b.length) (h : ∀ i, i < a.length → a.getD i false = b.getD i false) : a = b := by
  apply List.ext_getElem hl
  intro i h1 h2
  have := h i h1
  rw [List.getD_eq_getElem?_getD, List.getD_eq_getElem?_getD, List.getElem?_eq_getElem h1, List.getElem?_eq_getElem h2] at this
  exact this

theorem orL_assoc {a b c : List Bool} (h1 : b.length = a.length) (h2 : c.length = a.length) : orL (orL a b) c = orL a (orL b c) := by
  refine ext_getD (by simp [orL_len]) fun i _ => ?_
  rw [orL_getD _ (by rw [orL_len]; exact h2), orL_getD _ h1, orL_getD _ (by rw [orL_len]; exact h1), orL_getD _ (by omega), Bool.or_assoc]

theorem orL_zero {a : List Bool} {t : Nat} (h : a.length = t) : orL a (List.replicate t false) = a := by
  refine ext_getD (orL_len _ _) fun i _ => ?_
  rw [orL_getD _ (by simp [h])]
  have : (List.replicate t false).getD i false = false := by
    rw [List.getD_eq_getElem?_getD, List.getElem?_replicate]; split <;> rfl
  rw [this, Bool.or_false]

theorem zero_orL {a : List Bool} {t : Nat} (h : a.length = t) : orL (List.replicate t false) a = a := by
  refine ext_getD (by rw [orL_len]; simp [h]) fun i _ => ?_
  rw [orL_getD _ (by simp [h])]
  have : (List.replicate t false).getD i false = false := by
    rw [List.getD_eq_getElem?_getD, List.getElem?_replicate]; split <;> rfl
  rw [this, Bool.false_or]

theorem getD_set {a : List Bool} (k i : Nat) (hi : i < a.length) : (a.set k true).getD i false = (decide (k = i) || a.getD i false) := by
  rw [List.getD_eq_getElem?_getD, List.getElem?_set, List.getD_eq_getElem?_getD]
  by_cases h : k = i
  · subst h; rw [if_pos rfl, if_pos hi]; simp
  · rw [if_neg h]; simp [h]

theorem rowS_acc {t n : Nat} {s : BSt} (hs : BInv t n s) : ∀ (l : List Int) (_ : ∀ x ∈ l, x < (t : Int) + n) (acc : List Bool), acc.length = t →
    rowS t s.1 s.2 l acc = (orL acc (rowS t s.1 s.2 l (List.replicate t false)).1, (rowS t s.1 s.2 l (List.replicate t false)).2)
  | [], _, acc, ha => by
    unfold rowS
    rw [orL_zero ha]
  | x :: l, hx, acc, ha => by
    have hxl := hx x (List.mem_cons_self ..)
    have ih := rowS_acc hs l (fun y hy => hx y (List.mem_cons_of_mem _ hy))
    unfold rowS
    by_cases hxt : x < (t : Int)
    · rw [if_pos hxt, if_pos hxt]
      congr 1
      refine ext_getD (by simp [orL_len]) fun i hi => ?_
      have hi' : i < acc.length := by simpa using hi
      rw [orL_getD _ (by simp [ha]), getD_set _ _ hi', getD_set _ _ (by simp; omega)]
      have : (List.replicate t false).getD i false = false := by
        rw [List.getD_eq_getElem?_getD, List.getElem?_replicate]; split <;> rfl
      rw [this, Bool.or_false, Bool.or_comm]
    · rw [if_neg hxt, if_neg hxt]
      have hf : (s.2.getD (x - t).toNat []).length = t := hs.row (by omega)
      generalize s.2.getD (x - t).toNat [] = f at hf
      have e1 : orL acc f = orL acc (orL (List.replicate t false) f) := by rw [zero_orL hf]
      split
      · rw [ih (orL acc f) (by rw [orL_len]; exact ha), ih (orL (List.replicate t false) f) (by simp [orL_len])]
        simp only
        congr 1
        have hr : (rowS t s.1 s.2 l (List.replicate t false)).1.length = t := by rw [rowS_len]; simp
        rw [zero_orL hf, orL_assoc (by omega) (by omega)]
      · rw [e1]

theorem rowS_cons {t : Nat} {no : List Bool} {fi : List (List Bool)} (s : Int) (l : List Int) (acc : List Bool) : rowS t no fi (s :: l) acc =
    if s < (t : Int) then (acc.set s.toNat true, false)
    else if no.getD (s - t).toNat false then rowS t no fi l (orL acc (fi.getD (s - t).toNat [])) else (orL acc (fi.getD (s - t).toNat []), false) := rfl

theorem rowS_append {t : Nat} {no : List Bool} {fi : List (List Bool)} (y : List Int) : ∀ (x : List Int) (acc : List Bool),
    rowS t no fi (x ++ y) acc = if (rowS t no fi x acc).2 then rowS t no fi y (rowS t no fi x acc).1 else rowS t no fi x acc
  | [], acc => by simp [rowS]
  | s :: x, acc => by
    rw [List.cons_append, rowS_cons, rowS_cons]
    split
    · simp
    · split
      · exact rowS_append y x _
      · simp

theorem rowT_append {t n : Nat} {s : BSt} (hs : BInv t n s) {x y : List Int} (hy : ∀ a ∈ y, a < (t : Int) + n) :
    rowT t s (x ++ y) = (if (rowT t s x).2 then orL (rowT t s x).1 (rowT t s y).1 else (rowT t s x).1, (rowT t s x).2 && (rowT t s y).2) := by
  unfold rowT
  rw [rowS_append]
  have hl : (rowS t s.1 s.2 x (List.replicate t false)).1.length = t := by rw [rowS_len]; simp
  cases h : (rowS t s.1 s.2 x (List.replicate t false)).2 with
  | true => rw [if_pos rfl, rowS_acc hs y hy _ hl]; rfl
  | false =>
    simp only [Bool.false_eq_true, if_false, Bool.false_and]
    exact Prod.ext rfl h


end Go.Proofs.YtcnpjhaedjncdaaGreatDoor

namespace Go.Proofs.YtcnpjhaedjncdaaGreatDoor
set_option linter.all false

/-- Of two states of knowledge the second knows all of the first. -/
structure Le (s u : BSt) : Prop where
  no : ∀ n, s.1.getD n false = true → u.1.getD n false = true
  fi : ∀ n x, (s.2.getD n []).getD x false = true → (u.2.getD n []).getD x false = true

theorem Le.refl (s : BSt) : Le s s := ⟨fun _ h => h, fun _ _ h => h⟩

theorem orL_true {r te : List Bool} {i : Nat} (hl : te.length = r.length) (h : (orL r te).getD i false = true) : r.getD i false = true ∨ te.getD i false = true := by
  rw [orL_getD _ hl] at h
  simpa using h

theorem getD_set_true {a : List Bool} {k i : Nat} (h : (a.set k true).getD i false = true) : (k = i ∧ i < a.length) ∨ a.getD i false = true := by
  rw [List.getD_eq_getElem?_getD, List.getElem?_set] at h
  by_cases hk : k = i
  · subst hk
    by_cases hl : k < a.length
    · exact .inl ⟨rfl, hl⟩
    · rw [if_pos rfl, if_neg hl] at h; simp at h
  · rw [if_neg hk] at h
    exact .inr (by rw [List.getD_eq_getElem?_getD]; exact h)

theorem rowS_le {t n : Nat} {s u : BSt} (hs : BInv t n s) (hu : BInv t n u) (hle : Le s u) : ∀ (l : List Int) (_ : ∀ x ∈ l, x < (t : Int) + n) (a b : List Bool), a.length = t → b.length = t → (∀ i, a.getD i false = true → b.getD i false = true) →
    ((rowS t s.1 s.2 l a).2 = true → (rowS t u.1 u.2 l b).2 = true) ∧ ∀ i, (rowS t s.1 s.2 l a).1.getD i false = true → (rowS t u.1 u.2 l b).1.getD i false = true
  | [], _, a, b, _, _, h => ⟨fun _ => rfl, h⟩
  | x :: l, hx, a, b, ha, hb, h => by
    have hxl := hx x (List.mem_cons_self ..)
    have hx' : ∀ y ∈ l, y < (t : Int) + n := fun y hy => hx y (List.mem_cons_of_mem _ hy)
    rw [rowS_cons, rowS_cons]
    by_cases hxt : x < (t : Int)
    · rw [if_pos hxt, if_pos hxt]
      refine ⟨(by intro h; cases h), fun i hi => ?_⟩
      simp only at hi ⊢
      rcases getD_set_true hi with ⟨h1, h2⟩ | h1
      · rw [getD_set _ _ (by omega)]; simp [h1]
      · have hi2 : i < b.length := by
          rcases Nat.lt_or_ge i b.length with h | h2
          · exact h
          · have := h i h1
            rw [List.getD_eq_getElem?_getD, List.getElem?_eq_none h2] at this; simp at this
        rw [getD_set _ _ hi2, h i h1, Bool.or_true]
    · rw [if_neg hxt, if_neg hxt]
      have hfs : (s.2.getD (x - t).toNat []).length = t := hs.row (by omega)
      have hfu : (u.2.getD (x - t).toNat []).length = t := hu.row (by omega)
      have hor : ∀ i, (orL a (s.2.getD (x - t).toNat [])).getD i false = true → (orL b (u.2.getD (x - t).toNat [])).getD i false = true := by
        intro i hi
        rw [orL_getD _ (by omega)]
        rcases orL_true (by omega) hi with h1 | h1
        · rw [h i h1]; rfl
        · rw [hle.fi _ _ h1, Bool.or_true]
      cases hno : s.1.getD (x - t).toNat false with
      | true =>
        rw [if_pos rfl, hle.no _ hno, if_pos rfl]
        exact rowS_le hs hu hle l hx' _ _ (by rw [orL_len]; exact ha) (by rw [orL_len]; exact hb) hor
      | false =>
        simp only [Bool.false_eq_true, if_false]
        refine ⟨(by intro h; cases h), fun i hi => ?_⟩
        have h1 := hor i hi
        split
        · have h2 := rowS_acc hu l hx' (orL b (u.2.getD (x - t).toNat [])) (by rw [orL_len]; exact hb)
          rw [h2]
          simp only
          rw [orL_getD _ (by rw [rowS_len, orL_len]; simp [hb]), h1]; rfl
        · exact h1

theorem rowT_le {t n : Nat} {s u : BSt} (hs : BInv t n s) (hu : BInv t n u) (hle : Le s u) {l : List Int} (hx : ∀ x ∈ l, x < (t : Int) + n) :
    ((rowT t s l).2 = true → (rowT t u l).2 = true) ∧ ∀ i, (rowT t s l).1.getD i false = true → (rowT t u l).1.getD i false = true :=
  rowS_le hs hu hle l hx _ _ (by simp) (by simp) (fun _ h => h)

/-- A production's part, with what is known of a state that stays. -/
def gStep (t : Nat) (s A : BSt) (p : Prd) : BSt := (if (rowT t s p.Right).2 then A.1.set p.Left.toNat true else A.1, A.2.set p.Left.toNat (orL (A.2.getD p.Left.toNat []) (rowT t s p.Right).1))
def gAll (t : Nat) (s : BSt) (ps : List Prd) (A : BSt) : BSt := ps.foldl (gStep t s) A

theorem gStep_self (t n : Nat) (s : BSt) (hs : BInv t n s) (p : Prd) (hp : p.Left.toNat < n) : gStep t s s p = bStep t s p := by
  unfold gStep bStep bNo bFi orL
  rw [hs.row hp]

theorem gStep_inv {t n : Nat} {s A : BSt} (hA : BInv t n A) (p : Prd) (hp : p.Left.toNat < n) : BInv t n (gStep t s A p) := by
  refine ⟨?_, ?_, ?_⟩
  · unfold gStep; simp only; split
    · rw [List.length_set]; exact hA.no
    · exact hA.no
  · unfold gStep; simp only [List.length_set]; exact hA.fi
  · intro r hr
    unfold gStep at hr
    rcases List.mem_or_eq_of_mem_set hr with h | h
    · exact hA.rows r h
    · rw [h, orL_len]; exact hA.row hp

theorem gAll_inv {t n : Nat} {s : BSt} : ∀ (ps : List Prd) (_ : ∀ p ∈ ps, p.Left.toNat < n) (A : BSt), BInv t n A → BInv t n (gAll t s ps A)
  | [], _, _, h => h
  | p :: ps, hp, A, h => gAll_inv ps (fun q hq => hp q (List.mem_cons_of_mem _ hq)) (gStep t s A p) (gStep_inv h p (hp p (List.mem_cons_self ..)))

theorem getD_set_list {l : List (List Bool)} (k n : Nat) (r : List Bool) (hk : k < l.length) : (l.set k r).getD n [] = if k = n then r else l.getD n [] := by
  rw [List.getD_eq_getElem?_getD, List.getElem?_set, List.getD_eq_getElem?_getD]
  by_cases h : k = n
  · rw [if_pos h, if_pos h, if_pos hk]; rfl
  · rw [if_neg h, if_neg h]

/-- What a step makes known: what was known, and the production's part. -/
theorem gStep_get {t n : Nat} {s A : BSt} (hA : BInv t n A) (p : Prd) (hp : p.Left.toNat < n) :
    (∀ k, (gStep t s A p).1.getD k false = (A.1.getD k false || (decide (p.Left.toNat = k) && (rowT t s p.Right).2))) ∧
    ∀ k x, ((gStep t s A p).2.getD k []).getD x false = ((A.2.getD k []).getD x false || (decide (p.Left.toNat = k) && (rowT t s p.Right).1.getD x false)) := by
  constructor
  · intro k
    unfold gStep
    simp only
    cases h : (rowT t s p.Right).2 with
    | false => simp
    | true =>
      rw [if_pos rfl]
      by_cases hk : k < A.1.length
      · rw [getD_set _ _ hk]; simp [Bool.or_comm]
      · have h1 : (A.1.set p.Left.toNat true)[k]? = none := List.getElem?_eq_none (by rw [List.length_set]; omega)
        have h2 : A.1[k]? = none := List.getElem?_eq_none (by omega)
        have h3 : ¬ p.Left.toNat = k := by have := hA.no; omega
        simp [List.getD_eq_getElem?_getD, h1, h2, h3]
  · intro k x
    unfold gStep
    simp only
    rw [getD_set_list _ _ _ (by rw [hA.fi]; exact hp)]
    by_cases h : p.Left.toNat = k
    · subst h
      rw [if_pos rfl, orL_getD _ (by rw [rowT_len, hA.row hp])]; simp
    · rw [if_neg h]; simp [h]

theorem Le.of_gStep {t n : Nat} {s A : BSt} (hA : BInv t n A) (p : Prd) (hp : p.Left.toNat < n) : Le A (gStep t s A p) := by
  obtain ⟨h1, h2⟩ := gStep_get (s := s) hA p hp
  exact ⟨fun k h => by rw [h1, h]; rfl, fun k x h => by rw [h2, h]; rfl⟩

theorem Le.trans {a b c : BSt} (h : Le a b) (h' : Le b c) : Le a c := ⟨fun n x => h'.no n (h.no n x), fun n x y => h'.fi n x (h.fi n x y)⟩

/-- The part of each production is in all of it. -/
theorem gAll_part {t n : Nat} {s : BSt} : ∀ (ps : List Prd) (_ : ∀ p ∈ ps, p.Left.toNat < n) (A : BSt), BInv t n A →
    Le A (gAll t s ps A) ∧ ∀ p ∈ ps, ((rowT t s p.Right).2 = true → (gAll t s ps A).1.getD p.Left.toNat false = true) ∧ ∀ x, (rowT t s p.Right).1.getD x false = true → ((gAll t s ps A).2.getD p.Left.toNat []).getD x false = true
  | [], _, A, _ => ⟨Le.refl _, (by intro p hp; cases hp)⟩
  | q :: ps, hp, A, hA => by
    have hq := hp q (List.mem_cons_self ..)
    obtain ⟨h1, h2⟩ := gAll_part (s := s) ps (fun p hp' => hp p (List.mem_cons_of_mem _ hp')) (gStep t s A q) (gStep_inv hA q hq)
    obtain ⟨g1, g2⟩ := gStep_get (s := s) hA q hq
    refine ⟨(Le.of_gStep hA q hq).trans h1, fun p hp' => ?_⟩
    rcases List.mem_cons.1 hp' with rfl | hp'
    · exact ⟨fun h => h1.no _ (by rw [g1, h]; simp), fun x h => h1.fi _ _ (by rw [g2, h]; simp)⟩
    · exact h2 p hp'

theorem gAll_le {t n : Nat} {s u : BSt} : ∀ (ps : List Prd) (_ : ∀ p ∈ ps, p.Left.toNat < n) (A : BSt), BInv t n A → Le A u →
    (∀ p ∈ ps, ((rowT t s p.Right).2 = true → u.1.getD p.Left.toNat false = true) ∧ ∀ x, (rowT t s p.Right).1.getD x false = true → (u.2.getD p.Left.toNat []).getD x false = true) → Le (gAll t s ps A) u
  | [], _, _, _, h, _ => h
  | q :: ps, hp, A, hA, h, hq => by
    have hq' := hp q (List.mem_cons_self ..)
    obtain ⟨g1, g2⟩ := gStep_get (s := s) hA q hq'
    obtain ⟨u1, u2⟩ := hq q (List.mem_cons_self ..)
    refine gAll_le ps (fun p hp' => hp p (List.mem_cons_of_mem _ hp')) (gStep t s A q) (gStep_inv hA q hq') ⟨fun k hk => ?_, fun k x hk => ?_⟩ (fun p hp' => hq p (List.mem_cons_of_mem _ hp'))
    · rw [g1] at hk
      simp only [Bool.or_eq_true, Bool.and_eq_true, decide_eq_true_eq] at hk
      rcases hk with hk | ⟨rfl, hk⟩
      · exact h.no _ hk
      · exact u1 hk
    · rw [g2] at hk
      simp only [Bool.or_eq_true, Bool.and_eq_true, decide_eq_true_eq] at hk
      rcases hk with hk | ⟨rfl, hk⟩
      · exact h.fi _ _ hk
      · exact u2 _ hk

theorem bStep_of_fix {t n : Nat} : ∀ (ps : List Prd) (_ : ∀ p ∈ ps, p.Left.toNat < n) (s : BSt), BInv t n s → bRound t ps s = s → ∀ p ∈ ps, bStep t s p = s
  | [], _, _, _, _ => fun p hp => by cases hp
  | q :: ps, hp, s, hs, h => by
    have hq := hp q (List.mem_cons_self ..)
    have hps : ∀ p ∈ ps, p.Left.toNat < n := fun p hp' => hp p (List.mem_cons_of_mem _ hp')
    have e : bStep t s q = s := by
      rcases bPart_cnt hs q hq (Nat.le_refl t) with h1 | h1
      · exact h1
      · have h2 : bRound t ps (bStep t s q) = s := h
        have h1' : cntS s < cntS (bStep t s q) := h1
        rcases bRound_cnt ps hps (bStep t s q) (bStep_inv hs q hq) with h3 | h3
        · rw [h2] at h3; rw [← h3] at h1'; omega
        · rw [h2] at h3; omega
    intro p hp'
    rcases List.mem_cons.1 hp' with rfl | hp'
    · exact e
    · refine bStep_of_fix ps hps s hs ?_ p hp'
      have h2 : bRound t ps (bStep t s q) = s := h
      rwa [e] at h2

theorem Le.antisymm {t n : Nat} {s u : BSt} (hs : BInv t n s) (hu : BInv t n u) (h : Le s u) (h' : Le u s) : s = u := by
  have hb : ∀ a b : Bool, (a = true → b = true) → (b = true → a = true) → a = b := by decide
  apply Prod.ext
  · exact ext_getD (by rw [hs.no, hu.no]) fun i _ => hb _ _ (h.no i) (h'.no i)
  · apply List.ext_getElem (by rw [hs.fi, hu.fi])
    intro i h1 h2
    refine ext_getD (by rw [hs.rows _ (List.getElem_mem h1), hu.rows _ (List.getElem_mem h2)]) fun x _ => ?_
    have e1 : s.2.getD i [] = s.2[i] := by rw [List.getD_eq_getElem?_getD, List.getElem?_eq_getElem h1]; rfl
    have e2 : u.2.getD i [] = u.2[i] := by rw [List.getD_eq_getElem?_getD, List.getElem?_eq_getElem h2]; rfl
    rw [← e1, ← e2]
    exact hb _ _ (h.fi i x) (h'.fi i x)

/-- All that is known at the end is known of some production, and the other way round. -/
theorem gAll_fix {g : Gram} (he : checkE g = 0) : gAll g.Terms.length (bFix g) g.Prods (bInit g.Terms.length g.Nons.length) = bFix g := by
  have hok := gOk he
  have hnat := hok.bs.nat
  have hF := hok.inv
  have hI := bInit_inv g.Terms.length g.Nons.length
  have hfix := bFix_fix hnat
  have hpart : ∀ p ∈ g.Prods, ((rowT g.Terms.length (bFix g) p.Right).2 = true → (bFix g).1.getD p.Left.toNat false = true) ∧ ∀ x, (rowT g.Terms.length (bFix g) p.Right).1.getD x false = true → ((bFix g).2.getD p.Left.toNat []).getD x false = true := by
    intro p hp
    have h1 := bStep_of_fix g.Prods hnat (bFix g) hF hfix p hp
    rw [← gStep_self _ _ _ hF p (hnat p hp)] at h1
    obtain ⟨g1, g2⟩ := gStep_get (s := bFix g) hF p (hnat p hp)
    rw [h1] at g1 g2
    exact ⟨fun h => by rw [g1, h]; simp, fun x h => by rw [g2, h]; simp⟩
  have hbot : ∀ u, Le (bInit g.Terms.length g.Nons.length) u := fun u => ⟨fun n h => by
    unfold bInit at h
    simp only [List.getD_eq_getElem?_getD, List.getElem?_replicate] at h
    split at h <;> simp at h, fun n x h => by
    unfold bInit at h
    simp only [List.getD_eq_getElem?_getD, List.getElem?_replicate] at h
    split at h
    · simp only [Option.getD_some, List.getElem?_replicate] at h
      split at h <;> simp at h
    · simp at h⟩
  have hG := gAll_inv (s := bFix g) g.Prods hnat _ hI
  refine Le.antisymm hG hF (gAll_le g.Prods hnat _ hI (hbot _) hpart) ?_
  obtain ⟨_, hin⟩ := gAll_part (s := bFix g) g.Prods hnat _ hI
  have hround : ∀ (ps : List Prd), (∀ p ∈ ps, p ∈ g.Prods) → ∀ s, BInv g.Terms.length g.Nons.length s → Le s (bFix g) → Le s (gAll g.Terms.length (bFix g) g.Prods (bInit g.Terms.length g.Nons.length)) →
      BInv g.Terms.length g.Nons.length (bRound g.Terms.length ps s) ∧ Le (bRound g.Terms.length ps s) (bFix g) ∧ Le (bRound g.Terms.length ps s) (gAll g.Terms.length (bFix g) g.Prods (bInit g.Terms.length g.Nons.length)) := by
    intro ps
    induction ps with
    | nil => intro _ s h1 h2 h3; exact ⟨h1, h2, h3⟩
    | cons q ps ih =>
      intro hsub s h1 h2 h3
      have hq := hsub q (List.mem_cons_self ..)
      have hqn := hnat q hq
      have hqr : ∀ x ∈ q.Right, x < (g.Terms.length : Int) + g.Nons.length := by
        obtain ⟨i, hi, rfl⟩ := List.getElem_of_mem hq
        exact fun x hx => (hok.bs.right i hi x hx).2
      obtain ⟨r1, r2⟩ := rowT_le h1 hF h2 hqr
      have hstep := gStep_self _ _ _ h1 q hqn
      obtain ⟨g1, g2⟩ := gStep_get (s := s) h1 q hqn
      rw [hstep] at g1 g2
      refine ih (fun p hp => hsub p (List.mem_cons_of_mem _ hp)) (bStep g.Terms.length s q) (bStep_inv h1 q hqn) ⟨fun k hk => ?_, fun k x hk => ?_⟩ ⟨fun k hk => ?_, fun k x hk => ?_⟩
      · rw [g1] at hk
        simp only [Bool.or_eq_true, Bool.and_eq_true, decide_eq_true_eq] at hk
        rcases hk with hk | ⟨rfl, hk⟩
        · exact h2.no _ hk
        · exact (hpart q hq).1 (r1 hk)
      · rw [g2] at hk
        simp only [Bool.or_eq_true, Bool.and_eq_true, decide_eq_true_eq] at hk
        rcases hk with hk | ⟨rfl, hk⟩
        · exact h2.fi _ _ hk
        · exact (hpart q hq).2 _ (r2 _ hk)
      · rw [g1] at hk
        simp only [Bool.or_eq_true, Bool.and_eq_true, decide_eq_true_eq] at hk
        rcases hk with hk | ⟨rfl, hk⟩
        · exact h3.no _ hk
        · exact (hin q hq).1 (r1 hk)
      · rw [g2] at hk
        simp only [Bool.or_eq_true, Bool.and_eq_true, decide_eq_true_eq] at hk
        rcases hk with hk | ⟨rfl, hk⟩
        · exact h3.fi _ _ hk
        · exact (hin q hq).2 _ (r2 _ hk)
  unfold bFix
  exact (it_inv (I := fun s => BInv g.Terms.length g.Nons.length s ∧ Le s (bFix g) ∧ Le s (gAll g.Terms.length (bFix g) g.Prods (bInit g.Terms.length g.Nons.length)))
    (fun s ⟨h1, h2, h3⟩ => hround g.Prods (fun _ h => h) s h1 h2 h3) ⟨hI, hbot _, hbot _⟩ _).2.2

/-- A production's part is known of its name. -/
theorem part_known {g : Gram} (he : checkE g = 0) (p : Prd) (hp : p ∈ g.Prods) :
    ((rowT g.Terms.length (bFix g) p.Right).2 = true → (bFix g).1.getD p.Left.toNat false = true) ∧ ∀ x, (rowT g.Terms.length (bFix g) p.Right).1.getD x false = true → ((bFix g).2.getD p.Left.toNat []).getD x false = true := by
  have hok := gOk he
  have h := (gAll_part (s := bFix g) g.Prods hok.bs.nat _ (bInit_inv g.Terms.length g.Nons.length)).2 p hp
  rwa [gAll_fix he] at h

end Go.Proofs.YtcnpjhaedjncdaaGreatDoor

namespace Go.Proofs.YtcnpjhaedjncdaaGreatDoor
set_option linter.all false
open Go.Proofs.YtcnpjhaedjncdaaGreatDoor.E

theorem rowOne {t n : Nat} {s : BSt} (hs : BInv t n s) {k : Nat} (hk : k < n) : rowT t s [(t : Int) + k] = (s.2.getD k [], s.1.getD k false) := by
  unfold rowT
  rw [rowS_cons, if_neg (by omega)]
  have e : ((t : Int) + k - t).toNat = k := by omega
  rw [e, zero_orL (hs.row hk)]
  cases s.1.getD k false <;> rfl

theorem rowTerm {t : Nat} {s : BSt} {x : Int} (h0 : 0 ≤ x) (h1 : x < t) : (rowT t s [x]).1.getD x.toNat false = true ∧ (rowT t s [x]).2 = false := by
  unfold rowT
  rw [rowS_cons, if_pos h1]
  refine ⟨?_, rfl⟩
  rw [List.getD_eq_getElem?_getD, List.getElem?_set_self (by rw [List.length_replicate]; omega)]; rfl

abbrev Full (s : BSt) (k : Nat) : Prop := (∃ u, (s.2.getD k []).getD u false = true) ∨ s.1.getD k false = true

theorem rowT_full {t n : Nat} {s : BSt} (hs : BInv t n s) : ∀ (l : List Int), (∀ x ∈ l, (0 ≤ x ∧ x < t) ∨ ∃ k : Nat, k < n ∧ x = (t : Int) + k ∧ Full s k) → (∃ u, (rowT t s l).1.getD u false = true) ∨ (rowT t s l).2 = true
  | [], _ => .inr rfl
  | x :: l, h => by
    have ih := rowT_full hs l (fun y hy => h y (List.mem_cons_of_mem _ hy))
    have hr : ∀ a ∈ l, a < (t : Int) + n := fun a ha => by rcases h a (List.mem_cons_of_mem _ ha) with h1 | ⟨k, hk, rfl, _⟩ <;> omega
    rw [show x :: l = [x] ++ l from rfl, rowT_append hs hr]
    rcases h x (List.mem_cons_self ..) with ⟨h0, h1⟩ | ⟨k, hk, rfl, hu⟩
    · obtain ⟨e1, e2⟩ := rowTerm (t := t) (s := s) h0 h1
      rw [e2]
      exact .inl ⟨_, e1⟩
    · rw [rowOne hs hk]
      simp only
      have hl : (rowT t s l).1.length = (s.2.getD k []).length := by rw [rowT_len, hs.row hk]
      cases hn : s.1.getD k false with
      | false =>
        rcases hu with ⟨u, hu⟩ | hu
        · exact .inl ⟨u, hu⟩
        · rw [hn] at hu; cases hu
      | true =>
        rw [if_pos rfl]
        rcases ih with ⟨u, h2⟩ | h2
        · exact .inl ⟨u, by rw [orL_getD u hl, h2]; simp⟩
        · exact .inr (by rw [h2]; rfl)

theorem all_full {g : Gram} (he : checkE g = 0) {k : Nat} (hk : k < g.Nons.length) : Full (bFix g) k := by
  obtain ⟨hl, hw⟩ := checkE_ok he
  have hall : (uFix g).all id = true := by
    have := checkE_u hl hw
    rw [he] at this
    split at this
    · assumption
    · cases this
  have hbi := bFix_inv (g := g) (gOk he).bs.nat
  have hlen : (uFix g).length = g.Nons.length := it_inv (I := fun l : List Bool => l.length = g.Nons.length) (fun x hx => by rw [uRound_len]; exact hx) (by simp) _
  have hstep : ∀ (ps : List Prd), (∀ p ∈ ps, p ∈ g.Prods) → ∀ use : List Bool, (∀ n, use.getD n false = true → Full (bFix g) n) → ∀ n, (uRound g.Terms.length ps use).getD n false = true → Full (bFix g) n := by
    intro ps
    induction ps with
    | nil => exact fun _ use h => h
    | cons p ps ih =>
      intro hs use h
      refine ih (fun q hq => hs q (List.mem_cons_of_mem _ hq)) (uStep g.Terms.length use p) (fun n hn => ?_)
      unfold uStep at hn
      split at hn
      · rename_i hr
        rcases getD_set_true hn with ⟨h1, _⟩ | h1
        · subst h1
          have hp := hs p (List.mem_cons_self ..)
          obtain ⟨e1, e2⟩ := part_known he p hp
          obtain ⟨i, hi, rfl⟩ := List.getElem_of_mem hp
          obtain ⟨_, _, hsy⟩ := prod_ok hw hi
          rw [List.all_eq_true] at hr
          rcases rowT_full hbi g.Prods[i].Right (fun x hx => by
            have h2 := hr x hx
            have h3 := hsy x hx
            unfold okSym at h2
            simp only [Bool.or_eq_true, decide_eq_true_eq] at h2
            by_cases h4 : x < g.Terms.length
            · exact .inl ⟨h3.1, h4⟩
            · refine .inr ⟨(x - g.Terms.length).toNat, by omega, by omega, h _ (h2.resolve_left h4)⟩) with ⟨u, hu⟩ | hu
          · exact .inl ⟨u, e2 u hu⟩
          · exact .inr (e1 hu)
        · exact h n h1
      · exact h n hn
  have hinv : ∀ n, (uFix g).getD n false = true → Full (bFix g) n :=
    it_inv (I := fun use : List Bool => ∀ n, use.getD n false = true → Full (bFix g) n) (fun use h => hstep g.Prods (fun _ h => h) use h) (by
      intro n h
      rw [List.getD_eq_getElem?_getD, List.getElem?_replicate] at h
      split at h <;> simp at h) _
  refine hinv k ?_
  rw [List.getD_eq_getElem?_getD, List.getElem?_eq_getElem (by omega)]
  rw [List.all_eq_true] at hall
  exact hall _ (List.getElem_mem _)

theorem rest_full {g : Gram} (he : checkE g = 0) {x : Itm} (hx : inG g x = true) : (∃ u, (restB g x).getD u false = true) ∨ restN g x = true := by
  obtain ⟨hl, hw⟩ := checkE_ok he
  have hbi := bFix_inv (g := g) (gOk he).bs.nat
  have hx2 := hx
  unfold inG at hx2
  simp only [Bool.and_eq_true, decide_eq_true_eq] at hx2
  obtain ⟨p, hp⟩ : ∃ p : Nat, x.Prod = (p : Int) := ⟨x.Prod.toNat, by omega⟩
  have hpl : p < g.Prods.length := by omega
  obtain ⟨_, _, hsy⟩ := prod_ok hw hpl
  rcases rowT_full hbi (restL g x) (fun s hs => by
    unfold restL at hs
    rw [hp, prd_at hpl] at hs
    have h3 := hsy s (List.mem_of_mem_drop hs)
    by_cases h4 : s < g.Terms.length
    · exact .inl ⟨h3.1, h4⟩
    · exact .inr ⟨(s - g.Terms.length).toNat, by omega, by omega, all_full he (by omega)⟩) with ⟨u, hu⟩ | hu
  · refine .inl ⟨u, ?_⟩
    unfold restB
    have hul : u < (rowT g.Terms.length (bFix g) (restL g x)).1.length := by
      rcases Nat.lt_or_ge u (rowT g.Terms.length (bFix g) (restL g x)).1.length with h1 | h1
      · exact h1
      · rw [List.getD_eq_getElem?_getD, List.getElem?_eq_none h1] at hu; cases hu
    rw [List.getD_eq_getElem?_getD, List.getElem?_append_left hul, ← List.getD_eq_getElem?_getD]
    exact hu
  · exact .inr hu

end Go.Proofs.YtcnpjhaedjncdaaGreatDoor

namespace Go.Proofs.YtcnpjhaedjncdaaGreatDoor
set_option linter.all false
open Go.Proofs.YtcnpjhaedjncdaaGreatDoor.E

structure Sim (g h : Gram) (σ τ : Nat → Nat) : Prop where
  hg : checkE g = 0
  hh : checkE h = 0
  t : h.Terms.length = g.Terms.length
  n : h.Nons.length = g.Nons.length
  p : h.Prods.length = g.Prods.length
  s : ∀ k, k < g.Prods.length → σ k < g.Prods.length ∧ τ (σ k) = k
  ts : ∀ k, k < g.Prods.length → τ k < g.Prods.length ∧ σ (τ k) = k
  s0 : σ 0 = 0
  l : ∀ k : Nat, k < g.Prods.length → (prd h (σ k)).Left = (prd g k).Left ∧ (prd h (σ k)).Right = (prd g k).Right

theorem Sim.symm {g h : Gram} {σ τ : Nat → Nat} (H : Sim g h σ τ) : Sim h g τ σ where
  hg := H.hh
  hh := H.hg
  t := H.t.symm
  n := H.n.symm
  p := H.p.symm
  s k hk := by rw [H.p] at hk ⊢; exact H.ts k hk
  ts k hk := by rw [H.p] at hk ⊢; exact H.s k hk
  s0 := by
    have h0 : 0 < g.Prods.length := (checkE_ok H.hg).2.prods
    have := (H.s 0 h0).2
    rwa [H.s0] at this
  l k hk := by
    rw [H.p] at hk
    have h1 := H.l (τ k) (H.ts k hk).1
    rw [(H.ts k hk).2] at h1
    exact ⟨h1.1.symm, h1.2.symm⟩

def mvI (σ : Nat → Nat) (x : Itm) : Itm := ⟨(σ x.Prod.toNat : Nat), x.Dot⟩

section sim
variable {g h : Gram} {σ τ : Nat → Nat}

theorem inG_num {x : Itm} (hx : inG g x = true) : ∃ k : Nat, k < g.Prods.length ∧ x.Prod = (k : Int) ∧ 0 ≤ x.Dot ∧ x.Dot ≤ (prd g k).Right.length := by
  unfold inG at hx
  simp only [Bool.and_eq_true, decide_eq_true_eq] at hx
  obtain ⟨k, hk⟩ : ∃ k : Nat, x.Prod = (k : Int) := ⟨x.Prod.toNat, by omega⟩
  rw [hk] at hx
  exact ⟨k, by omega, hk, hx.2.2.1, hx.2.2.2⟩
theorem mvI_num {x : Itm} {k : Nat} (h : x.Prod = (k : Int)) : mvI σ x = ⟨(σ k : Nat), x.Dot⟩ := by unfold mvI; rw [h, Int.toNat_natCast]

theorem Sim.ing (H : Sim g h σ τ) {x : Itm} (hx : inG g x = true) : inG h (mvI σ x) = true := by
  obtain ⟨k, hk, e, h1, h2⟩ := inG_num hx
  rw [mvI_num e]
  unfold inG
  simp only [Bool.and_eq_true, decide_eq_true_eq]
  rw [(H.l k hk).2, H.p]
  have := (H.s k hk).1
  exact ⟨by omega, by omega, h1, h2⟩
theorem Sim.bhd (H : Sim g h σ τ) {x : Itm} (hx : inG g x = true) : beh h (mvI σ x) = beh g x := by
  obtain ⟨k, hk, e, h1, h2⟩ := inG_num hx
  rw [mvI_num e]
  unfold beh
  simp only
  rw [(H.l k hk).2, e]
theorem Sim.back (H : Sim g h σ τ) {x : Itm} (hx : inG g x = true) : mvI τ (mvI σ x) = x := by
  obtain ⟨k, hk, e, h1, h2⟩ := inG_num hx
  rw [mvI_num e, mvI_num (k := σ k) rfl, (H.s k hk).2, ← e]
theorem Sim.inj (H : Sim g h σ τ) {x y : Itm} (hx : inG g x = true) (hy : inG g y = true) (e : mvI σ x = mvI σ y) : x = y := by
  rw [← H.back hx, e, H.back hy]

theorem Sim.cl (H : Sim g h σ τ) {l m : List Itm} (hl : ∀ x ∈ l, inG g x = true) (hm : ∀ x ∈ l, mvI σ x ∈ m) {x : Itm} (hx : Cl g l x) : Cl h m (mvI σ x) := by
  induction hx with
  | base hx => exact .base (hm _ hx)
  | @step x k hc hk hb ih =>
    have hin := hc.inG hl
    rw [mvI_num (k := k) rfl]
    refine .step ih (by rw [H.p]; exact (H.s k hk).1) ?_
    rw [H.bhd hin, hb, H.t, (H.l k hk).1]

def phi (σ : Nat → Nat) (l : List Itm) : List Itm := sortI (l.map (mvI σ))
theorem mem_phi {l : List Itm} {x : Itm} : x ∈ phi σ l ↔ ∃ y ∈ l, mvI σ y = x := by unfold phi; rw [sortI_mem, List.mem_map]
theorem phi_sort (σ : Nat → Nat) (l : List Itm) : SortI (phi σ l) := sortI_sort _
theorem Sim.phi_in (H : Sim g h σ τ) {l : List Itm} (hl : ∀ x ∈ l, inG g x = true) : ∀ x ∈ phi σ l, inG h x = true := fun x hx => by
  obtain ⟨y, hy, rfl⟩ := mem_phi.1 hx
  exact H.ing (hl y hy)

theorem Sim.okg (H : Sim g h σ τ) : GOk g := GOk.of (checkE_ok H.hg).2

theorem Sim.closed (H : Sim g h σ τ) {l : List Itm} (hl : ∀ x ∈ l, inG g x = true) : closedP h (phi σ l) = phi σ (closedP g l) := by
  have hin := H.phi_in hl
  have sg := closedP_spec H.okg.beh H.okg.left hl
  have sh := closedP_spec H.symm.okg.beh H.symm.okg.left hin
  refine SortI.ext sh.1 (phi_sort _ _) (fun x => ?_)
  rw [sh.2 x, mem_phi]
  constructor
  · intro hc
    have h1 := H.symm.cl (l := phi σ l) (m := l) hin (fun x hx => by
      obtain ⟨y, hy, rfl⟩ := mem_phi.1 hx
      rw [H.back (hl y hy)]; exact hy) hc
    exact ⟨mvI τ x, (sg.2 _).2 h1, H.symm.back (hc.inG hin)⟩
  · rintro ⟨y, hy, rfl⟩
    exact H.cl hl (fun x hx => mem_phi.2 ⟨x, hx, rfl⟩) ((sg.2 y).1 hy)

theorem goI_mem {g : Gram} {l : List Itm} {s : Int} {x : Itm} : x ∈ goI g l s ↔ ∃ y ∈ l, beh g y = s ∧ x = ⟨y.Prod, y.Dot + 1⟩ := by
  unfold goI
  rw [List.mem_map]
  constructor
  · rintro ⟨y, hy, rfl⟩
    rw [List.mem_filter, decide_eq_true_eq] at hy
    exact ⟨y, hy.1, hy.2, rfl⟩
  · rintro ⟨y, h1, h2, rfl⟩
    exact ⟨y, List.mem_filter.2 ⟨h1, decide_eq_true h2⟩, rfl⟩

theorem Sim.go (H : Sim g h σ τ) {l : List Itm} (hl : ∀ x ∈ l, inG g x = true) (s : Int) : goI h (phi σ l) s = phi σ (goI g l s) := by
  refine SortI.ext (goI_sort (phi_sort _ _) s) (phi_sort _ _) (fun x => ?_)
  rw [goI_mem, mem_phi]
  constructor
  · rintro ⟨y, hy, hb, rfl⟩
    obtain ⟨z, hz, rfl⟩ := mem_phi.1 hy
    rw [H.bhd (hl z hz)] at hb
    exact ⟨⟨z.Prod, z.Dot + 1⟩, goI_mem.2 ⟨z, hz, hb, rfl⟩, rfl⟩
  · rintro ⟨y, hy, rfl⟩
    obtain ⟨z, hz, hb, rfl⟩ := goI_mem.1 hy
    exact ⟨mvI σ z, mem_phi.2 ⟨z, hz, rfl⟩, by rw [H.bhd (hl z hz)]; exact hb, rfl⟩

theorem Sim.phi_inj (H : Sim g h σ τ) {a b : List Itm} (sa : SortI a) (sb : SortI b) (ha : ∀ x ∈ a, inG g x = true) (hb : ∀ x ∈ b, inG g x = true) (e : phi σ a = phi σ b) : a = b := by
  refine SortI.ext sa sb (fun x => ⟨fun hx => ?_, fun hx => ?_⟩)
  · have : mvI σ x ∈ phi σ b := by rw [← e]; exact mem_phi.2 ⟨x, hx, rfl⟩
    obtain ⟨y, hy, e2⟩ := mem_phi.1 this
    rw [← H.inj (hb y hy) (ha x hx) e2]; exact hy
  · have : mvI σ x ∈ phi σ a := by rw [e]; exact mem_phi.2 ⟨x, hx, rfl⟩
    obtain ⟨y, hy, e2⟩ := mem_phi.1 this
    rw [← H.inj (ha y hy) (hb x hx) e2]; exact hy
theorem phi_nil : phi σ [] = [] := rfl
theorem phi_ne {l : List Itm} (h : l ≠ []) : phi σ l ≠ [] := fun e => by
  cases l with
  | nil => exact h rfl
  | cons x l =>
    have : mvI σ x ∈ phi σ (x :: l) := mem_phi.2 ⟨x, List.mem_cons_self, rfl⟩
    rw [e] at this; cases this

theorem Sim.adk (H : Sim g h σ τ) {ks : List (List Itm)} {k : List Itm} (hks : KsOk g ks) (hk : k ≠ [] → KOk g k) : addK (ks.map (phi σ)) (phi σ k) = (addK ks k).map (phi σ) := by
  unfold addK
  by_cases hn : k = []
  · subst hn
    rw [if_pos (.inl phi_nil), if_pos (.inl rfl)]
  · have hn2 := phi_ne (σ := σ) hn
    by_cases hm : k ∈ ks
    · rw [if_pos (.inr (List.mem_map.2 ⟨k, hm, rfl⟩)), if_pos (.inr hm)]
    · rw [if_neg (fun e => e.elim hn2 (fun e => hm (by
        obtain ⟨k2, h1, h2⟩ := List.mem_map.1 e
        have o2 := hks.ok k2 h1
        rw [← H.phi_inj o2.sort (hk hn).sort o2.inG (hk hn).inG h2]; exact h1))), if_neg (fun e => e.elim hn hm), List.map_append]
      rfl

theorem Sim.syk (H : Sim g h σ τ) {ks : List (List Itm)} {k : List Itm} (hks : KsOk g ks) (hk : KOk g k) : ∀ m, symK h (closedP h (phi σ k)) (ks.map (phi σ)) m = (symK g (closedP g k) ks m).map (phi σ)
  | 0 => rfl
  | m + 1 => by
    have hin : ∀ x ∈ closedP g k, inG g x = true := fun x hx => (((closedP_spec H.okg.beh H.okg.left hk.inG).2 x).1 hx).inG hk.inG
    rw [symK_succ, symK_succ, Sim.syk H hks hk m, H.closed hk.inG, H.go hin]
    exact H.adk (symK_ok H.okg hks hk m) (fun hne => goI_ok H.okg hk hne)

theorem Sim.lrf (H : Sim g h σ τ) : ∀ (f i : Nat) (ks : List (List Itm)), KsOk g ks → lrF h f i (ks.map (phi σ)) = (lrF g f i ks).map (List.map (phi σ))
  | 0, _, _, _ => rfl
  | f + 1, i, ks, hks => by
    unfold lrF
    rw [List.getElem?_map]
    cases hki : ks[i]? with
    | none => rfl
    | some k =>
      have hk := hks.ok k (List.mem_of_getElem? hki)
      simp only [Option.map_some]
      rw [H.t, H.n, H.syk hks hk, List.length_map]
      split
      · rfl
      · exact Sim.lrf H f (i + 1) _ (symK_ok H.okg hks hk _)

theorem Sim.klr (H : Sim g h σ τ) : lrK h = (lrK g).map (List.map (phi σ)) := by
  unfold lrK
  have h1 : [phi σ [⟨0, 0⟩]] = ([[⟨0, 0⟩]] : List (List Itm)) := by
    show [sortI [⟨((σ 0 : Nat) : Int), 0⟩]] = _
    rw [H.s0]; rfl
  have := H.lrf 514 0 [[⟨0, 0⟩]] (beg_ok H.okg)
  rw [List.map_cons, List.map_nil, h1] at this
  exact this

theorem Sim.ere (H : Sim g h σ τ) : lrE h = lrE g := by
  unfold lrE
  rw [if_neg (by rw [H.hh]; simp), if_neg (by rw [H.hg]; simp), H.klr]
  cases lrK g <;> rfl

theorem Sim.ks_ (H : Sim g h σ τ) : lrKs h = (lrKs g).map (phi σ) := by
  unfold lrKs
  rw [H.ere]
  split
  · rw [H.klr]; cases lrK g <;> rfl
  · rfl

theorem ix_map {α β : Type} [DecidableEq α] [DecidableEq β] {f : α → β} {k : α} : ∀ {ks : List α}, (∀ a ∈ ks, f a = f k → a = k) → ix (ks.map f) (f k) = ix ks k
  | [], _ => rfl
  | x :: ks, hi => by
    rw [List.map_cons]
    unfold ix
    by_cases e : x = k
    · rw [if_pos e, if_pos (by rw [e])]
    · rw [if_neg e, if_neg (fun e2 => e (hi x List.mem_cons_self e2)), ix_map (fun a ha => hi a (List.mem_cons_of_mem _ ha))]

theorem Sim.gs_ (H : Sim g h σ τ) : lrGs h = lrGs g := by
  by_cases h0 : lrE g = 0
  · obtain ⟨_, _, hK, _⟩ := lr_fin h0
    unfold lrGs
    rw [H.ks_, List.map_map]
    refine List.map_congr_left (fun k hk => ?_)
    have ok := hK.ok k hk
    have hin : ∀ x ∈ closedP g k, inG g x = true := fun x hx => (((closedP_spec H.okg.beh H.okg.left ok.inG).2 x).1 hx).inG ok.inG
    show gotoR h _ (phi σ k) = gotoR g _ k
    unfold gotoR
    rw [H.t, H.n]
    refine List.map_congr_left (fun s _ => ?_)
    rw [H.closed ok.inG, H.go hin]
    unfold numK
    by_cases hn : goI g (closedP g k) s = []
    · rw [if_pos hn, if_pos (by rw [hn]; rfl)]
    · rw [if_neg hn, if_neg (phi_ne hn)]
      have o2 := goI_ok H.okg ok hn
      rw [ix_map (fun a ha e => H.phi_inj (hK.ok a ha).sort o2.sort (hK.ok a ha).inG o2.inG e)]
  · rw [(lr_bad h0).2, (lr_bad (g := h) (by rw [H.ere]; exact h0)).2]

/-! ### what begins names -/
theorem bFix_least {g : Gram} (he : checkE g = 0) {u : BSt} (hu : BInv g.Terms.length g.Nons.length u)
    (hpart : ∀ p ∈ g.Prods, ((rowT g.Terms.length u p.Right).2 = true → u.1.getD p.Left.toNat false = true) ∧ ∀ x, (rowT g.Terms.length u p.Right).1.getD x false = true → (u.2.getD p.Left.toNat []).getD x false = true) : Le (bFix g) u := by
  have hok := gOk he
  have hnat := hok.bs.nat
  have hI := bInit_inv g.Terms.length g.Nons.length
  have hbot : ∀ u, Le (bInit g.Terms.length g.Nons.length) u := fun u => ⟨fun n h => by
    unfold bInit at h
    simp only [List.getD_eq_getElem?_getD, List.getElem?_replicate] at h
    split at h <;> simp at h, fun n x h => by
    unfold bInit at h
    simp only [List.getD_eq_getElem?_getD, List.getElem?_replicate] at h
    split at h
    · simp only [Option.getD_some, List.getElem?_replicate] at h
      split at h <;> simp at h
    · simp at h⟩
  have hround : ∀ (ps : List Prd), (∀ p ∈ ps, p ∈ g.Prods) → ∀ s, BInv g.Terms.length g.Nons.length s → Le s u → BInv g.Terms.length g.Nons.length (bRound g.Terms.length ps s) ∧ Le (bRound g.Terms.length ps s) u := by
    intro ps
    induction ps with
    | nil => intro _ s h1 h2; exact ⟨h1, h2⟩
    | cons q ps ih =>
      intro hsub s h1 h2
      have hq := hsub q (List.mem_cons_self ..)
      have hqn := hnat q hq
      have hqr : ∀ x ∈ q.Right, x < (g.Terms.length : Int) + g.Nons.length := by
        obtain ⟨i, hi, rfl⟩ := List.getElem_of_mem hq
        exact fun x hx => (hok.bs.right i hi x hx).2
      obtain ⟨r1, r2⟩ := rowT_le h1 hu h2 hqr
      have hstep := gStep_self _ _ _ h1 q hqn
      obtain ⟨g1, g2⟩ := gStep_get (s := s) h1 q hqn
      rw [hstep] at g1 g2
      refine ih (fun p hp => hsub p (List.mem_cons_of_mem _ hp)) (bStep g.Terms.length s q) (bStep_inv h1 q hqn) ⟨fun k hk => ?_, fun k x hk => ?_⟩
      · rw [g1] at hk
        simp only [Bool.or_eq_true, Bool.and_eq_true, decide_eq_true_eq] at hk
        rcases hk with hk | ⟨rfl, hk⟩
        · exact h2.no _ hk
        · exact (hpart q hq).1 (r1 hk)
      · rw [g2] at hk
        simp only [Bool.or_eq_true, Bool.and_eq_true, decide_eq_true_eq] at hk
        rcases hk with hk | ⟨rfl, hk⟩
        · exact h2.fi _ _ hk
        · exact (hpart q hq).2 _ (r2 _ hk)
  unfold bFix
  exact (it_inv (I := fun s => BInv g.Terms.length g.Nons.length s ∧ Le s u) (fun s ⟨h1, h2⟩ => hround g.Prods (fun _ h => h) s h1 h2) ⟨hI, hbot _⟩ _).2

theorem Sim.bLe (H : Sim g h σ τ) : Le (bFix g) (bFix h) := by
  have hF := (gOk H.hh).inv
  rw [H.t, H.n] at hF
  refine bFix_least H.hg hF (fun p hp => ?_)
  obtain ⟨k, hk, rfl⟩ := List.getElem_of_mem hp
  have hs : σ k < h.Prods.length := by rw [H.p]; exact (H.s k hk).1
  obtain ⟨e1, e2⟩ := H.l k hk
  rw [prd_at hs, prd_at hk] at e1 e2
  have := part_known H.hh h.Prods[σ k] (List.getElem_mem hs)
  rw [e1, e2, H.t] at this
  exact this
theorem Sim.bfx (H : Sim g h σ τ) : bFix h = bFix g := by
  have h1 := (gOk H.hg).inv
  have h2 := (gOk H.hh).inv
  rw [H.t, H.n] at h2
  exact Le.antisymm h2 h1 H.symm.bLe H.bLe

theorem Sim.rest (H : Sim g h σ τ) {x : Itm} (hx : inG g x = true) : restB h (mvI σ x) = restB g x ∧ restN h (mvI σ x) = restN g x := by
  obtain ⟨k, hk, e, h1, h2⟩ := inG_num hx
  have hl : restL h (mvI σ x) = restL g x := by
    rw [mvI_num e]
    unfold restL
    simp only
    rw [(H.l k hk).2, e]
  unfold restB restN
  rw [H.bfx, H.t, hl]
  exact ⟨rfl, rfl⟩

def mvP (σ : Nat → Nat) (p : Plc) : Plc := ⟨p.s, mvI σ p.x⟩
theorem Sim.la (H : Sim g h σ τ) (h0 : lrE g = 0) {p : Plc} {t : Nat} (hl : LA g (lrGs g) p t) : LA h (lrGs h) (mvP σ p) t := by
  have hF := goF h0
  induction hl with
  | base =>
    have : mvP σ p00 = p00 := by
      show (⟨0, ⟨((σ 0 : Nat) : Int), 0⟩⟩ : Plc) = ⟨0, ⟨0, 0⟩⟩
      rw [H.s0]; rfl
    rw [this]; exact .base
  | @step p q t u hp hc ih =>
    have hin := (la_vp hF hp).in_ hF
    obtain ⟨k, hk, e, h1, h2⟩ := inG_num hin
    have hd : ∀ hd : p.x.Dot ≠ (prd g p.x.Prod).Right.length, (mvP σ p).x.Dot ≠ (prd h (mvP σ p).x.Prod).Right.length := fun hd => by
      show (mvI σ p.x).Dot ≠ (prd h (mvI σ p.x).Prod).Right.length
      rw [mvI_num e]
      simp only
      rw [(H.l k hk).2, ← e]; exact hd
    have hb : beh h (mvP σ p).x = beh g p.x := H.bhd hin
    cases hc with
    | shift h3 =>
      have hn : nextP h (lrGs h) (mvP σ p) = mvP σ (nextP g (lrGs g) p) := by
        unfold nextP
        rw [hb, H.gs_]; rfl
      rw [← hn]
      exact .step ih (.shift (hd h3))
    | close h3 h4 h5 h6 h7 =>
      rename_i k2
      have : mvP σ ⟨p.s, ⟨(k2 : Int), 0⟩⟩ = ⟨(mvP σ p).s, ⟨((σ k2 : Nat) : Int), 0⟩⟩ := by
        show (⟨p.s, mvI σ ⟨(k2 : Int), 0⟩⟩ : Plc) = _
        rw [mvI_num (k := k2) rfl]; rfl
      rw [this]
      obtain ⟨r1, r2⟩ := H.rest hin
      refine .step ih (.close (hd h3) (by rw [hb, H.t]; exact h4) (by rw [H.p]; exact (H.s k2 h5).1) (by rw [hb, H.t, (H.l k2 h5).1]; exact h6) ?_)
      show (restB h (mvI σ p.x)).getD u false = true ∨ (restN h (mvI σ p.x) = true ∧ u = t)
      rw [r1, r2]; exact h7

/-- The same terms stand behind whole productions. -/
theorem Sim.row (H : Sim g h σ τ) (h0 : lrE g = 0) {s k a : Nat} (hk : k < g.Prods.length) : (laRow h s (σ k)).getD a false = (laRow g s k).getD a false := by
  have h1 : lrE h = 0 := by rw [H.ere]; exact h0
  rw [Bool.eq_iff_iff, laRow_bit h0, laRow_bit h1, H.t]
  refine and_congr_right (fun _ => ?_)
  have e : ∀ n : Int, mvP σ ⟨s, ⟨(k : Int), n⟩⟩ = ⟨s, ⟨((σ k : Nat) : Int), n⟩⟩ := fun n => by
    show (⟨s, mvI σ ⟨(k : Int), n⟩⟩ : Plc) = _
    rw [mvI_num (k := k) rfl]
  have e2 : ∀ n : Int, mvP τ ⟨s, ⟨((σ k : Nat) : Int), n⟩⟩ = ⟨s, ⟨(k : Int), n⟩⟩ := fun n => by
    show (⟨s, mvI τ ⟨((σ k : Nat) : Int), n⟩⟩ : Plc) = _
    rw [mvI_num (k := σ k) rfl, (H.s k hk).2]
  rw [(H.l k hk).2]
  constructor
  · intro hl
    have := H.symm.la h1 hl
    rwa [e2] at this
  · intro hl
    have := H.la h0 hl
    rwa [e] at this
end sim

end Go.Proofs.YtcnpjhaedjncdaaGreatDoor

namespace Go.Proofs.YtcnpjhaedjncdaaGreatDoor
set_option linter.all false
open Go.Proofs.YtcnpjhaedjncdaaGreatDoor.E

/-- One round of finding states. -/
def stepK (g : Gram) (ks : List (List Itm)) (i : Nat) : List (List Itm) := match ks[i]? with
  | none => ks
  | some k => symK g (closedP g k) ks (g.Terms.length + g.Nons.length)

def runK (g : Gram) : Nat → Nat → List (List Itm) → List (List Itm)
  | 0, _, ks => ks
  | d + 1, i, ks => runK g d (i + 1) (stepK g ks i)

theorem runK_succ (g : Gram) : ∀ (d i : Nat) (ks : List (List Itm)), runK g (d + 1) i ks = stepK g (runK g d i ks) (i + d)
  | 0, _, _ => rfl
  | d + 1, i, ks => by
    show runK g (d + 1) (i + 1) (stepK g ks i) = stepK g (runK g d (i + 1) (stepK g ks i)) (i + (d + 1))
    rw [runK_succ g d (i + 1) (stepK g ks i), show i + 1 + d = i + (d + 1) by omega]

theorem lrF_run (g : Gram) : ∀ (f i : Nat) (ks fin : List (List Itm)), lrF g f i ks = some fin → i ≤ ks.length → ∀ d, i + d ≤ fin.length →
    runK g d i ks <+: fin ∧ (i + d < fin.length → i + d < (runK g d i ks).length) ∧ (i + d = fin.length → runK g d i ks = fin)
  | 0, _, _, _, h, _, _, _ => by cases h
  | f + 1, i, ks, fin, h, hi, d, hd => by
    have h0 := h
    unfold lrF at h
    cases hk : ks[i]? with
    | none =>
      rw [hk] at h
      simp only [Option.some.injEq] at h
      subst h
      have hl := List.getElem?_eq_none_iff.1 hk
      have : d = 0 := by omega
      subst this
      exact ⟨List.prefix_refl _, fun h => by omega, fun _ => rfl⟩
    | some k =>
      rw [hk] at h
      simp only at h
      split at h
      · cases h
      · have hlt := (List.getElem?_eq_some_iff.1 hk).1
        have hst : stepK g ks i = symK g (closedP g k) ks (g.Terms.length + g.Nons.length) := by unfold stepK; rw [hk]
        cases d with
        | zero =>
          have hp := lrF_pre g _ _ _ _ h0
          have := hp.length_le
          exact ⟨hp, fun _ => hlt, fun e => by omega⟩
        | succ d =>
          have hle := (symK_pre g (closedP g k) ks (g.Terms.length + g.Nons.length)).length_le
          have ih := lrF_run g f (i + 1) _ fin h (by omega) d (by omega)
          rw [← hst, show i + 1 + d = i + (d + 1) by omega] at ih
          exact ih

def Rk (g : Gram) (i : Nat) : List (List Itm) := runK g i 0 [[⟨0, 0⟩]]

theorem rk_all {g : Gram} (h : lrE g = 0) {i : Nat} (hi : i ≤ (lrKs g).length) : Rk g i <+: lrKs g ∧ (i < (lrKs g).length → i < (Rk g i).length) ∧ (i = (lrKs g).length → Rk g i = lrKs g) := by
  have := lrF_run g _ _ _ _ (lr_fin h).2.1 (Nat.zero_le _) i (by omega)
  rw [Nat.zero_add] at this
  exact this

theorem rk_succ {g : Gram} (h : lrE g = 0) {i : Nat} (hi : i < (lrKs g).length) : Rk g (i + 1) = symK g (closedP g (lrKs g)[i]) (Rk g i) (g.Terms.length + g.Nons.length) := by
  obtain ⟨h1, h2, _⟩ := rk_all h (Nat.le_of_lt hi)
  have h3 := h2 hi
  obtain ⟨_, e⟩ := pre_get h1 h3
  unfold Rk
  rw [runK_succ, Nat.zero_add]
  show stepK g (Rk g i) i = symK g (closedP g (lrKs g)[i]) (Rk g i) _
  unfold stepK
  rw [List.getElem?_eq_getElem h3, ← e]

theorem numK_step {fin P : List (List Itm)} {k : List Itm} (hp : addK P k <+: fin) (h0 : 0 < P.length) :
    numK fin k ≤ (P.length : Int) ∧ (if numK fin k > (P.length : Int) - 1 then numK fin k else (P.length : Int) - 1) = ((addK P k).length : Int) - 1 := by
  by_cases hk : k = []
  · have e : addK P k = P := by unfold addK; rw [if_pos (.inl hk)]
    have hn : numK fin k = -1 := by unfold numK; rw [if_pos hk]
    rw [e, hn, if_neg (by omega)]
    exact ⟨by omega, rfl⟩
  · have hn : numK fin k = (ix fin k : Nat) := by unfold numK; rw [if_neg hk]
    by_cases hm : k ∈ P
    · have e : addK P k = P := by unfold addK; rw [if_pos (.inr hm)]
      rw [e] at hp ⊢
      obtain ⟨d, rfl⟩ := hp
      have := ix_lt hm
      rw [hn, ix_app_mem hm, if_neg (by omega)]
      exact ⟨by omega, rfl⟩
    · have e : addK P k = P ++ [k] := by unfold addK; rw [if_neg (fun h => h.elim hk hm)]
      rw [e] at hp ⊢
      obtain ⟨d, rfl⟩ := hp
      rw [hn, ix_app_mem (by simp), ix_app_not hm, if_pos (by omega)]
      exact ⟨by omega, by rw [List.length_append]; simp⟩

/-- All items of a kernel have one symbol ahead of their dots. -/
def Ah (g : Gram) (k : List Itm) : Prop := ∃ s : Nat, ∀ x ∈ k, 1 ≤ x.Dot ∧ x.Dot ≤ (prd g x.Prod).Right.length ∧ (prd g x.Prod).Right.getD (x.Dot - 1).toNat 0 = (s : Int)

theorem goI_ah {g : Gram} {l : List Itm} (s : Nat) (hin : ∀ x ∈ l, inG g x = true) : Ah g (goI g l s) := by
  refine ⟨s, fun x hx => ?_⟩
  unfold goI at hx
  obtain ⟨y, hy, rfl⟩ := List.mem_map.1 hx
  obtain ⟨hy1, hy2⟩ := List.mem_filter.1 hy
  have hb := of_decide_eq_true hy2
  have hi := hin y hy1
  unfold inG at hi
  simp only [Bool.and_eq_true, decide_eq_true_eq] at hi
  unfold beh at hb
  split at hb
  · rename_i hlt
    refine ⟨by simp only; omega, by simp only; omega, ?_⟩
    simp only
    rw [show y.Dot + 1 - 1 = y.Dot by omega, hb]
  · omega

theorem symK_all {P : List Itm → Prop} {g : Gram} {l : List Itm} {ks : List (List Itm)} (h : ∀ k ∈ ks, P k) (h2 : ∀ s : Nat, P (goI g l s)) : ∀ m, ∀ k ∈ symK g l ks m, P k
  | 0 => h
  | m + 1 => by
    have ih := symK_all h h2 m
    rw [symK_succ]
    unfold addK
    split
    · exact ih
    · intro k hk
      rcases List.mem_append.1 hk with hk | hk
      · exact ih k hk
      · rw [List.mem_singleton] at hk; subst hk; exact h2 m

theorem lrF_ah {g : Gram} (o : GOk g) : ∀ (f i : Nat) (ks fin : List (List Itm)), KsOk g ks → lrF g f i ks = some fin → (∀ k ∈ ks, k = [⟨0, 0⟩] ∨ Ah g k) → ∀ k ∈ fin, k = [⟨0, 0⟩] ∨ Ah g k
  | 0, _, _, _, _, h, _ => by cases h
  | f + 1, i, ks, fin, hk, h, ha => by
    unfold lrF at h
    cases hki : ks[i]? with
    | none => rw [hki] at h; simp only [Option.some.injEq] at h; subst h; exact ha
    | some k =>
      rw [hki] at h
      simp only at h
      split at h
      · cases h
      · have hko := hk.ok k (List.mem_of_getElem? hki)
        refine lrF_ah o f (i + 1) _ fin (symK_ok o hk hko _) h (symK_all ha (fun s => .inr (goI_ah s fun x hx => ?_)) _)
        exact (((closedP_spec o.beh o.left hko.inG).2 x).1 hx).inG hko.inG

/-- What is known of the order in which states were found. -/
structure ReF (g : Gram) (KS : List (List Itm)) (GS : List (List Int)) (L : Nat → Nat → Nat) : Prop where
  z0 : L 0 0 = 1
  zn : L KS.length 0 = KS.length
  lt : ∀ i, i < KS.length → i < L i 0
  nx : ∀ i, i < KS.length → L i (g.Terms.length + g.Nons.length) = L (i + 1) 0
  bd : ∀ i s, i < KS.length → s ≤ g.Terms.length + g.Nons.length → L i s ≤ 512
  get : ∀ (i : Nat) (h2 : i < GS.length) (s : Nat) (h3 : s < GS[i].length), i < KS.length → -1 ≤ GS[i][s] ∧ GS[i][s] ≤ (L i s : Int) ∧ (if GS[i][s] > (L i s : Int) - 1 then GS[i][s] else (L i s : Int) - 1) = (L i (s + 1) : Int) - 1
  ne : ∀ (i j : Nat) (hi : i < KS.length) (hj : j < i), KS[i] ≠ KS[j]
  ah : ∀ (i : Nat) (hi : i < KS.length), 0 < i → Ah g KS[i]

theorem reF {g : Gram} (h : lrE g = 0) : ∃ L, ReF g (lrKs g) (lrGs g) L := by
  obtain ⟨hc, hk, hK, hn⟩ := lr_fin h
  obtain ⟨hlm, hwf⟩ := checkE_ok hc
  have o := GOk.of hwf
  have hlen := lr_len g
  obtain ⟨p0, k0⟩ := lr_first h
  refine ⟨fun i s => match (lrKs g)[i]? with | none => (Rk g i).length | some k => (symK g (closedP g k) (Rk g i) s).length, ?_⟩
  have hL : ∀ (i : Nat) (hi : i < (lrKs g).length) (s : Nat), (match (lrKs g)[i]? with | none => (Rk g i).length | some k => (symK g (closedP g k) (Rk g i) s).length) = (symK g (closedP g (lrKs g)[i]) (Rk g i) s).length := fun i hi s => by
    rw [List.getElem?_eq_getElem hi]
  have hL0 : ∀ (i : Nat), (match (lrKs g)[i]? with | none => (Rk g i).length | some k => (symK g (closedP g k) (Rk g i) 0).length) = (Rk g i).length := fun i => by
    cases (lrKs g)[i]? with
    | none => rfl
    | some k => rfl
  have hpre : ∀ (i : Nat) (hi : i < (lrKs g).length) (s : Nat), s ≤ g.Terms.length + g.Nons.length → symK g (closedP g (lrKs g)[i]) (Rk g i) s <+: lrKs g := fun i hi s hs => by
    obtain ⟨d, hd⟩ := Nat.exists_eq_add_of_le hs
    have h1 := symK_mono g (closedP g (lrKs g)[i]) (Rk g i) s d
    rw [← hd, ← rk_succ h hi] at h1
    exact h1.trans (rk_all h hi).1
  refine ⟨hL0 0, ?_, fun i hi => ?_, fun i hi => ?_, fun i s hi hs => ?_, fun i h2 s h3 hi => ?_, fun i j hi hj => ?_, fun i hi h0 => ?_⟩
  · rw [hL0, (rk_all h (Nat.le_refl _)).2.2 rfl]
  · rw [hL0]; exact (rk_all h (Nat.le_of_lt hi)).2.1 hi
  · rw [hL i hi, hL0, rk_succ h hi]
  · rw [hL i hi]; have := (hpre i hi s hs).length_le; omega
  · rw [hL i hi, hL i hi]
    have e := lr_row h2
    have hs : s < g.Terms.length + g.Nons.length := by rw [e, gotoR_len] at h3; exact h3
    have hv : (lrGs g)[i][s] = numK (lrKs g) (goI g (closedP g (lrKs g)[i]) s) := by
      have : ∀ (r : List Int) (hr : s < r.length), r = gotoR g (lrKs g) (lrKs g)[i] → r[s] = numK (lrKs g) (goI g (closedP g (lrKs g)[i]) s) := fun r hr e => by subst e; exact gotoR_get hr
      exact this _ h3 e
    have h4 := hpre i hi (s + 1) hs
    rw [symK_succ] at h4 ⊢
    have h5 := numK_step h4 (by have := (symK_pre g (closedP g (lrKs g)[i]) (Rk g i) s).length_le; have := (rk_all h (Nat.le_of_lt hi)).2.1 hi; omega)
    rw [hv]
    refine ⟨?_, h5⟩
    unfold numK; split <;> omega
  · exact fun e => by
      have h1 := List.pairwise_iff_getElem.1 hK.nd j i (by omega) hi hj
      exact h1 e.symm
  · refine (lrF_ah o _ _ _ _ (beg_ok o) hk (fun k hk => .inl (by simpa using hk)) _ (List.getElem_mem hi)).resolve_left fun e => ?_
    have h1 := List.pairwise_iff_getElem.1 hK.nd 0 i p0 hi h0
    exact h1 (by rw [k0, e])

end Go.Proofs.YtcnpjhaedjncdaaGreatDoor

namespace Go.Proofs.YtcnpjhaedjncdaaGreatDoor
set_option linter.all false
open Go.Proofs.YtcnpjhaedjncdaaGreatDoor.E

/-! ### each item of each state has some term behind it -/
theorem cross (f : Nat → Nat) {j : Nat} (h0 : f 0 ≤ j) : ∀ n, j < f n → ∃ m, m < n ∧ f m ≤ j ∧ j < f (m + 1)
  | 0, h => by omega
  | n + 1, h => by
    by_cases hn : j < f n
    · obtain ⟨m, h1, h2⟩ := cross f h0 n hn
      exact ⟨m, by omega, h2⟩
    · exact ⟨n, by omega, by omega, h⟩

theorem pred {g : Gram} (h : lrE g = 0) {j : Nat} (h0 : 0 < j) (hj : j < (lrKs g).length) : ∃ (i s : Nat) (h1 : i < (lrGs g).length) (h2 : s < (lrGs g)[i].length), i < j ∧ (lrGs g)[i][s] = (j : Int) := by
  obtain ⟨L, hL⟩ := reF h
  have hF := goF h
  obtain ⟨i, hi, h3, h4⟩ := cross (fun i => L i 0) (j := j) (by have := hL.z0; omega) (lrKs g).length (by have := hL.zn; omega)
  rw [← hL.nx i hi] at h4
  obtain ⟨s, hs, h5, h6⟩ := cross (fun s => L i s) (j := j) h3 _ h4
  have hg : i < (lrGs g).length := by rw [hF.gk]; exact hi
  have hr := hF.row i hg
  have hsl : s < (lrGs g)[i].length := by omega
  obtain ⟨g1, g2, g3⟩ := hL.get i hg s hsl hi
  have hlt := hL.lt i hi
  have hmono : L i 0 ≤ L i s := by
    have : ∀ m, m ≤ s → L i 0 ≤ L i m := fun m => by
      induction m with
      | zero => intro _; exact Nat.le_refl _
      | succ m ih =>
        intro hm
        have h7 := ih (by omega)
        obtain ⟨k1, k2, k3⟩ := hL.get i hg m (by omega) hi
        split at k3 <;> omega
    exact this s (Nat.le_refl _)
  refine ⟨i, s, hg, hsl, by omega, ?_⟩
  split at g3 <;> omega

abbrev LS (g : Gram) (i : Nat) : List Itm := closedP g ((lrKs g).getD i [])

theorem beh_dot {g : Gram} {x : Itm} (h : 0 ≤ beh g x) : x.Dot ≠ (prd g x.Prod).Right.length := by
  intro e
  unfold beh at h
  rw [e] at h
  simp at h

theorem la_some {g : Gram} (h : lrE g = 0) : ∀ (n j : Nat), j < n → j < (lrKs g).length → ∀ x ∈ LS g j, ∃ t, LA g (lrGs g) ⟨j, x⟩ t
  | 0, j, h1, _ => by omega
  | n + 1, j, h1, hj => by
    have hF := goF h
    have hce : checkE g = 0 := Classical.byContradiction fun hn => hn (by unfold lrE at h; rw [if_pos hn] at h; exact h)
    have o := GOk.of (checkE_ok hce).2
    have eK : (lrKs g).getD j [] = (lrKs g)[j] := by rw [List.getD_eq_getElem?_getD, List.getElem?_eq_getElem hj]; rfl
    have hin := (hF.ok j hj).2.1
    unfold LS
    rw [eK]
    have hsp := closedP_spec o.beh o.left hin
    have hker : ∀ x ∈ (lrKs g)[j], ∃ t, LA g (lrGs g) ⟨j, x⟩ t := by
      intro x hx
      by_cases h0 : j = 0
      · subst h0
        rw [hF.k0 hj] at hx
        rw [List.mem_singleton] at hx; subst hx
        exact ⟨0, .base⟩
      · obtain ⟨i, s, g1, g2, hij, hG⟩ := pred h (Nat.pos_of_ne_zero h0) hj
        have hi : i < (lrKs g).length := by rw [← hF.gk]; exact g1
        rcases hF.get i hi g1 s g2 with ⟨_, e⟩ | ⟨j', hj', e1, e2⟩
        · rw [hG] at e; omega
        · rw [hG] at e2
          have ej : j' = j := by omega
          subst ej
          rw [← e1] at hx
          obtain ⟨y, hy, hb, rfl⟩ := goI_mem.1 hx
          have hyL : y ∈ LS g i := by unfold LS; rw [List.getD_eq_getElem?_getD, List.getElem?_eq_getElem hi]; exact hy
          obtain ⟨t, ht⟩ := la_some h n i (by omega) hi y hyL
          refine ⟨t, .step ht ?_⟩
          have hc : Cons g (lrGs g) ⟨i, y⟩ t (nextP g (lrGs g) ⟨i, y⟩) t := .shift (beh_dot (by rw [hb]; omega))
          have en : nextP g (lrGs g) ⟨i, y⟩ = ⟨j', ⟨y.Prod, y.Dot + 1⟩⟩ := by
            unfold nextP
            simp only
            rw [hb, Int.toNat_natCast, List.getD_eq_getElem?_getD (l := lrGs g), List.getElem?_eq_getElem g1, Option.getD_some, List.getD_eq_getElem?_getD, List.getElem?_eq_getElem g2, Option.getD_some, hG, Int.toNat_natCast]
          rw [en] at hc
          exact hc
    intro x hx
    have hcl := (hsp.2 x).1 hx
    clear hx
    induction hcl with
    | base hx => exact hker _ hx
    | @step y k hc hk hb ih =>
      obtain ⟨t, ht⟩ := ih
      have hl := o.left k hk
      have hnb : ¬ beh g y < g.Terms.length := by omega
      have hd := beh_dot (g := g) (x := y) (by omega)
      rcases rest_full hce (hc.inG hin) with ⟨u, hu⟩ | hn
      · exact ⟨u, .step ht (.close hd hnb hk (by simp only; omega) (.inl hu))⟩
      · exact ⟨t, .step ht (.close hd hnb hk (by simp only; omega) (.inr ⟨hn, rfl⟩))⟩

theorem la_ks {g : Gram} (h : lrE g = 0) {p : Plc} {t : Nat} (hl : LA g (lrGs g) p t) : p ∈ (laFin g).ks := by
  obtain ⟨n, hn⟩ := la_fin h
  have hb := (la_end (goF h).lim.t hn).2 hl
  rw [laFin_eq hn]
  refine Classical.byContradiction fun hp => ?_
  unfold bit getB at hb
  rw [if_neg hp, zer_get] at hb
  cases hb

theorem vp_ks {g : Gram} (h : lrE g = 0) {p : Plc} (hp : p ∈ (laFin g).ks) : p.s < (lrKs g).length ∧ p.x ∈ LS g p.s := by
  obtain ⟨n, hn⟩ := la_fin h
  have hF := goF h
  have hinv : ∀ (m : Nat) {st : Stt}, GInv g (lrKs g) st → GInv g (lrKs g) (stepN g (lrGs g) (restB g) (restN g) m st) := by
    intro m
    induction m with
    | zero => intro st hs; exact hs
    | succ m ih =>
      intro st hs
      refine ih ?_
      unfold stepG
      cases hl : st.td.getLast? with
      | none => exact hs
      | some q => exact (round_inv hF hs hl).1
  have h0 : GInv g (lrKs g) la0 := GInv.add ⟨ok00, fun p hp => by cases hp⟩ (vp00 hF) one0
  have hI := hinv n h0
  rw [laFin_eq hn] at hp
  obtain ⟨h1, h2⟩ := hI.vp p hp
  refine ⟨h1, ?_⟩
  unfold LS
  rw [List.getD_eq_getElem?_getD, List.getElem?_eq_getElem h1]
  exact h2

/-- The document's row: of an item that is there. -/
theorem laRow_item {g : Gram} (h : lrE g = 0) {s k : Nat} (hs : s < (lrKs g).length) : ((laRow g s k).length = g.Terms.length ∧ (⟨k, (prd g k).Right.length⟩ : Itm) ∈ LS g s) ∨ (laRow g s k = [] ∧ (⟨k, (prd g k).Right.length⟩ : Itm) ∉ LS g s) := by
  obtain ⟨n, hn⟩ := la_fin h
  have hT := (goF h).lim.t
  have hw := whole_N hT n (whole0 g (lrGs g))
  by_cases hm : (⟨k, (prd g k).Right.length⟩ : Itm) ∈ LS g s
  · refine .inl ⟨?_, hm⟩
    obtain ⟨t, ht⟩ := la_some h _ s (Nat.lt_succ_self s) hs _ hm
    have := la_ks h ht
    unfold laRow
    rw [if_pos this, laFin_eq hn, List.length_take, getB_len (ks := (laN g n).ks) (bs := (laN g n).bs) hw.ok.l48]; omega
  · refine .inr ⟨?_, hm⟩
    unfold laRow
    rw [if_neg (fun hp => hm (vp_ks h hp).2)]

/-! ### states with terms, in memory -/
structure Sx where
  lA : Option Addr
  lc : Nat
  l : List Itm
  tA : Option Addr
  tc : Nat
  r : List Bits
  d : AcL
def Sx.hd (s : Sx) : List Value := [.slice s.lA s.l.length s.lc, .slice s.tA s.r.length s.tc]
def Sx.put (s : Sx) (k t : Nat) : Sx := { s with r := s.r.modify k fun b => b.set t true }
def setX (X : List Sx) (i k t : Nat) : List Sx := X.modify i fun s => s.put k t
def BX (X : List Sx) (i k t : Nat) : Prop := ∃ s b, X[i]? = some s ∧ s.r[k]? = some b ∧ b[t]? = some true
def cntR (r : List Bits) : Nat := (r.map fun b => b.countP fun x => !x).sum
def cntX (X : List Sx) : Nat := (X.map fun s => cntR s.r).sum

theorem sum_modify {α : Type} {f : α → Nat} {h : α → α} : ∀ {l : List α} {i : Nat} (hi : i < l.length), f (h l[i]) + 1 ≤ f l[i] → ((l.modify i h).map f).sum + 1 ≤ (l.map f).sum
  | a :: l, 0, _, e => by
    have e : f (h a) + 1 ≤ f a := e
    show f (h a) + (l.map f).sum + 1 ≤ f a + (l.map f).sum
    omega
  | a :: l, i + 1, hi, e => by
    have ih := sum_modify (l := l) (i := i) (by simpa using hi) e
    show f a + ((l.modify i h).map f).sum + 1 ≤ f a + (l.map f).sum
    omega
theorem cnt_bit : ∀ {b : Bits} {t : Nat}, b[t]? = some false → (b.set t true).countP (fun x => !x) + 1 ≤ b.countP (fun x => !x)
  | a :: b, 0, h => by
    have h : some a = some false := h
    cases h
    show (true :: b).countP _ + 1 ≤ _
    simp
  | a :: b, t + 1, h => by
    have ih := cnt_bit (b := b) (t := t) h
    show (a :: b.set t true).countP _ + 1 ≤ _
    rw [List.countP_cons, List.countP_cons]; omega
theorem cntX_set {X : List Sx} {i k t : Nat} (hi : i < X.length) (hk : k < X[i].r.length) (ht : X[i].r[k][t]? = some false) : cntX (setX X i k t) + 1 ≤ cntX X := by
  refine sum_modify hi ?_
  exact sum_modify (f := fun b : Bits => b.countP fun x => !x) (h := fun b => b.set t true) hk (cnt_bit ht)

theorem mod_at {α : Type} (l : List α) (f : α → α) (i j : Nat) : (l.modify i f)[j]? = if i = j then l[j]?.map f else l[j]? := by
  rw [List.getElem?_modify]
  by_cases h : i = j
  · rw [if_pos h]; simp only [if_pos h]; rfl
  · rw [if_neg h]; simp only [if_neg h]; cases l[j]? <;> rfl
theorem BX_set {X : List Sx} {i k t : Nat} (hi : i < X.length) (hk : k < X[i].r.length) (ht : t < X[i].r[k].length) {i' k' t' : Nat} : BX (setX X i k t) i' k' t' ↔ BX X i' k' t' ∨ (i' = i ∧ k' = k ∧ t' = t) := by
  unfold BX setX
  rw [mod_at]
  by_cases e1 : i = i'
  · subst e1
    rw [if_pos rfl, List.getElem?_eq_getElem hi]
    constructor
    · rintro ⟨s, b, h1, h2, h3⟩
      cases h1
      unfold Sx.put at h2
      simp only [mod_at] at h2
      by_cases e2 : k = k'
      · subst e2
        rw [if_pos rfl, List.getElem?_eq_getElem hk] at h2
        simp only [Option.map_some, Option.some.injEq] at h2
        subst h2
        rw [List.getElem?_set] at h3
        by_cases e3 : t = t'
        · exact .inr ⟨rfl, rfl, e3.symm⟩
        · rw [if_neg e3] at h3
          exact .inl ⟨_, _, rfl, List.getElem?_eq_getElem hk, h3⟩
      · rw [if_neg e2] at h2
        exact .inl ⟨_, b, rfl, h2, h3⟩
    · rintro (⟨s, b, h1, h2, h3⟩ | ⟨_, rfl, rfl⟩)
      · cases h1
        by_cases e2 : k = k'
        · subst e2
          rw [List.getElem?_eq_getElem hk] at h2
          cases h2
          refine ⟨_, X[i].r[k].set t true, rfl, ?_, ?_⟩
          · unfold Sx.put
            simp only [mod_at]
            rw [if_pos trivial, List.getElem?_eq_getElem hk]; rfl
          · rw [List.getElem?_set]
            split
            · rfl
            · exact h3
        · refine ⟨_, b, rfl, ?_, h3⟩
          unfold Sx.put
          simp only [mod_at]
          rw [if_neg e2]; exact h2
      · refine ⟨_, X[i].r[k'].set t' true, rfl, ?_, ?_⟩
        · unfold Sx.put
          simp only [mod_at]
          rw [if_pos trivial, List.getElem?_eq_getElem hk]; rfl
        · rw [List.getElem?_set, if_pos rfl, if_pos ht]
  · rw [if_neg e1]
    constructor
    · rintro ⟨s, b, h1, h2, h3⟩
      exact .inl ⟨s, b, h1, h2, h3⟩
    · rintro (⟨s, b, h1, h2, h3⟩ | ⟨h, _⟩)
      · exact ⟨s, b, h1, h2, h3⟩
      · exact absurd h.symm e1

theorem setX_len (X : List Sx) (i k t : Nat) : (setX X i k t).length = X.length := by unfold setX; rw [List.length_modify]
theorem setX_get {X : List Sx} {i k t j : Nat} (h : j < (setX X i k t).length) : (setX X i k t)[j] = if i = j then ((X[j]'(by rwa [setX_len] at h)).put k t) else X[j]'(by rwa [setX_len] at h) := by
  have hj : j < X.length := by rwa [setX_len] at h
  have e : (setX X i k t)[j]? = if i = j then X[j]?.map (fun s => s.put k t) else X[j]? := mod_at _ _ _ _
  rw [List.getElem?_eq_getElem h, List.getElem?_eq_getElem hj] at e
  split at e
  · rename_i e1; rw [if_pos e1]; exact Option.some.inj e
  · rename_i e1; rw [if_neg e1]; exact Option.some.inj e
theorem put_hd (s : Sx) (k t : Nat) : (s.put k t).hd = s.hd := by unfold Sx.hd Sx.put; simp only [List.length_modify]
theorem setX_hd : ∀ (X : List Sx) (i k t : Nat), (setX X i k t).flatMap Sx.hd = X.flatMap Sx.hd
  | [], i, _, _ => by cases i <;> rfl
  | s :: X, 0, k, t => by
    show (s.put k t).hd ++ X.flatMap Sx.hd = s.hd ++ X.flatMap Sx.hd
    rw [put_hd]
  | s :: X, i + 1, k, t => by
    have ih := setX_hd X i k t
    show s.hd ++ (setX X i k t).flatMap Sx.hd = s.hd ++ X.flatMap Sx.hd
    rw [ih]

/-- What holds of them always. -/
structure DI (g : Gram) (X : List Sx) : Prop where
  n : X.length = (lrKs g).length
  l : ∀ (i : Nat) (h : i < X.length), X[i].l = LS g i
  r : ∀ (i : Nat) (h : i < X.length), X[i].r.length = X[i].l.length
  d : ∀ (i : Nat) (h : i < X.length), X[i].d.length = X[i].r.length
  t : ∀ (i : Nat) (h : i < X.length), ∀ b ∈ X[i].r, b.length = g.Terms.length
  so : ∀ i k t, BX X i k t → ∃ x, (LS g i)[k]? = some x ∧ LA g (lrGs g) ⟨i, x⟩ t

/-- From one to the next: more terms, and whether there are more. -/
structure Gro (X X' : List Sx) (m : Bool) : Prop where
  mono : ∀ i k t, BX X i k t → BX X' i k t
  cnt : cntX X' + (if m then 1 else 0) ≤ cntX X
  eq : m = false → X' = X
  hd : X'.flatMap Sx.hd = X.flatMap Sx.hd
  len : X'.length = X.length
theorem Gro.refl (X : List Sx) : Gro X X false := ⟨fun _ _ _ h => h, by simp, fun _ => rfl, rfl, rfl⟩
theorem Gro.trans {X Y Z : List Sx} {a b : Bool} (h : Gro X Y a) (h' : Gro Y Z b) : Gro X Z (b || a) := by
  refine ⟨fun i k t hb => h'.mono _ _ _ (h.mono _ _ _ hb), ?_, fun e => ?_, h'.hd.trans h.hd, h'.len.trans h.len⟩
  · have h1 := h.cnt; have h2 := h'.cnt
    cases a <;> cases b <;> simp at h1 h2 ⊢ <;> omega
  · simp only [Bool.or_eq_false_iff] at e
    rw [h'.eq e.1, h.eq e.2]

def BP (g : Gram) (X : List Sx) (p : Plc) (t : Nat) : Prop := ∃ k, (LS g p.s)[k]? = some p.x ∧ BX X p.s k t
theorem BP.mono {g : Gram} {X X' : List Sx} {m : Bool} {p : Plc} {t : Nat} (h : BP g X p t) (hg : Gro X X' m) : BP g X' p t := by
  obtain ⟨k, h1, h2⟩ := h
  exact ⟨k, h1, hg.mono _ _ _ h2⟩

theorem DI.set {g : Gram} {X : List Sx} (h : DI g X) {i k t : Nat} (hi : i < X.length) (hk : k < X[i].r.length) (ht : t < g.Terms.length) {x : Itm} (hx : (LS g i)[k]? = some x) (hl : LA g (lrGs g) ⟨i, x⟩ t) : DI g (setX X i k t) := by
  have htt : t < X[i].r[k].length := by rw [h.t i hi _ (List.getElem_mem hk)]; exact ht
  refine ⟨by rw [setX_len]; exact h.n, fun j hj => ?_, fun j hj => ?_, fun j hj => ?_, fun j hj => ?_, fun i' k' t' hb => ?_⟩
  · rw [setX_get hj]; split
    · exact h.l j (by rwa [setX_len] at hj)
    · exact h.l j (by rwa [setX_len] at hj)
  · rw [setX_get hj]; split
    · unfold Sx.put; simp only [List.length_modify]; exact h.r j (by rwa [setX_len] at hj)
    · exact h.r j (by rwa [setX_len] at hj)
  · rw [setX_get hj]; split
    · unfold Sx.put; simp only [List.length_modify]; exact h.d j (by rwa [setX_len] at hj)
    · exact h.d j (by rwa [setX_len] at hj)
  · rw [setX_get hj]; split
    · intro b hb
      unfold Sx.put at hb
      simp only at hb
      obtain ⟨q, hq, rfl⟩ := List.getElem_of_mem hb
      rw [List.getElem_modify]
      split
      · rw [List.length_set]; exact h.t j (by rwa [setX_len] at hj) _ (List.getElem_mem _)
      · exact h.t j (by rwa [setX_len] at hj) _ (List.getElem_mem _)
    · exact h.t j (by rwa [setX_len] at hj)
  · rcases (BX_set hi hk htt).1 hb with hb | ⟨rfl, rfl, rfl⟩
    · exact h.so _ _ _ hb
    · exact ⟨x, hx, hl⟩

/-- A term is put behind a place. -/
theorem DI.put {g : Gram} {X : List Sx} (h : DI g X) {i k t : Nat} (hi : i < X.length) (hk : k < X[i].r.length) (ht : t < g.Terms.length) {x : Itm} (hx : (LS g i)[k]? = some x) (hl : LA g (lrGs g) ⟨i, x⟩ t) :
    DI g (setX X i k t) ∧ (X[i].r[k].getD t false = false → Gro X (setX X i k t) true) ∧ (X[i].r[k].getD t false = true → BP g X ⟨i, x⟩ t) ∧ BP g (setX X i k t) ⟨i, x⟩ t := by
  have htt : t < X[i].r[k].length := by rw [h.t i hi _ (List.getElem_mem hk)]; exact ht
  refine ⟨h.set hi hk ht hx hl, fun e => ?_, fun e => ?_, k, hx, (BX_set hi hk htt).2 (.inr ⟨rfl, rfl, rfl⟩)⟩
  · rw [List.getD_eq_getElem?_getD, List.getElem?_eq_getElem htt, Option.getD_some] at e
    refine ⟨fun i' k' t' hb => (BX_set hi hk htt).2 (.inl hb), ?_, (fun h => Bool.noConfusion h), setX_hd _ _ _ _, setX_len _ _ _ _⟩
    rw [if_pos rfl]
    exact cntX_set hi hk (by rw [List.getElem?_eq_getElem htt, e])
  · rw [List.getD_eq_getElem?_getD, List.getElem?_eq_getElem htt, Option.getD_some] at e
    exact ⟨k, hx, _, _, List.getElem?_eq_getElem hi, List.getElem?_eq_getElem hk, by rw [List.getElem?_eq_getElem htt, e]⟩

/-- All that comes of a term behind an item is there. -/
def Shut (g : Gram) (X : List Sx) (i k a : Nat) : Prop := ∀ x, (LS g i)[k]? = some x → ∀ q u, Cons g (lrGs g) ⟨i, x⟩ a q u → BP g X q u

/-- In the end it is the least relation. -/
theorem shut_la {g : Gram} {X : List Sx} (h : DI g X) (h0 : BP g X p00 0) (hs : ∀ i k a, BX X i k a → Shut g X i k a) {p : Plc} {t : Nat} : BP g X p t ↔ LA g (lrGs g) p t := by
  constructor
  · rintro ⟨k, h1, h2⟩
    obtain ⟨x, h3, h4⟩ := h.so _ _ _ h2
    rw [h1] at h3
    cases h3
    exact h4
  · intro hl
    induction hl with
    | base => exact h0
    | @step p q t u hl hc ih =>
      obtain ⟨k, h1, h2⟩ := ih
      exact hs _ _ _ h2 _ h1 _ _ hc

theorem nd_inj {α : Type} {l : List α} (h : l.Nodup) {a b : Nat} (ha : a < l.length) (hb : b < l.length) (e : l[a] = l[b]) : a = b := by
  rcases Nat.lt_trichotomy a b with h1 | h1 | h1
  · exact absurd e (List.pairwise_iff_getElem.1 h a b ha hb h1)
  · exact h1
  · exact absurd e.symm (List.pairwise_iff_getElem.1 h b a hb ha h1)

/-- The row of a production, in the end. -/
def rowD (g : Gram) (X : List Sx) (i p : Nat) : Bits := if h : i < X.length ∧ (⟨p, (prd g p).Right.length⟩ : Itm) ∈ LS g i then X[i].r.getD (ix (LS g i) ⟨p, (prd g p).Right.length⟩) [] else []
theorem rowD_eq {g : Gram} (he : lrE g = 0) {X : List Sx} (h : DI g X) (h0 : BP g X p00 0) (hs : ∀ i k a, BX X i k a → Shut g X i k a) {i p : Nat} (hi : i < X.length) : rowD g X i p = laRow g i p := by
  have hik : i < (lrKs g).length := by rw [← h.n]; exact hi
  rcases laRow_item he (k := p) hik with ⟨h1, h2⟩ | ⟨h1, h2⟩
  · unfold rowD
    rw [dif_pos ⟨hi, h2⟩]
    have hkx : ix (LS g i) ⟨p, (prd g p).Right.length⟩ < (LS g i).length := ix_lt h2
    have hk : ix (LS g i) ⟨p, (prd g p).Right.length⟩ < X[i].r.length := by rw [h.r i hi, h.l i hi]; exact hkx
    have hx : (LS g i)[ix (LS g i) ⟨p, (prd g p).Right.length⟩]? = some ⟨p, (prd g p).Right.length⟩ := ix_get h2
    generalize hq : ix (LS g i) ⟨p, (prd g p).Right.length⟩ = q at hkx hk hx
    rw [List.getD_eq_getElem?_getD, List.getElem?_eq_getElem hk, Option.getD_some]
    have hlen := h.t i hi _ (List.getElem_mem hk)
    refine List.ext_getElem (by rw [hlen, h1]) (fun t g1 g2 => ?_)
    have e1 : X[i].r[q][t] = true ↔ LA g (lrGs g) ⟨i, ⟨p, (prd g p).Right.length⟩⟩ t := by
      rw [← shut_la h h0 hs]
      constructor
      · intro e
        exact ⟨q, hx, _, _, List.getElem?_eq_getElem hi, List.getElem?_eq_getElem hk, by rw [List.getElem?_eq_getElem g1, e]⟩
      · rintro ⟨q2, f1, s, b, f2, f3, f4⟩
        simp only at f1 f2
        rw [List.getElem?_eq_getElem hi] at f2
        cases f2
        have hq2 : q2 < (LS g i).length := (List.getElem?_eq_some_iff.1 f1).1
        have hsort := (goF he).cl i hik
        have hKS : (lrKs g).getD i [] = (lrKs g)[i] := by rw [List.getD_eq_getElem?_getD, List.getElem?_eq_getElem hik]; rfl
        have hnd : (LS g i).Nodup := by unfold LS; rw [hKS]; exact SortI.nodup hsort.2.2.1
        have : q2 = q := by
          have e := (List.getElem?_eq_some_iff.1 f1).2
          have e2 := (List.getElem?_eq_some_iff.1 hx).2
          exact nd_inj hnd hq2 hkx (e.trans e2.symm)
        subst this
        rw [List.getElem?_eq_getElem hk] at f3
        cases f3
        rw [List.getElem?_eq_getElem g1] at f4
        exact Option.some.inj f4
    have e2 := laRow_bit he (s := i) (k := p) (a := t)
    rw [List.getD_eq_getElem?_getD, List.getElem?_eq_getElem g2, Option.getD_some] at e2
    have ht : t < g.Terms.length := by omega
    cases h3 : X[i].r[q][t] <;> cases h4 : (laRow g i p)[t] <;> rw [h3] at e1 <;> rw [h4] at e2 <;> simp [ht] at e1 e2 ⊢
    · exact e1 e2
    · exact e2 e1
  · unfold rowD
    rw [dif_neg (fun hh => h2 hh.2), h1]

end Go.Proofs.YtcnpjhaedjncdaaGreatDoor

namespace Go.Proofs.YtcnpjhaedjncdaaGreatDoor
set_option linter.all false
open Go.Proofs.YtcnpjhaedjncdaaGreatDoor.E

attribute [local irreducible] EVX EVO EVL EV1 NEV
attribute [local irreducible] own osl exA rdA rdL
set_option maxRecDepth 10000
set_option maxHeartbeats 4000000

end Go.Proofs.YtcnpjhaedjncdaaGreatDoor

namespace Go.Proofs.YtcnpjhaedjncdaaGreatDoor
set_option linter.all false
open Go.Proofs.YtcnpjhaedjncdaaGreatDoor.E

theorem can_kerR {E0 : Go.Proofs.YtcnpjhaedjncdaaGreatDoor.E.Env} {U U' : List Asn} {g : Gram} (hL : Lims g) {acs : List (Option Addr × Nat)} {ks : List (List Itm)} (hl : acs.length = ks.length) (ht : Tak (kerB acs ks) U U') (hks : ∀ a ∈ ks, ∀ x ∈ a, inG g x = true) {i : Nat} (hi : i < ks.length) (hb : ks[i].length ≤ 100000) :
    Go.Proofs.YtcnpjhaedjncdaaGreatDoor.E.Can E0 U ((kslice 16 kItm).rd [.slice (acs[i]'(hl ▸ hi)).1 ks[i].length (acs[i]'(hl ▸ hi)).2] ks[i]) :=
  can_brow hl ht hi fun E => can_items .z (fun x hx => by have := inG_dot hL (hks _ (List.getElem_mem hi) x hx); exact ⟨⟨by omega, by omega⟩, ⟨by omega, by omega⟩⟩) hb

theorem ix_first {κ : Type} [DecidableEq κ] {k : κ} : ∀ {u : List κ} {m : Nat} (h : m < u.length), u[m] = k → (∀ j (hj : j < u.length), j < m → u[j] ≠ k) → ix u k = m
  | [], m, h, _, _ => absurd h (Nat.not_lt_zero _)
  | x :: u, 0, h, e, _ => by
    have e : x = k := e
    show (if x = k then 0 else _) = 0
    rw [if_pos e]
  | x :: u, m + 1, h, e, hn => by
    have h0 : ¬ x = k := hn 0 (by simp) (by omega)
    rw [ix_cons h0, ix_first (u := u) (m := m) (by simpa using h) (by simpa using e) (fun j hj hjm => by have := hn (j + 1) (by simpa using hj) (by omega); simpa using this)]

attribute [local irreducible] EVX EVO EVL EV1 NEV
attribute [local irreducible] own osl exA rdA rdL
attribute [local irreducible] bldA mapA bun
set_option maxRecDepth 10000
set_option maxHeartbeats 4000000

theorem ofR19_w (cs : List Value) (g : Gram) : Trip Tryz.prog 26 [.agg cs.toArray] (kGram.rd cs g) []
    (fun v V => ∃ x, v = .tuple #[x, .int .i64 (lrE g)] ∧ LrV x V (lrKs g) (lrGs g)) := by
  refine trip Tryz.tabOk Tryz.func26 rfl rfl rfl rfl ?_
  rintro w SM hG0
  obtain ⟨A0, A1, A2, A3, A4, c0, c1, c2, c3, c4, rfl, hG⟩ := kGram_open hG0
  repeat' (first | refine e_nil ?_ | ((refine e_op ?_); (first | refine o_n (peval_sound rfl) rfl ?_ | refine o_n (nl rfl rfl tc rfl) rfl ?_ | refine o_box rfl rfl (fun _ => ?_) | refine o_alloc rfl rfl (fun _ => ?_))) | refine s_seq ?_ | refine s_region ?_)
  rename_i bg br
  refine e_op (o_call (checkR_w _ g) rfl .nil (Can.ro hG0) rfl ?_)
  rintro v V ⟨rfl, rfl⟩
  simp only [List.nil_append]
  repeat' (first | refine e_nil ?_ | ((refine e_op ?_); (refine o_n (peval_sound rfl) rfl ?_)) | refine s_seq ?_ | refine s_region ?_)
  refine s_cond rfl (fun h => ?_) (fun h => ?_)
  · have he : checkE g ≠ 0 := by simpa using h
    have hce : lrE g = checkE g := by unfold lrE; rw [if_pos he]
    obtain ⟨h1, h2⟩ := lr_bad (by rw [hce]; exact he)
    rw [h1, h2, hce]
    repeat' (first | refine e_nil ?_ | ((refine e_op ?_); (first | refine o_n (peval_sound rfl) rfl ?_ | refine o_storeC rfl rfl rfl rfl tc uc rfl rfl rfl ?_)) | refine s_seq ?_ | refine s_region ?_)
    refine s_ret ⟨_, _, resc2 rfl rfl rfl .z (ld_all (n := 2) rfl rfl rfl rfl) rfl, ⟨_, rfl, none, 0, [], none, 0, [], rfl, rfl, rfl, rfl⟩, ent_lr0⟩
  have he : checkE g = 0 := by simpa using h
  obtain ⟨hlm, hwf⟩ := checkE_ok he
  have hL := lims hlm
  have o := GOk.of hwf
  repeat' (first | ((refine e_op ?_); (refine o_n (peval_sound rfl) rfl ?_)) | refine s_seq ?_ | refine s_region ?_ | refine s_skip ?_)
  refine e_op (o_lit (cs := encX ⟨0, 0⟩) rfl rfl rfl rfl rfl rfl rfl (fun bk => ?_))
  refine e_op (o_lit (ps := [(0, .slice (some ⟨bk, 0, none⟩) 1 1)]) (cs := [.slice (some ⟨bk, 0, none⟩) 1 1]) rfl rfl rfl rfl rfl rfl rfl (fun bq => ?_))
  repeat' (first | refine e_nil ?_ | ((refine e_op ?_); (first | refine o_n (peval_sound rfl) rfl ?_ | refine o_storeC rfl rfl rfl rfl tc uc rfl rfl rfl ?_ | refine o_alloc rfl rfl (fun _ => ?_))) | refine s_seq ?_ | refine s_region ?_ | refine s_block ?_)
  rename_i b5
  refine s_loopK (ι := {x : LrSt // LrStOk g x}) [1, 2, 5] rfl ⟨⟨0, some ⟨bq, 0, none⟩, 1, [(some ⟨bk, 0, none⟩, 1)], [[⟨0, 0⟩]], none, 0, [], []⟩, ⟨LrI.begin o, rfl, rfl, rfl, fun fin _ => by simp⟩⟩ (fun x => [(6, .int .i64 x.1.i)])
    (fun x => [blk b5 66 [.slice x.1.AK x.1.ks.length x.1.cK, .slice x.1.AG x.1.gs.length x.1.cG], kerS x.1.AK x.1.ks.length x.1.cK x.1.acs x.1.ks, kerB x.1.acs x.1.ks, gotS x.1.AG x.1.gs.length x.1.cG x.1.bcs x.1.gs, gotB x.1.bcs x.1.gs, blk br 66 [.slice none 0 0, .slice none 0 0], blk bg 27 [.slice A0 g.Terms.length c0, .slice A1 g.Levels.length c1, .slice A2 g.Pats.length c2, .slice A3 g.Nons.length c3, .slice A4 g.Prods.length c4]])
    (fun x => 514 - x.1.i) ?_ ?_ ?_
  · repeat' (first | exact Sub.nil _ | refine Sub.cons rfl ?_)
  · refine Ent.tak .z (Ent.tak .z ?_)
    exact (ent_bun (L := [rowA (fun l : List Itm => l.flatMap encX) 2 79 (some ⟨bk, 0, none⟩, 1) [⟨0, 0⟩]])).trans (Ent.cons (Ent.osl0 ent_bnil0))
  rintro ⟨⟨i, AK, cK, acs, ks, AG, cG, bcs, gs⟩, hI⟩
  obtain ⟨hI, hl, hb, hgl, hgs⟩ := hI
  simp only at hI hl hb hgl hgs ⊢
  repeat' (first | refine e_nil ?_ | ((refine e_op ?_); (first | refine o_n (peval_sound rfl) rfl ?_ | refine o_n (nl rfl rfl tc rfl) rfl ?_)) | refine s_seq ?_ | refine s_region ?_)
  refine s_cond rfl (fun h => ?_) (fun h => ?_)
  · have hlt : i < ks.length := by simpa using h
    have hTN : g.Terms.length + g.Nons.length ≤ 96 := by have := hL.t; have := hL.n; omega
    have hwr : IntKind.i64.wrap ((g.Terms.length : Int) + (g.Nons.length : Int)) = ((g.Terms.length + g.Nons.length : Nat) : Int) := by rw [wrap_i64] <;> omega
    have hK := hI.ok
    have hki := hK.ok _ (List.getElem_mem hlt)
    have hlen : ∀ a ∈ ks, a.length ≤ 1664 := fun a ha => sort_len hL (hK.ok a ha).sort (hK.ok a ha).inG
    have hklen := hlen _ (List.getElem_mem hlt)
    obtain ⟨hcs, hcm⟩ := closedP_spec o.beh o.left hki.inG
    have hcin : ∀ x ∈ closedP g ks[i], inG g x = true := fun x hx => ((hcm x).1 hx).inG hki.inG
    have hclen := sort_len hL hcs hcin
    refine s_open (.s .z) (by omega) ?_
    rintro b6 rfl
    repeat' (first | refine s_seq ?_ | refine s_block ?_ | refine s_skip ?_)
    refine s_drawU [6] Tryz.mixed (by decide +kernel) ?_
    repeat' (((first | refine l_n (peval_sound rfl) rfl ?_ rfl ?_ | refine l_n (nl rfl rfl tc rfl) rfl ?_ rfl ?_); · (exact Ent.refl _)))
    refine l_n (n_index rfl rfl rfl rfl i rfl hlt) rfl (Ent.refl _) rfl ?_
    refine l_n (n_load_osl rfl rfl (.s .z) (rowC_load hl hlt)) rfl (Ent.refl _) rfl ?_
    refine l_e rfl (o_call (closed_w _ g o (acs[i]'(hl ▸ hlt)).1 (acs[i]'(hl ▸ hlt)).2 ks[i] (by omega) (by have := hL.p; omega) (by omega) (by omega) hki.inG) rfl .nil (Can.and (Can.ro hG0) (can_kerR hL hl (.s (.s .z)) (fun a ha => (hK.ok a ha).inG) hlt (by omega))) rfl ?_)
    rintro v V ⟨Ac, cc, rfl, rfl⟩
    refine ⟨Ent.wk (Ent.refl _), ?_⟩
    obtain ⟨n, hn⟩ : ∃ n, n = g.Terms.length + g.Nons.length := ⟨_, rfl⟩
    rw [← hn] at hTN hwr
    generalize hcl : closedP g ks[i] = cl at hcs hcm hcin hclen ⊢
    simp only [List.cons_append, List.nil_append]
    repeat' (first | refine l_nil ?_ | ((refine l_n (peval_sound rfl) rfl ?_ rfl ?_); · (repeat' (first | exact Ent.refl _ | refine Ent.wk ?_))))
    refine s_ent (Ent.osl0 (e := 3) (sz := 1) (Ent.refl _)) ?_
    repeat' (first | refine e_nil ?_ | ((refine e_op ?_); (refine o_n (peval_sound rfl) rfl ?_)) | refine s_seq ?_ | refine s_region ?_ | refine s_block ?_)
    refine s_loopK (ι := {z : Nat × Option Addr × Nat × Option Addr × Nat × List (Option Addr × Nat) // z.1 ≤ n ∧ z.2.2.2.2.2.length = (symK g cl ks z.1).length ∧ (symK g cl ks z.1).length ≤ 512}) [1, 2, 5, 6, 7] rfl ⟨(0, none, 0, some ⟨b6, 0, none⟩, cK, acs), by omega, hl, hI.n⟩ (fun z => [(9, .int .i64 z.1.1), (8, .slice z.1.2.1 z.1.1 z.1.2.2.1)])
      (fun z => [osl 3 1 (.slice z.1.2.1 z.1.1 z.1.2.2.1) z.1.1 ((rowN g cl ks z.1.1).map (Value.int .i64)), pX Ac cl.length cc cl, blk b5 66 [.slice z.1.2.2.2.1 (symK g cl ks z.1.1).length z.1.2.2.2.2.1, .slice AG gs.length cG], kerS z.1.2.2.2.1 (symK g cl ks z.1.1).length z.1.2.2.2.2.1 z.1.2.2.2.2.2 (symK g cl ks z.1.1), kerB z.1.2.2.2.2.2 (symK g cl ks z.1.1), gotS AG gs.length cG bcs gs, gotB bcs gs, blk br 66 [.slice none 0 0, .slice none 0 0], blk bg 27 [.slice A0 g.Terms.length c0, .slice A1 g.Levels.length c1, .slice A2 g.Pats.length c2, .slice A3 g.Nons.length c3, .slice A4 g.Prods.length c4]])
      (fun z => n - z.1.1) ?_ ?_ ?_
    · repeat' (first | exact Sub.nil _ | refine Sub.cons rfl ?_)
    · exact Ent.refl _
    rintro ⟨⟨s, AR, cR, AK', cK', acs'⟩, hsn, hal, hks⟩
    simp only at hsn hal hks ⊢
    repeat' (first | refine e_nil ?_ | ((refine e_op ?_); (first | refine o_n (peval_sound rfl) rfl ?_ | refine o_n (nl rfl rfl tc rfl) rfl ?_)) | refine s_seq ?_ | refine s_region ?_)
    rw [hwr]
    refine s_cond rfl (fun h => ?_) (fun h => ?_)
    · have hs : s < n := by have h := of_decide_eq_true h; omega
      have hKs : KsOk g (symK g cl ks s) := by rw [← hcl]; exact symK_ok o hK hki s
      have hsy := symK_succ g cl ks s
      have hgle : (goI g cl s).length ≤ 1664 := Nat.le_trans goI_le hclen
      have hci : ∀ x ∈ cl, I64 x.Prod ∧ I64 x.Dot := fun x hx => by have := inG_dot hL (hcin x hx); exact ⟨⟨by omega, by omega⟩, ⟨by omega, by omega⟩⟩
      have hgi : ∀ x ∈ goI g cl s, I64 x.Prod ∧ I64 x.Dot := fun x hx => by
        unfold goI at hx
        obtain ⟨y, hy, rfl⟩ := List.mem_map.1 hx
        have := inG_dot hL (hcin y (List.mem_filter.1 hy).1)
        exact ⟨⟨by simp only; omega, by simp only; omega⟩, ⟨by simp only; omega, by simp only; omega⟩⟩
      repeat' (first | ((refine e_op ?_); (first | refine o_n (peval_sound rfl) rfl ?_ | refine o_n (nl rfl rfl tc rfl) rfl ?_)) | refine s_seq ?_ | refine s_region ?_ | refine s_block ?_ | refine s_skip ?_)
      refine e_op (o_call (goes_w _ g Ac cc cl s (by omega) hcs hcin (fun x hx => by have := inG_dot hL (hcin x hx); omega)) rfl .nil (Can.and (Can.ro hG0) (can_items (.s .z) hci (by omega))) rfl ?_)
      rintro v V ⟨Aq, cq, rfl, rfl⟩
      simp only [List.cons_append, List.nil_append]
      generalize hks' : symK g cl ks s = ks' at hal hks hKs hsy ⊢
      generalize hk : goI g cl s = k at hgle hgi hsy ⊢
      repeat' (first | refine e_nil ?_ | ((refine e_op ?_); (refine o_n (peval_sound rfl) rfl ?_)) | refine s_seq ?_ | refine s_region ?_)
      refine s_blockJ (ι := {a : Int // (a = -1 ∧ (k = [] ∨ k ∉ ks')) ∨ (k ≠ [] ∧ k ∈ ks' ∧ a = (ix ks' k : Nat))}) (fun a => [(11, .int .i64 a.1), (10, .slice Aq k.length cq), (9, .int .i64 s), (8, .slice AR s cR), (1, .pointer (some ⟨bg, 0, none⟩)), (2, .pointer (some ⟨br, 0, none⟩)), (5, .pointer (some ⟨b5, 0, none⟩)), (6, .int .i64 i), (7, .slice Ac cl.length cc)])
        (fun _ => [pX Aq k.length cq k, osl 3 1 (.slice AR s cR) s ((rowN g cl ks s).map (Value.int .i64)), pX Ac cl.length cc cl, blk b5 66 [.slice AK' ks'.length cK', .slice AG gs.length cG], kerS AK' ks'.length cK' acs' ks', kerB acs' ks', gotS AG gs.length cG bcs gs, gotB bcs gs, blk br 66 [.slice none 0 0, .slice none 0 0], blk bg 27 [.slice A0 g.Terms.length c0, .slice A1 g.Levels.length c1, .slice A2 g.Pats.length c2, .slice A3 g.Nons.length c3, .slice A4 g.Prods.length c4]]) (fun hfin => ?_) ?_
      · refine s_loopK (ι := {x : Nat × Int // x.1 ≤ ks'.length ∧ ((x.2 = -1 ∧ ∀ m (h : m < ks'.length), m < x.1 → ks'[m] ≠ k) ∨ (k ≠ [] ∧ k ∈ ks' ∧ x.2 = (ix ks' k : Nat)))}) [1, 2, 5, 6, 7, 8, 9, 10] rfl ⟨(0, -1), by omega, .inl ⟨rfl, fun m _ h => absurd h (Nat.not_lt_zero _)⟩⟩ (fun x => [(12, .int .i64 x.1.1), (11, .int .i64 x.1.2)])
          (fun _ => [pX Aq k.length cq k, osl 3 1 (.slice AR s cR) s ((rowN g cl ks s).map (Value.int .i64)), pX Ac cl.length cc cl, blk b5 66 [.slice AK' ks'.length cK', .slice AG gs.length cG], kerS AK' ks'.length cK' acs' ks', kerB acs' ks', gotS AG gs.length cG bcs gs, gotB bcs gs, blk br 66 [.slice none 0 0, .slice none 0 0], blk bg 27 [.slice A0 g.Terms.length c0, .slice A1 g.Levels.length c1, .slice A2 g.Pats.length c2, .slice A3 g.Nons.length c3, .slice A4 g.Prods.length c4]]) (fun x => ks'.length - x.1.1) ?_ (Ent.refl _) ?_
        · repeat' (first | exact Sub.nil _ | refine Sub.cons rfl ?_)
        rintro ⟨⟨m, a⟩, hm, hx⟩
        simp only at hm hx ⊢
        repeat' (first | ((refine e_op ?_); (first | refine o_n (peval_sound rfl) rfl ?_ | refine o_n (nl rfl rfl tc rfl) rfl ?_)) | refine s_seq ?_ | refine s_region ?_)
        by_cases hml : m < ks'.length
        · rw [decide_eq_true (p := ((m : Int) < (ks'.length : Int))) (by omega)]
          repeat' (((first | refine e_op ?_ | refine e_yes rfl ?_); (refine o_n (peval_sound rfl) rfl ?_)))
          by_cases hk0 : k = []
          · rw [decide_eq_false (p := ((k.length : Int) > 0)) (by rw [hk0]; simp)]
            repeat' (first | refine e_nil ?_ | ((refine e_op ?_); (refine o_n (peval_sound rfl) rfl ?_)) | refine e_noU rfl rfl rfl ?_ | refine s_exit ?_ | refine s_false rfl ?_ | refine x_code ?_ | refine x_back ?_)
            have ha : a = -1 := hx.elim (fun h => h.1) (fun h => absurd hk0 h.1)
            refine x_hit (s_weak ?_ (Ent.refl _) (hfin ⟨a, .inl ⟨ha, .inl hk0⟩⟩))
            repeat' (first | exact Sub.nil _ | refine Sub.cons rfl ?_)
          · have hkl : 0 < k.length := by rcases Nat.eq_zero_or_pos k.length with h | h; · exact absurd (List.eq_nil_of_length_eq_zero h) hk0
                                          · exact h
            rw [decide_eq_true (p := ((k.length : Int) > 0)) (by omega)]
            repeat' (first | refine e_nil ?_ | ((first | refine e_op ?_ | refine e_yes rfl ?_); (refine o_n (peval_sound rfl) rfl ?_)))
            rcases hx with ⟨ha, hno⟩ | ⟨h1, h2, ha⟩
            · subst ha
              rw [decide_eq_true (p := ((-1 : Int) < 0)) (by decide)]
              repeat' (first | refine s_seq ?_ | refine s_skip ?_ | refine s_true rfl ?_)
              refine s_open (.s (.s (.s (.s .z)))) (by omega) ?_
              rintro b8 rfl
              repeat' (first | ((refine e_op ?_); (first | refine o_n (peval_sound rfl) rfl ?_ | refine o_n (nl rfl rfl tc rfl) rfl ?_)) | refine s_seq ?_ | refine s_region ?_ | refine s_block ?_)
              refine e_op (o_n (n_index rfl rfl rfl rfl m rfl hml) rfl ?_)
              refine e_op (o_n (n_load_osl rfl rfl (.s (.s (.s (.s .z)))) (rowC_load hal hml)) rfl ?_)
              repeat' (((refine e_op ?_); (refine o_n (peval_sound rfl) rfl ?_)))
              refine e_op (o_call (sameItems_w (acs'[m]'(hal ▸ hml)).1 Aq (acs'[m]'(hal ▸ hml)).2 cq ks'[m] k) rfl .nil (Can.and (can_kerR hL hal (.s (.s (.s (.s (.s .z))))) (fun a ha => (hKs.ok a ha).inG) hml (by have := sort_len hL (hKs.ok _ (List.getElem_mem hml)).sort (hKs.ok _ (List.getElem_mem hml)).inG; omega)) (can_items .z hgi (by omega))) rfl ?_)
              rintro v V ⟨rfl, rfl⟩
              simp only [List.nil_append]
              repeat' (refine e_nil ?_)
              refine s_cond rfl (fun h => ?_) (fun h => ?_)
              · have he2 : ks'[m] = k := of_decide_eq_true h
                repeat' (first | refine e_nil ?_ | ((refine e_op ?_); (refine o_n (peval_sound rfl) rfl ?_)) | refine s_region ?_ | refine s_end ?_)
                refine s_back ⟨⟨(m + 1, (m : Nat)), by simp only; omega, .inr ⟨hk0, by rw [← he2]; exact List.getElem_mem hml, by simp only; rw [ix_first hml he2 hno]⟩⟩, by simp only; omega, ?_, Ent.refl _⟩
                repeat' (first | exact Sub.nil _ | refine Sub.cons rfl ?_ | refine Sub.consE rfl ?_ ?_)
                exact inc (i := m) (by omega)
              · have he2 : ks'[m] ≠ k := of_decide_eq_false h
                repeat' (first | refine e_nil ?_ | ((refine e_op ?_); (refine o_n (peval_sound rfl) rfl ?_)) | refine s_region ?_ | refine s_end ?_ | refine s_skip ?_)
                refine s_back ⟨⟨(m + 1, -1), by simp only; omega, .inl ⟨rfl, fun q hq hqm => ?_⟩⟩, by simp only; omega, ?_, Ent.refl _⟩
                · by_cases e : q = m
                  · subst e; exact he2
                  · exact hno q hq (by simp only at hqm; omega)
                · repeat' (first | exact Sub.nil _ | refine Sub.cons rfl ?_ | refine Sub.consE rfl ?_ ?_)
                  exact inc (i := m) (by omega)
            · rw [decide_eq_false (p := (a < 0)) (by omega)]
              repeat' (first | refine s_exit ?_ | refine s_false rfl ?_ | refine x_code ?_ | refine x_back ?_)
              refine x_hit (s_weak ?_ (Ent.refl _) (hfin ⟨a, .inr ⟨h1, h2, ha⟩⟩))
              repeat' (first | exact Sub.nil _ | refine Sub.cons rfl ?_)
        · rw [decide_eq_false (p := ((m : Int) < (ks'.length : Int))) (by omega)]
          repeat' (first | refine e_nil ?_ | ((refine e_op ?_); (refine o_n (peval_sound rfl) rfl ?_)) | refine e_noU rfl rfl rfl ?_ | refine s_exit ?_ | refine s_false rfl ?_ | refine x_code ?_ | refine x_back ?_)
          refine x_hit (s_weak ?_ (Ent.refl _) (hfin ⟨a, ?_⟩))
          · repeat' (first | exact Sub.nil _ | refine Sub.cons rfl ?_)
          · rcases hx with ⟨ha, hno⟩ | ⟨h1, h2, ha⟩
            · refine .inl ⟨ha, .inr fun hin => ?_⟩
              obtain ⟨q, hq, e⟩ := List.getElem_of_mem hin
              exact hno q hq (by omega) e
            · exact .inr ⟨h1, h2, ha⟩
      · rintro ⟨a, ha⟩
        simp only
        refine s_seq ?_
        refine s_join (ι := {z : Option Addr × Nat × List (Option Addr × Nat) // z.2.2.length = (addK ks' k).length ∧ (addK ks' k).length ≤ 512}) (fun _ => [(11, .int .i64 (numK (addK ks' k) k)), (9, .int .i64 s), (8, .slice AR s cR), (1, .pointer (some ⟨bg, 0, none⟩)), (2, .pointer (some ⟨br, 0, none⟩)), (5, .pointer (some ⟨b5, 0, none⟩)), (6, .int .i64 i), (7, .slice Ac cl.length cc)])
          (fun z => [osl 3 1 (.slice AR s cR) s ((rowN g cl ks s).map (Value.int .i64)), pX Ac cl.length cc cl, blk b5 66 [.slice z.1.1 (addK ks' k).length z.1.2.1, .slice AG gs.length cG], kerS z.1.1 (addK ks' k).length z.1.2.1 z.1.2.2 (addK ks' k), kerB z.1.2.2 (addK ks' k), gotS AG gs.length cG bcs gs, gotB bcs gs, blk br 66 [.slice none 0 0, .slice none 0 0], blk bg 27 [.slice A0 g.Terms.length c0, .slice A1 g.Levels.length c1, .slice A2 g.Pats.length c2, .slice A3 g.Nons.length c3, .slice A4 g.Prods.length c4]]) (fun hj => ?_) ?_
        · refine s_seq ?_
          refine s_region ?_
          repeat' (((refine e_op ?_); (refine o_n (peval_sound rfl) rfl ?_)))
          by_cases hk0 : k = []
          · have e1 : addK ks' k = ks' := by unfold addK; rw [if_pos (.inl hk0)]
            have h2 : a = numK (addK ks' k) k := by unfold numK; rw [if_pos hk0]; exact ha.elim (fun h => h.1) (fun h => absurd hk0 h.1)
            rw [decide_eq_false (p := ((k.length : Int) > 0)) (by rw [hk0]; simp)]
            repeat' (first | ((refine e_op ?_); (refine o_n (peval_sound rfl) rfl ?_)) | refine e_noU rfl rfl rfl ?_)
            refine e_nil ?_
            refine s_false rfl ?_
            refine s_skip ?_
            refine s_weak ?_ ?_ (hj ⟨(AK', cK', acs'), by rw [e1]; exact hal, by rw [e1]; exact hks⟩)
            · rw [← h2]; repeat' (first | exact Sub.nil _ | refine Sub.cons rfl ?_)
            · simp only [e1]; exact Ent.wk (Ent.refl _)
          have hkl : 0 < k.length := by rcases Nat.eq_zero_or_pos k.length with h | h; · exact absurd (List.eq_nil_of_length_eq_zero h) hk0
                                        · exact h
          rw [decide_eq_true (p := ((k.length : Int) > 0)) (by omega)]
          repeat' (((first | refine e_op ?_ | refine e_yes rfl ?_); (refine o_n (peval_sound rfl) rfl ?_)))
          by_cases hmem : k ∈ ks'
          · have e1 : addK ks' k = ks' := by unfold addK; rw [if_pos (.inr hmem)]
            have h3 : a = (ix ks' k : Nat) := ha.elim (fun h => (h.2.elim (fun h => absurd h hk0) (fun h => absurd hmem h))) (fun h => h.2.2)
            have h2 : a = numK (addK ks' k) k := by unfold numK; rw [if_neg hk0, e1]; exact h3
            rw [decide_eq_false (p := (a < 0)) (by omega)]
            skip
            refine e_nil ?_
            refine s_false rfl ?_
            refine s_skip ?_
            refine s_weak ?_ ?_ (hj ⟨(AK', cK', acs'), by rw [e1]; exact hal, by rw [e1]; exact hks⟩)
            · rw [← h2]; repeat' (first | exact Sub.nil _ | refine Sub.cons rfl ?_)
            · simp only [e1]; exact Ent.wk (Ent.refl _)
          have e1 : addK ks' k = ks' ++ [k] := by unfold addK; rw [if_neg (fun h => h.elim hk0 hmem)]
          have e2 : numK (addK ks' k) k = (ks'.length : Int) := by unfold numK; rw [if_neg hk0, e1, ix_app_not hmem]
          have ha1 : a = -1 := ha.elim (fun h => h.1) (fun h => absurd h.2.1 hmem)
          subst ha1
          rw [decide_eq_true (p := ((-1 : Int) < 0)) (by decide)]
          skip
          refine e_nil ?_
          refine s_true rfl ?_
          repeat' (first | refine e_nil ?_ | ((refine e_op ?_); (first | refine o_n (peval_sound rfl) rfl ?_ | refine o_n (nl rfl rfl tc rfl) rfl ?_)) | refine s_seq ?_ | refine s_region ?_)
          refine e_op (o_lit (ps := [(0, .slice Aq k.length cq)]) (cs := [.slice Aq k.length cq]) rfl rfl rfl rfl rfl rfl rfl (fun bl => ?_))
          refine e_op (o_append (v := .slice AK' ks'.length cK') (n := ks'.length) (m := 1) (xs := rowC acs' ks') (news := [.slice Aq k.length cq]) _ rfl rfl rfl rfl (fun w hm q u hu => ?_) rfl ?_ rfl (by omega) (by simp only; omega) (by omega) rfl (fun b c => (.s (.s (.s (.s (.s .z)))))) (fun ba ca => ?_))
          · obtain ⟨S1, hP, _⟩ := hm.tak .z
            rw [Nat.zero_add]
            exact osl_cells hP q u hu
          · simp [oneB]
          repeat' (first | refine e_nil ?_ | ((refine e_op ?_); (first | refine o_n (peval_sound rfl) rfl ?_ | refine o_n (nl rfl rfl tc rfl) rfl ?_ | refine o_storeC rfl rfl rfl rfl tc uc rfl rfl rfl ?_)) | refine s_seq ?_ | refine s_region ?_)
          have eL : (ks' ++ [k]).length = ks'.length + 1 := by simp
          refine s_cond rfl (fun h => ?_) (fun h => ?_)
          · have hov : 512 < (symK g cl ks (s + 1)).length := by rw [hsy, e1, eL]; have h := of_decide_eq_true h; omega
            have hnone := hI.over hlt (m := s + 1) (by omega) (by rw [hcl]; exact hov)
            have hce : lrE g = 5 := by unfold lrE; rw [if_neg (fun hn => hn he), hnone]
            obtain ⟨h1, h2⟩ := lr_bad (by rw [hce]; decide)
            rw [h1, h2, hce]
            repeat' (first | refine e_nil ?_ | ((refine e_op ?_); (first | refine o_n (peval_sound rfl) rfl ?_ | refine o_storeC rfl rfl rfl rfl tc uc rfl rfl rfl ?_)) | refine s_seq ?_ | refine s_region ?_)
            refine s_ret ⟨_, _, resc2 rfl rfl rfl (.s (.s (.s (.s (.s (.s (.s (.s (.s .z))))))))) (ld_all (n := 2) rfl rfl rfl rfl) rfl, ⟨_, rfl, none, 0, [], none, 0, [], rfl, rfl, rfl, rfl⟩, ent_lr0⟩
          · have hle2 : (addK ks' k).length ≤ 512 := by rw [e1, eL]; have h := of_decide_eq_false h; omega
            refine s_skip ?_
            refine s_weak ?_ ?_ (hj ⟨(some ⟨ba, 0, none⟩, ca, acs' ++ [(Aq, cq)]), by rw [e1, eL]; simp [hal], hle2⟩)
            · rw [e2]; repeat' (first | exact Sub.nil _ | refine Sub.cons rfl ?_)
            · unfold kerS
              simp only [e1, eL]
              rw [Go.Proofs.YtcnpjhaedjncdaaGreatDoor.E.rowC_snoc (ac := (Aq, cq)) (r := k) hal]
              exact Ent.wk (Ent.tak (.s .z) (Ent.tak (.s .z) (Ent.tak (.s .z) (Ent.tak (.s .z) (ent_bsnoc (f := fun l : List Itm => l.flatMap encX) (ac := (Aq, cq)) hal)))))
        · rintro ⟨⟨AK2, cK2, acs2⟩, hal2, hle2⟩
          simp only at hal2 hle2 ⊢
          rw [← hsy] at hal2 hle2 ⊢
          refine s_region ?_
          repeat' (((refine e_op ?_); (refine o_n (peval_sound rfl) rfl ?_)))
          refine e_op (o_lit (ps := [(0, .int .i64 (numK (symK g cl ks (s + 1)) k))]) (cs := [.int .i64 (numK (symK g cl ks (s + 1)) k)]) rfl rfl rfl rfl rfl rfl rfl (fun bl => ?_))
          refine e_op (o_append (v := .slice AR s cR) (n := s) (m := 1) (xs := (rowN g cl ks s).map (Value.int .i64)) (news := [.int .i64 (numK (symK g cl ks (s + 1)) k)]) _ rfl rfl rfl rfl (fun w hm q u hu => ?_) rfl ?_ rfl (by omega) (by simp only; omega) (by omega) rfl (fun b c => .s .z) (fun ba ca => ?_))
          · obtain ⟨S1, hP, _⟩ := hm.tak .z
            rw [Nat.zero_add]
            exact osl_cells hP q u hu
          · simp [oneB]
          have hrw : (rowN g cl ks s).map (Value.int .i64) ++ [.int .i64 (numK (symK g cl ks (s + 1)) k)] = (rowN g cl ks (s + 1)).map (Value.int .i64) := by rw [rowN_succ, List.map_append, hk]; rfl
          rw [hrw]
          repeat' (first | refine e_nil ?_ | ((refine e_op ?_); (refine o_n (peval_sound rfl) rfl ?_)) | refine s_region ?_ | refine s_end ?_)
          refine s_back ⟨⟨(s + 1, some ⟨ba, 0, none⟩, ca, AK2, cK2, acs2), by simp only; omega, hal2, hle2⟩, by simp only; omega, ?_, ?_⟩
          · repeat' (first | exact Sub.nil _ | refine Sub.cons rfl ?_ | refine Sub.consE rfl ?_ ?_)
            exact inc (i := s) (by omega)
          · exact Ent.wk (Ent.refl _)
    · have hsn2 : s = n := by have h := of_decide_eq_false h; omega
      subst hsn2
      have hle2 := hks
      have hgn : gs.length ≤ 512 := by have := hI.n; omega
      repeat' (first | ((refine e_op ?_); (first | refine o_n (peval_sound rfl) rfl ?_ | refine o_n (nl rfl rfl tc rfl) rfl ?_)) | refine s_region ?_ | refine s_exit ?_ | refine x_hit ?_ | refine x_code ?_ | refine x_back ?_)
      refine e_op (o_lit (ps := [(0, .slice AR s cR)]) (cs := [.slice AR s cR]) rfl rfl rfl rfl rfl rfl rfl (fun bl => ?_))
      refine e_op (o_append (v := .slice AG gs.length cG) (n := gs.length) (m := 1) (xs := rowC bcs gs) (news := [.slice AR s cR]) _ rfl rfl rfl rfl (fun w hm q u hu => ?_) rfl ?_ rfl (by omega) (by simp only; omega) (by omega) rfl (fun b c => (.s (.s (.s (.s (.s (.s .z))))))) (fun ba ca => ?_))
      · obtain ⟨S1, hP, _⟩ := hm.tak .z
        rw [Nat.zero_add]
        exact osl_cells hP q u hu
      · simp [oneB]
      repeat' (first | refine e_nil ?_ | ((refine e_op ?_); (first | refine o_n (peval_sound rfl) rfl ?_ | refine o_storeC rfl rfl rfl rfl tc uc rfl rfl rfl ?_)) | refine s_region ?_ | refine s_end ?_)
      have hnx := hI.next o hlt (by rw [hcl, ← hn]; exact hle2)
      have hrn := rows_next o hI hlt (by rw [hcl, ← hn]; exact hle2) hgs
      rw [hcl, ← hn] at hnx hrn
      refine s_back ⟨⟨⟨i + 1, AK', cK', acs', symK g cl ks s, some ⟨ba, 0, none⟩, ca, bcs ++ [(AR, cR)], gs ++ [rowN g cl ks s]⟩, ⟨hnx, hal, by simp [hb], by simp [hgl], hrn⟩⟩, ?_, ?_, ?_⟩
      · have := hnx.le; have := hI.n; simp only; omega
      · repeat' (first | exact Sub.nil _ | refine Sub.cons rfl ?_ | refine Sub.consE rfl ?_ ?_)
        exact inc (i := i) (by have := hI.n; omega)
      · simp only
        have eL : (gs ++ [rowN g cl ks s]).length = gs.length + 1 := by simp
        have hra : osl 3 1 (.slice AR s cR) s ((rowN g cl ks s).map (Value.int .i64)) = rowA (fun l : List Int => l.map (Value.int .i64)) 1 3 (AR, cR) (rowN g cl ks s) := by unfold rowA; simp only [rowN_len]
        have hrc : rowC (bcs ++ [(AR, cR)]) (gs ++ [rowN g cl ks s]) = rowC bcs gs ++ [.slice AR s cR] := by rw [Go.Proofs.YtcnpjhaedjncdaaGreatDoor.E.rowC_snoc (ac := (AR, cR)) (r := rowN g cl ks s) hb, rowN_len]
        unfold gotS
        rw [hra, hrc, eL]
        refine Ent.wk (Ent.tak (.s (.s .z)) (Ent.tak (.s (.s .z)) (Ent.tak (.s (.s .z)) (Ent.tak (.s (.s .z)) ?_))))
        exact Ent.trans (Ent.cons (Ent.wk (Ent.refl _))) (ent_bsnoc (f := fun l : List Int => l.map (Value.int .i64)) hb)
  · have hfin := hI.fin (by simpa using h)
    have hce : lrE g = 0 := by unfold lrE; rw [if_neg (fun hn => hn he), hfin]
    have hkk : lrKs g = ks := by unfold lrKs; rw [if_pos hce, hfin]; rfl
    have hgg : lrGs g = gs := by
      unfold lrGs
      rw [hkk, hgs ks hfin, List.take_of_length_le (by simpa using h)]
    repeat' (first | refine e_nil ?_ | ((refine e_op ?_); (first | refine o_n (peval_sound rfl) rfl ?_ | refine o_n (nl rfl rfl tc rfl) rfl ?_ | refine o_storeC rfl rfl rfl rfl tc uc rfl rfl rfl ?_)) | refine s_seq ?_ | refine s_region ?_ | refine s_exit ?_ | refine x_hit ?_ | refine x_code ?_ | refine x_back ?_)
    refine s_ret ⟨.tuple #[.agg #[.slice AK ks.length cK, .slice AG gs.length cG], .int .i64 0], [kerS AK ks.length cK acs ks, kerB acs ks, gotS AG gs.length cG bcs gs, gotB bcs gs], resc2 rfl rfl rfl (.s (.s (.s (.s (.s .z))))) (ld_all (n := 2) rfl rfl rfl rfl) rfl, ⟨_, by rw [hce], ?_⟩, ?_⟩
    · rw [hkk, hgg]; exact ⟨AK, cK, acs, AG, cG, bcs, hl, hb, rfl, rfl⟩
    · exact Ent.wk (Ent.cons (Ent.cons (Ent.cons (Ent.cons (Ent.nil _)))))

end Go.Proofs.YtcnpjhaedjncdaaGreatDoor

namespace Go.Proofs.YtcnpjhaedjncdaaGreatDoor.E
open Go
set_option linter.all false
variable {E : Env} {fr : Frm} {U : List Asn} {N : Frm → List Asn → Prop}

/-- A slice of one's own, by its block. -/
class TakO (b : Nat) (U : List Asn) (e : outParam TypeId) (sz : outParam Nat) (n c k : outParam Nat) (xs : outParam (List Value)) (W : outParam (List Asn)) : Prop where
  tak : Tak (osl e sz (.slice (some ⟨b, 0, none⟩) n c) k xs) U W
instance TakO.s {b : Nat} {U : List Asn} {e : TypeId} {sz n c k : Nat} {xs : List Value} {W : List Asn} {B : Asn} [h : TakO b U e sz n c k xs W] : TakO b (B :: U) e sz n c k xs (B :: W) := ⟨.s h.tak⟩
instance TakO.z {b : Nat} {U : List Asn} {e : TypeId} {sz n c k : Nat} {xs : List Value} : TakO b (osl e sz (.slice (some ⟨b, 0, none⟩) n c) k xs :: U) e sz n c k xs U := ⟨.z⟩
instance TakO.n {b : Nat} {U : List Asn} {e : TypeId} {sz n c k : Nat} {xs : List Value} {W : List Asn} [h : TakO b U e sz n c k xs W] : TakO b ([] ++ U) e sz n c k xs W := h
instance TakO.a {b : Nat} {L U : List Asn} {e : TypeId} {sz n c k : Nat} {xs : List Value} {W : List Asn} {B : Asn} [h : TakO b (B :: (L ++ U)) e sz n c k xs W] : TakO b ((B :: L) ++ U) e sz n c k xs W := h
theorem to {b : Nat} {U : List Asn} {e : TypeId} {sz n c k : Nat} {xs : List Value} {W : List Asn} [h : TakO b U e sz n c k xs W] : TakO b U e sz n c k xs W := h

/-- A slice of one's own, by the slice; what is put in its place. -/
class UpdV (v : Value) (U : List Asn) (e : outParam TypeId) (sz n : outParam Nat) (xs : outParam (List Value)) (F : outParam (Asn → List Asn)) : Prop where
  upd : ∀ A', Upd (osl e sz v n xs) A' U (F A')
instance UpdV.s {v : Value} {U : List Asn} {e : TypeId} {sz n : Nat} {xs : List Value} {F : Asn → List Asn} {B : Asn} [h : UpdV v U e sz n xs F] : UpdV v (B :: U) e sz n xs (fun A' => B :: F A') := ⟨fun A' => .s (h.upd A')⟩
instance UpdV.z {v : Value} {U : List Asn} {e : TypeId} {sz n : Nat} {xs : List Value} : UpdV v (osl e sz v n xs :: U) e sz n xs (fun A' => A' :: U) := ⟨fun _ => .z⟩
instance UpdV.n {v : Value} {U : List Asn} {e : TypeId} {sz n : Nat} {xs : List Value} {F : Asn → List Asn} [h : UpdV v U e sz n xs F] : UpdV v ([] ++ U) e sz n xs F := h
instance UpdV.a {v : Value} {L U : List Asn} {e : TypeId} {sz n : Nat} {xs : List Value} {F : Asn → List Asn} {B : Asn} [h : UpdV v (B :: (L ++ U)) e sz n xs F] : UpdV v ((B :: L) ++ U) e sz n xs F := h
theorem uv {v : Value} {U : List Asn} {e : TypeId} {sz n : Nat} {xs : List Value} {F : Asn → List Asn} [h : UpdV v U e sz n xs F] : UpdV v U e sz n xs F := h

/-- The parts that a call wants. -/
class PicC (Ms U : List Asn) (W : outParam (List Asn)) : Prop where
  pic : Pic Ms U W
instance PicC.nil {U : List Asn} : PicC [] U U := ⟨.nil⟩
instance PicC.cons {A : Asn} {Ms U U1 W : List Asn} [h : TakA A U U1] [h2 : PicC Ms U1 W] : PicC (A :: Ms) U W := ⟨.cons h.tak h2.pic⟩
theorem no {t : TypeId} {x : Operand} {i : TI} {b o : Nat} {e : TypeId} {sz n c k : Nat} {xs : List Value} {v : Value} {W : List Asn}
    (hx : val fr x = some (.pointer (some ⟨b, o, none⟩))) (ht : tl E.T t = some i) (hU : TakO b U e sz n c k xs W) (hl : loadL i xs o = some v) : NEV E (.load t x) fr U v :=
  n_load_osl hx ht hU.tak hl

/-- A store into a slice of one's own. -/
theorem o_storeO {t : TypeId} {x y : Operand} {ty : TypeId} {pos : String} {af : Array Edge} {g : Option (Nat × Bool)} {i : TI} {b o : Nat} {e : TypeId} {sz n c k : Nat} {xs vs : List Value} {v : Value} {W U' : List Asn}
    (hx : val fr x = some (.pointer (some ⟨b, o, none⟩))) (hy : val fr y = some v) (ht : tl E.T t = some i) (hv : v.cells.toList = vs) (hW : TakO b U e sz n c k xs W)
    (hU : UpdC (osl e sz (.slice (some ⟨b, 0, none⟩) n c) k xs) (osl e sz (.slice (some ⟨b, 0, none⟩) n c) k (setMany xs o vs)) U U') (hl : Nat.beq vs.length i.size = true) (h1 : vs.all oneB = true)
    (hle : o + i.size ≤ xs.length) (h : N fr U') : EV1 E ⟨none, .store t x y, ty, pos, af, g⟩ fr U N :=
  o_store_osl hx hy ht hv hl h1 hle hU.upd h

/-- One element, just built, behind a slice of one's own. -/
theorem o_app1 {d : Nat} {t e : TypeId} {x y : Operand} {ty : TypeId} {pos : String} {af : Array Edge} {g : Option (Nat × Bool)} {s1 b1 : Nat} {z1 : List Value} {i : TI} {v : Value} {n : Nat} {xs : List Value}
    {g2 m c2 k2 : Nat} {e2 : TypeId} {sz2 : Nat} {news : List Value} {F : Asn → List Asn} {sz : Nat} {W : List Asn}
    (ht : tl E.T t = some ⟨.slice e, s1, b1, z1⟩) (he : tl E.T e = some i) (hx : val fr x = some v) (hy : val fr y = some (.slice (some ⟨g2, 0, none⟩) m c2)) (hs : TakO g2 U e2 sz2 m c2 k2 news W) (hU : UpdV v U e sz n xs F) (hsz : sz = i.size)
    (hl : news.length = m * i.size) (h1 : news.all oneB = true) (hzl : Nat.beq i.zero.length i.size = true) (hm0 : 0 < m) (hby : (n + m) * i.bytes ≤ 140737488355328) (hd : Nat.ble (d + 1) E.n = true)
    (hb0 : 0 < i.bytes)
    (h : ∀ b c, N ((d, .slice (some ⟨b, 0, none⟩) (n + m) c) :: fr) (F (osl e i.size (.slice (some ⟨b, 0, none⟩) (n + m) c) (n + m) (xs ++ news)))) :
    EV1 E ⟨some d, .call ⟨.builtin .append, #[x, y], #[t, t]⟩, ty, pos, af, g⟩ fr U N := by
  subst hsz
  have h63 : n + m ≤ 9223372036854775807 := Nat.le_trans (Nat.le_trans (Nat.le_mul_of_pos_right _ hb0) hby) (by decide)
  refine o_append (fun b c => F (osl e i.size (.slice (some ⟨b, 0, none⟩) (n + m) c) (n + m) (xs ++ news))) ht he hx hy (fun w hm j u hu => ?_) hl (List.all_eq_true.1 h1) hzl hm0 hby h63 hd (fun b c => hU.upd _) h
  obtain ⟨S1, hP, _⟩ := hm.tak hs.tak
  rw [Nat.zero_add]
  exact osl_cells hP j u hu

theorem o_callC {d : Nat} {f : FuncId} {args : Array Operand} {ts : Array TypeId} {ty : TypeId} {pos : String} {af : Array Edge} {g : Option (Nat × Bool)} {vs : List Value} {R : Rd} {Ms U' : List Asn}
    {Q : Value → List Asn → Prop} (ht : Trip E.P f vs R Ms Q) (hv : vals fr args.toList = some vs) (hp : PicC Ms U U') (hR : Can E U' R) (hd : Nat.ble (d + 1) E.n = true)
    (h : ∀ v V, Q v V → N ((d, v) :: fr) (V ++ U')) : EV1 E ⟨some d, .call ⟨.value (.func f), args, ts⟩, ty, pos, af, g⟩ fr U N :=
  o_call ht hv hp.pic hR hd h
theorem pk {Ms U W : List Asn} [h : PicC Ms U W] : PicC Ms U W := h

theorem Ent.blkC {b : Nat} {T : TypeId} {cs cs' : List Value} {W V : List Asn} (h : TakC b U T cs W) (e : cs = cs') (h' : Ent W V) : Ent U (blk b T cs' :: V) := by
  subst e; exact Ent.tak h.tak h'
/-- One row more, behind a bundle of rows. -/
theorem Ent.snocB {α : Type} {f : List α → List Value} {sz : Nat} {ei : TypeId} {acs : List (Option Addr × Nat)} {rows : List (List α)} {ac : Option Addr × Nat} {r : List α} {U1 U2 V : List Asn} (h1 : TakA (rowA f sz ei ac r) U U1) (h2 : TakA (bun (rowX f sz ei acs rows)) U1 U2) (hl : acs.length = rows.length) (h : Ent U2 V) :
    Ent U (bun (rowX f sz ei (acs ++ [ac]) (rows ++ [r])) :: V) :=
  Ent.trans (Ent.tak h1.tak (Ent.tak h2.tak (Ent.refl _))) (Ent.trans (ent_bsnoc hl) (Ent.cons h))
theorem ta {A : Asn} {U W : List Asn} [h : TakA A U W] : TakA A U W := h

end Go.Proofs.YtcnpjhaedjncdaaGreatDoor.E

namespace Go.Proofs.YtcnpjhaedjncdaaGreatDoor.E
open Go
set_option linter.all false
variable {E : Env} {fr : Frm} {U : List Asn} {N : Frm → List Asn → Prop}

section skip
variable {K : Frm → List Asn → Prop} {k : List It} {ops : Array Oper} {V : List Asn}
end skip

end Go.Proofs.YtcnpjhaedjncdaaGreatDoor.E

namespace Go.Proofs.YtcnpjhaedjncdaaGreatDoor
set_option linter.all false
open Go.Proofs.YtcnpjhaedjncdaaGreatDoor.E

def fndI (l : List Itm) (x : Itm) : Int := if x ∈ l then (ix l x : Nat) else -1

attribute [local irreducible] EVX EVO EVL EV1 NEV
attribute [local irreducible] own osl exA rdA rdL
attribute [local irreducible] bldA mapA bun mapS
set_option maxRecDepth 10000
set_option maxHeartbeats 4000000

theorem find_w (A : Option Addr) (c : Nat) (l : List Itm) (tv : Value) (x : Itm) (ht : ∃ B m d, tv = .slice B m d) : Trip Tryz.prog 28 [.agg #[.slice A l.length c, tv], .agg (encX x).toArray] ((kslice 16 kItm).rd [.slice A l.length c] l) [] (fun v V => v = .int .i64 (fndI l x) ∧ V = []) := by
  obtain ⟨B, m, d, rfl⟩ := ht
  refine trip Tryz.tabOk Tryz.func28 rfl rfl rfl rfl ?_
  rintro w SM ⟨A', c', e1, h1⟩
  cases e1
  unfold encX
  repeat' (first | refine e_nil ?_ | ((refine e_op ?_); (first | refine o_n (peval_sound rfl) rfl ?_ | refine o_box rfl rfl (fun _ => ?_))) | refine s_seq ?_ | refine s_region ?_ | refine s_block ?_)
  rename_i bS bX
  refine s_loopK (ι := {i : Nat // i ≤ l.length ∧ ∀ m (h : m < l.length), m < i → l[m] ≠ x}) [2, 3] rfl ⟨0, by omega, fun m _ h => absurd h (Nat.not_lt_zero _)⟩ (fun i => [(5, .int .i64 i.1)]) (fun _ => [blk bX 79 (encX x), blk bS 90 [.slice A l.length c, .slice B m d]]) (fun i => l.length - i.1) ?_ (Ent.refl _) ?_
  · repeat' (first | exact Sub.nil _ | refine Sub.cons rfl ?_)
  rintro ⟨i, hi, hno⟩
  simp only at hi hno ⊢
  unfold encX
  repeat' (first | refine e_nil ?_ | ((refine e_op ?_); (first | refine o_n (peval_sound rfl) rfl ?_ | refine o_n (nl rfl rfl tc rfl) rfl ?_)) | refine s_seq ?_ | refine s_region ?_)
  refine s_cond rfl (fun h => ?_) (fun h => ?_)
  · have hlt : i < l.length := by simpa using h
    obtain ⟨b, o, es, rfl, hb, hx, hc⟩ := h1.2.2 i hlt
    obtain ⟨rfl, _, _⟩ := kItm_open hx
    repeat' (first | refine s_seq ?_ | refine s_block ?_ | refine s_skip ?_)
    refine s_drawU [] Tryz.mixed (by decide +kernel) ?_
    repeat' (((first | refine l_n (peval_sound rfl) rfl ?_ rfl ?_ | refine l_n (nl rfl rfl tc rfl) rfl ?_ rfl ?_); · (exact Ent.refl _)))
    refine l_n (n_index rfl rfl rfl rfl i rfl hlt) rfl (Ent.refl _) rfl ?_
    refine l_n (n_load_ro rfl rfl hb (loads_agg rfl rfl hc)) rfl (Ent.refl _) rfl ?_
    repeat' (((refine l_n (nl rfl rfl tc rfl) rfl ?_ rfl ?_); · (exact Ent.refl _)))
    refine l_n (n_eql42 (a := l[i]) (b := x) rfl rfl) rfl (Ent.refl _) rfl ?_
    repeat' (refine l_nil ?_)
    cases h4 : decide (l[i] = x) with
    | true =>
      have h4 := of_decide_eq_true h4
      repeat' (first | refine e_nil ?_ | ((refine e_op ?_); (refine o_n (peval_sound rfl) rfl ?_)) | refine s_seq ?_ | refine s_region ?_ | refine s_true rfl ?_)
      refine s_ret ⟨_, _, res1 rfl rfl, ⟨?_, rfl⟩, Ent.nil _⟩
      have hm : x ∈ l := by rw [← h4]; exact List.getElem_mem hlt
      unfold fndI
      rw [if_pos hm, ix_first (u := l) hlt h4 hno]
    | false =>
      have h4 := of_decide_eq_false h4
      repeat' (first | refine e_nil ?_ | ((refine e_op ?_); (refine o_n (peval_sound rfl) rfl ?_)) | refine s_region ?_ | refine s_end ?_ | refine s_skip ?_ | refine s_false rfl ?_)
      refine s_back ⟨⟨i + 1, by omega, fun m hm hmi => ?_⟩, by simp only; omega, ?_, Ent.refl _⟩
      · by_cases e : m = i
        · subst e; exact h4
        · exact hno m hm (by omega)
      · repeat' (first | exact Sub.nil _ | refine Sub.cons rfl ?_ | refine Sub.consE rfl ?_ ?_)
        exact inc (i := i) (by have := h1.2.1; omega)
  · repeat' (first | refine e_nil ?_ | ((refine e_op ?_); (refine o_n (peval_sound rfl) rfl ?_)) | refine s_seq ?_ | refine s_region ?_ | refine s_exit ?_ | refine x_hit ?_ | refine x_code ?_ | refine x_back ?_)
    refine s_ret ⟨_, _, res1 rfl rfl, ⟨?_, rfl⟩, Ent.nil _⟩
    have hm : x ∉ l := fun hm => by
      obtain ⟨q, hq, e⟩ := List.getElem_of_mem hm
      exact hno q hq (by have h := of_decide_eq_false h; omega) e
    unfold fndI
    rw [if_neg hm]

end Go.Proofs.YtcnpjhaedjncdaaGreatDoor

namespace Go.Proofs.YtcnpjhaedjncdaaGreatDoor
set_option linter.all false
open Go.Proofs.YtcnpjhaedjncdaaGreatDoor.E

attribute [local irreducible] EVX EVO EVL EV1 NEV
attribute [local irreducible] own osl exA rdA rdL
attribute [local irreducible] bldA mapA bun mapS
set_option maxRecDepth 10000
set_option maxHeartbeats 4000000

end Go.Proofs.YtcnpjhaedjncdaaGreatDoor

namespace Go.Proofs.YtcnpjhaedjncdaaGreatDoor
set_option linter.all false
open Go.Proofs.YtcnpjhaedjncdaaGreatDoor.E

def emS : ByteArray := ⟨#[]⟩
abbrev zL : Lev := ⟨0, 0⟩
theorem td_nil {st : Stt} (h : st.td.isEmpty = true) : st.td = [] := List.isEmpty_iff.1 h
theorem laX_len {g : Gram} (h : lrE g = 0) : (laX g).length = (lrKs g).length := by rw [laX_ok h, XR_len]
theorem laX_row {g : Gram} (h : lrE g = 0) {i : Nat} (hi : i < (laX g).length) : (laX g)[i] = YR g i g.Prods.length := by
  have e := laX_ok h
  have : ∀ (X : List (List Bits)) (hi : i < X.length), X = XR g (lrKs g).length → X[i] = YR g i g.Prods.length := fun X hi e => by subst e; exact XR_get hi
  exact this _ hi e
theorem YR_get {g : Gram} {s k j : Nat} (h : j < (YR g s k).length) : (YR g s k)[j] = laRow g s j := by
  have h2 : j < ((List.range k).map fun j => laRow g s j).length := h
  show ((List.range k).map fun j => laRow g s j)[j] = _
  rw [List.getElem_map, List.getElem_range]

theorem laX_at {g : Gram} (h : lrE g = 0) {i j : Nat} (hi : i < (laX g).length) (hj : j < (laX g)[i].length) : (laX g)[i][j] = laRow g i j := by
  have e := laX_row h hi
  have : ∀ (R : List Bits) (hj : j < R.length), R = YR g i g.Prods.length → R[j] = laRow g i j := fun R hj e => by subst e; exact YR_get hj
  exact this _ hj e

end Go.Proofs.YtcnpjhaedjncdaaGreatDoor

namespace Go.Proofs.YtcnpjhaedjncdaaGreatDoor
set_option linter.all false
open Go.Proofs.YtcnpjhaedjncdaaGreatDoor.E

def encZ (x : Lev) : List Value := [.int .i64 x.N, .int .i64 x.Kind]

/-- The cells of productions whose right sides lie apart. -/
def prRow (ac : Option Addr × Nat) (p : Prd) : List Value := [.int .i64 p.Left, .slice ac.1 p.Right.length ac.2, .int .i64 p.L.N, .int .i64 p.L.Kind]
def prC (acs : List (Option Addr × Nat)) (ps : List Prd) : List Value := (List.zipWith prRow acs ps).flatten

abbrev prB (acs : List (Option Addr × Nat)) (ps : List Prd) : Asn := bun (rowX (fun l : List Int => l.map (Value.int .i64)) 1 3 acs (ps.map (·.Right)))
abbrev levZ (b : Nat) (l : List Lev) : Asn := osl 59 2 (sl b l.length) l.length (l.flatMap encZ)
abbrev prS (A : Option Addr) (c : Nat) (acs : List (Option Addr × Nat)) (ps : List Prd) : Asn := osl 61 4 (.slice A ps.length c) ps.length (prC acs ps)

/-- Numbers and lengths that fit. -/
structure PrOk (ps : List Prd) : Prop where
  n : ps.length ≤ 1000
  r : ∀ p ∈ ps, p.Right.length ≤ 1000 ∧ (∀ x ∈ p.Right, I64 x) ∧ I64 p.Left ∧ I64 p.L.N ∧ I64 p.L.Kind

end Go.Proofs.YtcnpjhaedjncdaaGreatDoor
