/-
  The engine, eleventh part: bytes to a string.
-/
import Derived.Test.YtbfjnldneemmiabE10
import Derived.Laws.BytesString
import Derived.Laws.Cells
namespace Go.Proofs.Ytbfjnldneemmiab.E
set_option linter.all false
variable {E : Env} {fr : Frm} {U : List Asn}

def strOf (ns : List Int) : ByteArray := ns.foldl (fun r n => r.push (UInt8.ofNat n.toNat)) ByteArray.empty

theorem n_str {src dst e : TypeId} {x : Operand} {s1 b1 s2 b2 s3 b3 : Nat} {z1 z2 z3 : List Value} {b n c : Nat} {ns : List Int} {U' : List Asn}
    (hx : val fr x = some (.slice (some ⟨b, 0, none⟩) n c)) (hs : tl E.T src = some ⟨.slice e, s1, b1, z1⟩) (he : tl E.T e = some ⟨.int .u8, s2, b2, z2⟩) (hd : tl E.T dst = some ⟨.str, s3, b3, z3⟩)
    (hU : Tak (osl e 1 (.slice (some ⟨b, 0, none⟩) n c) n (ns.map (Value.int .u8))) U U') : NEV E (.convert src dst x) fr U (.string (strOf ns)) := by
  intro a w dst' ty pos af g hf hm
  obtain ⟨S1, hP, _⟩ := hm.tak hU
  have hlen : ns.length = n := by have := hP.1.1; simpa using this
  have hc := osl_cells hP
  have hl : (loadCells ⟨b, 0, none⟩ n).run E.P w = .ok (ns.map (Value.int .u8)).toArray w := by
    have := run_loadCells_list (P := E.P) w ⟨b, 0, none⟩ (ns.map (Value.int .u8)) (fun j v hj => by
      have hplain : (⟨b, 0, none⟩ : Addr).add j = ⟨b, j, none⟩ := by unfold Addr.add; split <;> simp_all
      rw [hplain]
      exact hc j v hj)
    simpa [hlen] using this
  have h1 := run_convert_bytes_string (P := E.P) w src dst e (some ⟨b, 0, none⟩) n c (u_slice hs) (u_int he) (u_str hd)
  rw [run_bytesToString w _ n c ns hl] at h1
  simp [execOp, hf.eval hx, h1, strOf]

/-- Two strings, one behind the other. -/
theorem n_cat {x y : Operand} {t t2 : TypeId} {a b : ByteArray} (hx : val fr x = some (.string a)) (hy : val fr y = some (.string b)) (hl : a.size + b.size ≤ 9223372036854775807) :
    NEV E (.binOp .add t x y t2) fr U (.string (a ++ b)) := by
  intro ac w dst' ty pos af g hf hm
  have h1 : ¬ (((a.size + b.size : Nat) : Int) > IntKind.i64.max) := by
    have : IntKind.i64.max = 9223372036854775807 := by decide
    rw [this]; omega
  have h2 : (Op.stringOp .add a b).run E.P w = .ok (.string (a ++ b)) w := by
    unfold Op.stringOp
    simp only [if_neg h1]
    rfl
  simp [execOp, hf.eval hx, hf.eval hy, eqGuard, binOp, h2]

/-- An operation that acts behind a guard that lets it. -/
theorem a_1y {K : Frm → List Asn → Prop} {k : List It} {ops : Array Oper} {V : List Asn} {fuel : Nat} {done : List Nat} (i : Nat) {o : Oper} {j : Nat} {b : Bool} (hr : Region.ready .any ops (lset ops done) = [i]) (ho : ops[i]? = some o) (hg : o.guard = some (j, b))
    (hgv : gval ops fr j = some b) (h : EV1 E o fr U (fun fr' U' => Ent U' V ∧ EVA E K k ops V fuel (i :: done) fr' U')) : EVA E K k ops V (fuel + 1) done fr U := by
  intro a w hf hm
  refine wpAnyH_all hr (by simp) ?_
  intro q hq
  simp only [List.mem_singleton] at hq
  subst hq
  unfold wpOp
  have hw : Region.wanted o (yielded ops a.tmps) = true := by simp [Region.wanted, hg, gval_yielded hf hgv]
  simp only [ho, hw, if_true]
  refine .inl (Oper.wp_mono2 ?_ (h a w hf hm))
  rintro a' w' ⟨fr', U', ⟨he', hk⟩, hf', hm'⟩
  refine ⟨hm'.ent he', ?_⟩
  rw [lset_cons]
  exact hk a' w' hf' hm'

end Go.Proofs.Ytbfjnldneemmiab.E
