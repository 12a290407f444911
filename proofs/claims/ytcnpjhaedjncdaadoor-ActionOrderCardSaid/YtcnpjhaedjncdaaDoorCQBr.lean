/-
  A number brought between two.
-/
import Derived.Test.YtcnpjhaedjncdaaDoorAcBase2
import Derived.Test.YtcnpjhaedjncdaaDoorCE29

namespace Go.Proofs.YtcnpjhaedjncdaaDoor
set_option linter.all false
open Go.Proofs.YtcnpjhaedjncdaaDoor.E

def bringN (x m : Int) : Int := if m ≤ 0 then 0 else if x.tmod m < 0 then x.tmod m + m else x.tmod m

theorem tmod_gt (x : Int) {m : Int} (h : 0 < m) : -m < x.tmod m := by
  have h2 : (-x).tmod m = -(x.tmod m) := Int.neg_tmod x m
  have h3 := Int.tmod_lt_of_pos (-x) h
  omega

theorem bringN_rng {x m : Int} (h : 0 < m) : 0 ≤ bringN x m ∧ bringN x m < m := by
  unfold bringN
  rw [if_neg (by omega)]
  have h1 := Int.tmod_lt_of_pos x h
  by_cases hx : 0 ≤ x
  · have h2 := Int.tmod_nonneg m hx
    rw [if_neg (by omega)]; omega
  · have h2 : (-x).tmod m = -(x.tmod m) := Int.neg_tmod x m
    have h3 := Int.tmod_lt_of_pos (-x) h
    have h4 := Int.tmod_nonneg m (show 0 ≤ -x by omega)
    split <;> omega

attribute [local irreducible] EVX EVO EVL EV1 NEV
attribute [local irreducible] own osl exA rdA rdL
attribute [local irreducible] bldA mapA bun mapS
set_option maxRecDepth 10000
set_option maxHeartbeats 4000000

theorem bring_w (x m : Int) (hx : I64 x) (hm : I64 m) (hm0 : 0 < m) : Trip Tryd.prog 15 [.int .i64 x, .int .i64 m] Rd.tt [] (fun v V => v = .int .i64 (bringN x m) ∧ V = []) := by
  refine trip Tryd.tabOk Tryd.func15 rfl rfl rfl rfl ?_
  rintro w SM hW
  clear hW
  have hb : bringN x m = if x.tmod m < 0 then x.tmod m + m else x.tmod m := by unfold bringN; rw [if_neg (by omega)]
  have h1 := Int.tmod_lt_of_pos x hm0
  have h1' := tmod_gt x hm0
  unfold I64 at hm
  repeat' (first | refine e_nil ?_ | ((refine e_op ?_); (refine o_n (peval_sound rfl) rfl ?_)) | refine s_seq ?_ | refine s_region ?_)
  rw [decide_eq_false (p := m ≤ 0) (by omega)]
  repeat' (first | ((refine e_op ?_); (refine o_n (peval_sound rfl) rfl ?_)) | refine s_seq ?_ | refine s_region ?_ | refine s_skip ?_ | refine s_false rfl ?_)
  refine e_op (o_n (n_rem rfl rfl (by omega)) rfl ?_)
  repeat' (first | refine e_nil ?_ | ((refine e_op ?_); (refine o_n (peval_sound rfl) rfl ?_)) | refine s_seq ?_ | refine s_region ?_)
  refine s_cond rfl (fun h => ?_) (fun h => ?_)
  · have h2 := of_decide_eq_true h
    have hw : IntKind.i64.wrap (x.tmod m + m) = x.tmod m + m := by rw [wrap_i64] <;> omega
    repeat' (first | refine e_nil ?_ | ((refine e_op ?_); (refine o_n (peval_sound rfl) rfl ?_)) | refine s_seq ?_ | refine s_region ?_)
    rw [hw]
    refine s_ret ⟨_, _, res1 rfl rfl, ⟨?_, rfl⟩, Ent.nil _⟩
    rw [hb, if_pos h2]
  · have h2 := of_decide_eq_false h
    repeat' (first | refine e_nil ?_ | ((refine e_op ?_); (refine o_n (peval_sound rfl) rfl ?_)) | refine s_seq ?_ | refine s_region ?_ | refine s_skip ?_)
    refine s_ret ⟨_, _, res1 rfl rfl, ⟨?_, rfl⟩, Ent.nil _⟩
    rw [hb, if_neg h2]

end Go.Proofs.YtcnpjhaedjncdaaDoor
