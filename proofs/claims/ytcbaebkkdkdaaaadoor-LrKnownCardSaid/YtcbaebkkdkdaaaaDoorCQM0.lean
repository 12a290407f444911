/-
  Items of one's own, cell by cell; a row of a bundle, read.
-/
import Derived.Test.YtcbaebkkdkdaaaaDoorLrBase5

namespace Go.Proofs.YtcbaebkkdkdaaaaDoor
set_option linter.all false
open Go.Proofs.YtcbaebkkdkdaaaaDoor.E

theorem encX_ldP {l : List Itm} {k : Nat} (hk : k < l.length) {b : Nat} {z : List Value} : loadL ⟨.int .i64, 1, b, z⟩ (l.flatMap encX) (0 + k * 2 + 0) = some (.int .i64 l[k].Prod) := by
  have h : (l.flatMap encX)[k * 2 + 0]? = (encX l[k])[0]? := by rw [← encX_get hk, List.getElem?_take_of_lt (by omega), List.getElem?_drop]
  unfold loadL
  simp only [aggB, cond_false]
  rw [Nat.zero_add, h]; rfl

theorem encX_ldD {l : List Itm} {k : Nat} (hk : k < l.length) {b : Nat} {z : List Value} : loadL ⟨.int .i64, 1, b, z⟩ (l.flatMap encX) (0 + k * 2 + 1) = some (.int .i64 l[k].Dot) := by
  have h : (l.flatMap encX)[k * 2 + 1]? = (encX l[k])[1]? := by rw [← encX_get hk, List.getElem?_take_of_lt (by omega), List.getElem?_drop]
  unfold loadL
  simp only [aggB, cond_false]
  rw [Nat.zero_add, h]; rfl

theorem can_row {E0 : Go.Proofs.YtcbaebkkdkdaaaaDoor.E.Env} {U U' : List Asn} {acs : List (Option Addr × Nat)} {KS : List (List Itm)} {GS : List (List Int)} (hl : acs.length = KS.length) (hN : LrNum KS GS) (ht : Tak (kerB acs KS) U U') {i : Nat} (hi : i < KS.length) :
    Go.Proofs.YtcbaebkkdkdaaaaDoor.E.Can E0 U ((kslice 16 kItm).rd [.slice (acs[i]'(hl ▸ hi)).1 KS[i].length (acs[i]'(hl ▸ hi)).2] KS[i]) :=
  can_brow hl ht hi fun E => can_items .z (hN.x _ (List.getElem_mem hi)) (hN.k _ (List.getElem_mem hi))

theorem one_itmX : OneC kItm := onec_iso (onec_pair onec_int onec_int)

end Go.Proofs.YtcbaebkkdkdaaaaDoor
