/-
  The chapter's grammar.
-/
import Derived.Test.YtbfjnldneemmiaaV6
namespace Go.Proofs.Ytbfjnldneemmiaa
set_option linter.all false
open Go.Proofs.Ytbfjnldneemmiaa.E
attribute [local irreducible] EVX EVO EVL EV1 NEV
set_option maxRecDepth 10000
set_option maxHeartbeats 1000000

theorem p_w (l : Int) (A : Option Addr) (n c : Nat) : Trip Try.prog 41 [.int .i64 l, .slice A n c] Rd.tt [] (fun v V => v = .agg #[.int .i64 l, .slice A n c, .int .i64 0, .int .i64 0] ∧ V = []) := by
  refine trip Try.tabOk Try.func41 rfl rfl rfl rfl ?_
  intro w SM _
  repeat' (first | refine e_nil ?_ | ((first | refine e_op ?_ | refine e_yes rfl ?_); (first | refine o_n (peval_sound rfl) rfl ?_ | refine o_n (n_load rfl rfl .z rfl) rfl ?_ | refine o_n (n_load rfl rfl (.s .z) rfl) rfl ?_ | refine o_n (n_load rfl rfl (.s (.s .z)) rfl) rfl ?_ | refine o_n (n_load rfl rfl (.s (.s (.s .z))) rfl) rfl ?_ | refine o_n (n_load rfl rfl (.s (.s (.s (.s .z)))) rfl) rfl ?_ | refine o_n (n_load rfl rfl (.s (.s (.s (.s (.s .z))))) rfl) rfl ?_ | refine o_store rfl rfl rfl rfl rfl rfl rfl .z ?_ | refine o_store rfl rfl rfl rfl rfl rfl rfl (.s .z) ?_ | refine o_store rfl rfl rfl rfl rfl rfl rfl (.s (.s .z)) ?_ | refine o_store rfl rfl rfl rfl rfl rfl rfl (.s (.s (.s .z))) ?_ | refine o_store rfl rfl rfl rfl rfl rfl rfl (.s (.s (.s (.s .z)))) ?_ | refine o_store rfl rfl rfl rfl rfl rfl rfl (.s (.s (.s (.s (.s .z))))) ?_ | refine o_box rfl rfl (fun _ => ?_) | refine o_box1 rfl rfl rfl (fun _ => ?_) | refine o_alloc rfl rfl (fun _ => ?_))) | refine e_noU rfl rfl rfl ?_ | refine e_noN rfl rfl ?_ | refine s_seq ?_ | refine s_region ?_ | refine s_block ?_ | refine s_end ?_ | refine s_skip ?_ | refine s_exit ?_ | refine s_true rfl ?_ | refine s_false rfl ?_ | refine x_hit ?_ | refine x_code ?_ | refine x_back ?_ | refine x_miss rfl ?_)
  exact s_ret ⟨_, _, resc rfl rfl rfl .z rfl, ⟨rfl, rfl⟩, Ent.nil _⟩

def sl (b n : Nat) : Value := .slice (some ⟨b, 0, none⟩) n n
def pv (l : Int) (s : Value) : Value := .agg #[.int .i64 l, s, .int .i64 0, .int .i64 0]
def ints (b : Nat) (l : List Int) : Asn := osl 3 1 (sl b l.length) l.length (l.map (Value.int .i64))
def strs (b : Nat) (l : List ByteArray) : Asn := osl 9 1 (sl b l.length) l.length (l.map Value.string)
def sA : ByteArray := ⟨#[97]⟩
def sB : ByteArray := ⟨#[98]⟩
def s0 : ByteArray := ⟨#[]⟩
def nS : ByteArray := ⟨#[83]⟩
def nA : ByteArray := ⟨#[65]⟩
def levs (b : Nat) : Asn := osl 65 2 (sl b 3) 3 [.int .i64 0, .int .i64 0, .int .i64 0, .int .i64 0, .int .i64 0, .int .i64 0]
def prodC (b3 b5 b7 b9 : Nat) : List (List Value) :=
  [[.int .i64 0, sl b3 1, .int .i64 0, .int .i64 0], [.int .i64 1, sl b5 2, .int .i64 0, .int .i64 0], [.int .i64 1, sl b7 2, .int .i64 0, .int .i64 0], [.int .i64 2, sl b9 1, .int .i64 0, .int .i64 0], [.int .i64 2, .slice none 0 0, .int .i64 0, .int .i64 0]]
def prodsA (b12 b3 b5 b7 b9 : Nat) : Asn := osl 67 4 (sl b12 5) 5 (prodC b3 b5 b7 b9).flatten
def chapC (b0 b1 b2 b12 : Nat) : List Value := [sl b0 3, sl b1 3, .slice none 0 0, sl b2 3, sl b12 5]

def chapMs : List Mk := [
  ⟨1, [0], fun l => sl (l.getD 0 0) 3, fun l => [strs (l.getD 0 0) [s0, sA, sB]]⟩,
  ⟨2, [1], fun l => sl (l.getD 0 0) 3, fun l => [levs (l.getD 0 0)]⟩,
  ⟨3, [2], fun l => sl (l.getD 0 0) 3, fun l => [strs (l.getD 0 0) [s0, nS, nA]]⟩,
  ⟨4, [3], fun l => sl (l.getD 0 0) 1, fun l => [ints (l.getD 0 0) [4]]⟩,
  ⟨5, [3], fun l => pv 0 (sl (l.getD 0 0) 1), fun _ => []⟩,
  ⟨6, [5], fun l => sl (l.getD 0 0) 2, fun l => [ints (l.getD 0 0) [5, 2]]⟩,
  ⟨7, [5], fun l => pv 1 (sl (l.getD 0 0) 2), fun _ => []⟩,
  ⟨8, [7], fun l => sl (l.getD 0 0) 2, fun l => [ints (l.getD 0 0) [4, 1]]⟩,
  ⟨9, [7], fun l => pv 1 (sl (l.getD 0 0) 2), fun _ => []⟩,
  ⟨10, [9], fun l => sl (l.getD 0 0) 1, fun l => [ints (l.getD 0 0) [1]]⟩,
  ⟨11, [9], fun l => pv 2 (sl (l.getD 0 0) 1), fun _ => []⟩,
  ⟨12, [], fun _ => pv 2 (.slice none 0 0), fun _ => []⟩,
  ⟨13, [12, 3, 5, 7, 9], fun l => sl (l.getD 0 0) 5, fun l => [prodsA (l.getD 0 0) (l.getD 1 0) (l.getD 2 0) (l.getD 3 0) (l.getD 4 0)]⟩,
  ⟨14, [0, 1, 2, 12], fun l => .agg (chapC (l.getD 0 0) (l.getD 1 0) (l.getD 2 0) (l.getD 3 0)).toArray, fun _ => []⟩]

def chapO (b0 b1 b2 b3 b5 b7 b9 b12 : Nat) : List Asn := [strs b0 [s0, sA, sB], levs b1, strs b2 [s0, nS, nA], ints b3 [4], ints b5 [5, 2], ints b7 [4, 1], ints b9 [1], prodsA b12 b3 b5 b7 b9]

theorem chapter_w : Trip Try.prog 40 [] Rd.tt [] (fun v V => ∃ b0 b1 b2 b3 b5 b7 b9 b12, v = .agg (chapC b0 b1 b2 b12).toArray ∧ V = chapO b0 b1 b2 b3 b5 b7 b9 b12) := by
  refine trip Try.tabOk Try.func40 rfl rfl rfl rfl ?_
  intro w SM _
  repeat' (first | refine e_nil ?_ | ((first | refine e_op ?_ | refine e_yes rfl ?_); (first | refine o_n (peval_sound rfl) rfl ?_ | refine o_n (n_load rfl rfl .z rfl) rfl ?_ | refine o_n (n_load rfl rfl (.s .z) rfl) rfl ?_ | refine o_n (n_load rfl rfl (.s (.s .z)) rfl) rfl ?_ | refine o_n (n_load rfl rfl (.s (.s (.s .z))) rfl) rfl ?_ | refine o_n (n_load rfl rfl (.s (.s (.s (.s .z)))) rfl) rfl ?_ | refine o_n (n_load rfl rfl (.s (.s (.s (.s (.s .z))))) rfl) rfl ?_ | refine o_store rfl rfl rfl rfl rfl rfl rfl .z ?_ | refine o_store rfl rfl rfl rfl rfl rfl rfl (.s .z) ?_ | refine o_store rfl rfl rfl rfl rfl rfl rfl (.s (.s .z)) ?_ | refine o_store rfl rfl rfl rfl rfl rfl rfl (.s (.s (.s .z))) ?_ | refine o_store rfl rfl rfl rfl rfl rfl rfl (.s (.s (.s (.s .z)))) ?_ | refine o_store rfl rfl rfl rfl rfl rfl rfl (.s (.s (.s (.s (.s .z))))) ?_ | refine o_box rfl rfl (fun _ => ?_) | refine o_box1 rfl rfl rfl (fun _ => ?_) | refine o_alloc rfl rfl (fun _ => ?_))) | refine e_noU rfl rfl rfl ?_ | refine e_noN rfl rfl ?_ | refine s_seq ?_ | refine s_region ?_ | refine s_block ?_ | refine s_end ?_ | refine s_skip ?_ | refine s_exit ?_ | refine s_true rfl ?_ | refine s_false rfl ?_ | refine x_hit ?_ | refine x_code ?_ | refine x_back ?_ | refine x_miss rfl ?_)
  rename_i b
  refine s_mk chapMs Try.mixed (by kernel_rfl) ?_ rfl ?_
  · intro i hi
    match i, hi with
    | 0, _ => exact mk_step [] rfl rfl rfl (by decide +kernel) (fun B U => o_lit rfl rfl rfl rfl rfl rfl rfl (fun b => ⟨b, rfl, Ent.refl _⟩))
    | 1, _ => exact mk_step [] rfl rfl rfl (by decide +kernel) (fun B U => o_makeS rfl rfl rfl rfl 3 rfl rfl (by decide) (by decide) rfl rfl (fun b => ⟨b, rfl, Ent.refl _⟩))
    | 2, _ => exact mk_step [] rfl rfl rfl (by decide +kernel) (fun B U => o_lit rfl rfl rfl rfl rfl rfl rfl (fun b => ⟨b, rfl, Ent.refl _⟩))
    | 3, _ => exact mk_step [] rfl rfl rfl (by decide +kernel) (fun B U => o_lit rfl rfl rfl rfl rfl rfl rfl (fun b => ⟨b, rfl, Ent.refl _⟩))
    | 4, _ => exact mk_step [3] rfl rfl rfl (by decide +kernel) (fun B U => o_call (p_w _ _ _ _) rfl .nil Can.tt rfl (by rintro v V ⟨rfl, rfl⟩; exact ⟨0, rfl, Ent.refl _⟩))
    | 5, _ => exact mk_step [] rfl rfl rfl (by decide +kernel) (fun B U => o_lit rfl rfl rfl rfl rfl rfl rfl (fun b => ⟨b, rfl, Ent.refl _⟩))
    | 6, _ => exact mk_step [5] rfl rfl rfl (by decide +kernel) (fun B U => o_call (p_w _ _ _ _) rfl .nil Can.tt rfl (by rintro v V ⟨rfl, rfl⟩; exact ⟨0, rfl, Ent.refl _⟩))
    | 7, _ => exact mk_step [] rfl rfl rfl (by decide +kernel) (fun B U => o_lit rfl rfl rfl rfl rfl rfl rfl (fun b => ⟨b, rfl, Ent.refl _⟩))
    | 8, _ => exact mk_step [7] rfl rfl rfl (by decide +kernel) (fun B U => o_call (p_w _ _ _ _) rfl .nil Can.tt rfl (by rintro v V ⟨rfl, rfl⟩; exact ⟨0, rfl, Ent.refl _⟩))
    | 9, _ => exact mk_step [] rfl rfl rfl (by decide +kernel) (fun B U => o_lit rfl rfl rfl rfl rfl rfl rfl (fun b => ⟨b, rfl, Ent.refl _⟩))
    | 10, _ => exact mk_step [9] rfl rfl rfl (by decide +kernel) (fun B U => o_call (p_w _ _ _ _) rfl .nil Can.tt rfl (by rintro v V ⟨rfl, rfl⟩; exact ⟨0, rfl, Ent.refl _⟩))
    | 11, _ => exact mk_step [] rfl rfl rfl (by decide +kernel) (fun B U => o_call (p_w _ _ _ _) rfl .nil Can.tt rfl (by rintro v V ⟨rfl, rfl⟩; exact ⟨0, rfl, Ent.refl _⟩))
    | 12, _ => exact mk_step [4, 6, 8, 10, 11] rfl rfl rfl (by decide +kernel) (fun B U => o_lit (ps := [(0, pv 0 (sl (B 3) 1)), (1, pv 1 (sl (B 5) 2)), (2, pv 1 (sl (B 7) 2)), (3, pv 2 (sl (B 9) 1)), (4, pv 2 (.slice none 0 0))]) (cs := (prodC (B 3) (B 5) (B 7) (B 9)).flatten) rfl rfl (by kernel_rfl) rfl rfl (by kernel_rfl) rfl (fun b => ⟨b, rfl, Ent.refl _⟩))
    | 13, _ => exact mk_step [0, 1, 2, 12] rfl rfl rfl (by decide +kernel) (fun B U => o_n (peval_sound rfl) rfl ⟨0, rfl, Ent.refl _⟩)
    | n + 14, h => exact absurd h (by simp [chapMs])
  · intro B
    refine o_store (b := b) (o := 0) (vs := chapC (B 0) (B 1) (B 2) (B 12)) rfl rfl rfl rfl rfl rfl rfl (.s (.s (.s (.s (.s (.s (.s (.s .z)))))))) ?_
    repeat' (first | refine e_nil ?_ | ((first | refine e_op ?_ | refine e_yes rfl ?_); (first | refine o_n (peval_sound rfl) rfl ?_ | refine o_n (n_load rfl rfl .z rfl) rfl ?_ | refine o_n (n_load rfl rfl (.s .z) rfl) rfl ?_ | refine o_n (n_load rfl rfl (.s (.s .z)) rfl) rfl ?_ | refine o_n (n_load rfl rfl (.s (.s (.s .z))) rfl) rfl ?_ | refine o_n (n_load rfl rfl (.s (.s (.s (.s .z)))) rfl) rfl ?_ | refine o_n (n_load rfl rfl (.s (.s (.s (.s (.s .z))))) rfl) rfl ?_ | refine o_store rfl rfl rfl rfl rfl rfl rfl .z ?_ | refine o_store rfl rfl rfl rfl rfl rfl rfl (.s .z) ?_ | refine o_store rfl rfl rfl rfl rfl rfl rfl (.s (.s .z)) ?_ | refine o_store rfl rfl rfl rfl rfl rfl rfl (.s (.s (.s .z))) ?_ | refine o_store rfl rfl rfl rfl rfl rfl rfl (.s (.s (.s (.s .z)))) ?_ | refine o_store rfl rfl rfl rfl rfl rfl rfl (.s (.s (.s (.s (.s .z))))) ?_ | refine o_box rfl rfl (fun _ => ?_) | refine o_box1 rfl rfl rfl (fun _ => ?_) | refine o_alloc rfl rfl (fun _ => ?_))) | refine e_noU rfl rfl rfl ?_ | refine e_noN rfl rfl ?_ | refine s_seq ?_ | refine s_region ?_ | refine s_block ?_ | refine s_end ?_ | refine s_skip ?_ | refine s_exit ?_ | refine s_true rfl ?_ | refine s_false rfl ?_ | refine x_hit ?_ | refine x_code ?_ | refine x_back ?_ | refine x_miss rfl ?_)
    refine s_ret ⟨_, _, resc rfl rfl rfl (.s (.s (.s (.s (.s (.s (.s (.s .z)))))))) rfl, ⟨B 0, B 1, B 2, B 3, B 5, B 7, B 9, B 12, rfl, rfl⟩, ?_⟩
    exact Ent.tak .z (Ent.tak .z (Ent.tak .z (Ent.tak .z (Ent.tak .z (Ent.tak .z (Ent.tak .z (Ent.tak .z (Ent.nil _))))))))

end Go.Proofs.Ytbfjnldneemmiaa
