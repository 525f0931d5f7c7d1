/- One round, as the document has it. Conditions: numbers below 2^64. -/
import Derived.Test.YtjabpekndgnhmaaSipS
namespace Go.Proofs.Ytjabpekndgnhmaa
open Go.RowKit

def V4.vals (v : V4) : Array Value := #[.int .u64 v.a, .int .u64 v.b, .int .u64 v.c, .int .u64 v.d]
theorem add_walk (x y : Nat) : IntKind.u64.wrap ((x : Int) + (y : Int)) = (addM x y : Nat) := by
  rw [IntKind.wrap_u64, addM_eq]; unfold addC M64; omega
theorem xor_walk (x y : Nat) (hx : x < M64) (hy : y < M64) : bits .xor .u64 (x : Int) (y : Int) = ((xorM x y : Nat) : Int) := by
  rw [xorM_eq]; exact u64_xor_nat x y hx hy

set_option maxHeartbeats 400000 in
theorem turn_any (x n : Nat) (hx : x < M64) (hn : 1 ≤ n) (hn2 : n ≤ 63) (w : World) :
    Calls Try.prog 23 #[.int .u64 x, .int .u64 n] w fun e w' => e = .returned (.int .u64 (rotl x n : Nat)) ∧ w' = w := by
  have HR := Lib.hid (rotl_walk x n hx)
  have HX := Lib.hid hx
  clear hx
  go_enter Try.func23, Try.ntmps23
  go_wp2
  go_ret
  exact ⟨ret_int HR.out, rfl⟩

set_option maxHeartbeats 1000000 in
set_option maxRecDepth 100000 in
theorem round_any (v : V4) (h : v.Ok) (w : World) :
    Calls Try.prog 18 #[.agg v.vals] w fun e w' => e = .returned (.agg (rnd v).vals) ∧ Kept w w' := by
  obtain ⟨a, b, c, d⟩ := v
  obtain ⟨ha, hb, hc, hd⟩ := h
  have ha1 := addM_lt a b
  have hb1 := xor_lt (rotl_lt (n := 13) hb) ha1
  have hc1 := addM_lt c d
  have hd1 := xor_lt (rotl_lt (n := 16) hd) hc1
  have hc2 := addM_lt (addM c d) (xorM (rotl b 13) (addM a b))
  show Calls Try.prog 18 #[.agg #[.int .u64 a, .int .u64 b, .int .u64 c, .int .u64 d]] w _
  have A1 := add_walk
  have X1 := xor_walk
  have B1 := addM_lt
  have R1 := @rotl_lt
  go_enter Try.func18, Try.ntmps18
  go_wp2_with fail
  refine region_tail 7 (by kernel_rfl) (by kernel_rfl) ?_
  simp only [List.take_succ_cons, List.take_zero, List.drop_succ_cons, List.drop_zero]
  repeat (first | still_step | still_call (turn_any _ 13 hb (by omega) (by omega) _))
  refine wpStill_nil ?_
  go_wp2_with fail
  refine (turn_any _ 32 ha1 (by omega) (by omega) _).mono ?_
  rintro e w1 ⟨rfl, rfl⟩
  go_wp2_with fail
  refine region_tail 7 (by kernel_rfl) (by kernel_rfl) ?_
  simp only [List.take_succ_cons, List.take_zero, List.drop_succ_cons, List.drop_zero]
  repeat (first | still_step | still_call (turn_any _ 16 hd (by omega) (by omega) _))
  refine wpStill_nil ?_
  go_wp2_with fail
  refine region_tail 7 (by kernel_rfl) (by kernel_rfl) ?_
  simp only [List.take_succ_cons, List.take_zero, List.drop_succ_cons, List.drop_zero]
  repeat (first | still_step | still_call (turn_any _ 21 hd1 (by omega) (by omega) _))
  refine wpStill_nil ?_
  go_wp2_with fail
  refine region_tail 7 (by kernel_rfl) (by kernel_rfl) ?_
  simp only [List.take_succ_cons, List.take_zero, List.drop_succ_cons, List.drop_zero]
  repeat (first | still_step | still_call (turn_any _ 17 hb1 (by omega) (by omega) _))
  refine wpStill_nil ?_
  go_wp2_with fail
  refine (turn_any _ 32 hc2 (by omega) (by omega) _).mono ?_
  rintro e w1 ⟨rfl, rfl⟩
  go_wp2_with fail
  refine bodyPost_ret (v := .agg (rnd ⟨a, b, c, d⟩).vals) ?_ rfl ⟨rfl, (((Kept.refl _).alloc _).alloc _).drew.drew.drew.drew⟩
  simp [results, Try.results18, go_sem]
  rfl
end Go.Proofs.Ytjabpekndgnhmaa
