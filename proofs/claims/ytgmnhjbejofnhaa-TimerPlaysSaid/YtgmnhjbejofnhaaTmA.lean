/- Where a thing stands: the closure that asks its number, which of two is ahead. No conditions. -/
import Derived.Test.YtgmnhjbejofnhaaTmS
import Derived.Test.YtgmnhjbejofnhaaApp
namespace Go.Proofs.Ytgmnhjbejofnhaa
open Go.RowKit

set_option maxHeartbeats 400000 in
theorem name_c (a b c : Int) (w : World) :
    Calls Try.prog 36 #[.agg #[.int .i64 a, .int .i64 b, .int .i64 c]] w fun e w' => e = .returned (.int .i64 a) ∧ Kept w w' := by
  go_enter Try.func36, Try.ntmps36
  go_wp2_with (refine wpList_run rfl _ _ (run_op_box 62 (.tmp 0) rfl _ #[.int .i64 a, .int .i64 b, .int .i64 c] rfl) ?_)
  go_ret
  exact ⟨rfl, (Mod.refl _ _).alloc _⟩
set_option maxHeartbeats 400000 in
theorem turn_c (a b c : Int) (w : World) :
    Calls Try.prog 56 #[.agg #[.int .i64 a, .int .i64 b, .int .i64 c]] w fun e w' => e = .returned (.int .i64 b) ∧ Kept w w' := by
  go_enter Try.func56, Try.ntmps56
  go_wp2_with (refine wpList_run rfl _ _ (run_op_box 62 (.tmp 0) rfl _ #[.int .i64 a, .int .i64 b, .int .i64 c] rfl) ?_)
  go_ret
  exact ⟨rfl, (Mod.refl _ _).alloc _⟩
set_option maxHeartbeats 400000 in
theorem when_c (a b c : Int) (w : World) :
    Calls Try.prog 57 #[.agg #[.int .i64 a, .int .i64 b, .int .i64 c]] w fun e w' => e = .returned (.int .i64 c) ∧ Kept w w' := by
  go_enter Try.func57, Try.ntmps57
  go_wp2_with (refine wpList_run rfl _ _ (run_op_box 62 (.tmp 0) rfl _ #[.int .i64 a, .int .i64 b, .int .i64 c] rfl) ?_)
  go_ret
  exact ⟨rfl, (Mod.refl _ _).alloc _⟩
set_option maxHeartbeats 1000000 in
theorem closure_c (a b c : Int) (B : Nat) (id : Int) (w : World) (hB : w.cell? ⟨B, 0, none⟩ = some (.int .i64 id)) :
    Calls Try.prog 35 #[.agg #[.int .i64 a, .int .i64 b, .int .i64 c], .pointer (some ⟨B, 0, none⟩)] w fun e w' => e = .returned (.bool (a == id)) ∧ Kept w w' := by
  have hlt := block_lt_of_cell hB
  have hL : (loadVar 62 ⟨w.heap.size, 0, none⟩).run Try.prog (w.alloc (.cells #[.int .i64 a, .int .i64 b, .int .i64 c] 62)) = .ok (.agg #[.int .i64 a, .int .i64 b, .int .i64 c]) (w.alloc (.cells #[.int .i64 a, .int .i64 b, .int .i64 c] 62)) :=
    run_loadVar_part _ w.heap.size 0 3 62 62 _ _ (Blk.new _ _ _) Try.underlying62 rfl (by kernel_rfl) (by simp)
  have hC := (((Mod.refl (fun _ => False) w).alloc (.cells #[.int .i64 a, .int .i64 b, .int .i64 c] 62)).cell (p := ⟨B, 0, none⟩) hlt (fun e => e)).trans hB
  go_enter Try.func35, Try.ntmps35
  go_wp2_with (first | (refine wpList_run rfl _ _ (run_op_box 62 (.tmp 0) rfl _ #[.int .i64 a, .int .i64 b, .int .i64 c] rfl) ?_) | fail)
  go_region_with (go_at_call 36; refine (name_c a b c _).mono ?_; rintro e w1 ⟨rfl, hm1⟩; have hC1 := (hm1.cell (p := ⟨B, 0, none⟩) (by simp; omega) (fun e => e)).trans hC)
  all_goals (go_wp2; go_ret; exact ⟨rfl, (((Mod.refl _ _).alloc _).drew).then hm1⟩)

theorem meth_when (cs : Array Value) (w : World) : (method 193 62 (.agg cs) "hustings/timer.when").run Try.prog w = .ok (57, .agg cs) w := by kernel_rfl
theorem meth_turn (cs : Array Value) (w : World) : (method 193 62 (.agg cs) "hustings/timer.turn").run Try.prog w = .ok (56, .agg cs) w := by kernel_rfl
set_option maxHeartbeats 1000000 in
theorem ahead_c (x y : Th) (w : World) :
    Calls Try.prog 30 #[.iface 62 (.agg #[.int .i64 x.id, .int .i64 x.no, .int .i64 x.rd]), .iface 62 (.agg #[.int .i64 y.id, .int .i64 y.no, .int .i64 y.rd])] w fun e w' => e = .returned (.bool (aheadT x y)) ∧ Kept w w' := by
  have m1 := meth_when
  have m2 := meth_turn
  have hk : Kept w w := Mod.refl _ w
  unfold aheadT
  obtain ⟨xi, xn, xr⟩ := x
  obtain ⟨yi, yn, yr⟩ := y
  dsimp only
  by_cases h1 : xr < yr
  · have d1 : decide (xr < yr) = true := by simpa using h1
    have d2 : (xr == yr) = false := by simp; omega
    rw [d1]
    go_enter Try.func30, Try.ntmps30
    go_wp2_with (go_at_call 57; refine (when_c _ _ _ _).mono ?_; rintro e w1 ⟨rfl, hm1⟩; replace hk := hk.then hm1; clear hm1)
    go_ret
    exact ⟨rfl, hk⟩
  · have d1 : decide (xr < yr) = false := by simpa using h1
    by_cases h2 : xr = yr
    · have d2 : (xr == yr) = true := by simpa using h2
      rw [d1, d2]
      go_enter Try.func30, Try.ntmps30
      go_wp2_with (first | (go_at_call 57; refine (when_c _ _ _ _).mono ?_; rintro e w1 ⟨rfl, hm1⟩; replace hk := hk.then hm1; clear hm1) | (go_at_call 56; refine (turn_c _ _ _ _).mono ?_; rintro e w1 ⟨rfl, hm1⟩; replace hk := hk.then hm1; clear hm1) | fail)
      go_ret
      exact ⟨rfl, hk⟩
    · have d2 : (xr == yr) = false := by simpa using h2
      rw [d1, d2]
      go_enter Try.func30, Try.ntmps30
      go_wp2_with (go_at_call 57; refine (when_c _ _ _ _).mono ?_; rintro e w1 ⟨rfl, hm1⟩; replace hk := hk.then hm1; clear hm1)
      go_ret
      exact ⟨rfl, hk⟩
end Go.Proofs.Ytgmnhjbejofnhaa
