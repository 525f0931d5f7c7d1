/- The exported functions of the list of places, the rest. Conditions: slots in range. -/
import Derived.Test.YtjjgefcjjpckfaaLruB
namespace Go.Proofs.Ytjjgefcjjpckfaa
open Go.RowKit

def LL.fresh (n : Int) : LL := { n := n, len := 0, next := fun _ => 0, prev := fun _ => 0, inn := fun _ => false }
theorem fresh_build (n : Int) (w : World) : (Instr.build 50 #[(0, .int .i64 n)]).run Try.prog w = .ok (.agg (LL.fresh n).cells) w := by kernel_rfl

theorem LL.one (L : LL) : ∀ v ∈ L.cells, v.oneCell' = true := by
  intro v hv
  obtain ⟨i, hi, rfl⟩ := Array.mem_iff_getElem.1 hv
  simp only [LL.cells, Array.getElem_ofFn, LL.cell]
  split <;> (try split) <;> (try split) <;> (try split) <;> rfl

set_option maxHeartbeats 400000 in
set_option maxRecDepth 100000 in
theorem new_bad (n : Int) (hn : ¬ (0 ≤ n ∧ n ≤ 256)) (w : World) :
    Calls Try.prog 20 #[.int .i64 n] w fun e w' => e = .returned (.tuple #[.pointer none, .int .i64 1]) ∧ w = w' := by
  by_cases h : n < 0
  · go_enter Try.func20, Try.ntmps20
    go_wp2
    go_ret2
    exact ⟨rfl, rfl⟩
  · have h2 : 256 < n := by omega
    clear hn
    go_enter Try.func20, Try.ntmps20
    go_wp2
    go_ret2
    exact ⟨rfl, rfl⟩

set_option maxHeartbeats 400000 in
set_option maxRecDepth 100000 in
theorem new_ok (n : Int) (h0 : 0 ≤ n) (h1 : n ≤ 256) (w : World) :
    Calls Try.prog 20 #[.int .i64 n] w fun e w' => e = .returned (.tuple #[At w.heap.size, .int .i64 0]) ∧ w.alloc (.cells (LL.fresh n).cells 50) = w' := by
  go_enter Try.func20, Try.ntmps20
  go_wp2_with (first | (refine wpList_run rfl _ _ (run_op_build 50 #[(0, .tmp 10)] rfl _ #[(0, .int .i64 n)] (by simp [Act.eval]) _ (fresh_build n _)) ?_) | (refine wpList_run rfl _ _ (run_op_box 50 (.tmp 11) rfl _ (LL.fresh n).cells rfl) ?_))
  go_ret2
  exact ⟨rfl, rfl⟩

set_option maxHeartbeats 400000 in
theorem copy_nil (w : World) :
    Calls Try.prog 13 #[.pointer none] w fun e w' => e = .returned (.pointer none) ∧ w = w' := by
  go_enter Try.func13, Try.ntmps13
  go_wp2
  go_ret
  exact ⟨rfl, rfl⟩

set_option maxHeartbeats 400000 in
set_option maxRecDepth 100000 in
theorem copy_ok (b : Nat) (L : LL) (w : World) (hL : IsL w b L) :
    Calls Try.prog 13 #[At b] w fun e w' => e = .returned (At w.heap.size) ∧ w.alloc (.cells L.cells 50) = w' := by
  have e0 : L.cells.extract 0 (0 + 773) = L.cells := by simp [LL.cells]
  go_enter Try.func13, Try.ntmps13
  go_wp2_with (first | (refine wpList_load_part rfl 50 (.tmp 7) rfl b 0 773 rfl 50 L.cells _ hL Try.underlying50 rfl (by kernel_rfl) (by rw [L.size]; omega) ?_; rw [e0]) | (refine wpList_alloc_store 50 3 rfl rfl rfl rfl (.tmp 8) rfl rfl (by simp [Act.put]) 773 (by kernel_rfl) L.cells rfl L.size L.one ?_))
  go_ret
  exact ⟨rfl, rfl⟩

set_option maxHeartbeats 400000 in
theorem len_nil (w : World) :
    Calls Try.prog 19 #[.pointer none] w fun e w' => e = .returned (.int .i64 0) ∧ w = w' := by
  go_enter Try.func19, Try.ntmps19
  go_wp2
  go_ret
  exact ⟨rfl, rfl⟩
set_option maxHeartbeats 400000 in
theorem len_ok (b : Nat) (L : LL) (w : World) (hL : IsL w b L) :
    Calls Try.prog 19 #[At b] w fun e w' => e = .returned (.int .i64 L.len) ∧ w = w' := by
  have h1 := hL.len
  go_enter Try.func19, Try.ntmps19
  go_wp2
  go_ret
  exact ⟨rfl, rfl⟩
end Go.Proofs.Ytjjgefcjjpckfaa
