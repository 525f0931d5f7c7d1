/- The exported functions of the list of places: Drop, Has, Oldest, Newest. Conditions: slots in range. -/
import Derived.Test.YtjjgefcjjpckfaaLruC
namespace Go.Proofs.Ytjjgefcjjpckfaa
open Go.RowKit

set_option maxHeartbeats 400000 in
theorem drop_nil (i : Int) (w : World) :
    Calls Try.prog 14 #[.pointer none, .int .i64 i] w fun e w' => e = .returned (.bool false) ∧ w = w' := by
  have H := Lib.hid (is_nil i)
  go_enter Try.func14, Try.ntmps14
  go_wp2_with (go_at_call 27; refine (H.out _).mono ?_; rintro e w1 ⟨rfl, rfl⟩)
  go_ret
  exact ⟨rfl, rfl⟩
set_option maxHeartbeats 400000 in
theorem drop_bad (b : Nat) (L : LL) (i : Int) (hi : ¬ (0 ≤ i ∧ i < L.n)) (w : World) (hL : IsL w b L) :
    Calls Try.prog 14 #[At b, .int .i64 i] w fun e w' => e = .returned (.bool false) ∧ w = w' := by
  have hd : decide (0 ≤ i ∧ i < L.n) = false := by simpa using hi
  have h := is_any b L i w hL
  rw [hd] at h
  have H := Lib.hid h
  clear h hd hi
  go_enter Try.func14, Try.ntmps14
  go_wp2_with (go_at_call 27; refine H.out.mono ?_; rintro e w1 ⟨rfl, rfl⟩)
  go_ret
  exact ⟨rfl, rfl⟩

theorem LL.nexts (L : LL) (j : Nat) (hj : j < 257) : (L.cells.extract 2 259)[j]? = some (.int .i64 (L.next j)) := by
  rw [Array.getElem?_extract, if_pos (by rw [L.size]; omega)]
  exact L.get_next hj

set_option maxHeartbeats 1000000 in
set_option maxRecDepth 100000 in
theorem drop_ok (b : Nat) (L : LL) (hk : L.Ok) (s : Nat) (hi : (s : Int) < L.n) (r : Bool) (hr : r = true ↔ ∀ j, j < 257 → ((L.out (s + 1)).next j : Int) = (L.next j : Int)) (w : World) (hL : IsL w b L) :
    Calls Try.prog 14 #[At b, .int .i64 s] w fun e w' =>
      e = .returned (.bool (!r)) ∧ IsL w' b (L.out (s + 1)) ∧ Mod (Only b) w w' := by
  have hn1 := hk.n1
  have hs : s + 1 < 257 := by omega
  have hd : decide (0 ≤ (s : Int) ∧ (s : Int) < L.n) = true := by simp; omega
  have h := is_any b L s w hL
  rw [hd] at h
  have H := Lib.hid h
  have HK := Lib.hid hk
  have HR := Lib.hid hr
  have hone : ∀ v ∈ L.cells.extract 2 (2 + 257), v.oneCell' = true := fun v hv => by
    obtain ⟨j, hj, rfl⟩ := Array.mem_iff_getElem.1 hv
    rw [Array.getElem_extract]
    exact L.one _ (Array.getElem_mem _)
  have HO := Lib.hid hone
  clear h hd hk hr hone
  go_enter Try.func14, Try.ntmps14
  go_wp2_with (first | (go_at_call 27; refine H.out.mono ?_; rintro e w1 ⟨rfl, rfl⟩) | (go_at_call 28; fail) | (refine wpList_load_part rfl 47 (.tmp 12) rfl b 2 257 rfl 50 L.cells _ hL Try.underlying47 rfl (by kernel_rfl) (by rw [L.size]; omega) ?_) | (refine wpList_alloc_store 47 5 rfl rfl rfl rfl (.tmp 13) rfl rfl (by simp [Act.put]) 257 (by kernel_rfl) (L.cells.extract 2 (2 + 257)) rfl (by simp [L.size]) HO.out ?_))
  have hb := hL.lt
  have hX : Blk (w.alloc (.cells (L.cells.extract 2 (2 + 257)) 47)) w.heap.size 47 (L.cells.extract 2 (2 + 257)) := Blk.new _ _ _
  refine (out_at b L HK.out (s + 1) _ (by omega) hs _ (hL.alloc _)).mono ?_
  rintro e w1 ⟨rfl, hL1, hm1⟩
  have hX1 := hX.mod hm1 (fun e => by simp only [Only] at e; omega)
  have hm0 : Mod (Only b) w w1 := ((Mod.refl _ _).alloc _).then hm1
  clear hX hm1 hb hn1
  go_wp2_with (fail)
  refine wp_region_quiet_lit (by kernel_rfl) (by kernel_rfl) ?_
  quiet_step (fail)
  quiet_step (fail)
  quiet_step (fail)
  refine BigFrame.wpQuiet_want rfl (fun K hK => ?_)
  refine quiet_load_part 47 (.tmp 20) rfl b 2 257 rfl 50 (L.out (s + 1)).cells _ hL1 Try.underlying47 rfl (by kernel_rfl) (by rw [LL.size]; omega) (hK _ ?_)
  clear hK K
  refine BigFrame.wpQuiet_want rfl (fun K hK => ?_)
  refine quiet_load_part 47 (.tmp 5) rfl w.heap.size 0 257 rfl 47 _ _ hX1 Try.underlying47 rfl (by kernel_rfl) (by simp [L.size]) (hK _ ?_)
  clear hK K
  refine BigFrame.wpQuiet_want rfl (fun K hK => ?_)
  refine quiet_of_run (.bool (!r)) (fun W => run_op_neq_ints 47 3 257 47 (.tmp 21) (.tmp 22) rfl W Try.underlying47 Try.underlying3 (by kernel_rfl) _ _ rfl rfl (by kernel_rfl) (fun j => (L.out (s + 1)).next j) (fun j => L.next j) (fun j hj => LL.nexts _ j hj) (fun j hj => ?_) r HR.out) (hK _ ?_)
  · rw [Array.getElem?_extract, if_pos (by rw [Array.size_extract, L.size]; omega)]
    simpa using L.nexts j hj
  clear hK K
  quiet_step (fail)
  refine wpQuiet_nil ?_
  intro _ hw'
  obtain ⟨nq, hw''⟩ := hw'
  subst hw''
  go_wp2
  go_ret
  exact ⟨rfl, hL1.drewN _, hm0.drewN _⟩

set_option maxHeartbeats 400000 in
theorem has_nil (i : Int) (w : World) :
    Calls Try.prog 12 #[.pointer none, .int .i64 i] w fun e w' => e = .returned (.bool false) ∧ w = w' := by
  have H := Lib.hid (is_nil i)
  go_enter Try.func12, Try.ntmps12
  go_wp2_with (go_at_call 27; refine (H.out _).mono ?_; rintro e w1 ⟨rfl, rfl⟩)
  go_ret
  exact ⟨rfl, rfl⟩
set_option maxHeartbeats 400000 in
theorem has_bad (b : Nat) (L : LL) (i : Int) (hi : ¬ (0 ≤ i ∧ i < L.n)) (w : World) (hL : IsL w b L) :
    Calls Try.prog 12 #[At b, .int .i64 i] w fun e w' => e = .returned (.bool false) ∧ w = w' := by
  have hd : decide (0 ≤ i ∧ i < L.n) = false := by simpa using hi
  have h := is_any b L i w hL
  rw [hd] at h
  have H := Lib.hid h
  clear h hd hi
  go_enter Try.func12, Try.ntmps12
  go_wp2_with (go_at_call 27; refine H.out.mono ?_; rintro e w1 ⟨rfl, rfl⟩)
  go_ret
  exact ⟨rfl, rfl⟩
set_option maxHeartbeats 400000 in
theorem has_ok (b : Nat) (L : LL) (s : Nat) (hi : (s : Int) < L.n) (hn : L.n ≤ 256) (w : World) (hL : IsL w b L) :
    Calls Try.prog 12 #[At b, .int .i64 s] w fun e w' => e = .returned (.bool (L.inn (s + 1))) ∧ w = w' := by
  have hs : s + 1 < 257 := by omega
  have hd : decide (0 ≤ (s : Int) ∧ (s : Int) < L.n) = true := by simp; omega
  have h := is_any b L s w hL
  rw [hd] at h
  have H := Lib.hid h
  have h1 := hL.inn hs
  have i1 : (s : Int) + 1 < 257 := by omega
  clear h hd
  go_enter Try.func12, Try.ntmps12
  go_wp2_with (go_at_call 27; refine H.out.mono ?_; rintro e w1 ⟨rfl, rfl⟩)
  go_ret
  exact ⟨rfl, rfl⟩

set_option maxHeartbeats 400000 in
theorem oldest_nil (w : World) :
    Calls Try.prog 17 #[.pointer none] w fun e w' => e = .returned (.tuple #[.int .i64 0, .bool false]) ∧ w = w' := by
  go_enter Try.func17, Try.ntmps17
  go_wp2
  go_ret2
  exact ⟨rfl, rfl⟩
set_option maxHeartbeats 400000 in
theorem newest_nil (w : World) :
    Calls Try.prog 18 #[.pointer none] w fun e w' => e = .returned (.tuple #[.int .i64 0, .bool false]) ∧ w = w' := by
  go_enter Try.func18, Try.ntmps18
  go_wp2
  go_ret2
  exact ⟨rfl, rfl⟩
set_option maxHeartbeats 400000 in
theorem oldest_ok (b : Nat) (L : LL) (h : L.next 0 < 257) (w : World) (hL : IsL w b L) :
    Calls Try.prog 17 #[At b] w fun e w' => e = .returned (.tuple #[.int .i64 (L.next 0 - 1 : Nat), .bool (decide (0 < L.next 0))]) ∧ w = w' := by
  have h1 := hL.next (i := 0) (by omega)
  have H := Lib.hid (end_any (L.next 0) h)
  go_enter Try.func17, Try.ntmps17
  go_wp2_with (go_at_call 30; refine (H.out _).mono ?_; rintro e w1 ⟨rfl, rfl⟩)
  go_ret2
  exact ⟨rfl, rfl⟩
set_option maxHeartbeats 400000 in
theorem newest_ok (b : Nat) (L : LL) (h : L.prev 0 < 257) (w : World) (hL : IsL w b L) :
    Calls Try.prog 18 #[At b] w fun e w' => e = .returned (.tuple #[.int .i64 (L.prev 0 - 1 : Nat), .bool (decide (0 < L.prev 0))]) ∧ w = w' := by
  have h1 := hL.prev (i := 0) (by omega)
  have H := Lib.hid (end_any (L.prev 0) h)
  go_enter Try.func18, Try.ntmps18
  go_wp2_with (go_at_call 30; refine (H.out _).mono ?_; rintro e w1 ⟨rfl, rfl⟩)
  go_ret2
  exact ⟨rfl, rfl⟩
end Go.Proofs.Ytjjgefcjjpckfaa
