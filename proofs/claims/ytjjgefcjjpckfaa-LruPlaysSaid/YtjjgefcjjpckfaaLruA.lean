/- The inner functions of the list of places: what each call leaves, said of the list as it lies in memory. Conditions: places in range. -/
import Derived.Test.YtjjgefcjjpckfaaLruS
namespace Go.Proofs.Ytjjgefcjjpckfaa
open Go.RowKit

abbrev At (b : Nat) : Value := .pointer (some ⟨b, 0, none⟩)

set_option maxHeartbeats 400000 in
theorem join_any (b : Nat) (L : LL) (x y : Nat) (hx : x < 257) (hy : y < 257) (w : World) (hL : IsL w b L) :
    Calls Try.prog 29 #[At b, .int .i64 x, .int .i64 y] w fun e w' => e = .returned (.tuple #[]) ∧ IsL w' b (L.join x y) ∧ Mod (Only b) w w' := by
  have h1 := hL.next hx
  have h2 := hL.prev hy
  have f1 := hL.fz (2 + x)
  have f2 := hL.fz (259 + y)
  have i1 : (x : Int) < 257 := by omega
  have i2 : (y : Int) < 257 := by omega
  go_enter Try.func29, Try.ntmps29
  go_wp2
  go_region
  all_goals (go_end0; exact ⟨rfl, ((hL.set_next hx y).set_prev hy x).drew, (((Mod.refl _ _).at _ _).at _ _).drew⟩)

theorem join_at (b : Nat) (L : LL) (x y : Nat) (X Y : Int) (hX : X = x) (hY : Y = y) (hx : x < 257) (hy : y < 257) (w : World) (hL : IsL w b L) :
    Calls Try.prog 29 #[At b, .int .i64 X, .int .i64 Y] w fun e w' => e = .returned (.tuple #[]) ∧ IsL w' b (L.join x y) ∧ Mod (Only b) w w' := by
  subst hX hY
  exact join_any b L x y hx hy w hL

set_option maxHeartbeats 400000 in
theorem is_any (b : Nat) (L : LL) (i : Int) (w : World) (hL : IsL w b L) :
    Calls Try.prog 27 #[At b, .int .i64 i] w fun e w' => e = .returned (.bool (decide (0 ≤ i ∧ i < L.n))) ∧ w = w' := by
  have h1 := hL.n
  by_cases h : 0 ≤ i
  · go_enter Try.func27, Try.ntmps27
    go_wp2
    go_ret
    exact ⟨ret_bool (by simp [h]), rfl⟩
  · go_enter Try.func27, Try.ntmps27
    go_wp2
    go_ret
    exact ⟨ret_bool (by simp; omega), rfl⟩

set_option maxHeartbeats 400000 in
theorem is_nil (i : Int) (w : World) :
    Calls Try.prog 27 #[.pointer none, .int .i64 i] w fun e w' => e = .returned (.bool false) ∧ w = w' := by
  go_enter Try.func27, Try.ntmps27
  go_wp2
  go_ret
  exact ⟨rfl, rfl⟩

set_option maxHeartbeats 400000 in
theorem end_any (s : Nat) (hs : s < 257) (w : World) :
    Calls Try.prog 30 #[.int .i64 s] w fun e w' => e = .returned (.tuple #[.int .i64 (s - 1 : Nat), .bool (decide (0 < s))]) ∧ w = w' := by
  go_enter Try.func30, Try.ntmps30
  go_wp2
  all_goals (go_ret2; exact ⟨by simp; omega, rfl⟩)

set_option maxHeartbeats 400000 in
theorem out_no (b : Nat) (L : LL) (s : Nat) (hs : s < 257) (hin : L.inn s = false) (w : World) (hL : IsL w b L) :
    Calls Try.prog 28 #[At b, .int .i64 s] w fun e w' => e = .returned (.tuple #[]) ∧ w = w' := by
  have h1 := hL.inn hs
  rw [hin] at h1
  have i1 : (s : Int) < 257 := by omega
  go_enter Try.func28, Try.ntmps28
  go_wp2
  go_end0
  exact ⟨rfl, rfl⟩

set_option maxHeartbeats 400000 in
set_option maxRecDepth 100000 in
theorem out_yes (b : Nat) (L : LL) (s : Nat) (hs : s < 257) (hin : L.inn s = true) (hn : L.next s < 257) (hp : L.prev s < 257) (hl : 1 ≤ L.len) (hl' : L.len ≤ 256) (w : World) (hL : IsL w b L) :
    Calls Try.prog 28 #[At b, .int .i64 s] w fun e w' => e = .returned (.tuple #[]) ∧ IsL w' b (L.out s) ∧ Mod (Only b) w w' := by
  have h1 := hL.inn hs
  rw [hin] at h1
  have h2 := hL.next hs
  have h3 := hL.prev hs
  have i1 : (s : Int) < 257 := by omega
  go_enter Try.func28, Try.ntmps28
  go_wp2
  go_still_tail 13, (by kernel_rfl)
  change wpList _ _ _ _ _ w.drew
  have hLd : IsL w.drew b L := hL
  have hmd : Mod (Only b) w w.drew := (Mod.refl _ _).drew
  generalize w.drew = w2 at *
  go_wp2_with (go_at_call 29; refine (join_any b L _ _ hp hn _ hLd).mono ?_; rintro e w1 ⟨rfl, hL1, hm1⟩)
  have g1 := hL1.next hs
  have g2 := hL1.prev hs
  have g3 := hL1.inn hs
  have k1 := hL1.fz (2 + s)
  have k2 := hL1.fz (259 + s)
  have k3 := hL1.fz (516 + s)
  go_region
  have g4 := hL1.len
  have k4 := hL1.fz 1
  have e4 : (L.join (L.prev s) (L.next s)).len = L.len := rfl
  rw [e4] at g4
  go_wp2
  go_end0
  refine ⟨rfl, ?_, ?_⟩
  · unfold LL.out
    rw [if_pos hin]
    exact ((((hL1.set_next hs 0).set_prev hs 0).set_in hs false).set_len _).drew
  · exact (hmd.then (((((hm1.at _ _).at _ _).at _ _).at _ _))).drew
end Go.Proofs.Ytjjgefcjjpckfaa
