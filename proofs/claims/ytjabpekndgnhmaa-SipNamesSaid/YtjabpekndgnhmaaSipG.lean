/- The examples. -/
import Derived.Test.YtjabpekndgnhmaaSipE
namespace Go.Proofs.Ytjabpekndgnhmaa
open Go.RowKit

theorem sipSum_to (K0 K1 : Int) (k0 k1 : Nat) (e0 : K0 = k0) (e1 : K1 = k1) (s : ByteArray) (h0 : k0 < M64) (h1 : k1 < M64) (hs : s.size < 2 ^ 62) (r : Int) (hr : ((sipOf k0 k1 (bys s) : Nat) : Int) = r) (w : World) :
    Calls Try.prog 9 #[.int .u64 K0, .int .u64 K1, .string s] w fun e w' => e = .returned (.int .u64 r) ∧ Kept w w' := by
  subst e0; subst e1; subst hr
  exact sipSum_any k0 k1 s h0 h1 hs w
def ex (n : Nat) : ByteArray := ⟨(([0, 1, 2, 3, 4, 5, 6, 7, 8, 9, 10, 11, 12, 13, 14] : List UInt8).take n).toArray⟩
def ekey0 : Nat := 506097522914230528
def ekey1 : Nat := 1084818905618843912
theorem sip_by (k0 k1 : Nat) (l : List Nat) (r : Nat) (h : sipO plainOps k0 k1 l = r) : ((sipOf k0 k1 l : Nat) : Int) = (r : Int) := by rw [sipOf_eq, h]
theorem ex0 : sipO plainOps ekey0 ekey1 (bys (ex 0)) = 8246050544436514353 := by decide +kernel
theorem ex1 : sipO plainOps ekey0 ekey1 (bys (ex 1)) = 8428550223375919101 := by decide +kernel
theorem ex2 : sipO plainOps ekey0 ekey1 (bys (ex 2)) = 967288799772626778 := by decide +kernel
theorem ex8 : sipO plainOps ekey0 ekey1 (bys (ex 8)) = 10661697595502699618 := by decide +kernel
theorem ex15 : sipO plainOps ekey0 ekey1 (bys (ex 15)) = 11613035633349379557 := by decide +kernel
theorem ekey0_lt : ekey0 < M64 := by decide
theorem ekey1_lt : ekey1 < M64 := by decide
set_option maxHeartbeats 1000000 in
theorem awake_any (w : World) :
    Calls Try.prog 8 #[] w fun e w' => e = .returned (.bool true) ∧ Kept w w' := by
  go_enter Try.func8, Try.ntmps8
  go_wp2_with fail
  refine (sipSum_to _ _ ekey0 ekey1 rfl rfl (ex 0) ekey0_lt ekey1_lt (by decide) _ (sip_by _ _ _ _ ex0) w).mono ?_
  rintro e w1 ⟨rfl, m1⟩
  have M1 := Lib.hid m1
  clear m1
  go_wp2_with fail
  refine (sipSum_to _ _ ekey0 ekey1 rfl rfl (ex 1) ekey0_lt ekey1_lt (by decide) _ (sip_by _ _ _ _ ex1) w1).mono ?_
  rintro e w2 ⟨rfl, m1⟩
  have M2 := Lib.hid (M1.out.then m1)
  clear m1
  go_wp2_with fail
  refine (sipSum_to _ _ ekey0 ekey1 rfl rfl (ex 2) ekey0_lt ekey1_lt (by decide) _ (sip_by _ _ _ _ ex2) w2).mono ?_
  rintro e w3 ⟨rfl, m1⟩
  have M3 := Lib.hid (M2.out.then m1)
  clear m1
  go_wp2_with fail
  refine (sipSum_to _ _ ekey0 ekey1 rfl rfl (ex 8) ekey0_lt ekey1_lt (by decide) _ (sip_by _ _ _ _ ex8) w3).mono ?_
  rintro e w4 ⟨rfl, m1⟩
  have M4 := Lib.hid (M3.out.then m1)
  clear m1
  go_wp2_with fail
  refine (sipSum_to _ _ ekey0 ekey1 rfl rfl (ex 15) ekey0_lt ekey1_lt (by decide) _ (sip_by _ _ _ _ ex15) w4).mono ?_
  rintro e w5 ⟨rfl, m1⟩
  have M5 := Lib.hid (M4.out.then m1)
  clear m1
  go_wp2_with fail
  go_ret
  exact ⟨rfl, M5.out⟩
end Go.Proofs.Ytjabpekndgnhmaa
