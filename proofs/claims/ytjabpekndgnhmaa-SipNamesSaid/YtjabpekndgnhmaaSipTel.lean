/- SipTells, SipOn: the walks. -/
import Derived.Test.YtjabpekndgnhmaaSipG
namespace Go.Proofs.Ytjabpekndgnhmaa
open Go.RowKit

set_option maxHeartbeats 1000000 in
theorem tells_any (k0 k1 : Nat) (s : ByteArray) (h0 : k0 < M64) (h1 : k1 < M64) (hs63 : s.size < 2 ^ 63) (w : World) :
    Calls Try.prog 3 #[.int .u64 k0, .int .u64 k1, .string s] w fun e w' => e = .returned (.bool true) ∧ Kept w w' := by
  have A0 := awake_any
  by_cases hc : s.size ≤ 5000
  · have c1 : (s.size : Int) ≤ 5000 := by omega
    have S0 := Lib.hid (fun w => sipSum_any k0 k1 s h0 h1 (by omega) w)
    have R0 := Lib.hid (fun w => refSum_any k0 k1 s h0 h1 (by omega) w)
    clear h0 h1
    go_enter Try.func3, Try.ntmps3
    go_wp2_with fail
    refine (S0.out _).mono ?_
    rintro e w1 ⟨rfl, m1⟩
    have M1 := Lib.hid m1
    clear m1
    go_wp2_with fail
    refine (R0.out _).mono ?_
    rintro e w2 ⟨rfl, m1⟩
    have M2 := Lib.hid (M1.out.then m1)
    clear m1
    go_wp2_with fail
    refine (A0 _).mono ?_
    rintro e w3 ⟨rfl, m1⟩
    have M3 := Lib.hid (M2.out.then m1)
    clear m1
    go_wp2_with fail
    go_ret
    exact ⟨rfl, M3.out⟩
  · have c1 : ¬ (s.size : Int) ≤ 5000 := by omega
    have c2 : 5000 < (s.size : Int) := by omega
    go_enter Try.func3, Try.ntmps3
    go_wp2_with fail
    refine (A0 _).mono ?_
    rintro e w3 ⟨rfl, m1⟩
    have M3 := Lib.hid m1
    clear m1
    go_wp2_with fail
    go_ret
    exact ⟨rfl, M3.out⟩
theorem wf_u8 {n : Int} (h : (Lit.int .u8 n).wf = true) : 0 ≤ n ∧ n ≤ 255 := by
  have e1 : IntKind.u8.min = 0 := by decide
  have e2 : IntKind.u8.max = 255 := by decide
  simp only [Lit.wf, Bool.and_eq_true, decide_eq_true_eq, e1, e2] at h
  exact h
theorem wf_u64 {n : Int} (h : (Lit.int .u64 n).wf = true) : ∃ k : Nat, n = k ∧ k < M64 := by
  have e1 : IntKind.u64.min = 0 := by decide
  have e2 : IntKind.u64.max = 18446744073709551615 := by decide
  simp only [Lit.wf, Bool.and_eq_true, decide_eq_true_eq, e1, e2] at h
  refine ⟨n.toNat, by omega, ?_⟩
  unfold M64
  omega
theorem own_knob : ownKnob Try.prog.godebug = none := by kernel_rfl
theorem laid_out : laidOutB Try.prog = true := by kernel_rfl
end Go.Proofs.Ytjabpekndgnhmaa
