/- The hash of a text, in one call; the number of eight bytes. -/
import Derived.Test.YtjabpekndgnhmaaSipI
namespace Go.Proofs.Ytjabpekndgnhmaa
open Go.RowKit

theorem str_all {k0 k1 : Nat} (h0 : k0 < M64) (h1 : k1 < M64) (s : ByteArray) : Str (writeH (readyH (newH k0 k1)) (bys s)) k0 k1 (bys s) := by
  have := str_write (bys s) (str_new h0 h1) (bys_lt s)
  rw [(str_new h0 h1).ready]
  simpa using this
set_option maxHeartbeats 1000000 in
theorem sipSum_any (k0 k1 : Nat) (s : ByteArray) (h0 : k0 < M64) (h1 : k1 < M64) (hs : s.size < 2 ^ 62) (w : World) :
    Calls Try.prog 9 #[.int .u64 k0, .int .u64 k1, .string s] w fun e w' => e = .returned (.int .u64 (sipOf k0 k1 (bys s) : Nat)) ∧ Kept w w' := by
  have HN := Lib.hid (new_any k0 k1 h0 h1 w)
  have HS := Lib.hid (str_all h0 h1 s)
  have HNO := Lib.hid (str_new h0 h1).ok
  have HSS := Lib.hid hs
  clear h0 h1 hs
  go_enter Try.func9, Try.ntmps9
  go_wp2_with fail
  refine HN.out.mono ?_
  rintro e w1 ⟨g, rfl, hg, hh1, hm1⟩
  have M1 := Lib.hid hm1
  have HG := Lib.hid hg
  clear hm1 hg
  go_wp2_with fail
  refine (write_any g (newH k0 k1) s HNO.out (by have := HSS.out; show 0 + s.size < _; omega) w1 hh1).mono ?_
  rintro e w2 ⟨rfl, hh2, hm2⟩
  have M2 := Lib.hid (M1.out.only hm2 HG.out)
  clear hh1 hm2
  go_wp2_with fail
  refine (sum_any g _ HS.out.ok (by rw [HS.out.n, bys_length]; exact HSS.out) w2 hh2).mono ?_
  rintro e w3 ⟨rfl, hm3⟩
  have M3 := Lib.hid (M2.out.then hm3)
  rw [str_sum HS.out]
  clear hh2 hm3
  go_wp2_with fail
  go_ret
  exact ⟨rfl, M3.out⟩

def NumRel (t : ByteArray) (k : Nat) (m i : Value) (w w' : World) : Prop :=
  ∃ j : Nat, j ≤ 8 ∧ j = k ∧ i = .int .i64 ((j : Int) - 1) ∧ m = .int .u64 (num ((bys t).drop j) : Nat) ∧ w' = w
theorem num_drop (t : ByteArray) {j x : Nat} (hx : (bys t)[j]? = some x) : num ((bys t).drop j) = num ((bys t).drop (j + 1)) * 256 + x := by
  obtain ⟨hj, rfl⟩ := List.getElem?_eq_some_iff.mp hx
  rw [List.drop_eq_getElem_cons hj]
  simp only [num]; omega
set_option maxHeartbeats 1000000 in
theorem number_any (t : ByteArray) (ht : t.size = 8) (w : World) :
    Calls Try.prog 17 #[.string t] w fun e w' => e = .returned (.int .u64 (num (bys t) : Nat)) ∧ w' = w := by
  have HT := Lib.hid ht
  go_enter Try.func17, Try.ntmps17
  go_wp2_with fail
  go_loopg [3, 4] 8 (fun k m i wr => NumRel t k m i w wr)
  case atStart => exact ⟨8, Nat.le_refl _, rfl, rfl, by rw [List.drop_eq_nil_of_le (by rw [bys_length, ht]; exact Nat.le_refl 8)]; rfl, rfl⟩
  case round =>
    obtain ⟨j, hj8, rfl, rfl, rfl, rfl⟩ := hrel
    cases j with
    | zero =>
      rw [List.drop_zero]
      go_show
      go_wp2_with fail
      go_ret
      exact ⟨rfl, rfl⟩
    | succ j =>
      have hlt : j < t.size := by omega
      have hb := bys_get t hlt
      obtain ⟨x, hx⟩ : ∃ x, x = (t[j]'hlt).toNat := ⟨_, rfl⟩
      have hx256 : x < 256 := by rw [hx]; exact (t[j]'hlt).toNat_lt
      have hx2 : ((t[j]'hlt).toNat : Int) = (x : Int) := by rw [hx]
      rw [← hx] at hb
      have e := num_drop t hb
      have hN : num ((bys t).drop j) < M64 := num_lt8 (fun y hy => bys_lt t y (List.mem_of_mem_drop hy)) (by rw [List.length_drop, bys_length, ht]; omega)
      obtain ⟨N, hNN⟩ : ∃ N, N = num ((bys t).drop (j + 1)) := ⟨_, rfl⟩
      rw [← hNN] at e ⊢
      have HE := Lib.hid e
      rw [e] at hN
      have hN' : N * 256 + x < 18446744073709551616 := hN
      have hj0 : ((j + 1 : Nat) : Int) - 1 = (j : Int) := by omega
      rw [hj0]
      have HJ := Lib.hid hj8
      clear hb e hx hN hj8 hNN hj0
      go_show
      go_wp2_with fail
      go_roundg j
      case measure => omega
      case rel => exact ⟨j, by have := HJ.out; omega, rfl, by go_num, by rw [HE.out]; go_num, rfl⟩
end Go.Proofs.Ytjabpekndgnhmaa
