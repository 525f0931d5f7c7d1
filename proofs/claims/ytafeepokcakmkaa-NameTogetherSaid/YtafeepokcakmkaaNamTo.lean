/- NameTogether: the walk. -/
import Derived.Test.YtafeepokcakmkaaNamU
import Derived.Outline
namespace Go.Proofs.Ytafeepokcakmkaa
open Go.RowKit

theorem within_cmp {a z : List Nat} (h : withinN a z = true) : cmpN z a ≤ 0 := by
  unfold withinN at h
  cases hx : splitN a with
  | none => rw [hx] at h; simp at h
  | some x =>
    cases hy : splitN z with
    | none => rw [hx, hy] at h; simp at h
    | some y =>
      have h2 : withinN a z = true := by unfold withinN; exact h
      rw [cmpN_eq hy hx]
      exact cmpG_prefix row_cmpS _ _ ((withinN_key hx hy).1 h2)
theorem within_may {a z : List Nat} (h : withinN a z = true) : ∃ x y, splitN a = some x ∧ splitN z = some y := by
  unfold withinN at h
  cases hx : splitN a with
  | none => rw [hx] at h; simp at h
  | some x =>
    cases hy : splitN z with
    | none => rw [hx, hy] at h; simp at h
    | some y => exact ⟨x, y, rfl, rfl⟩
theorem together {a b c z : List Nat} (hb : mayN b = true) (h1 : withinN a z = true) (h2 : withinN c z = true) (h3 : cmpN a b ≤ 0) (h4 : cmpN b c ≤ 0) : withinN b z = true := by
  obtain ⟨y, hy⟩ := may_true hb
  obtain ⟨x, k, hx, hk⟩ := within_may h1
  obtain ⟨v, k', hv, hk'⟩ := within_may h2
  obtain rfl : k = k' := Option.some.inj (hk.symm.trans hk')
  rw [cmpN_eq hx hy] at h3
  rw [cmpN_eq hy hv] at h4
  exact (withinN_key hy hk).2 (cmpG_between row_cmpS _ _ _ _ ((withinN_key hx hk).1 h1) ((withinN_key hv hk).1 h2) h3 h4)
set_option maxHeartbeats 4000000 in
set_option maxRecDepth 100000 in
theorem together_big (a b c z : ByteArray) (h : 1000 < a.size ∨ 1000 < b.size ∨ 1000 < c.size ∨ 1000 < z.size) (ha : a.size < 2 ^ 63) (hb : b.size < 2 ^ 63) (hc : c.size < 2 ^ 63) (hz : z.size < 2 ^ 63) (w : World) :
    Calls Try.prog 6 #[.string a, .string b, .string c, .string z] w fun e w' => e = .returned (.bool true) ∧ Kept w w' := by
  have h' : 1000 < (a.size : Int) ∨ (a.size : Int) ≤ 1000 ∧ 1000 < (b.size : Int) ∨ (a.size : Int) ≤ 1000 ∧ (b.size : Int) ≤ 1000 ∧ 1000 < (c.size : Int) ∨ (a.size : Int) ≤ 1000 ∧ (b.size : Int) ≤ 1000 ∧ (c.size : Int) ≤ 1000 ∧ 1000 < (z.size : Int) := by omega
  clear h
  rcases h' with h0 | ⟨h0, h1⟩ | ⟨h0, h1, h2⟩ | ⟨h0, h1, h2, h3⟩
  all_goals
    go_enter Try.func6, Try.ntmps6
    go_wp2_with fail
    refine (awake_any _).mono ?_
    rintro e w1 ⟨rfl, m1⟩
    have M := Lib.hid m1
    clear m1
    go_wp2_with fail
    go_ret
    exact ⟨rfl, M.out⟩
set_option maxHeartbeats 4000000 in
set_option maxRecDepth 100000 in
theorem tog1 (a b c z : ByteArray) (h1 : (a.size : Int) ≤ 1000) (h2 : (b.size : Int) ≤ 1000) (h3 : (c.size : Int) ≤ 1000) (h4 : (z.size : Int) ≤ 1000) (hwa : withinN (bys a) (bys z) = false) (hmb : mayN (bys b) = false) (w : World) :
    Calls Try.prog 6 #[.string a, .string b, .string c, .string z] w fun e w' => e = .returned (.bool true) ∧ Kept w w' := by
  have WA := Lib.hid (within_to a z false (by omega) (by omega) hwa)
  have MB := Lib.hid (may_to b false (by omega) hmb)
  clear hwa hmb
  go_enter Try.func6, Try.ntmps6
  go_wp2_with fail
  refine (awake_any _).mono ?_
  rintro e w1 ⟨rfl, m1⟩
  have M := Lib.hid m1
  clear m1
  go_wp2_with fail
  refine (WA.out _).mono ?_
  rintro e wq ⟨rfl, mq⟩
  replace M := Lib.hid (M.out.then mq)
  clear mq
  go_wp2_with fail
  refine (MB.out _).mono ?_
  rintro e wq ⟨rfl, mq⟩
  replace M := Lib.hid (M.out.then mq)
  clear mq
  go_wp2_with fail
  go_ret
  exact ⟨rfl, M.out⟩
set_option maxHeartbeats 4000000 in
set_option maxRecDepth 100000 in
theorem tog2 (a b c z : ByteArray) (h1 : (a.size : Int) ≤ 1000) (h2 : (b.size : Int) ≤ 1000) (h3 : (c.size : Int) ≤ 1000) (h4 : (z.size : Int) ≤ 1000) (hwa : withinN (bys a) (bys z) = false) (hmb : mayN (bys b) = true) (w : World) :
    Calls Try.prog 6 #[.string a, .string b, .string c, .string z] w fun e w' => e = .returned (.bool true) ∧ Kept w w' := by
  have WA := Lib.hid (within_to a z false (by omega) (by omega) hwa)
  have MB := Lib.hid (may_to b true (by omega) hmb)
  clear hwa hmb
  go_enter Try.func6, Try.ntmps6
  go_wp2_with fail
  refine (awake_any _).mono ?_
  rintro e w1 ⟨rfl, m1⟩
  have M := Lib.hid m1
  clear m1
  go_wp2_with fail
  refine (WA.out _).mono ?_
  rintro e wq ⟨rfl, mq⟩
  replace M := Lib.hid (M.out.then mq)
  clear mq
  go_wp2_with fail
  refine (MB.out _).mono ?_
  rintro e wq ⟨rfl, mq⟩
  replace M := Lib.hid (M.out.then mq)
  clear mq
  go_wp2_with fail
  refine (WA.out _).mono ?_
  rintro e wq ⟨rfl, mq⟩
  replace M := Lib.hid (M.out.then mq)
  clear mq
  go_wp2_with fail
  go_ret
  exact ⟨rfl, M.out⟩
set_option maxHeartbeats 4000000 in
set_option maxRecDepth 100000 in
theorem tog3 (a b c z : ByteArray) (h1 : (a.size : Int) ≤ 1000) (h2 : (b.size : Int) ≤ 1000) (h3 : (c.size : Int) ≤ 1000) (h4 : (z.size : Int) ≤ 1000) (hwa : withinN (bys a) (bys z) = true) (hmb : mayN (bys b) = false) (w : World) :
    Calls Try.prog 6 #[.string a, .string b, .string c, .string z] w fun e w' => e = .returned (.bool true) ∧ Kept w w' := by
  have WA := Lib.hid (within_to a z true (by omega) (by omega) hwa)
  have MB := Lib.hid (may_to b false (by omega) hmb)
  obtain ⟨X, hX⟩ : ∃ X, cmpN (bys z) (bys a) = X := ⟨_, rfl⟩
  have CX := Lib.hid (compare_to z a X (by omega) (by omega) hX)
  have x0 := within_cmp hwa
  rw [hX] at x0
  clear hX
  clear hwa hmb
  go_enter Try.func6, Try.ntmps6
  go_wp2_with fail
  refine (awake_any _).mono ?_
  rintro e w1 ⟨rfl, m1⟩
  have M := Lib.hid m1
  clear m1
  go_wp2_with fail
  refine (WA.out _).mono ?_
  rintro e wq ⟨rfl, mq⟩
  replace M := Lib.hid (M.out.then mq)
  clear mq
  go_wp2_with fail
  refine (CX.out _).mono ?_
  rintro e wq ⟨rfl, mq⟩
  replace M := Lib.hid (M.out.then mq)
  clear mq
  go_wp2_with fail
  refine (MB.out _).mono ?_
  rintro e wq ⟨rfl, mq⟩
  replace M := Lib.hid (M.out.then mq)
  clear mq
  go_wp2_with fail
  go_ret
  exact ⟨rfl, M.out⟩
set_option maxHeartbeats 4000000 in
set_option maxRecDepth 100000 in
theorem tog4 (a b c z : ByteArray) (h1 : (a.size : Int) ≤ 1000) (h2 : (b.size : Int) ≤ 1000) (h3 : (c.size : Int) ≤ 1000) (h4 : (z.size : Int) ≤ 1000) (hwa : withinN (bys a) (bys z) = true) (hmb : mayN (bys b) = true) (hwc : withinN (bys c) (bys z) = false) (w : World) :
    Calls Try.prog 6 #[.string a, .string b, .string c, .string z] w fun e w' => e = .returned (.bool true) ∧ Kept w w' := by
  have WA := Lib.hid (within_to a z true (by omega) (by omega) hwa)
  have MB := Lib.hid (may_to b true (by omega) hmb)
  have WC := Lib.hid (within_to c z false (by omega) (by omega) hwc)
  obtain ⟨X, hX⟩ : ∃ X, cmpN (bys z) (bys a) = X := ⟨_, rfl⟩
  have CX := Lib.hid (compare_to z a X (by omega) (by omega) hX)
  have x0 := within_cmp hwa
  rw [hX] at x0
  clear hX
  clear hwa hmb hwc
  go_enter Try.func6, Try.ntmps6
  go_wp2_with fail
  refine (awake_any _).mono ?_
  rintro e w1 ⟨rfl, m1⟩
  have M := Lib.hid m1
  clear m1
  go_wp2_with fail
  refine (WA.out _).mono ?_
  rintro e wq ⟨rfl, mq⟩
  replace M := Lib.hid (M.out.then mq)
  clear mq
  go_wp2_with fail
  refine (CX.out _).mono ?_
  rintro e wq ⟨rfl, mq⟩
  replace M := Lib.hid (M.out.then mq)
  clear mq
  go_wp2_with fail
  refine (MB.out _).mono ?_
  rintro e wq ⟨rfl, mq⟩
  replace M := Lib.hid (M.out.then mq)
  clear mq
  go_wp2_with fail
  refine (WA.out _).mono ?_
  rintro e wq ⟨rfl, mq⟩
  replace M := Lib.hid (M.out.then mq)
  clear mq
  go_wp2_with fail
  refine (WC.out _).mono ?_
  rintro e wq ⟨rfl, mq⟩
  replace M := Lib.hid (M.out.then mq)
  clear mq
  go_wp2_with fail
  go_ret
  exact ⟨rfl, M.out⟩
set_option maxHeartbeats 4000000 in
set_option maxRecDepth 100000 in
theorem tog5 (a b c z : ByteArray) (h1 : (a.size : Int) ≤ 1000) (h2 : (b.size : Int) ≤ 1000) (h3 : (c.size : Int) ≤ 1000) (h4 : (z.size : Int) ≤ 1000) (hwa : withinN (bys a) (bys z) = true) (hmb : mayN (bys b) = true) (hwc : withinN (bys c) (bys z) = true) (hy : 0 < cmpN (bys a) (bys b)) (w : World) :
    Calls Try.prog 6 #[.string a, .string b, .string c, .string z] w fun e w' => e = .returned (.bool true) ∧ Kept w w' := by
  have WA := Lib.hid (within_to a z true (by omega) (by omega) hwa)
  have MB := Lib.hid (may_to b true (by omega) hmb)
  have WC := Lib.hid (within_to c z true (by omega) (by omega) hwc)
  obtain ⟨X, hX⟩ : ∃ X, cmpN (bys z) (bys a) = X := ⟨_, rfl⟩
  have CX := Lib.hid (compare_to z a X (by omega) (by omega) hX)
  have x0 := within_cmp hwa
  rw [hX] at x0
  clear hX
  obtain ⟨Y, hY⟩ : ∃ Y, cmpN (bys a) (bys b) = Y := ⟨_, rfl⟩
  have CY := Lib.hid (compare_to a b Y (by omega) (by omega) hY)
  rw [hY] at hy
  clear hwa hmb hwc hY
  go_enter Try.func6, Try.ntmps6
  go_wp2_with fail
  refine (awake_any _).mono ?_
  rintro e w1 ⟨rfl, m1⟩
  have M := Lib.hid m1
  clear m1
  go_wp2_with fail
  refine (WA.out _).mono ?_
  rintro e wq ⟨rfl, mq⟩
  replace M := Lib.hid (M.out.then mq)
  clear mq
  go_wp2_with fail
  refine (CX.out _).mono ?_
  rintro e wq ⟨rfl, mq⟩
  replace M := Lib.hid (M.out.then mq)
  clear mq
  go_wp2_with fail
  refine (MB.out _).mono ?_
  rintro e wq ⟨rfl, mq⟩
  replace M := Lib.hid (M.out.then mq)
  clear mq
  go_wp2_with fail
  refine (WA.out _).mono ?_
  rintro e wq ⟨rfl, mq⟩
  replace M := Lib.hid (M.out.then mq)
  clear mq
  go_wp2_with fail
  refine (WC.out _).mono ?_
  rintro e wq ⟨rfl, mq⟩
  replace M := Lib.hid (M.out.then mq)
  clear mq
  go_wp2_with fail
  refine (CY.out _).mono ?_
  rintro e wq ⟨rfl, mq⟩
  replace M := Lib.hid (M.out.then mq)
  clear mq
  go_wp2_with fail
  go_ret
  exact ⟨rfl, M.out⟩
set_option maxHeartbeats 4000000 in
set_option maxRecDepth 100000 in
theorem tog6 (a b c z : ByteArray) (h1 : (a.size : Int) ≤ 1000) (h2 : (b.size : Int) ≤ 1000) (h3 : (c.size : Int) ≤ 1000) (h4 : (z.size : Int) ≤ 1000) (hwa : withinN (bys a) (bys z) = true) (hmb : mayN (bys b) = true) (hwc : withinN (bys c) (bys z) = true) (hy : cmpN (bys a) (bys b) ≤ 0) (hz : 0 < cmpN (bys b) (bys c)) (w : World) :
    Calls Try.prog 6 #[.string a, .string b, .string c, .string z] w fun e w' => e = .returned (.bool true) ∧ Kept w w' := by
  have WA := Lib.hid (within_to a z true (by omega) (by omega) hwa)
  have MB := Lib.hid (may_to b true (by omega) hmb)
  have WC := Lib.hid (within_to c z true (by omega) (by omega) hwc)
  obtain ⟨X, hX⟩ : ∃ X, cmpN (bys z) (bys a) = X := ⟨_, rfl⟩
  have CX := Lib.hid (compare_to z a X (by omega) (by omega) hX)
  have x0 := within_cmp hwa
  rw [hX] at x0
  clear hX
  obtain ⟨Y, hY⟩ : ∃ Y, cmpN (bys a) (bys b) = Y := ⟨_, rfl⟩
  have CY := Lib.hid (compare_to a b Y (by omega) (by omega) hY)
  obtain ⟨Z, hZ⟩ : ∃ Z, cmpN (bys b) (bys c) = Z := ⟨_, rfl⟩
  have CZ := Lib.hid (compare_to b c Z (by omega) (by omega) hZ)
  rw [hY] at hy
  rw [hZ] at hz
  clear hwa hmb hwc hY hZ
  go_enter Try.func6, Try.ntmps6
  go_wp2_with fail
  refine (awake_any _).mono ?_
  rintro e w1 ⟨rfl, m1⟩
  have M := Lib.hid m1
  clear m1
  go_wp2_with fail
  refine (WA.out _).mono ?_
  rintro e wq ⟨rfl, mq⟩
  replace M := Lib.hid (M.out.then mq)
  clear mq
  go_wp2_with fail
  refine (CX.out _).mono ?_
  rintro e wq ⟨rfl, mq⟩
  replace M := Lib.hid (M.out.then mq)
  clear mq
  go_wp2_with fail
  refine (MB.out _).mono ?_
  rintro e wq ⟨rfl, mq⟩
  replace M := Lib.hid (M.out.then mq)
  clear mq
  go_wp2_with fail
  refine (WA.out _).mono ?_
  rintro e wq ⟨rfl, mq⟩
  replace M := Lib.hid (M.out.then mq)
  clear mq
  go_wp2_with fail
  refine (WC.out _).mono ?_
  rintro e wq ⟨rfl, mq⟩
  replace M := Lib.hid (M.out.then mq)
  clear mq
  go_wp2_with fail
  refine (CY.out _).mono ?_
  rintro e wq ⟨rfl, mq⟩
  replace M := Lib.hid (M.out.then mq)
  clear mq
  go_wp2_with fail
  refine (CZ.out _).mono ?_
  rintro e wq ⟨rfl, mq⟩
  replace M := Lib.hid (M.out.then mq)
  clear mq
  go_wp2_with fail
  go_ret
  exact ⟨rfl, M.out⟩
set_option maxHeartbeats 4000000 in
set_option maxRecDepth 100000 in
theorem tog7 (a b c z : ByteArray) (h1 : (a.size : Int) ≤ 1000) (h2 : (b.size : Int) ≤ 1000) (h3 : (c.size : Int) ≤ 1000) (h4 : (z.size : Int) ≤ 1000) (hwa : withinN (bys a) (bys z) = true) (hmb : mayN (bys b) = true) (hwc : withinN (bys c) (bys z) = true) (hy : cmpN (bys a) (bys b) ≤ 0) (hz : cmpN (bys b) (bys c) ≤ 0) (w : World) :
    Calls Try.prog 6 #[.string a, .string b, .string c, .string z] w fun e w' => e = .returned (.bool true) ∧ Kept w w' := by
  have WA := Lib.hid (within_to a z true (by omega) (by omega) hwa)
  have MB := Lib.hid (may_to b true (by omega) hmb)
  have WC := Lib.hid (within_to c z true (by omega) (by omega) hwc)
  have WB := Lib.hid (within_to b z true (by omega) (by omega) (together hmb hwa hwc hy hz))
  obtain ⟨X, hX⟩ : ∃ X, cmpN (bys z) (bys a) = X := ⟨_, rfl⟩
  have CX := Lib.hid (compare_to z a X (by omega) (by omega) hX)
  have x0 := within_cmp hwa
  rw [hX] at x0
  clear hX
  obtain ⟨Y, hY⟩ : ∃ Y, cmpN (bys a) (bys b) = Y := ⟨_, rfl⟩
  have CY := Lib.hid (compare_to a b Y (by omega) (by omega) hY)
  obtain ⟨Z, hZ⟩ : ∃ Z, cmpN (bys b) (bys c) = Z := ⟨_, rfl⟩
  have CZ := Lib.hid (compare_to b c Z (by omega) (by omega) hZ)
  rw [hY] at hy
  rw [hZ] at hz
  clear hwa hmb hwc hY hZ
  go_enter Try.func6, Try.ntmps6
  go_wp2_with fail
  refine (awake_any _).mono ?_
  rintro e w1 ⟨rfl, m1⟩
  have M := Lib.hid m1
  clear m1
  go_wp2_with fail
  refine (WA.out _).mono ?_
  rintro e wq ⟨rfl, mq⟩
  replace M := Lib.hid (M.out.then mq)
  clear mq
  go_wp2_with fail
  refine (CX.out _).mono ?_
  rintro e wq ⟨rfl, mq⟩
  replace M := Lib.hid (M.out.then mq)
  clear mq
  go_wp2_with fail
  refine (MB.out _).mono ?_
  rintro e wq ⟨rfl, mq⟩
  replace M := Lib.hid (M.out.then mq)
  clear mq
  go_wp2_with fail
  refine (WA.out _).mono ?_
  rintro e wq ⟨rfl, mq⟩
  replace M := Lib.hid (M.out.then mq)
  clear mq
  go_wp2_with fail
  refine (WC.out _).mono ?_
  rintro e wq ⟨rfl, mq⟩
  replace M := Lib.hid (M.out.then mq)
  clear mq
  go_wp2_with fail
  refine (CY.out _).mono ?_
  rintro e wq ⟨rfl, mq⟩
  replace M := Lib.hid (M.out.then mq)
  clear mq
  go_wp2_with fail
  refine (CZ.out _).mono ?_
  rintro e wq ⟨rfl, mq⟩
  replace M := Lib.hid (M.out.then mq)
  clear mq
  go_wp2_with fail
  refine (WB.out _).mono ?_
  rintro e wq ⟨rfl, mq⟩
  replace M := Lib.hid (M.out.then mq)
  clear mq
  go_wp2_with fail
  go_ret
  exact ⟨rfl, M.out⟩
theorem together_any (a b c z : ByteArray) (ha : a.size < 2 ^ 63) (hb : b.size < 2 ^ 63) (hc : c.size < 2 ^ 63) (hz : z.size < 2 ^ 63) (w : World) :
    Calls Try.prog 6 #[.string a, .string b, .string c, .string z] w fun e w' => e = .returned (.bool true) ∧ Kept w w' := by
  by_cases h : 1000 < a.size ∨ 1000 < b.size ∨ 1000 < c.size ∨ 1000 < z.size
  · exact together_big a b c z h ha hb hc hz w
  · have k1 : (a.size : Int) ≤ 1000 := by omega
    have k2 : (b.size : Int) ≤ 1000 := by omega
    have k3 : (c.size : Int) ≤ 1000 := by omega
    have k4 : (z.size : Int) ≤ 1000 := by omega
    cases hwa : withinN (bys a) (bys z) with
    | false =>
      cases hmb : mayN (bys b) with
      | false => exact tog1 a b c z k1 k2 k3 k4 hwa hmb w
      | true => exact tog2 a b c z k1 k2 k3 k4 hwa hmb w
    | true =>
      cases hmb : mayN (bys b) with
      | false => exact tog3 a b c z k1 k2 k3 k4 hwa hmb w
      | true =>
        cases hwc : withinN (bys c) (bys z) with
        | false => exact tog4 a b c z k1 k2 k3 k4 hwa hmb hwc w
        | true =>
          by_cases hy : 0 < cmpN (bys a) (bys b)
          · exact tog5 a b c z k1 k2 k3 k4 hwa hmb hwc hy w
          · by_cases hz : 0 < cmpN (bys b) (bys c)
            · exact tog6 a b c z k1 k2 k3 k4 hwa hmb hwc (by omega) hz w
            · exact tog7 a b c z k1 k2 k3 k4 hwa hmb hwc (by omega) (by omega) w
end Go.Proofs.Ytafeepokcakmkaa
