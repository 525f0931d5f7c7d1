/- NameTwo: the walk. -/
import Derived.Test.YtafeepokcakmkaaNamRC
import Derived.Test.YtafeepokcakmkaaNamA
import Derived.Outline
namespace Go.Proofs.Ytafeepokcakmkaa
open Go.RowKit

set_option maxHeartbeats 4000000 in
set_option maxRecDepth 100000 in
theorem two_big (a b : ByteArray) (h : 1000 < a.size ∨ 1000 < b.size) (ha : a.size < 2 ^ 63) (hb : b.size < 2 ^ 63) (w : World) :
    Calls Try.prog 3 #[.string a, .string b] w fun e w' => e = .returned (.bool true) ∧ Kept w w' := by
  have h' : 1000 < (a.size : Int) ∨ (a.size : Int) ≤ 1000 ∧ 1000 < (b.size : Int) := by omega
  clear h
  rcases h' with h0 | ⟨h0, h1⟩
  all_goals
    go_enter Try.func3, Try.ntmps3
    go_wp2_with fail
    refine (awake_any _).mono ?_
    rintro e w1 ⟨rfl, m1⟩
    have M := Lib.hid m1
    clear m1
    go_wp2_with fail
    go_ret
    exact ⟨rfl, M.out⟩
set_option maxHeartbeats 4000000 in
set_option maxRecDepth 100000 in
theorem two_small (a b : ByteArray) (h1 : (a.size : Int) ≤ 1000) (h2 : (b.size : Int) ≤ 1000) (w : World) :
    Calls Try.prog 3 #[.string a, .string b] w fun e w' => e = .returned (.bool true) ∧ Kept w w' := by
  obtain ⟨s, hs⟩ : ∃ s, sameN (bys a) (bys b) = s := ⟨_, rfl⟩
  obtain ⟨i, hi⟩ : ∃ i, withinN (bys a) (bys b) = i := ⟨_, rfl⟩
  obtain ⟨c, hc⟩ : ∃ c, cmpN (bys a) (bys b) = c := ⟨_, rfl⟩
  have C1 := Lib.hid (same_to a b s (by omega) (by omega) hs)
  have C2 := Lib.hid (fun w => rsame_any a b (by omega) (by omega) w)
  have C3 := Lib.hid (within_to a b i (by omega) (by omega) hi)
  have C4 := Lib.hid (fun w => rwithin_any a b (by omega) (by omega) w)
  have C5 := Lib.hid (compare_to a b c (by omega) (by omega) hc)
  have C6 := Lib.hid (fun w => rcompare_any a b (by omega) (by omega) w)
  rw [hs] at C2
  rw [hi] at C4
  rw [hc] at C6
  have e1 : (s == s) = true := by simp
  have e2 : (i == i) = true := by simp
  have e3 : (c == c) = true := by simp
  clear hs hi hc
  go_enter Try.func3, Try.ntmps3
  go_wp2_with fail
  refine (C1.out _).mono ?_
  rintro e w1 ⟨rfl, m1⟩
  have M := Lib.hid m1
  clear m1
  go_wp2_with fail
  refine (C2.out _).mono ?_
  rintro e wq ⟨rfl, mq⟩
  replace M := Lib.hid (M.out.then mq)
  clear mq
  go_wp2_with fail
  refine (C3.out _).mono ?_
  rintro e wq ⟨rfl, mq⟩
  replace M := Lib.hid (M.out.then mq)
  clear mq
  go_wp2_with fail
  refine (C4.out _).mono ?_
  rintro e wq ⟨rfl, mq⟩
  replace M := Lib.hid (M.out.then mq)
  clear mq
  go_wp2_with fail
  refine (C5.out _).mono ?_
  rintro e wq ⟨rfl, mq⟩
  replace M := Lib.hid (M.out.then mq)
  clear mq
  go_wp2_with fail
  refine (C6.out _).mono ?_
  rintro e wq ⟨rfl, mq⟩
  replace M := Lib.hid (M.out.then mq)
  clear mq
  go_wp2_with fail
  refine (awake_any _).mono ?_
  rintro e wq ⟨rfl, mq⟩
  replace M := Lib.hid (M.out.then mq)
  clear mq
  go_wp2_with fail
  go_ret
  exact ⟨rfl, M.out⟩
theorem two_any (a b : ByteArray) (ha : a.size < 2 ^ 63) (hb : b.size < 2 ^ 63) (w : World) :
    Calls Try.prog 3 #[.string a, .string b] w fun e w' => e = .returned (.bool true) ∧ Kept w w' := by
  by_cases h : 1000 < a.size ∨ 1000 < b.size
  · refine (?_ : Calls _ _ _ _ _)
    exact two_big a b h ha hb w
  · exact two_small a b (by omega) (by omega) w
end Go.Proofs.Ytafeepokcakmkaa
