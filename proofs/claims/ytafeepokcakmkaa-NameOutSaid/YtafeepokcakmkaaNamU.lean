/- NameRow, NameTogether: the walks. -/
import Derived.Test.YtafeepokcakmkaaNamA
import Derived.Outline
namespace Go.Proofs.Ytafeepokcakmkaa
open Go.RowKit

theorem same_cmp {a b : List Nat} {x y : List (List Nat)} (h : splitN a = some x) (k : splitN b = some y) : sameN a b = true ↔ cmpN a b = 0 := by
  rw [sameN_eq h k, cmpN_eq h k, decide_eq_true_eq, row_cmpR.eq]
  unfold keyN
  rw [List.reverse_inj]
theorem cmp_swap (a b : List Nat) : cmpN b a = - cmpN a b := by
  unfold cmpN
  cases splitN a with
  | none => cases splitN b <;> rfl
  | some x =>
    cases splitN b with
    | none => rfl
    | some y => exact row_cmpR.back _ _
theorem cmp_self (a : List Nat) : cmpN a a = 0 := by
  unfold cmpN
  cases splitN a with
  | none => rfl
  | some x => exact row_cmpR.self _
theorem cmp_one (a b : List Nat) : cmpN a b = -1 ∨ cmpN a b = 0 ∨ cmpN a b = 1 := by
  unfold cmpN
  cases splitN a with
  | none => exact .inr (.inl rfl)
  | some x =>
    cases splitN b with
    | none => exact .inr (.inl rfl)
    | some y => exact row_cmpR.one _ _
theorem cmp_on {a b c : List Nat} {x y z : List (List Nat)} (h : splitN a = some x) (k : splitN b = some y) (l : splitN c = some z) (h1 : cmpN a b ≤ 0) (h2 : cmpN b c ≤ 0) : cmpN a c ≤ 0 ∧ (cmpN a c < 0 ↔ cmpN a b < 0 ∨ cmpN b c < 0) := by
  rw [cmpN_eq h k] at *
  rw [cmpN_eq k l] at *
  rw [cmpN_eq h l]
  have h3 := row_cmpR.on _ _ _ h1 h2
  refine ⟨h3, ?_⟩
  constructor
  · intro h4
    by_cases e1 : cmpR (keyN x) (keyN y) < 0
    · exact .inl e1
    · right
      have e2 := (row_cmpR.eq (keyN x) (keyN y)).1 (by omega)
      rw [← e2]
      exact h4
  · intro h4
    by_cases e : cmpR (keyN x) (keyN z) < 0
    · exact e
    · have e1 := (row_cmpR.eq (keyN x) (keyN z)).1 (by omega)
      have b1 := row_cmpR.back (keyN x) (keyN y)
      rw [← e1] at h2 h4
      omega
theorem may_true {n : List Nat} (h : mayN n = true) : ∃ x, splitN n = some x := by
  unfold mayN at h
  exact Option.isSome_iff_exists.1 h
theorem may_some {n : List Nat} {x : List (List Nat)} (h : splitN n = some x) : mayN n = true := by unfold mayN; rw [h]; rfl
set_option maxHeartbeats 4000000 in
set_option maxRecDepth 100000 in
theorem row_big (a b c : ByteArray) (h : 1000 < a.size ∨ 1000 < b.size ∨ 1000 < c.size) (ha : a.size < 2 ^ 63) (hb : b.size < 2 ^ 63) (hc : c.size < 2 ^ 63) (w : World) :
    Calls Try.prog 5 #[.string a, .string b, .string c] w fun e w' => e = .returned (.bool true) ∧ Kept w w' := by
  have h' : 1000 < (a.size : Int) ∨ (a.size : Int) ≤ 1000 ∧ 1000 < (b.size : Int) ∨ (a.size : Int) ≤ 1000 ∧ (b.size : Int) ≤ 1000 ∧ 1000 < (c.size : Int) := by omega
  clear h
  rcases h' with h1 | ⟨h1, h2⟩ | ⟨h1, h2, h3⟩
  all_goals
    go_enter Try.func5, Try.ntmps5
    go_wp2_with fail
    refine (awake_any _).mono ?_
    rintro e w1 ⟨rfl, m1⟩
    have M := Lib.hid m1
    clear m1
    go_wp2_with fail
    go_ret
    exact ⟨rfl, M.out⟩
set_option maxHeartbeats 4000000 in
set_option maxRecDepth 100000 in
theorem row_none (a b c : ByteArray) (h1 : (a.size : Int) ≤ 1000) (h2 : (b.size : Int) ≤ 1000) (h3 : (c.size : Int) ≤ 1000) (p q r : Bool) (hp : mayN (bys a) = p) (hq : mayN (bys b) = q) (hr : mayN (bys c) = r)
    (h : p = false ∨ p = true ∧ q = false ∨ p = true ∧ q = true ∧ r = false) (w : World) :
    Calls Try.prog 5 #[.string a, .string b, .string c] w fun e w' => e = .returned (.bool true) ∧ Kept w w' := by
  have C1 := Lib.hid (may_to a p (by omega) hp)
  have C2 := Lib.hid (may_to b q (by omega) hq)
  have C3 := Lib.hid (may_to c r (by omega) hr)
  clear hp hq hr
  rcases h with rfl | ⟨rfl, rfl⟩ | ⟨rfl, rfl, rfl⟩
  all_goals
    go_enter Try.func5, Try.ntmps5
    go_wp2_with fail
    refine (awake_any _).mono ?_
    rintro e w1 ⟨rfl, m1⟩
    have M := Lib.hid m1
    clear m1
    go_wp2_with fail
    refine (C1.out _).mono ?_
    rintro e wq ⟨rfl, mq⟩
    replace M := Lib.hid (M.out.then mq)
    clear mq
    go_wp2_with fail
    first
      | (go_ret; exact ⟨rfl, M.out⟩)
      | ((with_reducible refine (C2.out _).mono ?_); rintro e wq ⟨rfl, mq⟩; replace M := Lib.hid (M.out.then mq); clear mq; go_wp2_with fail; first | (go_ret; exact ⟨rfl, M.out⟩) | ((with_reducible refine (C3.out _).mono ?_); rintro e wq ⟨rfl, mq⟩; replace M := Lib.hid (M.out.then mq); clear mq; go_wp2_with fail; go_ret; exact ⟨rfl, M.out⟩))
set_option maxHeartbeats 4000000 in
set_option maxRecDepth 100000 in
theorem row_all (a b c : ByteArray) (h1 : (a.size : Int) ≤ 1000) (h2 : (b.size : Int) ≤ 1000) (h3 : (c.size : Int) ≤ 1000) (hp : mayN (bys a) = true) (hq : mayN (bys b) = true) (hr : mayN (bys c) = true) (w : World) :
    Calls Try.prog 5 #[.string a, .string b, .string c] w fun e w' => e = .returned (.bool true) ∧ Kept w w' := by
  obtain ⟨x, hx⟩ := may_true hp
  obtain ⟨y, hy⟩ := may_true hq
  obtain ⟨z, hz⟩ := may_true hr
  have C1 := Lib.hid (may_to a true (by omega) hp)
  have C2 := Lib.hid (may_to b true (by omega) hq)
  have C3 := Lib.hid (may_to c true (by omega) hr)
  obtain ⟨X, hX⟩ : ∃ X, cmpN (bys a) (bys b) = X := ⟨_, rfl⟩
  obtain ⟨Y, hY⟩ : ∃ Y, cmpN (bys b) (bys c) = Y := ⟨_, rfl⟩
  obtain ⟨Z, hZ⟩ : ∃ Z, cmpN (bys a) (bys c) = Z := ⟨_, rfl⟩
  have C4 := Lib.hid (compare_to a b X (by omega) (by omega) hX)
  have C5 := Lib.hid (compare_to b c Y (by omega) (by omega) hY)
  have C6 := Lib.hid (compare_to a c Z (by omega) (by omega) hZ)
  have C7 := Lib.hid (compare_to b a (-X) (by omega) (by omega) (by rw [cmp_swap, hX]))
  have C8 := Lib.hid (compare_to a a 0 (by omega) (by omega) (cmp_self _))
  have hs := same_cmp hx hy
  rw [hX] at hs
  have ho := cmp_one (bys a) (bys b)
  have ho2 := cmp_one (bys b) (bys c)
  have ho3 := cmp_one (bys a) (bys c)
  have hon := cmp_on hx hy hz
  rw [hX] at ho
  rw [hY] at ho2
  rw [hZ] at ho3
  rw [hX, hY, hZ] at hon
  obtain ⟨s, hS⟩ : ∃ s, sameN (bys a) (bys b) = s := ⟨_, rfl⟩
  have C9 := Lib.hid (same_to a b s (by omega) (by omega) hS)
  rw [hS] at hs
  have hse : (X == 0) = s := by
    cases s with
    | true => rw [beq_iff_eq]; exact hs.1 rfl
    | false => rw [beq_eq_false_iff_ne]; intro e; have := hs.2 e; cases this
  have b1 : -1 ≤ X := by omega
  have b2 : X ≤ 1 := by omega
  have b3 : -1 ≤ Y ∧ Y ≤ 1 := by omega
  have b4 : -1 ≤ Z ∧ Z ≤ 1 := by omega
  have hcase : 0 < X ∨ X ≤ 0 ∧ 0 < Y ∨ X < 0 ∧ X ≤ 0 ∧ Y ≤ 0 ∧ Z < 0 ∧ Z ≤ 0 ∨ X ≤ 0 ∧ 0 ≤ X ∧ Y < 0 ∧ Y ≤ 0 ∧ Z < 0 ∧ Z ≤ 0 ∨ X ≤ 0 ∧ 0 ≤ X ∧ Y ≤ 0 ∧ 0 ≤ Y ∧ Z ≤ 0 ∧ 0 ≤ Z := by
    by_cases e1 : 0 < X
    · exact .inl e1
    · by_cases e2 : 0 < Y
      · exact .inr (.inl ⟨by omega, e2⟩)
      · have e3 := hon (by omega) (by omega)
        omega
  clear hX hY hZ hS hs ho ho2 ho3 hon hx hy hz hp hq hr
  rcases hcase with d1 | ⟨d1, d2⟩ | ⟨d1, d2, d3, d4, d5⟩ | ⟨d1, d2, d3, d4, d5, d6⟩ | ⟨d1, d2, d3, d4, d5, d6⟩
  all_goals
    go_enter Try.func5, Try.ntmps5
    go_wp2_with fail
    refine (awake_any _).mono ?_
    rintro e w1 ⟨rfl, m1⟩
    have M := Lib.hid m1
    clear m1
    go_wp2_with fail
    refine (C1.out _).mono ?_
    rintro e wq ⟨rfl, mq⟩
    replace M := Lib.hid (M.out.then mq)
    clear mq
    go_wp2_with fail
    refine (C2.out _).mono ?_
    rintro e wq ⟨rfl, mq⟩
    replace M := Lib.hid (M.out.then mq)
    clear mq
    go_wp2_with fail
    refine (C3.out _).mono ?_
    rintro e wq ⟨rfl, mq⟩
    replace M := Lib.hid (M.out.then mq)
    clear mq
    go_wp2_with fail
    refine (C4.out _).mono ?_
    rintro e wq ⟨rfl, mq⟩
    replace M := Lib.hid (M.out.then mq)
    clear mq
    go_wp2_with fail
    refine (C5.out _).mono ?_
    rintro e wq ⟨rfl, mq⟩
    replace M := Lib.hid (M.out.then mq)
    clear mq
    go_wp2_with fail
    refine (C6.out _).mono ?_
    rintro e wq ⟨rfl, mq⟩
    replace M := Lib.hid (M.out.then mq)
    clear mq
    go_wp2_with fail
    refine (C7.out _).mono ?_
    rintro e wq ⟨rfl, mq⟩
    replace M := Lib.hid (M.out.then mq)
    clear mq
    go_wp2_with fail
    refine (C9.out _).mono ?_
    rintro e wq ⟨rfl, mq⟩
    replace M := Lib.hid (M.out.then mq)
    clear mq
    go_wp2_with fail
    refine (C8.out _).mono ?_
    rintro e wq ⟨rfl, mq⟩
    replace M := Lib.hid (M.out.then mq)
    clear mq
    go_wp2_with fail
    go_ret
    first | exact ⟨rfl, M.out⟩ | exact ⟨ret_bool (by by_cases e1 : X < 0 <;> by_cases e2 : Y < 0 <;> by_cases e3 : Z < 0 <;> simp [e1, e2, e3] <;> omega), M.out⟩
theorem row_any2 (a b c : ByteArray) (ha : a.size < 2 ^ 63) (hb : b.size < 2 ^ 63) (hc : c.size < 2 ^ 63) (w : World) :
    Calls Try.prog 5 #[.string a, .string b, .string c] w fun e w' => e = .returned (.bool true) ∧ Kept w w' := by
  by_cases h : 1000 < a.size ∨ 1000 < b.size ∨ 1000 < c.size
  · exact row_big a b c h ha hb hc w
  · cases hp : mayN (bys a) with
    | false => exact row_none a b c (by omega) (by omega) (by omega) _ _ _ hp rfl rfl (.inl rfl) w
    | true =>
      cases hq : mayN (bys b) with
      | false => exact row_none a b c (by omega) (by omega) (by omega) _ _ _ hp hq rfl (.inr (.inl ⟨rfl, rfl⟩)) w
      | true =>
        cases hr : mayN (bys c) with
        | false => exact row_none a b c (by omega) (by omega) (by omega) _ _ _ hp hq hr (.inr (.inr ⟨rfl, rfl, rfl⟩)) w
        | true => exact row_all a b c (by omega) (by omega) (by omega) hp hq hr w
end Go.Proofs.Ytafeepokcakmkaa
