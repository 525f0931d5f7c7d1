/- LruPlays, walked: the law itself. Conditions: none. -/
import Derived.Test.YtjjgefcjjpckfaaLruPly
import Derived.Deep.RegionHeld3
namespace Go.Proofs.Ytjjgefcjjpckfaa
open Go.RowKit

theorem plays_big (v : Value) (n : Int) (acts : List (Int × Int)) (hl : 1000 < acts.length) (w : World) (hv : RdA w v acts) :
    Calls Try.prog 8 #[.int .i64 n, v] w fun e w' => e = .returned (.bool true) ∧ Kept w w' := by
  obtain ⟨_, A, c, rfl, _⟩ := hv
  have h1 : (1000 : Int) < acts.length := by omega
  go_enter Try.func8, Try.ntmps8
  go_wp2_with (go_at_call 9; refine (awake_c _).mono ?_; rintro e w1 ⟨rfl, hm1⟩)
  go_ret
  exact ⟨rfl, hm1⟩
theorem plays_bad (v : Value) (n : Int) (hn : ¬ (0 ≤ n ∧ n ≤ 256)) (acts : List (Int × Int)) (hl : acts.length ≤ 1000) (w : World) (hv : RdA w v acts) :
    Calls Try.prog 8 #[.int .i64 n, v] w fun e w' => e = .returned (.bool true) ∧ Kept w w' := by
  obtain ⟨_, A, c, rfl, _⟩ := hv
  have h1 : (acts.length : Int) ≤ 1000 := by omega
  have HN := Lib.hid hn
  clear hn
  go_enter Try.func8, Try.ntmps8
  go_wp2_with (first | (go_at_call 9; refine (awake_c _).mono ?_; rintro e w1 ⟨rfl, hm1⟩) | (go_at_call 20; refine (lru_new_bad n HN.out _).mono ?_; rintro e w1 ⟨rfl, rfl⟩) | (go_at_call 21; refine (ref_new_bad n HN.out _).mono ?_; rintro e w1 ⟨rfl, rfl⟩))
  go_ret
  exact ⟨rfl, hm1⟩

theorem refDrop_nat (R : List Nat) (x : Nat) : refDrop R (x : Int) = R.filter (· ≠ x) := by
  unfold refDrop
  apply List.filter_congr
  intro p _
  by_cases h : p = x
  · subst h; simp
  · have : ¬ ((p : Int) = (x : Int)) := by omega
    simp [h, this]
theorem refDrop_eq {n : Int} {R : List Nat} (h : ∀ p ∈ R, (p : Int) < n) (i : Int) : refDrop R i = lDrop n R i := by
  unfold lDrop isIn
  by_cases hi : 0 ≤ i ∧ i < n
  · rw [decide_eq_true hi, if_pos rfl]
    obtain ⟨x, rfl⟩ := Int.eq_ofNat_of_zero_le hi.1
    rw [refDrop_nat, Int.toNat_natCast]
  · rw [decide_eq_false hi]
    simp only [Bool.false_eq_true, if_false]
    refine List.filter_eq_self.2 fun p hp => ?_
    have := h p hp
    simp; omega
theorem refHas_eq {n : Int} {R : List Nat} (h : ∀ p ∈ R, (p : Int) < n) (i : Int) : refHas R i = lHas n R i := by
  unfold lHas isIn refHas
  by_cases hi : 0 ≤ i ∧ i < n
  · rw [decide_eq_true hi, Bool.true_and]
    obtain ⟨x, rfl⟩ := Int.eq_ofNat_of_zero_le hi.1
    rw [Int.toNat_natCast, Bool.eq_iff_iff, List.any_eq_true]
    constructor
    · rintro ⟨p, hp, e⟩
      have e' : (p : Int) = x := by simpa using e
      have : p = x := by omega
      subst this; simpa using hp
    · intro hx
      exact ⟨x, by simpa using hx, by simp⟩
  · rw [decide_eq_false hi, Bool.false_and, List.any_eq_false]
    intro p hp
    have := h p hp
    simp; omega
theorem refDrop_lt (R : List Nat) (i : Int) : decide ((refDrop R i).length < R.length) = refHas R i := by
  induction R with
  | nil => rfl
  | cons a l ih =>
    unfold refDrop refHas at *
    rw [List.filter_cons, List.any_cons]
    by_cases h : (a : Int) = i
    · have := List.length_filter_le (fun (p : Nat) => decide ((p : Int) ≠ i)) l
      rw [if_neg (by simp [h]), decide_eq_true h, Bool.true_or, List.length_cons]
      exact decide_eq_true (by omega)
    · simp only [ne_eq, h, not_false_eq_true, decide_true, if_true, decide_false, Bool.false_or, List.length_cons]
      rw [← ih]
      simp
theorem ref_has_to (b : Nat) (n : Int) (ps : List Nat) (v : Value) (i : Int) (w : World) (h : RefL w b n ps v) (r : Bool) (hr : refHas ps i = r) :
    Calls Try.prog 25 #[At b, .int .i64 i] w fun e w' => e = .returned (.bool r) ∧ w = w' := by
  subst hr
  exact ref_has b n ps v i w h
/-- The document's Use, in range or not, answers as the list's. -/
theorem ref_use_c (b : Nat) (n : Int) (ps : List Nat) (v : Value) (i : Int) (hm : ∀ p ∈ ps, (p : Int) < n) (hlen : (lUse n ps i).length ≤ 256) (w : World) (h : RefL w b n ps v) :
    Calls Try.prog 22 #[At b, .int .i64 i] w fun e w' => e = .returned (.int .i64 (useRes n i)) ∧
      ∃ v', RefL w' b n (lUse n ps i) v' ∧ Mod (Only b) w w' ∧ (∀ k, v'.ownBlock = some k → foot b v k ∨ w.heap.size ≤ k) := by
  by_cases hi : 0 ≤ i ∧ i < n
  · obtain ⟨x, rfl⟩ := Int.eq_ofNat_of_zero_le hi.1
    have hd : isIn n (x : Int) = true := decide_eq_true hi
    have e : lUse n ps x = refDrop ps x ++ [x] := by unfold lUse; rw [hd, if_pos rfl, refDrop_nat]; rfl
    rw [e] at hlen ⊢
    refine (ref_use b n ps v x hi.2 (by simp at hlen; omega) w h).mono ?_
    rintro e w' ⟨rfl, v', h1, h2, h3⟩
    exact ⟨ret_int (by unfold useRes; rw [hd]; rfl), v', h1, h2, fun k hk => .inr (h3 k hk)⟩
  · have hd : isIn n i = false := decide_eq_false hi
    have e : lUse n ps i = ps := by unfold lUse; rw [hd]; rfl
    rw [e]
    refine (ref_use_bad b n ps v i hi w h).mono ?_
    rintro e w' ⟨rfl, rfl⟩
    exact ⟨ret_int (by unfold useRes; rw [hd]; rfl), v, h, Mod.refl _ _, fun k hk => .inl (.inr hk)⟩
theorem ref_drop_c (b : Nat) (n : Int) (ps : List Nat) (v : Value) (i : Int) (hm : ∀ p ∈ ps, (p : Int) < n) (w : World) (h : RefL w b n ps v) :
    Calls Try.prog 23 #[At b, .int .i64 i] w fun e w' => e = .returned (.bool (lHas n ps i)) ∧
      ∃ v', RefL w' b n (lDrop n ps i) v' ∧ Mod (Only b) w w' ∧ (∀ k, v'.ownBlock = some k → foot b v k ∨ w.heap.size ≤ k) := by
  refine (ref_drop b n ps v i w h).mono ?_
  rintro e w' ⟨rfl, v', h1, h2, h3⟩
  rw [refDrop_eq hm] at h1
  exact ⟨ret_bool (by rw [refDrop_lt, refHas_eq hm]), v', h1, h2, fun k hk => .inr (h3 k hk)⟩
end Go.Proofs.Ytjjgefcjjpckfaa
