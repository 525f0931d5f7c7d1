/- Fold, Parent, Same, walked. Conditions: texts that a memory may hold. -/
import Derived.Test.YtafeepokcakmkaaNamH
namespace Go.Proofs.Ytafeepokcakmkaa
open Go.RowKit

theorem fold_any (n : ByteArray) (hn : n.size < 2 ^ 63) (w : World) :
    Calls Try.prog 26 #[.string n] w fun e w' => e = .returned (.string (foldS n)) ∧ Kept w w' := by
  go_enter Try.func26, Try.ntmps26
  go_wp2_with fail
  refine (all_any n hn _).mono ?_
  rintro e w1 ⟨m1, ⟨hs, rfl⟩ | ⟨v, L, ls, hs, hl, rfl, hT⟩⟩
  · have HS := Lib.hid hs
    have M := Lib.hid m1
    clear hs m1
    go_wp2_with fail
    go_ret
    exact ⟨by unfold foldS; rw [fold_none HS.out]; rfl, M.out⟩
  · have HS := Lib.hid hs
    have HL := Lib.hid hl
    have M := Lib.hid m1
    obtain ⟨h1, h2, h3⟩ := (splitN_iff _ _).1 hs
    have hj : (joinN (lbs L)).length ≤ 1000000000 := by rw [hl, joinN_length_low, ← h1]; omega
    have ho : ∀ x ∈ L, x.size < 256 := by
      intro x hx
      have h4 : bys x ∈ ls.map lowL := by rw [← hl]; exact List.mem_map.2 ⟨x, hx, rfl⟩
      have := labOk_low h2 _ h4
      unfold LabOk at this
      rw [bys_length] at this
      omega
    have HJ := Lib.hid hj
    have HO := Lib.hid ho
    clear hs hl m1 h1 h2 h3 hj ho
    go_wp2_with fail
    refine (joined_any v L HO.out HJ.out _ hT.rd).mono ?_
    rintro e w2 ⟨rfl, m2⟩
    replace M := Lib.hid (M.out.then m2)
    clear m2
    go_wp2_with fail
    go_ret
    refine ⟨?_, M.out⟩
    unfold foldS
    rw [fold_some HS.out, HL.out]
    rfl
theorem parentN_ok {n : List Nat} {l : List Nat} {ls : List (List Nat)} (h : splitN n = some (l :: ls)) : parentN n = some (joinN ls) := by unfold parentN; rw [h]
theorem parentN_root {n : List Nat} (h : splitN n = some []) : parentN n = none := by unfold parentN; rw [h]
theorem parentN_none {n : List Nat} (h : splitN n = none) : parentN n = none := by unfold parentN; rw [h]
/-- The parent as a text: empty, where there is none. -/
def parS (n : ByteArray) : ByteArray := mkS ((parentN (bys n)).getD [])
def parB (n : ByteArray) : Bool := (parentN (bys n)).isSome
theorem first_of_split {n : List Nat} {l : List Nat} {ls : List (List Nat)} (h : splitN n = some (l :: ls)) : firstN n = some (l, joinN ls) := by
  obtain ⟨h1, h2, h3⟩ := (splitN_iff _ _).1 h
  have h4 := h2 l (by simp)
  unfold LabOk at h4
  have hp := joinN_pos ls
  rw [h1]
  simp only [joinN, firstN]
  rw [if_neg (by simp only [List.length_append]; omega), List.take_left, List.drop_left]
theorem not_root {n : List Nat} {l : List Nat} {ls : List (List Nat)} (h : splitN n = some (l :: ls)) : n ≠ [0] := by
  intro e
  rw [e] at h
  cases h
theorem parent_any (n : ByteArray) (hn : n.size < 2 ^ 63) (w : World) :
    Calls Try.prog 29 #[.string n] w fun e w' => e = .returned (.tuple #[.string (parS n), .bool (parB n)]) ∧ Kept w w' := by
  cases hs : splitN (bys n) with
  | none =>
    have hm : mayN (bys n) = false := by unfold mayN; rw [hs]; rfl
    have HP := Lib.hid (show parS n = ⟨#[]⟩ ∧ parB n = false by unfold parS parB; rw [parentN_none hs]; exact ⟨rfl, rfl⟩)
    have C := Lib.hid (fun w => may_any n hn w)
    rw [hm] at C
    clear hs hm
    go_enter Try.func29, Try.ntmps29
    go_wp2_with fail
    refine (C.out _).mono ?_
    rintro e w1 ⟨rfl, m1⟩
    have M := Lib.hid m1
    clear m1
    go_wp2_with fail
    refine bodyPost_ret (v := .tuple #[.string ⟨#[]⟩, .bool false]) (by simp [results, Try.results29, go_sem]) rfl ⟨by rw [HP.out.1, HP.out.2], M.out⟩
  | some ls =>
    have hm : mayN (bys n) = true := by unfold mayN; rw [hs]; rfl
    have C := Lib.hid (fun w => may_any n hn w)
    rw [hm] at C
    cases ls with
    | nil =>
      have HP := Lib.hid (show parS n = ⟨#[]⟩ ∧ parB n = false by unfold parS parB; rw [parentN_root hs]; exact ⟨rfl, rfl⟩)
      have t0 : (n.toList == [0]) = true := by rw [eq_lit, decide_eq_true_eq]; exact ((splitN_iff _ _).1 hs).1
      clear hs hm
      go_enter Try.func29, Try.ntmps29
      go_wp2_with fail
      refine (C.out _).mono ?_
      rintro e w1 ⟨rfl, m1⟩
      have M := Lib.hid m1
      clear m1
      go_wp2_with fail
      refine bodyPost_ret (v := .tuple #[.string ⟨#[]⟩, .bool false]) (by simp [results, Try.results29, go_sem]) rfl ⟨by rw [HP.out.1, HP.out.2], M.out⟩
    | cons l ls =>
      have HP := Lib.hid (show parS n = mkS (joinN ls) ∧ parB n = true by unfold parS parB; rw [parentN_ok hs]; exact ⟨rfl, rfl⟩)
      have t0 : (n.toList == [0]) = false := by rw [eq_lit, decide_eq_false_iff_not]; exact not_root hs
      have HF := Lib.hid (first_of_split hs)
      clear hs hm
      go_enter Try.func29, Try.ntmps29
      go_wp2_with fail
      refine (C.out _).mono ?_
      rintro e w1 ⟨rfl, m1⟩
      have M := Lib.hid m1
      clear m1
      go_wp2_with fail
      refine (first_to n hn _).mono ?_
      rintro e w2 ⟨m2, ⟨hf, rfl⟩ | ⟨a, r, hf, rfl⟩⟩
      · rw [HF.out] at hf; cases hf
      · have HR : Hid (r = mkS (joinN ls)) := Lib.hid (by
          rw [HF.out] at hf
          injection hf with hf
          injection hf with h1 h2
          exact eq_of_bys h2.symm)
        replace M := Lib.hid (M.out.then m2)
        clear m2 hf
        go_wp2_with fail
        refine bodyPost_ret (v := .tuple #[.string r, .bool true]) (by simp [results, Try.results29, go_sem]) rfl ⟨by rw [HP.out.1, HP.out.2, HR.out], M.out⟩
theorem same_any (a b : ByteArray) (ha : a.size < 2 ^ 63) (hb : b.size < 2 ^ 63) (w : World) :
    Calls Try.prog 13 #[.string a, .string b] w fun e w' => e = .returned (.bool (sameN (bys a) (bys b))) ∧ Kept w w' := by
  have CA := Lib.hid (fun w => may_any a ha w)
  have CB := Lib.hid (fun w => may_any b hb w)
  cases h1 : mayN (bys a) with
  | false =>
    rw [h1] at CA
    have HE := Lib.hid (show sameN (bys a) (bys b) = false by unfold sameN; rw [h1]; rfl)
    clear h1
    go_enter Try.func13, Try.ntmps13
    go_wp2_with fail
    refine (CA.out _).mono ?_
    rintro e w1 ⟨rfl, m1⟩
    have M := Lib.hid m1
    clear m1
    go_wp2_with fail
    go_ret
    exact ⟨by rw [HE.out]; rfl, M.out⟩
  | true =>
    rw [h1] at CA
    cases h2 : mayN (bys b) with
    | false =>
      rw [h2] at CB
      have HE := Lib.hid (show sameN (bys a) (bys b) = false by unfold sameN; rw [h1, h2]; rfl)
      clear h1 h2
      go_enter Try.func13, Try.ntmps13
      go_wp2_with fail
      refine (CA.out _).mono ?_
      rintro e w1 ⟨rfl, m1⟩
      have M := Lib.hid m1
      clear m1
      go_wp2_with fail
      refine (CB.out _).mono ?_
      rintro e w2 ⟨rfl, m2⟩
      replace M := Lib.hid (M.out.then m2)
      clear m2
      go_wp2_with fail
      go_ret
      exact ⟨by rw [HE.out]; rfl, M.out⟩
    | true =>
      rw [h2] at CB
      have HE := Lib.hid (show sameN (bys a) (bys b) = ((foldS a).toList == (foldS b).toList) by
        rw [eq_bys, bys_foldS, bys_foldS]
        unfold sameN
        rw [h1, h2]
        simp)
      clear h1 h2
      go_enter Try.func13, Try.ntmps13
      go_wp2_with fail
      refine (CA.out _).mono ?_
      rintro e w1 ⟨rfl, m1⟩
      have M := Lib.hid m1
      clear m1
      go_wp2_with fail
      refine (CB.out _).mono ?_
      rintro e w2 ⟨rfl, m2⟩
      replace M := Lib.hid (M.out.then m2)
      clear m2
      go_wp2_with fail
      refine (fold_any a ha _).mono ?_
      rintro e w3 ⟨rfl, m3⟩
      replace M := Lib.hid (M.out.then m3)
      clear m3
      go_wp2_with fail
      refine (fold_any b hb _).mono ?_
      rintro e w4 ⟨rfl, m4⟩
      replace M := Lib.hid (M.out.then m4)
      clear m4
      go_wp2_with fail
      go_ret
      exact ⟨by rw [HE.out]; rfl, M.out⟩
end Go.Proofs.Ytafeepokcakmkaa
