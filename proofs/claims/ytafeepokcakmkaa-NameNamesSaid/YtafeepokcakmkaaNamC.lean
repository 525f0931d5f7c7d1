/- Rows of texts held against each other: slices.Equal, slices.Reverse, slices.Compare, cmp.Compare. Conditions: at most 1000000000 texts. -/
import Derived.Test.YtafeepokcakmkaaNamI
import Derived.Outline
namespace Go.Proofs.Ytafeepokcakmkaa
open Go.RowKit

theorem less_iff : ∀ (a b : List UInt8), Op.bytesLess a b = decide (cmpS (a.map (·.toNat)) (b.map (·.toNat)) = -1)
  | [], [] => by simp [Op.bytesLess, cmpS, cmpG]
  | [], _ :: _ => by simp [Op.bytesLess, cmpS, cmpG]
  | _ :: _, [] => by simp [Op.bytesLess, cmpS, cmpG]
  | x :: xs, y :: ys => by
    have ih := less_iff xs ys
    have hx := x.toNat_lt
    have hy := y.toNat_lt
    simp only [Op.bytesLess, List.map_cons, cmpS, cmpG] at ih ⊢
    by_cases h1 : x < y
    · have e : cmpI x.toNat y.toNat = -1 := by unfold cmpI; rw [if_pos (UInt8.lt_iff_toNat_lt.1 h1)]
      simp [h1, e]
    · by_cases h2 : x = y
      · subst h2
        have e : cmpI x.toNat x.toNat = 0 := row_cmpI.self _
        simp only [e, if_true, h1, decide_false, Bool.false_or, beq_self_eq_true, Bool.true_and]
        rw [ih]
        exact decide_eq_decide.2 Iff.rfl
      · have h3 : ¬ x.toNat < y.toNat := fun h => h1 (UInt8.lt_iff_toNat_lt.2 h)
        have h4 : ¬ x.toNat = y.toNat := fun h => h2 (UInt8.toNat_inj.1 h)
        have e : cmpI x.toNat y.toNat = 1 := by unfold cmpI; rw [if_neg h3, if_neg h4]
        simp [h1, e, h2]
theorem less_bys (a b : ByteArray) : Op.bytesLess a.toList b.toList = decide (cmpS (bys a) (bys b) = -1) := by
  rw [ByteArray.toList_eq, ByteArray.toList_eq, less_iff]
  rfl
theorem nan_int (x : Int) (w : World) : Calls Try.prog 57 #[.int .i64 x] w fun e w' => e = .returned (.bool false) ∧ w' = w := by
  have h : (x != x) = false := by simp
  go_enter Try.func57, Try.ntmps57
  go_wp2_with fail
  go_ret
  exact ⟨by first | rfl | simp, rfl⟩
theorem nan_str (x : ByteArray) (w : World) : Calls Try.prog 63 #[.string x] w fun e w' => e = .returned (.bool false) ∧ w' = w := by
  have h : (x.toList == x.toList) = true := by simp
  go_enter Try.func63, Try.ntmps63
  go_wp2_with fail
  go_ret
  exact ⟨by first | rfl | simp, rfl⟩
theorem cmp_int (x y : Int) (r : Int) (hr : r = if x < y then -1 else if x = y then 0 else 1) (w : World) : Calls Try.prog 41 #[.int .i64 x, .int .i64 y] w fun e w' => e = .returned (.int .i64 r) ∧ w' = w := by
  by_cases h1 : x < y
  · rw [if_pos h1] at hr
    subst hr
    go_enter Try.func41, Try.ntmps41
    go_wp2_with fail
    refine (nan_int x _).mono ?_
    rintro e wq ⟨rfl, rfl⟩
    go_wp2_with fail
    refine (nan_int y _).mono ?_
    rintro e wq ⟨rfl, rfl⟩
    go_wp2_with fail
    go_ret
    exact ⟨rfl, rfl⟩
  · rw [if_neg h1] at hr
    by_cases h2 : x = y
    · rw [if_pos h2] at hr
      subst hr
      have h3 : ¬ y < x := by omega
      clear h2
      go_enter Try.func41, Try.ntmps41
      go_wp2_with fail
      refine (nan_int x _).mono ?_
      rintro e wq ⟨rfl, rfl⟩
      go_wp2_with fail
      refine (nan_int y _).mono ?_
      rintro e wq ⟨rfl, rfl⟩
      go_wp2_with fail
      go_ret
      exact ⟨rfl, rfl⟩
    · rw [if_neg h2] at hr
      subst hr
      have h3 : y < x := by omega
      clear h2
      go_enter Try.func41, Try.ntmps41
      go_wp2_with fail
      refine (nan_int x _).mono ?_
      rintro e wq ⟨rfl, rfl⟩
      go_wp2_with fail
      refine (nan_int y _).mono ?_
      rintro e wq ⟨rfl, rfl⟩
      go_wp2_with fail
      go_ret
      exact ⟨rfl, rfl⟩
theorem cmp_str (a b : ByteArray) (w : World) : Calls Try.prog 58 #[.string a, .string b] w fun e w' => e = .returned (.int .i64 (cmpS (bys a) (bys b))) ∧ w' = w := by
  have ho := row_cmpS.one (bys a) (bys b)
  have h1 := less_bys a b
  have h2 := eq_bys a b
  have h3 := row_cmpS.eq (bys a) (bys b)
  rcases ho with h | h | h
  · rw [h, decide_eq_true rfl] at h1
    rw [h]
    clear h h2 h3
    go_enter Try.func58, Try.ntmps58
    go_wp2_with fail
    refine (nan_str a _).mono ?_
    rintro e wq ⟨rfl, rfl⟩
    go_wp2_with fail
    refine (nan_str b _).mono ?_
    rintro e wq ⟨rfl, rfl⟩
    go_wp2_with fail
    go_ret
    exact ⟨rfl, rfl⟩
  · rw [h, decide_eq_false (by decide)] at h1
    rw [decide_eq_true (h3.1 h)] at h2
    rw [h]
    clear h h3
    go_enter Try.func58, Try.ntmps58
    go_wp2_with fail
    refine (nan_str a _).mono ?_
    rintro e wq ⟨rfl, rfl⟩
    go_wp2_with fail
    refine (nan_str b _).mono ?_
    rintro e wq ⟨rfl, rfl⟩
    go_wp2_with fail
    go_ret
    exact ⟨rfl, rfl⟩
  · rw [h, decide_eq_false (by decide)] at h1
    rw [decide_eq_false (fun e => by rw [h3.2 e] at h; cases h)] at h2
    rw [h]
    clear h h3
    go_enter Try.func58, Try.ntmps58
    go_wp2_with fail
    refine (nan_str a _).mono ?_
    rintro e wq ⟨rfl, rfl⟩
    go_wp2_with fail
    refine (nan_str b _).mono ?_
    rintro e wq ⟨rfl, rfl⟩
    go_wp2_with fail
    go_ret
    exact ⟨rfl, rfl⟩
def EqRel (X Y : List ByteArray) (w : World) (k : Nat) (i : Value) (wr : World) : Prop :=
  ∃ j : Nat, i = .int .i64 j ∧ j + k = X.length ∧ (∀ m, m < j → X[m]? = Y[m]?) ∧ Kept w wr
theorem list_eq_of {X Y : List ByteArray} (hl : X.length = Y.length) (h : ∀ m, m < X.length → X[m]? = Y[m]?) : X = Y := by
  apply List.ext_getElem? 
  intro i
  rcases Nat.lt_or_ge i X.length with h1 | h1
  · exact h i h1
  · rw [List.getElem?_eq_none h1, List.getElem?_eq_none (by omega)]
set_option maxHeartbeats 1000000 in
theorem equal_any (v1 v2 : Value) (X Y : List ByteArray) (hx : X.length ≤ 1000000000) (_hy : Y.length ≤ 1000000000) (w : World) (h1 : Rd w 1 v1 X.length (strVals X)) (h2 : Rd w 1 v2 Y.length (strVals Y)) :
    Calls Try.prog 39 #[v1, v2] w fun e w' => e = .returned (.bool (decide (X = Y))) ∧ Kept w w' := by
  have H1 := Lib.hid h1
  have H2 := Lib.hid h2
  obtain ⟨_, A1, c1, rfl, _⟩ := h1
  obtain ⟨_, A2, c2, rfl, _⟩ := h2
  by_cases hl : X.length = Y.length
  · have HL := Lib.hid hl
    have t0 : ((X.length : Int) != (Y.length : Int)) = false := by simp; omega
    clear hl
    go_enter Try.func39, Try.ntmps39
    go_wp2_with fail
    go_loopg [5, 13] X.length (fun k _ i wr => EqRel X Y w k i wr)
    case atStart => exact ⟨0, rfl, by omega, fun m hm => by omega, Kept.refl _⟩
    case round =>
      obtain ⟨j, rfl, hj, hsame, hm⟩ := hrel
      have HJ := Lib.hid hj
      have HSM := Lib.hid hsame
      have M := Lib.hid hm
      have hjl : j ≤ X.length := by omega
      by_cases hlt : j < X.length
      · have HLT := Lib.hid hlt
        obtain ⟨x, hx2⟩ : ∃ x, X[j]? = some x := ⟨_, List.getElem?_eq_getElem hlt⟩
        obtain ⟨y, hy2⟩ : ∃ y, Y[j]? = some y := ⟨_, List.getElem?_eq_getElem (by have := HL.out; omega)⟩
        obtain ⟨b1, o1, d1, e1, hb1, g1⟩ := (H1.out.kept M.out (fun _ _ e => e)).at hlt
        injection e1 with e1 _ e1'
        subst e1 e1'
        obtain ⟨b2, o2, d2, e2, hb2, g2⟩ := (H2.out.kept M.out (fun _ _ e => e)).at (show j < Y.length by have := HL.out; omega)
        injection e2 with e2 _ e2'
        subst e2 e2'
        have f1 := g1 j _ (strVals_get hx2)
        have f2 := g2 j _ (strVals_get hy2)
        have i1 : (j : Int) < (X.length : Int) := by omega
        have i2 : (j : Int) < (Y.length : Int) := by have := HL.out; omega
        have HX := Lib.hid hx2
        have HY := Lib.hid hy2
        clear hx2 hy2 g1 g2 hj hsame hm hlt
        by_cases hxy : x = y
        · have t1 : (x.toList == y.toList) = true := by rw [hxy]; simp
          have HXY := Lib.hid hxy
          clear hxy
          go_wp2_with fail
          go_quiet (fail)
          go_wp2_with fail
          go_roundg (X.length - (j + 1))
          case measure => have := HJ.out; have := HLT.out; omega
          case rel =>
            refine ⟨j + 1, by go_num, by have := HLT.out; omega, fun m hm => ?_, ?_⟩
            · rcases Nat.lt_or_ge m j with h | h
              · exact HSM.out m h
              · obtain rfl : m = j := by omega
                rw [HX.out, HY.out, HXY.out]
            · first | exact M.out.drewN _ | exact M.out.drew | exact M.out
        · have t1 : (x.toList == y.toList) = false := by rw [eq_bys, decide_eq_false_iff_not]; exact fun e => hxy (bys_inj e)
          have HXY := Lib.hid hxy
          clear hxy
          go_wp2_with fail
          go_quiet (fail)
          go_wp2_with fail
          go_ret
          refine ⟨ret_bool ?_, ?_⟩
          · refine (decide_eq_false fun e => HXY.out ?_).symm
            have h1 := HX.out
            rw [e, HY.out] at h1
            exact (Option.some.inj h1).symm
          · first | exact M.out.drewN _ | exact M.out.drew | exact M.out
      · obtain rfl : j = X.length := by omega
        have HE := Lib.hid (list_eq_of HL.out hsame)
        clear hj hsame hm hlt
        go_wp2_with fail
        go_ret
        exact ⟨ret_bool (decide_eq_true HE.out).symm, M.out⟩
  · have HL := Lib.hid hl
    have t0 : ((X.length : Int) != (Y.length : Int)) = true := by simp; omega
    clear hl
    go_enter Try.func39, Try.ntmps39
    go_wp2_with fail
    go_ret
    exact ⟨ret_bool (decide_eq_false (fun e => HL.out (by rw [e]))).symm, Kept.refl _⟩
end Go.Proofs.Ytafeepokcakmkaa
