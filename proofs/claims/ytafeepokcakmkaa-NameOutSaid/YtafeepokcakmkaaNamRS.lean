/- The document's Same, Within, Compare, walked. Conditions: at most 1000000 bytes. -/
import Derived.Test.YtafeepokcakmkaaNamZ
import Derived.Deep.RegionHeld3
import Derived.Outline
namespace Go.Proofs.Ytafeepokcakmkaa
open Go.RowKit

theorem rsame_any (a b : ByteArray) (ha : a.size ≤ 1000000) (hb : b.size ≤ 1000000) (w : World) :
    Calls Try.prog 14 #[.string a, .string b] w fun e w' => e = .returned (.bool (sameN (bys a) (bys b))) ∧ Kept w w' := by
  have CA := Lib.hid (fun w => rmay_any a ha w)
  have CB := Lib.hid (fun w => rmay_any b hb w)
  cases h1 : mayN (bys a) with
  | false =>
    rw [h1] at CA
    have HE := Lib.hid (show sameN (bys a) (bys b) = false by unfold sameN; rw [h1]; rfl)
    clear h1
    go_enter Try.func14, Try.ntmps14
    go_wp2_with fail
    refine (CA.out _).mono ?_
    rintro e w1 ⟨rfl, m1⟩
    have M := Lib.hid m1
    clear m1
    go_wp2_with fail
    go_ret
    exact ⟨by rw [HE.out]; rfl, M.out⟩
  | true =>
    rw [h1] at CA
    cases h2 : mayN (bys b) with
    | false =>
      rw [h2] at CB
      have HE := Lib.hid (show sameN (bys a) (bys b) = false by unfold sameN; rw [h1, h2]; rfl)
      clear h1 h2
      go_enter Try.func14, Try.ntmps14
      go_wp2_with fail
      refine (CA.out _).mono ?_
      rintro e w1 ⟨rfl, m1⟩
      have M := Lib.hid m1
      clear m1
      go_wp2_with fail
      refine (CB.out _).mono ?_
      rintro e w2 ⟨rfl, m2⟩
      replace M := Lib.hid (M.out.then m2)
      clear m2
      go_wp2_with fail
      go_ret
      exact ⟨by rw [HE.out]; rfl, M.out⟩
    | true =>
      rw [h2] at CB
      have HE := Lib.hid (show sameN (bys a) (bys b) = ((foldS a).toList == (foldS b).toList) by
        rw [eq_bys, bys_foldS, bys_foldS]
        unfold sameN
        rw [h1, h2]
        simp)
      clear h1 h2
      go_enter Try.func14, Try.ntmps14
      go_wp2_with fail
      refine (CA.out _).mono ?_
      rintro e w1 ⟨rfl, m1⟩
      have M := Lib.hid m1
      clear m1
      go_wp2_with fail
      refine (CB.out _).mono ?_
      rintro e w2 ⟨rfl, m2⟩
      replace M := Lib.hid (M.out.then m2)
      clear m2
      go_wp2_with fail
      refine (rfold_any a ha _).mono ?_
      rintro e w3 ⟨rfl, m3⟩
      replace M := Lib.hid (M.out.then m3)
      clear m3
      go_wp2_with fail
      refine (rfold_any b hb _).mono ?_
      rintro e w4 ⟨rfl, m4⟩
      replace M := Lib.hid (M.out.then m4)
      clear m4
      go_wp2_with fail
      go_ret
      exact ⟨by rw [HE.out]; rfl, M.out⟩
theorem parS_cons {n : ByteArray} {l : List Nat} {ls : List (List Nat)} (h : splitN (bys n) = some (l :: ls)) : splitN (bys (parS n)) = some ls ∧ parB n = true := by
  have h1 := parentN_ok h
  have h2 := split_tail h
  unfold parS parB
  rw [h1]
  refine ⟨?_, rfl⟩
  show splitN (bys (mkS (joinN ls))) = some ls
  rw [bys_mkS]
  · exact h2
  · obtain ⟨h3, h4, h5⟩ := (splitN_iff _ _).1 h
    intro x hx
    refine bys_lt n x ?_
    rw [h3]
    simp only [joinN, List.mem_cons, List.mem_append]
    exact .inr (.inr hx)
theorem parB_nil {n : ByteArray} (h : splitN (bys n) = some []) : parB n = false := by unfold parB; rw [parentN_root h]; rfl
theorem suffix_step {x y : List (List Nat)} {l : List Nat} (h : l :: x ≠ y) : decide (y <:+ l :: x) = decide (y <:+ x) := by
  refine decide_eq_decide.2 ?_
  rw [List.suffix_cons_iff]
  constructor
  · rintro (h1 | h1)
    · exact absurd h1.symm h
    · exact h1
  · exact .inr
def RWinRel (n z : ByteArray) (ls : List (List Nat)) (w : World) (k : Nat) (vn : Value) (wr : World) : Prop :=
  ∃ (m : ByteArray) (ks : List (List Nat)), vn = .string m ∧ splitN (bys m) = some ks ∧ ks.length = k ∧ withinN (bys n) (bys z) = decide (ls.map lowL <:+ ks.map lowL) ∧ Kept w wr
set_option maxHeartbeats 2000000 in
set_option maxRecDepth 100000 in
theorem rwithin_any (n z : ByteArray) (hn : n.size ≤ 1000000) (hz : z.size ≤ 1000000) (w : World) :
    Calls Try.prog 16 #[.string n, .string z] w fun e w' => e = .returned (.bool (withinN (bys n) (bys z))) ∧ Kept w w' := by
  have C1 := Lib.hid (fun w => rmay_any n hn w)
  have C2 := Lib.hid (fun w => rmay_any z hz w)
  cases hx : splitN (bys n) with
  | none =>
    have e1 : mayN (bys n) = false := by unfold mayN; rw [hx]; rfl
    rw [e1] at C1
    have HE := Lib.hid (withinN_none_l (bys z) hx)
    clear hx e1
    go_enter Try.func16, Try.ntmps16
    go_wp2_with fail
    refine (C1.out _).mono ?_
    rintro e w1 ⟨rfl, m1⟩
    have M := Lib.hid m1
    clear m1
    go_wp2_with fail
    go_ret
    exact ⟨ret_bool HE.out.symm, M.out⟩
  | some ks =>
    have e1 : mayN (bys n) = true := by unfold mayN; rw [hx]; rfl
    rw [e1] at C1
    cases hy : splitN (bys z) with
    | none =>
      have e2 : mayN (bys z) = false := by unfold mayN; rw [hy]; rfl
      rw [e2] at C2
      have HE := Lib.hid (withinN_none_r (bys n) hy)
      clear hx hy e1 e2
      go_enter Try.func16, Try.ntmps16
      go_wp2_with fail
      refine (C1.out _).mono ?_
      rintro e w1 ⟨rfl, m1⟩
      have M := Lib.hid m1
      clear m1
      go_wp2_with fail
      refine (C2.out _).mono ?_
      rintro e wq ⟨rfl, mq⟩
      replace M := Lib.hid (M.out.then mq)
      clear mq
      go_wp2_with fail
      go_ret
      exact ⟨ret_bool HE.out.symm, M.out⟩
    | some ls =>
      have e2 : mayN (bys z) = true := by unfold mayN; rw [hy]; rfl
      rw [e2] at C2
      have HX := Lib.hid hx
      have HY := Lib.hid hy
      have HW := Lib.hid (withinN_eq hx hy)
      clear hx hy e1 e2
      go_enter Try.func16, Try.ntmps16
      go_wp2_with fail
      refine (C1.out _).mono ?_
      rintro e w1 ⟨rfl, m1⟩
      have M := Lib.hid m1
      clear m1
      go_wp2_with fail
      refine (C2.out _).mono ?_
      rintro e wq ⟨rfl, mq⟩
      replace M := Lib.hid (M.out.then mq)
      clear mq
      go_wp2_with fail
      go_loopg [0, 5, 6] ks.length (fun k vn _ _ wr => RWinRel n z ls w k vn wr)
      case atStart => exact ⟨n, ks, rfl, HX.out, rfl, HW.out, M.out⟩
      case round =>
        obtain ⟨m, ks', rfl, hm, hk, hwn, hk2⟩ := hrel
        have hms : m.size ≤ 255 := by
          have := ((splitN_iff _ _).1 hm).2.2
          rw [bys_length] at this; exact this
        have HM := Lib.hid hm
        have HK := Lib.hid hk
        have HWN := Lib.hid hwn
        replace M := Lib.hid hk2
        have CS := Lib.hid (fun w => rsame_any m z (by omega) hz w)
        have CP := Lib.hid (fun w => rparent_any m (by omega) w)
        have hse := sameN_eq hm HY.out
        by_cases hs : ks'.map lowL = ls.map lowL
        · rw [hse, decide_eq_true hs] at CS
          have HE := Lib.hid (show withinN (bys n) (bys z) = true by rw [hwn, hs]; exact decide_eq_true (List.suffix_refl _))
          clear hm hk hwn hk2 hse hs
          go_wp2_with fail
          refine (CS.out _).mono ?_
          rintro e wq ⟨rfl, mq⟩
          replace M := Lib.hid (M.out.then mq)
          clear mq
          go_wp2_with fail
          go_ret
          exact ⟨ret_bool HE.out.symm, M.out⟩
        · rw [hse, decide_eq_false hs] at CS
          have HS := Lib.hid hs
          cases ks' with
          | nil =>
            rw [parB_nil hm] at CP
            have HE := Lib.hid (show withinN (bys n) (bys z) = false by
              rw [hwn]
              refine decide_eq_false fun e => hs ?_
              simp only [List.map_nil, List.suffix_nil] at e ⊢
              exact e.symm)
            clear hm hk hwn hk2 hse hs
            go_wp2_with fail
            refine (CS.out _).mono ?_
            rintro e wq ⟨rfl, mq⟩
            replace M := Lib.hid (M.out.then mq)
            clear mq
            go_wp2_with fail
            refine (CP.out _).mono ?_
            rintro e wq ⟨rfl, mq⟩
            replace M := Lib.hid (M.out.then mq)
            clear mq
            go_wp2_with fail
            go_ret
            exact ⟨ret_bool HE.out.symm, M.out⟩
          | cons l ks2 =>
            obtain ⟨hp1, hp2⟩ := parS_cons hm
            rw [hp2] at CP
            have HP := Lib.hid hp1
            clear hm hk hwn hk2 hse hs hp1 hp2
            go_wp2_with fail
            refine (CS.out _).mono ?_
            rintro e wq ⟨rfl, mq⟩
            replace M := Lib.hid (M.out.then mq)
            clear mq
            go_wp2_with fail
            refine (CP.out _).mono ?_
            rintro e wq ⟨rfl, mq⟩
            replace M := Lib.hid (M.out.then mq)
            clear mq
            go_wp2_with fail
            go_roundg ks2.length
            case measure => have := HK.out; simp only [List.length_cons] at this; omega
            case rel => exact ⟨parS m, ks2, rfl, HP.out, rfl, by rw [HWN.out, List.map_cons]; exact suffix_step (by have := HS.out; rw [List.map_cons] at this; exact this), M.out⟩
end Go.Proofs.Ytafeepokcakmkaa
