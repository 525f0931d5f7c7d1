/- The document's letter of a text, walked. Conditions: at most 1000000 bytes. -/
import Derived.Test.YtafeepokcakmkaaNamZ
import Derived.Test.YtafeepokcakmkaaNamV
import Derived.Outline
namespace Go.Proofs.Ytafeepokcakmkaa
open Go.RowKit

theorem digit_any (c : Int) (x : Nat) (hc : c = x) (b : Bool) (hb : isDig x = b) (w : World) :
    Calls Try.prog 60 #[.int .u8 c] w fun e w' => e = .returned (.bool b) ∧ w' = w := by
  subst hc
  cases b with
  | true =>
    obtain ⟨h1, h2⟩ := dig_true hb
    have i1 : (48 : Int) ≤ (x : Int) := by omega
    have i2 : (x : Int) ≤ 57 := by omega
    go_enter Try.func60, Try.ntmps60
    go_wp2_with fail
    go_ret
    exact ⟨rfl, rfl⟩
  | false =>
    have h := dig_false hb
    have i0 : (x : Int) < 48 ∨ 48 ≤ (x : Int) ∧ 57 < (x : Int) := by omega
    clear h
    rcases i0 with i1 | ⟨i1, i2⟩
    all_goals
      go_enter Try.func60, Try.ntmps60
      go_wp2_with fail
      go_ret
      first | exact ⟨rfl, rfl⟩ | exact ⟨ret_bool (decide_eq_false (by omega)), rfl⟩
/-- The byte at a place, as a number. -/
theorem at_num {s : ByteArray} {p : Nat} (h : p < s.size) : ∃ c : Nat, ((s[p]'h).toNat : Int) = (c : Int) ∧ c < 256 ∧ (bys s).drop p = c :: (bys s).drop (p + 1) :=
  ⟨_, rfl, (s[p]'h).toNat_lt, drop_cons h⟩
def LetTo (s : ByteArray) (p : Nat) (w : World) (e : Ending) (w' : World) : Prop :=
  e = .returned (.tuple #[.int .u8 ((letN ((bys s).drop p)).1 : Nat), .int .i64 ((letN ((bys s).drop p)).2 : Nat)]) ∧ Kept w w'
set_option maxHeartbeats 4000000 in
set_option maxRecDepth 100000 in
theorem letter_any (s : ByteArray) (hs : s.size ≤ 1000000) (p : Nat) (hp : p < s.size) (w : World) :
    Calls Try.prog 46 #[.string s, .int .i64 p] w (LetTo s p w) := by
  obtain ⟨c, hc, hc256, hdc⟩ := at_num hp
  have i0 : (p : Int) < (s.size : Int) := by omega
  have HDC := Lib.hid hdc
  clear hdc
  by_cases h1 : c < 33 ∨ 126 < c
  · have HE := Lib.hid (show letN ((bys s).drop p) = (0, 0) by rw [HDC.out]; simp only [letN]; rw [if_pos h1])
    have j1 : (c : Int) < 33 ∨ 33 ≤ (c : Int) ∧ 126 < (c : Int) := by omega
    clear h1
    rcases j1 with j1 | ⟨j1, j2⟩
    all_goals
      go_enter Try.func46, Try.ntmps46
      go_wp2_with fail
      refine bodyPost_ret (v := .tuple #[.int .u8 0, .int .i64 0]) (by simp [results, Try.results46, go_sem]) rfl ⟨by rw [HE.out]; rfl, Kept.refl _⟩
  · have j1 : 33 ≤ (c : Int) := by omega
    have j2 : (c : Int) ≤ 126 := by omega
    by_cases h2 : c = 92
    · have t1 : ((c : Int) != 92) = false := by rw [h2]; rfl
      have HE1 := Lib.hid (show letN ((bys s).drop p) = escN ((bys s).drop (p + 1)) by rw [HDC.out]; simp only [letN]; rw [if_neg h1, if_pos h2])
      clear h1 h2
      by_cases hp1 : p + 1 < s.size
      · obtain ⟨d, hd, hd256, hdd⟩ := at_num hp1
        have i1 : (p : Int) + 1 < (s.size : Int) := by omega
        have HDD := Lib.hid hdd
        clear hdd
        cases hdig : isDig d with
        | false =>
          have CD := Lib.hid (fun w => digit_any (d : Int) d rfl false hdig w)
          by_cases hpr : 33 ≤ d ∧ d ≤ 126
          · have HE := Lib.hid (show letN ((bys s).drop p) = (d, 2) by rw [HE1.out, HDD.out]; simp only [escN]; rw [if_pos ⟨hdig, hpr⟩])
            have k1 : 33 ≤ (d : Int) := by omega
            have k2 : (d : Int) ≤ 126 := by omega
            clear hdig hpr
            go_enter Try.func46, Try.ntmps46
            go_wp2_with fail
            refine (CD.out _).mono ?_
            rintro e wq ⟨rfl, rfl⟩
            go_wp2_with fail
            refine bodyPost_ret (v := .tuple #[.int .u8 d, .int .i64 2]) (by simp [results, Try.results46, go_sem]) rfl ⟨by rw [HE.out]; rfl, Kept.refl _⟩
          · have HE := Lib.hid (show letN ((bys s).drop p) = (0, 0) by
              rw [HE1.out, HDD.out]
              simp only [escN]
              rw [if_neg (fun e => hpr e.2)]
              unfold digs
              split
              · rw [hdig]; rfl
              · rfl)
            have k1 : (d : Int) < 33 ∨ 33 ≤ (d : Int) ∧ 126 < (d : Int) := by omega
            have k2 : (p : Int) + 3 < (s.size : Int) ∨ (s.size : Int) ≤ (p : Int) + 3 := by omega
            clear hdig hpr
            rcases k1 with k1 | ⟨k1, k3⟩
            all_goals
              rcases k2 with k2 | k2
              all_goals
                go_enter Try.func46, Try.ntmps46
                go_wp2_with fail
                refine (CD.out _).mono ?_
                rintro e wq ⟨rfl, rfl⟩
                go_wp2_with fail
                try ((with_reducible refine (CD.out _).mono ?_); rintro e wq ⟨rfl, rfl⟩; go_wp2_with fail)
                refine bodyPost_ret (v := .tuple #[.int .u8 0, .int .i64 0]) (by simp [results, Try.results46, go_sem]) rfl ⟨by rw [HE.out]; rfl, Kept.refl _⟩
        | true =>
          have CD := Lib.hid (fun w => digit_any (d : Int) d rfl true hdig w)
          have HE2 := Lib.hid (show letN ((bys s).drop p) = digs d ((bys s).drop (p + 1 + 1)) by rw [HE1.out, HDD.out]; simp only [escN]; rw [if_neg (fun e => by rw [hdig] at e; cases e.1)])
          by_cases hp3 : p + 3 < s.size
          · obtain ⟨e, he, he256, hde⟩ := at_num (show p + 2 < s.size by omega)
            obtain ⟨f, hf, hf256, hdf⟩ := at_num hp3
            have HE3 := Lib.hid (show letN ((bys s).drop p) = digs d (e :: f :: (bys s).drop (p + 3 + 1)) by rw [HE2.out, show p + 1 + 1 = p + 2 by omega, hde, show p + 2 + 1 = p + 3 by omega, hdf])
            have k2 : (p : Int) + 3 < (s.size : Int) := by omega
            have k3 : (p : Int) + 2 < (s.size : Int) := by omega
            clear hde hdf
            cases hdig2 : isDig e with
            | false =>
              have CE := Lib.hid (fun w => digit_any (e : Int) e rfl false hdig2 w)
              have HE := Lib.hid (show letN ((bys s).drop p) = (0, 0) by rw [HE3.out]; simp [digs, hdig2])
              clear hdig hdig2
              go_enter Try.func46, Try.ntmps46
              go_wp2_with fail
              refine (CD.out _).mono ?_
              rintro e wq ⟨rfl, rfl⟩
              go_wp2_with fail
              refine (CD.out _).mono ?_
              rintro e wq ⟨rfl, rfl⟩
              go_wp2_with fail
              refine (CE.out _).mono ?_
              rintro e wq ⟨rfl, rfl⟩
              go_wp2_with fail
              refine bodyPost_ret (v := .tuple #[.int .u8 0, .int .i64 0]) (by simp [results, Try.results46, go_sem]) rfl ⟨by rw [HE.out]; rfl, Kept.refl _⟩
            | true =>
              have CE := Lib.hid (fun w => digit_any (e : Int) e rfl true hdig2 w)
              cases hdig3 : isDig f with
              | false =>
                have CF := Lib.hid (fun w => digit_any (f : Int) f rfl false hdig3 w)
                have HE := Lib.hid (show letN ((bys s).drop p) = (0, 0) by rw [HE3.out]; simp [digs, hdig3])
                clear hdig hdig2 hdig3
                go_enter Try.func46, Try.ntmps46
                go_wp2_with fail
                refine (CD.out _).mono ?_
                rintro e wq ⟨rfl, rfl⟩
                go_wp2_with fail
                refine (CD.out _).mono ?_
                rintro e wq ⟨rfl, rfl⟩
                go_wp2_with fail
                refine (CE.out _).mono ?_
                rintro e wq ⟨rfl, rfl⟩
                go_wp2_with fail
                refine (CF.out _).mono ?_
                rintro e wq ⟨rfl, rfl⟩
                go_wp2_with fail
                refine bodyPost_ret (v := .tuple #[.int .u8 0, .int .i64 0]) (by simp [results, Try.results46, go_sem]) rfl ⟨by rw [HE.out]; rfl, Kept.refl _⟩
              | true =>
                have CF := Lib.hid (fun w => digit_any (f : Int) f rfl true hdig3 w)
                obtain ⟨d1, d2⟩ := dig_true hdig
                obtain ⟨e1, e2⟩ := dig_true hdig2
                obtain ⟨f1, f2⟩ := dig_true hdig3
                obtain ⟨N, hN⟩ : ∃ N, N = 100 * (d - 48) + 10 * (e - 48) + (f - 48) := ⟨_, rfl⟩
                have hNI : 100 * ((d : Int) - 48) + 10 * ((e : Int) - 48) + ((f : Int) - 48) = (N : Int) := by omega
                have HDG := Lib.hid (show letN ((bys s).drop p) = if N ≤ 255 then (N, 4) else (0, 0) by
                  rw [HE3.out, hN]
                  simp only [digs, hdig, hdig2, hdig3, Bool.true_and, decide_eq_true_eq])
                have hN2 : N < 1000 := by omega
                have b1 : (48 : Int) ≤ (d : Int) ∧ (d : Int) ≤ 57 := by omega
                have b2 : (48 : Int) ≤ (e : Int) ∧ (e : Int) ≤ 57 := by omega
                have b3 : (48 : Int) ≤ (f : Int) ∧ (f : Int) ≤ 57 := by omega
                clear hdig hdig2 hdig3 hN
                by_cases h255 : N ≤ 255
                · have HE := Lib.hid (HDG.out.trans (if_pos h255))
                  have n1 : (N : Int) ≤ 255 := by omega
                  clear h255
                  go_enter Try.func46, Try.ntmps46
                  go_wp2_with fail
                  refine (CD.out _).mono ?_
                  rintro e wq ⟨rfl, rfl⟩
                  go_wp2_with fail
                  refine (CD.out _).mono ?_
                  rintro e wq ⟨rfl, rfl⟩
                  go_wp2_with fail
                  refine (CE.out _).mono ?_
                  rintro e wq ⟨rfl, rfl⟩
                  go_wp2_with fail
                  refine (CF.out _).mono ?_
                  rintro e wq ⟨rfl, rfl⟩
                  go_wp2_with fail
                  go_region
                  go_wp2_with fail
                  refine bodyPost_ret (v := .tuple #[.int .u8 N, .int .i64 4]) (by simp [results, Try.results46, go_sem]) rfl ⟨by rw [HE.out]; rfl, (Kept.refl _).drew⟩
                · have HE := Lib.hid (HDG.out.trans (if_neg h255))
                  have n1 : 255 < (N : Int) := by omega
                  clear h255
                  go_enter Try.func46, Try.ntmps46
                  go_wp2_with fail
                  refine (CD.out _).mono ?_
                  rintro e wq ⟨rfl, rfl⟩
                  go_wp2_with fail
                  refine (CD.out _).mono ?_
                  rintro e wq ⟨rfl, rfl⟩
                  go_wp2_with fail
                  refine (CE.out _).mono ?_
                  rintro e wq ⟨rfl, rfl⟩
                  go_wp2_with fail
                  refine (CF.out _).mono ?_
                  rintro e wq ⟨rfl, rfl⟩
                  go_wp2_with fail
                  go_region
                  go_wp2_with fail
                  refine bodyPost_ret (v := .tuple #[.int .u8 0, .int .i64 0]) (by simp [results, Try.results46, go_sem]) rfl ⟨by rw [HE.out]; rfl, (Kept.refl _).drew⟩
          · have k2 : (s.size : Int) ≤ (p : Int) + 3 := by omega
            have HE := Lib.hid (show letN ((bys s).drop p) = (0, 0) by
              rw [HE2.out]
              have hl : ((bys s).drop (p + 1 + 1)).length ≤ 1 := by rw [List.length_drop, bys_length]; omega
              cases hq : (bys s).drop (p + 1 + 1) with
              | nil => rfl
              | cons a l =>
                cases l with
                | nil => rfl
                | cons b l => rw [hq] at hl; simp at hl)
            clear hdig
            go_enter Try.func46, Try.ntmps46
            go_wp2_with fail
            refine (CD.out _).mono ?_
            rintro e wq ⟨rfl, rfl⟩
            go_wp2_with fail
            refine bodyPost_ret (v := .tuple #[.int .u8 0, .int .i64 0]) (by simp [results, Try.results46, go_sem]) rfl ⟨by rw [HE.out]; rfl, Kept.refl _⟩
      · have i1 : (s.size : Int) ≤ (p : Int) + 1 := by omega
        have i2 : (s.size : Int) ≤ (p : Int) + 3 := by omega
        have HE := Lib.hid (show letN ((bys s).drop p) = (0, 0) by
          rw [HE1.out, List.drop_eq_nil_of_le (by rw [bys_length]; omega)]; rfl)
        go_enter Try.func46, Try.ntmps46
        go_wp2_with fail
        refine bodyPost_ret (v := .tuple #[.int .u8 0, .int .i64 0]) (by simp [results, Try.results46, go_sem]) rfl ⟨by rw [HE.out]; rfl, Kept.refl _⟩
    · have t1 : ((c : Int) != 92) = true := by rw [bne_iff_ne]; omega
      have HE := Lib.hid (show letN ((bys s).drop p) = (c, 1) by rw [HDC.out]; simp only [letN]; rw [if_neg h1, if_neg h2])
      clear h1 h2
      go_enter Try.func46, Try.ntmps46
      go_wp2_with fail
      refine bodyPost_ret (v := .tuple #[.int .u8 c, .int .i64 1]) (by simp [results, Try.results46, go_sem]) rfl ⟨by rw [HE.out]; rfl, Kept.refl _⟩
end Go.Proofs.Ytafeepokcakmkaa
