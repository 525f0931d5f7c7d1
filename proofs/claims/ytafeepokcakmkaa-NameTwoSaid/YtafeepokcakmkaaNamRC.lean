/- The document's Compare, walked. Conditions: at most 1000000 bytes. -/
import Derived.Test.YtafeepokcakmkaaNamRS
import Derived.Test.YtafeepokcakmkaaNamC
import Derived.Outline
namespace Go.Proofs.Ytafeepokcakmkaa
open Go.RowKit

theorem key_get {L : List ByteArray} {j q : Nat} {x : ByteArray} (hq : q + j + 1 = L.length) (hx : L[q]? = some x) : (keyN (lbs L))[j]? = some (lowL (bys x)) := by
  unfold keyN
  rw [List.getElem?_reverse (by rw [List.length_map, lbs_length]; omega)]
  rw [List.length_map, lbs_length, show L.length - 1 - j = q by omega]
  unfold lbs
  rw [List.getElem?_map, List.getElem?_map, hx]
  rfl
theorem key_len (L : List ByteArray) : (keyN (lbs L)).length = L.length := by unfold keyN; rw [List.length_reverse, List.length_map, lbs_length]
theorem cmpR_step {A B : List (List Nat)} {j : Nat} {x y : List Nat} (hx : A[j]? = some x) (hy : B[j]? = some y) :
    cmpR (A.drop j) (B.drop j) = if cmpS x y = 0 then cmpR (A.drop (j + 1)) (B.drop (j + 1)) else cmpS x y := by
  obtain ⟨h1, h2⟩ := List.getElem?_eq_some_iff.1 hx
  obtain ⟨h3, h4⟩ := List.getElem?_eq_some_iff.1 hy
  rw [List.drop_eq_getElem_cons h1, List.drop_eq_getElem_cons h3, h2, h4]
  rfl
def RCmpRel (X Y : List ByteArray) (w : World) (k : Nat) (i : Value) (wr : World) : Prop :=
  ∃ p j : Nat, i = .int .i64 p ∧ p = j + 1 ∧ j + k = X.length ∧ j ≤ Y.length ∧ cmpR (keyN (lbs X)) (keyN (lbs Y)) = cmpR ((keyN (lbs X)).drop j) ((keyN (lbs Y)).drop j) ∧ Kept w wr
set_option maxHeartbeats 4000000 in
set_option maxRecDepth 100000 in
theorem rcompare_any (a b : ByteArray) (ha : a.size ≤ 1000000) (hb : b.size ≤ 1000000) (w : World) :
    Calls Try.prog 18 #[.string a, .string b] w fun e w' => e = .returned (.int .i64 (cmpN (bys a) (bys b))) ∧ Kept w w' := by
  go_enter Try.func18, Try.ntmps18
  go_wp2_with fail
  refine (rlabels_any a ha _).mono ?_
  rintro e w1 ⟨m1, ⟨hs, rfl⟩ | ⟨v, X, hs, rfl, hT⟩⟩
  · have M := Lib.hid m1
    have HE := Lib.hid (show cmpN (bys a) (bys b) = 0 by unfold cmpN; rw [hs])
    clear hs m1
    go_wp2_with fail
    refine (rlabels_any b hb _).mono ?_
    rintro e w2 ⟨m2, ⟨hs2, rfl⟩ | ⟨v2, Y, hs2, rfl, hT2⟩⟩
    all_goals
      replace M := Lib.hid (M.out.then m2)
      clear m2 hs2
      try clear hT2
      go_wp2_with fail
      go_ret
      exact ⟨ret_int HE.out.symm, M.out⟩
  · have M := Lib.hid m1
    have HS := Lib.hid hs
    have hn := labs_len hs
    have HO1 := Lib.hid (labs_ok hs)
    have HT := Lib.hid hT.rd
    obtain ⟨A1, c1, rfl⟩ := hT.form
    clear hs m1 hT
    go_wp2_with fail
    refine (rlabels_any b hb _).mono ?_
    rintro e w2 ⟨m2, ⟨hs2, rfl⟩ | ⟨v2, Y, hs2, rfl, hT2⟩⟩
    · have HE := Lib.hid (show cmpN (bys a) (bys b) = 0 by unfold cmpN; rw [hs2]; cases splitN (bys a) <;> rfl)
      replace M := Lib.hid (M.out.then m2)
      clear m2 hs2
      go_wp2_with fail
      go_ret
      exact ⟨ret_int HE.out.symm, M.out⟩
    · have HW := Lib.hid (cmpN_eq HS.out hs2)
      have hn2 := labs_len hs2
      have HO2 := Lib.hid (labs_ok hs2)
      have HT2 := Lib.hid hT2.rd
      have HT1 := Lib.hid (HT.out.kept m2 (fun _ _ e => e))
      obtain ⟨A2, c2, rfl⟩ := hT2.form
      replace M := Lib.hid (M.out.then m2)
      clear m2 hs2 hT2 HT
      go_wp2_with fail
      go_loopg [9, 10, 11] X.length (fun k i _ _ wr => RCmpRel X Y w2 k i wr)
      case atStart => exact ⟨1, 0, rfl, rfl, by omega, by omega, rfl, Kept.refl _⟩
      case round =>
        obtain ⟨p, j, rfl, hp, hj, hjy, hsame, hm⟩ := hrel
        have HP := Lib.hid hp
        have HJ := Lib.hid hj
        have HSM := Lib.hid hsame
        have M2 := Lib.hid hm
        by_cases hlt : p ≤ X.length
        · have i1 : (p : Int) ≤ (X.length : Int) := by omega
          by_cases hly : p ≤ Y.length
          · have i2 : (p : Int) ≤ (Y.length : Int) := by omega
            obtain ⟨q1, hq1⟩ : ∃ q1, q1 + p = X.length := ⟨X.length - p, by omega⟩
            obtain ⟨q2, hq2⟩ : ∃ q2, q2 + p = Y.length := ⟨Y.length - p, by omega⟩
            obtain ⟨x, hx, hmx⟩ : ∃ x, X[q1]? = some x ∧ x ∈ X := ⟨_, List.getElem?_eq_getElem (show q1 < X.length by omega), List.getElem_mem _⟩
            obtain ⟨y, hy, hmy⟩ : ∃ y, Y[q2]? = some y ∧ y ∈ Y := ⟨_, List.getElem?_eq_getElem (show q2 < Y.length by omega), List.getElem_mem _⟩
            have hxs := HO1.out x hmx
            have hys := HO2.out y hmy
            obtain ⟨b1, o1, d1, e1, hb1, g1⟩ := (HT1.out.kept M2.out (fun _ _ e => e)).at (show q1 < X.length by omega)
            injection e1 with e1 _ e1'
            subst e1 e1'
            obtain ⟨b2, o2, d2, e2, hb2, g2⟩ := (HT2.out.kept M2.out (fun _ _ e => e)).at (show q2 < Y.length by omega)
            injection e2 with e2 _ e2'
            subst e2 e2'
            have f1 := g1 q1 _ (strVals_get hx)
            have f2 := g2 q2 _ (strVals_get hy)
            have hcs := cmpR_step (key_get (j := j) (by omega) hx) (key_get (j := j) (by omega) hy)
            obtain ⟨sx, hsx⟩ : ∃ sx, sx = mkS (lowL (bys x)) := ⟨_, rfl⟩
            obtain ⟨sy, hsy⟩ : ∃ sy, sy = mkS (lowL (bys y)) := ⟨_, rfl⟩
            have hbx : bys sx = lowL (bys x) := by rw [hsx]; exact bys_fL x
            have hby : bys sy = lowL (bys y) := by rw [hsy]; exact bys_fL y
            have ho := row_cmpS.one (lowL (bys x)) (lowL (bys y))
            have hl1 := less_bys sx sy
            have hl2 := eq_bys sx sy
            have heq := row_cmpS.eq (lowL (bys x)) (lowL (bys y))
            rw [hbx, hby] at hl1 hl2
            have C1 := Lib.hid (fun w => rlow_any x (by omega) w)
            have C2 := Lib.hid (fun w => rlow_any y (by omega) w)
            rw [← hsx] at C1
            rw [← hsy] at C2
            have hw1 : IntKind.i64.wrap ((X.length : Int) - (p : Int)) = (q1 : Int) := by rw [IntWalk.i64_in _ (by omega)]; omega
            have hw2 : IntKind.i64.wrap ((Y.length : Int) - (p : Int)) = (q2 : Int) := by rw [IntWalk.i64_in _ (by omega)]; omega
            have i3 : (q1 : Int) < (X.length : Int) := by omega
            have i4 : (q2 : Int) < (Y.length : Int) := by omega
            have HF := Lib.hid (And.intro f1 f2)
            have HB1 := Lib.hid hb1
            have HB2 := Lib.hid hb2
            have HLT := Lib.hid hlt
            have HLY := Lib.hid hly
            obtain ⟨cv, hcv⟩ : ∃ cv, cv = cmpS (lowL (bys x)) (lowL (bys y)) := ⟨_, rfl⟩
            rw [← hcv] at hcs ho hl1 heq
            have HCS := Lib.hid hcs
            have hfacts : (cv = -1 ∧ Op.bytesLess sx.toList sy.toList = true) ∨ (cv = 0 ∧ Op.bytesLess sx.toList sy.toList = false ∧ (sx.toList == sy.toList) = true) ∨ (cv = 1 ∧ Op.bytesLess sx.toList sy.toList = false ∧ (sx.toList == sy.toList) = false) := by
              rcases ho with h | h | h
              · exact .inl ⟨h, by rw [hl1, h]; rfl⟩
              · exact .inr (.inl ⟨h, by rw [hl1, h]; rfl, by rw [hl2]; exact decide_eq_true (heq.1 h)⟩)
              · exact .inr (.inr ⟨h, by rw [hl1, h]; rfl, by rw [hl2]; exact decide_eq_false (fun e => by have := heq.2 e; omega)⟩)
            have hcvc : cv = -1 ∨ cv = 0 ∨ cv = 1 := ho
            clear hx hy hmx hmy g1 g2 f1 f2 hcs hsx hsy hbx hby ho hl1 hl2 heq hcv hp hj hsame hm hlt hly hq1 hq2 hcvc
            rcases hfacts with ⟨h0, h1⟩ | ⟨h0, h1, h2⟩ | ⟨h0, h1, h2⟩
            all_goals
              have H0 := Lib.hid h0
              clear h0
              go_wp2_with fail
              go_region_held3 (fun w' => w'.cell? ⟨b1, o1 + q1, none⟩ = some (.string x) ∧ w'.cell? ⟨b2, o2 + q2, none⟩ = some (.string y)) (first | exact HF.out | exact q3 | exact q4)
                (first | ((with_reducible refine (C1.out _).mono ?_); rintro e w3 ⟨rfl, m3⟩; have q3 : w3.cell? ⟨b1, o1 + q1, none⟩ = some (.string x) ∧ w3.cell? ⟨b2, o2 + q2, none⟩ = some (.string y) := ⟨(m3.cell (p := ⟨b1, o1 + q1, none⟩) HB1.out (fun e => e)).trans HF.out.1, (m3.cell (p := ⟨b2, o2 + q2, none⟩) HB2.out (fun e => e)).trans HF.out.2⟩) | ((with_reducible refine (C2.out _).mono ?_); rintro e w4 ⟨rfl, m4⟩; have q4 : w4.cell? ⟨b1, o1 + q1, none⟩ = some (.string x) ∧ w4.cell? ⟨b2, o2 + q2, none⟩ = some (.string y) := ⟨(m4.cell (p := ⟨b1, o1 + q1, none⟩) (Nat.lt_of_lt_of_le HB1.out m3.size) (fun e => e)).trans q3.1, (m4.cell (p := ⟨b2, o2 + q2, none⟩) (Nat.lt_of_lt_of_le HB2.out m3.size) (fun e => e)).trans q3.2⟩))
              have HM4 := Lib.hid ((M2.out.then (Mod.trans (Kept.refl wr).drew m3 (fun _ _ e => e))).then m4)
              clear m3 m4 q3 q4 hw1 hw2
              go_wp2_with fail
              first
                | (go_ret; exact ⟨ret_int (by rw [HW.out, HSM.out, HCS.out, H0.out]; rfl), M.out.then HM4.out⟩)
                | (go_roundg (X.length - (j + 1))
                   case measure => have := HJ.out; have := HLT.out; have := HP.out; omega
                   case rel => exact ⟨p + 1, j + 1, by go_num, by have := HP.out; omega, by have := HP.out; have := HLT.out; omega, by have := HP.out; have := HLY.out; omega, by rw [HSM.out, HCS.out, if_pos H0.out], HM4.out⟩)
          · have i2 : (Y.length : Int) < (p : Int) := by omega
            have i3 : (Y.length : Int) < (X.length : Int) := by omega
            have hjY : j = Y.length := by omega
            have hE : cmpR (keyN (lbs X)) (keyN (lbs Y)) = 1 := by
              rw [hsame, List.drop_eq_nil_of_le (show (keyN (lbs Y)).length ≤ j by rw [key_len]; omega)]
              rw [List.drop_eq_getElem_cons (show j < (keyN (lbs X)).length by rw [key_len]; omega)]
              rfl
            have HE := Lib.hid hE
            clear hp hj hsame hm hlt hly hjY hE
            go_wp2_with fail
            go_ret
            exact ⟨ret_int (by rw [HW.out, HE.out]), M.out.then M2.out⟩
        · have i1 : (X.length : Int) < (p : Int) := by omega
          have hjX : j = X.length := by omega
          by_cases hly : X.length < Y.length
          · have i2 : (X.length : Int) < (Y.length : Int) := by omega
            have hE : cmpR (keyN (lbs X)) (keyN (lbs Y)) = -1 := by
              rw [hsame, List.drop_eq_nil_of_le (show (keyN (lbs X)).length ≤ j by rw [key_len]; omega)]
              rw [List.drop_eq_getElem_cons (show j < (keyN (lbs Y)).length by rw [key_len]; omega)]
              rfl
            have HE := Lib.hid hE
            clear hp hj hsame hm hlt hly hjX hE
            go_wp2_with fail
            go_ret
            exact ⟨ret_int (by rw [HW.out, HE.out]), M.out.then M2.out⟩
          · have i2 : (Y.length : Int) ≤ (X.length : Int) := by omega
            have i3 : (X.length : Int) ≤ (Y.length : Int) := by omega
            have hE : cmpR (keyN (lbs X)) (keyN (lbs Y)) = 0 := by
              rw [hsame, List.drop_eq_nil_of_le (show (keyN (lbs X)).length ≤ j by rw [key_len]; omega), List.drop_eq_nil_of_le (show (keyN (lbs Y)).length ≤ j by rw [key_len]; omega)]
              rfl
            have HE := Lib.hid hE
            clear hp hj hsame hm hlt hly hjX hE
            go_wp2_with fail
            go_ret
            exact ⟨ret_int (by rw [HW.out, HE.out]), M.out.then M2.out⟩
end Go.Proofs.Ytafeepokcakmkaa
