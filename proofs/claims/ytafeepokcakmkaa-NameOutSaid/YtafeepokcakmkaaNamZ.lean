/- The document's Fold, Parent, Texts, walked. Conditions: at most 1000000 bytes. -/
import Derived.Test.YtafeepokcakmkaaNamY
import Derived.Outline
namespace Go.Proofs.Ytafeepokcakmkaa
open Go.RowKit

def RFoldRel (L : List ByteArray) (w : World) (base k : Nat) (vo vi : Value) (wr : World) : Prop :=
  ∃ j : Nat, vi = .int .i64 j ∧ j + k = L.length ∧ Txs wr base vo ((L.take j).map fL) ∧ Kept w wr
theorem fL_size (x : ByteArray) : (fL x).size = x.size := by rw [← bys_length, bys_fL, lowL_length, bys_length]
set_option maxHeartbeats 2000000 in
set_option maxRecDepth 100000 in
theorem rfold_any (n : ByteArray) (hn : n.size ≤ 1000000) (w : World) :
    Calls Try.prog 34 #[.string n] w fun e w' => e = .returned (.string (foldS n)) ∧ Kept w w' := by
  go_enter Try.func34, Try.ntmps34
  go_wp2_with fail
  refine (rlabels_any n hn _).mono ?_
  rintro e w1 ⟨m1, ⟨hs, rfl⟩ | ⟨v, L, hs, rfl, hT⟩⟩
  · have HS := Lib.hid hs
    have M := Lib.hid m1
    clear hs m1
    go_wp2_with fail
    go_ret
    exact ⟨by unfold foldS; rw [fold_none HS.out]; rfl, M.out⟩
  · have hlen := labs_len hs
    have HO := Lib.hid (labs_ok hs)
    have HS := Lib.hid hs
    have M := Lib.hid m1
    have HR := Lib.hid hT.rd
    have HSZ := Lib.hid m1.size
    obtain ⟨A, c, rfl⟩ := hT.form
    clear hs m1 hT
    go_wp2_with fail
    go_loopg [5, 6] L.length (fun k vo vi wr => RFoldRel L w1 w1.heap.size k vo vi wr)
    case atStart => exact ⟨0, rfl, by omega, Txs.nil _ _, Kept.refl _⟩
    case round =>
      obtain ⟨j, rfl, hj, hT, hm⟩ := hrel
      have HJ := Lib.hid hj
      have M2 := Lib.hid hm
      have hjl : j ≤ L.length := by omega
      have hlen2 : ((L.take j).map fL).length = j := by rw [List.length_map, List.length_take]; omega
      by_cases hlt : j < L.length
      · have HLT := Lib.hid hlt
        obtain ⟨x, hx, hmem⟩ : ∃ x, L[j]? = some x ∧ x ∈ L := ⟨_, List.getElem?_eq_getElem hlt, List.getElem_mem hlt⟩
        have hxs : x.size ≤ 63 := HO.out x hmem
        obtain ⟨b, o, c2, e2, hb, g2⟩ := (HR.out.kept M2.out (fun _ _ e => e)).at hlt
        injection e2 with e2 _ e3
        subst e2 e3
        have f1 := g2 j _ (strVals_get hx)
        have i1 : (j : Int) < (L.length : Int) := by omega
        have HX := Lib.hid hx
        have HT2 := Lib.hid hT
        have HL2 := Lib.hid hlen2
        clear hx hmem hj hm g2 hlt hT hlen2
        go_wp2_with fail
        refine (rlow_any x (by omega) _).mono ?_
        rintro e w2 ⟨rfl, m2⟩
        have hT3 := HT2.out.kept m2
        replace M2 := Lib.hid (M2.out.then m2)
        have HLOW := Lib.hid hT3.lt
        clear m2
        go_wp2_with (refine wpList_push 25 9 1 16 26 elem_str (.tmp 25) (.tmp 20) rfl rfl rfl rfl rfl (by simp) (.string (mkS (lowL (bys x)))) rfl rfl (by simp [Value.cells, Value.oneCell']) _ _ _ _ rfl hT3 (by unfold maxLen; rw [HL2.out]; omega) (by rw [HL2.out]; omega) M2.out.size ?_; intro v' w4 hown1 hm1 _; have M3 : Hid (Kept w1 w4) := Lib.hid (Mod.trans M2.out hm1 (fun i hi e => by have := (HLOW.out i e).1; omega)); clear hm1 hT3)
        go_roundg (L.length - (j + 1))
        case measure => have := HJ.out; have := HLT.out; omega
        case rel => exact ⟨j + 1, by go_num, by have := HLT.out; omega, by
          have e : (L.take (j + 1)).map fL = (L.take j).map fL ++ [fL x] := by rw [List.take_add_one, HX.out]; simp
          rw [e]; exact Txs.snoc hown1, M3.out⟩
      · obtain rfl : j = L.length := by omega
        rw [List.take_length] at hT
        have ho : ∀ x ∈ L.map fL, x.size < 256 := by
          intro x hx
          obtain ⟨y, hy, rfl⟩ := List.mem_map.1 hx
          rw [fL_size]
          have := HO.out y hy
          omega
        have hjn : (joinN (lbs (L.map fL))).length ≤ 1000000 := by
          rw [lbs_fL, joinN_length_low, ← ((splitN_iff _ _).1 HS.out).1]
          have := ((splitN_iff _ _).1 HS.out).2.2
          omega
        have HO2 := Lib.hid ho
        have HJN := Lib.hid hjn
        clear ho hjn hj hm hlt hlen2
        go_wp2_with fail
        refine (rbytes_any _ (L.map fL) HO2.out HJN.out _ hT.rd).mono ?_
        rintro e w2 ⟨rfl, m2⟩
        replace M2 := Lib.hid (M2.out.then m2)
        clear m2
        go_wp2_with fail
        go_ret
        refine ⟨?_, M.out.then M2.out⟩
        unfold foldS
        rw [fold_some HS.out, lbs_fL]
        rfl
theorem rparent_any (n : ByteArray) (hn : n.size ≤ 1000000) (w : World) :
    Calls Try.prog 33 #[.string n] w fun e w' => e = .returned (.tuple #[.string (parS n), .bool (parB n)]) ∧ Kept w w' := by
  go_enter Try.func33, Try.ntmps33
  go_wp2_with fail
  refine (rlabels_any n hn _).mono ?_
  rintro e w1 ⟨m1, ⟨hs, rfl⟩ | ⟨v, L, hs, rfl, hT⟩⟩
  · have HP := Lib.hid (show parS n = ⟨#[]⟩ ∧ parB n = false by unfold parS parB; rw [parentN_none hs]; exact ⟨rfl, rfl⟩)
    have M := Lib.hid m1
    clear hs m1
    go_wp2_with fail
    refine bodyPost_ret (v := .tuple #[.string ⟨#[]⟩, .bool false]) (by simp [results, Try.results33, go_sem]) rfl ⟨by rw [HP.out.1, HP.out.2], M.out⟩
  · have hlen := labs_len hs
    have HO := Lib.hid (labs_ok hs)
    have HS := Lib.hid hs
    have M := Lib.hid m1
    have HT := Lib.hid hT
    obtain ⟨A, c, rfl⟩ := hT.form
    clear hs m1 hT
    rcases Nat.eq_zero_or_pos L.length with h0 | h0
    · obtain rfl := List.eq_nil_of_length_eq_zero h0
      have HP := Lib.hid (show parS n = ⟨#[]⟩ ∧ parB n = false by unfold parS parB; rw [parentN_root HS.out]; exact ⟨rfl, rfl⟩)
      go_wp2_with fail
      refine bodyPost_ret (v := .tuple #[.string ⟨#[]⟩, .bool false]) (by simp [results, Try.results33, go_sem]) rfl ⟨by rw [HP.out.1, HP.out.2], M.out⟩
    · have hpos : ((L.length : Int) == 0) = false := by rw [beq_eq_false_iff_ne]; omega
      have hcap := HT.out.cap.1
      obtain ⟨b, rfl⟩ := HT.out.cap.2.2 h0
      have HSD := Lib.hid (show parS n = mkS (joinN (lbs (L.drop 1))) ∧ parB n = true by
        cases L with
        | nil => simp at h0
        | cons x L' =>
          have := parentN_ok HS.out
          unfold parS parB
          rw [this]; exact ⟨rfl, rfl⟩)
      have hjn : (joinN (lbs (L.drop 1))).length ≤ 1000000 := by
        cases L with
        | nil => simp at h0
        | cons x L' =>
          have h1 := (splitN_iff _ _).1 HS.out
          have h2 := joinN_drop (bys x) (lbs L')
          have h3 := h1.2.2
          rw [h1.1] at h3
          have e : lbs (x :: L') = bys x :: lbs L' := rfl
          rw [e] at h3
          show (joinN (lbs L')).length ≤ _
          omega
      have ho : ∀ x ∈ L.drop 1, x.size < 256 := fun x hx => by have := HO.out x (List.mem_of_mem_drop hx); omega
      have HB := Lib.hid (fun (v : Value) w h => rbytes_any v (L.drop 1) ho hjn w h)
      have i1 : (1 : Int) ≤ (L.length : Int) := by omega
      have HN := Lib.hid (show L.length - 1 = (L.drop 1).length by rw [List.length_drop])
      by_cases hc1 : c = 1
      · have h1 : L.length = 1 := by omega
        have HD := Lib.hid (show Rd w1 1 (.slice (some ⟨b, 0, none⟩) 0 0) (L.drop 1).length (strVals (L.drop 1)) by
          have e : L.drop 1 = [] := List.drop_eq_nil_of_le (by omega)
          rw [e]
          exact Rd.nil _ _ _ _)
        clear hjn ho h1 h0
        subst hc1
        go_wp2_with fail
        refine (HB.out _ _ HD.out).mono ?_
        rintro e w2 ⟨rfl, m2⟩
        replace M := Lib.hid (M.out.then m2)
        clear m2
        go_wp2_with fail
        refine bodyPost_ret (v := .tuple #[.string (mkS (joinN (lbs (L.drop 1)))), .bool true]) (by simp [results, Try.results33, go_sem]) rfl ⟨by rw [HSD.out.1, HSD.out.2], M.out⟩
      · have HD := Lib.hid (rd_tail (n := L.length) (k := 1) (m := (L.drop 1).length) HT.out.rd (by rw [List.length_drop]; omega) (c - 1))
        have i2 : 1 < c := by omega
        clear hjn ho h0
        go_wp2_with fail
        rw [HN.out]
        refine (HB.out _ _ (by have := HD.out; unfold strVals at this ⊢; rw [List.map_drop]; exact this)).mono ?_
        rintro e w2 ⟨rfl, m2⟩
        replace M := Lib.hid (M.out.then m2)
        clear m2
        go_wp2_with fail
        refine bodyPost_ret (v := .tuple #[.string (mkS (joinN (lbs (L.drop 1)))), .bool true]) (by simp [results, Try.results33, go_sem]) rfl ⟨by rw [HSD.out.1, HSD.out.2], M.out⟩
set_option maxHeartbeats 1000000 in
theorem rtexts_any (v1 v2 : Value) (X Y : List ByteArray) (hx : X.length ≤ 1000000000) (_hy : Y.length ≤ 1000000000) (w : World) (h1 : Rd w 1 v1 X.length (strVals X)) (h2 : Rd w 1 v2 Y.length (strVals Y)) :
    Calls Try.prog 23 #[v1, v2] w fun e w' => e = .returned (.bool (decide (X = Y))) ∧ Kept w w' := by
  have H1 := Lib.hid h1
  have H2 := Lib.hid h2
  obtain ⟨_, A1, c1, rfl, _⟩ := h1
  obtain ⟨_, A2, c2, rfl, _⟩ := h2
  by_cases hl : X.length = Y.length
  · have HL := Lib.hid hl
    have t0 : ((X.length : Int) != (Y.length : Int)) = false := by simp; omega
    clear hl
    go_enter Try.func23, Try.ntmps23
    go_wp2_with fail
    go_loopg [5] X.length (fun k i wr => EqRel X Y w k i wr)
    case atStart => exact ⟨0, rfl, by omega, fun m hm => by omega, Kept.refl _⟩
    case round =>
      obtain ⟨j, rfl, hj, hsame, hm⟩ := hrel
      have HJ := Lib.hid hj
      have HSM := Lib.hid hsame
      have M := Lib.hid hm
      have hjl : j ≤ X.length := by omega
      by_cases hlt : j < X.length
      · have HLT := Lib.hid hlt
        obtain ⟨x, hx2⟩ : ∃ x, X[j]? = some x := ⟨_, List.getElem?_eq_getElem hlt⟩
        obtain ⟨y, hy2⟩ : ∃ y, Y[j]? = some y := ⟨_, List.getElem?_eq_getElem (by have := HL.out; omega)⟩
        obtain ⟨b1, o1, d1, e1, hb1, g1⟩ := (H1.out.kept M.out (fun _ _ e => e)).at hlt
        injection e1 with e1 _ e1'
        subst e1 e1'
        obtain ⟨b2, o2, d2, e2, hb2, g2⟩ := (H2.out.kept M.out (fun _ _ e => e)).at (show j < Y.length by have := HL.out; omega)
        injection e2 with e2 _ e2'
        subst e2 e2'
        have f1 := g1 j _ (strVals_get hx2)
        have f2 := g2 j _ (strVals_get hy2)
        have i1 : (j : Int) < (X.length : Int) := by omega
        have i2 : (j : Int) < (Y.length : Int) := by have := HL.out; omega
        have HX := Lib.hid hx2
        have HY := Lib.hid hy2
        clear hx2 hy2 g1 g2 hj hsame hm hlt
        by_cases hxy : x = y
        · have t1 : (x.toList == y.toList) = true := by rw [hxy]; simp
          have HXY := Lib.hid hxy
          clear hxy
          go_wp2_with fail
          go_quiet (fail)
          go_wp2_with fail
          go_roundg (X.length - (j + 1))
          case measure => have := HJ.out; have := HLT.out; omega
          case rel =>
            refine ⟨j + 1, by go_num, by have := HLT.out; omega, fun m hm => ?_, ?_⟩
            · rcases Nat.lt_or_ge m j with h | h
              · exact HSM.out m h
              · obtain rfl : m = j := by omega
                rw [HX.out, HY.out, HXY.out]
            · first | exact M.out.drewN _ | exact M.out.drew | exact M.out
        · have t1 : (x.toList == y.toList) = false := by rw [eq_bys, decide_eq_false_iff_not]; exact fun e => hxy (bys_inj e)
          have HXY := Lib.hid hxy
          clear hxy
          go_wp2_with fail
          go_quiet (fail)
          go_wp2_with fail
          go_ret
          refine ⟨ret_bool ?_, ?_⟩
          · refine (decide_eq_false fun e => HXY.out ?_).symm
            have h1 := HX.out
            rw [e, HY.out] at h1
            exact (Option.some.inj h1).symm
          · first | exact M.out.drewN _ | exact M.out.drew | exact M.out
      · obtain rfl : j = X.length := by omega
        have HE := Lib.hid (list_eq_of HL.out hsame)
        clear hj hsame hm hlt
        go_wp2_with fail
        go_ret
        exact ⟨ret_bool (decide_eq_true HE.out).symm, M.out⟩
  · have HL := Lib.hid hl
    have t0 : ((X.length : Int) != (Y.length : Int)) = true := by simp; omega
    clear hl
    go_enter Try.func23, Try.ntmps23
    go_wp2_with fail
    go_ret
    exact ⟨ret_bool (decide_eq_false (fun e => HL.out (by rw [e]))).symm, Kept.refl _⟩
end Go.Proofs.Ytafeepokcakmkaa
