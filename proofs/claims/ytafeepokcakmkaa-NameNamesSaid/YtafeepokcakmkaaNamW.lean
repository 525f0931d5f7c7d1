/- Within, Compare, walked. Conditions: texts that a memory may hold. -/
import Derived.Test.YtafeepokcakmkaaNamD
import Derived.Outline
namespace Go.Proofs.Ytafeepokcakmkaa
open Go.RowKit

theorem Txs.cap {w : World} {base n c : Nat} {A : Option Addr} {L : List ByteArray} (h : Txs w base (.slice A n c) L) : n ≤ c ∧ n = L.length ∧ (0 < n → ∃ b, A = some ⟨b, 0, none⟩) := by
  obtain ⟨_, h2⟩ := h
  rcases h2 with ⟨h0, h1⟩ | ⟨g, cap, cur, h0, _, _, h3, _⟩
  · injection h0 with e1 e2 e3
    exact ⟨by omega, by omega, fun h => by omega⟩
  · injection h0 with e1 e2 e3
    exact ⟨by omega, by omega, fun _ => ⟨g, e1⟩⟩
theorem rd_tail {w : World} {b n c k m : Nat} {cs : List Value} (h : Rd w 1 (.slice (some ⟨b, 0, none⟩) n c) n cs) (hk : k + m = n) (c' : Nat) : Rd w 1 (.slice (some ⟨b, k, none⟩) m c') m (cs.drop k) := by
  obtain ⟨h1, A, c2, e, h2⟩ := h
  injection e with e1 e2 e3
  subst e1 e3
  refine ⟨by rw [List.length_drop]; omega, _, _, rfl, fun hm => ?_⟩
  obtain ⟨b', o', e4, hb, hc⟩ := h2 (by omega)
  injection e4 with e4
  injection e4 with e5 e6
  subst e5 e6
  refine ⟨b, k, rfl, hb, fun j u hu => ?_⟩
  have := hc (k + j) u (by rw [List.getElem?_drop] at hu; exact hu)
  rw [Nat.zero_add] at this
  exact this
theorem lab_len2 {ls : List (List Nat)} {n : ByteArray} (h : splitN (bys n) = some ls) : ls.length ≤ 255 := by
  obtain ⟨h1, h2, h3⟩ := (splitN_iff _ _).1 h
  have : ∀ ls : List (List Nat), ls.length ≤ (joinN ls).length := by
    intro ls
    induction ls with
    | nil => simp
    | cons l ls ih => simp only [joinN, List.length_cons, List.length_append]; omega
  have h4 := this ls
  rw [← h1] at h4
  omega
theorem suffix_iff {x y : List ByteArray} {k : Nat} (hk : k + y.length = x.length) : decide (x.drop k = y) = decide (lbs y <:+ lbs x) := by
  refine decide_eq_decide.2 ⟨?_, ?_⟩
  · intro h
    rw [← h]
    unfold lbs
    rw [List.map_drop]
    exact List.drop_suffix _ _
  · intro h
    rw [List.suffix_iff_eq_drop] at h
    have e : (lbs x).length - (lbs y).length = k := by rw [lbs_length, lbs_length]; omega
    rw [e] at h
    refine lbs_inj ?_
    rw [h]
    unfold lbs
    rw [List.map_drop]
theorem suffix_long {x y : List (List Nat)} (h : x.length < y.length) : decide (y <:+ x) = false := decide_eq_false fun e => by
  have := e.length_le
  omega
set_option maxHeartbeats 2000000 in
theorem within_any (a b : ByteArray) (ha : a.size < 2 ^ 63) (hb : b.size < 2 ^ 63) (w : World) :
    Calls Try.prog 15 #[.string a, .string b] w fun e w' => e = .returned (.bool (withinN (bys a) (bys b))) ∧ Kept w w' := by
  go_enter Try.func15, Try.ntmps15
  go_wp2_with fail
  refine (all_any a ha _).mono ?_
  rintro e w1 ⟨m1, ⟨hs, rfl⟩ | ⟨v, L, ls, hs, hl, rfl, hT⟩⟩
  · have M := Lib.hid m1
    have HE := Lib.hid (withinN_none_l (bys b) hs)
    clear hs m1
    go_wp2_with fail
    refine (all_any b hb _).mono ?_
    rintro e w2 ⟨m2, ⟨hs2, rfl⟩ | ⟨v2, L2, ls2, hs2, hl2, rfl, hT2⟩⟩
    all_goals
      replace M := Lib.hid (M.out.then m2)
      clear m2 hs2
      try clear hl2 hT2
      go_wp2_with fail
      go_ret
      exact ⟨ret_bool HE.out.symm, M.out⟩
  · have M := Lib.hid m1
    have HS := Lib.hid hs
    have HL := Lib.hid hl
    have hn : L.length ≤ 255 := by
      have h1 := lab_len2 hs
      have h2 := congrArg List.length hl
      rw [lbs_length, List.length_map] at h2
      omega
    have HT := Lib.hid hT
    obtain ⟨A1, c1, rfl⟩ := hT.form
    clear hs m1 hl hT
    go_wp2_with fail
    refine (all_any b hb _).mono ?_
    rintro e w2 ⟨m2, ⟨hs2, rfl⟩ | ⟨v2, L2, ls2, hs2, hl2, rfl, hT2⟩⟩
    · have HE := Lib.hid (withinN_none_r (bys a) hs2)
      replace M := Lib.hid (M.out.then m2)
      clear m2 hs2
      go_wp2_with fail
      go_ret
      exact ⟨ret_bool HE.out.symm, M.out⟩
    · have hW := withinN_eq HS.out hs2
      rw [← HL.out, ← hl2] at hW
      have HW := Lib.hid hW
      have hn2 : L2.length ≤ 255 := by
        have h1 := lab_len2 hs2
        have h2 := congrArg List.length hl2
        rw [lbs_length, List.length_map] at h2
        omega
      obtain ⟨A2, c2, rfl⟩ := hT2.form
      have HT2 := Lib.hid hT2
      have HT1 := Lib.hid (HT.out.kept m2)
      replace M := Lib.hid (M.out.then m2)
      clear m2 hs2 hl2 hT2 hW
      by_cases hlen : L2.length ≤ L.length
      · obtain ⟨k, hk⟩ : ∃ k, k + L2.length = L.length := ⟨L.length - L2.length, by omega⟩
        have hc := HT1.out.cap.1
        have hkk : (L.length : Int) - (L2.length : Int) = (k : Int) := by omega
        have HK := Lib.hid hk
        have i1 : (k : Int) ≤ (L.length : Int) := by omega
        have i2 : k ≤ L.length := by omega
        have i4 : L.length - k = (L.drop k).length := by rw [List.length_drop]
        have I4 := Lib.hid i4
        have HXE := Lib.hid (suffix_iff hk)
        have i5 : ¬ (L.length : Int) < (L2.length : Int) := by omega
        by_cases h0 : 1 ≤ L2.length
        · obtain ⟨b1, rfl⟩ := HT1.out.cap.2.2 (by omega)
          have i3 : (k : Int) < (c1 : Int) := by omega
          have hrd := Lib.hid (rd_tail (n := L.length) (k := k) (m := (L.drop k).length) HT1.out.rd (by rw [List.length_drop]; omega) (c1 - k))
          have e3 : ¬ c1 = k := by omega
          clear hk i4 h0 hlen
          go_wp2_with fail
          rw [I4.out]
          refine (equal_any _ _ (L.drop k) L2 (by rw [List.length_drop]; omega) (by omega) _ (by have := hrd.out; unfold strVals at this ⊢; rw [List.map_drop]; exact this) HT2.out.rd).mono ?_
          rintro e w3 ⟨rfl, m3⟩
          replace M := Lib.hid (M.out.then m3)
          clear m3
          go_wp2_with fail
          go_ret
          exact ⟨ret_bool (by rw [HXE.out, HW.out]), M.out⟩
        · have hz : L2.length = 0 := by omega
          have hkl : k = L.length := by omega
          subst hkl
          have hE2 : L.drop L.length = ([] : List ByteArray) := List.drop_length
          have HE2 := Lib.hid hE2
          have hfin : ∀ (A : Option Addr) (c : Nat) (w : World), Calls Try.prog 39 #[.slice A 0 c, .slice A2 L2.length c2] w fun e w' => e = .returned (.bool (decide (L.drop L.length = L2))) ∧ Kept w w' := by
            intro A c w
            have e1 : L2 = [] := List.eq_nil_of_length_eq_zero hz
            rw [hE2, e1]
            exact equal_any (.slice A 0 c) (.slice A2 0 c2) [] [] (by simp) (by simp) w (Rd.nil _ _ _ _) (Rd.nil _ _ _ _)
          have HF := Lib.hid hfin
          clear hk i4 h0 hlen hE2 hfin hz
          by_cases e3 : c1 = L.length
          · subst e3
            go_wp2_with fail
            refine (HF.out _ _ _).mono ?_
            rintro e w3 ⟨rfl, m3⟩
            replace M := Lib.hid (M.out.then m3)
            clear m3
            go_wp2_with fail
            go_ret
            exact ⟨ret_bool (by have h := HXE.out; rw [HE2.out] at h; rw [HW.out, ← h]; exact decide_eq_decide.2 eq_comm), M.out⟩
          · go_wp2_with fail
            refine (HF.out _ _ _).mono ?_
            rintro e w3 ⟨rfl, m3⟩
            replace M := Lib.hid (M.out.then m3)
            clear m3
            go_wp2_with fail
            go_ret
            exact ⟨ret_bool (by have h := HXE.out; rw [HE2.out] at h; rw [HW.out, ← h]; exact decide_eq_decide.2 eq_comm), M.out⟩
      · have i5 : (L.length : Int) < (L2.length : Int) := by omega
        have HE := Lib.hid (HW.out.trans (suffix_long (by rw [lbs_length, lbs_length]; omega)))
        clear hlen
        go_wp2_with fail
        go_ret
        exact ⟨ret_bool HE.out.symm, M.out⟩
theorem txs_own {w : World} {base : Nat} {v : Value} {L : List ByteArray} (h : Txs w base v L) : ∀ i, v.ownBlock = some i → base ≤ i ∧ i < w.heap.size := h.lt
set_option maxHeartbeats 2000000 in
theorem compare_name (a b : ByteArray) (ha : a.size < 2 ^ 63) (hb : b.size < 2 ^ 63) (w : World) :
    Calls Try.prog 17 #[.string a, .string b] w fun e w' => e = .returned (.int .i64 (cmpN (bys a) (bys b))) ∧ Kept w w' := by
  go_enter Try.func17, Try.ntmps17
  go_wp2_with fail
  refine (all_any a ha _).mono ?_
  rintro e w1 ⟨m1, ⟨hs, rfl⟩ | ⟨v, L, ls, hs, hl, rfl, hT⟩⟩
  · have M := Lib.hid m1
    have HE := Lib.hid (show cmpN (bys a) (bys b) = 0 by unfold cmpN; rw [hs])
    clear hs m1
    go_wp2_with fail
    refine (all_any b hb _).mono ?_
    rintro e w2 ⟨m2, ⟨hs2, rfl⟩ | ⟨v2, L2, ls2, hs2, hl2, rfl, hT2⟩⟩
    all_goals
      replace M := Lib.hid (M.out.then m2)
      clear m2 hs2
      try clear hl2 hT2
      go_wp2_with fail
      go_ret
      exact ⟨ret_int HE.out.symm, M.out⟩
  · have M := Lib.hid m1
    have HS := Lib.hid hs
    have HL := Lib.hid hl
    have hn : L.length ≤ 255 := by
      have h1 := lab_len2 hs
      have h2 := congrArg List.length hl
      rw [lbs_length, List.length_map] at h2
      omega
    have HT := Lib.hid hT
    obtain ⟨A1, c1, rfl⟩ := hT.form
    clear hs m1 hl hT
    go_wp2_with fail
    refine (all_any b hb _).mono ?_
    rintro e w2 ⟨m2, ⟨hs2, rfl⟩ | ⟨v2, L2, ls2, hs2, hl2, rfl, hT2⟩⟩
    · have HE := Lib.hid (show cmpN (bys a) (bys b) = 0 by unfold cmpN; rw [hs2]; cases splitN (bys a) <;> rfl)
      replace M := Lib.hid (M.out.then m2)
      clear m2 hs2
      go_wp2_with fail
      go_ret
      exact ⟨ret_int HE.out.symm, M.out⟩
    · have hW : cmpN (bys a) (bys b) = cmpR (lbs L.reverse) (lbs L2.reverse) := by
        rw [cmpN_eq HS.out hs2]
        unfold keyN
        rw [← HL.out, ← hl2]
        unfold lbs
        rw [List.map_reverse, List.map_reverse]
      have HW := Lib.hid hW
      have hn2 : L2.length ≤ 255 := by
        have h1 := lab_len2 hs2
        have h2 := congrArg List.length hl2
        rw [lbs_length, List.length_map] at h2
        omega
      have hlo := Lib.hid (show ∀ i, (Value.slice A1 L.length c1).ownBlock = some i → w.heap.size ≤ i ∧ i < w1.heap.size from HT.out.lt)
      have HT1 := Lib.hid (HT.out.kept m2)
      obtain ⟨A2, c2, rfl⟩ := hT2.form
      have hlo2 := Lib.hid (show ∀ i, (Value.slice A2 L2.length c2).ownBlock = some i → w1.heap.size ≤ i from fun i hi => (hT2.lt i hi).1)
      have hsz := Lib.hid (Nat.le_trans M.out.size (Nat.le_refl w1.heap.size))
      have HT2 := Lib.hid hT2
      replace M := Lib.hid (M.out.then m2)
      clear m2 hs2 hl2 hT2 hW
      go_wp2_with fail
      refine (reverse_any w.heap.size A1 c1 L (by omega) _ rfl _ HT1.out).mono ?_
      rintro e w3 ⟨rfl, hR1, m3⟩
      have hR2 := own_mod HT2.out m3 (fun k hk e => by have h1 := (hlo.out k e).2; have h2 := hlo2.out k hk; omega)
      have HR1 := Lib.hid hR1
      have HR2 := Lib.hid (show Txs w3 w1.heap.size (.slice A2 L2.length c2) L2 from hR2)
      replace M := Lib.hid (show Kept w w3 from Mod.trans M.out m3 (fun i hi e => by have := (hlo.out i e).1; omega))
      clear hR1 hR2 m3
      go_wp2_with fail
      refine (reverse_any w1.heap.size A2 c2 L2 (by omega) _ rfl _ HR2.out).mono ?_
      rintro e w4 ⟨rfl, hR2, m4⟩
      have hR1 := own_mod HR1.out m4 (fun k hk e => by have h1 := (hlo.out k hk).2; have h2 := hlo2.out k e; omega)
      replace HR1 := Lib.hid (show Txs w4 w.heap.size (.slice A1 L.length c1) L.reverse from hR1)
      replace HR2 := Lib.hid hR2
      replace M := Lib.hid (show Kept w w4 from Mod.trans M.out m4 (fun i hi e => by have := hlo2.out i e; have := hsz.out; omega))
      clear hR1 hR2 m4
      go_wp2_with fail
      refine (compare_any _ _ L.reverse L2.reverse (by rw [List.length_reverse]; omega) (by rw [List.length_reverse]; omega) _ HR1.out.rd HR2.out.rd).mono ?_
      rintro e w5 ⟨rfl, rfl⟩
      obtain ⟨cv, hcv⟩ : ∃ cv, cv = cmpR (lbs L.reverse) (lbs L2.reverse) := ⟨_, rfl⟩
      rw [← hcv]
      have hone := row_cmpR.one (lbs L.reverse) (lbs L2.reverse)
      rw [← hcv] at hone
      have HCV := Lib.hid hcv
      have hr : cv = if cv < 0 then -1 else if cv = 0 then 0 else 1 := by
        rcases hone with rfl | rfl | rfl <;> rfl
      have HRR := Lib.hid hr
      clear hcv hone hr
      go_wp2_with fail
      refine (cmp_int cv 0 cv HRR.out _).mono ?_
      rintro e w6 ⟨rfl, rfl⟩
      go_wp2_with fail
      go_ret
      exact ⟨ret_int (by rw [HW.out, HCV.out]), M.out⟩
end Go.Proofs.Ytafeepokcakmkaa
