/- Letters of either case, walked. Conditions: texts that a memory may hold. -/
import Derived.Test.YtgibhcmdmdbpgaaZoRow
namespace Go.Proofs.Ytgibhcmdmdbpgaa
open Go.RowKit Go.Lib

/-- Two names whose bytes differ by their letters' case alone. -/
theorem low_nonletter {c d : Nat} (h : lowN c = lowN d) (hc : c ≤ 64) : d = c := by
  unfold lowN at h
  split at h <;> split at h <;> omega
theorem goN_low : ∀ (f : Nat) (n m : List Nat) (ls : List (List Nat)), lowL n = lowL m → goN f n = some ls → ∃ ks, goN f m = some ks ∧ ks.map lowL = ls.map lowL
  | 0, _, _, _, _, h => by simp [goN] at h
  | _ + 1, [], _, _, _, h => by simp [goN] at h
  | f + 1, c :: t, m, ls, hl, h => by
    cases m with
    | nil => simp [lowL] at hl
    | cons d s =>
      simp only [lowL, List.map_cons, List.cons.injEq] at hl
      obtain ⟨h1, h2⟩ := hl
      have hlen : t.length = s.length := by have := congrArg List.length h2; simpa using this
      simp only [goN] at h
      by_cases hc : c = 0
      · rw [if_pos hc] at h
        have hd := low_nonletter h1 (by omega)
        split at h
        · rename_i ht
          injection h with h
          subst h
          refine ⟨[], ?_, rfl⟩
          simp only [goN]
          rw [if_pos (by omega), if_pos (List.eq_nil_of_length_eq_zero (by rw [← hlen, ht]; rfl))]
        · cases h
      · rw [if_neg hc] at h
        split at h
        · cases h
        · rename_i hx
          have hd := low_nonletter h1 (by omega)
          rw [Option.map_eq_some_iff] at h
          obtain ⟨ls', h3, rfl⟩ := h
          have hdrop : lowL (t.drop c) = lowL (s.drop c) := by
            unfold lowL
            rw [List.map_drop, List.map_drop, h2]
          obtain ⟨ks, h4, h5⟩ := goN_low f _ _ _ hdrop h3
          refine ⟨s.take c :: ks, ?_, ?_⟩
          · simp only [goN]
            rw [if_neg (by omega), hd, if_neg (by omega), h4]
            rfl
          · rw [List.map_cons, List.map_cons, h5]
            congr 1
            unfold lowL
            rw [List.map_take, List.map_take, h2]
theorem split_alike {n m : List Nat} {ls : List (List Nat)} (hl : lowL n = lowL m) (h : splitN n = some ls) : ∃ ks, splitN m = some ks ∧ ks.map lowL = ls.map lowL := by
  have hlen : n.length = m.length := by have := congrArg List.length hl; rw [lowL_length, lowL_length] at this; exact this
  unfold splitN at h ⊢
  split at h
  · cases h
  · rw [if_neg (by omega), ← hlen]
    exact goN_low _ _ _ _ hl h
theorem up_low {c d : Nat} (h1 : 97 ≤ c) (h2 : c ≤ 122) (h3 : d = c - 32) : lowN d = lowN c := by
  unfold lowN
  subst h3
  rw [if_pos (by omega), if_neg (by omega)]
  omega
theorem find_alike (l : List Zn) {n m : ByteArray} (hm : mayN (bys n) = true) (hl : lowL (bys m) = lowL (bys n)) : findZ l m = findZ l n := by
  unfold mayN at hm
  obtain ⟨ks, hk⟩ := Option.isSome_iff_exists.1 hm
  obtain ⟨js, h1, h2⟩ := split_alike hl.symm hk
  exact find_fold l h1 hk h2
theorem find_folded (l : List Zn) (n : ByteArray) : findZ l (foldS n) = findZ l n := by
  cases hs : splitN (bys n) with
  | none =>
    unfold findZ
    rw [hs, bys_foldS, fold_none hs]
    rfl
  | some ks =>
    have h1 := split_low hs
    rw [← bys_foldS] at h1
    exact find_fold l h1 hs (map_lowL_idem ks)
theorem foldS_size (n : ByteArray) : (foldS n).size ≤ n.size := by
  rw [← bys_length, ← bys_length, bys_foldS]
  cases hs : splitN (bys n) with
  | none => rw [fold_none hs]; simp
  | some ks => rw [fold_some hs, joinN_length_low, ← ((splitN_iff _ _).1 hs).1]; exact Nat.le_refl _
theorem in_bys (n lab : ByteArray) (h1 : 1 ≤ lab.size) (h2 : lab.size ≤ 63) : bys (mkS [lab.size] ++ lab ++ n) = lab.size :: (bys lab ++ bys n) := by
  rw [bys_append, bys_append, bys_mkS (by intro x hx; simp at hx; omega)]
  rfl
theorem in_split {n lab m : ByteArray} {ks : List (List Nat)} (h : bys m = lab.size :: (bys lab ++ bys n)) (h1 : 1 ≤ lab.size) (h2 : lab.size ≤ 63) (hn : splitN (bys n) = some ks) (hm : mayN (bys m) = true) : splitN (bys m) = some (bys lab :: ks) := by
  unfold mayN at hm
  obtain ⟨js, hj⟩ := Option.isSome_iff_exists.1 hm
  have hl := ((splitN_iff _ _).1 hj).2.2
  have hnl := ((splitN_iff _ _).1 hn).2.2
  rw [splitN_goA hl, h, goA_cons (by omega) h2 (by rw [List.length_append, bys_length]; omega), List.drop_left' (bys_length lab), List.take_left' (bys_length lab), ← splitN_goA hnl, hn]
  rfl
def UpRel (n : ByteArray) (g : Nat) (w : World) (k : Nat) (i : Value) (wr : World) : Prop :=
  ∃ (j : Nat) (l : List Nat), i = .int .i64 j ∧ j + k = n.size ∧ l.length = n.size ∧ (∀ x ∈ l, x < 256) ∧ lowL l = lowL (bys n) ∧ Byt wr g (u8s l) ∧ Kept w wr
set_option maxHeartbeats 4000000 in
set_option maxRecDepth 100000 in
theorem letters_any (v : Value) (l : List Zn) (n lab : ByteArray) (hl : ∀ z ∈ l, z.name.size < 2 ^ 63) (hll : l.length < 2 ^ 63) (hn : n.size < 2 ^ 63) (hlab : lab.size < 2 ^ 63) (w : World) (hv : RdZ w v l) :
    Calls Try.prog 8 #[v, .string n, .string lab] w fun e w' => e = .returned (.bool true) ∧ Kept w w' := by
  have HV := Lib.hid hv
  obtain ⟨_, A, c, rfl, _⟩ := hv
  have HL := Lib.hid (And.intro hl (And.intro hn hlab))
  clear hl
  have hq := run_neq_zone
  go_enter Try.func8, Try.ntmps8
  go_wp2_with fail
  refine (long_any _ _ l [n, lab] HL.out.1 (by intro x hx; simp at hx; rcases hx with rfl | rfl; exact HL.out.2.1; exact HL.out.2.2) hll (by simp) _ (HV.out.kept ((Mod.refl _ _).alloc _)) (lit1 _ _ _ _ _ _ rfl rfl)).mono ?_
  rintro e w1 ⟨rfl, rfl | ⟨rfl, hF⟩⟩
  · go_wp2_with fail
    refine (awake_any _).mono ?_
    rintro e w2 ⟨rfl, m2⟩
    have HK2 := Lib.hid (((Mod.refl (fun _ => False) w).alloc (.cells #[.string n, .string lab] 9)).then m2)
    clear m2
    go_wp2_with fail
    go_ret
    exact ⟨rfl, HK2.out⟩
  · have hns : n.size < 10000 := hF.2.2.1 n (by simp)
    have hls : lab.size < 10000 := hF.2.2.1 lab (by simp)
    clear hF
    go_wp2_with fail
    refine (awake_any _).mono ?_
    rintro e w2 ⟨rfl, m2⟩
    have HK2 := Lib.hid (((Mod.refl (fun _ => False) w).alloc (.cells #[.string n, .string lab] 9)).then m2)
    clear m2
    go_wp2_with fail
    refine (new_any _ l HL.out.1 hll _ (HV.out.kept HK2.out)).mono ?_
    intro e w3 h3
    by_cases h0 : newE l = 0
    · obtain ⟨k3, g, mo, oe, rfl, hz3⟩ := h3.good h0
      have HK3 := Lib.hid (HK2.out.then k3)
      have HA3 := Lib.hid (Fd.of_zt hz3)
      have HOK := Lib.hid ((newE_zero l).1 h0).2
      have hN : n.size < 2 ^ 63 := by omega
      have HMM2 : Hid (findZ l (foldS n) = findZ l n ∧ (foldS n).size < 2 ^ 63) := Lib.hid ⟨find_folded l n, by have := foldS_size n; omega⟩
      have t1 := eqZ_self (findZ l n)
      obtain ⟨c3, wb, hcv, hb, hm⟩ := run_bytes n w3
      have HBY := Lib.hid hb
      have HKb := Lib.hid (HK3.out.then hm)
      have HAb := Lib.hid (HA3.out.kept hm)
      have HM3 := Lib.hid hm
      clear h3 k3 hz3 h0 hb hm HK2
      generalize hgb : w3.heap.size = gb at *
      go_wp2_with fail
      refine (may_any n hN _).mono ?_
      rintro e w4 ⟨rfl, m4⟩
      have HK4 := Lib.hid (HKb.out.then m4)
      have HA4 := Lib.hid (HAb.out.kept m4)
      have HB4 := Lib.hid (HBY.out.mod m4 (fun e => e))
      have HK34 := Lib.hid (HM3.out.then m4)
      clear m4 hcv HBY HKb HAb HM3
      cases hmN : mayN (bys n) with
      | false =>
        have hrt := run_text c3 HB4.out (bys_lt n) n.size (bys_length n).symm
        rw [mkS_bys] at hrt
        have HMM : Hid (findZ l (foldS n) = findZ l n ∧ (foldS n).size < 2 ^ 63) := HMM2
        have HMS := Lib.hid hN
        have HK := HK4
        have HA := HA4
        clear HB4 HK4 HA4 HMM2 HK34 HK3 HA3
        go_wp2_with fail
        refine (find_any _ g l _ _ HA.out n HMS.out).mono ?_
        rintro e w6 ⟨rfl, m6⟩
        have HK6 := Lib.hid (HK.out.then m6)
        have HA6 := Lib.hid (HA.out.kept m6)
        clear m6 hrt HK HA
        go_wp2_with fail
        refine (find_any _ g l _ _ HA6.out n hN).mono ?_
        rintro e w7 ⟨rfl, m7⟩
        have HK7 := Lib.hid (HK6.out.then m7)
        have HA7 := Lib.hid (HA6.out.kept m7)
        clear m7 HK6 HA6
        go_wp2_with fail
        refine (fold_any n hN _).mono ?_
        rintro e w8 ⟨rfl, m8⟩
        have HK8 := Lib.hid (HK7.out.then m8)
        have HA8 := Lib.hid (HA7.out.kept m8)
        clear m8 HK7 HA7
        go_wp2_with fail
        refine (find_any _ g l _ _ HA8.out (foldS n) HMM.out.2).mono ?_
        rw [HMM.out.1]
        rintro e w9 ⟨rfl, m9⟩
        have HK9 := Lib.hid (HK8.out.then m9)
        have HA9 := Lib.hid (HA8.out.kept m9)
        clear m9 HK8 HA8
        go_wp2_with fail
        refine (find_any _ g l _ _ HA9.out n hN).mono ?_
        rintro e wa ⟨rfl, ma⟩
        have HKa := Lib.hid (HK9.out.then ma)
        have HAa := Lib.hid (HA9.out.kept ma)
        clear ma HK9 HA9
        have hcase : (lab.size : Int) < 1 ∨ 1 ≤ (lab.size : Int) ∧ 63 < (lab.size : Int) ∨ 1 ≤ (lab.size : Int) ∧ (lab.size : Int) ≤ 63 := by omega
        rcases hcase with h1 | ⟨h1, h2⟩ | ⟨h1, h2⟩
        · go_wp2_with fail
          go_ret
          exact ⟨rfl, HKa.out⟩
        · go_wp2_with fail
          go_ret
          exact ⟨rfl, HKa.out⟩
        · have hro := run_one wa lab.size (by omega)
          have HIN := Lib.hid (in_bys n lab (by omega) (by omega))
          have ht2 : (mkS [lab.size]).size ≤ 10 := by rw [mkS_size]; simp
          have ht3 : (mkS [lab.size] ++ lab ++ n).size ≤ 30000 := by rw [ByteArray.size_append, ByteArray.size_append, mkS_size]; simp; omega
          go_wp2_with fail
          generalize mkS [lab.size] ++ lab ++ n = inn at *
          clear hro t1
          refine (may_any inn (by omega) _).mono ?_
          rintro e wc ⟨rfl, mc⟩
          have kac := ((Mod.refl (fun _ => False) wa).alloc _).then mc
          have HKc := Lib.hid (HKa.out.then kac)
          have HAc := Lib.hid (HAa.out.kept kac)
          clear mc kac HKa HAa
          cases hin : mayN (bys inn) with
          | false =>
            go_wp2_with fail
            go_ret
            exact ⟨rfl, HKc.out⟩
          | true =>
            have HIM := Lib.hid hin
            go_wp2_with fail
            refine (may_any n hN _).mono ?_
            rw [hmN]
            rintro e wd ⟨rfl, md⟩
            have HKd := Lib.hid (HKc.out.then md)
            have HAd := Lib.hid (HAc.out.kept md)
            clear md HKc HAc
            go_wp2_with fail
            go_ret
            exact ⟨rfl, HKd.out⟩
      | true =>
        go_wp2_with fail
        go_loopg [10] n.size (fun k i wr => UpRel n gb w3 k i wr)
        case atStart => exact ⟨0, bys n, rfl, by omega, bys_length n, bys_lt n, rfl, HB4.out, HK34.out⟩
        case round =>
          obtain ⟨j, L, rfl, hj, hll2, hl256, hlow, hB, hK⟩ := hrel
          have HJ := Lib.hid hj
          have HLL := Lib.hid hll2
          have HL2 := Lib.hid hl256
          have HLOW := Lib.hid hlow
          have HB := Lib.hid hB
          have HK := Lib.hid hK
          have hjl : j ≤ n.size := by omega
          clear hj hll2 hl256 hlow hB hK
          by_cases hlt : j < n.size
          · have i1 : (j : Int) < (n.size : Int) := by omega
            obtain ⟨x, hx⟩ : ∃ x, L[j]? = some x := ⟨_, List.getElem?_eq_getElem (by rw [HLL.out]; exact hlt)⟩
            have hx256 := HL2.out x (List.mem_of_getElem? hx)
            have f1 := HB.out.cell (u8s_get hx)
            have r1 : wr.frozen? ⟨gb, j, none⟩ = false := HB.out.frozen (by rw [u8s_length, HLL.out]; exact hlt)
            have HX := Lib.hid hx
            have HLT := Lib.hid hlt
            have HSAME := Lib.hid (show UpRel n gb w3 (n.size - (j + 1)) (.int .i64 ((j : Int) + 1)) wr from ⟨j + 1, L, by go_num, by omega, HLL.out, HL2.out, HLOW.out, HB.out, HK.out⟩)
            clear hx hlt
            have hcase : (x : Int) < 97 ∨ 97 ≤ (x : Int) ∧ 122 < (x : Int) ∨ 97 ≤ (x : Int) ∧ (x : Int) ≤ 122 := by omega
            rcases hcase with h1 | ⟨h1, h2⟩ | ⟨h1, h2⟩
            · go_wp2_with fail
              go_roundg (n.size - (j + 1))
              case measure => have := HJ.out; have := HLT.out; omega
              case rel => exact HSAME.out
            · go_wp2_with fail
              go_roundg (n.size - (j + 1))
              case measure => have := HJ.out; have := HLT.out; omega
              case rel => exact HSAME.out
            · obtain ⟨y, hy⟩ : ∃ y : Nat, y = x - 32 := ⟨_, rfl⟩
              have hyi : (x : Int) - 32 = (y : Int) := by omega
              have hy256 : y < 256 := by omega
              have HKEEP : Hid (UpRel n gb w3 (n.size - (j + 1)) (.int .i64 ((j : Int) + 1)) (wr.setCell ⟨gb, j, none⟩ (.int .u8 (y : Int)))) := Lib.hid (by
                refine ⟨j + 1, L.set j y, by go_num, by have := HLT.out; omega, by rw [List.length_set]; exact HLL.out, ?_, ?_, ?_, ?_⟩
                · intro z hz
                  rcases List.mem_or_eq_of_mem_set hz with hz | rfl
                  · exact HL2.out z hz
                  · exact hy256
                · rw [← HLOW.out]
                  unfold lowL
                  rw [List.map_set, up_low (c := x) (d := y) (by omega) (by omega) hy]
                  have hxx := HX.out
                  refine List.ext_getElem? fun k => ?_
                  rw [List.getElem?_set]
                  split
                  · rename_i e
                    subst e
                    rw [if_pos (by rw [List.length_map, HLL.out]; exact HLT.out), List.getElem?_map, hxx]; rfl
                  · rfl
                · have := HB.out.set j (.int .u8 (y : Int))
                  unfold u8s at this ⊢
                  rw [List.map_set]
                  exact this
                · exact HK.out.setCell (p := ⟨gb, j, none⟩) (fun h => by simp only at h; omega) _)
              clear hy
              go_wp2_with fail
              go_roundg (n.size - (j + 1))
              case measure => have := HJ.out; have := HLT.out; omega
              case rel => exact HKEEP.out
          · obtain ⟨m, hmm⟩ : ∃ m, m = mkS L := ⟨_, rfl⟩
            have hrt := run_text c3 HB.out HL2.out n.size HLL.out.symm
            rw [← hmm] at hrt
            have hms : m.size < 2 ^ 63 := by rw [hmm, mkS_size, HLL.out]; omega
            have HMS := Lib.hid hms
            have HFM : Hid (findZ l m = findZ l n) := Lib.hid (find_alike l hmN (by rw [hmm, bys_mkS HL2.out]; exact HLOW.out))
            have HA := Lib.hid (HA3.out.kept HK.out)
            replace HK := Lib.hid (HK3.out.then HK.out)
            have i1 : (n.size : Int) ≤ (j : Int) := by omega
            clear hmm hms HB HL2 HLL HLOW hlt hjl HJ HB4 HK4 HA4 HA3 HK3 HK34
            go_wp2_with fail
            refine (find_any _ g l _ _ HA.out m HMS.out).mono ?_
            rw [HFM.out]
            rintro e w6 ⟨rfl, m6⟩
            have HK6 := Lib.hid (HK.out.then m6)
            have HA6 := Lib.hid (HA.out.kept m6)
            clear m6 hrt HK HA
            go_wp2_with fail
            refine (find_any _ g l _ _ HA6.out n hN).mono ?_
            rintro e w7 ⟨rfl, m7⟩
            have HK7 := Lib.hid (HK6.out.then m7)
            have HA7 := Lib.hid (HA6.out.kept m7)
            clear m7 HK6 HA6
            go_wp2_with fail
            refine (fold_any n hN _).mono ?_
            rintro e w8 ⟨rfl, m8⟩
            have HK8 := Lib.hid (HK7.out.then m8)
            have HA8 := Lib.hid (HA7.out.kept m8)
            clear m8 HK7 HA7
            go_wp2_with fail
            refine (find_any _ g l _ _ HA8.out (foldS n) HMM2.out.2).mono ?_
            rw [HMM2.out.1]
            rintro e w9 ⟨rfl, m9⟩
            have HK9 := Lib.hid (HK8.out.then m9)
            have HA9 := Lib.hid (HA8.out.kept m9)
            clear m9 HK8 HA8
            go_wp2_with fail
            refine (find_any _ g l _ _ HA9.out n hN).mono ?_
            rintro e wa ⟨rfl, ma⟩
            have HKa := Lib.hid (HK9.out.then ma)
            have HAa := Lib.hid (HA9.out.kept ma)
            clear ma HK9 HA9
            have hcase : (lab.size : Int) < 1 ∨ 1 ≤ (lab.size : Int) ∧ 63 < (lab.size : Int) ∨ 1 ≤ (lab.size : Int) ∧ (lab.size : Int) ≤ 63 := by omega
            rcases hcase with h1 | ⟨h1, h2⟩ | ⟨h1, h2⟩
            · go_wp2_with fail
              go_ret
              exact ⟨rfl, HKa.out⟩
            · go_wp2_with fail
              go_ret
              exact ⟨rfl, HKa.out⟩
            · have hro := run_one wa lab.size (by omega)
              have HIN := Lib.hid (in_bys n lab (by omega) (by omega))
              have ht2 : (mkS [lab.size]).size ≤ 10 := by rw [mkS_size]; simp
              have ht3 : (mkS [lab.size] ++ lab ++ n).size ≤ 30000 := by rw [ByteArray.size_append, ByteArray.size_append, mkS_size]; simp; omega
              go_wp2_with fail
              generalize mkS [lab.size] ++ lab ++ n = inn at *
              clear hro t1
              refine (may_any inn (by omega) _).mono ?_
              rintro e wc ⟨rfl, mc⟩
              have kac := ((Mod.refl (fun _ => False) wa).alloc _).then mc
              have HKc := Lib.hid (HKa.out.then kac)
              have HAc := Lib.hid (HAa.out.kept kac)
              clear mc kac HKa HAa
              cases hin : mayN (bys inn) with
              | false =>
                go_wp2_with fail
                go_ret
                exact ⟨rfl, HKc.out⟩
              | true =>
                have HIM := Lib.hid hin
                go_wp2_with fail
                refine (may_any n hN _).mono ?_
                rw [hmN]
                rintro e wd ⟨rfl, md⟩
                have HKd := Lib.hid (HKc.out.then md)
                have HAd := Lib.hid (HAc.out.kept md)
                clear md HKc HAc
                obtain ⟨ks, hks⟩ := Option.isSome_iff_exists.1 (show (splitN (bys n)).isSome = true from hmN)
                have hsi := in_split HIN.out (by omega) (by omega) hks HIM.out
                have HW := Lib.hid (find_tail HOK.out hks hsi)
                have hs1 : (findZ l inn).name.size < 2 ^ 63 := by
                  obtain ⟨xs, hx, _⟩ := find_mayb HOK.out inn
                  have := ((splitN_iff _ _).1 hx).2.2
                  rw [bys_length] at this
                  omega
                have hs2 : (findZ l n).name.size < 2 ^ 63 := by
                  obtain ⟨xs, hx, _⟩ := find_mayb HOK.out n
                  have := ((splitN_iff _ _).1 hx).2.2
                  rw [bys_length] at this
                  omega
                have HSS := Lib.hid (And.intro hs1 hs2)
                have hfd := run_field0
                clear hks hsi hs1 hs2 hq
                go_wp2_with fail
                refine (find_any _ g l _ _ HAd.out inn (by omega)).mono ?_
                rintro e we ⟨rfl, me⟩
                have HKe := Lib.hid (HKd.out.then me)
                have HAe := Lib.hid (HAd.out.kept me)
                clear me HKd HAd
                go_wp2_with fail
                refine (find_any _ g l _ _ HAe.out n hN).mono ?_
                rintro e wf ⟨rfl, mf⟩
                have HKf := Lib.hid (HKe.out.then mf)
                clear mf HKe HAe
                go_wp2_with fail
                refine (within_any _ _ HSS.out.1 HSS.out.2 _).mono ?_
                rw [HW.out]
                rintro e wg ⟨rfl, mg⟩
                have HKg := Lib.hid (HKf.out.then mg)
                clear mg HKf
                go_wp2_with fail
                go_ret
                exact ⟨rfl, HKg.out⟩
    · obtain ⟨k3, rfl⟩ := h3.bad rfl h0
      have HK3 := Lib.hid (HK2.out.then k3)
      have b1n : (newE l != 0) = true := by simpa using h0
      clear h3 k3 h0
      generalize newE l = x at *
      go_wp2_with fail
      go_ret
      exact ⟨rfl, HK3.out⟩
end Go.Proofs.Ytgibhcmdmdbpgaa
