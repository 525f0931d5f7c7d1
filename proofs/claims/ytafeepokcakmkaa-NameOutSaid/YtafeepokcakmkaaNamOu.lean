/- NameOut: the walk. -/
import Derived.Test.YtafeepokcakmkaaNamRS
import Derived.Test.YtafeepokcakmkaaNamTe
import Derived.Test.YtafeepokcakmkaaNamU
import Derived.Test.YtafeepokcakmkaaReg
namespace Go.Proofs.Ytafeepokcakmkaa
open Go.RowKit

theorem labs_127 : ∀ (ls : List (List Nat)), (∀ l ∈ ls, LabOk l) → 2 * ls.length + 1 ≤ (joinN ls).length
  | [], _ => by simp [joinN]
  | l :: ls, h => by
    have h1 := h l (by simp)
    have h2 := labs_127 ls (fun x hx => h x (List.mem_cons_of_mem _ hx))
    unfold LabOk at h1
    simp only [joinN, List.length_cons, List.length_append]
    omega
theorem skip_goal {b : Bool} {A B : Prop} (h : b = false) (hb : B) : if b = true then A else B := by subst h; simpa using hb
theorem within_up {m u : List Nat} {l : List Nat} {ks : List (List Nat)} (h : splitN m = some (l :: ks)) (k : splitN u = some ks) : withinN m u = true ∧ withinN u m = false := by
  refine ⟨?_, ?_⟩
  · rw [withinN_eq h k]
    refine decide_eq_true ?_
    rw [List.map_cons]
    exact List.suffix_cons _ _
  · rw [withinN_eq k h]
    refine decide_eq_false fun e => ?_
    have := e.length_le
    simp at this
    omega
theorem within_may_both {a z : List Nat} (h : withinN a z = true) : ∃ x y, splitN a = some x ∧ splitN z = some y := by
  unfold withinN at h
  cases hx : splitN a with
  | none => rw [hx] at h; simp at h
  | some x =>
    cases hy : splitN z with
    | none => rw [hx, hy] at h; simp at h
    | some y => exact ⟨x, y, rfl, rfl⟩
theorem within_on {m u z : List Nat} {l : List Nat} {ks : List (List Nat)} (h : splitN m = some (l :: ks)) (k : splitN u = some ks) (e : withinN u z = true) : withinN m z = true := by
  obtain ⟨x, y, hx, hy⟩ := within_may_both e
  rw [withinN_eq k hy, decide_eq_true_eq] at e
  rw [withinN_eq h hy]
  refine decide_eq_true ?_
  rw [List.map_cons]
  exact e.trans (List.suffix_cons _ _)
theorem within_self {m : List Nat} {ks : List (List Nat)} (h : splitN m = some ks) : withinN m m = true := by
  rw [withinN_eq h h]
  exact decide_eq_true (List.suffix_refl _)
theorem rd_cast {w : World} {size n m : Nat} {v : Value} {cs : List Value} (h : Rd w size v n cs) (e : n = m) : Rd w size v m cs := by subst e; exact h
def OutRel (w : World) (k : Nat) (vn vi : Value) (wr : World) : Prop :=
  ∃ (j : Nat) (m : ByteArray) (ks : List (List Nat)), vi = .int .i64 j ∧ vn = .string m ∧ splitN (bys m) = some ks ∧ ks.length = k ∧ j + ks.length ≤ 127 ∧ Kept w wr
set_option maxHeartbeats 4000000 in
set_option maxRecDepth 100000 in
theorem out_big (n z : ByteArray) (h : 1000 < n.size ∨ 1000 < z.size) (hn : n.size < 2 ^ 63) (hz : z.size < 2 ^ 63) (w : World) :
    Calls Try.prog 11 #[.string n, .string z] w fun e w' => e = .returned (.bool true) ∧ Kept w w' := by
  have h' : 1000 < (n.size : Int) ∨ (n.size : Int) ≤ 1000 ∧ 1000 < (z.size : Int) := by omega
  clear h
  rcases h' with h0 | ⟨h0, h1⟩
  all_goals
    go_enter Try.func11, Try.ntmps11
    go_wp2_with fail
    refine (awake_any _).mono ?_
    rintro e w1 ⟨rfl, m1⟩
    have M := Lib.hid m1
    clear m1
    go_wp2_with fail
    go_ret
    exact ⟨rfl, M.out⟩
set_option maxHeartbeats 4000000 in
set_option maxRecDepth 100000 in
theorem out_none (n z : ByteArray) (h1 : (n.size : Int) ≤ 1000) (h2 : (z.size : Int) ≤ 1000) (hn : splitN (bys n) = none) (w : World) :
    Calls Try.prog 11 #[.string n, .string z] w fun e w' => e = .returned (.bool true) ∧ Kept w w' := by
  have C1 := Lib.hid (may_to n false (by omega) (by unfold mayN; rw [hn]; rfl))
  have C2 := Lib.hid (parent_to n ⟨#[]⟩ false (by omega) (by unfold parS; rw [parentN_none hn]; rfl) (by unfold parB; rw [parentN_none hn]; rfl))
  have C3 := Lib.hid (within_to n z false (by omega) (by omega) (withinN_none_l _ hn))
  clear hn
  go_enter Try.func11, Try.ntmps11
  go_wp2_with fail
  refine (awake_any _).mono ?_
  rintro e w1 ⟨rfl, m1⟩
  have M := Lib.hid m1
  clear m1
  go_wp2_with fail
  refine (C1.out _).mono ?_
  rintro e wq ⟨rfl, mq⟩
  replace M := Lib.hid (M.out.then mq)
  clear mq
  go_wp2_with fail
  refine (C2.out _).mono ?_
  rintro e wq ⟨rfl, mq⟩
  replace M := Lib.hid (M.out.then mq)
  clear mq
  go_wp2_with fail
  refine (C3.out _).mono ?_
  rintro e wq ⟨rfl, mq⟩
  replace M := Lib.hid (M.out.then mq)
  clear mq
  go_wp2_with fail
  go_ret
  exact ⟨rfl, M.out⟩
set_option maxHeartbeats 4000000 in
set_option maxRecDepth 100000 in
theorem out_some (n z : ByteArray) (h1 : (n.size : Int) ≤ 1000) (h2 : (z.size : Int) ≤ 1000) (ks0 : List (List Nat)) (hn : splitN (bys n) = some ks0) (w : World) :
    Calls Try.prog 11 #[.string n, .string z] w fun e w' => e = .returned (.bool true) ∧ Kept w w' := by
  have C1 := Lib.hid (may_to n true (by omega) (may_some hn))
  have HN := Lib.hid hn
  have H127 := Lib.hid (show 0 + ks0.length ≤ 127 by
    obtain ⟨a, b, c⟩ := (splitN_iff _ _).1 hn
    have := labs_127 ks0 b
    rw [← a, bys_length] at this
    rw [bys_length] at c
    omega)
  clear hn
  go_enter Try.func11, Try.ntmps11
  go_wp2_with fail
  refine (awake_any _).mono ?_
  rintro e w1 ⟨rfl, m1⟩
  have M := Lib.hid m1
  clear m1
  go_wp2_with fail
  refine (C1.out _).mono ?_
  rintro e wq ⟨rfl, mq⟩
  replace M := Lib.hid (M.out.then mq)
  clear mq
  go_wp2_with fail
  go_loopg [0, 7, 8, 9, 10] ks0.length (fun k vn vi _ _ _ wr => OutRel w k vn vi wr)
  case atStart => exact ⟨0, n, ks0, rfl, rfl, HN.out, rfl, H127.out, M.out⟩
  case round =>
    obtain ⟨j, m, ks, rfl, rfl, hm, hk, hj, hM⟩ := hrel
    have hms := size_255 hm
    have HM := Lib.hid hm
    have HK := Lib.hid hk
    replace M := Lib.hid hM
    have i1 : (j : Int) < 130 := by omega
    cases ks with
    | nil =>
      have D1 := Lib.hid (parent_to m ⟨#[]⟩ false (by omega) (by unfold parS; rw [parentN_root hm]; rfl) (by unfold parB; rw [parentN_root hm]; rfl))
      have D2 := Lib.hid (labels_to m [] (by omega) hm)
      have D3 := Lib.hid (within_to m m true (by omega) (by omega) (within_self hm))
      have t0 : (m.toList == [0]) = true := by rw [eq_lit, decide_eq_true_eq]; exact ((splitN_iff _ _).1 hm).1
      clear hm hk hM
      go_wp2_with fail
      refine (D1.out _).mono ?_
      rintro e wq ⟨rfl, mq⟩
      replace M := Lib.hid (M.out.then mq)
      clear mq
      go_wp2_with fail
      refine (D2.out _).mono ?_
      rintro e wq ⟨v, rfl, hT, mq⟩
      obtain ⟨A, c, rfl⟩ := hT.form
      replace M := Lib.hid (M.out.then mq)
      clear mq hT
      go_wp2_with fail
      refine (D3.out _).mono ?_
      rintro e wq ⟨rfl, mq⟩
      replace M := Lib.hid (M.out.then mq)
      clear mq
      go_wp2_with fail
      go_ret
      exact ⟨rfl, M.out⟩
    | cons l ks =>
      obtain ⟨hp1, hp2⟩ := parS_cons hm
      obtain ⟨u, hu⟩ : ∃ u, parS m = u := ⟨_, rfl⟩
      rw [hu] at hp1
      have hus := size_255 hp1
      obtain ⟨L, hL⟩ := lbs_of hm
      obtain ⟨x, L', rfl⟩ : ∃ x L', L = x :: L' := by
        cases L with
        | nil => cases hL
        | cons x L' => exact ⟨x, L', rfl⟩
      have hL2 : lbs L' = ks := by injection hL
      have hx : bys x = l := by injection hL
      have hLl := labs_len (L := x :: L') (by rw [hL]; exact hm)
      have hxs := labs_ok (L := x :: L') (by rw [hL]; exact hm) x (by simp)
      have hsz : (m.size : Int) = (u.size : Int) + 1 + (x.size : Int) := by
        have a1 := ((splitN_iff _ _).1 hm).1
        have a2 := ((splitN_iff _ _).1 hp1).1
        have a3 := joinN_drop l ks
        rw [← a1, ← a2, bys_length, bys_length, ← hx, bys_length] at a3
        omega
      have D1 := Lib.hid (parent_to m u true (by omega) hu hp2)
      have D2 := Lib.hid (labels_to m (x :: L') (by omega) (by rw [hL]; exact hm))
      have D3 := Lib.hid (may_to u true (by omega) (may_some hp1))
      have D4 := Lib.hid (labels_to u L' (by omega) (by rw [hL2]; exact hp1))
      have D5 := Lib.hid (fun v1 v2 w a c => rtexts_any v1 v2 L' L' (by simp at hLl; omega) (by simp at hLl; omega) w a c)
      rw [decide_eq_true rfl] at D5
      obtain ⟨hw1, hw2⟩ := within_up hm hp1
      have D6 := Lib.hid (within_to m u true (by omega) (by omega) hw1)
      have D7 := Lib.hid (within_to u m false (by omega) (by omega) hw2)
      have hcase : withinN (bys u) (bys z) = false ∨ withinN (bys u) (bys z) = true ∧ withinN (bys m) (bys z) = true := by
        cases h : withinN (bys u) (bys z) with
        | false => exact .inl rfl
        | true => exact .inr ⟨rfl, within_on hm hp1 h⟩
      have HP := Lib.hid hp1
      have e0 : ((m.size : Int) != (u.size : Int) + 1 + (x.size : Int)) = false := by rw [bne_eq_false_iff_eq]; exact hsz
      have hll : L'.length ≤ 254 := by simp at hLl; omega
      have HJ := Lib.hid hj
      clear hm hk hM hp1 hp2 hu hL hL2 hx hLl hsz hw1 hw2 hj
      go_wp2_with fail
      refine (D1.out _).mono ?_
      rintro e wq ⟨rfl, mq⟩
      replace M := Lib.hid (M.out.then mq)
      clear mq
      go_wp2_with fail
      refine (D2.out _).mono ?_
      rintro e wl ⟨v, rfl, hT, mq⟩
      replace M := Lib.hid (M.out.then mq)
      obtain ⟨n2, A, c, hn2, rfl⟩ : ∃ n2 A c, n2 = L'.length + 1 ∧ v = .slice A n2 c := by
        obtain ⟨A, c, e⟩ := hT.form
        exact ⟨_, A, c, by simp, e⟩
      obtain ⟨g, rfl⟩ := hT.cap.2.2 (by omega)
      have hcap := hT.cap.1
      have f0 : wl.cell? ⟨g, 0, none⟩ = some (.string x) := by
        have h := hT
        unfold Txs at h
        rw [show (x :: L').length = n2 by rw [hn2]; simp] at h
        exact (h.cellAt 0 (by omega)).trans rfl
      have HGL := Lib.hid (hT.lt g rfl).2
      have K0 : Kept wl wl.drew := (Kept.refl wl).drew
      have Q0 := f0
      have hTT := hT.rd
      have HF0 := Lib.hid f0
      have i2 : (1 : Int) ≤ (n2 : Int) := by omega
      have i3 : (0 : Int) < (n2 : Int) := by omega
      have i4 : ¬ (n2 : Int) < 1 := by omega
      have i6 : 0 < n2 := by omega
      have i8 : ¬ (n2 : Int) ≤ 0 := by omega
      have ew1 : IntKind.i64.wrap ((u.size : Int) + 1) = (u.size : Int) + 1 := by rw [IntWalk.i64_in _ (by omega)]
      have ew2 : IntKind.i64.wrap ((u.size : Int) + 1 + (x.size : Int)) = (u.size : Int) + 1 + (x.size : Int) := by rw [IntWalk.i64_in _ (by omega)]
      have hdd : decide ((n2 : Int) < 1) = false := decide_eq_false i4
      clear f0 mq
      by_cases hc1 : c = 1
      · have TAILRD := Lib.hid (show Rd wl 1 (.slice (some ⟨g, 0, none⟩) (n2 - 1) 0) L'.length (strVals L') by
          have e : L' = [] := List.eq_nil_of_length_eq_zero (by omega)
          rw [e, show n2 - 1 = 0 by omega]
          exact Rd.nil _ _ _ _)
        subst hc1
        rcases hcase with hcf | ⟨hct, hct2⟩
        · have D8 := Lib.hid (within_to u z false (by omega) (by omega) hcf)
          clear hT hTT hcf hcap hn2 hxs
          go_wp2_with fail
          refine wp_region_held_drew (S := (fun w' => w'.cell? ⟨g, 0, none⟩ = some (.string x))) (by kernel_rfl) ?_ (fun hHeld => ?_)
          · (try dsimp only); first | exact Q0 | exact Qwa | exact Qwb | exact Qwc | exact Qwd | exact Qwe | exact Qwf | exact Qwg
          refine regH_take 0 65 (v := ?_) rfl rfl (by kernel_rfl) (by kernel_rfl) (by kernel_rfl) (fun _ _ _ h => h) (by rfl) (by assumption) ?_ ?_
          rotate_left
          · (intro w hSw; (try dsimp only at hSw); go_simp); try (with_reducible rfl)
          try simp only [Act.put, List.setIfInBounds_toArray, List.set_cons_zero, List.set_cons_succ]
          refine wpAnyH_ready (rs := [1]) (by kernel_rfl) (by simp) ?_
          refine AllReadyH.cons rfl (fun K hK => ?_) AllReadyH.nil
          go_simp
          ((with_reducible refine (D3.out _).mono ?_); rintro e wa ⟨rfl, mwa⟩; have Kwa : Kept wl wa := K0.then mwa; have Qwa : wa.cell? ⟨g, 0, none⟩ = some (.string x) := (mwa.cell (p := ⟨g, 0, none⟩) (Nat.lt_of_lt_of_le HGL.out K0.size) (fun e => e)).trans Q0)
          try (go_wp2_with fail)
          refine hK.out _ _ ?_ (fun hHeld => ?_)
          · (try dsimp only); first | exact Q0 | exact Qwa | exact Qwb | exact Qwc | exact Qwd | exact Qwe | exact Qwf | exact Qwg
          clear hK K
          try simp only [Act.put, List.setIfInBounds_toArray, List.set_cons_zero, List.set_cons_succ]
          refine regH_take 2 67 (v := ?_) rfl rfl (by kernel_rfl) (by kernel_rfl) (by kernel_rfl) (fun _ _ _ h => h) (by rfl) (by assumption) ?_ ?_
          rotate_left
          · (intro w hSw; (try dsimp only at hSw); go_simp); try (with_reducible rfl)
          try simp only [Act.put, List.setIfInBounds_toArray, List.set_cons_zero, List.set_cons_succ]
          refine regH_take 3 68 (v := ?_) rfl rfl (by kernel_rfl) (by kernel_rfl) (by kernel_rfl) (fun _ _ _ h => h) (by rfl) (by assumption) ?_ ?_
          rotate_left
          · (intro w hSw; (try dsimp only at hSw); go_simp); try (with_reducible rfl)
          try simp only [Act.put, List.setIfInBounds_toArray, List.set_cons_zero, List.set_cons_succ]
          refine regH_take 4 69 (v := ?_) rfl rfl (by kernel_rfl) (by kernel_rfl) (by kernel_rfl) (fun _ _ _ h => h) (by rfl) (by assumption) ?_ ?_
          rotate_left
          · (intro w hSw; (try dsimp only at hSw); go_simp); try (with_reducible rfl)
          try simp only [Act.put, List.setIfInBounds_toArray, List.set_cons_zero, List.set_cons_succ]
          refine regH_take 5 70 (v := ?_) rfl rfl (by kernel_rfl) (by kernel_rfl) (by kernel_rfl) (fun _ _ _ h => h) (by rfl) (by assumption) ?_ ?_
          rotate_left
          · (intro w hSw; (try dsimp only at hSw); go_simp); try (with_reducible rfl)
          try simp only [Act.put, List.setIfInBounds_toArray, List.set_cons_zero, List.set_cons_succ]
          refine regH_take 6 71 (v := ?_) rfl rfl (by kernel_rfl) (by kernel_rfl) (by kernel_rfl) (fun _ _ _ h => h) (by rfl) (by assumption) ?_ ?_
          rotate_left
          · (intro w hSw; (try dsimp only at hSw); go_simp); try (with_reducible rfl)
          try simp only [Act.put, List.setIfInBounds_toArray, List.set_cons_zero, List.set_cons_succ]
          refine regH_take 7 72 (v := ?_) rfl rfl (by kernel_rfl) (by kernel_rfl) (by kernel_rfl) (fun _ _ _ h => h) (by rfl) (by assumption) ?_ ?_
          rotate_left
          · (intro w hSw; (try dsimp only at hSw); go_simp); try (with_reducible rfl)
          try simp only [Act.put, List.setIfInBounds_toArray, List.set_cons_zero, List.set_cons_succ]
          refine regH_take 8 73 (v := ?_) rfl rfl (by kernel_rfl) (by kernel_rfl) (by kernel_rfl) (fun _ _ _ h => h) (by rfl) (by assumption) ?_ ?_
          rotate_left
          · (intro w hSw; (try dsimp only at hSw); go_simp); try (with_reducible rfl)
          try simp only [Act.put, List.setIfInBounds_toArray, List.set_cons_zero, List.set_cons_succ]
          refine regH_take 9 74 (v := ?_) rfl rfl (by kernel_rfl) (by kernel_rfl) (by kernel_rfl) (fun _ _ _ h => h) (by rfl) (by assumption) ?_ ?_
          rotate_left
          · (intro w hSw; (try dsimp only at hSw); go_simp); try (with_reducible rfl)
          try simp only [Act.put, List.setIfInBounds_toArray, List.set_cons_zero, List.set_cons_succ]
          refine regH_take 11 76 (v := ?_) rfl rfl (by kernel_rfl) (by kernel_rfl) (by kernel_rfl) (fun _ _ _ h => h) (by rfl) (by assumption) ?_ ?_
          rotate_left
          · (intro w hSw; (try dsimp only at hSw); go_simp); try (with_reducible rfl)
          try simp only [Act.put, List.setIfInBounds_toArray, List.set_cons_zero, List.set_cons_succ]
          refine regH_take 12 77 (v := ?_) rfl rfl (by kernel_rfl) (by kernel_rfl) (by kernel_rfl) (fun _ _ _ h => h) (by rfl) (by assumption) ?_ ?_
          rotate_left
          · (intro w hSw; (try dsimp only at hSw); go_simp); try (with_reducible rfl)
          try simp only [Act.put, List.setIfInBounds_toArray, List.set_cons_zero, List.set_cons_succ]
          refine wpAnyH_ready (rs := [10]) (by kernel_rfl) (by simp) ?_
          refine AllReadyH.cons rfl (fun K hK => ?_) AllReadyH.nil
          go_simp
          ((with_reducible refine (D4.out _).mono ?_); rintro e wb ⟨vu, rfl, hTu, mwb⟩; have Kwb : Kept wl wb := Kwa.then mwb; have Qwb : wb.cell? ⟨g, 0, none⟩ = some (.string x) := (mwb.cell (p := ⟨g, 0, none⟩) (Nat.lt_of_lt_of_le HGL.out Kwa.size) (fun e => e)).trans Qwa)
          try (go_wp2_with fail)
          refine hK.out _ _ ?_ (fun hHeld => ?_)
          · (try dsimp only); first | exact Q0 | exact Qwa | exact Qwb | exact Qwc | exact Qwd | exact Qwe | exact Qwf | exact Qwg
          clear hK K
          try simp only [Act.put, List.setIfInBounds_toArray, List.set_cons_zero, List.set_cons_succ]
          refine wpAnyH_ready (rs := [13]) (by kernel_rfl) (by simp) ?_
          refine AllReadyH.cons rfl (fun K hK => ?_) AllReadyH.nil
          go_simp
          ((with_reducible refine (D5.out _ _ _ hTu.rd (TAILRD.out.kept Kwb (fun _ _ e => e))).mono ?_); rintro e wc ⟨rfl, mwc⟩; have Kwc : Kept wl wc := Kwb.then mwc; have Qwc : wc.cell? ⟨g, 0, none⟩ = some (.string x) := (mwc.cell (p := ⟨g, 0, none⟩) (Nat.lt_of_lt_of_le HGL.out Kwb.size) (fun e => e)).trans Qwb)
          try (go_wp2_with fail)
          refine hK.out _ _ ?_ (fun hHeld => ?_)
          · (try dsimp only); first | exact Q0 | exact Qwa | exact Qwb | exact Qwc | exact Qwd | exact Qwe | exact Qwf | exact Qwg
          clear hK K
          try simp only [Act.put, List.setIfInBounds_toArray, List.set_cons_zero, List.set_cons_succ]
          refine regH_take 14 79 (v := ?_) rfl rfl (by kernel_rfl) (by kernel_rfl) (by kernel_rfl) (fun _ _ _ h => h) (by rfl) (by assumption) ?_ ?_
          rotate_left
          · (intro w hSw; (try dsimp only at hSw); go_simp); try (with_reducible rfl)
          try simp only [Act.put, List.setIfInBounds_toArray, List.set_cons_zero, List.set_cons_succ]
          refine regH_take 15 80 (v := ?_) rfl rfl (by kernel_rfl) (by kernel_rfl) (by kernel_rfl) (fun _ _ _ h => h) (by rfl) (by assumption) ?_ ?_
          rotate_left
          · (intro w hSw; (try dsimp only at hSw); go_simp); try (with_reducible rfl)
          try simp only [Act.put, List.setIfInBounds_toArray, List.set_cons_zero, List.set_cons_succ]
          refine regH_take 16 81 (v := ?_) rfl rfl (by kernel_rfl) (by kernel_rfl) (by kernel_rfl) (fun _ _ _ h => h) (by rfl) (by assumption) ?_ ?_
          rotate_left
          · (intro w hSw; (try dsimp only at hSw); go_simp); try (with_reducible rfl)
          try simp only [Act.put, List.setIfInBounds_toArray, List.set_cons_zero, List.set_cons_succ]
          refine regH_take 17 82 (v := ?_) rfl rfl (by kernel_rfl) (by kernel_rfl) (by kernel_rfl) (fun _ _ _ h => h) (by rfl) (by assumption) ?_ ?_
          rotate_left
          · (intro w hSw; (try dsimp only at hSw); go_simp); try (with_reducible rfl)
          try simp only [Act.put, List.setIfInBounds_toArray, List.set_cons_zero, List.set_cons_succ]
          refine regH_take 18 83 (v := ?_) rfl rfl (by kernel_rfl) (by kernel_rfl) (by kernel_rfl) (fun _ _ _ h => h) (by rfl) (by assumption) ?_ ?_
          rotate_left
          · (intro w hSw; (try dsimp only at hSw); go_simp); try (with_reducible rfl)
          try simp only [Act.put, List.setIfInBounds_toArray, List.set_cons_zero, List.set_cons_succ]
          refine wpAnyH_ready (rs := [19]) (by kernel_rfl) (by simp) ?_
          refine AllReadyH.cons rfl (fun K hK => ?_) AllReadyH.nil
          go_simp
          ((with_reducible refine (D6.out _).mono ?_); rintro e wd ⟨rfl, mwd⟩; have Kwd : Kept wl wd := Kwc.then mwd; have Qwd : wd.cell? ⟨g, 0, none⟩ = some (.string x) := (mwd.cell (p := ⟨g, 0, none⟩) (Nat.lt_of_lt_of_le HGL.out Kwc.size) (fun e => e)).trans Qwc)
          try (go_wp2_with fail)
          refine hK.out _ _ ?_ (fun hHeld => ?_)
          · (try dsimp only); first | exact Q0 | exact Qwa | exact Qwb | exact Qwc | exact Qwd | exact Qwe | exact Qwf | exact Qwg
          clear hK K
          try simp only [Act.put, List.setIfInBounds_toArray, List.set_cons_zero, List.set_cons_succ]
          refine regH_take 20 85 (v := ?_) rfl rfl (by kernel_rfl) (by kernel_rfl) (by kernel_rfl) (fun _ _ _ h => h) (by rfl) (by assumption) ?_ ?_
          rotate_left
          · (intro w hSw; (try dsimp only at hSw); go_simp); try (with_reducible rfl)
          try simp only [Act.put, List.setIfInBounds_toArray, List.set_cons_zero, List.set_cons_succ]
          refine regH_take 21 86 (v := ?_) rfl rfl (by kernel_rfl) (by kernel_rfl) (by kernel_rfl) (fun _ _ _ h => h) (by rfl) (by assumption) ?_ ?_
          rotate_left
          · (intro w hSw; (try dsimp only at hSw); go_simp); try (with_reducible rfl)
          try simp only [Act.put, List.setIfInBounds_toArray, List.set_cons_zero, List.set_cons_succ]
          refine regH_take 22 87 (v := ?_) rfl rfl (by kernel_rfl) (by kernel_rfl) (by kernel_rfl) (fun _ _ _ h => h) (by rfl) (by assumption) ?_ ?_
          rotate_left
          · (intro w hSw; (try dsimp only at hSw); go_simp); try (with_reducible rfl)
          try simp only [Act.put, List.setIfInBounds_toArray, List.set_cons_zero, List.set_cons_succ]
          refine regH_take 23 88 (v := ?_) rfl rfl (by kernel_rfl) (by kernel_rfl) (by kernel_rfl) (fun _ _ _ h => h) (by rfl) (by assumption) ?_ ?_
          rotate_left
          · (intro w hSw; (try dsimp only at hSw); go_simp); try (with_reducible rfl)
          try simp only [Act.put, List.setIfInBounds_toArray, List.set_cons_zero, List.set_cons_succ]
          refine regH_take 24 89 (v := ?_) rfl rfl (by kernel_rfl) (by kernel_rfl) (by kernel_rfl) (fun _ _ _ h => h) (by rfl) (by assumption) ?_ ?_
          rotate_left
          · (intro w hSw; (try dsimp only at hSw); go_simp); try (with_reducible rfl)
          try simp only [Act.put, List.setIfInBounds_toArray, List.set_cons_zero, List.set_cons_succ]
          refine wpAnyH_ready (rs := [25]) (by kernel_rfl) (by simp) ?_
          refine AllReadyH.cons rfl (fun K hK => ?_) AllReadyH.nil
          go_simp
          ((with_reducible refine (D7.out _).mono ?_); rintro e we ⟨rfl, mwe⟩; have Kwe : Kept wl we := Kwd.then mwe; have Qwe : we.cell? ⟨g, 0, none⟩ = some (.string x) := (mwe.cell (p := ⟨g, 0, none⟩) (Nat.lt_of_lt_of_le HGL.out Kwd.size) (fun e => e)).trans Qwd)
          try (go_wp2_with fail)
          refine hK.out _ _ ?_ (fun hHeld => ?_)
          · (try dsimp only); first | exact Q0 | exact Qwa | exact Qwb | exact Qwc | exact Qwd | exact Qwe | exact Qwf | exact Qwg
          clear hK K
          try simp only [Act.put, List.setIfInBounds_toArray, List.set_cons_zero, List.set_cons_succ]
          refine regH_take 26 91 (v := ?_) rfl rfl (by kernel_rfl) (by kernel_rfl) (by kernel_rfl) (fun _ _ _ h => h) (by rfl) (by assumption) ?_ ?_
          rotate_left
          · (intro w hSw; (try dsimp only at hSw); go_simp); try (with_reducible rfl)
          try simp only [Act.put, List.setIfInBounds_toArray, List.set_cons_zero, List.set_cons_succ]
          refine regH_take 27 92 (v := ?_) rfl rfl (by kernel_rfl) (by kernel_rfl) (by kernel_rfl) (fun _ _ _ h => h) (by rfl) (by assumption) ?_ ?_
          rotate_left
          · (intro w hSw; (try dsimp only at hSw); go_simp); try (with_reducible rfl)
          try simp only [Act.put, List.setIfInBounds_toArray, List.set_cons_zero, List.set_cons_succ]
          refine regH_take 28 93 (v := ?_) rfl rfl (by kernel_rfl) (by kernel_rfl) (by kernel_rfl) (fun _ _ _ h => h) (by rfl) (by assumption) ?_ ?_
          rotate_left
          · (intro w hSw; (try dsimp only at hSw); go_simp); try (with_reducible rfl)
          try simp only [Act.put, List.setIfInBounds_toArray, List.set_cons_zero, List.set_cons_succ]
          refine regH_take 29 94 (v := ?_) rfl rfl (by kernel_rfl) (by kernel_rfl) (by kernel_rfl) (fun _ _ _ h => h) (by rfl) (by assumption) ?_ ?_
          rotate_left
          · (intro w hSw; (try dsimp only at hSw); go_simp); try (with_reducible rfl)
          try simp only [Act.put, List.setIfInBounds_toArray, List.set_cons_zero, List.set_cons_succ]
          refine wpAnyH_ready (rs := [30]) (by kernel_rfl) (by simp) ?_
          refine AllReadyH.cons rfl (fun K hK => ?_) AllReadyH.nil
          go_simp
          ((with_reducible refine (D8.out _).mono ?_); rintro e wf ⟨rfl, mwf⟩; have Kwf : Kept wl wf := Kwe.then mwf; have Qwf : wf.cell? ⟨g, 0, none⟩ = some (.string x) := (mwf.cell (p := ⟨g, 0, none⟩) (Nat.lt_of_lt_of_le HGL.out Kwe.size) (fun e => e)).trans Qwe)
          try (go_wp2_with fail)
          refine hK.out _ _ ?_ (fun hHeld => ?_)
          · (try dsimp only); first | exact Q0 | exact Qwa | exact Qwb | exact Qwc | exact Qwd | exact Qwe | exact Qwf | exact Qwg
          clear hK K
          try simp only [Act.put, List.setIfInBounds_toArray, List.set_cons_zero, List.set_cons_succ]
          refine regH_take 31 96 (v := ?_) rfl rfl (by kernel_rfl) (by kernel_rfl) (by kernel_rfl) (fun _ _ _ h => h) (by rfl) (by assumption) ?_ ?_
          rotate_left
          · (intro w hSw; (try dsimp only at hSw); go_simp); try (with_reducible rfl)
          try simp only [Act.put, List.setIfInBounds_toArray, List.set_cons_zero, List.set_cons_succ]
          refine regH_skip 32 97 rfl rfl (by kernel_rfl) (by kernel_rfl) (by kernel_rfl) (fun _ _ _ h => h) (by rfl) (by assumption) ?_
          try simp only [Act.put, List.setIfInBounds_toArray, List.set_cons_zero, List.set_cons_succ]
          refine regH_skip 33 98 rfl rfl (by kernel_rfl) (by kernel_rfl) (by kernel_rfl) (fun _ _ _ h => h) (by rfl) (by assumption) ?_
          try simp only [Act.put, List.setIfInBounds_toArray, List.set_cons_zero, List.set_cons_succ]
          refine regH_skip 34 99 rfl rfl (by kernel_rfl) (by kernel_rfl) (by kernel_rfl) (fun _ _ _ h => h) (by rfl) (by assumption) ?_
          try simp only [Act.put, List.setIfInBounds_toArray, List.set_cons_zero, List.set_cons_succ]
          refine regH_skip 35 100 rfl rfl (by kernel_rfl) (by kernel_rfl) (by kernel_rfl) (fun _ _ _ h => h) (by rfl) (by assumption) ?_
          try simp only [Act.put, List.setIfInBounds_toArray, List.set_cons_zero, List.set_cons_succ]
          refine regH_take 36 101 (v := ?_) rfl rfl (by kernel_rfl) (by kernel_rfl) (by kernel_rfl) (fun _ _ _ h => h) (by rfl) (by assumption) ?_ ?_
          rotate_left
          · (intro w hSw; (try dsimp only at hSw); go_simp); try (with_reducible rfl)
          try simp only [Act.put, List.setIfInBounds_toArray, List.set_cons_zero, List.set_cons_succ]
          refine regH_take 37 102 (v := ?_) rfl rfl (by kernel_rfl) (by kernel_rfl) (by kernel_rfl) (fun _ _ _ h => h) (by rfl) (by assumption) ?_ ?_
          rotate_left
          · (intro w hSw; (try dsimp only at hSw); go_simp); try (with_reducible rfl)
          try simp only [Act.put, List.setIfInBounds_toArray, List.set_cons_zero, List.set_cons_succ]
          refine regH_take 38 103 (v := ?_) rfl rfl (by kernel_rfl) (by kernel_rfl) (by kernel_rfl) (fun _ _ _ h => h) (by rfl) (by assumption) ?_ ?_
          rotate_left
          · (intro w hSw; (try dsimp only at hSw); go_simp); try (with_reducible rfl)
          try simp only [Act.put, List.setIfInBounds_toArray, List.set_cons_zero, List.set_cons_succ]
          refine regH_take 39 104 (v := ?_) rfl rfl (by kernel_rfl) (by kernel_rfl) (by kernel_rfl) (fun _ _ _ h => h) (by rfl) (by assumption) ?_ ?_
          rotate_left
          · (intro w hSw; (try dsimp only at hSw); go_simp); try (with_reducible rfl)
          try simp only [Act.put, List.setIfInBounds_toArray, List.set_cons_zero, List.set_cons_succ]
          refine regH_take 40 105 (v := ?_) rfl rfl (by kernel_rfl) (by kernel_rfl) (by kernel_rfl) (fun _ _ _ h => h) (by rfl) (by assumption) ?_ ?_
          rotate_left
          · (intro w hSw; (try dsimp only at hSw); go_simp); try (with_reducible rfl)
          try simp only [Act.put, List.setIfInBounds_toArray, List.set_cons_zero, List.set_cons_succ]
          refine regH_take 41 106 (v := ?_) rfl rfl (by kernel_rfl) (by kernel_rfl) (by kernel_rfl) (fun _ _ _ h => h) (by rfl) (by assumption) ?_ ?_
          rotate_left
          · (intro w hSw; (try dsimp only at hSw); go_simp); try (with_reducible rfl)
          try simp only [Act.put, List.setIfInBounds_toArray, List.set_cons_zero, List.set_cons_succ]
          refine regH_take 42 107 (v := ?_) rfl rfl (by kernel_rfl) (by kernel_rfl) (by kernel_rfl) (fun _ _ _ h => h) (by rfl) (by assumption) ?_ ?_
          rotate_left
          · (intro w hSw; (try dsimp only at hSw); go_simp); try (with_reducible rfl)
          try simp only [Act.put, List.setIfInBounds_toArray, List.set_cons_zero, List.set_cons_succ]
          refine regH_take 43 108 (v := ?_) rfl rfl (by kernel_rfl) (by kernel_rfl) (by kernel_rfl) (fun _ _ _ h => h) (by rfl) (by assumption) ?_ ?_
          rotate_left
          · (intro w hSw; (try dsimp only at hSw); go_simp); try (with_reducible rfl)
          try simp only [Act.put, List.setIfInBounds_toArray, List.set_cons_zero, List.set_cons_succ]
          refine regH_take 44 109 (v := ?_) rfl rfl (by kernel_rfl) (by kernel_rfl) (by kernel_rfl) (fun _ _ _ h => h) (by rfl) (by assumption) ?_ ?_
          rotate_left
          · (intro w hSw; (try dsimp only at hSw); go_simp); try (with_reducible rfl)
          try simp only [Act.put, List.setIfInBounds_toArray, List.set_cons_zero, List.set_cons_succ]
          refine regH_take 45 110 (v := ?_) rfl rfl (by kernel_rfl) (by kernel_rfl) (by kernel_rfl) (fun _ _ _ h => h) (by rfl) (by assumption) ?_ ?_
          rotate_left
          · (intro w hSw; (try dsimp only at hSw); go_simp); try (with_reducible rfl)
          try simp only [Act.put, List.setIfInBounds_toArray, List.set_cons_zero, List.set_cons_succ]
          refine regH_take 46 111 (v := ?_) rfl rfl (by kernel_rfl) (by kernel_rfl) (by kernel_rfl) (fun _ _ _ h => h) (by rfl) (by assumption) ?_ ?_
          rotate_left
          · (intro w hSw; (try dsimp only at hSw); go_simp); try (with_reducible rfl)
          try simp only [Act.put, List.setIfInBounds_toArray, List.set_cons_zero, List.set_cons_succ]
          refine regH_take 47 112 (v := ?_) rfl rfl (by kernel_rfl) (by kernel_rfl) (by kernel_rfl) (fun _ _ _ h => h) (by rfl) (by assumption) ?_ ?_
          rotate_left
          · (intro w hSw; (try dsimp only at hSw); go_simp); try (with_reducible rfl)
          try simp only [Act.put, List.setIfInBounds_toArray, List.set_cons_zero, List.set_cons_succ]
          refine regH_take 48 113 (v := ?_) rfl rfl (by kernel_rfl) (by kernel_rfl) (by kernel_rfl) (fun _ _ _ h => h) (by rfl) (by assumption) ?_ ?_
          rotate_left
          · (intro w hSw; (try dsimp only at hSw); go_simp); try (with_reducible rfl)
          try simp only [Act.put, List.setIfInBounds_toArray, List.set_cons_zero, List.set_cons_succ]
          refine regH_take 49 114 (v := ?_) rfl rfl (by kernel_rfl) (by kernel_rfl) (by kernel_rfl) (fun _ _ _ h => h) (by rfl) (by assumption) ?_ ?_
          rotate_left
          · (intro w hSw; (try dsimp only at hSw); go_simp); try (with_reducible rfl)
          try simp only [Act.put, List.setIfInBounds_toArray, List.set_cons_zero, List.set_cons_succ]
          refine regH_take 50 115 (v := ?_) rfl rfl (by kernel_rfl) (by kernel_rfl) (by kernel_rfl) (fun _ _ _ h => h) (by rfl) (by assumption) ?_ ?_
          rotate_left
          · (intro w hSw; (try dsimp only at hSw); go_simp); try (with_reducible rfl)
          try simp only [Act.put, List.setIfInBounds_toArray, List.set_cons_zero, List.set_cons_succ]
          refine wpAnyH_done (by kernel_rfl) ?_ _
          have HKK := Lib.hid Kwf
          clear K0 Kwa Kwb Kwc Kwd Kwe Kwf mwa mwb mwc mwd mwe mwf Q0 Qwa Qwb Qwc Qwd Qwe Qwf hTu
          go_wp2_with fail
          go_roundg ks.length
          case measure => have := HK.out; simp only [List.length_cons] at this; omega
          case rel => exact ⟨j + 1, u, ks, by go_num, rfl, HP.out, rfl, by have := HJ.out; simp only [List.length_cons] at this; omega, M.out.then HKK.out⟩
        · have D8 := Lib.hid (within_to u z true (by omega) (by omega) hct)
          have D9 := Lib.hid (within_to m z true (by omega) (by omega) hct2)
          clear hT hTT hct hct2 hcap hn2 hxs
          go_wp2_with fail
          refine wp_region_held_drew (S := (fun w' => w'.cell? ⟨g, 0, none⟩ = some (.string x))) (by kernel_rfl) ?_ (fun hHeld => ?_)
          · (try dsimp only); first | exact Q0 | exact Qwa | exact Qwb | exact Qwc | exact Qwd | exact Qwe | exact Qwf | exact Qwg
          refine regH_take 0 65 (v := ?_) rfl rfl (by kernel_rfl) (by kernel_rfl) (by kernel_rfl) (fun _ _ _ h => h) (by rfl) (by assumption) ?_ ?_
          rotate_left
          · (intro w hSw; (try dsimp only at hSw); go_simp); try (with_reducible rfl)
          try simp only [Act.put, List.setIfInBounds_toArray, List.set_cons_zero, List.set_cons_succ]
          refine wpAnyH_ready (rs := [1]) (by kernel_rfl) (by simp) ?_
          refine AllReadyH.cons rfl (fun K hK => ?_) AllReadyH.nil
          go_simp
          ((with_reducible refine (D3.out _).mono ?_); rintro e wa ⟨rfl, mwa⟩; have Kwa : Kept wl wa := K0.then mwa; have Qwa : wa.cell? ⟨g, 0, none⟩ = some (.string x) := (mwa.cell (p := ⟨g, 0, none⟩) (Nat.lt_of_lt_of_le HGL.out K0.size) (fun e => e)).trans Q0)
          try (go_wp2_with fail)
          refine hK.out _ _ ?_ (fun hHeld => ?_)
          · (try dsimp only); first | exact Q0 | exact Qwa | exact Qwb | exact Qwc | exact Qwd | exact Qwe | exact Qwf | exact Qwg
          clear hK K
          try simp only [Act.put, List.setIfInBounds_toArray, List.set_cons_zero, List.set_cons_succ]
          refine regH_take 2 67 (v := ?_) rfl rfl (by kernel_rfl) (by kernel_rfl) (by kernel_rfl) (fun _ _ _ h => h) (by rfl) (by assumption) ?_ ?_
          rotate_left
          · (intro w hSw; (try dsimp only at hSw); go_simp); try (with_reducible rfl)
          try simp only [Act.put, List.setIfInBounds_toArray, List.set_cons_zero, List.set_cons_succ]
          refine regH_take 3 68 (v := ?_) rfl rfl (by kernel_rfl) (by kernel_rfl) (by kernel_rfl) (fun _ _ _ h => h) (by rfl) (by assumption) ?_ ?_
          rotate_left
          · (intro w hSw; (try dsimp only at hSw); go_simp); try (with_reducible rfl)
          try simp only [Act.put, List.setIfInBounds_toArray, List.set_cons_zero, List.set_cons_succ]
          refine regH_take 4 69 (v := ?_) rfl rfl (by kernel_rfl) (by kernel_rfl) (by kernel_rfl) (fun _ _ _ h => h) (by rfl) (by assumption) ?_ ?_
          rotate_left
          · (intro w hSw; (try dsimp only at hSw); go_simp); try (with_reducible rfl)
          try simp only [Act.put, List.setIfInBounds_toArray, List.set_cons_zero, List.set_cons_succ]
          refine regH_take 5 70 (v := ?_) rfl rfl (by kernel_rfl) (by kernel_rfl) (by kernel_rfl) (fun _ _ _ h => h) (by rfl) (by assumption) ?_ ?_
          rotate_left
          · (intro w hSw; (try dsimp only at hSw); go_simp); try (with_reducible rfl)
          try simp only [Act.put, List.setIfInBounds_toArray, List.set_cons_zero, List.set_cons_succ]
          refine regH_take 6 71 (v := ?_) rfl rfl (by kernel_rfl) (by kernel_rfl) (by kernel_rfl) (fun _ _ _ h => h) (by rfl) (by assumption) ?_ ?_
          rotate_left
          · (intro w hSw; (try dsimp only at hSw); go_simp); try (with_reducible rfl)
          try simp only [Act.put, List.setIfInBounds_toArray, List.set_cons_zero, List.set_cons_succ]
          refine regH_take 7 72 (v := ?_) rfl rfl (by kernel_rfl) (by kernel_rfl) (by kernel_rfl) (fun _ _ _ h => h) (by rfl) (by assumption) ?_ ?_
          rotate_left
          · (intro w hSw; (try dsimp only at hSw); go_simp); try (with_reducible rfl)
          try simp only [Act.put, List.setIfInBounds_toArray, List.set_cons_zero, List.set_cons_succ]
          refine regH_take 8 73 (v := ?_) rfl rfl (by kernel_rfl) (by kernel_rfl) (by kernel_rfl) (fun _ _ _ h => h) (by rfl) (by assumption) ?_ ?_
          rotate_left
          · (intro w hSw; (try dsimp only at hSw); go_simp); try (with_reducible rfl)
          try simp only [Act.put, List.setIfInBounds_toArray, List.set_cons_zero, List.set_cons_succ]
          refine regH_take 9 74 (v := ?_) rfl rfl (by kernel_rfl) (by kernel_rfl) (by kernel_rfl) (fun _ _ _ h => h) (by rfl) (by assumption) ?_ ?_
          rotate_left
          · (intro w hSw; (try dsimp only at hSw); go_simp); try (with_reducible rfl)
          try simp only [Act.put, List.setIfInBounds_toArray, List.set_cons_zero, List.set_cons_succ]
          refine regH_take 11 76 (v := ?_) rfl rfl (by kernel_rfl) (by kernel_rfl) (by kernel_rfl) (fun _ _ _ h => h) (by rfl) (by assumption) ?_ ?_
          rotate_left
          · (intro w hSw; (try dsimp only at hSw); go_simp); try (with_reducible rfl)
          try simp only [Act.put, List.setIfInBounds_toArray, List.set_cons_zero, List.set_cons_succ]
          refine regH_take 12 77 (v := ?_) rfl rfl (by kernel_rfl) (by kernel_rfl) (by kernel_rfl) (fun _ _ _ h => h) (by rfl) (by assumption) ?_ ?_
          rotate_left
          · (intro w hSw; (try dsimp only at hSw); go_simp); try (with_reducible rfl)
          try simp only [Act.put, List.setIfInBounds_toArray, List.set_cons_zero, List.set_cons_succ]
          refine wpAnyH_ready (rs := [10]) (by kernel_rfl) (by simp) ?_
          refine AllReadyH.cons rfl (fun K hK => ?_) AllReadyH.nil
          go_simp
          ((with_reducible refine (D4.out _).mono ?_); rintro e wb ⟨vu, rfl, hTu, mwb⟩; have Kwb : Kept wl wb := Kwa.then mwb; have Qwb : wb.cell? ⟨g, 0, none⟩ = some (.string x) := (mwb.cell (p := ⟨g, 0, none⟩) (Nat.lt_of_lt_of_le HGL.out Kwa.size) (fun e => e)).trans Qwa)
          try (go_wp2_with fail)
          refine hK.out _ _ ?_ (fun hHeld => ?_)
          · (try dsimp only); first | exact Q0 | exact Qwa | exact Qwb | exact Qwc | exact Qwd | exact Qwe | exact Qwf | exact Qwg
          clear hK K
          try simp only [Act.put, List.setIfInBounds_toArray, List.set_cons_zero, List.set_cons_succ]
          refine wpAnyH_ready (rs := [13]) (by kernel_rfl) (by simp) ?_
          refine AllReadyH.cons rfl (fun K hK => ?_) AllReadyH.nil
          go_simp
          ((with_reducible refine (D5.out _ _ _ hTu.rd (TAILRD.out.kept Kwb (fun _ _ e => e))).mono ?_); rintro e wc ⟨rfl, mwc⟩; have Kwc : Kept wl wc := Kwb.then mwc; have Qwc : wc.cell? ⟨g, 0, none⟩ = some (.string x) := (mwc.cell (p := ⟨g, 0, none⟩) (Nat.lt_of_lt_of_le HGL.out Kwb.size) (fun e => e)).trans Qwb)
          try (go_wp2_with fail)
          refine hK.out _ _ ?_ (fun hHeld => ?_)
          · (try dsimp only); first | exact Q0 | exact Qwa | exact Qwb | exact Qwc | exact Qwd | exact Qwe | exact Qwf | exact Qwg
          clear hK K
          try simp only [Act.put, List.setIfInBounds_toArray, List.set_cons_zero, List.set_cons_succ]
          refine regH_take 14 79 (v := ?_) rfl rfl (by kernel_rfl) (by kernel_rfl) (by kernel_rfl) (fun _ _ _ h => h) (by rfl) (by assumption) ?_ ?_
          rotate_left
          · (intro w hSw; (try dsimp only at hSw); go_simp); try (with_reducible rfl)
          try simp only [Act.put, List.setIfInBounds_toArray, List.set_cons_zero, List.set_cons_succ]
          refine regH_take 15 80 (v := ?_) rfl rfl (by kernel_rfl) (by kernel_rfl) (by kernel_rfl) (fun _ _ _ h => h) (by rfl) (by assumption) ?_ ?_
          rotate_left
          · (intro w hSw; (try dsimp only at hSw); go_simp); try (with_reducible rfl)
          try simp only [Act.put, List.setIfInBounds_toArray, List.set_cons_zero, List.set_cons_succ]
          refine regH_take 16 81 (v := ?_) rfl rfl (by kernel_rfl) (by kernel_rfl) (by kernel_rfl) (fun _ _ _ h => h) (by rfl) (by assumption) ?_ ?_
          rotate_left
          · (intro w hSw; (try dsimp only at hSw); go_simp); try (with_reducible rfl)
          try simp only [Act.put, List.setIfInBounds_toArray, List.set_cons_zero, List.set_cons_succ]
          refine regH_take 17 82 (v := ?_) rfl rfl (by kernel_rfl) (by kernel_rfl) (by kernel_rfl) (fun _ _ _ h => h) (by rfl) (by assumption) ?_ ?_
          rotate_left
          · (intro w hSw; (try dsimp only at hSw); go_simp); try (with_reducible rfl)
          try simp only [Act.put, List.setIfInBounds_toArray, List.set_cons_zero, List.set_cons_succ]
          refine regH_take 18 83 (v := ?_) rfl rfl (by kernel_rfl) (by kernel_rfl) (by kernel_rfl) (fun _ _ _ h => h) (by rfl) (by assumption) ?_ ?_
          rotate_left
          · (intro w hSw; (try dsimp only at hSw); go_simp); try (with_reducible rfl)
          try simp only [Act.put, List.setIfInBounds_toArray, List.set_cons_zero, List.set_cons_succ]
          refine wpAnyH_ready (rs := [19]) (by kernel_rfl) (by simp) ?_
          refine AllReadyH.cons rfl (fun K hK => ?_) AllReadyH.nil
          go_simp
          ((with_reducible refine (D6.out _).mono ?_); rintro e wd ⟨rfl, mwd⟩; have Kwd : Kept wl wd := Kwc.then mwd; have Qwd : wd.cell? ⟨g, 0, none⟩ = some (.string x) := (mwd.cell (p := ⟨g, 0, none⟩) (Nat.lt_of_lt_of_le HGL.out Kwc.size) (fun e => e)).trans Qwc)
          try (go_wp2_with fail)
          refine hK.out _ _ ?_ (fun hHeld => ?_)
          · (try dsimp only); first | exact Q0 | exact Qwa | exact Qwb | exact Qwc | exact Qwd | exact Qwe | exact Qwf | exact Qwg
          clear hK K
          try simp only [Act.put, List.setIfInBounds_toArray, List.set_cons_zero, List.set_cons_succ]
          refine regH_take 20 85 (v := ?_) rfl rfl (by kernel_rfl) (by kernel_rfl) (by kernel_rfl) (fun _ _ _ h => h) (by rfl) (by assumption) ?_ ?_
          rotate_left
          · (intro w hSw; (try dsimp only at hSw); go_simp); try (with_reducible rfl)
          try simp only [Act.put, List.setIfInBounds_toArray, List.set_cons_zero, List.set_cons_succ]
          refine regH_take 21 86 (v := ?_) rfl rfl (by kernel_rfl) (by kernel_rfl) (by kernel_rfl) (fun _ _ _ h => h) (by rfl) (by assumption) ?_ ?_
          rotate_left
          · (intro w hSw; (try dsimp only at hSw); go_simp); try (with_reducible rfl)
          try simp only [Act.put, List.setIfInBounds_toArray, List.set_cons_zero, List.set_cons_succ]
          refine regH_take 22 87 (v := ?_) rfl rfl (by kernel_rfl) (by kernel_rfl) (by kernel_rfl) (fun _ _ _ h => h) (by rfl) (by assumption) ?_ ?_
          rotate_left
          · (intro w hSw; (try dsimp only at hSw); go_simp); try (with_reducible rfl)
          try simp only [Act.put, List.setIfInBounds_toArray, List.set_cons_zero, List.set_cons_succ]
          refine regH_take 23 88 (v := ?_) rfl rfl (by kernel_rfl) (by kernel_rfl) (by kernel_rfl) (fun _ _ _ h => h) (by rfl) (by assumption) ?_ ?_
          rotate_left
          · (intro w hSw; (try dsimp only at hSw); go_simp); try (with_reducible rfl)
          try simp only [Act.put, List.setIfInBounds_toArray, List.set_cons_zero, List.set_cons_succ]
          refine regH_take 24 89 (v := ?_) rfl rfl (by kernel_rfl) (by kernel_rfl) (by kernel_rfl) (fun _ _ _ h => h) (by rfl) (by assumption) ?_ ?_
          rotate_left
          · (intro w hSw; (try dsimp only at hSw); go_simp); try (with_reducible rfl)
          try simp only [Act.put, List.setIfInBounds_toArray, List.set_cons_zero, List.set_cons_succ]
          refine wpAnyH_ready (rs := [25]) (by kernel_rfl) (by simp) ?_
          refine AllReadyH.cons rfl (fun K hK => ?_) AllReadyH.nil
          go_simp
          ((with_reducible refine (D7.out _).mono ?_); rintro e we ⟨rfl, mwe⟩; have Kwe : Kept wl we := Kwd.then mwe; have Qwe : we.cell? ⟨g, 0, none⟩ = some (.string x) := (mwe.cell (p := ⟨g, 0, none⟩) (Nat.lt_of_lt_of_le HGL.out Kwd.size) (fun e => e)).trans Qwd)
          try (go_wp2_with fail)
          refine hK.out _ _ ?_ (fun hHeld => ?_)
          · (try dsimp only); first | exact Q0 | exact Qwa | exact Qwb | exact Qwc | exact Qwd | exact Qwe | exact Qwf | exact Qwg
          clear hK K
          try simp only [Act.put, List.setIfInBounds_toArray, List.set_cons_zero, List.set_cons_succ]
          refine regH_take 26 91 (v := ?_) rfl rfl (by kernel_rfl) (by kernel_rfl) (by kernel_rfl) (fun _ _ _ h => h) (by rfl) (by assumption) ?_ ?_
          rotate_left
          · (intro w hSw; (try dsimp only at hSw); go_simp); try (with_reducible rfl)
          try simp only [Act.put, List.setIfInBounds_toArray, List.set_cons_zero, List.set_cons_succ]
          refine regH_take 27 92 (v := ?_) rfl rfl (by kernel_rfl) (by kernel_rfl) (by kernel_rfl) (fun _ _ _ h => h) (by rfl) (by assumption) ?_ ?_
          rotate_left
          · (intro w hSw; (try dsimp only at hSw); go_simp); try (with_reducible rfl)
          try simp only [Act.put, List.setIfInBounds_toArray, List.set_cons_zero, List.set_cons_succ]
          refine regH_take 28 93 (v := ?_) rfl rfl (by kernel_rfl) (by kernel_rfl) (by kernel_rfl) (fun _ _ _ h => h) (by rfl) (by assumption) ?_ ?_
          rotate_left
          · (intro w hSw; (try dsimp only at hSw); go_simp); try (with_reducible rfl)
          try simp only [Act.put, List.setIfInBounds_toArray, List.set_cons_zero, List.set_cons_succ]
          refine regH_take 29 94 (v := ?_) rfl rfl (by kernel_rfl) (by kernel_rfl) (by kernel_rfl) (fun _ _ _ h => h) (by rfl) (by assumption) ?_ ?_
          rotate_left
          · (intro w hSw; (try dsimp only at hSw); go_simp); try (with_reducible rfl)
          try simp only [Act.put, List.setIfInBounds_toArray, List.set_cons_zero, List.set_cons_succ]
          refine wpAnyH_ready (rs := [30]) (by kernel_rfl) (by simp) ?_
          refine AllReadyH.cons rfl (fun K hK => ?_) AllReadyH.nil
          go_simp
          ((with_reducible refine (D8.out _).mono ?_); rintro e wf ⟨rfl, mwf⟩; have Kwf : Kept wl wf := Kwe.then mwf; have Qwf : wf.cell? ⟨g, 0, none⟩ = some (.string x) := (mwf.cell (p := ⟨g, 0, none⟩) (Nat.lt_of_lt_of_le HGL.out Kwe.size) (fun e => e)).trans Qwe)
          try (go_wp2_with fail)
          refine hK.out _ _ ?_ (fun hHeld => ?_)
          · (try dsimp only); first | exact Q0 | exact Qwa | exact Qwb | exact Qwc | exact Qwd | exact Qwe | exact Qwf | exact Qwg
          clear hK K
          try simp only [Act.put, List.setIfInBounds_toArray, List.set_cons_zero, List.set_cons_succ]
          refine regH_take 31 96 (v := ?_) rfl rfl (by kernel_rfl) (by kernel_rfl) (by kernel_rfl) (fun _ _ _ h => h) (by rfl) (by assumption) ?_ ?_
          rotate_left
          · (intro w hSw; (try dsimp only at hSw); go_simp); try (with_reducible rfl)
          try simp only [Act.put, List.setIfInBounds_toArray, List.set_cons_zero, List.set_cons_succ]
          refine regH_take 32 97 (v := ?_) rfl rfl (by kernel_rfl) (by kernel_rfl) (by kernel_rfl) (fun _ _ _ h => h) (by rfl) (by assumption) ?_ ?_
          rotate_left
          · (intro w hSw; (try dsimp only at hSw); go_simp); try (with_reducible rfl)
          try simp only [Act.put, List.setIfInBounds_toArray, List.set_cons_zero, List.set_cons_succ]
          refine regH_take 33 98 (v := ?_) rfl rfl (by kernel_rfl) (by kernel_rfl) (by kernel_rfl) (fun _ _ _ h => h) (by rfl) (by assumption) ?_ ?_
          rotate_left
          · (intro w hSw; (try dsimp only at hSw); go_simp); try (with_reducible rfl)
          try simp only [Act.put, List.setIfInBounds_toArray, List.set_cons_zero, List.set_cons_succ]
          refine wpAnyH_ready (rs := [34]) (by kernel_rfl) (by simp) ?_
          refine AllReadyH.cons rfl (fun K hK => ?_) AllReadyH.nil
          go_simp
          ((with_reducible refine (D9.out _).mono ?_); rintro e wg ⟨rfl, mwg⟩; have Kwg : Kept wl wg := Kwf.then mwg; have Qwg : wg.cell? ⟨g, 0, none⟩ = some (.string x) := (mwg.cell (p := ⟨g, 0, none⟩) (Nat.lt_of_lt_of_le HGL.out Kwf.size) (fun e => e)).trans Qwf)
          try (go_wp2_with fail)
          refine hK.out _ _ ?_ (fun hHeld => ?_)
          · (try dsimp only); first | exact Q0 | exact Qwa | exact Qwb | exact Qwc | exact Qwd | exact Qwe | exact Qwf | exact Qwg
          clear hK K
          try simp only [Act.put, List.setIfInBounds_toArray, List.set_cons_zero, List.set_cons_succ]
          refine regH_take 35 100 (v := ?_) rfl rfl (by kernel_rfl) (by kernel_rfl) (by kernel_rfl) (fun _ _ _ h => h) (by rfl) (by assumption) ?_ ?_
          rotate_left
          · (intro w hSw; (try dsimp only at hSw); go_simp); try (with_reducible rfl)
          try simp only [Act.put, List.setIfInBounds_toArray, List.set_cons_zero, List.set_cons_succ]
          refine regH_take 36 101 (v := ?_) rfl rfl (by kernel_rfl) (by kernel_rfl) (by kernel_rfl) (fun _ _ _ h => h) (by rfl) (by assumption) ?_ ?_
          rotate_left
          · (intro w hSw; (try dsimp only at hSw); go_simp); try (with_reducible rfl)
          try simp only [Act.put, List.setIfInBounds_toArray, List.set_cons_zero, List.set_cons_succ]
          refine regH_take 37 102 (v := ?_) rfl rfl (by kernel_rfl) (by kernel_rfl) (by kernel_rfl) (fun _ _ _ h => h) (by rfl) (by assumption) ?_ ?_
          rotate_left
          · (intro w hSw; (try dsimp only at hSw); go_simp); try (with_reducible rfl)
          try simp only [Act.put, List.setIfInBounds_toArray, List.set_cons_zero, List.set_cons_succ]
          refine regH_take 38 103 (v := ?_) rfl rfl (by kernel_rfl) (by kernel_rfl) (by kernel_rfl) (fun _ _ _ h => h) (by rfl) (by assumption) ?_ ?_
          rotate_left
          · (intro w hSw; (try dsimp only at hSw); go_simp); try (with_reducible rfl)
          try simp only [Act.put, List.setIfInBounds_toArray, List.set_cons_zero, List.set_cons_succ]
          refine regH_take 39 104 (v := ?_) rfl rfl (by kernel_rfl) (by kernel_rfl) (by kernel_rfl) (fun _ _ _ h => h) (by rfl) (by assumption) ?_ ?_
          rotate_left
          · (intro w hSw; (try dsimp only at hSw); go_simp); try (with_reducible rfl)
          try simp only [Act.put, List.setIfInBounds_toArray, List.set_cons_zero, List.set_cons_succ]
          refine regH_take 40 105 (v := ?_) rfl rfl (by kernel_rfl) (by kernel_rfl) (by kernel_rfl) (fun _ _ _ h => h) (by rfl) (by assumption) ?_ ?_
          rotate_left
          · (intro w hSw; (try dsimp only at hSw); go_simp); try (with_reducible rfl)
          try simp only [Act.put, List.setIfInBounds_toArray, List.set_cons_zero, List.set_cons_succ]
          refine regH_take 41 106 (v := ?_) rfl rfl (by kernel_rfl) (by kernel_rfl) (by kernel_rfl) (fun _ _ _ h => h) (by rfl) (by assumption) ?_ ?_
          rotate_left
          · (intro w hSw; (try dsimp only at hSw); go_simp); try (with_reducible rfl)
          try simp only [Act.put, List.setIfInBounds_toArray, List.set_cons_zero, List.set_cons_succ]
          refine regH_take 42 107 (v := ?_) rfl rfl (by kernel_rfl) (by kernel_rfl) (by kernel_rfl) (fun _ _ _ h => h) (by rfl) (by assumption) ?_ ?_
          rotate_left
          · (intro w hSw; (try dsimp only at hSw); go_simp); try (with_reducible rfl)
          try simp only [Act.put, List.setIfInBounds_toArray, List.set_cons_zero, List.set_cons_succ]
          refine regH_take 43 108 (v := ?_) rfl rfl (by kernel_rfl) (by kernel_rfl) (by kernel_rfl) (fun _ _ _ h => h) (by rfl) (by assumption) ?_ ?_
          rotate_left
          · (intro w hSw; (try dsimp only at hSw); go_simp); try (with_reducible rfl)
          try simp only [Act.put, List.setIfInBounds_toArray, List.set_cons_zero, List.set_cons_succ]
          refine regH_take 44 109 (v := ?_) rfl rfl (by kernel_rfl) (by kernel_rfl) (by kernel_rfl) (fun _ _ _ h => h) (by rfl) (by assumption) ?_ ?_
          rotate_left
          · (intro w hSw; (try dsimp only at hSw); go_simp); try (with_reducible rfl)
          try simp only [Act.put, List.setIfInBounds_toArray, List.set_cons_zero, List.set_cons_succ]
          refine regH_take 45 110 (v := ?_) rfl rfl (by kernel_rfl) (by kernel_rfl) (by kernel_rfl) (fun _ _ _ h => h) (by rfl) (by assumption) ?_ ?_
          rotate_left
          · (intro w hSw; (try dsimp only at hSw); go_simp); try (with_reducible rfl)
          try simp only [Act.put, List.setIfInBounds_toArray, List.set_cons_zero, List.set_cons_succ]
          refine regH_take 46 111 (v := ?_) rfl rfl (by kernel_rfl) (by kernel_rfl) (by kernel_rfl) (fun _ _ _ h => h) (by rfl) (by assumption) ?_ ?_
          rotate_left
          · (intro w hSw; (try dsimp only at hSw); go_simp); try (with_reducible rfl)
          try simp only [Act.put, List.setIfInBounds_toArray, List.set_cons_zero, List.set_cons_succ]
          refine regH_take 47 112 (v := ?_) rfl rfl (by kernel_rfl) (by kernel_rfl) (by kernel_rfl) (fun _ _ _ h => h) (by rfl) (by assumption) ?_ ?_
          rotate_left
          · (intro w hSw; (try dsimp only at hSw); go_simp); try (with_reducible rfl)
          try simp only [Act.put, List.setIfInBounds_toArray, List.set_cons_zero, List.set_cons_succ]
          refine regH_take 48 113 (v := ?_) rfl rfl (by kernel_rfl) (by kernel_rfl) (by kernel_rfl) (fun _ _ _ h => h) (by rfl) (by assumption) ?_ ?_
          rotate_left
          · (intro w hSw; (try dsimp only at hSw); go_simp); try (with_reducible rfl)
          try simp only [Act.put, List.setIfInBounds_toArray, List.set_cons_zero, List.set_cons_succ]
          refine regH_take 49 114 (v := ?_) rfl rfl (by kernel_rfl) (by kernel_rfl) (by kernel_rfl) (fun _ _ _ h => h) (by rfl) (by assumption) ?_ ?_
          rotate_left
          · (intro w hSw; (try dsimp only at hSw); go_simp); try (with_reducible rfl)
          try simp only [Act.put, List.setIfInBounds_toArray, List.set_cons_zero, List.set_cons_succ]
          refine regH_take 50 115 (v := ?_) rfl rfl (by kernel_rfl) (by kernel_rfl) (by kernel_rfl) (fun _ _ _ h => h) (by rfl) (by assumption) ?_ ?_
          rotate_left
          · (intro w hSw; (try dsimp only at hSw); go_simp); try (with_reducible rfl)
          try simp only [Act.put, List.setIfInBounds_toArray, List.set_cons_zero, List.set_cons_succ]
          refine wpAnyH_done (by kernel_rfl) ?_ _
          have HKK := Lib.hid Kwg
          clear K0 Kwa Kwb Kwc Kwd Kwe Kwf Kwg mwa mwb mwc mwd mwe mwf mwg Q0 Qwa Qwb Qwc Qwd Qwe Qwf Qwg hTu
          go_wp2_with fail
          go_roundg ks.length
          case measure => have := HK.out; simp only [List.length_cons] at this; omega
          case rel => exact ⟨j + 1, u, ks, by go_num, rfl, HP.out, rfl, by have := HJ.out; simp only [List.length_cons] at this; omega, M.out.then HKK.out⟩
      · have TAILRD := Lib.hid (show Rd wl 1 (.slice (some ⟨g, 1, none⟩) (n2 - 1) (c - 1)) L'.length (strVals L') from rd_cast (rd_tail (n := n2) (k := 1) (m := n2 - 1) (rd_cast hTT (by rw [hn2]; simp)) (by omega) (c - 1)) (by omega))
        have i5 : 1 < c := by omega
        rcases hcase with hcf | ⟨hct, hct2⟩
        · have D8 := Lib.hid (within_to u z false (by omega) (by omega) hcf)
          clear hT hTT hcf hcap hn2 hxs
          go_wp2_with fail
          refine wp_region_held_drew (S := (fun w' => w'.cell? ⟨g, 0, none⟩ = some (.string x))) (by kernel_rfl) ?_ (fun hHeld => ?_)
          · (try dsimp only); first | exact Q0 | exact Qwa | exact Qwb | exact Qwc | exact Qwd | exact Qwe | exact Qwf | exact Qwg
          refine regH_take 0 65 (v := ?_) rfl rfl (by kernel_rfl) (by kernel_rfl) (by kernel_rfl) (fun _ _ _ h => h) (by rfl) (by assumption) ?_ ?_
          rotate_left
          · (intro w hSw; (try dsimp only at hSw); go_simp); try (with_reducible rfl)
          try simp only [Act.put, List.setIfInBounds_toArray, List.set_cons_zero, List.set_cons_succ]
          refine wpAnyH_ready (rs := [1]) (by kernel_rfl) (by simp) ?_
          refine AllReadyH.cons rfl (fun K hK => ?_) AllReadyH.nil
          go_simp
          ((with_reducible refine (D3.out _).mono ?_); rintro e wa ⟨rfl, mwa⟩; have Kwa : Kept wl wa := K0.then mwa; have Qwa : wa.cell? ⟨g, 0, none⟩ = some (.string x) := (mwa.cell (p := ⟨g, 0, none⟩) (Nat.lt_of_lt_of_le HGL.out K0.size) (fun e => e)).trans Q0)
          try (go_wp2_with fail)
          refine hK.out _ _ ?_ (fun hHeld => ?_)
          · (try dsimp only); first | exact Q0 | exact Qwa | exact Qwb | exact Qwc | exact Qwd | exact Qwe | exact Qwf | exact Qwg
          clear hK K
          try simp only [Act.put, List.setIfInBounds_toArray, List.set_cons_zero, List.set_cons_succ]
          refine regH_take 2 67 (v := ?_) rfl rfl (by kernel_rfl) (by kernel_rfl) (by kernel_rfl) (fun _ _ _ h => h) (by rfl) (by assumption) ?_ ?_
          rotate_left
          · (intro w hSw; (try dsimp only at hSw); go_simp); try (with_reducible rfl)
          try simp only [Act.put, List.setIfInBounds_toArray, List.set_cons_zero, List.set_cons_succ]
          refine regH_take 3 68 (v := ?_) rfl rfl (by kernel_rfl) (by kernel_rfl) (by kernel_rfl) (fun _ _ _ h => h) (by rfl) (by assumption) ?_ ?_
          rotate_left
          · (intro w hSw; (try dsimp only at hSw); go_simp); try (with_reducible rfl)
          try simp only [Act.put, List.setIfInBounds_toArray, List.set_cons_zero, List.set_cons_succ]
          refine regH_take 4 69 (v := ?_) rfl rfl (by kernel_rfl) (by kernel_rfl) (by kernel_rfl) (fun _ _ _ h => h) (by rfl) (by assumption) ?_ ?_
          rotate_left
          · (intro w hSw; (try dsimp only at hSw); go_simp); try (with_reducible rfl)
          try simp only [Act.put, List.setIfInBounds_toArray, List.set_cons_zero, List.set_cons_succ]
          refine regH_take 5 70 (v := ?_) rfl rfl (by kernel_rfl) (by kernel_rfl) (by kernel_rfl) (fun _ _ _ h => h) (by rfl) (by assumption) ?_ ?_
          rotate_left
          · (intro w hSw; (try dsimp only at hSw); go_simp); try (with_reducible rfl)
          try simp only [Act.put, List.setIfInBounds_toArray, List.set_cons_zero, List.set_cons_succ]
          refine regH_take 6 71 (v := ?_) rfl rfl (by kernel_rfl) (by kernel_rfl) (by kernel_rfl) (fun _ _ _ h => h) (by rfl) (by assumption) ?_ ?_
          rotate_left
          · (intro w hSw; (try dsimp only at hSw); go_simp); try (with_reducible rfl)
          try simp only [Act.put, List.setIfInBounds_toArray, List.set_cons_zero, List.set_cons_succ]
          refine regH_take 7 72 (v := ?_) rfl rfl (by kernel_rfl) (by kernel_rfl) (by kernel_rfl) (fun _ _ _ h => h) (by rfl) (by assumption) ?_ ?_
          rotate_left
          · (intro w hSw; (try dsimp only at hSw); go_simp); try (with_reducible rfl)
          try simp only [Act.put, List.setIfInBounds_toArray, List.set_cons_zero, List.set_cons_succ]
          refine regH_take 8 73 (v := ?_) rfl rfl (by kernel_rfl) (by kernel_rfl) (by kernel_rfl) (fun _ _ _ h => h) (by rfl) (by assumption) ?_ ?_
          rotate_left
          · (intro w hSw; (try dsimp only at hSw); go_simp); try (with_reducible rfl)
          try simp only [Act.put, List.setIfInBounds_toArray, List.set_cons_zero, List.set_cons_succ]
          refine regH_take 9 74 (v := ?_) rfl rfl (by kernel_rfl) (by kernel_rfl) (by kernel_rfl) (fun _ _ _ h => h) (by rfl) (by assumption) ?_ ?_
          rotate_left
          · (intro w hSw; (try dsimp only at hSw); go_simp); try (with_reducible rfl)
          try simp only [Act.put, List.setIfInBounds_toArray, List.set_cons_zero, List.set_cons_succ]
          refine regH_take 11 76 (v := ?_) rfl rfl (by kernel_rfl) (by kernel_rfl) (by kernel_rfl) (fun _ _ _ h => h) (by rfl) (by assumption) ?_ ?_
          rotate_left
          · (intro w hSw; (try dsimp only at hSw); go_simp); try (with_reducible rfl)
          try simp only [Act.put, List.setIfInBounds_toArray, List.set_cons_zero, List.set_cons_succ]
          refine regH_take 12 77 (v := ?_) rfl rfl (by kernel_rfl) (by kernel_rfl) (by kernel_rfl) (fun _ _ _ h => h) (by rfl) (by assumption) ?_ ?_
          rotate_left
          · (intro w hSw; (try dsimp only at hSw); go_simp); try (with_reducible rfl)
          try simp only [Act.put, List.setIfInBounds_toArray, List.set_cons_zero, List.set_cons_succ]
          refine wpAnyH_ready (rs := [10]) (by kernel_rfl) (by simp) ?_
          refine AllReadyH.cons rfl (fun K hK => ?_) AllReadyH.nil
          go_simp
          ((with_reducible refine (D4.out _).mono ?_); rintro e wb ⟨vu, rfl, hTu, mwb⟩; have Kwb : Kept wl wb := Kwa.then mwb; have Qwb : wb.cell? ⟨g, 0, none⟩ = some (.string x) := (mwb.cell (p := ⟨g, 0, none⟩) (Nat.lt_of_lt_of_le HGL.out Kwa.size) (fun e => e)).trans Qwa)
          try (go_wp2_with fail)
          refine hK.out _ _ ?_ (fun hHeld => ?_)
          · (try dsimp only); first | exact Q0 | exact Qwa | exact Qwb | exact Qwc | exact Qwd | exact Qwe | exact Qwf | exact Qwg
          clear hK K
          try simp only [Act.put, List.setIfInBounds_toArray, List.set_cons_zero, List.set_cons_succ]
          refine wpAnyH_ready (rs := [13]) (by kernel_rfl) (by simp) ?_
          refine AllReadyH.cons rfl (fun K hK => ?_) AllReadyH.nil
          go_simp
          ((with_reducible refine (D5.out _ _ _ hTu.rd (TAILRD.out.kept Kwb (fun _ _ e => e))).mono ?_); rintro e wc ⟨rfl, mwc⟩; have Kwc : Kept wl wc := Kwb.then mwc; have Qwc : wc.cell? ⟨g, 0, none⟩ = some (.string x) := (mwc.cell (p := ⟨g, 0, none⟩) (Nat.lt_of_lt_of_le HGL.out Kwb.size) (fun e => e)).trans Qwb)
          try (go_wp2_with fail)
          refine hK.out _ _ ?_ (fun hHeld => ?_)
          · (try dsimp only); first | exact Q0 | exact Qwa | exact Qwb | exact Qwc | exact Qwd | exact Qwe | exact Qwf | exact Qwg
          clear hK K
          try simp only [Act.put, List.setIfInBounds_toArray, List.set_cons_zero, List.set_cons_succ]
          refine regH_take 14 79 (v := ?_) rfl rfl (by kernel_rfl) (by kernel_rfl) (by kernel_rfl) (fun _ _ _ h => h) (by rfl) (by assumption) ?_ ?_
          rotate_left
          · (intro w hSw; (try dsimp only at hSw); go_simp); try (with_reducible rfl)
          try simp only [Act.put, List.setIfInBounds_toArray, List.set_cons_zero, List.set_cons_succ]
          refine regH_take 15 80 (v := ?_) rfl rfl (by kernel_rfl) (by kernel_rfl) (by kernel_rfl) (fun _ _ _ h => h) (by rfl) (by assumption) ?_ ?_
          rotate_left
          · (intro w hSw; (try dsimp only at hSw); go_simp); try (with_reducible rfl)
          try simp only [Act.put, List.setIfInBounds_toArray, List.set_cons_zero, List.set_cons_succ]
          refine regH_take 16 81 (v := ?_) rfl rfl (by kernel_rfl) (by kernel_rfl) (by kernel_rfl) (fun _ _ _ h => h) (by rfl) (by assumption) ?_ ?_
          rotate_left
          · (intro w hSw; (try dsimp only at hSw); go_simp); try (with_reducible rfl)
          try simp only [Act.put, List.setIfInBounds_toArray, List.set_cons_zero, List.set_cons_succ]
          refine regH_take 17 82 (v := ?_) rfl rfl (by kernel_rfl) (by kernel_rfl) (by kernel_rfl) (fun _ _ _ h => h) (by rfl) (by assumption) ?_ ?_
          rotate_left
          · (intro w hSw; (try dsimp only at hSw); go_simp); try (with_reducible rfl)
          try simp only [Act.put, List.setIfInBounds_toArray, List.set_cons_zero, List.set_cons_succ]
          refine regH_take 18 83 (v := ?_) rfl rfl (by kernel_rfl) (by kernel_rfl) (by kernel_rfl) (fun _ _ _ h => h) (by rfl) (by assumption) ?_ ?_
          rotate_left
          · (intro w hSw; (try dsimp only at hSw); go_simp); try (with_reducible rfl)
          try simp only [Act.put, List.setIfInBounds_toArray, List.set_cons_zero, List.set_cons_succ]
          refine wpAnyH_ready (rs := [19]) (by kernel_rfl) (by simp) ?_
          refine AllReadyH.cons rfl (fun K hK => ?_) AllReadyH.nil
          go_simp
          ((with_reducible refine (D6.out _).mono ?_); rintro e wd ⟨rfl, mwd⟩; have Kwd : Kept wl wd := Kwc.then mwd; have Qwd : wd.cell? ⟨g, 0, none⟩ = some (.string x) := (mwd.cell (p := ⟨g, 0, none⟩) (Nat.lt_of_lt_of_le HGL.out Kwc.size) (fun e => e)).trans Qwc)
          try (go_wp2_with fail)
          refine hK.out _ _ ?_ (fun hHeld => ?_)
          · (try dsimp only); first | exact Q0 | exact Qwa | exact Qwb | exact Qwc | exact Qwd | exact Qwe | exact Qwf | exact Qwg
          clear hK K
          try simp only [Act.put, List.setIfInBounds_toArray, List.set_cons_zero, List.set_cons_succ]
          refine regH_take 20 85 (v := ?_) rfl rfl (by kernel_rfl) (by kernel_rfl) (by kernel_rfl) (fun _ _ _ h => h) (by rfl) (by assumption) ?_ ?_
          rotate_left
          · (intro w hSw; (try dsimp only at hSw); go_simp); try (with_reducible rfl)
          try simp only [Act.put, List.setIfInBounds_toArray, List.set_cons_zero, List.set_cons_succ]
          refine regH_take 21 86 (v := ?_) rfl rfl (by kernel_rfl) (by kernel_rfl) (by kernel_rfl) (fun _ _ _ h => h) (by rfl) (by assumption) ?_ ?_
          rotate_left
          · (intro w hSw; (try dsimp only at hSw); go_simp); try (with_reducible rfl)
          try simp only [Act.put, List.setIfInBounds_toArray, List.set_cons_zero, List.set_cons_succ]
          refine regH_take 22 87 (v := ?_) rfl rfl (by kernel_rfl) (by kernel_rfl) (by kernel_rfl) (fun _ _ _ h => h) (by rfl) (by assumption) ?_ ?_
          rotate_left
          · (intro w hSw; (try dsimp only at hSw); go_simp); try (with_reducible rfl)
          try simp only [Act.put, List.setIfInBounds_toArray, List.set_cons_zero, List.set_cons_succ]
          refine regH_take 23 88 (v := ?_) rfl rfl (by kernel_rfl) (by kernel_rfl) (by kernel_rfl) (fun _ _ _ h => h) (by rfl) (by assumption) ?_ ?_
          rotate_left
          · (intro w hSw; (try dsimp only at hSw); go_simp); try (with_reducible rfl)
          try simp only [Act.put, List.setIfInBounds_toArray, List.set_cons_zero, List.set_cons_succ]
          refine regH_take 24 89 (v := ?_) rfl rfl (by kernel_rfl) (by kernel_rfl) (by kernel_rfl) (fun _ _ _ h => h) (by rfl) (by assumption) ?_ ?_
          rotate_left
          · (intro w hSw; (try dsimp only at hSw); go_simp); try (with_reducible rfl)
          try simp only [Act.put, List.setIfInBounds_toArray, List.set_cons_zero, List.set_cons_succ]
          refine wpAnyH_ready (rs := [25]) (by kernel_rfl) (by simp) ?_
          refine AllReadyH.cons rfl (fun K hK => ?_) AllReadyH.nil
          go_simp
          ((with_reducible refine (D7.out _).mono ?_); rintro e we ⟨rfl, mwe⟩; have Kwe : Kept wl we := Kwd.then mwe; have Qwe : we.cell? ⟨g, 0, none⟩ = some (.string x) := (mwe.cell (p := ⟨g, 0, none⟩) (Nat.lt_of_lt_of_le HGL.out Kwd.size) (fun e => e)).trans Qwd)
          try (go_wp2_with fail)
          refine hK.out _ _ ?_ (fun hHeld => ?_)
          · (try dsimp only); first | exact Q0 | exact Qwa | exact Qwb | exact Qwc | exact Qwd | exact Qwe | exact Qwf | exact Qwg
          clear hK K
          try simp only [Act.put, List.setIfInBounds_toArray, List.set_cons_zero, List.set_cons_succ]
          refine regH_take 26 91 (v := ?_) rfl rfl (by kernel_rfl) (by kernel_rfl) (by kernel_rfl) (fun _ _ _ h => h) (by rfl) (by assumption) ?_ ?_
          rotate_left
          · (intro w hSw; (try dsimp only at hSw); go_simp); try (with_reducible rfl)
          try simp only [Act.put, List.setIfInBounds_toArray, List.set_cons_zero, List.set_cons_succ]
          refine regH_take 27 92 (v := ?_) rfl rfl (by kernel_rfl) (by kernel_rfl) (by kernel_rfl) (fun _ _ _ h => h) (by rfl) (by assumption) ?_ ?_
          rotate_left
          · (intro w hSw; (try dsimp only at hSw); go_simp); try (with_reducible rfl)
          try simp only [Act.put, List.setIfInBounds_toArray, List.set_cons_zero, List.set_cons_succ]
          refine regH_take 28 93 (v := ?_) rfl rfl (by kernel_rfl) (by kernel_rfl) (by kernel_rfl) (fun _ _ _ h => h) (by rfl) (by assumption) ?_ ?_
          rotate_left
          · (intro w hSw; (try dsimp only at hSw); go_simp); try (with_reducible rfl)
          try simp only [Act.put, List.setIfInBounds_toArray, List.set_cons_zero, List.set_cons_succ]
          refine regH_take 29 94 (v := ?_) rfl rfl (by kernel_rfl) (by kernel_rfl) (by kernel_rfl) (fun _ _ _ h => h) (by rfl) (by assumption) ?_ ?_
          rotate_left
          · (intro w hSw; (try dsimp only at hSw); go_simp); try (with_reducible rfl)
          try simp only [Act.put, List.setIfInBounds_toArray, List.set_cons_zero, List.set_cons_succ]
          refine wpAnyH_ready (rs := [30]) (by kernel_rfl) (by simp) ?_
          refine AllReadyH.cons rfl (fun K hK => ?_) AllReadyH.nil
          go_simp
          ((with_reducible refine (D8.out _).mono ?_); rintro e wf ⟨rfl, mwf⟩; have Kwf : Kept wl wf := Kwe.then mwf; have Qwf : wf.cell? ⟨g, 0, none⟩ = some (.string x) := (mwf.cell (p := ⟨g, 0, none⟩) (Nat.lt_of_lt_of_le HGL.out Kwe.size) (fun e => e)).trans Qwe)
          try (go_wp2_with fail)
          refine hK.out _ _ ?_ (fun hHeld => ?_)
          · (try dsimp only); first | exact Q0 | exact Qwa | exact Qwb | exact Qwc | exact Qwd | exact Qwe | exact Qwf | exact Qwg
          clear hK K
          try simp only [Act.put, List.setIfInBounds_toArray, List.set_cons_zero, List.set_cons_succ]
          refine regH_take 31 96 (v := ?_) rfl rfl (by kernel_rfl) (by kernel_rfl) (by kernel_rfl) (fun _ _ _ h => h) (by rfl) (by assumption) ?_ ?_
          rotate_left
          · (intro w hSw; (try dsimp only at hSw); go_simp); try (with_reducible rfl)
          try simp only [Act.put, List.setIfInBounds_toArray, List.set_cons_zero, List.set_cons_succ]
          refine regH_skip 32 97 rfl rfl (by kernel_rfl) (by kernel_rfl) (by kernel_rfl) (fun _ _ _ h => h) (by rfl) (by assumption) ?_
          try simp only [Act.put, List.setIfInBounds_toArray, List.set_cons_zero, List.set_cons_succ]
          refine regH_skip 33 98 rfl rfl (by kernel_rfl) (by kernel_rfl) (by kernel_rfl) (fun _ _ _ h => h) (by rfl) (by assumption) ?_
          try simp only [Act.put, List.setIfInBounds_toArray, List.set_cons_zero, List.set_cons_succ]
          refine regH_skip 34 99 rfl rfl (by kernel_rfl) (by kernel_rfl) (by kernel_rfl) (fun _ _ _ h => h) (by rfl) (by assumption) ?_
          try simp only [Act.put, List.setIfInBounds_toArray, List.set_cons_zero, List.set_cons_succ]
          refine regH_skip 35 100 rfl rfl (by kernel_rfl) (by kernel_rfl) (by kernel_rfl) (fun _ _ _ h => h) (by rfl) (by assumption) ?_
          try simp only [Act.put, List.setIfInBounds_toArray, List.set_cons_zero, List.set_cons_succ]
          refine regH_take 36 101 (v := ?_) rfl rfl (by kernel_rfl) (by kernel_rfl) (by kernel_rfl) (fun _ _ _ h => h) (by rfl) (by assumption) ?_ ?_
          rotate_left
          · (intro w hSw; (try dsimp only at hSw); go_simp); try (with_reducible rfl)
          try simp only [Act.put, List.setIfInBounds_toArray, List.set_cons_zero, List.set_cons_succ]
          refine regH_take 37 102 (v := ?_) rfl rfl (by kernel_rfl) (by kernel_rfl) (by kernel_rfl) (fun _ _ _ h => h) (by rfl) (by assumption) ?_ ?_
          rotate_left
          · (intro w hSw; (try dsimp only at hSw); go_simp); try (with_reducible rfl)
          try simp only [Act.put, List.setIfInBounds_toArray, List.set_cons_zero, List.set_cons_succ]
          refine regH_take 38 103 (v := ?_) rfl rfl (by kernel_rfl) (by kernel_rfl) (by kernel_rfl) (fun _ _ _ h => h) (by rfl) (by assumption) ?_ ?_
          rotate_left
          · (intro w hSw; (try dsimp only at hSw); go_simp); try (with_reducible rfl)
          try simp only [Act.put, List.setIfInBounds_toArray, List.set_cons_zero, List.set_cons_succ]
          refine regH_take 39 104 (v := ?_) rfl rfl (by kernel_rfl) (by kernel_rfl) (by kernel_rfl) (fun _ _ _ h => h) (by rfl) (by assumption) ?_ ?_
          rotate_left
          · (intro w hSw; (try dsimp only at hSw); go_simp); try (with_reducible rfl)
          try simp only [Act.put, List.setIfInBounds_toArray, List.set_cons_zero, List.set_cons_succ]
          refine regH_take 40 105 (v := ?_) rfl rfl (by kernel_rfl) (by kernel_rfl) (by kernel_rfl) (fun _ _ _ h => h) (by rfl) (by assumption) ?_ ?_
          rotate_left
          · (intro w hSw; (try dsimp only at hSw); go_simp); try (with_reducible rfl)
          try simp only [Act.put, List.setIfInBounds_toArray, List.set_cons_zero, List.set_cons_succ]
          refine regH_take 41 106 (v := ?_) rfl rfl (by kernel_rfl) (by kernel_rfl) (by kernel_rfl) (fun _ _ _ h => h) (by rfl) (by assumption) ?_ ?_
          rotate_left
          · (intro w hSw; (try dsimp only at hSw); go_simp); try (with_reducible rfl)
          try simp only [Act.put, List.setIfInBounds_toArray, List.set_cons_zero, List.set_cons_succ]
          refine regH_take 42 107 (v := ?_) rfl rfl (by kernel_rfl) (by kernel_rfl) (by kernel_rfl) (fun _ _ _ h => h) (by rfl) (by assumption) ?_ ?_
          rotate_left
          · (intro w hSw; (try dsimp only at hSw); go_simp); try (with_reducible rfl)
          try simp only [Act.put, List.setIfInBounds_toArray, List.set_cons_zero, List.set_cons_succ]
          refine regH_take 43 108 (v := ?_) rfl rfl (by kernel_rfl) (by kernel_rfl) (by kernel_rfl) (fun _ _ _ h => h) (by rfl) (by assumption) ?_ ?_
          rotate_left
          · (intro w hSw; (try dsimp only at hSw); go_simp); try (with_reducible rfl)
          try simp only [Act.put, List.setIfInBounds_toArray, List.set_cons_zero, List.set_cons_succ]
          refine regH_take 44 109 (v := ?_) rfl rfl (by kernel_rfl) (by kernel_rfl) (by kernel_rfl) (fun _ _ _ h => h) (by rfl) (by assumption) ?_ ?_
          rotate_left
          · (intro w hSw; (try dsimp only at hSw); go_simp); try (with_reducible rfl)
          try simp only [Act.put, List.setIfInBounds_toArray, List.set_cons_zero, List.set_cons_succ]
          refine regH_take 45 110 (v := ?_) rfl rfl (by kernel_rfl) (by kernel_rfl) (by kernel_rfl) (fun _ _ _ h => h) (by rfl) (by assumption) ?_ ?_
          rotate_left
          · (intro w hSw; (try dsimp only at hSw); go_simp); try (with_reducible rfl)
          try simp only [Act.put, List.setIfInBounds_toArray, List.set_cons_zero, List.set_cons_succ]
          refine regH_take 46 111 (v := ?_) rfl rfl (by kernel_rfl) (by kernel_rfl) (by kernel_rfl) (fun _ _ _ h => h) (by rfl) (by assumption) ?_ ?_
          rotate_left
          · (intro w hSw; (try dsimp only at hSw); go_simp); try (with_reducible rfl)
          try simp only [Act.put, List.setIfInBounds_toArray, List.set_cons_zero, List.set_cons_succ]
          refine regH_take 47 112 (v := ?_) rfl rfl (by kernel_rfl) (by kernel_rfl) (by kernel_rfl) (fun _ _ _ h => h) (by rfl) (by assumption) ?_ ?_
          rotate_left
          · (intro w hSw; (try dsimp only at hSw); go_simp); try (with_reducible rfl)
          try simp only [Act.put, List.setIfInBounds_toArray, List.set_cons_zero, List.set_cons_succ]
          refine regH_take 48 113 (v := ?_) rfl rfl (by kernel_rfl) (by kernel_rfl) (by kernel_rfl) (fun _ _ _ h => h) (by rfl) (by assumption) ?_ ?_
          rotate_left
          · (intro w hSw; (try dsimp only at hSw); go_simp); try (with_reducible rfl)
          try simp only [Act.put, List.setIfInBounds_toArray, List.set_cons_zero, List.set_cons_succ]
          refine regH_take 49 114 (v := ?_) rfl rfl (by kernel_rfl) (by kernel_rfl) (by kernel_rfl) (fun _ _ _ h => h) (by rfl) (by assumption) ?_ ?_
          rotate_left
          · (intro w hSw; (try dsimp only at hSw); go_simp); try (with_reducible rfl)
          try simp only [Act.put, List.setIfInBounds_toArray, List.set_cons_zero, List.set_cons_succ]
          refine regH_take 50 115 (v := ?_) rfl rfl (by kernel_rfl) (by kernel_rfl) (by kernel_rfl) (fun _ _ _ h => h) (by rfl) (by assumption) ?_ ?_
          rotate_left
          · (intro w hSw; (try dsimp only at hSw); go_simp); try (with_reducible rfl)
          try simp only [Act.put, List.setIfInBounds_toArray, List.set_cons_zero, List.set_cons_succ]
          refine wpAnyH_done (by kernel_rfl) ?_ _
          have HKK := Lib.hid Kwf
          clear K0 Kwa Kwb Kwc Kwd Kwe Kwf mwa mwb mwc mwd mwe mwf Q0 Qwa Qwb Qwc Qwd Qwe Qwf hTu
          go_wp2_with fail
          go_roundg ks.length
          case measure => have := HK.out; simp only [List.length_cons] at this; omega
          case rel => exact ⟨j + 1, u, ks, by go_num, rfl, HP.out, rfl, by have := HJ.out; simp only [List.length_cons] at this; omega, M.out.then HKK.out⟩
        · have D8 := Lib.hid (within_to u z true (by omega) (by omega) hct)
          have D9 := Lib.hid (within_to m z true (by omega) (by omega) hct2)
          clear hT hTT hct hct2 hcap hn2 hxs
          go_wp2_with fail
          refine wp_region_held_drew (S := (fun w' => w'.cell? ⟨g, 0, none⟩ = some (.string x))) (by kernel_rfl) ?_ (fun hHeld => ?_)
          · (try dsimp only); first | exact Q0 | exact Qwa | exact Qwb | exact Qwc | exact Qwd | exact Qwe | exact Qwf | exact Qwg
          refine regH_take 0 65 (v := ?_) rfl rfl (by kernel_rfl) (by kernel_rfl) (by kernel_rfl) (fun _ _ _ h => h) (by rfl) (by assumption) ?_ ?_
          rotate_left
          · (intro w hSw; (try dsimp only at hSw); go_simp); try (with_reducible rfl)
          try simp only [Act.put, List.setIfInBounds_toArray, List.set_cons_zero, List.set_cons_succ]
          refine wpAnyH_ready (rs := [1]) (by kernel_rfl) (by simp) ?_
          refine AllReadyH.cons rfl (fun K hK => ?_) AllReadyH.nil
          go_simp
          ((with_reducible refine (D3.out _).mono ?_); rintro e wa ⟨rfl, mwa⟩; have Kwa : Kept wl wa := K0.then mwa; have Qwa : wa.cell? ⟨g, 0, none⟩ = some (.string x) := (mwa.cell (p := ⟨g, 0, none⟩) (Nat.lt_of_lt_of_le HGL.out K0.size) (fun e => e)).trans Q0)
          try (go_wp2_with fail)
          refine hK.out _ _ ?_ (fun hHeld => ?_)
          · (try dsimp only); first | exact Q0 | exact Qwa | exact Qwb | exact Qwc | exact Qwd | exact Qwe | exact Qwf | exact Qwg
          clear hK K
          try simp only [Act.put, List.setIfInBounds_toArray, List.set_cons_zero, List.set_cons_succ]
          refine regH_take 2 67 (v := ?_) rfl rfl (by kernel_rfl) (by kernel_rfl) (by kernel_rfl) (fun _ _ _ h => h) (by rfl) (by assumption) ?_ ?_
          rotate_left
          · (intro w hSw; (try dsimp only at hSw); go_simp); try (with_reducible rfl)
          try simp only [Act.put, List.setIfInBounds_toArray, List.set_cons_zero, List.set_cons_succ]
          refine regH_take 3 68 (v := ?_) rfl rfl (by kernel_rfl) (by kernel_rfl) (by kernel_rfl) (fun _ _ _ h => h) (by rfl) (by assumption) ?_ ?_
          rotate_left
          · (intro w hSw; (try dsimp only at hSw); go_simp); try (with_reducible rfl)
          try simp only [Act.put, List.setIfInBounds_toArray, List.set_cons_zero, List.set_cons_succ]
          refine regH_take 4 69 (v := ?_) rfl rfl (by kernel_rfl) (by kernel_rfl) (by kernel_rfl) (fun _ _ _ h => h) (by rfl) (by assumption) ?_ ?_
          rotate_left
          · (intro w hSw; (try dsimp only at hSw); go_simp); try (with_reducible rfl)
          try simp only [Act.put, List.setIfInBounds_toArray, List.set_cons_zero, List.set_cons_succ]
          refine regH_take 5 70 (v := ?_) rfl rfl (by kernel_rfl) (by kernel_rfl) (by kernel_rfl) (fun _ _ _ h => h) (by rfl) (by assumption) ?_ ?_
          rotate_left
          · (intro w hSw; (try dsimp only at hSw); go_simp); try (with_reducible rfl)
          try simp only [Act.put, List.setIfInBounds_toArray, List.set_cons_zero, List.set_cons_succ]
          refine regH_take 6 71 (v := ?_) rfl rfl (by kernel_rfl) (by kernel_rfl) (by kernel_rfl) (fun _ _ _ h => h) (by rfl) (by assumption) ?_ ?_
          rotate_left
          · (intro w hSw; (try dsimp only at hSw); go_simp); try (with_reducible rfl)
          try simp only [Act.put, List.setIfInBounds_toArray, List.set_cons_zero, List.set_cons_succ]
          refine regH_take 7 72 (v := ?_) rfl rfl (by kernel_rfl) (by kernel_rfl) (by kernel_rfl) (fun _ _ _ h => h) (by rfl) (by assumption) ?_ ?_
          rotate_left
          · (intro w hSw; (try dsimp only at hSw); go_simp); try (with_reducible rfl)
          try simp only [Act.put, List.setIfInBounds_toArray, List.set_cons_zero, List.set_cons_succ]
          refine regH_take 8 73 (v := ?_) rfl rfl (by kernel_rfl) (by kernel_rfl) (by kernel_rfl) (fun _ _ _ h => h) (by rfl) (by assumption) ?_ ?_
          rotate_left
          · (intro w hSw; (try dsimp only at hSw); go_simp); try (with_reducible rfl)
          try simp only [Act.put, List.setIfInBounds_toArray, List.set_cons_zero, List.set_cons_succ]
          refine regH_take 9 74 (v := ?_) rfl rfl (by kernel_rfl) (by kernel_rfl) (by kernel_rfl) (fun _ _ _ h => h) (by rfl) (by assumption) ?_ ?_
          rotate_left
          · (intro w hSw; (try dsimp only at hSw); go_simp); try (with_reducible rfl)
          try simp only [Act.put, List.setIfInBounds_toArray, List.set_cons_zero, List.set_cons_succ]
          refine regH_take 11 76 (v := ?_) rfl rfl (by kernel_rfl) (by kernel_rfl) (by kernel_rfl) (fun _ _ _ h => h) (by rfl) (by assumption) ?_ ?_
          rotate_left
          · (intro w hSw; (try dsimp only at hSw); go_simp); try (with_reducible rfl)
          try simp only [Act.put, List.setIfInBounds_toArray, List.set_cons_zero, List.set_cons_succ]
          refine regH_take 12 77 (v := ?_) rfl rfl (by kernel_rfl) (by kernel_rfl) (by kernel_rfl) (fun _ _ _ h => h) (by rfl) (by assumption) ?_ ?_
          rotate_left
          · (intro w hSw; (try dsimp only at hSw); go_simp); try (with_reducible rfl)
          try simp only [Act.put, List.setIfInBounds_toArray, List.set_cons_zero, List.set_cons_succ]
          refine wpAnyH_ready (rs := [10]) (by kernel_rfl) (by simp) ?_
          refine AllReadyH.cons rfl (fun K hK => ?_) AllReadyH.nil
          go_simp
          ((with_reducible refine (D4.out _).mono ?_); rintro e wb ⟨vu, rfl, hTu, mwb⟩; have Kwb : Kept wl wb := Kwa.then mwb; have Qwb : wb.cell? ⟨g, 0, none⟩ = some (.string x) := (mwb.cell (p := ⟨g, 0, none⟩) (Nat.lt_of_lt_of_le HGL.out Kwa.size) (fun e => e)).trans Qwa)
          try (go_wp2_with fail)
          refine hK.out _ _ ?_ (fun hHeld => ?_)
          · (try dsimp only); first | exact Q0 | exact Qwa | exact Qwb | exact Qwc | exact Qwd | exact Qwe | exact Qwf | exact Qwg
          clear hK K
          try simp only [Act.put, List.setIfInBounds_toArray, List.set_cons_zero, List.set_cons_succ]
          refine wpAnyH_ready (rs := [13]) (by kernel_rfl) (by simp) ?_
          refine AllReadyH.cons rfl (fun K hK => ?_) AllReadyH.nil
          go_simp
          ((with_reducible refine (D5.out _ _ _ hTu.rd (TAILRD.out.kept Kwb (fun _ _ e => e))).mono ?_); rintro e wc ⟨rfl, mwc⟩; have Kwc : Kept wl wc := Kwb.then mwc; have Qwc : wc.cell? ⟨g, 0, none⟩ = some (.string x) := (mwc.cell (p := ⟨g, 0, none⟩) (Nat.lt_of_lt_of_le HGL.out Kwb.size) (fun e => e)).trans Qwb)
          try (go_wp2_with fail)
          refine hK.out _ _ ?_ (fun hHeld => ?_)
          · (try dsimp only); first | exact Q0 | exact Qwa | exact Qwb | exact Qwc | exact Qwd | exact Qwe | exact Qwf | exact Qwg
          clear hK K
          try simp only [Act.put, List.setIfInBounds_toArray, List.set_cons_zero, List.set_cons_succ]
          refine regH_take 14 79 (v := ?_) rfl rfl (by kernel_rfl) (by kernel_rfl) (by kernel_rfl) (fun _ _ _ h => h) (by rfl) (by assumption) ?_ ?_
          rotate_left
          · (intro w hSw; (try dsimp only at hSw); go_simp); try (with_reducible rfl)
          try simp only [Act.put, List.setIfInBounds_toArray, List.set_cons_zero, List.set_cons_succ]
          refine regH_take 15 80 (v := ?_) rfl rfl (by kernel_rfl) (by kernel_rfl) (by kernel_rfl) (fun _ _ _ h => h) (by rfl) (by assumption) ?_ ?_
          rotate_left
          · (intro w hSw; (try dsimp only at hSw); go_simp); try (with_reducible rfl)
          try simp only [Act.put, List.setIfInBounds_toArray, List.set_cons_zero, List.set_cons_succ]
          refine regH_take 16 81 (v := ?_) rfl rfl (by kernel_rfl) (by kernel_rfl) (by kernel_rfl) (fun _ _ _ h => h) (by rfl) (by assumption) ?_ ?_
          rotate_left
          · (intro w hSw; (try dsimp only at hSw); go_simp); try (with_reducible rfl)
          try simp only [Act.put, List.setIfInBounds_toArray, List.set_cons_zero, List.set_cons_succ]
          refine regH_take 17 82 (v := ?_) rfl rfl (by kernel_rfl) (by kernel_rfl) (by kernel_rfl) (fun _ _ _ h => h) (by rfl) (by assumption) ?_ ?_
          rotate_left
          · (intro w hSw; (try dsimp only at hSw); go_simp); try (with_reducible rfl)
          try simp only [Act.put, List.setIfInBounds_toArray, List.set_cons_zero, List.set_cons_succ]
          refine regH_take 18 83 (v := ?_) rfl rfl (by kernel_rfl) (by kernel_rfl) (by kernel_rfl) (fun _ _ _ h => h) (by rfl) (by assumption) ?_ ?_
          rotate_left
          · (intro w hSw; (try dsimp only at hSw); go_simp); try (with_reducible rfl)
          try simp only [Act.put, List.setIfInBounds_toArray, List.set_cons_zero, List.set_cons_succ]
          refine wpAnyH_ready (rs := [19]) (by kernel_rfl) (by simp) ?_
          refine AllReadyH.cons rfl (fun K hK => ?_) AllReadyH.nil
          go_simp
          ((with_reducible refine (D6.out _).mono ?_); rintro e wd ⟨rfl, mwd⟩; have Kwd : Kept wl wd := Kwc.then mwd; have Qwd : wd.cell? ⟨g, 0, none⟩ = some (.string x) := (mwd.cell (p := ⟨g, 0, none⟩) (Nat.lt_of_lt_of_le HGL.out Kwc.size) (fun e => e)).trans Qwc)
          try (go_wp2_with fail)
          refine hK.out _ _ ?_ (fun hHeld => ?_)
          · (try dsimp only); first | exact Q0 | exact Qwa | exact Qwb | exact Qwc | exact Qwd | exact Qwe | exact Qwf | exact Qwg
          clear hK K
          try simp only [Act.put, List.setIfInBounds_toArray, List.set_cons_zero, List.set_cons_succ]
          refine regH_take 20 85 (v := ?_) rfl rfl (by kernel_rfl) (by kernel_rfl) (by kernel_rfl) (fun _ _ _ h => h) (by rfl) (by assumption) ?_ ?_
          rotate_left
          · (intro w hSw; (try dsimp only at hSw); go_simp); try (with_reducible rfl)
          try simp only [Act.put, List.setIfInBounds_toArray, List.set_cons_zero, List.set_cons_succ]
          refine regH_take 21 86 (v := ?_) rfl rfl (by kernel_rfl) (by kernel_rfl) (by kernel_rfl) (fun _ _ _ h => h) (by rfl) (by assumption) ?_ ?_
          rotate_left
          · (intro w hSw; (try dsimp only at hSw); go_simp); try (with_reducible rfl)
          try simp only [Act.put, List.setIfInBounds_toArray, List.set_cons_zero, List.set_cons_succ]
          refine regH_take 22 87 (v := ?_) rfl rfl (by kernel_rfl) (by kernel_rfl) (by kernel_rfl) (fun _ _ _ h => h) (by rfl) (by assumption) ?_ ?_
          rotate_left
          · (intro w hSw; (try dsimp only at hSw); go_simp); try (with_reducible rfl)
          try simp only [Act.put, List.setIfInBounds_toArray, List.set_cons_zero, List.set_cons_succ]
          refine regH_take 23 88 (v := ?_) rfl rfl (by kernel_rfl) (by kernel_rfl) (by kernel_rfl) (fun _ _ _ h => h) (by rfl) (by assumption) ?_ ?_
          rotate_left
          · (intro w hSw; (try dsimp only at hSw); go_simp); try (with_reducible rfl)
          try simp only [Act.put, List.setIfInBounds_toArray, List.set_cons_zero, List.set_cons_succ]
          refine regH_take 24 89 (v := ?_) rfl rfl (by kernel_rfl) (by kernel_rfl) (by kernel_rfl) (fun _ _ _ h => h) (by rfl) (by assumption) ?_ ?_
          rotate_left
          · (intro w hSw; (try dsimp only at hSw); go_simp); try (with_reducible rfl)
          try simp only [Act.put, List.setIfInBounds_toArray, List.set_cons_zero, List.set_cons_succ]
          refine wpAnyH_ready (rs := [25]) (by kernel_rfl) (by simp) ?_
          refine AllReadyH.cons rfl (fun K hK => ?_) AllReadyH.nil
          go_simp
          ((with_reducible refine (D7.out _).mono ?_); rintro e we ⟨rfl, mwe⟩; have Kwe : Kept wl we := Kwd.then mwe; have Qwe : we.cell? ⟨g, 0, none⟩ = some (.string x) := (mwe.cell (p := ⟨g, 0, none⟩) (Nat.lt_of_lt_of_le HGL.out Kwd.size) (fun e => e)).trans Qwd)
          try (go_wp2_with fail)
          refine hK.out _ _ ?_ (fun hHeld => ?_)
          · (try dsimp only); first | exact Q0 | exact Qwa | exact Qwb | exact Qwc | exact Qwd | exact Qwe | exact Qwf | exact Qwg
          clear hK K
          try simp only [Act.put, List.setIfInBounds_toArray, List.set_cons_zero, List.set_cons_succ]
          refine regH_take 26 91 (v := ?_) rfl rfl (by kernel_rfl) (by kernel_rfl) (by kernel_rfl) (fun _ _ _ h => h) (by rfl) (by assumption) ?_ ?_
          rotate_left
          · (intro w hSw; (try dsimp only at hSw); go_simp); try (with_reducible rfl)
          try simp only [Act.put, List.setIfInBounds_toArray, List.set_cons_zero, List.set_cons_succ]
          refine regH_take 27 92 (v := ?_) rfl rfl (by kernel_rfl) (by kernel_rfl) (by kernel_rfl) (fun _ _ _ h => h) (by rfl) (by assumption) ?_ ?_
          rotate_left
          · (intro w hSw; (try dsimp only at hSw); go_simp); try (with_reducible rfl)
          try simp only [Act.put, List.setIfInBounds_toArray, List.set_cons_zero, List.set_cons_succ]
          refine regH_take 28 93 (v := ?_) rfl rfl (by kernel_rfl) (by kernel_rfl) (by kernel_rfl) (fun _ _ _ h => h) (by rfl) (by assumption) ?_ ?_
          rotate_left
          · (intro w hSw; (try dsimp only at hSw); go_simp); try (with_reducible rfl)
          try simp only [Act.put, List.setIfInBounds_toArray, List.set_cons_zero, List.set_cons_succ]
          refine regH_take 29 94 (v := ?_) rfl rfl (by kernel_rfl) (by kernel_rfl) (by kernel_rfl) (fun _ _ _ h => h) (by rfl) (by assumption) ?_ ?_
          rotate_left
          · (intro w hSw; (try dsimp only at hSw); go_simp); try (with_reducible rfl)
          try simp only [Act.put, List.setIfInBounds_toArray, List.set_cons_zero, List.set_cons_succ]
          refine wpAnyH_ready (rs := [30]) (by kernel_rfl) (by simp) ?_
          refine AllReadyH.cons rfl (fun K hK => ?_) AllReadyH.nil
          go_simp
          ((with_reducible refine (D8.out _).mono ?_); rintro e wf ⟨rfl, mwf⟩; have Kwf : Kept wl wf := Kwe.then mwf; have Qwf : wf.cell? ⟨g, 0, none⟩ = some (.string x) := (mwf.cell (p := ⟨g, 0, none⟩) (Nat.lt_of_lt_of_le HGL.out Kwe.size) (fun e => e)).trans Qwe)
          try (go_wp2_with fail)
          refine hK.out _ _ ?_ (fun hHeld => ?_)
          · (try dsimp only); first | exact Q0 | exact Qwa | exact Qwb | exact Qwc | exact Qwd | exact Qwe | exact Qwf | exact Qwg
          clear hK K
          try simp only [Act.put, List.setIfInBounds_toArray, List.set_cons_zero, List.set_cons_succ]
          refine regH_take 31 96 (v := ?_) rfl rfl (by kernel_rfl) (by kernel_rfl) (by kernel_rfl) (fun _ _ _ h => h) (by rfl) (by assumption) ?_ ?_
          rotate_left
          · (intro w hSw; (try dsimp only at hSw); go_simp); try (with_reducible rfl)
          try simp only [Act.put, List.setIfInBounds_toArray, List.set_cons_zero, List.set_cons_succ]
          refine regH_take 32 97 (v := ?_) rfl rfl (by kernel_rfl) (by kernel_rfl) (by kernel_rfl) (fun _ _ _ h => h) (by rfl) (by assumption) ?_ ?_
          rotate_left
          · (intro w hSw; (try dsimp only at hSw); go_simp); try (with_reducible rfl)
          try simp only [Act.put, List.setIfInBounds_toArray, List.set_cons_zero, List.set_cons_succ]
          refine regH_take 33 98 (v := ?_) rfl rfl (by kernel_rfl) (by kernel_rfl) (by kernel_rfl) (fun _ _ _ h => h) (by rfl) (by assumption) ?_ ?_
          rotate_left
          · (intro w hSw; (try dsimp only at hSw); go_simp); try (with_reducible rfl)
          try simp only [Act.put, List.setIfInBounds_toArray, List.set_cons_zero, List.set_cons_succ]
          refine wpAnyH_ready (rs := [34]) (by kernel_rfl) (by simp) ?_
          refine AllReadyH.cons rfl (fun K hK => ?_) AllReadyH.nil
          go_simp
          ((with_reducible refine (D9.out _).mono ?_); rintro e wg ⟨rfl, mwg⟩; have Kwg : Kept wl wg := Kwf.then mwg; have Qwg : wg.cell? ⟨g, 0, none⟩ = some (.string x) := (mwg.cell (p := ⟨g, 0, none⟩) (Nat.lt_of_lt_of_le HGL.out Kwf.size) (fun e => e)).trans Qwf)
          try (go_wp2_with fail)
          refine hK.out _ _ ?_ (fun hHeld => ?_)
          · (try dsimp only); first | exact Q0 | exact Qwa | exact Qwb | exact Qwc | exact Qwd | exact Qwe | exact Qwf | exact Qwg
          clear hK K
          try simp only [Act.put, List.setIfInBounds_toArray, List.set_cons_zero, List.set_cons_succ]
          refine regH_take 35 100 (v := ?_) rfl rfl (by kernel_rfl) (by kernel_rfl) (by kernel_rfl) (fun _ _ _ h => h) (by rfl) (by assumption) ?_ ?_
          rotate_left
          · (intro w hSw; (try dsimp only at hSw); go_simp); try (with_reducible rfl)
          try simp only [Act.put, List.setIfInBounds_toArray, List.set_cons_zero, List.set_cons_succ]
          refine regH_take 36 101 (v := ?_) rfl rfl (by kernel_rfl) (by kernel_rfl) (by kernel_rfl) (fun _ _ _ h => h) (by rfl) (by assumption) ?_ ?_
          rotate_left
          · (intro w hSw; (try dsimp only at hSw); go_simp); try (with_reducible rfl)
          try simp only [Act.put, List.setIfInBounds_toArray, List.set_cons_zero, List.set_cons_succ]
          refine regH_take 37 102 (v := ?_) rfl rfl (by kernel_rfl) (by kernel_rfl) (by kernel_rfl) (fun _ _ _ h => h) (by rfl) (by assumption) ?_ ?_
          rotate_left
          · (intro w hSw; (try dsimp only at hSw); go_simp); try (with_reducible rfl)
          try simp only [Act.put, List.setIfInBounds_toArray, List.set_cons_zero, List.set_cons_succ]
          refine regH_take 38 103 (v := ?_) rfl rfl (by kernel_rfl) (by kernel_rfl) (by kernel_rfl) (fun _ _ _ h => h) (by rfl) (by assumption) ?_ ?_
          rotate_left
          · (intro w hSw; (try dsimp only at hSw); go_simp); try (with_reducible rfl)
          try simp only [Act.put, List.setIfInBounds_toArray, List.set_cons_zero, List.set_cons_succ]
          refine regH_take 39 104 (v := ?_) rfl rfl (by kernel_rfl) (by kernel_rfl) (by kernel_rfl) (fun _ _ _ h => h) (by rfl) (by assumption) ?_ ?_
          rotate_left
          · (intro w hSw; (try dsimp only at hSw); go_simp); try (with_reducible rfl)
          try simp only [Act.put, List.setIfInBounds_toArray, List.set_cons_zero, List.set_cons_succ]
          refine regH_take 40 105 (v := ?_) rfl rfl (by kernel_rfl) (by kernel_rfl) (by kernel_rfl) (fun _ _ _ h => h) (by rfl) (by assumption) ?_ ?_
          rotate_left
          · (intro w hSw; (try dsimp only at hSw); go_simp); try (with_reducible rfl)
          try simp only [Act.put, List.setIfInBounds_toArray, List.set_cons_zero, List.set_cons_succ]
          refine regH_take 41 106 (v := ?_) rfl rfl (by kernel_rfl) (by kernel_rfl) (by kernel_rfl) (fun _ _ _ h => h) (by rfl) (by assumption) ?_ ?_
          rotate_left
          · (intro w hSw; (try dsimp only at hSw); go_simp); try (with_reducible rfl)
          try simp only [Act.put, List.setIfInBounds_toArray, List.set_cons_zero, List.set_cons_succ]
          refine regH_take 42 107 (v := ?_) rfl rfl (by kernel_rfl) (by kernel_rfl) (by kernel_rfl) (fun _ _ _ h => h) (by rfl) (by assumption) ?_ ?_
          rotate_left
          · (intro w hSw; (try dsimp only at hSw); go_simp); try (with_reducible rfl)
          try simp only [Act.put, List.setIfInBounds_toArray, List.set_cons_zero, List.set_cons_succ]
          refine regH_take 43 108 (v := ?_) rfl rfl (by kernel_rfl) (by kernel_rfl) (by kernel_rfl) (fun _ _ _ h => h) (by rfl) (by assumption) ?_ ?_
          rotate_left
          · (intro w hSw; (try dsimp only at hSw); go_simp); try (with_reducible rfl)
          try simp only [Act.put, List.setIfInBounds_toArray, List.set_cons_zero, List.set_cons_succ]
          refine regH_take 44 109 (v := ?_) rfl rfl (by kernel_rfl) (by kernel_rfl) (by kernel_rfl) (fun _ _ _ h => h) (by rfl) (by assumption) ?_ ?_
          rotate_left
          · (intro w hSw; (try dsimp only at hSw); go_simp); try (with_reducible rfl)
          try simp only [Act.put, List.setIfInBounds_toArray, List.set_cons_zero, List.set_cons_succ]
          refine regH_take 45 110 (v := ?_) rfl rfl (by kernel_rfl) (by kernel_rfl) (by kernel_rfl) (fun _ _ _ h => h) (by rfl) (by assumption) ?_ ?_
          rotate_left
          · (intro w hSw; (try dsimp only at hSw); go_simp); try (with_reducible rfl)
          try simp only [Act.put, List.setIfInBounds_toArray, List.set_cons_zero, List.set_cons_succ]
          refine regH_take 46 111 (v := ?_) rfl rfl (by kernel_rfl) (by kernel_rfl) (by kernel_rfl) (fun _ _ _ h => h) (by rfl) (by assumption) ?_ ?_
          rotate_left
          · (intro w hSw; (try dsimp only at hSw); go_simp); try (with_reducible rfl)
          try simp only [Act.put, List.setIfInBounds_toArray, List.set_cons_zero, List.set_cons_succ]
          refine regH_take 47 112 (v := ?_) rfl rfl (by kernel_rfl) (by kernel_rfl) (by kernel_rfl) (fun _ _ _ h => h) (by rfl) (by assumption) ?_ ?_
          rotate_left
          · (intro w hSw; (try dsimp only at hSw); go_simp); try (with_reducible rfl)
          try simp only [Act.put, List.setIfInBounds_toArray, List.set_cons_zero, List.set_cons_succ]
          refine regH_take 48 113 (v := ?_) rfl rfl (by kernel_rfl) (by kernel_rfl) (by kernel_rfl) (fun _ _ _ h => h) (by rfl) (by assumption) ?_ ?_
          rotate_left
          · (intro w hSw; (try dsimp only at hSw); go_simp); try (with_reducible rfl)
          try simp only [Act.put, List.setIfInBounds_toArray, List.set_cons_zero, List.set_cons_succ]
          refine regH_take 49 114 (v := ?_) rfl rfl (by kernel_rfl) (by kernel_rfl) (by kernel_rfl) (fun _ _ _ h => h) (by rfl) (by assumption) ?_ ?_
          rotate_left
          · (intro w hSw; (try dsimp only at hSw); go_simp); try (with_reducible rfl)
          try simp only [Act.put, List.setIfInBounds_toArray, List.set_cons_zero, List.set_cons_succ]
          refine regH_take 50 115 (v := ?_) rfl rfl (by kernel_rfl) (by kernel_rfl) (by kernel_rfl) (fun _ _ _ h => h) (by rfl) (by assumption) ?_ ?_
          rotate_left
          · (intro w hSw; (try dsimp only at hSw); go_simp); try (with_reducible rfl)
          try simp only [Act.put, List.setIfInBounds_toArray, List.set_cons_zero, List.set_cons_succ]
          refine wpAnyH_done (by kernel_rfl) ?_ _
          have HKK := Lib.hid Kwg
          clear K0 Kwa Kwb Kwc Kwd Kwe Kwf Kwg mwa mwb mwc mwd mwe mwf mwg Q0 Qwa Qwb Qwc Qwd Qwe Qwf Qwg hTu
          go_wp2_with fail
          go_roundg ks.length
          case measure => have := HK.out; simp only [List.length_cons] at this; omega
          case rel => exact ⟨j + 1, u, ks, by go_num, rfl, HP.out, rfl, by have := HJ.out; simp only [List.length_cons] at this; omega, M.out.then HKK.out⟩
theorem out_any (n z : ByteArray) (hn : n.size < 2 ^ 63) (hz : z.size < 2 ^ 63) (w : World) :
    Calls Try.prog 11 #[.string n, .string z] w fun e w' => e = .returned (.bool true) ∧ Kept w w' := by
  by_cases h : 1000 < n.size ∨ 1000 < z.size
  · exact out_big n z h hn hz w
  · cases hs : splitN (bys n) with
    | none => exact out_none n z (by omega) (by omega) hs w
    | some ks => exact out_some n z (by omega) (by omega) ks hs w
end Go.Proofs.Ytafeepokcakmkaa
