/- NameTells: the walk. -/
import Derived.Test.YtafeepokcakmkaaNamRT
import Derived.Test.YtafeepokcakmkaaNamBk
import Derived.Outline
namespace Go.Proofs.Ytafeepokcakmkaa
open Go.RowKit

/-- The labels, none where it is no name. -/
def IsLab (n : ByteArray) (L : List ByteArray) : Prop := (splitN (bys n) = none ∧ L = []) ∨ splitN (bys n) = some (lbs L)
theorem isLab (n : ByteArray) : ∃ L, IsLab n L := by
  cases h : splitN (bys n) with
  | none => exact ⟨[], .inl ⟨h, rfl⟩⟩
  | some ls =>
    obtain ⟨L, rfl⟩ := lbs_of h
    exact ⟨L, .inr h⟩
theorem isLab_len {n : ByteArray} {L : List ByteArray} (h : IsLab n L) : L.length ≤ 255 := by
  rcases h with ⟨_, rfl⟩ | h
  · simp
  · exact labs_len h
theorem labels_both (n : ByteArray) (L : List ByteArray) (hL : IsLab n L) (hn : n.size < 2 ^ 63) (w : World) :
    Calls Try.prog 30 #[.string n] w fun e w' => ∃ v, e = .returned v ∧ Txs w' w.heap.size v L ∧ Kept w w' := by
  rcases hL with ⟨h, rfl⟩ | h
  · refine (labels_any n hn w).mono ?_
    rintro e w' ⟨hk, ⟨hs, rfl⟩ | ⟨v, L', hs, rfl, hT⟩⟩
    · exact ⟨_, rfl, Txs.nil _ _, hk⟩
    · rw [h] at hs; cases hs
  · exact labels_to n L hn h w
theorem rlabels_both (n : ByteArray) (L : List ByteArray) (hL : IsLab n L) (hn : n.size ≤ 1000000) (w : World) :
    Calls Try.prog 32 #[.string n] w fun e w' => ∃ v, e = .returned (.tuple #[v, .bool (mayN (bys n))]) ∧ Txs w' w.heap.size v L ∧ Kept w w' := by
  refine (rlabels_any n hn w).mono ?_
  rintro e w' ⟨hk, ⟨hs, rfl⟩ | ⟨v, L', hs, rfl, hT⟩⟩
  · rcases hL with ⟨_, rfl⟩ | h
    · exact ⟨_, by unfold mayN; rw [hs]; rfl, Txs.nil _ _, hk⟩
    · rw [h] at hs; cases hs
  · rcases hL with ⟨h, rfl⟩ | h
    · rw [h] at hs; cases hs
    · rw [h] at hs
      injection hs with hs
      have := lbs_inj hs
      subst this
      exact ⟨v, by unfold mayN; rw [h]; rfl, hT, hk⟩
def TelRel (w : World) (k : Nat) (i : Value) (wr : World) : Prop := ∃ j : Nat, i = .int .i64 j ∧ j + k = 2 ∧ Kept w wr
def SpoilRel (n : Nat) (base : Nat) (v : Value) (w : World) (k : Nat) (i : Value) (wr : World) : Prop :=
  ∃ (j : Nat) (Z : List ByteArray), i = .int .i64 j ∧ j + k = n ∧ Z.length = n ∧ Txs wr base v Z ∧ Kept w wr
set_option maxHeartbeats 4000000 in
set_option maxRecDepth 100000 in
theorem tells_small (n : ByteArray) (h1 : (n.size : Int) ≤ 1000) (w : World) :
    Calls Try.prog 9 #[.string n] w fun e w' => e = .returned (.bool true) ∧ Kept w w' := by
  obtain ⟨L, hL⟩ := isLab n
  have hll := isLab_len hL
  obtain ⟨b, hb⟩ : ∃ b, mayN (bys n) = b := ⟨_, rfl⟩
  have C1 := Lib.hid (fun w => rlabels_both n L hL (by omega) w)
  rw [hb] at C1
  have C2 := Lib.hid (fun w => labels_both n L hL (by omega) w)
  have C3 := Lib.hid (fun v1 v2 w a c => rtexts_any v1 v2 L L (by omega) (by omega) w a c)
  rw [decide_eq_true rfl] at C3
  obtain ⟨ps, hps⟩ : ∃ p, parS n = p := ⟨_, rfl⟩
  obtain ⟨pb, hpb⟩ : ∃ p, parB n = p := ⟨_, rfl⟩
  have C4 := Lib.hid (parent_to n ps pb (by omega) hps hpb)
  have C5 := Lib.hid (fun w => rparent_any n (by omega) w)
  rw [hps, hpb] at C5
  have C6 := Lib.hid (may_to n b (by omega) hb)
  obtain ⟨fs, hfs⟩ : ∃ f, foldS n = f := ⟨_, rfl⟩
  have C7 := Lib.hid (fold_to n fs (by omega) hfs)
  have C8 := Lib.hid (fun w => rfold_any n (by omega) w)
  rw [hfs] at C8
  obtain ⟨ts, hts⟩ : ∃ f, textS n = f := ⟨_, rfl⟩
  have C9 := Lib.hid (text_to n ts (by omega) hts)
  have C10 := Lib.hid (fun w => rtext_any n (by omega) w)
  rw [hts] at C10
  have e1 : (b == b) = true := by simp
  have e2 : (fs.toList == fs.toList) = true := by simp
  have e3 : (ps.toList == ps.toList) = true := by simp
  have e4 : (pb == pb) = true := by simp
  have e5 : (ts.toList == ts.toList) = true := by simp
  clear hL hb hps hpb hfs hts
  go_enter Try.func9, Try.ntmps9
  go_wp2_with fail
  refine (C1.out _).mono ?_
  rintro e w1 ⟨vw, rfl, hW, m1⟩
  have HW := Lib.hid hW.rd
  have M1 := Lib.hid m1
  clear hW m1
  go_wp2_with fail
  go_loopg [5, 6, 7] 2 (fun k i _ _ wr => TelRel w1 k i wr)
  case atStart => exact ⟨0, rfl, rfl, Kept.refl _⟩
  case round =>
    obtain ⟨j, rfl, hj, hm⟩ := hrel
    have HJ := Lib.hid hj
    have M := Lib.hid hm
    by_cases hlt : j < 2
    · have i1 : (j : Int) < 2 := by omega
      have HLT := Lib.hid hlt
      clear hj hm hlt
      go_wp2_with fail
      refine (C2.out _).mono ?_
      rintro e w2 ⟨vl, rfl, hT, m2⟩
      have HT := Lib.hid hT
      have HSZ := Lib.hid M.out.size
      replace M := Lib.hid (M.out.then m2)
      clear hT m2
      go_wp2_with fail
      refine (C3.out _ _ _ HT.out.rd (HW.out.kept M.out (fun _ _ e => e))).mono ?_
      rintro e w3 ⟨rfl, m3⟩
      have hT := HT.out.kept m3
      replace M := Lib.hid (M.out.then m3)
      obtain ⟨A, c, rfl⟩ := hT.form
      have HT3 := Lib.hid hT
      clear m3 hT
      go_wp2_with fail
      go_loopg [7] L.length (fun k i wr2 => SpoilRel L.length wr.heap.size (.slice A L.length c) w1 k i wr2)
      case atStart => exact ⟨0, L, rfl, by omega, rfl, HT3.out, M.out⟩
      case round =>
        obtain ⟨m, Z, rfl, hmk, hZ, hT, hm⟩ := hrel
        have HMK := Lib.hid hmk
        replace M := Lib.hid hm
        by_cases hml : m < L.length
        · have HML := Lib.hid hml
          have i2 : (m : Int) < (L.length : Int) := by omega
          obtain ⟨bb, rfl⟩ := hT.cap.2.2 (by omega)
          have hT2 := hT
          unfold Txs at hT2
          rw [hZ] at hT2
          have f1 := hT2.frozenAt m
          obtain ⟨u, hu⟩ : ∃ u, (strVals Z)[m]? = some u := ⟨_, List.getElem?_eq_getElem (by unfold strVals; rw [List.length_map]; omega)⟩
          have f2 := (hT2.cellAt m (by omega)).trans hu
          have hlo := (hT.lt bb rfl).1
          have HLO := Lib.hid hlo
          have HTT := Lib.hid hT
          have HZ := Lib.hid hZ
          clear hT hT2 hu hmk hm hml hlo hZ
          go_wp2_with fail
          go_roundg (L.length - (m + 1))
          case measure => have := HMK.out; have := HML.out; omega
          case rel => exact ⟨m + 1, _, by go_num, by have := HML.out; omega, by rw [List.length_set]; exact HZ.out, HTT.out.set HZ.out.symm m ⟨#[115, 112, 111, 105, 108, 116]⟩, M.out.only ((Mod.refl (Only bb) _).at _ _) (Nat.le_trans HSZ.out HLO.out)⟩
        · have i2 : (L.length : Int) ≤ (m : Int) := by omega
          clear hmk hZ hT hm hml
          go_wp2_with fail
          go_roundg (2 - (j + 1))
          case measure => have := HJ.out; have := HLT.out; omega
          case rel => exact ⟨j + 1, by go_num, by have := HLT.out; omega, M.out⟩
    · have i1 : ¬ (j : Int) < 2 := by omega
      replace M := Lib.hid (M1.out.then M.out)
      clear hj hm hlt
      go_wp2_with fail
      refine (C4.out _).mono ?_
      rintro e wq ⟨rfl, mq⟩
      replace M := Lib.hid (M.out.then mq)
      clear mq
      go_wp2_with fail
      refine (C5.out _).mono ?_
      rintro e wq ⟨rfl, mq⟩
      replace M := Lib.hid (M.out.then mq)
      clear mq
      go_wp2_with fail
      refine (C6.out _).mono ?_
      rintro e wq ⟨rfl, mq⟩
      replace M := Lib.hid (M.out.then mq)
      clear mq
      go_wp2_with fail
      refine (C7.out _).mono ?_
      rintro e wq ⟨rfl, mq⟩
      replace M := Lib.hid (M.out.then mq)
      clear mq
      go_wp2_with fail
      refine (C8.out _).mono ?_
      rintro e wq ⟨rfl, mq⟩
      replace M := Lib.hid (M.out.then mq)
      clear mq
      go_wp2_with fail
      refine (C9.out _).mono ?_
      rintro e wq ⟨rfl, mq⟩
      replace M := Lib.hid (M.out.then mq)
      clear mq
      go_wp2_with fail
      refine (C10.out _).mono ?_
      rintro e wq ⟨rfl, mq⟩
      replace M := Lib.hid (M.out.then mq)
      clear mq
      go_wp2_with fail
      refine (awake_any _).mono ?_
      rintro e wq ⟨rfl, mq⟩
      replace M := Lib.hid (M.out.then mq)
      clear mq
      go_wp2_with fail
      go_ret
      exact ⟨rfl, M.out⟩
theorem tells_any (n : ByteArray) (hn : n.size < 2 ^ 63) (w : World) :
    Calls Try.prog 9 #[.string n] w fun e w' => e = .returned (.bool true) ∧ Kept w w' := by
  by_cases h : 1000 < n.size
  · have h0 : (1000 : Int) < (n.size : Int) := by omega
    go_enter Try.func9, Try.ntmps9
    go_wp2_with fail
    refine (awake_any _).mono ?_
    rintro e w1 ⟨rfl, m1⟩
    have M := Lib.hid m1
    clear m1
    go_wp2_with fail
    go_ret
    exact ⟨rfl, M.out⟩
  · exact tells_small n (by omega) w
end Go.Proofs.Ytafeepokcakmkaa
