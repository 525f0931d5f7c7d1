/- SipPlays: the walk over the acts. -/
import Derived.Test.YtjabpekndgnhmaaSipPlyW
namespace Go.Proofs.Ytjabpekndgnhmaa
open Go.RowKit

def sumTo (l : List (Int × ByteArray)) (j : Nat) : Nat := ((szs (txt l)).take j).sum
theorem sumTo_succ (l : List (Int × ByteArray)) {j : Nat} {a : Int × ByteArray} (h : l[j]? = some a) : sumTo l (j + 1) = sumTo l j + a.2.size := by
  unfold sumTo
  rw [List.take_add_one, szs_get (txt_get h)]
  simp
theorem sumTo_le (l : List (Int × ByteArray)) (j : Nat) : sumTo l j ≤ (szs (txt l)).sum := by
  have e : (szs (txt l)).sum = sumTo l j + ((szs (txt l)).drop j).sum := by
    unfold sumTo
    rw [← List.sum_append, List.take_append_drop]
  omega
def PlayRel (k0 k1 : Nat) (l : List (Int × ByteArray)) (w : World) (k : Nat) (h a i : Value) (wr : World) : Prop :=
  ∃ (j g : Nat) (T : ByteArray), h = .pointer (some ⟨g, 0, none⟩) ∧ a = .string T ∧ i = .int .i64 j ∧ j + k = l.length ∧ IsS wr g k0 k1 (bys T) ∧ T.size ≤ sumTo l j ∧ w.heap.size ≤ g ∧ Kept w wr
set_option maxHeartbeats 4000000 in
set_option maxRecDepth 100000 in
theorem plays_small (k0 k1 : Nat) (h0 : k0 < M64) (h1 : k1 < M64) (v : Value) (l : List (Int × ByteArray)) (hlg : longOf l = false) (w : World) (hr : Rd w 2 v l.length (actVals l)) :
    Calls Try.prog 6 #[.int .u64 k0, .int .u64 k1, v] w fun e w' => e = .returned (.bool true) ∧ Kept w w' := by
  have A0 := awake_any
  have LG := Lib.hid (fun w hr => long_any v l w hr false hlg)
  have hC : cnt 20 4000 (szs (txt l)) < 4000 := by have := of_decide_eq_false hlg; omega
  have HSum := Lib.hid (Nat.lt_of_le_of_lt (cnt_sum 20 4000 (szs (txt l)) hC) hC)
  have hl5 : l.length < 1000 := by
    have := cnt_len 20 4000 (szs (txt l))
    have e : (szs (txt l)).length = l.length := by simp [szs, txt]
    omega
  have HR := Lib.hid hr
  have N0 := Lib.hid (fun w => s_new k0 k1 h0 h1 w)
  obtain ⟨_, A, c, rfl, _⟩ := hr
  clear hlg hC
  go_enter Try.func6, Try.ntmps6
  go_wp2_with fail
  refine (LG.out _ HR.out).mono ?_
  rintro e w1 ⟨rfl, rfl⟩
  go_wp2_with fail
  refine (N0.out _).mono ?_
  rintro e w2 ⟨g, rfl, hg, hh, hk⟩
  have HG := Lib.hid hg
  have M2 := Lib.hid hk
  have HH := Lib.hid hh
  clear hg hk hh
  go_wp2_with fail
  go_loopg [7, 8, 9, 10] l.length (fun k h a i c wr => PlayRel k0 k1 l w1 k h a i wr)
  case atStart => exact ⟨0, g, ⟨#[]⟩, rfl, rfl, rfl, by omega, HH.out, Nat.zero_le _, HG.out, M2.out⟩
  case round =>
    clear HG M2 HH
    obtain ⟨j, g, T, rfl, rfl, rfl, hj, hS, hTs, hg, hm⟩ := hrel
    have HJ := Lib.hid hj
    have HG := Lib.hid hg
    have HM := Lib.hid hm
    have hTs4 : T.size < 4000 := by have := sumTo_le l j; have := HSum.out; omega
    have HT4 := Lib.hid hTs4
    have HTS := Lib.hid hTs
    have hT62 : T.size < 2 ^ 62 := by omega
    have hjl : j ≤ l.length := by omega
    clear hj hg hm hTs4 hTs
    by_cases hlt : j < l.length
    · obtain ⟨b, o, c2, e2, hb, g2⟩ := (HR.out.kept HM.out (fun _ _ e => e)).at hlt
      injection e2 with e2 _ e3
      subst e2 e3
      obtain ⟨⟨a, x⟩, hx⟩ : ∃ x, l[j]? = some x := ⟨_, List.getElem?_eq_getElem hlt⟩
      have f0 := g2 (j * 2) _ (actVals_0 l hx)
      have f1 := g2 (j * 2 + 1) _ (actVals_1 l hx)
      rw [← Nat.add_assoc] at f1
      simp only at f0 f1
      have HX := Lib.hid hx
      have hsx := sumTo_succ l hx
      have hxs : x.size < 4000 := by have := sumTo_le l (j + 1); have := HSum.out; simp only at hsx; omega
      have hTx : T.size + x.size < 4000 := by have := sumTo_le l (j + 1); have := HSum.out; have := HTS.out; simp only at hsx; omega
      have HXS := Lib.hid hxs
      have HTX := Lib.hid hTx
      have HSX := Lib.hid hsx
      have hx62 : x.size < 2 ^ 62 := by omega
      have i1 : (j : Int) < (l.length : Int) := by omega
      have HLT := Lib.hid hlt
      clear g2 hx hxs hsx hTx hlt
      by_cases a0 : a = 0
      · subst a0
        go_show
        go_wp2_with fail
        refine (s_write g k0 k1 _ x (by have := HTX.out; rw [bys_length]; omega) _ hS).mono ?_
        rintro e w5 ⟨rfl, hS5, m5⟩
        have M5 := Lib.hid (HM.out.only m5 HG.out)
        have f2 : w5.cell? ⟨b, o + j * 2 + 1, none⟩ = some (.string x) := by
          obtain ⟨b', o', c3, e3, hb3, g3⟩ := (HR.out.kept M5.out (fun _ _ e => e)).at HLT.out
          injection e3 with e3 _ e4
          injection e3 with e3
          injection e3 with e3 e5
          subst e3 e5
          have := g3 (j * 2 + 1) _ (actVals_1 l HX.out)
          rwa [← Nat.add_assoc] at this
        clear m5 f1 hS f0
        rw [← bys_append] at hS5
        go_wp2_with fail
        obtain ⟨T2, hT2⟩ : ∃ T2, T2 = T ++ x := ⟨_, rfl⟩
        rw [← hT2] at hS5 ⊢
        have hsz2 : T2.size = T.size + x.size := by rw [hT2, ByteArray.size_append]
        have HSZ2 := Lib.hid hsz2
        have hT262 : T2.size < 2 ^ 60 := by have := HTX.out; omega
        have hT263 : T2.size < 2 ^ 62 := by have := HTX.out; omega
        clear hT2 hsz2
        refine (s_sum g k0 k1 _ (by rw [bys_length]; exact hT263) _ hS5).mono ?_
        rintro e w6 ⟨rfl, m6⟩
        have hS6 := hS5.mod m6 (fun e => e)
        have M6 := Lib.hid (M5.out.then m6)
        clear m6
        go_wp2_with fail
        refine (refSum_any k0 k1 T2 h0 h1 (by have := hT263; omega) _).mono ?_
        rintro e w7 ⟨rfl, m7⟩
        have hS7 := hS6.mod m7 (fun e => e)
        have M7 := Lib.hid (M6.out.then m7)
        clear m7 hS6
        go_wp2_with fail
        refine (s_len g k0 k1 _ _ hS7 (T2.size : Int) (by rw [bys_length])).mono ?_
        rintro e w8 ⟨rfl, rfl⟩
        go_wp2_with fail
        go_roundg (l.length - (j + 1))
        case measure => have := HJ.out; have := HLT.out; omega
        case rel => exact ⟨j + 1, g, T2, rfl, rfl, by go_num, by have := HLT.out; omega, hS7, by rw [HSX.out, HSZ2.out]; exact Nat.add_le_add_right HTS.out _, HG.out, M7.out⟩
      · by_cases a1 : a = 1
        · subst a1
          go_show
          go_wp2_with fail
          refine (s_copy g k0 k1 _ _ hS).mono ?_
          rintro e w5 ⟨gc, rfl, hgc, hS5, m5⟩
          have HGC := Lib.hid (Nat.le_trans HM.out.size hgc)
          have hSg := hS.mod m5 (fun e => e)
          have hne := Lib.hid (show gc ≠ g by have := hS.lt; omega)
          have M5 := Lib.hid (HM.out.then m5)
          clear m5 f1 hS f0 hgc
          go_wp2_with fail
          refine (s_write g k0 k1 _ _ (by have := HT4.out; rw [bys_length]; show T.size + 6 < _; omega) _ hSg).mono ?_
          rintro e w51 ⟨rfl, -, m51⟩
          have hS51 := hS5.mod m51 (fun e => hne.out e)
          have M51 := Lib.hid (M5.out.only m51 HG.out)
          clear m51 hS5 hSg
          go_wp2_with fail
          refine (s_sum gc k0 k1 _ (by rw [bys_length]; exact hT62) _ hS51).mono ?_
          rintro e w6 ⟨rfl, m6⟩
          have hS6 := hS51.mod m6 (fun e => e)
          have M6 := Lib.hid (M51.out.then m6)
          clear m6
          go_wp2_with fail
          refine (refSum_any k0 k1 T h0 h1 (by have := HT4.out; omega) _).mono ?_
          rintro e w7 ⟨rfl, m7⟩
          have hS7 := hS6.mod m7 (fun e => e)
          have M7 := Lib.hid (M6.out.then m7)
          clear m7 hS6
          go_wp2_with fail
          refine (s_len gc k0 k1 _ _ hS7 (T.size : Int) (by rw [bys_length])).mono ?_
          rintro e w8 ⟨rfl, rfl⟩
          go_wp2_with fail
          go_roundg (l.length - (j + 1))
          case measure => have := HJ.out; have := HLT.out; omega
          case rel => exact ⟨j + 1, gc, T, rfl, rfl, by go_num, by have := HLT.out; omega, hS7, by rw [HSX.out]; have := HTS.out; omega, HGC.out, M7.out⟩
        · have t0 : (a == 0) = false := by simp [a0]
          have t1 : (a == 1) = false := by simp [a1]
          clear a0 a1
          go_show
          go_wp2_with fail
          refine (s_sum g k0 k1 _ (by rw [bys_length]; exact hT62) _ hS).mono ?_
          rintro e w6 ⟨rfl, m6⟩
          have hS6 := hS.mod m6 (fun e => e)
          have M6 := Lib.hid (HM.out.then m6)
          clear m6
          go_wp2_with fail
          refine (refSum_any k0 k1 T h0 h1 (by have := HT4.out; omega) _).mono ?_
          rintro e w7 ⟨rfl, m7⟩
          have hS7 := hS6.mod m7 (fun e => e)
          have M7 := Lib.hid (M6.out.then m7)
          clear m7 hS6
          go_wp2_with fail
          refine (s_len g k0 k1 _ _ hS7 (T.size : Int) (by rw [bys_length])).mono ?_
          rintro e w8 ⟨rfl, rfl⟩
          go_wp2_with fail
          go_roundg (l.length - (j + 1))
          case measure => have := HJ.out; have := HLT.out; omega
          case rel => exact ⟨j + 1, g, T, rfl, rfl, by go_num, by have := HLT.out; omega, hS7, by rw [HSX.out]; have := HTS.out; omega, HG.out, M7.out⟩
    · obtain rfl : j = l.length := by omega
      have HM2 := Lib.hid HM.out
      clear hS
      go_show
      go_wp2_with fail
      refine (A0 _).mono ?_
      rintro e w5 ⟨rfl, m5⟩
      have M5 := Lib.hid (HM2.out.then m5)
      clear m5
      go_wp2_with fail
      go_ret
      exact ⟨rfl, M5.out⟩

theorem plays_big (k0 k1 : Int) (v : Value) (l : List (Int × ByteArray)) (hlg : longOf l = true) (w : World) (hr : Rd w 2 v l.length (actVals l)) :
    Calls Try.prog 6 #[.int .u64 k0, .int .u64 k1, v] w fun e w' => e = .returned (.bool true) ∧ Kept w w' := by
  have A0 := awake_any
  have LG := Lib.hid (long_any v l w hr true hlg)
  clear hlg
  go_enter Try.func6, Try.ntmps6
  go_wp2_with fail
  refine LG.out.mono ?_
  rintro e w1 ⟨rfl, rfl⟩
  go_wp2_with fail
  refine (A0 _).mono ?_
  rintro e w5 ⟨rfl, m5⟩
  go_wp2_with fail
  go_ret
  exact ⟨rfl, m5⟩
end Go.Proofs.Ytjabpekndgnhmaa
