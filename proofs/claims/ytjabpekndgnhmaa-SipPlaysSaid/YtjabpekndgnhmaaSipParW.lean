/- SipParts: the walk. -/
import Derived.Test.YtjabpekndgnhmaaSipOnW
import Derived.Test.YtjabpekndgnhmaaStrs
namespace Go.Proofs.Ytjabpekndgnhmaa
open Go.RowKit

/-- The pieces one behind the other. -/
def catB (l : List ByteArray) : List Nat := (l.map bys).flatten
/-- What the count has come to behind j pieces. -/
def cnt (c m : Nat) (l : List Nat) : Nat := (l.map fun x => c + min m x).sum
theorem catB_take_succ (l : List ByteArray) {j : Nat} {x : ByteArray} (h : l[j]? = some x) : catB (l.take (j + 1)) = catB (l.take j) ++ bys x := by
  unfold catB
  rw [List.take_add_one, h]
  simp
theorem cnt_take_succ (c m : Nat) (l : List Nat) {j x : Nat} (h : l[j]? = some x) : cnt c m (l.take (j + 1)) = cnt c m (l.take j) + (c + min m x) := by
  unfold cnt
  rw [List.take_add_one, h]
  simp
theorem cnt_mono (c m : Nat) (l : List Nat) (j : Nat) : cnt c m (l.take j) ≤ cnt c m l := by
  have e : cnt c m l = cnt c m (l.take j) + cnt c m (l.drop j) := by
    unfold cnt
    rw [← List.sum_append, ← List.map_append, List.take_append_drop]
  omega
theorem cnt_len (c m : Nat) : ∀ (l : List Nat), c * l.length ≤ cnt c m l
  | [] => by simp [cnt]
  | x :: l => by
    have := cnt_len c m l
    simp only [cnt, List.map_cons, List.sum_cons, List.length_cons, Nat.mul_add] at this ⊢
    omega
theorem cnt_sum (c m : Nat) : ∀ (l : List Nat), cnt c m l < m → l.sum ≤ cnt c m l
  | [], _ => by simp [cnt]
  | x :: l, h => by
    simp only [cnt, List.map_cons, List.sum_cons] at h ⊢
    have := cnt_sum c m l (by unfold cnt; omega)
    unfold cnt at this
    omega
theorem catB_length (l : List ByteArray) : (catB l).length = (l.map (·.size)).sum := by
  induction l with
  | nil => rfl
  | cons x l ih =>
    have : catB (x :: l) = bys x ++ catB l := rfl
    rw [this, List.length_append, ih, bys_length]; rfl
def szs (l : List ByteArray) : List Nat := l.map (·.size)
theorem szs_get {l : List ByteArray} {j : Nat} {x : ByteArray} (h : l[j]? = some x) : (szs l)[j]? = some x.size := by simp [szs, h]

theorem size_le_sum : ∀ {l : List ByteArray} {x : ByteArray}, x ∈ l → x.size ≤ (szs l).sum
  | y :: l, x, h => by
    simp only [szs, List.map_cons, List.sum_cons]
    rcases List.mem_cons.1 h with rfl | h
    · omega
    · have := size_le_sum h
      unfold szs at this
      omega
def CntRel (c m : Nat) (ss : List ByteArray) (k : Nat) (n i : Value) (w w' : World) : Prop :=
  ∃ j : Nat, i = .int .i64 j ∧ j + k = ss.length ∧ n = .int .i64 (cnt c m ((szs ss).take j) : Nat) ∧ w' = w
def CatRel (k0 k1 g : Nat) (ss : List ByteArray) (w : World) (k : Nat) (a i : Value) (wr : World) : Prop :=
  ∃ (j : Nat) (T : ByteArray), i = .int .i64 j ∧ j + k = ss.length ∧ a = .string T ∧ bys T = catB (ss.take j) ∧ IsS wr g k0 k1 (catB (ss.take j)) ∧ Kept w wr
set_option maxHeartbeats 2000000 in
set_option maxRecDepth 100000 in
theorem parts_small (k0 k1 : Nat) (h0 : k0 < M64) (h1 : k1 < M64) (v : Value) (ss : List ByteArray) (hC : cnt 10 5000 (szs ss) < 5000) (w : World) (hr : Rd w 1 v ss.length (strVals ss)) :
    Calls Try.prog 4 #[.int .u64 k0, .int .u64 k1, v] w fun e w' => e = .returned (.bool true) ∧ Kept w w' := by
  have A0 := awake_any
  have HC := Lib.hid hC
  have hl5 : ss.length < 1000 := by
    have := cnt_len 10 5000 (szs ss)
    have e : (szs ss).length = ss.length := by simp [szs]
    omega
  have HR := Lib.hid hr
  obtain ⟨_, A, c, rfl, _⟩ := hr
  have N0 := Lib.hid (fun w => s_new k0 k1 h0 h1 w)
  clear hC
  go_enter Try.func4, Try.ntmps4
  go_wp2_with fail
  go_loopg [7, 8] ss.length (fun k n i wr => CntRel 10 5000 ss k n i w wr)
  case atStart => exact ⟨0, rfl, by omega, rfl, rfl⟩
  case round =>
    obtain ⟨j, rfl, hj, rfl, rfl⟩ := hrel
    have HJ := Lib.hid hj
    have hjl : j ≤ ss.length := by omega
    have hcj : cnt 10 5000 ((szs ss).take j) < 5000 := Nat.lt_of_le_of_lt (cnt_mono _ _ _ j) HC.out
    obtain ⟨q, hq⟩ : ∃ q, q = cnt 10 5000 ((szs ss).take j) := ⟨_, rfl⟩
    rw [← hq] at hcj ⊢
    have HQ := Lib.hid hq
    have hcj' : (q : Int) < 5000 := by omega
    clear hj hq
    by_cases hlt : j < ss.length
    · obtain ⟨b, o, c2, e2, hb, g2⟩ := HR.out.at hlt
      injection e2 with e2 _ e3
      subst e2 e3
      have hx := List.getElem?_eq_getElem hlt
      obtain ⟨x, hxx⟩ : ∃ x, x = ss[j] := ⟨_, rfl⟩
      rw [← hxx] at hx
      have hxs : x.size < 5000 := by
        have e1 : x ∈ ss := by rw [hxx]; exact List.getElem_mem hlt
        have e2 := size_le_sum e1
        have e3 := cnt_sum 10 5000 (szs ss) HC.out
        have e4 := HC.out
        omega
      have hxs' : (x.size : Int) ≤ 5000 := by omega
      have HXS := Lib.hid hxs
      have f1 := g2 j _ (strVals_get hx)
      have HX := Lib.hid hx
      have i1 : (j : Int) < (ss.length : Int) := by omega
      have HLT := Lib.hid hlt
      clear g2 hx hxx hcj
      go_show
      go_wp2_with fail
      go_roundg (ss.length - (j + 1))
      case measure => have := HJ.out; have := HLT.out; omega
      case rel =>
        refine ⟨j + 1, by go_num, by have := HLT.out; omega, ?_, rfl⟩
        rw [cnt_take_succ 10 5000 _ (szs_get HX.out), ← HQ.out, Nat.min_eq_right (Nat.le_of_lt HXS.out)]
        go_num
    · obtain rfl : j = ss.length := by omega
      have h5 : ¬ (5000 : Int) ≤ (q : Int) := by omega
      clear hcj
      go_show
      go_wp2_with fail
      refine (A0 _).mono ?_
      rintro e w1 ⟨rfl, m1⟩
      have M1 := Lib.hid m1
      clear m1
      go_wp2_with fail
      refine (N0.out _).mono ?_
      rintro e w2 ⟨g, rfl, hg, hh, hk⟩
      have HG := Lib.hid (Nat.le_trans M1.out.size hg)
      have M2 := Lib.hid (M1.out.then hk)
      have HH := Lib.hid hh
      clear hg hk hh
      go_wp2_with fail
      go_loopg [10, 11] ss.length (fun k a i w4 => CatRel k0 k1 g ss wr k a i w4)
      case atStart => exact ⟨0, ⟨#[]⟩, rfl, by omega, rfl, rfl, HH.out, M2.out⟩
      case round =>
        obtain ⟨j, T, rfl, hj, rfl, hT, hS, hm⟩ := hrel
        have HJ2 := Lib.hid hj
        have hjl : j ≤ ss.length := by omega
        have HTT := Lib.hid hT
        have HM := Lib.hid hm
        have hTl : T.size ≤ (szs ss).sum := by
          rw [← bys_length, hT, catB_length]
          have e : (szs ss).sum = ((ss.take j).map (·.size)).sum + ((ss.drop j).map (·.size)).sum := by
            unfold szs
            rw [← List.sum_append, ← List.map_append, List.take_append_drop]
          omega
        have hSum : (szs ss).sum < 5000 := Nat.lt_of_le_of_lt (cnt_sum 10 5000 (szs ss) HC.out) HC.out
        have hT5 : T.size < 5000 := by omega
        have HT5 := Lib.hid hT5
        have hT62 : T.size < 2 ^ 62 := by omega
        clear hj hT hm hTl hT5
        by_cases hlt : j < ss.length
        · obtain ⟨b, o, c2, e2, hb, g2⟩ := (HR.out.kept HM.out (fun _ _ e => e)).at hlt
          injection e2 with e2 _ e3
          subst e2 e3
          have hx := List.getElem?_eq_getElem hlt
          obtain ⟨x, hxx⟩ : ∃ x, x = ss[j] := ⟨_, rfl⟩
          rw [← hxx] at hx
          have hxs : x.size < 5000 := by
            have e1 : x ∈ ss := by rw [hxx]; exact List.getElem_mem hlt
            have e2 := size_le_sum e1
            omega
          have HXS := Lib.hid hxs
          have hx62 : x.size < 2 ^ 62 := by omega
          have f1 := g2 j _ (strVals_get hx)
          have HX := Lib.hid hx
          have i1 : (j : Int) < (ss.length : Int) := by omega
          have HLT := Lib.hid hlt
          clear g2 hx hxx hxs hSum hlt
          go_show
          go_wp2_with fail
          refine (s_write g k0 k1 _ x (by have := HT5.out; have e := congrArg List.length HTT.out; rw [bys_length] at e; have := HXS.out; omega) _ hS).mono ?_
          rintro e w5 ⟨rfl, hS5, m5⟩
          have f2 : w5.cell? ⟨b, o + j, none⟩ = some (.string x) := by
            obtain ⟨b', o', c3, e3, hb3, g3⟩ := (HR.out.kept (HM.out.only m5 HG.out) (fun _ _ e => e)).at HLT.out
            injection e3 with e3 _ e4
            injection e3 with e3
            injection e3 with e3 e5
            subst e3 e5
            exact g3 j _ (strVals_get HX.out)
          have M5 := Lib.hid (HM.out.only m5 HG.out)
          have HS5 := Lib.hid hS5
          clear m5 hS5 f1 hS
          go_wp2_with fail
          go_roundg (ss.length - (j + 1))
          case measure => have := HJ2.out; have := HLT.out; omega
          case rel =>
            refine ⟨j + 1, _, by go_num, by have := HLT.out; omega, rfl, ?_, ?_, M5.out⟩
            · rw [bys_append, HTT.out, catB_take_succ _ HX.out]
            · rw [catB_take_succ _ HX.out]; exact HS5.out
        · obtain rfl : j = ss.length := by omega
          have hT2 : bys T = catB ss := by rw [HTT.out, List.take_length]
          rw [List.take_length] at hS
          rw [← hT2] at hS
          have HTB := Lib.hid (show (bys T).length < 2 ^ 62 by rw [bys_length]; omega)
          have HLL := Lib.hid (show (((bys T).length : Nat) : Int) = (T.size : Int) by rw [bys_length])
          clear hT2 hlt hSum
          go_show
          go_wp2_with fail
          refine (s_sum g k0 k1 _ HTB.out _ hS).mono ?_
          rintro e w5 ⟨rfl, m5⟩
          have hS5 := hS.mod m5 (fun e => e)
          have M5 := Lib.hid (HM.out.then m5)
          clear m5 hS
          go_wp2_with fail
          refine (sipSum_any k0 k1 T h0 h1 hT62 _).mono ?_
          rintro e w6 ⟨rfl, m6⟩
          have hS6 := hS5.mod m6 (fun e => e)
          have M6 := Lib.hid (M5.out.then m6)
          clear m6 hS5
          go_wp2_with fail
          refine (s_len g k0 k1 _ _ hS6 _ HLL.out).mono ?_
          rintro e w7 ⟨rfl, rfl⟩
          go_wp2_with fail
          go_ret
          exact ⟨rfl, M6.out⟩

set_option maxHeartbeats 2000000 in
set_option maxRecDepth 100000 in
theorem parts_big (k0 k1 : Int) (v : Value) (ss : List ByteArray) (hC : 5000 ≤ cnt 10 5000 (szs ss)) (w : World) (hr : Rd w 1 v ss.length (strVals ss)) :
    Calls Try.prog 4 #[.int .u64 k0, .int .u64 k1, v] w fun e w' => e = .returned (.bool true) ∧ Kept w w' := by
  have A0 := awake_any
  have HC := Lib.hid hC
  have HR := Lib.hid hr
  obtain ⟨_, A, c, rfl, _⟩ := hr
  clear hC
  go_enter Try.func4, Try.ntmps4
  go_wp2_with fail
  go_loopg [7, 8] ss.length (fun k n i wr => CntRel 10 5000 ss k n i w wr)
  case atStart => exact ⟨0, rfl, by omega, rfl, rfl⟩
  case round =>
    obtain ⟨j, rfl, hj, rfl, rfl⟩ := hrel
    have HJ := Lib.hid hj
    have hjl : j ≤ ss.length := by omega
    obtain ⟨q, hq⟩ : ∃ q, q = cnt 10 5000 ((szs ss).take j) := ⟨_, rfl⟩
    rw [← hq]
    have HQ := Lib.hid hq
    clear hj hq
    by_cases hlt : j < ss.length
    · have i1 : (j : Int) < (ss.length : Int) := by omega
      have HLT := Lib.hid hlt
      by_cases hcj : q < 5000
      · obtain ⟨b, o, c2, e2, hb, g2⟩ := HR.out.at hlt
        injection e2 with e2 _ e3
        subst e2 e3
        obtain ⟨x, hx⟩ : ∃ x, ss[j]? = some x := ⟨_, List.getElem?_eq_getElem hlt⟩
        have hj1 : (j : Int) < 1000 := by
          have e1 := cnt_len 10 5000 ((szs ss).take j)
          have e2 : ((szs ss).take j).length = j := by simp [szs]; omega
          have e3 := HQ.out
          omega
        have f1 := g2 j _ (strVals_get hx)
        have HX := Lib.hid hx
        have hcj' : (q : Int) < 5000 := by omega
        clear g2 hx hcj hjl hlt
        by_cases h5 : x.size < 5000
        · have h5' : (x.size : Int) ≤ 5000 := by omega
          have H5 := Lib.hid (Nat.le_of_lt h5)
          go_show
          go_wp2_with fail
          go_roundg (ss.length - (j + 1))
          case measure => have := HJ.out; have := HLT.out; omega
          case rel =>
            refine ⟨j + 1, by go_num, by have := HLT.out; omega, ?_, rfl⟩
            rw [cnt_take_succ 10 5000 _ (szs_get HX.out), ← HQ.out, Nat.min_eq_right H5.out]
            go_num
        · have h5' : (5000 : Int) ≤ (x.size : Int) := by omega
          have H5 := Lib.hid h5
          clear h5
          go_show
          go_wp2_with fail
          go_roundg (ss.length - (j + 1))
          case measure => have := HJ.out; have := HLT.out; omega
          case rel =>
            refine ⟨j + 1, by go_num, by have := HLT.out; omega, ?_, rfl⟩
            rw [cnt_take_succ 10 5000 _ (szs_get HX.out), ← HQ.out, Nat.min_eq_left (by have := H5.out; omega)]
            go_num
      · have h5 : (5000 : Int) ≤ (q : Int) := by omega
        have h6 : ¬ (q : Int) < 5000 := by omega
        go_show
        go_wp2_with fail
        refine (A0 _).mono ?_
        rintro e w1 ⟨rfl, m1⟩
        have M1 := Lib.hid m1
        clear m1
        go_wp2_with fail
        go_ret
        exact ⟨rfl, M1.out⟩
    · have i1 : ¬ (j : Int) < (ss.length : Int) := by omega
      have h5 : (5000 : Int) ≤ (q : Int) := by
        have e1 := HC.out
        have e2 := HQ.out
        have e3 : (szs ss).take j = szs ss := List.take_of_length_le (by simp [szs]; omega)
        rw [e3] at e2
        omega
      go_show
      go_wp2_with fail
      refine (A0 _).mono ?_
      rintro e w1 ⟨rfl, m1⟩
      have M1 := Lib.hid m1
      clear m1
      go_wp2_with fail
      go_ret
      exact ⟨rfl, M1.out⟩
end Go.Proofs.Ytjabpekndgnhmaa
