/- SipPlays: the walk. -/
import Derived.Test.YtjabpekndgnhmaaSipParW
namespace Go.Proofs.Ytjabpekndgnhmaa
open Go.RowKit

/-- Acts: what, and the text. -/
def actVals : List (Int × ByteArray) → List Value
  | [] => []
  | a :: l => .int .u8 a.1 :: .string a.2 :: actVals l
theorem actVals_len : ∀ l : List (Int × ByteArray), (actVals l).length = l.length * 2
  | [] => rfl
  | a :: l => by simp only [actVals, List.length_cons, actVals_len l]; omega
theorem actVals_0 : ∀ (l : List (Int × ByteArray)) {j : Nat} {a : Int × ByteArray}, l[j]? = some a → (actVals l)[j * 2]? = some (.int .u8 a.1)
  | b :: l, 0, a, h => by simp at h; subst h; rfl
  | b :: l, j + 1, a, h => by
    have := actVals_0 l (j := j) (a := a) (by simpa using h)
    rw [show (j + 1) * 2 = j * 2 + 1 + 1 by omega]
    exact this
theorem actVals_1 : ∀ (l : List (Int × ByteArray)) {j : Nat} {a : Int × ByteArray}, l[j]? = some a → (actVals l)[j * 2 + 1]? = some (.string a.2)
  | b :: l, 0, a, h => by simp at h; subst h; rfl
  | b :: l, j + 1, a, h => by
    have := actVals_1 l (j := j) (a := a) (by simpa using h)
    rw [show (j + 1) * 2 + 1 = j * 2 + 1 + 1 + 1 by omega]
    exact this
def txt (l : List (Int × ByteArray)) : List ByteArray := l.map (·.2)
theorem txt_get {l : List (Int × ByteArray)} {j : Nat} {a : Int × ByteArray} (h : l[j]? = some a) : (txt l)[j]? = some a.2 := by simp [txt, h]
def longOf (l : List (Int × ByteArray)) : Bool := decide (4000 ≤ cnt 20 4000 (szs (txt l)))

def LongRel (l : List (Int × ByteArray)) (k : Nat) (n i : Value) (w w' : World) : Prop :=
  ∃ j : Nat, i = .int .i64 j ∧ j + k = l.length ∧ n = .int .i64 (cnt 20 4000 ((szs (txt l)).take j) : Nat) ∧ w' = w
set_option maxHeartbeats 2000000 in
set_option maxRecDepth 100000 in
theorem long_any (v : Value) (l : List (Int × ByteArray)) (w : World) (hr : Rd w 2 v l.length (actVals l)) (r : Bool) (hres : longOf l = r) :
    Calls Try.prog 16 #[v] w fun e w' => e = .returned (.bool r) ∧ w' = w := by
  have HR := Lib.hid hr
  have HRES := Lib.hid hres
  obtain ⟨_, A, c, rfl, _⟩ := hr
  clear hres
  go_enter Try.func16, Try.ntmps16
  go_wp2_with fail
  go_loopg [3, 4] l.length (fun k n i wr => LongRel l k n i w wr)
  case atStart => exact ⟨0, rfl, by omega, rfl, rfl⟩
  case round =>
    obtain ⟨j, rfl, hj, rfl, rfl⟩ := hrel
    have HJ := Lib.hid hj
    have hjl : j ≤ l.length := by omega
    obtain ⟨q, hq⟩ : ∃ q, q = cnt 20 4000 ((szs (txt l)).take j) := ⟨_, rfl⟩
    rw [← hq]
    have HQ := Lib.hid hq
    clear hj hq
    by_cases hlt : j < l.length
    · have i1 : (j : Int) < (l.length : Int) := by omega
      have HLT := Lib.hid hlt
      by_cases hcj : q < 4000
      · obtain ⟨b, o, c2, e2, hb, g2⟩ := HR.out.at hlt
        injection e2 with e2 _ e3
        subst e2 e3
        obtain ⟨x, hx⟩ : ∃ x, l[j]? = some x := ⟨_, List.getElem?_eq_getElem hlt⟩
        have hj1 : (j : Int) < 1000 := by
          have e1 := cnt_len 20 4000 ((szs (txt l)).take j)
          have e2 : ((szs (txt l)).take j).length = j := by simp [szs, txt]; omega
          have e3 := HQ.out
          omega
        have f1 := g2 (j * 2 + 1) _ (actVals_1 l hx)
        have HX := Lib.hid (szs_get (txt_get hx))
        have hcj' : (q : Int) < 4000 := by omega
        obtain ⟨x1, x⟩ := x
        simp only at f1
        rw [← Nat.add_assoc] at f1
        clear g2 hx hcj hjl hlt
        by_cases h5 : x.size < 4000
        · have h5' : (x.size : Int) ≤ 4000 := by omega
          have H5 := Lib.hid (Nat.le_of_lt h5)
          go_show
          go_wp2_with fail
          go_roundg (l.length - (j + 1))
          case measure => have := HJ.out; have := HLT.out; omega
          case rel =>
            refine ⟨j + 1, by go_num, by have := HLT.out; omega, ?_, rfl⟩
            rw [cnt_take_succ 20 4000 _ HX.out, ← HQ.out, Nat.min_eq_right H5.out]
            go_num
        · have h5' : (4000 : Int) ≤ (x.size : Int) := by omega
          have H5 := Lib.hid h5
          clear h5
          go_show
          go_wp2_with fail
          go_roundg (l.length - (j + 1))
          case measure => have := HJ.out; have := HLT.out; omega
          case rel =>
            refine ⟨j + 1, by go_num, by have := HLT.out; omega, ?_, rfl⟩
            rw [cnt_take_succ 20 4000 _ HX.out, ← HQ.out, Nat.min_eq_left (by have := H5.out; show 4000 ≤ x.size; omega)]
            go_num
      · have h5 : (4000 : Int) ≤ (q : Int) := by omega
        have h6 : ¬ (q : Int) < 4000 := by omega
        have hl : r = true := by
          have e1 := HRES.out
          have e2 := HQ.out
          have e3 := cnt_mono 20 4000 (szs (txt l)) j
          rw [← e1]
          exact decide_eq_true (by omega)
        subst hl
        go_show
        go_wp2_with fail
        go_ret
        exact ⟨rfl, rfl⟩
    · have i1 : ¬ (j : Int) < (l.length : Int) := by omega
      have e2 := HQ.out
      have e3 : (szs (txt l)).take j = szs (txt l) := List.take_of_length_le (by simp [szs, txt]; omega)
      rw [e3] at e2
      have e1 := HRES.out
      unfold longOf at e1
      rw [← e2] at e1
      clear e2 e3
      cases r with
      | true =>
        have h5 : (4000 : Int) ≤ (q : Int) := by have := of_decide_eq_true e1; omega
        clear e1
        go_show
        go_wp2_with fail
        go_ret
        exact ⟨rfl, rfl⟩
      | false =>
        have h5 : ¬ (4000 : Int) ≤ (q : Int) := by have := of_decide_eq_false e1; omega
        clear e1
        go_show
        go_wp2_with fail
        go_ret
        exact ⟨rfl, rfl⟩
end Go.Proofs.Ytjabpekndgnhmaa
