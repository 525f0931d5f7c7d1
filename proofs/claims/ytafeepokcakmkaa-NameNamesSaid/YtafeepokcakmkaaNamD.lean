/- Rows of texts turned about, and held against each other: slices.Reverse, slices.Compare. Conditions: at most 1000000000 texts. -/
import Derived.Test.YtafeepokcakmkaaNamC
namespace Go.Proofs.Ytafeepokcakmkaa
open Go.RowKit

/-- Its first k, and its last k, are exchanged. -/
def Turned (L Z : List ByteArray) (k : Nat) : Prop := Z.length = L.length ∧ ∀ m, m < L.length → Z[m]? = if m < k ∨ L.length ≤ m + k then L[L.length - 1 - m]? else L[m]?
theorem Turned.zero (L : List ByteArray) : Turned L L 0 := ⟨rfl, fun m hm => by rw [if_neg (by omega)]⟩
theorem Turned.step {L Z : List ByteArray} {k q : Nat} {x y : ByteArray} (h : Turned L Z k) (hq : q + k + 1 = L.length) (hkq : k < q) (hx : Z[k]? = some x) (hy : Z[q]? = some y) : Turned L ((Z.set k y).set q x) (k + 1) := by
  obtain ⟨h1, h2⟩ := h
  have hxk := h2 k (by omega)
  rw [if_neg (by omega), hx] at hxk
  have hyq := h2 q (by omega)
  rw [if_neg (by omega), hy] at hyq
  refine ⟨by simp [h1], fun m hm => ?_⟩
  rw [List.getElem?_set, List.getElem?_set]
  simp only [List.length_set, h1]
  by_cases e1 : q = m
  · subst e1
    rw [if_pos rfl, if_pos (by omega), if_pos (by omega), hxk]
    congr 1
    omega
  · rw [if_neg e1]
    by_cases e2 : k = m
    · subst e2
      rw [if_pos rfl, if_pos (by omega), if_pos (by omega), hyq]
      congr 1
      omega
    · rw [if_neg e2, h2 m hm]
      by_cases e3 : m < k ∨ L.length ≤ m + k
      · rw [if_pos e3, if_pos (by omega)]
      · rw [if_neg e3, if_neg (by omega)]
theorem Turned.all {L Z : List ByteArray} {k : Nat} (h : Turned L Z k) (hk : L.length ≤ 2 * k + 1) : Z = L.reverse := by
  obtain ⟨h1, h2⟩ := h
  apply List.ext_getElem?
  intro m
  rcases Nat.lt_or_ge m L.length with hm | hm
  · rw [h2 m hm, List.getElem?_reverse hm]
    split
    · rfl
    · congr 1; omega
  · rw [List.getElem?_eq_none (by omega), List.getElem?_eq_none (by simpa using hm)]
def RevRel (L : List ByteArray) (base : Nat) (v : Value) (b : Nat) (w : World) (k : Nat) (i q : Value) (wr : World) : Prop :=
  ∃ (p r : Nat) (Z : List ByteArray), i = .int .i64 p ∧ q = .int .i64 r ∧ r + p + 1 = L.length ∧ p + k = L.length ∧ Turned L Z p ∧ Txs wr base v Z ∧ Mod (Only b) w wr
set_option maxHeartbeats 1000000 in
theorem reverse_any (base : Nat) (A : Option Addr) (c : Nat) (L : List ByteArray) (hl : L.length ≤ 1000000000) (n : Nat) (hn : n = L.length) (w : World) (h : Txs w base (.slice A n c) L) :
    Calls Try.prog 40 #[.slice A n c] w fun e w' => e = .returned (.tuple #[]) ∧ Txs w' base (.slice A n c) L.reverse ∧ Mod (fun k => (Value.slice A n c).ownBlock = some k) w w' := by
  subst hn
  cases hL : L with
  | nil =>
    subst hL
    go_enter Try.func40, Try.ntmps40
    go_wp2_with fail
    go_loopg [2, 3] 0 (fun k i q wr => i = .int .i64 0 ∧ q = .int .i64 (-1) ∧ wr = w)
    case atStart => exact ⟨rfl, rfl, rfl⟩
    case round =>
      obtain ⟨rfl, rfl, rfl⟩ := hrel
      go_wp2_with fail
      go_end0
      exact ⟨rfl, h, Mod.refl _ _⟩
  | cons a L' =>
    rw [← hL]
    have hpos : 1 ≤ L.length := by rw [hL]; simp
    obtain ⟨b, rfl⟩ : ∃ b, A = some ⟨b, 0, none⟩ := by
      rcases h.2 with ⟨h0, h1⟩ | ⟨g, cap, cur, h0, _⟩
      · omega
      · injection h0 with h0 _ _; exact ⟨g, h0⟩
    have H := Lib.hid h
    clear hL h
    go_enter Try.func40, Try.ntmps40
    go_wp2_with fail
    go_loopg [2, 3] L.length (fun k i q wr => RevRel L base (.slice (some ⟨b, 0, none⟩) L.length c) b w k i q wr)
    case atStart => exact ⟨0, L.length - 1, L, rfl, by go_num, by omega, by omega, Turned.zero L, H.out, Mod.refl _ _⟩
    case round =>
      obtain ⟨p, r, Z, rfl, rfl, hr, hp, hT, hX, hm⟩ := hrel
      have HR := Lib.hid hr
      have HP := Lib.hid hp
      have HT := Lib.hid hT
      have HX := Lib.hid hX
      have M := Lib.hid hm
      have hzl : Z.length = L.length := hT.1
      by_cases hlt : p < r
      · have HLT := Lib.hid hlt
        obtain ⟨x, hx⟩ : ∃ x, Z[p]? = some x := ⟨_, List.getElem?_eq_getElem (by omega)⟩
        obtain ⟨y, hy⟩ : ∃ y, Z[r]? = some y := ⟨_, List.getElem?_eq_getElem (by omega)⟩
        have hX2 := hX
        unfold Txs at hX2
        rw [hzl] at hX2
        have f1 := (hX2.cellAt p (by omega)).trans (strVals_get hx)
        have f2 := (hX2.cellAt r (by omega)).trans (strVals_get hy)
        have f3 := hX2.frozenAt p
        have f4 := hX2.frozenAt r
        have i1 : (p : Int) < (r : Int) := by omega
        have i2 : (p : Int) < (L.length : Int) := by omega
        have i3 : (r : Int) < (L.length : Int) := by omega
        have hne : p ≠ r := by omega
        have i4 : (1 : Int) ≤ (r : Int) := by omega
        have hprl : p ≤ 1000000000 := by omega
        have hrrl : r ≤ 1000000000 := by omega
        have HXX := Lib.hid hx
        have HY := Lib.hid hy
        clear hx hy hX hX2 hr hp hT hm hlt hzl
        go_wp2_with fail
        go_region
        all_goals go_wp2_with fail
        go_roundg (L.length - (p + 1))
        case measure => have := HP.out; have := HLT.out; have := HR.out; omega
        case rel =>
          refine ⟨p + 1, r - 1, (Z.set p y).set r x, by go_num, by have := HLT.out; go_num, by have := HLT.out; have := HR.out; omega, by have := HLT.out; have := HR.out; omega, HT.out.step HR.out HLT.out HXX.out HY.out, ?_, ((M.out.at p _).at r _).drew⟩
          have e1 := Txs.set HT.out.1.symm HX.out p y
          have e2 := Txs.set (show L.length = (Z.set p y).length by rw [List.length_set]; exact HT.out.1.symm) e1 r x
          exact e2
      · have HLT := Lib.hid hlt
        have i1 : (r : Int) ≤ (p : Int) := by omega
        have hE := hT.all (by omega)
        subst hE
        have HX2 := Lib.hid hX
        clear hX hr hp hT hm hlt hzl HX HT
        go_wp2_with fail
        go_end0
        exact ⟨rfl, HX2.out, M.out.mono (fun i _ e => by have e : i = b := e; rw [e]; rfl)⟩
def CmpRel (X Y : List ByteArray) (w : World) (k : Nat) (i : Value) (wr : World) : Prop :=
  ∃ j : Nat, i = .int .i64 j ∧ j + k = X.length ∧ j ≤ Y.length ∧ cmpR (lbs X) (lbs Y) = cmpR (lbs (X.drop j)) (lbs (Y.drop j)) ∧ wr = w
theorem cmp_step {X Y : List ByteArray} {j : Nat} {x y : ByteArray} (hx : X[j]? = some x) (hy : Y[j]? = some y) :
    cmpR (lbs (X.drop j)) (lbs (Y.drop j)) = if cmpS (bys x) (bys y) = 0 then cmpR (lbs (X.drop (j + 1))) (lbs (Y.drop (j + 1))) else cmpS (bys x) (bys y) := by
  obtain ⟨h1, h2⟩ := List.getElem?_eq_some_iff.1 hx
  obtain ⟨h3, h4⟩ := List.getElem?_eq_some_iff.1 hy
  rw [List.drop_eq_getElem_cons h1, List.drop_eq_getElem_cons h3, h2, h4]
  rfl
set_option maxHeartbeats 1000000 in
theorem compare_any (v1 v2 : Value) (X Y : List ByteArray) (hx : X.length ≤ 1000000000) (hy : Y.length ≤ 1000000000) (w : World) (h1 : Rd w 1 v1 X.length (strVals X)) (h2 : Rd w 1 v2 Y.length (strVals Y)) :
    Calls Try.prog 42 #[v1, v2] w fun e w' => e = .returned (.int .i64 (cmpR (lbs X) (lbs Y))) ∧ w' = w := by
  have H1 := Lib.hid h1
  have H2 := Lib.hid h2
  obtain ⟨_, A1, c1, rfl, _⟩ := h1
  obtain ⟨_, A2, c2, rfl, _⟩ := h2
  go_enter Try.func42, Try.ntmps42
  go_wp2_with fail
  go_loopg [5, 6, 7, 8, 11] X.length (fun k _ _ _ _ i wr => CmpRel X Y w k i wr)
  case atStart => exact ⟨0, rfl, by omega, by omega, rfl, rfl⟩
  case round =>
    obtain ⟨j, rfl, hj, hjy, hsame, rfl⟩ := hrel
    have HJ := Lib.hid hj
    have HSM := Lib.hid hsame
    have hjl : j ≤ X.length := by omega
    by_cases hlt : j < X.length
    · have HLT := Lib.hid hlt
      obtain ⟨x, hx2⟩ : ∃ x, X[j]? = some x := ⟨_, List.getElem?_eq_getElem hlt⟩
      obtain ⟨b1, o1, d1, e1, hb1, g1⟩ := H1.out.at hlt
      injection e1 with e1 _ e1'
      subst e1 e1'
      have f1 := g1 j _ (strVals_get hx2)
      have i1 : (j : Int) < (X.length : Int) := by omega
      have HX := Lib.hid hx2
      clear hx2 g1 hj hsame hlt
      by_cases hly : j < Y.length
      · have HLY := Lib.hid hly
        obtain ⟨y, hy2⟩ : ∃ y, Y[j]? = some y := ⟨_, List.getElem?_eq_getElem hly⟩
        obtain ⟨b2, o2, d2, e2, hb2, g2⟩ := H2.out.at hly
        injection e2 with e2 _ e2'
        subst e2 e2'
        have f2 := g2 j _ (strVals_get hy2)
        have i2 : (j : Int) < (Y.length : Int) := by omega
        have HY := Lib.hid hy2
        have hcs := cmp_step HX.out hy2
        have ho := row_cmpS.one (bys x) (bys y)
        obtain ⟨cv, hcv⟩ : ∃ cv, cv = cmpS (bys x) (bys y) := ⟨_, rfl⟩
        rw [← hcv] at hcs ho
        have HCV := Lib.hid hcv
        have HCS := Lib.hid hcs
        clear hy2 g2 hly hcs hcv
        by_cases h0 : cv = 0
        · have t1 : (cv != 0) = false := by rw [h0]; rfl
          have H0 := Lib.hid h0
          clear h0 ho
          go_wp2_with fail
          refine (cmp_str x y _).mono ?_
          rintro e w2 ⟨rfl, rfl⟩
          rw [← HCV.out]
          go_wp2_with fail
          go_roundg (X.length - (j + 1))
          case measure => have := HJ.out; have := HLT.out; omega
          case rel => exact ⟨j + 1, by go_num, by have := HLT.out; omega, by have := HLY.out; omega, by rw [HSM.out, HCS.out, if_pos H0.out], rfl⟩
        · have t1 : (cv != 0) = true := by simp [h0]
          have H0 := Lib.hid h0
          clear h0 ho
          go_wp2_with fail
          refine (cmp_str x y _).mono ?_
          rintro e w2 ⟨rfl, rfl⟩
          rw [← HCV.out]
          go_wp2_with fail
          go_ret
          exact ⟨ret_int (by rw [HSM.out, HCS.out, if_neg H0.out]), rfl⟩
      · have i2 : (Y.length : Int) ≤ (j : Int) := by omega
        have hE : cmpR (lbs X) (lbs Y) = 1 := by
          rw [HSM.out, List.drop_eq_nil_of_le (show Y.length ≤ j by omega)]
          obtain ⟨h1, h2⟩ := List.getElem?_eq_some_iff.1 HX.out
          rw [List.drop_eq_getElem_cons h1]
          rfl
        have HE := Lib.hid hE
        clear hE hly
        go_wp2_with fail
        go_ret
        exact ⟨ret_int HE.out.symm, rfl⟩
    · obtain rfl : j = X.length := by omega
      rw [List.drop_length] at hsame
      by_cases hly : X.length < Y.length
      · have i2 : (X.length : Int) < (Y.length : Int) := by omega
        have hE : cmpR (lbs X) (lbs Y) = -1 := by
          rw [hsame, List.drop_eq_getElem_cons hly]
          rfl
        have HE := Lib.hid hE
        clear hE hly hsame hj HSM hlt
        go_wp2_with fail
        go_ret
        exact ⟨ret_int HE.out.symm, rfl⟩
      · have i2 : (Y.length : Int) ≤ (X.length : Int) := by omega
        have hE : cmpR (lbs X) (lbs Y) = 0 := by
          rw [hsame, List.drop_eq_nil_of_le (show Y.length ≤ X.length by omega)]
          rfl
        have HE := Lib.hid hE
        clear hE hly hsame hj HSM hlt
        go_wp2_with fail
        go_ret
        exact ⟨ret_int HE.out.symm, rfl⟩
end Go.Proofs.Ytafeepokcakmkaa
