/- A list of places behind acts: what 'made' makes. Conditions: at most 1000 acts. -/
import Derived.Test.YtjjgefcjjpckfaaLruW
namespace Go.Proofs.Ytjjgefcjjpckfaa
open Go.RowKit

def actCells (l : List (Int × Int)) : List Value := l.flatMap fun a => [.int .u8 a.1, .int .i64 a.2]
theorem actCells_len (l : List (Int × Int)) : (actCells l).length = l.length * 2 := by
  induction l with
  | nil => rfl
  | cons a l ih => simp [actCells] at ih ⊢; omega
theorem actCells_get (l : List (Int × Int)) : ∀ (k : Nat) (h : k < l.length), (actCells l)[k * 2]? = some (.int .u8 (l[k]).1) ∧ (actCells l)[k * 2 + 1]? = some (.int .i64 (l[k]).2) := by
  induction l with
  | nil => intro k h; exact absurd h (by simp)
  | cons a l ih =>
    intro k h
    have e : actCells (a :: l) = .int .u8 a.1 :: .int .i64 a.2 :: actCells l := rfl
    cases k with
    | zero => exact ⟨rfl, rfl⟩
    | succ k =>
      have := ih k (by simpa using h)
      rw [e, show (k + 1) * 2 = k * 2 + 2 by omega]
      simpa using this
abbrev RdA (w : World) (v : Value) (l : List (Int × Int)) : Prop := Rd w 2 v l.length (actCells l)

def mAct (n : Int) (ps : List Nat) (a : Int × Int) : List Nat := if a.1 = 0 then lUse n ps a.2 else if a.1 = 1 then lDrop n ps a.2 else ps
def kOf (n : Int) : Int := 1 + n % 256
def mRow (n : Int) (l : List (Int × Int)) : List Nat := l.foldl (mAct n) []
theorem mRow_snoc (n : Int) (l : List (Int × Int)) (j : Nat) (h : j < l.length) : mRow n (l.take (j + 1)) = mAct n (mRow n (l.take j)) l[j] := by
  unfold mRow
  rw [List.take_add_one, List.getElem?_eq_getElem h, List.foldl_append]
  rfl
theorem kOf_eq (n : Int) : wrap64 (1 + wrap64 ((IntKind.u64.wrap n).tmod 256)) = kOf n := by
  have h : (IntKind.u64.wrap n).tmod 256 = n % 256 := by
    show (n % 18446744073709551616).tmod 256 = _
    rw [Int.tmod_eq_emod_of_nonneg (by omega)]
    omega
  have h2 : wrap64 (n % 256) = n % 256 := IntWalk.wrap64_in _ (by omega)
  rw [h, h2, IntWalk.wrap64_in _ (by omega)]
  rfl

def MadeRel (acts : List (Int × Int)) (n : Int) (g : Nat) (w : World) (k : Nat) (i : Value) (wr : World) : Prop :=
  ∃ j : Nat, i = .int .i64 j ∧ j + k = acts.length ∧ Lru wr g n (mRow n (acts.take j)) ∧ Kept w wr
set_option maxHeartbeats 1000000 in
set_option maxRecDepth 100000 in
theorem made_c (n : Int) (v : Value) (acts : List (Int × Int)) (hl : acts.length ≤ 1000) (w : World) (hv : RdA w v acts) :
    Calls Try.prog 10 #[.int .i64 n, v] w fun e w' => e = .returned (.tuple #[At w.heap.size, .int .i64 (kOf n)]) ∧ Lru w' w.heap.size (kOf n) (mRow (kOf n) acts) ∧ Kept w w' := by
  have hk0 : 1 ≤ kOf n := by unfold kOf; omega
  have hk1 : kOf n ≤ 256 := by unfold kOf; omega
  have H := Lib.hid hv
  obtain ⟨_, A, c, rfl, _⟩ := hv
  go_enter Try.func10, Try.ntmps10
  go_wp2_with fail
  rw [kOf_eq]
  refine (lru_new (kOf n) (by omega) hk1 _).mono ?_
  rintro e w1 ⟨rfl, hL1, hm1⟩
  have hgl := hL1.lt
  generalize hg : w.heap.size = g at *
  have HG := Lib.hid hg
  clear hg
  go_wp2_with fail
  go_loopg [9] acts.length (fun k i wr => MadeRel acts (kOf n) g w k i wr)
  case atStart => exact ⟨0, rfl, by omega, hL1, hm1⟩
  case round =>
    obtain ⟨j, rfl, hj, hL, hm⟩ := hrel
    have HJ := Lib.hid hj
    have hjl : j ≤ acts.length := by omega
    have HS := Lib.hid (mRow_snoc (kOf n) acts j)
    clear hj hL1 hm1
    by_cases hlt : j < acts.length
    · obtain ⟨b1, o1, c1', e1, hb, g1⟩ := H.out.at hlt
      injection e1 with e1 _ e1'
      subst e1 e1'
      obtain ⟨q1, q2⟩ := actCells_get acts j hlt
      have f1 := g1 _ _ q1
      have f2 := g1 _ _ q2
      clear g1 q1 q2
      rw [← hm.cell (p := ⟨b1, o1 + j * 2, none⟩) hb (fun e => e)] at f1
      rw [← hm.cell (p := ⟨b1, o1 + (j * 2 + 1), none⟩) hb (fun e => e), ← Nat.add_assoc] at f2
      have i1 : (j : Int) < acts.length := by omega
      have hs := HS.out hlt
      generalize acts[j] = a at *
      obtain ⟨a1, a2⟩ := a
      have HE := Lib.hid hs
      clear HS hs
      have HM := Lib.hid hm
      clear hm
      by_cases h0 : a1 = 0
      · have hs : mRow (kOf n) (acts.take (j + 1)) = lUse (kOf n) (mRow (kOf n) (acts.take j)) a2 := by rw [HE.out]; simp [mAct, h0]
        have HE2 := Lib.hid hs
        have t0 : (a1 == 0) = true := by simp [h0]
        have t1 : (a1 == 1) = false := by simp [h0]
        clear HE hs h0
        go_wp2_with fail
        refine (lru_use g _ _ a2 _ hL).mono ?_
        rintro e w2 ⟨rfl, hL2, hm2⟩
        go_wp2_with fail
        go_roundg (acts.length - (j + 1))
        case measure => have := HJ.out; omega
        case rel => exact ⟨j + 1, by go_num, by omega, by rw [HE2.out]; exact hL2, HM.out.only hm2 (Nat.le_of_eq HG.out)⟩
      · by_cases h1 : a1 = 1
        · have hs : mRow (kOf n) (acts.take (j + 1)) = lDrop (kOf n) (mRow (kOf n) (acts.take j)) a2 := by rw [HE.out]; simp [mAct, h1]
          have HE2 := Lib.hid hs
          have t0 : (a1 == 0) = false := by simp [h1]
          have t1 : (a1 == 1) = true := by simp [h1]
          clear HE hs h0 h1
          go_wp2_with fail
          refine (lru_drop g _ _ a2 _ hL).mono ?_
          rintro e w2 ⟨rfl, hL2, hm2⟩
          go_wp2_with fail
          go_roundg (acts.length - (j + 1))
          case measure => have := HJ.out; omega
          case rel => exact ⟨j + 1, by go_num, by omega, by rw [HE2.out]; exact hL2, HM.out.only hm2 (Nat.le_of_eq HG.out)⟩
        · have hs : mRow (kOf n) (acts.take (j + 1)) = mRow (kOf n) (acts.take j) := by rw [HE.out]; simp [mAct, h0, h1]
          have HE2 := Lib.hid hs
          have t0 : (a1 == 0) = false := by simp [h0]
          have t1 : (a1 == 1) = false := by simp [h1]
          clear HE hs h0 h1
          go_wp2_with fail
          go_roundg (acts.length - (j + 1))
          case measure => have := HJ.out; omega
          case rel => exact ⟨j + 1, by go_num, by omega, by rw [HE2.out]; exact hL, HM.out⟩
    · obtain rfl : j = acts.length := by omega
      have e0 : acts.take acts.length = acts := List.take_length
      rw [e0] at hL
      have HE := Lib.hid e0
      clear e0
      go_wp2_with fail
      go_ret2
      obtain rfl := HG.out
      exact ⟨rfl, hL, hm⟩
end Go.Proofs.Ytjjgefcjjpckfaa
