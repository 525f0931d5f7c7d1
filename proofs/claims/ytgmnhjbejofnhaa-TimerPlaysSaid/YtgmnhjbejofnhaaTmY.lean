/- The document's timers in memory: the first one, Next. Conditions: few things. -/
import Derived.Test.YtgmnhjbejofnhaaTmX
namespace Go.Proofs.Ytgmnhjbejofnhaa
open Go.RowKit Go.Lib

def rdD (D : List (Int × Int)) (k : Nat) : Int := ((D[k]?).map (·.2)).getD 0
theorem rdD_at {D : List (Int × Int)} {k : Nat} (h : k < D.length) : rdD D k = D[k].2 := by unfold rdD; rw [List.getElem?_eq_getElem h]; rfl
/-- The first of the least readings among the first j. -/
def bestO (D : List (Int × Int)) : Nat → Option Nat
  | 0 => none
  | j + 1 => match bestO D j with
    | none => some j
    | some b => if rdD D j < rdD D b then some j else some b
def bestV (D : List (Int × Int)) (j : Nat) : Int := match bestO D j with
  | none => -1
  | some b => (b : Int)
theorem bestO_lt {D : List (Int × Int)} : ∀ {j b : Nat}, bestO D j = some b → b < j
  | 0, b, h => by simp [bestO] at h
  | j + 1, b, h => by
    unfold bestO at h
    cases hb : bestO D j with
    | none => rw [hb] at h; simp at h; omega
    | some c =>
      rw [hb] at h
      have := bestO_lt hb
      simp only at h
      split at h <;> injection h with h <;> omega
def FirstRel (D : List (Int × Int)) (w : World) (k : Nat) (s3 s4 : Value) (wr : World) : Prop :=
  ∃ j : Nat, s4 = .int .i64 j ∧ j + k = D.length ∧ s3 = .int .i64 (bestV D j) ∧ ∃ n, wr = w.drewN n
set_option maxHeartbeats 2000000 in
set_option maxRecDepth 100000 in
theorem first_x (base x : Nat) (v : Value) (D : List (Int × Int)) (w : World) (h : Rx w base x v D) (hl : D.length ≤ 1000) :
    Calls Try.prog 33 #[At x] w fun e w' => e = .returned (.int .i64 (bestV D D.length)) ∧ ∃ n, w' = w.drewN n := by
  have HX := Lib.hid h
  have h0 := h.cell0
  obtain ⟨A, c, rfl⟩ := h.form
  clear h
  go_enter Try.func33, Try.ntmps33
  go_wp2_with fail
  go_loopg [3, 4] D.length (fun k s3 s4 wr => FirstRel D w k s3 s4 wr)
  case atStart => exact ⟨0, rfl, by omega, rfl, 0, rfl⟩
  case round =>
    obtain ⟨j, rfl, hj, rfl, nq, rfl⟩ := hrel
    have HJ := Lib.hid hj
    have hjl : j ≤ D.length := by omega
    clear hj
    by_cases hlt : j < D.length
    · obtain ⟨b1, c1, e1, hb1, _, f2⟩ := HX.out.thing hlt
      injection e1 with e1 _ e1'
      subst e1 e1'
      have i1 : (j : Int) < D.length := by omega
      obtain ⟨y, hy⟩ : ∃ y, (D[j]'hlt).2 = y := ⟨_, rfl⟩
      rw [hy] at f2
      cases hb : bestO D j with
      | none =>
        have e1 : bestV D j = -1 := by unfold bestV; rw [hb]
        have e2 : bestV D (j + 1) = (j : Int) := by unfold bestV bestO; rw [hb]
        have d1 : decide ((-1 : Int) < 0) = true := by decide
        rw [e1]
        have HE := Lib.hid e2
        clear e1 e2 hb hy
        go_wp2_with fail
        go_quiet (fail)
        go_wp2_with fail
        go_roundg (D.length - (j + 1))
        case measure => have := HJ.out; omega
        case rel => exact ⟨j + 1, by go_num, by omega, by rw [HE.out], _, rfl⟩
      | some b =>
        have hbj := bestO_lt hb
        have hbl : b < D.length := by omega
        have e1 : bestV D j = (b : Int) := by unfold bestV; rw [hb]
        obtain ⟨b3, c3, e3, _, _, f3⟩ := HX.out.thing hbl
        injection e3 with e3 _ e3'
        injection e3 with e3
        injection e3 with e3
        subst e3 e3'
        obtain ⟨z, hz⟩ : ∃ z, (D[b]'hbl).2 = z := ⟨_, rfl⟩
        rw [hz] at f3
        have i2 : (b : Int) < D.length := by omega
        have i3 : ¬ (b : Int) < 0 := by omega
        have i4 : (0 : Int) ≤ (b : Int) := by omega
        have d1 : decide ((b : Int) < 0) = false := decide_eq_false i3
        rw [e1]
        have e2 : bestV D (j + 1) = if y < z then (j : Int) else (b : Int) := by
          unfold bestV bestO
          rw [hb]
          simp only
          rw [rdD_at hlt, rdD_at hbl, hy, hz]
          by_cases h : y < z <;> simp [h]
        by_cases hyz : y < z
        · have d2 : decide (y < z) = true := decide_eq_true hyz
          rw [if_pos hyz] at e2
          have HE := Lib.hid e2
          clear e1 e2 hb hy hz hyz
          go_wp2_with fail
          go_quiet (fail)
          go_wp2_with fail
          go_roundg (D.length - (j + 1))
          case measure => have := HJ.out; omega
          case rel => exact ⟨j + 1, by go_num, by omega, by rw [HE.out], _, rfl⟩
        · have d2 : decide (y < z) = false := decide_eq_false hyz
          rw [if_neg hyz] at e2
          have HE := Lib.hid e2
          clear e1 e2 hb hy hz hyz
          go_wp2_with fail
          go_quiet (fail)
          go_wp2_with fail
          go_roundg (D.length - (j + 1))
          case measure => have := HJ.out; omega
          case rel => exact ⟨j + 1, by go_num, by omega, by rw [HE.out], _, rfl⟩
    · obtain rfl : j = D.length := by omega
      go_wp2_with fail
      go_ret
      exact ⟨rfl, _, rfl⟩

def nextD (D : List (Int × Int)) : Value := match bestO D D.length with
  | none => .tuple #[.int .i64 0, .int .i64 0, .bool false]
  | some b => .tuple #[.int .i64 (((D[b]?).map (·.1)).getD 0), .int .i64 (rdD D b), .bool true]
set_option maxHeartbeats 2000000 in
set_option maxRecDepth 100000 in
theorem next_x (base x : Nat) (v : Value) (D : List (Int × Int)) (w : World) (h : Rx w base x v D) (hl : D.length ≤ 1000) :
    Calls Try.prog 26 #[At x] w fun e w' => e = .returned (nextD D) ∧ Kept w w' := by
  have HX := Lib.hid h
  have HF := Lib.hid (first_x base x v D w h hl)
  have h0 := h.cell0
  cases hb : bestO D D.length with
  | none =>
    have e1 : bestV D D.length = -1 := by unfold bestV; rw [hb]
    have e2 : nextD D = .tuple #[.int .i64 0, .int .i64 0, .bool false] := by unfold nextD; rw [hb]
    rw [e1] at HF
    rw [e2]
    clear h hb e1 e2
    go_enter Try.func26, Try.ntmps26
    go_wp2_with (go_at_call 33; refine HF.out.mono ?_; rintro e w1 ⟨rfl, nq, rfl⟩)
    go_ret3
    exact ⟨rfl, (Mod.refl _ _).drewN _⟩
  | some b =>
    have hbl := bestO_lt hb
    obtain ⟨b1, c1, rfl, _, f1, f2⟩ := h.thing hbl
    have e1 : bestV D D.length = (b : Int) := by unfold bestV; rw [hb]
    have e2 : nextD D = .tuple #[.int .i64 (D[b]'hbl).1, .int .i64 (D[b]'hbl).2, .bool true] := by
      unfold nextD
      rw [hb]
      simp only
      rw [rdD_at hbl, List.getElem?_eq_getElem hbl]
      rfl
    have i1 : (b : Int) < D.length := by omega
    have i2 : ¬ (b : Int) < 0 := by omega
    have i3 : (0 : Int) ≤ (b : Int) := by omega
    rw [e1] at HF
    rw [e2]
    obtain ⟨y, hy⟩ : ∃ y, (D[b]'hbl) = y := ⟨_, rfl⟩
    rw [hy] at f1 f2 ⊢
    clear h hb e1 e2 hy
    go_enter Try.func26, Try.ntmps26
    go_wp2_with (go_at_call 33; refine HF.out.mono ?_; rintro e w1 ⟨rfl, nq, rfl⟩)
    go_quiet (fail)
    go_wp2_with fail
    go_ret3
    exact ⟨rfl, ((Mod.refl _ _).drewN _).drewN _⟩
end Go.Proofs.Ytgmnhjbejofnhaa
