/- Whether two slices hold the same numbers. Conditions: lengths below 2^62. -/
import Derived.Test.YtgmnhjbejofnhaaSl
namespace Go.Proofs.Ytgmnhjbejofnhaa
open Go.RowKit

def IntsRel (xs ys : List Int) (w : World) (k : Nat) (i : Value) (wr : World) : Prop :=
  ∃ j : Nat, i = .int .i64 j ∧ j + k = xs.length ∧ (∀ m, m < j → xs[m]? = ys[m]?) ∧ ∃ n, wr = w.drewN n
set_option maxHeartbeats 400000 in
set_option maxRecDepth 100000 in
theorem ints12 (v1 v2 : Value) (xs ys : List Int) (hx : xs.length ≤ 4611686018427387904) (r : Bool) (hr : r = decide (xs = ys)) (w : World) (h1 : RdI w v1 xs) (h2 : RdI w v2 ys) :
    Calls Try.prog 15 #[v1, v2] w fun e w' => e = .returned (.bool r) ∧ ∃ n, w' = w.drewN n := by
  subst hr
  have H1 := Lib.hid h1
  have H2 := Lib.hid h2
  obtain ⟨_, A1, c1, rfl, _⟩ := h1
  obtain ⟨_, A2, c2, rfl, _⟩ := h2
  by_cases hl : xs.length = ys.length
  · have d1 : ((xs.length : Int) != (ys.length : Int)) = false := by simp [hl]
    have HL := Lib.hid hl
    have hle : ys.length ≤ 4611686018427387904 := by omega
    clear hl
    go_enter Try.func15, Try.ntmps15
    go_wp2
    clear d1
    go_loopg [5] xs.length (fun k i wr => IntsRel xs ys w k i wr)
    case atStart => exact ⟨0, rfl, by omega, fun m hm => by omega, 0, rfl⟩
    case round =>
      obtain ⟨j, rfl, hj, hsame, n, rfl⟩ := hrel
      have HS := Lib.hid hsame
      have HJ := Lib.hid hj
      have hjl : j ≤ xs.length := by omega
      clear hsame hj
      by_cases hlt : j < xs.length
      · obtain ⟨b1, o1, c1', e1, _, g1⟩ := H1.out.at hlt
        injection e1 with e1 _ e1'
        subst e1 e1'
        have hlt2 : j < ys.length := by have := HL.out; omega
        obtain ⟨b2, o2, c2', e2, _, g2⟩ := H2.out.at hlt2
        injection e2 with e2 _ e2'
        subst e2 e2'
        have f1 := g1 j _ (ints_get xs j hlt)
        have f2 := g2 j _ (ints_get ys j hlt2)
        clear g1 g2
        have i1 : (j : Int) < xs.length := by omega
        have i2 : (j : Int) < ys.length := by omega
        by_cases he : xs[j] = ys[j]
        · have d2 : (xs[j] != ys[j]) = false := by simp [he]
          have HE := Lib.hid he
          clear he
          go_wp2
          go_quiet (fail)
          go_wp2
          go_roundg (xs.length - (j + 1))
          case measure => have := HJ.out; omega
          case rel =>
            refine ⟨j + 1, by go_num, by omega, fun m hm => ?_, _, rfl⟩
            by_cases e : m = j
            · subst e
              rw [List.getElem?_eq_getElem hlt, List.getElem?_eq_getElem hlt2, HE.out]
            · exact HS.out m (by omega)
        · have d2 : (xs[j] != ys[j]) = true := by simp [he]
          have hne : xs ≠ ys := by rintro rfl; exact he rfl
          have HN := Lib.hid hne
          clear he hne
          go_wp2
          go_quiet (fail)
          go_wp2
          go_ret
          exact ⟨ret_bool (decide_eq_false HN.out).symm, _, World.drewN_drewN _ _ _⟩
      · have e : xs = ys := by
          apply List.ext_getElem?
          intro m
          by_cases hm : m < j
          · exact HS.out m hm
          · have := HL.out
            rw [List.getElem?_eq_none (by omega), List.getElem?_eq_none (by omega)]
        have HE := Lib.hid e
        clear e
        go_wp2
        go_ret
        exact ⟨ret_bool (decide_eq_true HE.out).symm, _, rfl⟩
  · have d1 : ((xs.length : Int) != (ys.length : Int)) = true := by simp; omega
    have hne : xs ≠ ys := by rintro rfl; exact hl rfl
    have HN := Lib.hid hne
    clear hl hne
    go_enter Try.func15, Try.ntmps15
    go_wp2
    go_ret
    exact ⟨ret_bool (decide_eq_false HN.out).symm, 0, rfl⟩
theorem ints12k (v1 v2 : Value) (xs ys : List Int) (hx : xs.length ≤ 4611686018427387904) (r : Bool) (hr : r = decide (xs = ys)) (w : World) (h1 : RdI w v1 xs) (h2 : RdI w v2 ys) :
    Calls Try.prog 15 #[v1, v2] w fun e w' => e = .returned (.bool r) ∧ Kept w w' := by
  refine (ints12 v1 v2 xs ys hx r hr w h1 h2).mono ?_
  rintro e w' ⟨rfl, n, rfl⟩
  exact ⟨rfl, (Kept.refl _).drewN n⟩
end Go.Proofs.Ytgmnhjbejofnhaa
