/- Whether a thing is the last one of its number: the law's own loop. Conditions: the place is one of the row; few things. -/
import Derived.Test.YtgmnhjbejofnhaaTmL
namespace Go.Proofs.Ytgmnhjbejofnhaa
open Go.RowKit Go.Lib

def LastRel (l : List (Int × Int)) (i : Nat) (hi : i < l.length) (w : World) (k : Nat) (s5 : Value) (wr : World) : Prop :=
  ∃ j : Nat, s5 = .int .i64 j ∧ j + k = l.length ∧ i < j ∧ (∀ m (h : m < l.length), i < m → m < j → l[m].1 ≠ l[i].1) ∧ ∃ n, wr = w.drewN n
set_option maxHeartbeats 1000000 in
set_option maxRecDepth 100000 in
theorem last_c (v : Value) (l : List (Int × Int)) (i : Nat) (hi : i < l.length) (hl : l.length ≤ 1000) (w : World) (hv : RdS w v l) :
    Calls Try.prog 13 #[v, .int .i64 i] w fun e w' => e = .returned (.bool (lastB l i)) ∧ ∃ n, w' = w.drewN n := by
  obtain ⟨r, hr⟩ : ∃ r, lastB l i = r := ⟨_, rfl⟩
  rw [hr]
  have HR := Lib.hid hr
  have H := Lib.hid hv
  obtain ⟨_, A, c, rfl, _⟩ := hv
  have HI := Lib.hid hi
  have hw1 : IntKind.i64.wrap ((i : Int) + 1) = (i : Int) + 1 := by rw [IntKind.wrap_i64]; omega
  clear hr
  go_enter Try.func13, Try.ntmps13
  go_wp2_with fail
  go_loopg [5] (l.length - (i + 1)) (fun k s5 wr => LastRel l i HI.out w k s5 wr)
  case atStart => exact ⟨i + 1, by go_num, by omega, by omega, fun m h h1 h2 => by omega, 0, rfl⟩
  case round =>
    obtain ⟨j, rfl, hj, hij, hne, nq, rfl⟩ := hrel
    have HJ := Lib.hid hj
    have HN := Lib.hid hne
    have HIJ := Lib.hid hij
    have hjl : j ≤ l.length := by omega
    clear hj hne hij
    by_cases hlt : j < l.length
    · obtain ⟨b1, o1, c1', e1, hb, g1⟩ := H.out.at hlt
      injection e1 with e1 _ e1'
      subst e1 e1'
      have f1 := g1 _ _ (setC_get l j hlt).1
      have f2 := g1 _ _ (setC_get l i hi).1
      clear g1
      have i1 : (j : Int) < l.length := by omega
      have i2 : (i : Int) < l.length := by omega
      obtain ⟨x, hx⟩ : ∃ x, (l[j]'hlt).1 = x := ⟨_, rfl⟩
      obtain ⟨y, hy⟩ : ∃ y, (l[i]'hi).1 = y := ⟨_, rfl⟩
      rw [hx] at f1
      rw [hy] at f2
      have HX := Lib.hid (And.intro hx hy)
      clear hx hy
      by_cases he : x = y
      · have d1 : (x == y) = true := by simp [he]
        have hf : r = false := by
          rw [← HR.out]
          cases hb : lastB l i with
          | false => rfl
          | true =>
            have := (lastB_iff hi).1 hb j hlt HIJ.out
            rw [HX.out.1, HX.out.2] at this
            exact absurd he this
        subst hf
        go_wp2_with fail
        go_quiet (fail)
        go_wp2_with fail
        go_ret
        exact ⟨rfl, _, World.drewN_drewN _ _ _⟩
      · have d1 : (x == y) = false := by simp [he]
        have HE := Lib.hid he
        clear he
        go_wp2_with fail
        go_quiet (fail)
        go_wp2_with fail
        go_roundg (l.length - (j + 1))
        case measure => have := HJ.out; omega
        case rel =>
          refine ⟨j + 1, by go_num, by omega, by have := HIJ.out; omega, fun m h h1 h2 => ?_, _, rfl⟩
          by_cases e : m = j
          · subst e
            rw [HX.out.1, HX.out.2]
            exact HE.out
          · exact HN.out m h h1 (by omega)
    · have ht : r = true := by
        rw [← HR.out, lastB_iff hi]
        intro k hk hik
        exact HN.out k hk hik (by omega)
      subst ht
      go_wp2_with fail
      go_ret
      exact ⟨rfl, _, rfl⟩
end Go.Proofs.Ytgmnhjbejofnhaa
