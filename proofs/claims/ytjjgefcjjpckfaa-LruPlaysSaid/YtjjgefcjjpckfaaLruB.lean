/- The exported functions of the list of places: what each call answers, and what it leaves, said of the list as it lies in memory. Conditions: slots in range. -/
import Derived.Test.YtjjgefcjjpckfaaLruA
import Derived.Test.YtjjgefcjjpckfaaMem
namespace Go.Proofs.Ytjjgefcjjpckfaa
open Go.RowKit

/-- Every link leads to a slot; the count is that of the slots that are in. -/
structure LL.Ok (L : LL) : Prop where
  next : ∀ i, i < 257 → L.next i < 257
  prev : ∀ i, i < 257 → L.prev i < 257
  len0 : 0 ≤ L.len
  len1 : L.len ≤ 256
  lenIn : ∀ i, i < 257 → L.inn i = true → 1 ≤ L.len
  n0 : 0 ≤ L.n
  n1 : L.n ≤ 256

set_option maxHeartbeats 400000 in
theorem out_any (b : Nat) (L : LL) (hk : L.Ok) (s : Nat) (hs : s < 257) (w : World) (hL : IsL w b L) :
    Calls Try.prog 28 #[At b, .int .i64 s] w fun e w' => e = .returned (.tuple #[]) ∧ IsL w' b (L.out s) ∧ Mod (Only b) w w' := by
  cases h : L.inn s with
  | true => exact out_yes b L s hs h (hk.next s hs) (hk.prev s hs) (hk.lenIn s hs h) hk.len1 w hL
  | false =>
    refine (out_no b L s hs h w hL).mono ?_
    rintro e w' ⟨rfl, rfl⟩
    refine ⟨rfl, ?_, Mod.refl _ _⟩
    unfold LL.out
    rw [if_neg (by rw [h]; exact Bool.false_ne_true)]
    exact hL

theorem out_at (b : Nat) (L : LL) (hk : L.Ok) (s : Nat) (X : Int) (hX : X = s) (hs : s < 257) (w : World) (hL : IsL w b L) :
    Calls Try.prog 28 #[At b, .int .i64 X] w fun e w' => e = .returned (.tuple #[]) ∧ IsL w' b (L.out s) ∧ Mod (Only b) w w' := by
  subst hX
  exact out_any b L hk s hs w hL

set_option maxHeartbeats 400000 in
theorem use_nil (i : Int) (w : World) :
    Calls Try.prog 16 #[.pointer none, .int .i64 i] w fun e w' => e = .returned (.int .i64 2) ∧ w = w' := by
  go_enter Try.func16, Try.ntmps16
  go_wp2
  go_ret
  exact ⟨rfl, rfl⟩

set_option maxHeartbeats 400000 in
theorem use_bad (b : Nat) (L : LL) (i : Int) (hi : ¬ (0 ≤ i ∧ i < L.n)) (w : World) (hL : IsL w b L) :
    Calls Try.prog 16 #[At b, .int .i64 i] w fun e w' => e = .returned (.int .i64 1) ∧ w = w' := by
  have hd : decide (0 ≤ i ∧ i < L.n) = false := by simpa using hi
  have h := is_any b L i w hL
  rw [hd] at h
  have H := Lib.hid h
  clear h hd hi
  go_enter Try.func16, Try.ntmps16
  go_wp2_with (go_at_call 27; refine H.out.mono ?_; rintro e w1 ⟨rfl, rfl⟩)
  go_ret
  exact ⟨rfl, rfl⟩

set_option maxHeartbeats 400000 in
theorem use_ok (b : Nat) (L : LL) (hk : L.Ok) (s : Nat) (hk' : (L.out (s + 1)).prev 0 < 257) (hi : (s : Int) < L.n) (hl : (L.out (s + 1)).len ≤ 255) (hl0 : 0 ≤ (L.out (s + 1)).len) (w : World) (hL : IsL w b L) :
    Calls Try.prog 16 #[At b, .int .i64 s] w fun e w' => e = .returned (.int .i64 0) ∧ IsL w' b (L.use (s + 1)) ∧ Mod (Only b) w w' := by
  have hn1 := hk.n1
  have hs : s + 1 < 257 := by omega
  have hd : decide (0 ≤ (s : Int) ∧ (s : Int) < L.n) = true := by simp; omega
  have h := is_any b L s w hL
  rw [hd] at h
  have H := Lib.hid h
  have HK := Lib.hid hk
  clear h hd hk
  go_enter Try.func16, Try.ntmps16
  go_wp2_with (go_at_call 27; refine H.out.mono ?_; rintro e w1 ⟨rfl, rfl⟩)
  refine (out_at b L HK.out (s + 1) _ (by omega) hs _ hL).mono ?_
  rintro e w1 ⟨rfl, hL1, hm1⟩
  have g1 := hL1.prev (i := 0) (by omega)
  go_wp2_with (fail)
  refine (join_at b _ _ (s + 1) _ _ rfl (by omega) hk' hs _ hL1).mono ?_
  rintro e w2 ⟨rfl, hL2, hm2⟩
  go_wp2_with (fail)
  refine (join_at b _ (s + 1) 0 _ _ (by omega) rfl hs (by omega) _ hL2).mono ?_
  rintro e w3 ⟨rfl, hL3, hm3⟩
  have g3 := hL3.inn hs
  have k3 := hL3.fz (516 + (s + 1))
  have g4 := hL3.len
  have k4 := hL3.fz 1
  have e4 : ((((L.out (s + 1)).join ((L.out (s + 1)).prev 0) (s + 1)).join (s + 1) 0)).len = (L.out (s + 1)).len := rfl
  rw [e4] at g4
  have i1 : ((s : Int) + 1) < 257 := by omega
  go_wp2
  go_ret
  refine ⟨rfl, ?_, ?_⟩
  · exact ((hL3.set_in hs true).set_len _)
  · exact (((hm1.then hm2).then hm3).at _ _).at _ _
end Go.Proofs.Ytjjgefcjjpckfaa
