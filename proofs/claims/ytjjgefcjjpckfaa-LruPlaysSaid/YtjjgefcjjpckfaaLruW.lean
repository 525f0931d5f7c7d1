/- The examples of the list of places are as they are told. Conditions: none. -/
import Derived.Test.YtjjgefcjjpckfaaLruH
import Derived.Test.YtjjgefcjjpckfaaInts15
namespace Go.Proofs.Ytjjgefcjjpckfaa
open Go.RowKit

theorem lru_use_to (b : Nat) (n : Int) (ps : List Nat) (i : Int) (w : World) (hL : Lru w b n ps) (r : Int) (hr : useRes n i = r) (ps' : List Nat) (hp : lUse n ps i = ps') :
    Calls Try.prog 16 #[At b, .int .i64 i] w fun e w' => e = .returned (.int .i64 r) ∧ Lru w' b n ps' ∧ Mod (Only b) w w' := by
  subst hr hp
  exact lru_use b n ps i w hL
theorem lru_drop_to (b : Nat) (n : Int) (ps : List Nat) (i : Int) (w : World) (hL : Lru w b n ps) (r : Bool) (hr : lHas n ps i = r) (ps' : List Nat) (hp : lDrop n ps i = ps') :
    Calls Try.prog 14 #[At b, .int .i64 i] w fun e w' => e = .returned (.bool r) ∧ Lru w' b n ps' ∧ Mod (Only b) w w' := by
  subst hr hp
  exact lru_drop b n ps i w hL
theorem lru_oldest_to (b : Nat) (n : Int) (ps : List Nat) (w : World) (hL : Lru w b n ps) (x : Int) (hx : ((ps.headD 0 : Nat) : Int) = x) (r : Bool) (hr : (!ps.isEmpty) = r) :
    Calls Try.prog 17 #[At b] w fun e w' => e = .returned (.tuple #[.int .i64 x, .bool r]) ∧ w = w' := by
  subst hr hx
  exact lru_oldest b n ps w hL

set_option maxHeartbeats 1000000 in
set_option maxRecDepth 100000 in
theorem awake_c (w : World) : Calls Try.prog 9 #[] w fun e w' => e = .returned (.bool true) ∧ Kept w w' := by
  go_enter Try.func9, Try.ntmps9
  go_wp2_with fail
  refine (lru_new 4 (by omega) (by omega) _).mono ?_
  rintro e w1 ⟨rfl, hL1, hm1⟩
  generalize hg : w.heap.size = g at *
  have HG := Lib.hid hg
  clear hg
  go_wp2_with fail
  refine (lru_use_to g 4 _ 2 _ hL1 0 rfl [2] rfl).mono ?_
  rintro e w2 ⟨rfl, hL2, hm2⟩
  go_wp2_with fail
  refine (lru_use_to g 4 _ 0 _ hL2 0 rfl [2, 0] rfl).mono ?_
  rintro e w3 ⟨rfl, hL3, hm3⟩
  go_wp2_with fail
  refine (lru_use_to g 4 _ 2 _ hL3 0 rfl [0, 2] rfl).mono ?_
  rintro e w4 ⟨rfl, hL4, hm4⟩
  have hk4 : Kept w w4 := (((hm1.only hm2 (Nat.le_of_eq HG.out)).only hm3 (Nat.le_of_eq HG.out)).only hm4 (Nat.le_of_eq HG.out))
  clear hm1 hm2 hm3 hm4 hL1 hL2 hL3
  go_wp2_with fail
  refine (lru_row g 4 _ _ hL4).mono ?_
  rintro e w5 ⟨v5, rfl, hv5, hm5⟩
  have hL5 := hL4.mod hm5 (fun e => e)
  have hr5 : RdI w5 v5 [0, 2] := Rd.of_own hv5
  have hk5 : Kept w w5 := hk4.then hm5
  clear hk4 hm5 hL4 hv5
  go_wp2_with fail
  refine (ints15k _ _ [0, 2] [0, 2] (by simp) true (by simp) _ (hr5.kept ((Kept.refl _).alloc _) (fun _ _ e => e)) (Rd.lit w5 3 2 2 [0, 2] _ rfl rfl)).mono ?_
  rintro e w6 ⟨rfl, hm6⟩
  have hL6 := hL5.mod (((Kept.refl _).alloc _).then hm6) (fun e => e)
  have hk6 : Kept w w6 := (hk5.alloc _).then hm6
  clear hr5 hL5 hk5 hm6
  go_wp2_with fail
  refine (lru_oldest_to g 4 _ _ hL6 0 rfl true rfl).mono ?_
  rintro e w7 ⟨rfl, rfl⟩
  go_wp2_with fail
  refine (lru_drop_to g 4 _ 0 _ hL6 true rfl [2] rfl).mono ?_
  rintro e w8 ⟨rfl, hL8, hm8⟩
  go_wp2_with fail
  refine (lru_drop_to g 4 _ 0 _ hL8 false rfl [2] rfl).mono ?_
  rintro e w9 ⟨rfl, hL9, hm9⟩
  have hk9 : Kept w w9 := (hk6.only hm8 (Nat.le_of_eq HG.out)).only hm9 (Nat.le_of_eq HG.out)
  clear hL8 hm8 hm9 hk6 hL6
  go_wp2_with fail
  refine (lru_row g 4 _ _ hL9).mono ?_
  rintro e wa ⟨va, rfl, hva, hma⟩
  have hLa := hL9.mod hma (fun e => e)
  have hra : RdI wa va [2] := Rd.of_own hva
  have hka : Kept w wa := hk9.then hma
  clear hk9 hma hL9 hva
  go_wp2_with fail
  refine (ints15k _ _ [2] [2] (by simp) true (by simp) _ (hra.kept ((Kept.refl _).alloc _) (fun _ _ e => e)) (Rd.lit wa 3 1 1 [2] _ rfl rfl)).mono ?_
  rintro e wb ⟨rfl, hmb⟩
  have hLb := hLa.mod (((Kept.refl _).alloc _).then hmb) (fun e => e)
  have hkb : Kept w wb := (hka.alloc _).then hmb
  clear hra hLa hka hmb
  go_wp2_with fail
  refine (lru_use_to g 4 _ 4 _ hLb 1 rfl [2] rfl).mono ?_
  rintro e wc ⟨rfl, hLc, hmc⟩
  go_wp2_with fail
  go_ret
  exact ⟨rfl, hkb.only hmc (Nat.le_of_eq HG.out)⟩
end Go.Proofs.Ytjjgefcjjpckfaa
