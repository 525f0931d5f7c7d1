/- The hash in memory, and its inner functions. Conditions: numbers below 2^64. -/
import Derived.Test.YtjabpekndgnhmaaSipR
namespace Go.Proofs.Ytjabpekndgnhmaa
open Go.RowKit

structure HH where
  made : Bool
  v : V4
  left : Nat → Nat
  n : Nat
def HH.cells (h : HH) : Array Value := #[.bool h.made, .int .u64 h.v.a, .int .u64 h.v.b, .int .u64 h.v.c, .int .u64 h.v.d, .int .u8 (h.left 0 : Nat), .int .u8 (h.left 1 : Nat), .int .u8 (h.left 2 : Nat), .int .u8 (h.left 3 : Nat), .int .u8 (h.left 4 : Nat), .int .u8 (h.left 5 : Nat), .int .u8 (h.left 6 : Nat), .int .u8 (h.left 7 : Nat), .int .i64 h.n]
def IsH (w : World) (b : Nat) (h : HH) : Prop := Blk w b 38 h.cells
def upd {α : Type} (f : Nat → α) (i : Nat) (v : α) : Nat → α := fun k => if k = i then v else f k

theorem lt8 {i : Nat} (h : i < 8) : i = 0 ∨ i = 1 ∨ i = 2 ∨ i = 3 ∨ i = 4 ∨ i = 5 ∨ i = 6 ∨ i = 7 := by omega
theorem HH.set_left (h : HH) {i : Nat} (hi : i < 8) (x : Nat) : h.cells.setIfInBounds (5 + i) (.int .u8 x) = { h with left := upd h.left i x }.cells := by
  rcases lt8 hi with rfl | rfl | rfl | rfl | rfl | rfl | rfl | rfl <;> rfl
theorem HH.get_left (h : HH) {i : Nat} (hi : i < 8) : h.cells[5 + i]? = some (.int .u8 (h.left i : Nat)) := by
  rcases lt8 hi with rfl | rfl | rfl | rfl | rfl | rfl | rfl | rfl <;> rfl
theorem IsH.set {w : World} {b : Nat} {h : HH} (hh : IsH w b h) (i : Nat) (u : Value) (h' : HH) (he : h.cells.setIfInBounds i u = h'.cells) : IsH (w.setCell ⟨b, i, none⟩ u) b h' := by
  unfold IsH; rw [← he]; exact Blk.set_ hh i u
theorem IsH.drew {w : World} {b : Nat} {h : HH} (hh : IsH w b h) : IsH w.drew b h := hh
theorem IsH.drewN {w : World} {b : Nat} {h : HH} (hh : IsH w b h) (n : Nat) : IsH (w.drewN n) b h := hh
theorem IsH.mod {S : Nat → Prop} {w w' : World} {b : Nat} {h : HH} (hh : IsH w b h) (hm : Mod S w w') (hn : ¬ S b) : IsH w' b h := Blk.mod hh hm hn

set_option maxHeartbeats 400000 in
theorem begin_any (w : World) : Calls Try.prog 24 #[] w fun e w' =>
    e = .returned (.agg #[.int .u64 sc0, .int .u64 sc1, .int .u64 sc2, .int .u64 sc3]) ∧ Kept w w' := by
  go_enter Try.func24, Try.ntmps24
  go_wp2
  refine bodyPost_ret (v := .agg #[.int .u64 sc0, .int .u64 sc1, .int .u64 sc2, .int .u64 sc3]) ?_ rfl ⟨rfl, (Kept.refl _).alloc _⟩
  simp [results, Try.results24, go_sem]
  exact ⟨rfl, rfl, rfl, rfl⟩

set_option maxHeartbeats 1000000 in
set_option maxRecDepth 100000 in
theorem start_any (b : Nat) (h : HH) (k0 k1 : Nat) (h0 : k0 < M64) (h1 : k1 < M64) (w : World) (hh : IsH w b h) :
    Calls Try.prog 19 #[.pointer (some ⟨b, 0, none⟩), .int .u64 k0, .int .u64 k1] w fun e w' => e = .returned (.tuple #[]) ∧ IsH w' b { h with made := true, v := start k0 k1 } ∧ Mod (Only b) w w' := by
  have X1 := xor_walk
  have l0 := sc0_lt
  have l1 := sc1_lt
  have l2 := sc2_lt
  have l3 := sc3_lt
  have HH0 := Lib.hid hh
  go_enter Try.func19, Try.ntmps19
  go_wp2_with fail
  refine (begin_any _).mono ?_
  rintro e w1 ⟨rfl, hm1⟩
  have hh1 := hh.mod hm1 (fun e => e)
  have c0 : w1.cell? ⟨b, 0, none⟩ = some (.bool h.made) := Blk.cell hh1 0
  have c1 : w1.cell? ⟨b, 1, none⟩ = some (.int .u64 h.v.a) := Blk.cell hh1 1
  have c2 : w1.cell? ⟨b, 2, none⟩ = some (.int .u64 h.v.b) := Blk.cell hh1 2
  have c3 : w1.cell? ⟨b, 3, none⟩ = some (.int .u64 h.v.c) := Blk.cell hh1 3
  have c4 : w1.cell? ⟨b, 4, none⟩ = some (.int .u64 h.v.d) := Blk.cell hh1 4
  have z0 := Blk.frozen hh1 0
  have z1 := Blk.frozen hh1 1
  have z2 := Blk.frozen hh1 2
  have z3 := Blk.frozen hh1 3
  have z4 := Blk.frozen hh1 4
  go_wp2_with fail
  go_region
  go_wp2_with fail
  go_region
  go_wp2_with fail
  go_region
  go_wp2_with fail
  go_region
  go_end0
  have q0 := hh1.set 0 (.bool true) { h with made := true } rfl
  have q1 := q0.set 1 (.int .u64 sc0) { h with made := true, v := ⟨sc0, h.v.b, h.v.c, h.v.d⟩ } rfl
  have q2 := q1.set 2 (.int .u64 sc1) { h with made := true, v := ⟨sc0, sc1, h.v.c, h.v.d⟩ } rfl
  have q3 := q2.set 3 (.int .u64 sc2) { h with made := true, v := ⟨sc0, sc1, sc2, h.v.d⟩ } rfl
  have q4 := q3.set 4 (.int .u64 sc3) { h with made := true, v := ⟨sc0, sc1, sc2, sc3⟩ } rfl
  have q5 := q4.set 1 (.int .u64 (xorM sc0 k0 : Nat)) { h with made := true, v := ⟨xorM sc0 k0, sc1, sc2, sc3⟩ } rfl
  have q6 := q5.set 2 (.int .u64 (xorM sc1 k1 : Nat)) { h with made := true, v := ⟨xorM sc0 k0, xorM sc1 k1, sc2, sc3⟩ } rfl
  have q7 := q6.set 3 (.int .u64 (xorM sc2 k0 : Nat)) { h with made := true, v := ⟨xorM sc0 k0, xorM sc1 k1, xorM sc2 k0, sc3⟩ } rfl
  have q8 := q7.set 4 (.int .u64 (xorM sc3 k1 : Nat)) { h with made := true, v := start k0 k1 } rfl
  exact ⟨rfl, q8.drew.drew.drew.drew, (((((((((((Mod.mono hm1 (fun _ _ e => e.elim) : Mod (Only b) w w1).at _ _).at _ _).at _ _).at _ _).at _ _).at _ _).at _ _).at _ _).at _ _).drew).drew.drew.drew⟩

set_option maxHeartbeats 400000 in
theorem ready_any (b : Nat) (h : HH) (w : World) (hh : IsH w b h) :
    Calls Try.prog 20 #[.pointer (some ⟨b, 0, none⟩)] w fun e w' => e = .returned (.tuple #[]) ∧ IsH w' b (if h.made then h else { h with made := true, v := start 0 0 }) ∧ Mod (Only b) w w' := by
  have c0 : w.cell? ⟨b, 0, none⟩ = some (.bool h.made) := Blk.cell hh 0
  cases hm : h.made with
  | true =>
    rw [hm] at c0
    go_enter Try.func20, Try.ntmps20
    go_wp2_with fail
    go_end0
    exact ⟨rfl, hh, Mod.refl _ _⟩
  | false =>
    rw [hm] at c0
    have HS := Lib.hid (start_any b h 0 0 (by decide) (by decide) w hh)
    go_enter Try.func20, Try.ntmps20
    go_wp2_with fail
    refine HS.out.mono ?_
    rintro e w1 ⟨rfl, h1, h2⟩
    go_wp2_with fail
    go_end0
    exact ⟨rfl, h1, h2⟩
end Go.Proofs.Ytjabpekndgnhmaa
