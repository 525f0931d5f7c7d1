/- So many rounds of the hash's state. Conditions: numbers below 2^64. -/
import Derived.Test.YtjabpekndgnhmaaSipH
namespace Go.Proofs.Ytjabpekndgnhmaa
open Go.RowKit

theorem rot_same (x n : Nat) (hx : x < M64) (hn : 1 ≤ n) (hn2 : n ≤ 63) (w : World) :
    Calls Try.prog 25 #[.int .u64 x, .int .i64 n] w fun e w' => e = .returned (.int .u64 (rotl x n : Nat)) ∧ w' = w := by
  refine (rot_any x n hx hn hn2 w).mono ?_
  rintro e w' ⟨rfl, rfl⟩
  exact ⟨rfl, rfl⟩

theorem at_world {P : World → Prop} {w : World} (Q : World → Prop) (hq : Q w) (h : ∀ w', Q w' → P w') : P w := h w hq
def B4 (w : World) (g : Nat) (a b c d : Nat) : Prop := Blk w g 35 #[.int .u64 a, .int .u64 b, .int .u64 c, .int .u64 d]
theorem B4.cells {w : World} {g a b c d : Nat} (h : B4 w g a b c d) : (w.cell? ⟨g, 0, none⟩ = some (.int .u64 a) ∧ w.cell? ⟨g, 1, none⟩ = some (.int .u64 b) ∧ w.cell? ⟨g, 2, none⟩ = some (.int .u64 c) ∧ w.cell? ⟨g, 3, none⟩ = some (.int .u64 d)) ∧ w.frozen? ⟨g, 0, none⟩ = false ∧ w.frozen? ⟨g, 1, none⟩ = false ∧ w.frozen? ⟨g, 2, none⟩ = false ∧ w.frozen? ⟨g, 3, none⟩ = false :=
  ⟨⟨Blk.cell h 0, Blk.cell h 1, Blk.cell h 2, Blk.cell h 3⟩, Blk.frozen h 0, Blk.frozen h 1, Blk.frozen h 2, Blk.frozen h 3⟩
theorem B4.set0 {w : World} {g a b c d : Nat} (h : B4 w g a b c d) (x : Nat) : B4 (w.setCell ⟨g, 0, none⟩ (.int .u64 x)) g x b c d := Blk.set_ h 0 _
theorem B4.set1 {w : World} {g a b c d : Nat} (h : B4 w g a b c d) (x : Nat) : B4 (w.setCell ⟨g, 1, none⟩ (.int .u64 x)) g a x c d := Blk.set_ h 1 _
theorem B4.set2 {w : World} {g a b c d : Nat} (h : B4 w g a b c d) (x : Nat) : B4 (w.setCell ⟨g, 2, none⟩ (.int .u64 x)) g a b x d := Blk.set_ h 2 _
theorem B4.set3 {w : World} {g a b c d : Nat} (h : B4 w g a b c d) (x : Nat) : B4 (w.setCell ⟨g, 3, none⟩ (.int .u64 x)) g a b c x := Blk.set_ h 3 _
theorem B4.drew {w : World} {g a b c d : Nat} (h : B4 w g a b c d) : B4 w.drew g a b c d := h

def RoundsRel (n : Nat) (v : V4) (w : World) (g : Nat) (k : Nat) (i : Value) (wr : World) : Prop :=
  ∃ j : Nat, i = .int .i64 j ∧ j + k = n ∧ (∃ a b c d : Nat, rnds j v = ⟨a, b, c, d⟩ ∧ B4 wr g a b c d) ∧ Mod (fun _ => False) w wr
set_option maxHeartbeats 2000000 in
set_option maxRecDepth 100000 in
theorem rounds_any (b : Nat) (h : HH) (n : Nat) (hn : n ≤ 1000) (hv : h.v.Ok) (w : World) (hh : IsH w b h) :
    Calls Try.prog 22 #[.pointer (some ⟨b, 0, none⟩), .int .i64 n] w fun e w' => e = .returned (.tuple #[]) ∧ IsH w' b { h with v := rnds n h.v } ∧ Mod (Only b) w w' := by
  have c1 : w.cell? ⟨b, 1, none⟩ = some (.int .u64 h.v.a) := Blk.cell hh 1
  have c2 : w.cell? ⟨b, 2, none⟩ = some (.int .u64 h.v.b) := Blk.cell hh 2
  have c3 : w.cell? ⟨b, 3, none⟩ = some (.int .u64 h.v.c) := Blk.cell hh 3
  have c4 : w.cell? ⟨b, 4, none⟩ = some (.int .u64 h.v.d) := Blk.cell hh 4
  have A1 := add_walk
  have X1 := xor_walk
  have B1 := addM_lt
  have R1 := @rotl_lt
  have HH0 := Lib.hid hh
  have hb0 := Blk.lt hh
  go_enter Try.func22, Try.ntmps22
  go_wp2_with fail
  go_loopg [10] n (fun k i wr => RoundsRel n h.v w w.heap.size k i wr)
  case atStart => exact ⟨0, rfl, by omega, ⟨h.v.a, h.v.b, h.v.c, h.v.d, rfl, Blk.new _ _ _⟩, (Kept.refl _).alloc _⟩
  case round =>
    obtain ⟨j, rfl, hj, ⟨a, b1, c, d, hr, hB⟩, hm⟩ := hrel
    have HJ := Lib.hid hj
    have HR := Lib.hid hr
    have HM := Lib.hid hm
    have hok := rnds_ok j h.v hv
    rw [hr] at hok
    obtain ⟨ha, hb, hc, hd⟩ := hok
    have hjl : j ≤ n := by omega
    clear hj hr c1 c2 c3 c4
    have B0 := Lib.hid hB
    obtain ⟨⟨y0, y1, y2, y3⟩, z0, z1, z2, z3⟩ := hB.cells
    have HH1 := Lib.hid (hh.mod hm (fun e => e))
    have hhr := hh.mod hm (fun e => e)
    have x1 : wr.cell? ⟨b, 1, none⟩ = some (.int .u64 h.v.a) := Blk.cell hhr 1
    have x2 : wr.cell? ⟨b, 2, none⟩ = some (.int .u64 h.v.b) := Blk.cell hhr 2
    have x3 : wr.cell? ⟨b, 3, none⟩ = some (.int .u64 h.v.c) := Blk.cell hhr 3
    have x4 : wr.cell? ⟨b, 4, none⟩ = some (.int .u64 h.v.d) := Blk.cell hhr 4
    have u1 := Blk.frozen hhr 1
    have u2 := Blk.frozen hhr 2
    have u3 := Blk.frozen hhr 3
    have u4 := Blk.frozen hhr 4
    have ha1 := addM_lt a b1
    have hb1 := xor_lt (rotl_lt (n := 13) hb) ha1
    have hc1 := addM_lt c d
    have hd1 := xor_lt (rotl_lt (n := 16) hd) hc1
    have hc2 := addM_lt (addM c d) (xorM (rotl b1 13) (addM a b1))
    clear hB hm hhr
    by_cases hlt : j < n
    · have HL := Lib.hid hlt
      have hlt' : (j : Int) < (n : Int) := by omega
      clear x1 x2 x3 x4 u1 u2 u3 u4 hlt
      go_show
      go_wp2_with fail
      refine at_world (P := Code.wp _ _ _ _) (fun w' => B4 w' w.heap.size (addM a b1) b1 c d ∧ Mod (Only w.heap.size) wr w') ⟨B0.out.set0 _, by first | exact ((((Mod.refl _ _).at _ _).at _ _).at _ _) | exact ((((Mod.refl _ _).at _ _).at _ _).drew) | exact (((Mod.refl _ _).at _ _).at _ _) | exact (((Mod.refl _ _).at _ _).drew) | exact ((Mod.refl _ _).at _ _)⟩ ?_
      clear y0 y1 y2 y3 z0 z1 z2 z3
      rintro w1 ⟨q1, m1⟩
      obtain ⟨⟨y0, y1, y2, y3⟩, z0, z1, z2, z3⟩ := q1.cells
      have Q1 := Lib.hid q1
      have M1 := Lib.hid m1
      clear q1 m1
      refine region_tail 7 (by kernel_rfl) (by kernel_rfl) ?_
      simp only [List.take_succ_cons, List.take_zero, List.drop_succ_cons, List.drop_zero]
      repeat (first | still_step | still_call (rot_same _ 13 hb (by omega) (by omega) _))
      refine wpStill_nil ?_
      go_wp2_with fail
      refine (rot_any _ 32 ha1 (by omega) (by omega) _).mono ?_
      rintro e w2 ⟨rfl, hq⟩
      have q2 : B4 w2 w.heap.size (addM a b1) (xorM (rotl b1 13) (addM a b1)) c d := hq ▸ ((Q1.out.set1 _).drew)
      have m2 : Mod (Only w.heap.size) w1 w2 := hq ▸ (((Mod.refl _ _).at _ _).drew)
      clear hq y0 y1 y2 y3 z0 z1 z2 z3
      obtain ⟨⟨y0, y1, y2, y3⟩, z0, z1, z2, z3⟩ := q2.cells
      have Q2 := Lib.hid q2
      have M2 := Lib.hid m2
      clear q2 m2
      go_wp2_with fail
      refine at_world (P := Code.wp _ _ _ _) (fun w' => B4 w' w.heap.size (rotl (addM a b1) 32) (xorM (rotl b1 13) (addM a b1)) (addM c d) d ∧ Mod (Only w.heap.size) w2 w') ⟨(Q2.out.set0 _).set2 _, by first | exact ((((Mod.refl _ _).at _ _).at _ _).at _ _) | exact ((((Mod.refl _ _).at _ _).at _ _).drew) | exact (((Mod.refl _ _).at _ _).at _ _) | exact (((Mod.refl _ _).at _ _).drew) | exact ((Mod.refl _ _).at _ _)⟩ ?_
      clear y0 y1 y2 y3 z0 z1 z2 z3
      rintro w3 ⟨q3, m3⟩
      obtain ⟨⟨y0, y1, y2, y3⟩, z0, z1, z2, z3⟩ := q3.cells
      have Q3 := Lib.hid q3
      have M3 := Lib.hid m3
      clear q3 m3
      refine region_tail 7 (by kernel_rfl) (by kernel_rfl) ?_
      simp only [List.take_succ_cons, List.take_zero, List.drop_succ_cons, List.drop_zero]
      repeat (first | still_step | still_call (rot_same _ 16 hd (by omega) (by omega) _))
      refine wpStill_nil ?_
      go_wp2_with fail
      refine at_world (P := Code.wp _ _ _ _) (fun w' => B4 w' w.heap.size (addM (rotl (addM a b1) 32) (xorM (rotl d 16) (addM c d))) (xorM (rotl b1 13) (addM a b1)) (addM c d) (xorM (rotl d 16) (addM c d)) ∧ Mod (Only w.heap.size) w3 w') ⟨((Q3.out.set3 _).drew).set0 _, by first | exact ((((Mod.refl _ _).at _ _).at _ _).at _ _) | exact ((((Mod.refl _ _).at _ _).at _ _).drew) | exact (((Mod.refl _ _).at _ _).at _ _) | exact (((Mod.refl _ _).at _ _).drew) | exact ((Mod.refl _ _).at _ _)⟩ ?_
      clear y0 y1 y2 y3 z0 z1 z2 z3
      rintro w4 ⟨q4, m4⟩
      obtain ⟨⟨y0, y1, y2, y3⟩, z0, z1, z2, z3⟩ := q4.cells
      have Q4 := Lib.hid q4
      have M4 := Lib.hid m4
      clear q4 m4
      refine region_tail 7 (by kernel_rfl) (by kernel_rfl) ?_
      simp only [List.take_succ_cons, List.take_zero, List.drop_succ_cons, List.drop_zero]
      repeat (first | still_step | still_call (rot_same _ 21 hd1 (by omega) (by omega) _))
      refine wpStill_nil ?_
      go_wp2_with fail
      refine at_world (P := Code.wp _ _ _ _) (fun w' => B4 w' w.heap.size (addM (rotl (addM a b1) 32) (xorM (rotl d 16) (addM c d))) (xorM (rotl b1 13) (addM a b1)) (addM (addM c d) (xorM (rotl b1 13) (addM a b1))) (xorM (rotl (xorM (rotl d 16) (addM c d)) 21) (addM (rotl (addM a b1) 32) (xorM (rotl d 16) (addM c d)))) ∧ Mod (Only w.heap.size) w4 w') ⟨((Q4.out.set3 _).drew).set2 _, by first | exact ((((Mod.refl _ _).at _ _).at _ _).at _ _) | exact ((((Mod.refl _ _).at _ _).at _ _).drew) | exact (((Mod.refl _ _).at _ _).at _ _) | exact (((Mod.refl _ _).at _ _).drew) | exact ((Mod.refl _ _).at _ _)⟩ ?_
      clear y0 y1 y2 y3 z0 z1 z2 z3
      rintro w5 ⟨q5, m5⟩
      obtain ⟨⟨y0, y1, y2, y3⟩, z0, z1, z2, z3⟩ := q5.cells
      have Q5 := Lib.hid q5
      have M5 := Lib.hid m5
      clear q5 m5
      refine region_tail 7 (by kernel_rfl) (by kernel_rfl) ?_
      simp only [List.take_succ_cons, List.take_zero, List.drop_succ_cons, List.drop_zero]
      repeat (first | still_step | still_call (rot_same _ 17 hb1 (by omega) (by omega) _))
      refine wpStill_nil ?_
      go_wp2_with fail
      refine (rot_any _ 32 hc2 (by omega) (by omega) _).mono ?_
      rintro e w6 ⟨rfl, hq⟩
      have q6 : B4 w6 w.heap.size (addM (rotl (addM a b1) 32) (xorM (rotl d 16) (addM c d))) (xorM (rotl (xorM (rotl b1 13) (addM a b1)) 17) (addM (addM c d) (xorM (rotl b1 13) (addM a b1)))) (addM (addM c d) (xorM (rotl b1 13) (addM a b1))) (xorM (rotl (xorM (rotl d 16) (addM c d)) 21) (addM (rotl (addM a b1) 32) (xorM (rotl d 16) (addM c d)))) := hq ▸ ((Q5.out.set1 _).drew)
      have m6 : Mod (Only w.heap.size) w5 w6 := hq ▸ (((Mod.refl _ _).at _ _).drew)
      clear hq y0 y1 y2 y3 z0 z1 z2 z3
      obtain ⟨⟨y0, y1, y2, y3⟩, z0, z1, z2, z3⟩ := q6.cells
      have Q6 := Lib.hid q6
      have M6 := Lib.hid m6
      clear q6 m6
      go_wp2_with fail
      go_roundg (n - (j + 1))
      case measure => have := HJ.out; have := HL.out; omega
      case rel =>
        refine ⟨j + 1, by go_num, by have := HL.out; omega, ⟨_, _, _, _, ?_, Q6.out.set2 _⟩, ?_⟩
        · rw [rnds_succ, HR.out]; rfl
        · have mm := (((((M1.out.then M2.out).then M3.out).then M4.out).then M5.out).then M6.out).at 2 (.int .u64 (rotl (addM (addM c d) (xorM (rotl b1 13) (addM a b1))) 32 : Nat))
          exact HM.out.only mm (Nat.le_refl _)
    · obtain rfl : j = n := by omega
      have e9 : rnds j h.v = ⟨a, b1, c, d⟩ := HR.out
      have E9 := Lib.hid e9
      clear e9
      go_show
      go_wp2_with fail
      go_end0
      rw [E9.out]
      refine ⟨rfl, ?_, ?_⟩
      · have p1 := HH1.out.set 1 (.int .u64 a) { h with v := ⟨a, h.v.b, h.v.c, h.v.d⟩ } rfl
        have p2 := p1.set 2 (.int .u64 b1) { h with v := ⟨a, b1, h.v.c, h.v.d⟩ } rfl
        have p3 := p2.set 3 (.int .u64 c) { h with v := ⟨a, b1, c, h.v.d⟩ } rfl
        exact p3.set 4 (.int .u64 d) { h with v := ⟨a, b1, c, d⟩ } rfl
      · exact (((((HM.out.mono (fun _ _ e => e.elim)).at _ _).at _ _).at _ _).at _ _)
end Go.Proofs.Ytjabpekndgnhmaa
