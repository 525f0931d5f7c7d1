/- The hash's other functions. Conditions: fewer than 2^62 bytes in all. -/
import Derived.Test.YtjabpekndgnhmaaSipW
import Derived.Laws.CopyOwn
namespace Go.Proofs.Ytjabpekndgnhmaa
open Go.RowKit

def HH0 : HH := ⟨false, ⟨0, 0, 0, 0⟩, fun _ => 0, 0⟩
noncomputable def newH (k0 k1 : Nat) : HH := ⟨true, start k0 k1, fun _ => 0, 0⟩
def lastH (h : HH) : Nat → Nat := fun i => if i = 7 then h.n % 256 else if i < h.n % 8 then h.left i else 0
noncomputable def sumH (h : HH) : Nat := fin4O theOps (blk (readyH h).v (num (lst8 (lastH (readyH h)))))

set_option maxHeartbeats 1000000 in
set_option maxRecDepth 100000 in
theorem new_any (k0 k1 : Nat) (h0 : k0 < M64) (h1 : k1 < M64) (w : World) :
    Calls Try.prog 11 #[.int .u64 k0, .int .u64 k1] w fun e w' => ∃ g, e = .returned (.pointer (some ⟨g, 0, none⟩)) ∧ w.heap.size ≤ g ∧ IsH w' g (newH k0 k1) ∧ Kept w w' := by
  have HS := Lib.hid (start_any w.heap.size HH0 k0 k1 h0 h1 _ (Blk.new w 38 _))
  clear h0 h1
  go_enter Try.func11, Try.ntmps11
  go_wp2_with fail
  refine HS.out.mono ?_
  rintro e w1 ⟨rfl, hh1, hm1⟩
  have H1 := Lib.hid hh1
  have M1 := Lib.hid hm1
  clear hh1 hm1
  go_wp2_with fail
  go_ret
  refine ⟨w.heap.size, rfl, Nat.le_refl _, H1.out, ?_⟩
  exact ((Kept.refl _).alloc _).only M1.out (Nat.le_refl _)

set_option maxHeartbeats 1000000 in
theorem len_any (b : Nat) (h : HH) (w : World) (hh : IsH w b h) :
    Calls Try.prog 14 #[.pointer (some ⟨b, 0, none⟩)] w fun e w' => e = .returned (.int .i64 h.n) ∧ w' = w := by
  have c13 : w.cell? ⟨b, 13, none⟩ = some (.int .i64 h.n) := Blk.cell hh 13
  go_enter Try.func14, Try.ntmps14
  go_wp2_with fail
  go_ret
  exact ⟨rfl, rfl⟩
theorem len_nil (w : World) :
    Calls Try.prog 14 #[.pointer none] w fun e w' => e = .returned (.int .i64 0) ∧ w' = w := by
  go_enter Try.func14, Try.ntmps14
  go_wp2_with fail
  go_ret
  exact ⟨rfl, rfl⟩
theorem sum_nil (w : World) :
    Calls Try.prog 13 #[.pointer none] w fun e w' => e = .returned (.int .u64 0) ∧ w' = w := by
  go_enter Try.func13, Try.ntmps13
  go_wp2_with fail
  go_ret
  exact ⟨rfl, rfl⟩
theorem copy_nil (w : World) :
    Calls Try.prog 15 #[.pointer none] w fun e w' => e = .returned (.pointer none) ∧ w' = w := by
  go_enter Try.func15, Try.ntmps15
  go_wp2_with fail
  go_ret
  exact ⟨rfl, rfl⟩
theorem write_nil (s : ByteArray) (w : World) :
    Calls Try.prog 12 #[.pointer none, .string s] w fun e w' => e = .returned (.int .i64 2) ∧ w' = w := by
  go_enter Try.func12, Try.ntmps12
  go_wp2_with fail
  go_ret
  exact ⟨rfl, rfl⟩

theorem IsH.reads {w : World} {b : Nat} {h : HH} (hh : IsH w b h) : (w.cell? ⟨b, 0, none⟩ = some (.bool h.made) ∧ w.cell? ⟨b, 1, none⟩ = some (.int .u64 h.v.a) ∧ w.cell? ⟨b, 2, none⟩ = some (.int .u64 h.v.b) ∧ w.cell? ⟨b, 3, none⟩ = some (.int .u64 h.v.c) ∧ w.cell? ⟨b, 4, none⟩ = some (.int .u64 h.v.d) ∧ w.cell? ⟨b, 13, none⟩ = some (.int .i64 h.n)) ∧
    w.cell? ⟨b, 5, none⟩ = some (.int .u8 (h.left 0 : Nat)) ∧ w.cell? ⟨b, 6, none⟩ = some (.int .u8 (h.left 1 : Nat)) ∧ w.cell? ⟨b, 7, none⟩ = some (.int .u8 (h.left 2 : Nat)) ∧ w.cell? ⟨b, 8, none⟩ = some (.int .u8 (h.left 3 : Nat)) ∧ w.cell? ⟨b, 9, none⟩ = some (.int .u8 (h.left 4 : Nat)) ∧ w.cell? ⟨b, 10, none⟩ = some (.int .u8 (h.left 5 : Nat)) ∧ w.cell? ⟨b, 11, none⟩ = some (.int .u8 (h.left 6 : Nat)) ∧ w.cell? ⟨b, 12, none⟩ = some (.int .u8 (h.left 7 : Nat)) :=
  ⟨⟨Blk.cell hh 0, Blk.cell hh 1, Blk.cell hh 2, Blk.cell hh 3, Blk.cell hh 4, Blk.cell hh 13⟩, Blk.cell hh 5, Blk.cell hh 6, Blk.cell hh 7, Blk.cell hh 8, Blk.cell hh 9, Blk.cell hh 10, Blk.cell hh 11, Blk.cell hh 12⟩

set_option maxHeartbeats 1000000 in
set_option maxRecDepth 100000 in
theorem copy_any (b : Nat) (h : HH) (w : World) (hh : IsH w b h) :
    Calls Try.prog 15 #[.pointer (some ⟨b, 0, none⟩)] w fun e w' => ∃ g, e = .returned (.pointer (some ⟨g, 0, none⟩)) ∧ w.heap.size ≤ g ∧ IsH w' g h ∧ Kept w w' := by
  obtain ⟨⟨x0, x1, x2, x3, x4, x13⟩, x5, x6, x7, x8, x9, x10, x11, x12⟩ := hh.reads
  go_enter Try.func15, Try.ntmps15
  go_wp2_with fail
  go_ret
  refine ⟨w.heap.size, rfl, Nat.le_refl _, ?_, ?_⟩
  · skip
    exact Blk.new _ _ _
  · exact (Kept.refl _).alloc _
end Go.Proofs.Ytjabpekndgnhmaa
