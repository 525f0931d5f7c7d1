/- LruNames, walked: it answers true. A closed statement. Conditions: none. -/
import Derived.Test.YtjjgefcjjpckfaaLruOnce
import Derived.Test.YtjjgefcjjpckfaaLruO
namespace Go.Proofs.Ytjjgefcjjpckfaa
open Go.RowKit

def down (j : Nat) : List Nat := (List.range j).map fun i => 255 - i
theorem down_succ (j : Nat) : down (j + 1) = down j ++ [255 - j] := by simp [down, List.range_succ]
theorem down_use (j : Nat) (h : j < 256) : lUse 256 (down j) ((255 - j : Nat) : Int) = down (j + 1) := by
  unfold lUse
  rw [show isIn 256 ((255 - j : Nat) : Int) = true from decide_eq_true (by omega), if_pos rfl, down_succ, Int.toNat_natCast]
  congr 1
  refine List.filter_eq_self.2 fun x hx => ?_
  obtain ⟨i, hi, rfl⟩ := List.mem_map.1 hx
  have := List.mem_range.1 hi
  simp only [ne_eq, decide_eq_true_eq]
  omega
theorem down_res (j : Nat) (h : j < 256) : useRes 256 ((255 - j : Nat) : Int) = 0 := by
  unfold useRes
  rw [show isIn 256 ((255 - j : Nat) : Int) = true from decide_eq_true (by omega)]; rfl
theorem down_len (j : Nat) : (down j).length = j := by simp [down]
def NamRel (g : Nat) (w : World) (k : Nat) (i : Value) (wr : World) : Prop := ∃ j : Nat, i = .int .i64 j ∧ j + k = 256 ∧ Lru wr g 256 (down j) ∧ Kept w wr

theorem nil_use (i : Int) (w : World) : Calls Try.prog 16 #[.pointer none, .int .i64 i] w fun e w' => e = .returned (.int .i64 2) ∧ w = w' := use_nil i w
theorem fresh_lru (w : World) : Lru (w.alloc (.cells (LL.fresh 0).cells 50)) w.heap.size 0 [] :=
  ⟨LL.fresh 0, Blk.new _ _ _, ⟨by decide, by decide, List.nodup_nil, fun s hs => by simp at hs, rfl, fun s _ => by simp [LL.fresh], ⟨rfl, rfl⟩, fun i _ => by simp [LL.fresh], fun i _ => by simp [LL.fresh]⟩, rfl⟩
theorem fresh_build0 (w : World) : (Instr.build 50 #[]).run Try.prog w = .ok (.agg (LL.fresh 0).cells) w := by kernel_rfl

set_option maxHeartbeats 2000000 in
set_option maxRecDepth 100000 in
theorem names_c (w : World) : Calls Try.prog 7 #[] w fun e w' => e = .returned (.bool true) ∧ Kept w w' := by
  go_enter Try.func7, Try.ntmps7
  go_wp2_with fail
  refine (awake_c _).mono ?_
  rintro e w1 ⟨rfl, hm1⟩
  go_wp2_with fail
  refine (lru_new_bad (-1) (by omega) _).mono ?_
  rintro e w2 ⟨rfl, rfl⟩
  go_wp2_with fail
  refine (lru_new_bad 257 (by omega) _).mono ?_
  rintro e w2 ⟨rfl, rfl⟩
  go_wp2_with fail
  refine (lru_new 0 (by omega) (by omega) _).mono ?_
  rintro e w2 ⟨rfl, hN2, hm2⟩
  have hgn : w.heap.size ≤ w1.heap.size := hm1.size
  generalize w1.heap.size = gn at *
  have hk2 := hm1.then hm2
  clear hm1 hm2
  go_wp2_with fail
  refine (lru_new 256 (by omega) (by omega) _).mono ?_
  rintro e w3 ⟨rfl, hF3, hm3⟩
  have hgf : w.heap.size ≤ w2.heap.size := hk2.size
  have hgg : gn < w2.heap.size := hN2.lt
  generalize w2.heap.size = gf at *
  have hN3 := hN2.mod hm3 (fun e => e)
  have hk3 := hk2.then hm3
  clear hk2 hm3 hN2
  go_wp2_with fail
  refine (lru_use_to gn 0 _ 0 _ hN3 1 rfl [] rfl).mono ?_
  rintro e w4 ⟨rfl, hN4, hm4⟩
  have hF4 := hF3.mod hm4 (fun e => by have e : gf = gn := e; omega)
  have hk4 := hk3.only hm4 hgn
  clear hF3 hk3 hm4 hN3 hN4
  go_wp2_with fail
  go_loopg [9] 256 (fun k i wr => NamRel gf w k i wr)
  case atStart => exact ⟨0, rfl, rfl, hF4, hk4⟩
  case round =>
    obtain ⟨j, rfl, hj, hL, hm⟩ := hrel
    have HJ := Lib.hid hj
    have hjl : j ≤ 256 := by omega
    clear hj hF4 hk4
    by_cases hlt : j < 256
    · have i1 : (j : Int) < 256 := by omega
      have HM := Lib.hid hm
      clear hm
      go_wp2_with fail
      have ej : (255 : Int) - (j : Int) = ((255 - j : Nat) : Int) := by omega
      rw [ej]
      clear ej
      refine (lru_use_to gf 256 _ _ _ hL 0 (down_res j hlt) _ (down_use j hlt)).mono ?_
      rintro e w5 ⟨rfl, hL5, hm5⟩
      go_wp2_with fail
      go_roundg (256 - (j + 1))
      case measure => have := HJ.out; omega
      case rel => exact ⟨j + 1, by go_num, by omega, hL5, HM.out.only hm5 hgf⟩
    · obtain rfl : j = 256 := by omega
      have HH := Lib.hid (show (((down 256).headD 0 : Nat) : Int) = 255 by decide +kernel)
      have HT := Lib.hid (show (((down 256).getLastD 0 : Nat) : Int) = 0 by decide +kernel)
      have HE := Lib.hid (show (!(down 256).isEmpty) = true by decide +kernel)
      have HX := Lib.hid (show lUse 256 (down 256) 256 = down 256 ∧ lUse 256 (down 256) (-1) = down 256 ∧ lHas 256 (down 256) 256 = false ∧ lHas 256 (down 256) (-1) = false ∧ lDrop 256 (down 256) 256 = down 256 ∧ lDrop 256 (down 256) (-1) = down 256 from ⟨rfl, rfl, rfl, rfl, rfl, rfl⟩)
      have HLen := Lib.hid (down_len 256)
      have HM := Lib.hid hm
      have HL := Lib.hid hL
      clear hjl hlt hm hL
      go_wp2_with fail
      refine (lru_oldest_to gf 256 _ _ HL.out 255 HH.out true HE.out).mono ?_
      rintro e w5 ⟨rfl, rfl⟩
      go_wp2_with fail
      refine (lru_newest_to gf 256 _ _ HL.out 0 HT.out true HE.out).mono ?_
      rintro e w5 ⟨rfl, rfl⟩
      go_wp2_with fail
      refine (lru_len gf 256 _ _ HL.out).mono ?_
      rintro e w5 ⟨rfl, rfl⟩
      rw [HLen.out]
      go_wp2_with fail
      refine (lru_use_to gf 256 _ 256 _ HL.out 1 rfl _ HX.out.1).mono ?_
      rintro e w5 ⟨rfl, hL5, hm5⟩
      have hk5 := HM.out.only hm5 hgf
      clear hm5
      go_wp2_with fail
      refine (lru_use_to gf 256 _ (-1) _ hL5 1 rfl _ HX.out.2.1).mono ?_
      rintro e w6 ⟨rfl, hL6, hm6⟩
      have hk6 := hk5.only hm6 hgf
      clear hm6 hk5 hL5
      go_wp2_with fail
      refine (lru_has_to gf 256 _ 256 _ hL6 false HX.out.2.2.1).mono ?_
      rintro e w7 ⟨rfl, rfl⟩
      go_wp2_with fail
      refine (lru_has_to gf 256 _ (-1) _ hL6 false HX.out.2.2.2.1).mono ?_
      rintro e w7 ⟨rfl, rfl⟩
      go_wp2_with fail
      refine (lru_drop_to gf 256 _ (-1) _ hL6 false HX.out.2.2.2.1 _ HX.out.2.2.2.2.2).mono ?_
      rintro e w7 ⟨rfl, hL7, hm7⟩
      have hk7 := hk6.only hm7 hgf
      clear hm7 hk6 hL6
      go_wp2_with fail
      refine (lru_drop_to gf 256 _ 256 _ hL7 false HX.out.2.2.1 _ HX.out.2.2.2.2.1).mono ?_
      rintro e w8 ⟨rfl, hL8, hm8⟩
      have hk8 := hk7.only hm8 hgf
      clear hm8 hk7 hL7
      go_wp2_with fail
      refine (oldest_nil _).mono ?_
      rintro e w9 ⟨rfl, rfl⟩
      go_wp2_with fail
      refine (newest_nil _).mono ?_
      rintro e w9 ⟨rfl, rfl⟩
      go_wp2_with (first | (refine wpList_run rfl _ _ (run_op_build 50 #[] rfl _ #[] (by simp) _ (fresh_build0 _)) ?_) | (refine wpList_run rfl _ _ (run_op_box 50 (.tmp 135) rfl _ (LL.fresh 0).cells rfl) ?_))
      have hR := fresh_lru w8
      have hka : Kept w (w8.alloc (.cells (LL.fresh 0).cells 50)) := hk8.alloc _
      have hgr : w.heap.size ≤ w8.heap.size := hk8.size
      clear hk8 hL8
      refine (lru_oldest_to w8.heap.size 0 _ _ hR 0 rfl false rfl).mono ?_
      rintro e w9 ⟨rfl, rfl⟩
      go_wp2_with fail
      refine (use_nil 0 _).mono ?_
      rintro e w9 ⟨rfl, rfl⟩
      go_wp2_with fail
      refine (drop_nil 0 _).mono ?_
      rintro e w9 ⟨rfl, rfl⟩
      go_wp2_with fail
      refine (row_nil _).mono ?_
      rintro e w9 ⟨rfl, rfl⟩
      go_wp2_with fail
      refine (len_nil _).mono ?_
      rintro e w9 ⟨rfl, rfl⟩
      go_wp2_with fail
      refine (has_nil 0 _).mono ?_
      rintro e w9 ⟨rfl, rfl⟩
      go_wp2_with fail
      refine (copy_nil _).mono ?_
      rintro e w9 ⟨rfl, rfl⟩
      go_wp2_with fail
      refine (lru_use_to w8.heap.size 0 _ 0 _ hR 1 rfl [] rfl).mono ?_
      rintro e w9 ⟨rfl, hR9, hm9⟩
      have hk9 := hka.only hm9 hgr
      clear hm9 hka hR
      go_wp2_with fail
      refine (lru_has_to w8.heap.size 0 _ 0 _ hR9 false rfl).mono ?_
      rintro e wa ⟨rfl, rfl⟩
      go_wp2_with fail
      refine (lru_len w8.heap.size 0 _ _ hR9).mono ?_
      rintro e wa ⟨rfl, rfl⟩
      go_wp2_with fail
      go_ret
      exact ⟨rfl, hk9⟩
end Go.Proofs.Ytjjgefcjjpckfaa
