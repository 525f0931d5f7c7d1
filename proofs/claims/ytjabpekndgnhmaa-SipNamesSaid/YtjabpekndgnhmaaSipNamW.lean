/- SipNames: the walk. -/
import Derived.Test.YtjabpekndgnhmaaSipOnW
import Derived.Laws.OwnMore
namespace Go.Proofs.Ytjabpekndgnhmaa
open Go.RowKit

def NamRel (k : Nat) (a i : Value) (w w' : World) : Prop :=
  ∃ (j : Nat) (T : ByteArray), a = .string T ∧ i = .int .i64 j ∧ j + k = 40 ∧ T.size = j ∧ Kept w w'
theorem run_zeros (w : World) : ∃ w' Z, (Instr.makeSlice 34 (.int .i64 256) (.int .i64 256)).run Try.prog w = .ok (.slice (some ⟨w.heap.size, 0, none⟩) 256 256) w' ∧
    (convert 34 9 (.slice (some ⟨w.heap.size, 0, none⟩) 256 256)).run Try.prog w' = .ok (.string Z) w' ∧ Z.size = 256 ∧ Kept w w' := by
  obtain ⟨i, z, hi, hz, hs, hb, _⟩ := Elem.parts (P := Try.prog) (t := 34) (e := 5) (size := 1) (bytes := 1) ⟨by kernel_rfl, by kernel_rfl, by decide, by decide⟩
  have hz0 : ((Try.prog.info? 5).bind (·.zero)) = some (.int .u8 0) := by kernel_rfl
  rw [hi] at hz0
  have hz1 : some z = some (.int .u8 0) := hz.symm.trans hz0
  injection hz1 with hz1
  subst hz1
  have h1 := run_makeSlice (P := Try.prog) w 34 5 i _ (by kernel_rfl) hi hz .i64 .i64 256 256 (by omega) (by omega) (by rw [hs]; decide) (by rw [hb]; decide) (by omega)
  rw [hs] at h1
  obtain ⟨L, hL, hg⟩ : ∃ L : List UInt8, L.length = 256 ∧ ∀ j, j < 256 → L[j]? = some 0 := ⟨List.replicate 256 0, List.length_replicate, fun j hj => by rw [List.getElem?_replicate, if_pos hj]⟩
  obtain ⟨n, hn⟩ : ∃ n, n = (256 : Int).toNat * 1 := ⟨_, rfl⟩
  have hn2 : n = 256 := hn
  rw [← hn] at h1
  have h2 := run_convert_bytes_back (P := Try.prog) (w.alloc (.cells (madeCells (Value.cells (.int .u8 0)) n) 5)) 34 9 5 ⟨w.heap.size, 0, none⟩ 256 L (by kernel_rfl) (by kernel_rfl) (by kernel_rfl) (by
    intro j hj
    have e : (madeCells (Value.cells (.int .u8 0)) n).toList = List.replicate n (.int .u8 0) := toList_madeCells_one _ _
    have hj' := hg j (by omega)
    rw [List.getElem?_eq_getElem hj, Option.some.injEq] at hj'
    rw [add_at, Blk.cell (Blk.new w _ _), Nat.zero_add, ← Array.getElem?_toList, e, List.getElem?_replicate, if_pos (by omega), hj']
    rfl)
  rw [hL] at h2
  exact ⟨_, ⟨L.toArray⟩, h1, h2, by show L.toArray.size = 256; simp [hL], (Kept.refl _).alloc _⟩
theorem fresh_ready : readyH HH0 = newH 0 0 := rfl
theorem fresh_ok : HH0.Ok := ⟨⟨by decide, by decide, by decide, by decide⟩, fun _ => by show 0 < 256; omega⟩
theorem fresh_sum : sumH HH0 = sipOf 0 0 [] := by
  rw [← str_sum (str_new (k0 := 0) (k1 := 0) (by decide) (by decide))]
  rfl
def abc : ByteArray := ⟨#[97, 98, 99]⟩
set_option maxHeartbeats 4000000 in
set_option maxRecDepth 100000 in
theorem names_any (w : World) :
    Calls Try.prog 5 #[] w fun e w' => e = .returned (.bool true) ∧ Kept w w' := by
  have A0 := awake_any
  have S0 := Lib.hid (fun (T : ByteArray) (h : T.size < 2 ^ 61) w => sipSum_any 5 6 T (by decide) (by decide) (by omega) w)
  have R0 := Lib.hid (fun (T : ByteArray) (h : T.size < 2 ^ 61) w => refSum_any 5 6 T (by decide) (by decide) h w)
  have S1 := Lib.hid (fun (T : ByteArray) (h : T.size < 2 ^ 61) w => sipSum_any 0 0 T (by decide) (by decide) (by omega) w)
  have R1 := Lib.hid (fun (T : ByteArray) (h : T.size < 2 ^ 61) w => refSum_any 0 0 T (by decide) (by decide) h w)
  go_enter Try.func5, Try.ntmps5
  go_wp2_with fail
  refine (A0 _).mono ?_
  rintro e w1 ⟨rfl, m1⟩
  have M1 := Lib.hid m1
  clear m1
  go_wp2_with fail
  go_loopg [1, 2] 40 (fun k a i wr => NamRel k a i w wr)
  case atStart => exact ⟨0, ⟨#[]⟩, rfl, rfl, rfl, rfl, M1.out⟩
  case round =>
    obtain ⟨j, T, rfl, rfl, hj, hT, hm⟩ := hrel
    have HJ := Lib.hid hj
    have HT := Lib.hid hT
    have HM := Lib.hid hm
    have hT62 : T.size < 1000 := by omega
    clear hj hT hm
    by_cases hlt : j < 40
    · have i1 : (j : Int) < 40 := by omega
      have HLT := Lib.hid hlt
      obtain ⟨c, hc⟩ : ∃ c, c = 7 * j % 256 := ⟨_, rfl⟩
      have hcc : (7 * (j : Int)) % 256 = (c : Int) := by omega
      have hc256 : c < 256 := by omega
      clear hlt hc
      go_show
      go_wp2_with fail
      refine (S0.out T (by have := HT.out; have := HLT.out; omega) _).mono ?_
      rintro e w2 ⟨rfl, m2⟩
      have M2 := Lib.hid (HM.out.then m2)
      clear m2
      go_wp2_with fail
      refine (R0.out T (by have := HT.out; have := HLT.out; omega) _).mono ?_
      rintro e w3 ⟨rfl, m3⟩
      have M3 := Lib.hid (M2.out.then m3)
      clear m3
      go_wp2_with fail
      rw [conv_one (P := Try.prog) _ _ _ 5 _ _ c rfl hc256 (by kernel_rfl) (by kernel_rfl) (by kernel_rfl)]
      go_wp2_with fail
      go_roundg (40 - (j + 1))
      case measure => have := HJ.out; have := HLT.out; omega
      case rel => exact ⟨j + 1, _, rfl, by go_num, by have := HLT.out; omega, by rw [ByteArray.size_append, HT.out]; rfl, M3.out.alloc _⟩
    · go_show
      go_wp2_with fail
      obtain ⟨w2, Z, hmk, hcv, hZ, m2⟩ := run_zeros wr
      rw [hmk]
      have HZ := Lib.hid hZ
      have M2 := Lib.hid (HM.out.then m2)
      clear hmk m2 hZ
      go_wp2_with fail
      refine (S1.out Z (by rw [HZ.out]; decide) _).mono ?_
      rintro e w3 ⟨rfl, m3⟩
      have M3 := Lib.hid (M2.out.then m3)
      clear m3
      go_wp2_with fail
      refine (R1.out Z (by rw [HZ.out]; decide) _).mono ?_
      rintro e w4 ⟨rfl, m4⟩
      have M4 := Lib.hid (M3.out.then m4)
      clear m4 hcv
      go_wp2_with fail
      have hf : IsH (w4.alloc (.cells HH0.cells 38)) w4.heap.size HH0 := Blk.new _ _ _
      have hkf : Kept w4 (w4.alloc (.cells HH0.cells 38)) := (Kept.refl _).alloc _
      refine (s_new 0 0 (by decide) (by decide) _).mono ?_
      rintro e w5 ⟨g, rfl, hg, hs5, m5⟩
      have hf5 := hf.mod m5 (fun e => e)
      have hne := Lib.hid (Nat.ne_of_gt (Nat.lt_of_lt_of_le (Blk.lt hf) hg) : g ≠ w4.heap.size)
      have HG := Lib.hid (Nat.le_trans M4.out.size (Nat.le_trans hkf.size hg))
      have HGF := Lib.hid M4.out.size
      have M5 := Lib.hid ((M4.out.then hkf).then m5)
      clear m5 hg hf hkf
      go_wp2_with fail
      refine (sum_any _ HH0 fresh_ok (by decide) _ hf5).mono ?_
      rintro e w6 ⟨rfl, m6⟩
      rw [fresh_sum]
      have hf6 := hf5.mod m6 (fun e => e)
      have hs6 := hs5.mod m6 (fun e => e)
      have M6 := Lib.hid (M5.out.then m6)
      clear m6 hf5 hs5
      go_wp2_with fail
      refine (s_sum g 0 0 _ (by decide) _ hs6).mono ?_
      rintro e w7 ⟨rfl, m7⟩
      have hf7 := hf6.mod m7 (fun e => e)
      have hs7 := hs6.mod m7 (fun e => e)
      have M7 := Lib.hid (M6.out.then m7)
      clear m7 hf6 hs6
      go_wp2_with fail
      refine (len_any _ HH0 _ hf7).mono ?_
      rintro e w8 ⟨rfl, rfl⟩
      go_wp2_with fail
      refine (write_any _ HH0 abc fresh_ok (by decide) _ hf7).mono ?_
      rintro e w9 ⟨rfl, hf9, m9⟩
      have hF : IsS w9 w4.heap.size 0 0 (bys abc) := ⟨_, hf9, str_of_all (by decide) (by decide) abc⟩
      have hs9 := hs7.mod m9 (fun e => hne.out e)
      have M9 := Lib.hid (M7.out.only m9 HGF.out)
      clear m9 hf9 hf7 hs7
      go_wp2_with fail
      refine (s_write g 0 0 _ abc (by decide) _ hs9).mono ?_
      rintro e w10 ⟨rfl, hs10, m10⟩
      have hF10 := hF.mod m10 (fun e => hne.out e.symm)
      have M10 := Lib.hid (M9.out.only m10 HG.out)
      rw [List.nil_append] at hs10
      clear m10 hs9 hF
      go_wp2_with fail
      refine (s_sum _ 0 0 _ (by decide) _ hF10).mono ?_
      rintro e w11 ⟨rfl, m11⟩
      have hF11 := hF10.mod m11 (fun e => e)
      have hs11 := hs10.mod m11 (fun e => e)
      have M11 := Lib.hid (M10.out.then m11)
      clear m11 hF10 hs10
      go_wp2_with fail
      refine (s_sum _ 0 0 _ (by decide) _ hs11).mono ?_
      rintro e w12 ⟨rfl, m12⟩
      have hF12 := hF11.mod m12 (fun e => e)
      have M12 := Lib.hid (M11.out.then m12)
      clear m12 hF11 hs11
      go_wp2_with fail
      refine (s_len _ 0 0 _ _ hF12 3 (by decide)).mono ?_
      rintro e w13 ⟨rfl, rfl⟩
      go_wp2_with fail
      refine (write_nil _ _).mono ?_
      rintro e w13 ⟨rfl, rfl⟩
      go_wp2_with fail
      refine (sum_nil _).mono ?_
      rintro e w13 ⟨rfl, rfl⟩
      go_wp2_with fail
      refine (len_nil _).mono ?_
      rintro e w13 ⟨rfl, rfl⟩
      go_wp2_with fail
      refine (copy_nil _).mono ?_
      rintro e w13 ⟨rfl, rfl⟩
      go_wp2_with fail
      go_ret
      exact ⟨rfl, M12.out⟩
end Go.Proofs.Ytjabpekndgnhmaa
