/- ZoneNames, walked. Conditions: none. -/
import Derived.Test.YtgibhcmdmdbpgaaZoD
namespace Go.Proofs.Ytgibhcmdmdbpgaa
open Go.RowKit Go.Lib

def lN1 : List Zn := [⟨⟨#[0]⟩, 3, 5⟩, ⟨nEx, 4, 0⟩]
def manyZ (n : Nat) : List Zn := (List.range n).map fun j => ⟨⟨#[1]⟩ ++ mkS [97 + j] ++ ⟨#[0]⟩, 1, 0⟩
theorem manyZ_snoc (j : Nat) : manyZ (j + 1) = manyZ j ++ [⟨⟨#[1]⟩ ++ mkS [97 + j] ++ ⟨#[0]⟩, 1, 0⟩] := by unfold manyZ; rw [List.range_succ, List.map_append]; rfl
def lNc : List Zn := [⟨nEx, 0, 0⟩]
def lNd : List Zn := [⟨nEx, 5, 0⟩]
def lNf : List Zn := [⟨⟨#[101, 120]⟩, 1, 0⟩]
def lNg : List Zn := [⟨nEx, 1, 0⟩, ⟨nEx, 9, 0⟩]
theorem newN1 : newE lN1 = 0 := by decide +kernel
theorem newMany : newE (manyZ 16) = 0 := by decide +kernel
theorem newMany2 : newE (manyZ 16 ++ [⟨⟨#[]⟩, 0, 0⟩]) = 5 := by decide +kernel
theorem newNc : newE lNc = 3 := by decide +kernel
theorem newNd : newE lNd = 3 := by decide +kernel
theorem newNf : newE lNf = 3 := by decide +kernel
theorem newNg : newE lNg = 3 := by decide +kernel
theorem newNil : newE [] = 0 := by decide +kernel
theorem findN1 : findZ lN1 ⟨#[0]⟩ = ⟨⟨#[0]⟩, 3, 5⟩ := by kernel_rfl
theorem findN2 : findZ lN1 ⟨#[3, 99, 111, 109, 0]⟩ = ⟨⟨#[0]⟩, 3, 5⟩ := by kernel_rfl
theorem findN3 : findZ lN1 ⟨#[1, 97, 2, 101, 120, 0]⟩ = ⟨nEx, 4, 0⟩ := by kernel_rfl
theorem findN4 : findZ lN1 ⟨#[]⟩ = znRoot := by kernel_rfl
theorem findN5 : findZ lN1 ⟨#[101, 120]⟩ = znRoot := by kernel_rfl
theorem findNil : findZ [] ⟨#[2, 101, 120, 0]⟩ = znRoot := by kernel_rfl
def NamRel (w : World) (k : Nat) (s3 s4 : Value) (wr : World) : Prop :=
  ∃ j : Nat, s4 = .int .i64 j ∧ j + k = 16 ∧ wr.ownsRow w.heap.size 35 3 s3 j (zC (manyZ j)) ∧ Kept w wr
set_option maxHeartbeats 4000000 in
set_option maxRecDepth 100000 in
theorem names_any (w : World) : Calls Try.prog 4 #[] w fun e w' => e = .returned (.bool true) ∧ Kept w w' := by
  have hq1 := run_neq_zone
  have hq2 : ∀ (a : Zn) (x : ByteArray) (p t : Int) (w : World), (binOp .neq 35 (.agg (znC a)) (.agg #[.string x, .int .u8 p, .int .u16 t])).run Try.prog w = .ok (.bool (!eqZ a ⟨x, p, t⟩)) w := fun a x p t w => run_neq_zone a ⟨x, p, t⟩ w
  have hq3 := run_eql_zone
  have hf1 := run_field1
  have hf2 := run_field2
  have e1 : eqZ ⟨⟨#[0]⟩, 3, 5⟩ ⟨⟨#[0]⟩, 3, 5⟩ = true := eqZ_self _
  have e2 : eqZ znRoot znRoot = true := eqZ_self _
  go_enter Try.func4, Try.ntmps4
  go_wp2_with fail
  refine (awake_any _).mono ?_
  rintro e v0 ⟨rfl, m0⟩
  have HK := Lib.hid m0
  clear m0
  go_wp2_with fail
  refine (new_any _ lN1 (by decide) (by decide) _ (RdZ.lit _ _ 2 2 lN1 _ rfl rfl)).mono ?_
  intro e vA hA
  obtain ⟨kA, g, mo, oe, rfl, hzA⟩ := hA.good newN1
  have mA := ((Mod.refl (fun _ => False) _).alloc _).then kA
  replace HK := Lib.hid (HK.out.then mA)
  have HT := Lib.hid (Fd.of_zt hzA)
  clear hA kA hzA mA
  go_wp2_with fail
  refine (find_any _ g lN1 _ _ HT.out ⟨#[0]⟩ (by decide)).mono ?_
  rw [findN1]
  rintro e v1 ⟨rfl, mv1⟩
  replace HT := Lib.hid (HT.out.kept mv1)
  replace HK := Lib.hid (HK.out.then mv1)
  clear mv1
  go_wp2_with fail
  refine (find_any _ g lN1 _ _ HT.out ⟨#[3, 99, 111, 109, 0]⟩ (by decide)).mono ?_
  rw [findN2]
  rintro e v2 ⟨rfl, mv2⟩
  replace HT := Lib.hid (HT.out.kept mv2)
  replace HK := Lib.hid (HK.out.then mv2)
  clear mv2
  go_wp2_with fail
  refine (find_any _ g lN1 _ _ HT.out ⟨#[1, 97, 2, 101, 120, 0]⟩ (by decide)).mono ?_
  rw [findN3]
  rintro e v3 ⟨rfl, mv3⟩
  replace HT := Lib.hid (HT.out.kept mv3)
  replace HK := Lib.hid (HK.out.then mv3)
  clear mv3
  go_wp2_with fail
  refine (find_any _ g lN1 _ _ HT.out ⟨#[]⟩ (by decide)).mono ?_
  rw [findN4]
  rintro e v4 ⟨rfl, mv4⟩
  replace HT := Lib.hid (HT.out.kept mv4)
  replace HK := Lib.hid (HK.out.then mv4)
  clear mv4
  go_wp2_with fail
  refine (none_any _).mono ?_
  rintro e v5 ⟨rfl, mv5⟩
  replace HT := Lib.hid (HT.out.kept mv5)
  replace HK := Lib.hid (HK.out.then mv5)
  clear mv5
  go_wp2_with fail
  refine (find_any _ g lN1 _ _ HT.out ⟨#[101, 120]⟩ (by decide)).mono ?_
  rw [findN5]
  rintro e v6 ⟨rfl, mv6⟩
  replace HT := Lib.hid (HT.out.kept mv6)
  replace HK := Lib.hid (HK.out.then mv6)
  clear mv6
  go_wp2_with fail
  refine (none_any _).mono ?_
  rintro e v7 ⟨rfl, mv7⟩
  replace HT := Lib.hid (HT.out.kept mv7)
  replace HK := Lib.hid (HK.out.then mv7)
  clear mv7
  go_wp2_with fail
  clear HT
  go_loopg [3, 4] 16 (fun k s3 s4 wr => NamRel w k s3 s4 wr)
  case atStart => exact ⟨0, rfl, by omega, World.ownsRow_nil _ _ _ _, HK.out⟩
  case round =>
    clear HK
    obtain ⟨j, rfl, hj, ho, hk⟩ := hrel
    have HJ := Lib.hid hj
    have HO := Lib.hid ho
    have HK := Lib.hid hk
    have hj16 : j ≤ 16 := by omega
    clear hj ho hk
    by_cases hlt : j < 16
    · obtain ⟨x, hx⟩ : ∃ x, x = 97 + j := ⟨_, rfl⟩
      have hxi : (97 : Int) + (j : Int) = (x : Int) := by omega
      have hx256 : x < 256 := by omega
      have hro := run_one wr x hx256
      have HX := Lib.hid hx
      have i1 : (j : Int) < 16 := by omega
      have t1 : (mkS [x]).size ≤ 10 := by rw [mkS_size]; simp
      have t2 : ((⟨#[1]⟩ : ByteArray) ++ mkS [x]).size ≤ 20 := by rw [ByteArray.size_append, mkS_size]; exact (by decide : 1 + 1 ≤ 20)
      have t3 : ((⟨#[1]⟩ : ByteArray) ++ mkS [x] ++ ⟨#[0]⟩).size ≤ 30 := by rw [ByteArray.size_append, ByteArray.size_append, mkS_size]; exact (by decide : 1 + 1 + 1 ≤ 30)
      clear hx hlt
      go_wp2_with (refine wpList_pushS 22 35 3 24 82 elem_zone (.tmp 81) (.tmp 73) rfl rfl rfl rfl rfl (by simp) (.agg #[.string (⟨#[1]⟩ ++ mkS [x] ++ ⟨#[0]⟩), .int .u8 1, .int .u16 0]) rfl rfl (by simp [Value.cells, Value.oneCell']) w.heap.size _ _ _ rfl (own_kept HO.out ((Mod.refl _ _).alloc _)) (by unfold maxLen; omega) (by omega) (by have := HK.out.size; simp; omega) ?_; intro g4 c4 w4 ho4 hm4 hg4; have hk4 : Kept w w4 := Mod.trans (HK.out.alloc _) hm4 (fun k hk e => by have := (HO.out.lt k e).1; omega); have HO4 := Lib.hid ho4; have HK4 := Lib.hid hk4; clear ho4 hk4 hm4 hg4)
      go_roundg (16 - (j + 1))
      case measure => have := HJ.out; omega
      case rel => exact ⟨j + 1, by go_num, by omega, by rw [manyZ_snoc, zC_snoc]; have h := HO4.out; rw [HX.out] at h; exact h, HK4.out⟩
    · obtain rfl : j = 16 := by omega
      have hr := Rd.of_own HO.out
      obtain ⟨Am, cm, rfl⟩ := own_form HO.out
      have HRM := Lib.hid (show RdZ wr (.slice Am 16 cm) (manyZ 16) from hr)
      clear hr hlt
      go_wp2_with fail
      refine (new_any _ (manyZ 16) (by decide +kernel) (by decide +kernel) _ HRM.out).mono ?_
      intro e vB hB
      obtain ⟨kB, gB, moB, oeB, rfl, _⟩ := hB.good newMany
      replace HO := Lib.hid (own_kept HO.out kB)
      replace HK := Lib.hid (HK.out.then kB)
      clear hB kB HRM
      go_wp2_with (refine wpList_pushS 22 35 3 24 92 elem_zone (.tmp 91) (.tmp 90) rfl rfl rfl rfl rfl (by simp) (.agg #[.string ⟨#[]⟩, .int .u8 0, .int .u16 0]) rfl rfl (by simp [Value.cells, Value.oneCell']) w.heap.size _ _ _ rfl HO.out (by unfold maxLen; omega) (by omega) HK.out.size ?_; intro g4 c4 w4 ho4 hm4 hg4; have hk4 : Kept w w4 := Mod.trans HK.out hm4 (fun k hk e => by have := (HO.out.lt k e).1; omega); have HRB := Lib.hid (show RdZ w4 (.slice (some ⟨g4, 0, none⟩) 17 c4) (manyZ 16 ++ [⟨⟨#[]⟩, 0, 0⟩]) from by have h := Rd.of_own ho4; unfold RdZ; rw [zC_snoc]; exact h); replace HK := Lib.hid hk4; clear ho4 hk4 hm4 hg4 HO)
      refine (new_any _ (manyZ 16 ++ [⟨⟨#[]⟩, 0, 0⟩]) (by decide +kernel) (by decide +kernel) _ HRB.out).mono ?_
      intro e vC hC
      obtain ⟨kC, rfl⟩ := hC.bad newMany2 (by decide)
      replace HK := Lib.hid (HK.out.then kC)
      clear hC kC HRB
      go_wp2_with fail
      refine (new_any _ lNc (by decide) (by decide) _ (RdZ.lit _ _ 1 1 lNc _ rfl rfl)).mono ?_
      intro e v9 hv9
      obtain ⟨kv9, rfl⟩ := hv9.bad newNc (by decide)
      have mv9 := ((Mod.refl (fun _ => False) _).alloc _).then kv9
      replace HK := Lib.hid (HK.out.then mv9)
      clear hv9 kv9 mv9
      go_wp2_with fail
      refine (new_any _ lNd (by decide) (by decide) _ (RdZ.lit _ _ 1 1 lNd _ rfl rfl)).mono ?_
      intro e v10 hv10
      obtain ⟨kv10, rfl⟩ := hv10.bad newNd (by decide)
      have mv10 := ((Mod.refl (fun _ => False) _).alloc _).then kv10
      replace HK := Lib.hid (HK.out.then mv10)
      clear hv10 kv10 mv10
      go_wp2_with fail
      refine (new_any _ lNf (by decide) (by decide) _ (RdZ.lit _ _ 1 1 lNf _ rfl rfl)).mono ?_
      intro e v11 hv11
      obtain ⟨kv11, rfl⟩ := hv11.bad newNf (by decide)
      have mv11 := ((Mod.refl (fun _ => False) _).alloc _).then kv11
      replace HK := Lib.hid (HK.out.then mv11)
      clear hv11 kv11 mv11
      go_wp2_with fail
      refine (new_any _ lNg (by decide) (by decide) _ (RdZ.lit _ _ 2 2 lNg _ rfl rfl)).mono ?_
      intro e v12 hv12
      obtain ⟨kv12, rfl⟩ := hv12.bad newNg (by decide)
      have mv12 := ((Mod.refl (fun _ => False) _).alloc _).then kv12
      replace HK := Lib.hid (HK.out.then mv12)
      clear hv12 kv12 mv12
      go_wp2_with fail
      refine (new_any _ [] (by decide) (by decide) _ (Rd.nil _ _ _ _)).mono ?_
      intro e vD hD
      obtain ⟨kD, gD, moD, oeD, rfl, hzD⟩ := hD.good newNil
      replace HK := Lib.hid (HK.out.then kD)
      have HF := Lib.hid (Fd.of_zt hzD)
      have HZ := Lib.hid hzD
      clear hD kD hzD
      go_wp2_with fail
      refine (find_any _ gD [] _ _ HF.out ⟨#[2, 101, 120, 0]⟩ (by decide)).mono ?_
      rw [findNil]
      rintro e v13 ⟨rfl, mv13⟩
      replace HF := Lib.hid (HF.out.kept mv13)
      replace HZ := Lib.hid (HZ.out.kept mv13)
      replace HK := Lib.hid (HK.out.then mv13)
      clear mv13
      go_wp2_with fail
      refine (none_any _).mono ?_
      rintro e v14 ⟨rfl, mv14⟩
      replace HF := Lib.hid (HF.out.kept mv14)
      replace HZ := Lib.hid (HZ.out.kept mv14)
      replace HK := Lib.hid (HK.out.then mv14)
      clear mv14
      go_wp2_with fail
      refine (len_any _ _ gD moD oeD [] _ HZ.out).mono ?_
      rintro e vE ⟨rfl, rfl⟩
      rw [show ((([] : List Zn).length : Nat) : Int) = 0 from rfl]
      clear HF HZ
      go_wp2_with fail
      refine (find_nil ⟨#[2, 101, 120, 0]⟩ _).mono ?_
      rintro e v15 ⟨rfl, mv15⟩
      replace HK := Lib.hid (HK.out.then mv15)
      clear mv15
      go_wp2_with fail
      refine (none_any _).mono ?_
      rintro e v16 ⟨rfl, mv16⟩
      replace HK := Lib.hid (HK.out.then mv16)
      clear mv16
      go_wp2_with fail
      refine (len_nil _).mono ?_
      rintro e vF ⟨rfl, rfl⟩
      go_wp2_with fail
      refine (find_any _ _ [] _ _ (Fd.bare (Blk.new _ _ _)) ⟨#[2, 101, 120, 0]⟩ (by decide)).mono ?_
      rw [findNil]
      rintro e vG ⟨rfl, mG⟩
      replace HK := Lib.hid ((HK.out.alloc _).then mG)
      clear mG
      go_wp2_with fail
      refine (none_any _).mono ?_
      rintro e v17 ⟨rfl, mv17⟩
      replace HK := Lib.hid (HK.out.then mv17)
      clear mv17
      go_wp2_with fail
      go_ret
      exact ⟨rfl, HK.out⟩
end Go.Proofs.Ytgibhcmdmdbpgaa
