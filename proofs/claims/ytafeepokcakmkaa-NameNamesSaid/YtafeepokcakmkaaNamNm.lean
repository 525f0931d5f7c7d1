/- NameNames: the walk. -/
import Derived.Test.YtafeepokcakmkaaNamBk
namespace Go.Proofs.Ytafeepokcakmkaa
open Go.RowKit

/-- So many letters x. -/
def xs (k : Nat) : ByteArray := mkS (List.replicate k 120)
theorem xs_size (k : Nat) : (xs k).size = k := by unfold xs; rw [mkS_size, List.length_replicate]
theorem run_make (k : Nat) (hk : k ≤ 100000) (w : World) : ∃ w', (Instr.makeSlice 35 (.int .i64 k) (.int .i64 k)).run Try.prog w = .ok (.slice (some ⟨w.heap.size, 0, none⟩) k k) w' ∧ Byt w' w.heap.size (u8s (List.replicate k 0)) ∧ Kept w w' := by
  obtain ⟨i, z, hi, hz, hs, hb, _⟩ := Elem.parts (P := Try.prog) (t := 35) (e := 5) (size := 1) (bytes := 1) ⟨by kernel_rfl, by kernel_rfl, by decide, by decide⟩
  have hz0 : ((Try.prog.info? 5).bind (·.zero)) = some (.int .u8 0) := by kernel_rfl
  rw [hi] at hz0
  have hz1 : some z = some (.int .u8 0) := hz.symm.trans hz0
  injection hz1 with hz1
  subst hz1
  have h1 := run_makeSlice (P := Try.prog) w 35 5 i _ (by kernel_rfl) hi hz .i64 .i64 k k (by omega) (by omega) (by rw [hs]; omega) (by rw [hb]; omega) (by omega)
  rw [hs] at h1
  refine ⟨_, h1, ?_, (Kept.refl _).alloc _⟩
  have hbk := Blk.new w 5 (madeCells (Value.cells (.int .u8 0)) ((k : Int).toNat * 1))
  refine ⟨_, _, _, hbk, fun j u hu => ?_, fun j _ => hbk.frozen j⟩
  have e : (madeCells (Value.cells (.int .u8 0)) ((k : Int).toNat * 1)).toList = List.replicate ((k : Int).toNat * 1) (.int .u8 0) := toList_madeCells_one _ _
  rw [← Array.getElem?_toList, e]
  have e2 : (k : Int).toNat * 1 = k := by omega
  rw [e2]
  unfold u8s at hu
  rw [List.map_replicate] at hu
  exact hu
def ManRel (n g : Nat) (w : World) (k : Nat) (i : Value) (wr : World) : Prop :=
  ∃ j : Nat, i = .int .i64 j ∧ j + k = n ∧ Byt wr g (u8s (List.replicate j 120 ++ List.replicate k 0)) ∧ Kept w wr
set_option maxHeartbeats 1000000 in
theorem many_any (k : Nat) (hk : k ≤ 1000) (c : Int) (hc : c = k) (w : World) :
    Calls Try.prog 27 #[.int .i64 c] w fun e w' => e = .returned (.string (xs k)) ∧ Kept w w' := by
  subst hc
  obtain ⟨w1, hmk, hb, hm⟩ := run_make k (by omega) w
  have HB := Lib.hid hb
  have M := Lib.hid hm
  obtain ⟨g, hgg⟩ : ∃ g, g = w.heap.size := ⟨_, rfl⟩
  rw [← hgg] at hmk HB
  have HG := Lib.hid hgg
  clear hb hm hgg
  go_enter Try.func27, Try.ntmps27
  go_wp2_with fail
  go_loopg [4] k (fun q i wr => ManRel k g w q i wr)
  case atStart => exact ⟨0, rfl, by omega, by simpa using HB.out, M.out⟩
  case round =>
    obtain ⟨j, rfl, hj, hB, hm⟩ := hrel
    have HJ := Lib.hid hj
    replace M := Lib.hid hm
    have hl : (List.replicate j 120 ++ List.replicate gk 0).length = k := by rw [List.length_append, List.length_replicate, List.length_replicate]; exact hj
    by_cases hlt : j < k
    · have i1 : (j : Int) < (k : Int) := by omega
      have HLT := Lib.hid hlt
      obtain ⟨q, rfl⟩ : ∃ q, gk = q + 1 := ⟨gk - 1, by omega⟩
      have f1 := hB.cell (j := j) (u := .int .u8 0) (by
        have := u8s_get (l := List.replicate j 120 ++ List.replicate (q + 1) 0) (j := j) (x := 0) (by rw [List.getElem?_append_right (by simp), List.length_replicate, Nat.sub_self]; rfl)
        exact this)
      have f2 : wr.frozen? ⟨g, j, none⟩ = false := hB.frozen (by rw [u8s_length]; omega)
      have HB2 := Lib.hid hB
      clear hB hj hm hl hlt
      go_wp2_with fail
      go_roundg q
      case measure => omega
      case rel =>
        refine ⟨j + 1, by go_num, by have := HJ.out; omega, ?_, ?_⟩
        · have := HB2.out.set j (.int .u8 120)
          have e : (u8s (List.replicate j 120 ++ List.replicate (q + 1) 0)).set j (.int .u8 120) = u8s (List.replicate (j + 1) 120 ++ List.replicate q 0) := by
            unfold u8s
            rw [List.map_append, List.set_append_right _ _ (by simp), List.length_map, List.length_replicate, Nat.sub_self, List.replicate_succ, List.map_cons, List.set_cons_zero, List.replicate_succ', List.map_append]
            simp
          rw [← e]; exact this
        · have := HG.out
          subst this
          exact M.out.only ((Mod.refl (Only w.heap.size) _).at _ _) (Nat.le_refl _)
    · obtain rfl : j = k := by omega
      obtain rfl : gk = 0 := by omega
      have hB2 : Byt wr g (u8s (List.replicate j 120)) := by simpa using hB
      have hr := run_text j hB2 (by intro x hx; have := List.eq_of_mem_replicate hx; omega) j (by simp)
      clear hB hB2 hj hm hl hlt
      go_wp2_with fail
      go_ret
      exact ⟨rfl, M.out⟩
theorem reads_to (s n o : ByteArray) (hs : s.size ≤ 1000) (hn : n.size ≤ 1000) (h1 : parS2 s = n) (h2 : parE s = 0) (h3 : textS n = o) (w : World) :
    Calls Try.prog 28 #[.string s, .string n, .string o] w fun e w' => e = .returned (.bool true) ∧ Kept w w' := by
  have C1 := Lib.hid (parse_to s n 0 (by omega) h1 h2)
  have C2 := Lib.hid (text_to n o (by omega) h3)
  have e1 : (n.toList == n.toList) = true := by simp
  have e2 : (o.toList == o.toList) = true := by simp
  clear h1 h2 h3
  go_enter Try.func28, Try.ntmps28
  go_wp2_with fail
  refine (C1.out _).mono ?_
  rintro e w1 ⟨rfl, m1⟩
  have M := Lib.hid m1
  clear m1
  go_wp2_with fail
  refine (C2.out _).mono ?_
  rintro e wq ⟨rfl, mq⟩
  replace M := Lib.hid (M.out.then mq)
  clear mq
  go_wp2_with fail
  go_ret
  exact ⟨rfl, M.out⟩
/-- A slice written out, as texts. -/
theorem blk_txt {w : World} {g : Nat} {L : List ByteArray} {n c : Nat} (h : Blk w g 9 (strVals L).toArray) (hn : n = L.length) : Rd w 1 (.slice (some ⟨g, 0, none⟩) n c) L.length (strVals L) := by
  subst hn
  refine ⟨by simp [strVals], _, _, rfl, fun _ => ⟨g, 0, rfl, h.lt, fun j u hu => ?_⟩⟩
  rw [Nat.zero_add, h.cell, List.getElem?_toArray]
  exact hu
def S18 : List ByteArray := [⟨#[]⟩, ⟨#[46, 46]⟩, ⟨#[46, 97]⟩, ⟨#[97, 46, 46]⟩, ⟨#[97, 46, 46, 98]⟩, ⟨#[97, 32, 98]⟩, ⟨#[97, 127]⟩, ⟨#[195, 169]⟩, ⟨#[255]⟩, ⟨#[97, 92]⟩, ⟨#[97, 92, 49]⟩, ⟨#[97, 92, 49, 50]⟩, ⟨#[97, 92, 49, 50, 120]⟩, ⟨#[97, 92, 50, 53, 54]⟩, ⟨#[97, 92, 32]⟩, ⟨#[97, 92, 195, 169]⟩, xs 300 ++ ⟨#[46, 46]⟩, ⟨#[0]⟩]
theorem s18_bad : ∀ j, j < 18 → ∃ x, S18[j]? = some x ∧ x.size ≤ 1000 ∧ parS2 x = ⟨#[]⟩ ∧ parE x = 3 := by
  intro j hj
  match j, hj with
  | 0, _ => exact ⟨_, rfl, by decide +kernel, by kernel_rfl, by kernel_rfl⟩
  | 1, _ => exact ⟨_, rfl, by decide +kernel, by kernel_rfl, by kernel_rfl⟩
  | 2, _ => exact ⟨_, rfl, by decide +kernel, by kernel_rfl, by kernel_rfl⟩
  | 3, _ => exact ⟨_, rfl, by decide +kernel, by kernel_rfl, by kernel_rfl⟩
  | 4, _ => exact ⟨_, rfl, by decide +kernel, by kernel_rfl, by kernel_rfl⟩
  | 5, _ => exact ⟨_, rfl, by decide +kernel, by kernel_rfl, by kernel_rfl⟩
  | 6, _ => exact ⟨_, rfl, by decide +kernel, by kernel_rfl, by kernel_rfl⟩
  | 7, _ => exact ⟨_, rfl, by decide +kernel, by kernel_rfl, by kernel_rfl⟩
  | 8, _ => exact ⟨_, rfl, by decide +kernel, by kernel_rfl, by kernel_rfl⟩
  | 9, _ => exact ⟨_, rfl, by decide +kernel, by kernel_rfl, by kernel_rfl⟩
  | 10, _ => exact ⟨_, rfl, by decide +kernel, by kernel_rfl, by kernel_rfl⟩
  | 11, _ => exact ⟨_, rfl, by decide +kernel, by kernel_rfl, by kernel_rfl⟩
  | 12, _ => exact ⟨_, rfl, by decide +kernel, by kernel_rfl, by kernel_rfl⟩
  | 13, _ => exact ⟨_, rfl, by decide +kernel, by kernel_rfl, by kernel_rfl⟩
  | 14, _ => exact ⟨_, rfl, by decide +kernel, by kernel_rfl, by kernel_rfl⟩
  | 15, _ => exact ⟨_, rfl, by decide +kernel, by kernel_rfl, by kernel_rfl⟩
  | 16, _ => exact ⟨_, rfl, by decide +kernel, by kernel_rfl, by kernel_rfl⟩
  | 17, _ => exact ⟨_, rfl, by decide +kernel, by kernel_rfl, by kernel_rfl⟩
  | n + 18, h => exact absurd h (by omega)
def fullN : ByteArray := joinS [xs 63, xs 63, xs 63, xs 61]
theorem fullN_size : fullN.size = 255 := by decide +kernel
def LJ0 : List ByteArray := [xs 63, xs 63, xs 63, xs 61]
def LJ1 : List ByteArray := [xs 63, xs 63, xs 63, xs 62]
def LJ2 : List ByteArray := [xs 64, xs 63, xs 63, xs 62]
def NnRel (w : World) (g : Nat) (k : Nat) (i : Value) (wr : World) : Prop := ∃ j : Nat, i = .int .i64 j ∧ j + k = 18 ∧ Blk wr g 9 (strVals S18).toArray ∧ Kept w wr
set_option maxHeartbeats 4000000 in
set_option maxRecDepth 100000 in
theorem names_any (w : World) : Calls Try.prog 8 #[] w fun e w' => e = .returned (.bool true) ∧ Kept w w' := by
  have M61 := Lib.hid (fun w => many_any 61 (by omega) 61 rfl w)
  have M62 := Lib.hid (fun w => many_any 62 (by omega) 62 rfl w)
  have M63 := Lib.hid (fun w => many_any 63 (by omega) 63 rfl w)
  have M64 := Lib.hid (fun w => many_any 64 (by omega) 64 rfl w)
  have M300 := Lib.hid (fun w => many_any 300 (by omega) 300 rfl w)
  have z61 : (xs 61).size ≤ 61 := by rw [xs_size]; exact Nat.le_refl _
  have z62 : (xs 62).size ≤ 62 := by rw [xs_size]; exact Nat.le_refl _
  have z63 : (xs 63).size ≤ 63 := by rw [xs_size]; exact Nat.le_refl _
  have z64 : (xs 64).size ≤ 64 := by rw [xs_size]; exact Nat.le_refl _
  have z300 : (xs 300).size ≤ 300 := by rw [xs_size]; exact Nat.le_refl _
  go_enter Try.func8, Try.ntmps8
  go_wp2_with fail
  refine (awake_any _).mono ?_
  rintro e w1 ⟨rfl, m1⟩
  have M := Lib.hid m1
  clear m1
  go_wp2_with fail
  refine (may_to _ false ?h1 ?h2 _).mono ?_
  case h1 => decide +kernel
  case h2 => kernel_rfl
  rintro e wq ⟨rfl, mq⟩
  replace M := Lib.hid (M.out.then mq)
  clear mq
  go_wp2_with fail
  refine (may_to _ false ?h1 ?h2 _).mono ?_
  case h1 => decide +kernel
  case h2 => kernel_rfl
  rintro e wq ⟨rfl, mq⟩
  replace M := Lib.hid (M.out.then mq)
  clear mq
  go_wp2_with fail
  refine (may_to _ false ?h1 ?h2 _).mono ?_
  case h1 => decide +kernel
  case h2 => kernel_rfl
  rintro e wq ⟨rfl, mq⟩
  replace M := Lib.hid (M.out.then mq)
  clear mq
  go_wp2_with fail
  refine (may_to _ false ?h1 ?h2 _).mono ?_
  case h1 => decide +kernel
  case h2 => kernel_rfl
  rintro e wq ⟨rfl, mq⟩
  replace M := Lib.hid (M.out.then mq)
  clear mq
  go_wp2_with fail
  refine (M64.out _).mono ?_
  rintro e wq ⟨rfl, mq⟩
  replace M := Lib.hid (M.out.then mq)
  clear mq
  go_wp2_with fail
  refine (may_to _ false ?h1 ?h2 _).mono ?_
  case h1 => decide +kernel
  case h2 => kernel_rfl
  rintro e wq ⟨rfl, mq⟩
  replace M := Lib.hid (M.out.then mq)
  clear mq
  go_wp2_with fail
  refine (M63.out _).mono ?_
  rintro e wq ⟨rfl, mq⟩
  replace M := Lib.hid (M.out.then mq)
  clear mq
  go_wp2_with fail
  refine (may_to _ true ?h1 ?h2 _).mono ?_
  case h1 => decide +kernel
  case h2 => kernel_rfl
  rintro e wq ⟨rfl, mq⟩
  replace M := Lib.hid (M.out.then mq)
  clear mq
  go_wp2_with fail
  refine (may_to _ false ?h1 ?h2 _).mono ?_
  case h1 => decide +kernel
  case h2 => kernel_rfl
  rintro e wq ⟨rfl, mq⟩
  replace M := Lib.hid (M.out.then mq)
  clear mq
  go_wp2_with fail
  refine (M63.out _).mono ?_
  rintro e wq ⟨rfl, mq⟩
  replace M := Lib.hid (M.out.then mq)
  clear mq
  go_wp2_with fail
  refine (M63.out _).mono ?_
  rintro e wq ⟨rfl, mq⟩
  replace M := Lib.hid (M.out.then mq)
  clear mq
  go_wp2_with fail
  refine (M63.out _).mono ?_
  rintro e wq ⟨rfl, mq⟩
  replace M := Lib.hid (M.out.then mq)
  clear mq
  go_wp2_with fail
  refine (M61.out _).mono ?_
  rintro e wq ⟨rfl, mq⟩
  replace M := Lib.hid (M.out.then mq)
  clear mq
  have HB := Lib.hid (Blk.new wq 9 #[.string (xs 63), .string (xs 63), .string (xs 63), .string (xs 61)])
  have HGW := Lib.hid M.out.size
  replace M := Lib.hid (M.out.alloc (.cells #[.string (xs 63), .string (xs 63), .string (xs 63), .string (xs 61)] 9))
  generalize hg : wq.heap.size = g at *
  go_wp2_with fail
  skip
  clear hg
  refine (join_to _ LJ0 fullN 0 (by decide) (by decide +kernel) (by kernel_rfl) (by kernel_rfl) _ (blk_txt (L := LJ0) (c := 4) (show Blk _ g 9 (strVals LJ0).toArray from HB.out) rfl)).mono ?_
  rintro e wq ⟨rfl, mq⟩
  replace M := Lib.hid (M.out.then mq)
  replace HB := Lib.hid (HB.out.mod mq (fun e => e))
  clear mq
  go_wp2_with fail
  refine (M62.out _).mono ?_
  rintro e wq ⟨rfl, mq⟩
  replace M := Lib.hid (M.out.then mq)
  replace HB := Lib.hid (HB.out.mod mq (fun e => e))
  clear mq
  have c1 := HB.out.cell 3
  have f1 := HB.out.frozen 3
  have hs1 : Blk (wq.setCell ⟨g, 3, none⟩ (.string (xs 62))) g 9 #[.string (xs 63), .string (xs 63), .string (xs 63), .string (xs 62)] := by
    have h := HB.out.set_ 3 (.string (xs 62))
    simpa using h
  have HS := Lib.hid (And.intro hs1 (M.out.only ((Mod.refl (Only g) _).at 3 (.string (xs 62))) HGW.out))
  clear hs1
  go_wp2_with fail
  replace HB := Lib.hid HS.out.1
  replace M := Lib.hid HS.out.2
  clear HS c1 f1
  refine (join_to _ LJ1 ⟨#[]⟩ 5 (by decide) (by decide +kernel) (by kernel_rfl) (by kernel_rfl) _ (blk_txt (L := LJ1) (c := 4) (show Blk _ g 9 (strVals LJ1).toArray from HB.out) rfl)).mono ?_
  rintro e wq ⟨rfl, mq⟩
  replace M := Lib.hid (M.out.then mq)
  replace HB := Lib.hid (HB.out.mod mq (fun e => e))
  clear mq
  go_wp2_with fail
  refine (M64.out _).mono ?_
  rintro e wq ⟨rfl, mq⟩
  replace M := Lib.hid (M.out.then mq)
  replace HB := Lib.hid (HB.out.mod mq (fun e => e))
  clear mq
  have c1 := HB.out.cell 0
  have f1 := HB.out.frozen 0
  have hs1 : Blk (wq.setCell ⟨g, 0, none⟩ (.string (xs 64))) g 9 #[.string (xs 64), .string (xs 63), .string (xs 63), .string (xs 62)] := by
    have h := HB.out.set_ 0 (.string (xs 64))
    simpa using h
  have HS := Lib.hid (And.intro hs1 (M.out.only ((Mod.refl (Only g) _).at 0 (.string (xs 64))) HGW.out))
  clear hs1
  go_wp2_with fail
  replace HB := Lib.hid HS.out.1
  replace M := Lib.hid HS.out.2
  clear HS c1 f1
  refine (join_to _ LJ2 ⟨#[]⟩ 1 (by decide) (by decide +kernel) (by kernel_rfl) (by kernel_rfl) _ (blk_txt (L := LJ2) (c := 4) (show Blk _ g 9 (strVals LJ2).toArray from HB.out) rfl)).mono ?_
  rintro e wq ⟨rfl, mq⟩
  replace M := Lib.hid (M.out.then mq)
  replace HB := Lib.hid (HB.out.mod mq (fun e => e))
  clear mq
  go_wp2_with fail
  clear HB HGW
  refine (join_to _ [] ⟨#[0]⟩ 0 (by decide) (by decide +kernel) (by kernel_rfl) (by kernel_rfl) _ (Rd.nil _ _ _ _)).mono ?_
  rintro e wq ⟨rfl, mq⟩
  replace M := Lib.hid (M.out.then mq)
  clear mq
  go_wp2_with fail
  refine (join_to _ [⟨#[97]⟩, ⟨#[]⟩] ⟨#[]⟩ 1 (by decide) (by decide +kernel) (by kernel_rfl) (by kernel_rfl) _ (blk_txt (L := [⟨#[97]⟩, ⟨#[]⟩]) (c := 2) (Blk.new _ _ _) rfl)).mono ?_
  rintro e wq ⟨rfl, mq⟩
  replace M := Lib.hid ((M.out.alloc _).then mq)
  clear mq
  have zf : ((fullN.size : Int) != 255) = false := by rw [fullN_size]; rfl
  have zf2 : fullN.size ≤ 255 := by rw [fullN_size]; exact Nat.le_refl _
  go_wp2_with fail
  refine (may_to _ true ?h1 ?h2 _).mono ?_
  case h1 => decide +kernel
  case h2 => kernel_rfl
  rintro e wq ⟨rfl, mq⟩
  replace M := Lib.hid (M.out.then mq)
  clear mq
  go_wp2_with fail
  clear zf
  refine (reads_to _ _ _ ?h1 ?h2 ?h3 ?h4 ?h5 _).mono ?_
  case h1 => decide +kernel
  case h2 => decide +kernel
  case h3 => kernel_rfl
  case h4 => kernel_rfl
  case h5 => kernel_rfl
  rintro e wq ⟨rfl, mq⟩
  replace M := Lib.hid (M.out.then mq)
  clear mq
  go_wp2_with fail
  refine (reads_to _ _ _ ?h1 ?h2 ?h3 ?h4 ?h5 _).mono ?_
  case h1 => decide +kernel
  case h2 => decide +kernel
  case h3 => kernel_rfl
  case h4 => kernel_rfl
  case h5 => kernel_rfl
  rintro e wq ⟨rfl, mq⟩
  replace M := Lib.hid (M.out.then mq)
  clear mq
  go_wp2_with fail
  refine (reads_to _ _ _ ?h1 ?h2 ?h3 ?h4 ?h5 _).mono ?_
  case h1 => decide +kernel
  case h2 => decide +kernel
  case h3 => kernel_rfl
  case h4 => kernel_rfl
  case h5 => kernel_rfl
  rintro e wq ⟨rfl, mq⟩
  replace M := Lib.hid (M.out.then mq)
  clear mq
  go_wp2_with fail
  refine (reads_to _ _ _ ?h1 ?h2 ?h3 ?h4 ?h5 _).mono ?_
  case h1 => decide +kernel
  case h2 => decide +kernel
  case h3 => kernel_rfl
  case h4 => kernel_rfl
  case h5 => kernel_rfl
  rintro e wq ⟨rfl, mq⟩
  replace M := Lib.hid (M.out.then mq)
  clear mq
  go_wp2_with fail
  refine (M63.out _).mono ?_
  rintro e wq ⟨rfl, mq⟩
  replace M := Lib.hid (M.out.then mq)
  clear mq
  go_wp2_with fail
  refine (M63.out _).mono ?_
  rintro e wq ⟨rfl, mq⟩
  replace M := Lib.hid (M.out.then mq)
  clear mq
  go_wp2_with fail
  refine (M63.out _).mono ?_
  rintro e wq ⟨rfl, mq⟩
  replace M := Lib.hid (M.out.then mq)
  clear mq
  go_wp2_with fail
  refine (M61.out _).mono ?_
  rintro e wq ⟨rfl, mq⟩
  replace M := Lib.hid (M.out.then mq)
  clear mq
  go_wp2_with fail
  refine (M63.out _).mono ?_
  rintro e wq ⟨rfl, mq⟩
  replace M := Lib.hid (M.out.then mq)
  clear mq
  go_wp2_with fail
  refine (M63.out _).mono ?_
  rintro e wq ⟨rfl, mq⟩
  replace M := Lib.hid (M.out.then mq)
  clear mq
  go_wp2_with fail
  refine (M63.out _).mono ?_
  rintro e wq ⟨rfl, mq⟩
  replace M := Lib.hid (M.out.then mq)
  clear mq
  go_wp2_with fail
  refine (M61.out _).mono ?_
  rintro e wq ⟨rfl, mq⟩
  replace M := Lib.hid (M.out.then mq)
  clear mq
  go_wp2_with fail
  refine (reads_to _ _ _ ?h1 ?h2 ?h3 ?h4 ?h5 _).mono ?_
  case h1 => decide +kernel
  case h2 => decide +kernel
  case h3 => kernel_rfl
  case h4 => kernel_rfl
  case h5 => kernel_rfl
  rintro e wq ⟨rfl, mq⟩
  replace M := Lib.hid (M.out.then mq)
  clear mq
  go_wp2_with fail
  refine (M300.out _).mono ?_
  rintro e wq ⟨rfl, mq⟩
  replace M := Lib.hid (M.out.then mq)
  clear mq
  go_wp2_with fail
  go_loopg [13, 14, 15, 169] 18 (fun k _ _ _ i wr => NnRel w wq.heap.size k i wr)
  case atStart => exact ⟨0, rfl, by omega, Blk.new _ _ _, M.out.alloc _⟩
  case round =>
    clear M
    obtain ⟨j, rfl, hj, hb, hk⟩ := hrel
    have HJ := Lib.hid hj
    have HB := Lib.hid hb
    have M := Lib.hid hk
    have hj18 : j ≤ 18 := by omega
    clear hj hb hk
    by_cases hlt : j < 18
    · obtain ⟨x, hx, hxs, hx1, hx2⟩ := s18_bad j hlt
      have f1 : wr.cell? ⟨wq.heap.size, j, none⟩ = some (.string x) := by
        rw [HB.out.cell, List.getElem?_toArray]
        exact strVals_get hx
      have i1 : (j : Int) < 18 := by omega
      have C := Lib.hid (parse_to x ⟨#[]⟩ 3 (by omega) hx1 hx2)
      clear hx hx1 hx2 hxs hlt
      go_wp2_with fail
      refine (C.out _).mono ?_
      rintro e w9 ⟨rfl, m9⟩
      have HM9 := Lib.hid m9
      clear m9
      go_wp2_with fail
      go_roundg (18 - (j + 1))
      case measure => have := HJ.out; omega
      case rel => exact ⟨j + 1, by go_num, by omega, HB.out.mod HM9.out (fun e => e), M.out.then HM9.out⟩
    · obtain rfl : j = 18 := by omega
      clear HB hlt
      go_wp2_with fail
      refine (M64.out _).mono ?_
      rintro e wq ⟨rfl, mq⟩
      replace M := Lib.hid (M.out.then mq)
      clear mq
      go_wp2_with fail
      refine (parse_to _ ⟨#[]⟩ 5 ?h1 ?h2 ?h3 _).mono ?_
      case h1 => decide +kernel
      case h2 => kernel_rfl
      case h3 => kernel_rfl
      rintro e wq ⟨rfl, mq⟩
      replace M := Lib.hid (M.out.then mq)
      clear mq
      go_wp2_with fail
      refine (M63.out _).mono ?_
      rintro e wq ⟨rfl, mq⟩
      replace M := Lib.hid (M.out.then mq)
      clear mq
      go_wp2_with fail
      refine (M63.out _).mono ?_
      rintro e wq ⟨rfl, mq⟩
      replace M := Lib.hid (M.out.then mq)
      clear mq
      go_wp2_with fail
      refine (M63.out _).mono ?_
      rintro e wq ⟨rfl, mq⟩
      replace M := Lib.hid (M.out.then mq)
      clear mq
      go_wp2_with fail
      refine (M62.out _).mono ?_
      rintro e wq ⟨rfl, mq⟩
      replace M := Lib.hid (M.out.then mq)
      clear mq
      go_wp2_with fail
      refine (parse_to _ ⟨#[]⟩ 5 ?h1 ?h2 ?h3 _).mono ?_
      case h1 => decide +kernel
      case h2 => kernel_rfl
      case h3 => kernel_rfl
      rintro e wq ⟨rfl, mq⟩
      replace M := Lib.hid (M.out.then mq)
      clear mq
      go_wp2_with fail
      refine (M64.out _).mono ?_
      rintro e wq ⟨rfl, mq⟩
      replace M := Lib.hid (M.out.then mq)
      clear mq
      go_wp2_with fail
      refine (parse_to _ ⟨#[]⟩ 5 ?h1 ?h2 ?h3 _).mono ?_
      case h1 => decide +kernel
      case h2 => kernel_rfl
      case h3 => kernel_rfl
      rintro e wq ⟨rfl, mq⟩
      replace M := Lib.hid (M.out.then mq)
      clear mq
      go_wp2_with fail
      refine (parent_to _ ⟨#[]⟩ false ?h1 ?h2 ?h3 _).mono ?_
      case h1 => decide +kernel
      case h2 => kernel_rfl
      case h3 => kernel_rfl
      rintro e wq ⟨rfl, mq⟩
      replace M := Lib.hid (M.out.then mq)
      clear mq
      go_wp2_with fail
      refine (labels_to ⟨#[0]⟩ [] (by decide +kernel) (by kernel_rfl) _).mono ?_
      rintro e wq ⟨v, rfl, hT, mq⟩
      obtain ⟨A9, c9, rfl⟩ := hT.form
      replace M := Lib.hid (M.out.then mq)
      rw [show ([] : List ByteArray).length = 0 from rfl]
      clear mq hT
      go_wp2_with fail
      refine (text_to _ ⟨#[]⟩ ?h1 ?h2 _).mono ?_
      case h1 => decide +kernel
      case h2 => kernel_rfl
      rintro e wq ⟨rfl, mq⟩
      replace M := Lib.hid (M.out.then mq)
      clear mq
      go_wp2_with fail
      refine (same_to _ _ false ?h1 ?h2 ?h3 _).mono ?_
      case h1 => decide +kernel
      case h2 => decide +kernel
      case h3 => kernel_rfl
      rintro e wq ⟨rfl, mq⟩
      replace M := Lib.hid (M.out.then mq)
      clear mq
      go_wp2_with fail
      refine (compare_to _ _ 0 ?h1 ?h2 ?h3 _).mono ?_
      case h1 => decide +kernel
      case h2 => decide +kernel
      case h3 => kernel_rfl
      rintro e wq ⟨rfl, mq⟩
      replace M := Lib.hid (M.out.then mq)
      clear mq
      go_wp2_with fail
      refine (fold_to _ ⟨#[1, 91, 0]⟩ ?h1 ?h2 _).mono ?_
      case h1 => decide +kernel
      case h2 => kernel_rfl
      rintro e wq ⟨rfl, mq⟩
      replace M := Lib.hid (M.out.then mq)
      clear mq
      go_wp2_with fail
      refine (fold_to _ ⟨#[2, 64, 122, 0]⟩ ?h1 ?h2 _).mono ?_
      case h1 => decide +kernel
      case h2 => kernel_rfl
      rintro e wq ⟨rfl, mq⟩
      replace M := Lib.hid (M.out.then mq)
      clear mq
      go_wp2_with fail
      go_ret
      exact ⟨rfl, M.out⟩
end Go.Proofs.Ytafeepokcakmkaa
