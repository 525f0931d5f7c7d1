/- The examples, walked. Conditions: none. -/
import Derived.Test.YtafeepokcakmkaaNamN
import Derived.Deep.RegionHeld3
import Derived.Outline
namespace Go.Proofs.Ytafeepokcakmkaa
open Go.RowKit

theorem parse_to (s r : ByteArray) (n : Int) (hs : s.size ≤ 1000000) (hr : parS2 s = r) (hn : parE s = n) (w : World) :
    Calls Try.prog 19 #[.string s] w fun e w' => e = .returned (.tuple #[.string r, .int .i64 n]) ∧ Kept w w' := by
  subst hr hn; exact parse_any s hs w
theorem parent_to (s r : ByteArray) (b : Bool) (hs : s.size < 2 ^ 63) (hr : parS s = r) (hb : parB s = b) (w : World) :
    Calls Try.prog 29 #[.string s] w fun e w' => e = .returned (.tuple #[.string r, .bool b]) ∧ Kept w w' := by
  subst hr hb; exact parent_any s hs w
theorem fold_to (s r : ByteArray) (hs : s.size < 2 ^ 63) (hr : foldS s = r) (w : World) :
    Calls Try.prog 26 #[.string s] w fun e w' => e = .returned (.string r) ∧ Kept w w' := by
  subst hr; exact fold_any s hs w
theorem text_to (s r : ByteArray) (hs : s.size < 2 ^ 63) (hr : textS s = r) (w : World) :
    Calls Try.prog 31 #[.string s] w fun e w' => e = .returned (.string r) ∧ Kept w w' := by
  subst hr; exact text_any s hs w
theorem may_to (s : ByteArray) (b : Bool) (hs : s.size < 2 ^ 63) (hb : mayN (bys s) = b) (w : World) :
    Calls Try.prog 24 #[.string s] w fun e w' => e = .returned (.bool b) ∧ Kept w w' := by
  subst hb; exact may_any s hs w
theorem same_to (s t : ByteArray) (b : Bool) (hs : s.size < 2 ^ 63) (ht : t.size < 2 ^ 63) (hb : sameN (bys s) (bys t) = b) (w : World) :
    Calls Try.prog 13 #[.string s, .string t] w fun e w' => e = .returned (.bool b) ∧ Kept w w' := by
  subst hb; exact same_any s t hs ht w
theorem within_to (s t : ByteArray) (b : Bool) (hs : s.size < 2 ^ 63) (ht : t.size < 2 ^ 63) (hb : withinN (bys s) (bys t) = b) (w : World) :
    Calls Try.prog 15 #[.string s, .string t] w fun e w' => e = .returned (.bool b) ∧ Kept w w' := by
  subst hb; exact within_any s t hs ht w
theorem compare_to (s t : ByteArray) (n : Int) (hs : s.size < 2 ^ 63) (ht : t.size < 2 ^ 63) (hn : cmpN (bys s) (bys t) = n) (w : World) :
    Calls Try.prog 17 #[.string s, .string t] w fun e w' => e = .returned (.int .i64 n) ∧ Kept w w' := by
  subst hn; exact compare_name s t hs ht w
def rowB : List ByteArray := [⟨#[0]⟩, ⟨#[2, 101, 120, 0]⟩, ⟨#[1, 97, 2, 101, 120, 0]⟩, ⟨#[1, 97, 1, 97, 2, 101, 120, 0]⟩, ⟨#[1, 98, 2, 101, 120, 0]⟩, ⟨#[1, 102, 0]⟩]
theorem row_any (w : World) :
    Calls Try.prog 36 #[] w fun e w' => e = .returned (.slice (some ⟨w.heap.size, 0, none⟩) 6 6) ∧ Rd w' 1 (.slice (some ⟨w.heap.size, 0, none⟩) 6 6) 6 (strVals rowB) ∧ Kept w w' := by
  go_enter Try.func36, Try.ntmps36
  go_wp2_with fail
  go_ret
  refine ⟨rfl, ?_, (Kept.refl _).alloc _⟩
  refine ⟨rfl, _, _, rfl, fun _ => ⟨_, 0, rfl, by simp, fun j u hu => ?_⟩⟩
  rw [Nat.zero_add, (Blk.new w _ _).cell, ← Array.getElem?_toList]
  exact hu
theorem row_cmp : ∀ j, j < 5 → ∃ x y, rowB[j]? = some x ∧ rowB[j + 1]? = some y ∧ x.size < 2 ^ 63 ∧ y.size < 2 ^ 63 ∧ cmpN (bys x) (bys y) = -1 ∧ cmpN (bys y) (bys x) = 1 := by
  intro j hj
  match j, hj with
  | 0, _ => exact ⟨_, _, rfl, rfl, by decide, by decide, by kernel_rfl, by kernel_rfl⟩
  | 1, _ => exact ⟨_, _, rfl, rfl, by decide, by decide, by kernel_rfl, by kernel_rfl⟩
  | 2, _ => exact ⟨_, _, rfl, rfl, by decide, by decide, by kernel_rfl, by kernel_rfl⟩
  | 3, _ => exact ⟨_, _, rfl, rfl, by decide, by decide, by kernel_rfl, by kernel_rfl⟩
  | 4, _ => exact ⟨_, _, rfl, rfl, by decide, by decide, by kernel_rfl, by kernel_rfl⟩
def AwkRel (w : World) (k : Nat) (i : Value) (wr : World) : Prop := ∃ j : Nat, i = .int .i64 j ∧ 1 ≤ j ∧ j + k = 6 ∧ Kept w wr
set_option maxHeartbeats 4000000 in
set_option maxRecDepth 100000 in
theorem awake_any (w : World) : Calls Try.prog 12 #[] w fun e w' => e = .returned (.bool true) ∧ Kept w w' := by
  have P1 := Lib.hid (parse_to ⟨#[119, 119, 119, 46, 69, 120, 46]⟩ ⟨#[3, 119, 119, 119, 2, 69, 120, 0]⟩ 0 (by decide) (by kernel_rfl) (by kernel_rfl))
  have P2 := Lib.hid (parse_to ⟨#[97, 32, 98]⟩ ⟨#[]⟩ 3 (by decide) (by kernel_rfl) (by kernel_rfl))
  have P3 := Lib.hid (parent_to ⟨#[3, 119, 119, 119, 2, 69, 120, 0]⟩ ⟨#[2, 69, 120, 0]⟩ true (by decide) (by kernel_rfl) (by kernel_rfl))
  have P4 := Lib.hid (fold_to ⟨#[3, 119, 119, 119, 2, 69, 120, 0]⟩ ⟨#[3, 119, 119, 119, 2, 101, 120, 0]⟩ (by decide) (by kernel_rfl))
  have P5 := Lib.hid (within_to ⟨#[3, 119, 119, 119, 2, 69, 120, 0]⟩ ⟨#[2, 101, 120, 0]⟩ true (by decide) (by decide) (by kernel_rfl))
  have P6 := Lib.hid (text_to ⟨#[3, 119, 119, 119, 2, 69, 120, 0]⟩ ⟨#[119, 119, 119, 46, 69, 120, 46]⟩ (by decide) (by kernel_rfl))
  have P7 := Lib.hid (same_to ⟨#[2, 69, 120, 0]⟩ ⟨#[2, 101, 120, 0]⟩ true (by decide) (by decide) (by kernel_rfl))
  go_enter Try.func12, Try.ntmps12
  go_wp2_with fail
  refine (P1.out _).mono ?_
  rintro e w1 ⟨rfl, m1⟩
  have M := Lib.hid m1
  clear m1
  go_wp2_with fail
  refine (P2.out _).mono ?_
  rintro e wq ⟨rfl, mq⟩
  replace M := Lib.hid (M.out.then mq)
  clear mq
  go_wp2_with fail
  refine (P3.out _).mono ?_
  rintro e wq ⟨rfl, mq⟩
  replace M := Lib.hid (M.out.then mq)
  clear mq
  go_wp2_with fail
  refine (row_any _).mono ?_
  rintro e w5 ⟨rfl, hrd, m1⟩
  have HR := Lib.hid hrd
  replace M := Lib.hid (M.out.then m1)
  obtain ⟨g, hg⟩ : ∃ g, g = wq.heap.size := ⟨_, rfl⟩
  rw [← hg] at HR ⊢
  clear m1 hrd hg
  go_wp2_with fail
  go_loopg [8] 5 (fun k i wr => AwkRel w5 k i wr)
  case atStart => exact ⟨1, rfl, by omega, by omega, Kept.refl _⟩
  case round =>
    obtain ⟨j, rfl, h1, hj, hm⟩ := hrel
    have HJ := Lib.hid hj
    have M2 := Lib.hid hm
    by_cases hlt : j < 6
    · obtain ⟨q, hq⟩ : ∃ q, j = q + 1 := ⟨j - 1, by omega⟩
      obtain ⟨x, y, hx, hy, hxs, hys, hc1, hc2⟩ := row_cmp q (by omega)
      have HLT := Lib.hid hlt
      have hrd := HR.out.kept M2.out (fun _ _ e => e)
      obtain ⟨b, o, c2, e2, hb, g2⟩ := hrd.at (show 0 < 6 by omega)
      injection e2 with e2 _ e3
      injection e2 with e2
      injection e2 with e2 e4
      subst e2 e4 e3
      have f1 : wr.cell? ⟨g, q, none⟩ = some (.string x) := by have := g2 q _ (strVals_get hx); rw [Nat.zero_add] at this; exact this
      have f2 : wr.cell? ⟨g, j, none⟩ = some (.string y) := by have := g2 (q + 1) _ (strVals_get hy); rw [Nat.zero_add, ← hq] at this; exact this
      have C1 := Lib.hid (compare_to x y (-1) hxs hys hc1)
      have C2 := Lib.hid (compare_to y x 1 hys hxs hc2)
      have HB := Lib.hid hb
      have HF := Lib.hid (And.intro f1 f2)
      have hq5 : q < 5 := by omega
      have hw : IntKind.i64.wrap ((j : Int) - 1) = (q : Int) := by rw [IntWalk.i64_in _ (by omega)]; omega
      have i1 : (j : Int) < 6 := by omega
      have i2 : (q : Int) < 6 := by omega
      have HQ := Lib.hid hq
      clear hq hx hy hxs hys hc1 hc2 hrd g2 hj hlt hm f1 f2 hb
      go_wp2_with fail
      go_region_held3 (fun w' => w'.cell? ⟨g, q, none⟩ = some (.string x) ∧ w'.cell? ⟨g, j, none⟩ = some (.string y)) (first | exact HF.out | exact q3 | exact q4)
        (first | ((with_reducible refine (C1.out _).mono ?_); rintro e w3 ⟨rfl, m3⟩; have q3 : w3.cell? ⟨g, q, none⟩ = some (.string x) ∧ w3.cell? ⟨g, j, none⟩ = some (.string y) := ⟨(m3.cell (p := ⟨g, q, none⟩) HB.out (fun e => e)).trans HF.out.1, (m3.cell (p := ⟨g, j, none⟩) HB.out (fun e => e)).trans HF.out.2⟩) | ((with_reducible refine (C2.out _).mono ?_); rintro e w4 ⟨rfl, m4⟩; have q4 : w4.cell? ⟨g, q, none⟩ = some (.string x) ∧ w4.cell? ⟨g, j, none⟩ = some (.string y) := ⟨(m4.cell (p := ⟨g, q, none⟩) (Nat.lt_of_lt_of_le HB.out m3.size) (fun e => e)).trans q3.1, (m4.cell (p := ⟨g, j, none⟩) (Nat.lt_of_lt_of_le HB.out m3.size) (fun e => e)).trans q3.2⟩))
      have HM4 := Lib.hid ((M2.out.then (Mod.trans (Kept.refl wr).drew m3 (fun _ _ e => e))).then m4)
      clear m3 m4 q3 q4 hw
      go_wp2_with fail
      go_roundg (6 - (j + 1))
      case measure => have := HJ.out; have := HLT.out; omega
      case rel => exact ⟨j + 1, by go_num, by omega, by have := HLT.out; omega, HM4.out⟩
    · obtain rfl : j = 6 := by omega
      have hrd := HR.out.kept M2.out (fun _ _ e => e)
      obtain ⟨b, o, c2, e2, hb, g2⟩ := hrd.at (show 0 < 6 by omega)
      injection e2 with e2 _ e3
      injection e2 with e2
      injection e2 with e2 e4
      subst e2 e4 e3
      have f1 : wr.cell? ⟨g, 1, none⟩ = some (.string ⟨#[2, 101, 120, 0]⟩) := g2 1 _ rfl
      have HF := Lib.hid f1
      have HB := Lib.hid hb
      replace M := Lib.hid (M.out.then M2.out)
      clear hrd g2 hb hj hm hlt f1
      go_wp2_with fail
      refine (P4.out _).mono ?_
      rintro e w6 ⟨rfl, m6⟩
      have f6 : w6.cell? ⟨g, 1, none⟩ = some (.string ⟨#[2, 101, 120, 0]⟩) := (m6.cell (p := ⟨g, 1, none⟩) HB.out (fun e => e)).trans HF.out
      have HB6 := Lib.hid (Nat.lt_of_lt_of_le HB.out m6.size)
      replace M := Lib.hid (M.out.then m6)
      clear m6
      go_wp2_with fail
      refine (P5.out _).mono ?_
      rintro e w7 ⟨rfl, m7⟩
      have f7 : w7.cell? ⟨g, 1, none⟩ = some (.string ⟨#[2, 101, 120, 0]⟩) := (m7.cell (p := ⟨g, 1, none⟩) HB6.out (fun e => e)).trans f6
      have HB7 := Lib.hid (Nat.lt_of_lt_of_le HB6.out m7.size)
      replace M := Lib.hid (M.out.then m7)
      clear m7 f6
      go_wp2_with fail
      refine (P6.out _).mono ?_
      rintro e w8 ⟨rfl, m8⟩
      have f8 : w8.cell? ⟨g, 1, none⟩ = some (.string ⟨#[2, 101, 120, 0]⟩) := (m8.cell (p := ⟨g, 1, none⟩) HB7.out (fun e => e)).trans f7
      replace M := Lib.hid (M.out.then m8)
      clear m8 f7
      go_wp2_with fail
      refine (P7.out _).mono ?_
      rintro e w9 ⟨rfl, m9⟩
      replace M := Lib.hid (M.out.then m9)
      clear m9
      go_wp2_with fail
      go_ret
      exact ⟨rfl, M.out⟩
theorem own_knob : ownKnob Try.prog.godebug = none := by kernel_rfl
theorem laid_out : laidOutB Try.prog = true := by kernel_rfl
end Go.Proofs.Ytafeepokcakmkaa
