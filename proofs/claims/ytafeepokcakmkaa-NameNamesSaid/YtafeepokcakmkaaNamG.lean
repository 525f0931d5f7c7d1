/- Folded bytes and labels, walked. Conditions: texts that a memory may hold. -/
import Derived.Test.YtafeepokcakmkaaNamP
import Derived.Test.YtafeepokcakmkaaBld
import Derived.Outline
namespace Go.Proofs.Ytafeepokcakmkaa
open Go.RowKit

theorem lower_any (c : Int) (x : Nat) (hc : c = x) (hx : x < 256) (w : World) :
    Calls Try.prog 62 #[.int .u8 c] w fun e w' => e = .returned (.int .u8 (lowN x : Nat)) ∧ w' = w := by
  subst hc
  by_cases h1 : 65 ≤ x
  · by_cases h2 : x ≤ 90
    · have HE := Lib.hid (show lowN x = x + 32 from by unfold lowN; rw [if_pos ⟨h1, h2⟩])
      have g1 : (65 : Int) ≤ (x : Int) := by omega
      have g2 : (x : Int) ≤ 90 := by omega
      go_enter Try.func62, Try.ntmps62
      go_wp2_with fail
      go_ret
      exact ⟨by rw [HE.out]; go_num, rfl⟩
    · have HE := Lib.hid (show lowN x = x from by unfold lowN; rw [if_neg (by omega)])
      have g1 : (65 : Int) ≤ (x : Int) := by omega
      have g2 : ¬ (x : Int) ≤ 90 := by omega
      go_enter Try.func62, Try.ntmps62
      go_wp2_with fail
      go_ret
      exact ⟨by rw [HE.out]; rfl, rfl⟩
  · have HE := Lib.hid (show lowN x = x from by unfold lowN; rw [if_neg (by omega)])
    have g1 : ¬ (65 : Int) ≤ (x : Int) := by omega
    go_enter Try.func62, Try.ntmps62
    go_wp2_with fail
    go_ret
    exact ⟨by rw [HE.out]; rfl, rfl⟩
def FoldRel (s : ByteArray) (g : Nat) (w : World) (k : Nat) (i : Value) (wr : World) : Prop :=
  ∃ j : Nat, i = .int .i64 j ∧ j + k = s.size ∧ Byt wr g (u8s (lowL ((bys s).take j) ++ (bys s).drop j)) ∧ Kept w wr
theorem fold_set {l : List Nat} {j x : Nat} (h : l[j]? = some x) : (u8s (lowL (l.take j) ++ l.drop j)).set j (.int .u8 (lowN x : Nat)) = u8s (lowL (l.take (j + 1)) ++ l.drop (j + 1)) := by
  obtain ⟨hj, hx⟩ := List.getElem?_eq_some_iff.1 h
  have e1 : (lowL (l.take j)).length = j := by rw [lowL_length, List.length_take]; omega
  rw [List.take_add_one, h, List.drop_eq_getElem_cons hj]
  unfold u8s
  have e2 : min j l.length = j := by omega
  rw [List.map_append, List.set_append_right _ _ (by simp [e1])]
  simp [lowL, hx, e2]
theorem fold_get {l : List Nat} {j x : Nat} (h : l[j]? = some x) : (u8s (lowL (l.take j) ++ l.drop j))[j]? = some (.int .u8 (x : Int)) := by
  obtain ⟨hj, hx⟩ := List.getElem?_eq_some_iff.1 h
  have e1 : (lowL (l.take j)).length = j := by rw [lowL_length, List.length_take]; omega
  refine u8s_get ?_
  rw [List.getElem?_append_right (by omega), e1, Nat.sub_self, List.getElem?_drop, Nat.add_zero, h]
set_option maxHeartbeats 1000000 in
theorem folded_any (s : ByteArray) (hs : s.size ≤ 1000000) (w : World) :
    Calls Try.prog 56 #[.string s] w fun e w' => e = .returned (.string (mkS (lowL (bys s)))) ∧ Kept w w' := by
  obtain ⟨c, w1, hcv, hb, hm⟩ := run_bytes s w
  have HB := Lib.hid hb
  have M := Lib.hid hm
  have hg : w.heap.size < w1.heap.size := hb.lt
  have hg0 := Lib.hid (Nat.le_refl w.heap.size)
  obtain ⟨g, hgg⟩ : ∃ g, g = w.heap.size := ⟨_, rfl⟩
  rw [← hgg] at hcv hb HB hg
  have HG := Lib.hid hgg
  clear hb hm hgg
  go_enter Try.func56, Try.ntmps56
  go_wp2_with fail
  go_loopg [4, 5, 10] s.size (fun k _ _ i wr => FoldRel s g w k i wr)
  case atStart => exact ⟨0, rfl, by omega, by simpa [lowL] using HB.out, M.out⟩
  case round =>
    obtain ⟨j, rfl, hj, hB, hm⟩ := hrel
    have HJ := Lib.hid hj
    replace M := Lib.hid hm
    replace HB := Lib.hid hB
    by_cases hlt : j < s.size
    · have HLT := Lib.hid hlt
      have hx := List.getElem?_eq_getElem (show j < (bys s).length by rw [bys_length]; exact hlt)
      obtain ⟨x, hxx⟩ : ∃ x, x = (bys s)[j]'(by rw [bys_length]; exact hlt) := ⟨_, rfl⟩
      rw [← hxx] at hx
      have hx256 : x < 256 := by rw [hxx]; exact bys_lt s _ (List.getElem_mem _)
      have f1 := hB.cell (fold_get hx)
      have f2 : wr.frozen? ⟨g, j, none⟩ = false := hB.frozen (by rw [u8s_length, List.length_append, lowL_length, List.length_take, List.length_drop, bys_length]; omega)
      have hgr := hB.lt
      have i1 : (j : Int) < (s.size : Int) := by omega
      have HX := Lib.hid hx
      clear hx hxx hj hB hm hlt
      go_wp2_with fail
      refine (lower_any _ x rfl hx256 _).mono ?_
      rintro e w2 ⟨rfl, rfl⟩
      go_wp2_with fail
      go_roundg (s.size - (j + 1))
      case measure => have := HJ.out; have := HLT.out; omega
      case rel =>
        refine ⟨j + 1, by go_num, by have := HLT.out; omega, ?_, ?_⟩
        · rw [← fold_set HX.out]; exact HB.out.set _ _
        · have := HG.out
          subst this
          exact M.out.only ((Mod.refl (Only w.heap.size) _).at _ _) (Nat.le_refl _)
    · obtain rfl : j = s.size := by omega
      have e1 : (bys s).take s.size = bys s := List.take_of_length_le (by rw [bys_length]; exact Nat.le_refl _)
      have e2 : (bys s).drop s.size = [] := List.drop_eq_nil_of_le (by rw [bys_length]; exact Nat.le_refl _)
      rw [e1, e2, List.append_nil] at hB
      have hr := run_text c hB (low_lt (bys_lt s)) s.size (by rw [lowL_length, bys_length])
      clear e1 e2 hj hB hm hlt
      go_wp2_with fail
      go_ret
      exact ⟨rfl, M.out⟩
end Go.Proofs.Ytafeepokcakmkaa
