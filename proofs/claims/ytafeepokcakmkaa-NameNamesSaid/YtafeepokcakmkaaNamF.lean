/- A name's first label. Conditions: none. -/
import Derived.Test.YtafeepokcakmkaaNamL
namespace Go.Proofs.Ytafeepokcakmkaa
open Go.RowKit

set_option maxHeartbeats 1000000 in
theorem first_any (n : ByteArray) (hn : n.size < 2 ^ 63) (w : World) :
    Calls Try.prog 50 #[.string n] w fun e w' => Kept w w' ∧
      ((firstN (bys n) = none ∧ e = .returned (.tuple #[.string ⟨#[]⟩, .string ⟨#[]⟩, .bool false])) ∨
       ∃ a r, firstN (bys n) = some (bys a, bys r) ∧ e = .returned (.tuple #[.string a, .string r, .bool true])) := by
  by_cases h0 : n.size = 0
  · have e0 : n = ⟨#[]⟩ := bys_inj (show bys n = [] from List.eq_nil_of_length_eq_zero (by rw [bys_length, h0]))
    subst e0
    go_enter Try.func50, Try.ntmps50
    go_wp2_with fail
    refine bodyPost_ret (v := .tuple #[.string ⟨#[]⟩, .string ⟨#[]⟩, .bool false]) (by simp [results, Try.results50, go_sem]) rfl ⟨Kept.refl _, .inl ⟨rfl, rfl⟩⟩
  · have hpos : 0 < n.size := by omega
    have hE := isEmpty_of_pos hpos
    have hb := bys_get n hpos
    obtain ⟨c, hc⟩ : ∃ c, c = (n[0]'hpos).toNat := ⟨_, rfl⟩
    have hc2 : ((n[0]'hpos).toNat : Int) = (c : Int) := by rw [hc]
    have hc256 : c < 256 := by rw [hc]; exact (n[0]'hpos).toNat_lt
    rw [← hc] at hb
    obtain ⟨t, ht⟩ : ∃ t, bys n = c :: t := by
      cases hl : bys n with
      | nil => rw [hl] at hb; cases hb
      | cons d t => rw [hl] at hb; simp at hb; subst hb; exact ⟨t, rfl⟩
    have htl : t.length + 1 = n.size := by rw [← bys_length, ht]; rfl
    have HT := Lib.hid ht
    have HTL := Lib.hid htl
    clear hb hc ht htl
    by_cases hbad : c = 0 ∨ 63 < c ∨ t.length < c + 1
    · have hf : firstN (bys n) = none := by rw [HT.out]; simp only [firstN]; rw [if_pos hbad]
      have HF := Lib.hid hf
      have hall : ((c : Int) == 0) = true ∨ ((c : Int) == 0) = false ∧ 63 < (c : Int) ∨ ((c : Int) == 0) = false ∧ ¬ 63 < (c : Int) ∧ (n.size : Int) < (c : Int) + 2 := by
        have := HTL.out
        rcases Nat.eq_zero_or_pos c with h | h
        · left; simp [h]
        · right
          have e : ((c : Int) == 0) = false := by simp; omega
          by_cases h6 : 63 < c
          · left; exact ⟨e, by omega⟩
          · right; exact ⟨e, by omega, by omega⟩
      clear hf hbad
      rcases hall with g1 | ⟨g1, g2⟩ | ⟨g1, g2, g3⟩
      all_goals
        go_enter Try.func50, Try.ntmps50
        go_wp2_with fail
        refine bodyPost_ret (v := .tuple #[.string ⟨#[]⟩, .string ⟨#[]⟩, .bool false]) (by simp [results, Try.results50, go_sem]) rfl ⟨Kept.refl _, .inl ⟨HF.out, rfl⟩⟩
    · have g1 : ((c : Int) == 0) = false := by simp; omega
      have g2 : ¬ 63 < (c : Int) := by omega
      have g3 : ¬ (n.size : Int) < (c : Int) + 2 := by have := HTL.out; omega
      have g4 : (1 : Int) ≤ (c : Int) + 1 := by omega
      have g5 : c + 1 ≤ n.size := by omega
      have g6 : (c : Int) + 1 ≤ (n.size : Int) := by omega
      have hf : firstN (bys n) = some (bys (n.extract 1 (c + 1)), bys (n.extract (c + 1) n.size)) := by
        rw [bys_extract, bys_extract, HT.out]
        simp only [firstN]
        rw [if_neg hbad]
        have := HTL.out
        simp only [List.drop_succ_cons, List.drop_zero, Nat.add_sub_cancel]
        rw [List.take_of_length_le (l := t.drop c) (by simp; omega)]
      have HF := Lib.hid hf
      clear hf hbad
      go_enter Try.func50, Try.ntmps50
      go_wp2_with fail
      go_region
      go_wp2_with fail
      refine bodyPost_ret (v := .tuple #[.string (n.extract 1 (c + 1)), .string (n.extract (c + 1) n.size), .bool true]) (by simp [results, Try.results50, go_sem]) rfl ⟨(Kept.refl _).drew, .inr ⟨_, _, HF.out, rfl⟩⟩
end Go.Proofs.Ytafeepokcakmkaa
