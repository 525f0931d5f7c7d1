/- The document's labels, walked. Conditions: at most 1000000 bytes. -/
import Derived.Test.YtafeepokcakmkaaNamN
import Derived.Outline
namespace Go.Proofs.Ytafeepokcakmkaa
open Go.RowKit

def RLabRel (n : ByteArray) (w : World) (k : Nat) (vo va : Value) (wr : World) : Prop :=
  ∃ (p : Nat) (L : List ByteArray), va = .int .i64 p ∧ p + k = n.size ∧ L.length ≤ p ∧ Txs wr w.heap.size vo L ∧ Left (bys n) (lbs L) ((bys n).drop p) ∧ Kept w wr
theorem drop_cons {n : ByteArray} {p : Nat} (h : p < n.size) : (bys n).drop p = (n[p]'h).toNat :: (bys n).drop (p + 1) := by
  have hl : p < (bys n).length := by rw [bys_length]; exact h
  rw [List.drop_eq_getElem_cons hl]
  congr 1
  have := bys_get n h
  rw [List.getElem?_eq_getElem hl] at this
  exact Option.some.inj this
set_option maxHeartbeats 2000000 in
set_option maxRecDepth 100000 in
theorem rlabels_any (n : ByteArray) (hn : n.size ≤ 1000000) (w : World) :
    Calls Try.prog 32 #[.string n] w (SplitTo n w) := by
  go_enter Try.func32, Try.ntmps32
  go_wp2_with fail
  go_loopg [4, 5, 6] n.size (fun k vo va _ wr => RLabRel n w k vo va wr)
  case atStart => exact ⟨0, [], rfl, by omega, by simp, Txs.nil _ _, by exact Left.start _, Kept.refl _⟩
  case round =>
    obtain ⟨p, L, rfl, hk, hLp, hT, hL, hm⟩ := hrel
    have HK := Lib.hid hk
    have HL := Lib.hid hL
    have M := Lib.hid hm
    have hpl : p ≤ n.size := by omega
    by_cases hlt : p < n.size
    · have HLT := Lib.hid hlt
      have i1 : (p : Int) < (n.size : Int) := by omega
      have hdc := drop_cons hlt
      obtain ⟨c, hc⟩ : ∃ c, c = (n[p]'hlt).toNat := ⟨_, rfl⟩
      have hc2 : ((n[p]'hlt).toNat : Int) = (c : Int) := by rw [hc]
      have hc256 : c < 256 := by rw [hc]; exact (n[p]'hlt).toNat_lt
      rw [← hc] at hdc
      obtain ⟨t, ht⟩ : ∃ t, t = (bys n).drop (p + 1) := ⟨_, rfl⟩
      rw [← ht] at hdc
      have htl : t.length + p + 1 = n.size := by rw [ht, List.length_drop, bys_length]; omega
      have HDC := Lib.hid hdc
      have HT := Lib.hid ht
      have HTL := Lib.hid htl
      by_cases h0 : c = 0
      · have t0 : ((c : Int) != 0) = false := by rw [h0]; rfl
        have H0 := Lib.hid h0
        by_cases he : t = []
        · have hpe : p + 1 = n.size := by rw [he] at htl; simpa using htl
          have t1 : ((p : Int) != (n.size : Int) - 1) = false := by rw [bne_eq_false_iff_eq]; omega
          by_cases h255 : n.size ≤ 255
          · have i2 : (n.size : Int) ≤ 255 := by omega
            have HS := Lib.hid (show splitN (bys n) = some (lbs L) by
              rw [splitN_goA (by rw [bys_length]; exact h255)]
              have := hL
              rw [hdc, h0, he] at this
              exact this.root)
            have HTT := Lib.hid hT
            clear hc hdc ht htl h0 he hpe hk hL hm hT
            go_wp2_with fail
            refine bodyPost_ret (v := .tuple #[u4, .bool true]) (by simp [results, Try.results32, go_sem]) rfl ⟨M.out, .inr ⟨_, L, HS.out, rfl, HTT.out⟩⟩
          · have i2 : (255 : Int) < (n.size : Int) := by omega
            have HS := Lib.hid (splitN_long (n := bys n) (by rw [bys_length]; omega))
            clear hc hdc ht htl h0 he hpe hk hL hm hT
            go_wp2_with fail
            refine bodyPost_ret (v := .tuple #[.slice none 0 0, .bool false]) (by simp [results, Try.results32, go_sem]) rfl ⟨M.out, .inl ⟨HS.out, rfl⟩⟩
        · have hpos := List.length_pos_iff.2 he
          have t1 : ((p : Int) != (n.size : Int) - 1) = true := by rw [bne_iff_ne]; omega
          have HS := Lib.hid (show splitN (bys n) = none by
            unfold splitN
            split
            · rfl
            · have := hL
              rw [hdc, h0] at this
              exact this.zero he)
          clear hc hdc ht htl h0 he hpos hk hL hm hT
          go_wp2_with fail
          refine bodyPost_ret (v := .tuple #[.slice none 0 0, .bool false]) (by simp [results, Try.results32, go_sem]) rfl ⟨M.out, .inl ⟨HS.out, rfl⟩⟩
      · have t0 : ((c : Int) != 0) = true := by rw [bne_iff_ne]; omega
        by_cases hbad : 63 < c ∨ t.length < c
        · have HS := Lib.hid (show splitN (bys n) = none by
            unfold splitN
            split
            · rfl
            · have := hL
              rw [hdc] at this
              exact this.none (goA_odd h0 hbad))
          have i2 : 63 < (c : Int) ∨ (c : Int) ≤ 63 ∧ (n.size : Int) < (p : Int) + 1 + (c : Int) := by omega
          clear hc hdc ht htl h0 hbad hk hL hm hT
          rcases i2 with i2 | ⟨i2, i3⟩
          all_goals
            go_wp2_with fail
            refine bodyPost_ret (v := .tuple #[.slice none 0 0, .bool false]) (by simp [results, Try.results32, go_sem]) rfl ⟨M.out, .inl ⟨HS.out, rfl⟩⟩
        · have i2 : (c : Int) ≤ 63 := by omega
          have i3 : (p : Int) + 1 + (c : Int) ≤ (n.size : Int) := by omega
          have i4 : p + 1 ≤ n.size := by omega
          have i5 : p + 1 + c ≤ n.size := by omega
          have i6 : (p : Int) + 1 ≤ (p : Int) + 1 + (c : Int) := by omega
          have HST := Lib.hid (hdc ▸ hL |>.step (goA_cons h0 (by omega) (by omega) : goA (c :: t) = _))
          have HX := Lib.hid (show bys (n.extract (p + 1) (p + 1 + c)) = t.take c by rw [bys_extract, ht]; congr 1; omega)
          have HD := Lib.hid (show t.drop c = (bys n).drop (p + 1 + c) by rw [ht, List.drop_drop])
          have hLc : 1 ≤ c := by omega
          have HLOW := Lib.hid hT.lt
          clear hc hdc ht htl h0 hbad hk hL hm
          go_wp2_with (refine wpList_push 25 9 1 16 41 elem_str (.tmp 40) (.tmp 32) rfl rfl rfl rfl rfl (by simp) (.string (n.extract (p + 1) (p + 1 + c))) rfl rfl (by simp [Value.cells, Value.oneCell']) _ _ _ _ rfl hT (by unfold maxLen; omega) (by omega) M.out.size ?_; intro v' w4 hown1 hm1 _; have M2 : Hid (Kept w w4) := Lib.hid (Mod.trans M.out hm1 (fun i hi e => by have := (HLOW.out i e).1; omega)); clear hm1 hT)
          go_roundg (n.size - (p + 1 + c))
          case measure => have := HK.out; have := HLT.out; omega
          case rel => exact ⟨p + 1 + c, L ++ [n.extract (p + 1) (p + 1 + c)], by go_num, by omega, by rw [List.length_append]; simp only [List.length_cons, List.length_nil]; omega, Txs.snoc hown1, by have h := HST.out; rw [HD.out, ← HX.out] at h; unfold lbs at h ⊢; rw [List.map_append]; exact h, M2.out⟩
    · have i1 : (n.size : Int) ≤ (p : Int) := by omega
      have t1 : ((p : Int) != (n.size : Int) - 1) = true := by rw [bne_iff_ne]; omega
      have HS := Lib.hid (show splitN (bys n) = none by
        unfold splitN
        split
        · rfl
        · have := hL
          rw [List.drop_eq_nil_of_le (by rw [bys_length]; omega)] at this
          exact this.none goA_nil)
      clear hk hL hm hT hlt
      go_wp2_with fail
      refine bodyPost_ret (v := .tuple #[.slice none 0 0, .bool false]) (by simp [results, Try.results32, go_sem]) rfl ⟨M.out, .inl ⟨HS.out, rfl⟩⟩
theorem rmay_any (n : ByteArray) (hn : n.size ≤ 1000000) (w : World) :
    Calls Try.prog 37 #[.string n] w fun e w' => e = .returned (.bool (mayN (bys n))) ∧ Kept w w' := by
  go_enter Try.func37, Try.ntmps37
  go_wp2_with fail
  refine (rlabels_any n hn _).mono ?_
  rintro e w1 ⟨m1, ⟨hs, rfl⟩ | ⟨v, L, hs, rfl, hT⟩⟩
  all_goals
    have HS := Lib.hid hs
    have M := Lib.hid m1
    clear hs m1
    go_wp2_with fail
    go_ret
    exact ⟨by unfold mayN; rw [HS.out]; rfl, M.out⟩
end Go.Proofs.Ytafeepokcakmkaa
