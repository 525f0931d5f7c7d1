/- The document's folded bytes, joined labels, Fold, Parent, Texts, walked. Conditions: at most 1000000 bytes. -/
import Derived.Test.YtafeepokcakmkaaNamX
import Derived.Outline
namespace Go.Proofs.Ytafeepokcakmkaa
open Go.RowKit

/-- The text of one byte that was just laid. -/
theorem run_one (w : World) (x : Nat) (hx : x < 256) : (convert 35 9 (.slice (some ⟨w.heap.size, 0, none⟩) 1 1)).run Try.prog (w.alloc (.cells #[.int .u8 (x : Int)] 5)) = .ok (.string (mkS [x])) (w.alloc (.cells #[.int .u8 (x : Int)] 5)) := by
  have hb := Blk.new w 5 #[.int .u8 (x : Int)]
  refine run_text 1 ⟨_, _, _, hb, fun j u hu => ?_, fun j _ => hb.frozen j⟩ (by intro y hy; simp at hy; omega) 1 rfl
  rw [← Array.getElem?_toList]
  exact hu
def LowRel (s : ByteArray) (w : World) (k : Nat) (vo vi : Value) (wr : World) : Prop :=
  ∃ (j : Nat) (T : ByteArray), vi = .int .i64 j ∧ j + k = s.size ∧ vo = .string T ∧ bys T = lowL ((bys s).take j) ∧ Kept w wr
theorem low_take {l : List Nat} {j c : Nat} (h : l[j]? = some c) : lowL (l.take (j + 1)) = lowL (l.take j) ++ [lowN c] := by
  unfold lowL
  rw [List.take_add_one, h]
  simp
set_option maxHeartbeats 2000000 in
set_option maxRecDepth 100000 in
theorem rlow_any (s : ByteArray) (hs : s.size ≤ 1000000) (w : World) :
    Calls Try.prog 43 #[.string s] w fun e w' => e = .returned (.string (mkS (lowL (bys s)))) ∧ Kept w w' := by
  go_enter Try.func43, Try.ntmps43
  go_wp2_with fail
  go_loopg [3, 4, 5] s.size (fun k vo vi _ wr => LowRel s w k vo vi wr)
  case atStart => exact ⟨0, ⟨#[]⟩, rfl, by omega, rfl, rfl, Kept.refl _⟩
  case round =>
    obtain ⟨j, T, rfl, hj, rfl, hT, hm⟩ := hrel
    have HJ := Lib.hid hj
    have HT := Lib.hid hT
    have M := Lib.hid hm
    have hjl : j ≤ s.size := by omega
    have hTs : T.size ≤ 1000000 := by
      have := congrArg List.length hT
      rw [bys_length, lowL_length, List.length_take] at this
      omega
    by_cases hlt : j < s.size
    · have i1 : (j : Int) < (s.size : Int) := by omega
      have hg := bys_get s hlt
      obtain ⟨c, hc⟩ : ∃ c, c = (s[j]'hlt).toNat := ⟨_, rfl⟩
      have hc2 : ((s[j]'hlt).toNat : Int) = (c : Int) := by rw [hc]
      have hc256 : c < 256 := by rw [hc]; exact (s[j]'hlt).toNat_lt
      rw [← hc] at hg
      have HG := Lib.hid hg
      have HLT := Lib.hid hlt
      have hcase : (65 ≤ (c : Int) ∧ (c : Int) ≤ 90 ∧ lowN c = c + 32) ∨ ((c : Int) < 65 ∧ lowN c = c) ∨ (65 ≤ (c : Int) ∧ 90 < (c : Int) ∧ lowN c = c) := by
        unfold lowN
        by_cases h1 : 65 ≤ c
        · by_cases h2 : c ≤ 90
          · exact .inl ⟨by omega, by omega, if_pos ⟨h1, h2⟩⟩
          · exact .inr (.inr ⟨by omega, by omega, if_neg (by omega)⟩)
        · exact .inr (.inl ⟨by omega, if_neg (by omega)⟩)
      clear hj hT hm hc hg
      rcases hcase with ⟨i2, i3, hl⟩ | ⟨i2, hl⟩ | ⟨i2, i3, hl⟩
      · obtain ⟨d, hd⟩ : ∃ d, d = c + 32 := ⟨_, rfl⟩
        have hdI : (c : Int) + 32 = (d : Int) := by omega
        have hro := run_one wr d (by omega)
        have HL := Lib.hid (hl.trans hd.symm)
        have ht2 : (mkS [d]).size ≤ 10 := by rw [mkS_size]; simp
        clear hl hd
        go_wp2_with fail
        go_roundg (s.size - (j + 1))
        case measure => have := HJ.out; have := HLT.out; omega
        case rel => exact ⟨j + 1, _, by go_num, by have := HLT.out; omega, rfl, by rw [bys_append, HT.out, low_take HG.out, HL.out, bys_mkS (by intro y hy; simp at hy; omega)], M.out.alloc _⟩
      all_goals
        have hro := run_one wr c hc256
        have HL := Lib.hid hl
        have ht2 : (mkS [c]).size ≤ 10 := by rw [mkS_size]; simp
        clear hl
        go_wp2_with fail
        go_roundg (s.size - (j + 1))
        case measure => have := HJ.out; have := HLT.out; omega
        case rel => exact ⟨j + 1, _, by go_num, by have := HLT.out; omega, rfl, by rw [bys_append, HT.out, low_take HG.out, HL.out, bys_mkS (by intro y hy; simp at hy; omega)], M.out.alloc _⟩
    · obtain rfl : j = s.size := by omega
      have HE := Lib.hid (show T = mkS (lowL (bys s)) from eq_of_bys (by rw [hT, List.take_of_length_le (by rw [bys_length]; exact Nat.le_refl _)]))
      clear hj hT hm hlt HT
      go_wp2_with fail
      go_ret
      exact ⟨by rw [← HE.out]; rfl, M.out⟩
def BytRel (L : List ByteArray) (w : World) (k : Nat) (vo vi : Value) (wr : World) : Prop :=
  ∃ (j : Nat) (T : ByteArray), vi = .int .i64 j ∧ j + k = L.length ∧ vo = .string T ∧ bys T = bodyN (lbs (L.take j)) ∧ Kept w wr
set_option maxHeartbeats 2000000 in
set_option maxRecDepth 100000 in
theorem rbytes_any (v : Value) (L : List ByteArray) (hL : ∀ x ∈ L, x.size < 256) (hlen : (joinN (lbs L)).length ≤ 1000000) (w : World) (hr : Rd w 1 v L.length (strVals L)) :
    Calls Try.prog 48 #[v] w fun e w' => e = .returned (.string (mkS (joinN (lbs L)))) ∧ Kept w w' := by
  rw [joinN_body, List.length_append] at hlen
  have hlb : (bodyN (lbs L)).length ≤ 1000000 := by omega
  have HLB := Lib.hid hlb
  have HO := Lib.hid hL
  have HR := Lib.hid hr
  have hll : L.length ≤ 1000000 := by
    have : ∀ M : List ByteArray, M.length ≤ (bodyN (lbs M)).length := by
      intro M
      induction M with
      | nil => simp
      | cons a M ih => simp only [lbs, bodyN, List.map_cons, List.flatMap_cons, List.length_cons, List.length_append] at ih ⊢; omega
    have := this L
    omega
  obtain ⟨_, A, c, rfl, _⟩ := hr
  clear hL hlen hlb
  go_enter Try.func48, Try.ntmps48
  go_wp2_with fail
  go_loopg [3, 4] L.length (fun k vo vi wr => BytRel L w k vo vi wr)
  case atStart => exact ⟨0, ⟨#[]⟩, rfl, by omega, rfl, rfl, Kept.refl _⟩
  case round =>
    obtain ⟨j, T, rfl, hj, rfl, hT, hm⟩ := hrel
    have HJ := Lib.hid hj
    have HT := Lib.hid hT
    have M := Lib.hid hm
    have hjl : j ≤ L.length := by omega
    have hTs : T.size ≤ 1000000 := by
      have h1 := congrArg List.length hT
      rw [bys_length] at h1
      have := bodyN_take_le L j
      have := HLB.out
      omega
    by_cases hlt : j < L.length
    · have i1 : (j : Int) < (L.length : Int) := by omega
      have HLT := Lib.hid hlt
      obtain ⟨x, hx, hmem⟩ : ∃ x, L[j]? = some x ∧ x ∈ L := ⟨_, List.getElem?_eq_getElem hlt, List.getElem_mem hlt⟩
      have hxs : x.size < 256 := HO.out x hmem
      have hk2 : Kept w ((wr.alloc (.cells #[.int .u8 (x.size : Int)] 5))) := M.out.alloc _
      obtain ⟨b, o, c2, e2, hb, g2⟩ := (HR.out.kept M.out (fun _ _ e => e)).at hlt
      injection e2 with e2 _ e3
      subst e2 e3
      have f1 := g2 j _ (strVals_get hx)
      have f2 : (wr.alloc (.cells #[.int .u8 (x.size : Int)] 5)).cell? ⟨b, o + j, none⟩ = some (.string x) := by
        have h := ((Kept.refl wr).alloc (.cells #[.int .u8 (x.size : Int)] 5)).cell (p := ⟨b, o + j, none⟩) hb (fun e => e)
        exact h.trans f1
      have hro : (convert 35 9 (.slice (some ⟨wr.heap.size, 0, none⟩) 1 1)).run Try.prog (wr.alloc (.cells #[.int .u8 (x.size : Int)] 5)).drew = .ok (.string (mkS [x.size])) (wr.alloc (.cells #[.int .u8 (x.size : Int)] 5)).drew := run_one wr.drew x.size hxs
      have ht2 : (mkS [x.size]).size ≤ 10 := by rw [mkS_size]; simp
      have ht3 : (T ++ mkS [x.size]).size ≤ 1000010 := by rw [ByteArray.size_append, mkS_size]; simp; omega
      have HX := Lib.hid hx
      have HXS := Lib.hid hxs
      clear hx hmem hj hT hm g2 hk2
      go_wp2_with fail
      go_region
      all_goals
        go_wp2_with fail
        go_roundg (L.length - (j + 1))
        case measure => have := HJ.out; have := HLT.out; omega
        case rel => exact ⟨j + 1, _, by go_num, by have := HLT.out; omega, rfl, by rw [bys_append, bys_append, HT.out, bodyN_take HX.out, bys_mkS (by intro y hy; simp at hy; have := HXS.out; omega)], (M.out.alloc _).drew⟩
    · obtain rfl : j = L.length := by omega
      have HE := Lib.hid (show T = mkS (bodyN (lbs L)) from eq_of_bys (by rw [hT, List.take_length]))
      clear hj hT hm hlt HT
      go_wp2_with fail
      go_ret
      exact ⟨by rw [joinN_body, mkS_append, ← HE.out]; rfl, M.out⟩
end Go.Proofs.Ytafeepokcakmkaa
