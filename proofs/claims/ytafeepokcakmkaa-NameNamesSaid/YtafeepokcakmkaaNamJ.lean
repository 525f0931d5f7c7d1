/- Join, said, Text, walked. Conditions: texts that a memory may hold. -/
import Derived.Test.YtafeepokcakmkaaNamW
import Derived.Test.YtafeepokcakmkaaNamV
import Derived.Outline
namespace Go.Proofs.Ytafeepokcakmkaa
open Go.RowKit

def joinS (L : List ByteArray) : ByteArray := if joinErr (lbs L) = 0 then mkS (joinN (lbs L)) else ⟨#[]⟩
theorem joinErr_one {L : List ByteArray} {x : ByteArray} (hm : x ∈ L) (h : x.size = 0 ∨ 63 < x.size) : joinErr (lbs L) = 1 := by
  unfold joinErr
  rw [if_pos]
  refine ⟨bys x, List.mem_map.2 ⟨x, hm, rfl⟩, ?_⟩
  rcases h with h | h
  · exact .inl (List.eq_nil_of_length_eq_zero (by rw [bys_length, h]))
  · exact .inr (by rw [bys_length]; exact h)
theorem joinErr_five {L : List ByteArray} (h : ∀ x ∈ L, ¬ (x.size = 0 ∨ 63 < x.size)) (h2 : 255 < (bodyN (lbs L)).length + 1) : joinErr (lbs L) = 5 := by
  unfold joinErr
  rw [if_neg, if_pos]
  · rw [joinN_body, List.length_append]; exact h2
  · rintro ⟨l, hl, h3⟩
    obtain ⟨x, hx, rfl⟩ := List.mem_map.1 hl
    refine h x hx ?_
    rw [bys_length] at h3
    rcases h3 with h3 | h3
    · exact .inl (by rw [← bys_length, h3]; rfl)
    · exact .inr h3
theorem joinErr_zero {L : List ByteArray} (h : ∀ x ∈ L, ¬ (x.size = 0 ∨ 63 < x.size)) (h2 : ¬ 255 < (bodyN (lbs L)).length + 1) : joinErr (lbs L) = 0 := by
  unfold joinErr
  rw [if_neg, if_neg]
  · rw [joinN_body, List.length_append]; exact h2
  · rintro ⟨l, hl, h3⟩
    obtain ⟨x, hx, rfl⟩ := List.mem_map.1 hl
    refine h x hx ?_
    rw [bys_length] at h3
    rcases h3 with h3 | h3
    · exact .inl (by rw [← bys_length, h3]; rfl)
    · exact .inr h3
def JoinRel1 (L : List ByteArray) (w : World) (k : Nat) (i : Value) (wr : World) : Prop :=
  ∃ j : Nat, i = .int .i64 j ∧ j + k = L.length ∧ (∀ x ∈ L.take j, ¬ (x.size = 0 ∨ 63 < x.size)) ∧ wr = w
def JoinRel2 (L : List ByteArray) (w : World) (k : Nat) (n i : Value) (wr : World) : Prop :=
  ∃ j q : Nat, i = .int .i64 j ∧ j + k = L.length ∧ n = .int .i64 q ∧ q = (bodyN (lbs (L.take j))).length + 1 ∧ q ≤ 255 ∧ wr = w
theorem take_all {L : List ByteArray} {j : Nat} {x : ByteArray} {p : ByteArray → Prop} (h : L[j]? = some x) (h1 : ∀ y ∈ L.take j, p y) (h2 : p x) : ∀ y ∈ L.take (j + 1), p y := by
  intro y hy
  rw [List.take_add_one, h] at hy
  rcases List.mem_append.1 hy with hy | hy
  · exact h1 y hy
  · simp at hy; subst hy; exact h2
theorem empty_size {x : ByteArray} : x.toList.isEmpty = decide (x.size = 0) := by
  rw [ByteArray.toList_eq]
  cases h : x.data.toList with
  | nil => have : x.size = 0 := by rw [← bys_length]; unfold bys; rw [h]; rfl
           simp [this]
  | cons a l => have : x.size ≠ 0 := by rw [← bys_length]; unfold bys; rw [h]; simp
                simp [this]
set_option maxHeartbeats 2000000 in
set_option maxRecDepth 100000 in
theorem join_any (v : Value) (L : List ByteArray) (hL : L.length ≤ 1000000000) (hsz : ∀ x ∈ L, x.size < 2 ^ 62) (w : World) (hr : Rd w 1 v L.length (strVals L)) :
    Calls Try.prog 21 #[v] w fun e w' => e = .returned (.tuple #[.string (joinS L), .int .i64 (joinErr (lbs L))]) ∧ Kept w w' := by
  have HR := Lib.hid hr
  have HSZ := Lib.hid hsz
  obtain ⟨_, A, c, rfl, _⟩ := hr
  clear hsz
  go_enter Try.func21, Try.ntmps21
  go_wp2_with fail
  go_loopg [6, 11] L.length (fun k _ i wr => JoinRel1 L w k i wr)
  case atStart => exact ⟨0, rfl, by omega, by simp, rfl⟩
  case round =>
    obtain ⟨j, rfl, hj, hall, rfl⟩ := hrel
    have HJ := Lib.hid hj
    have HA := Lib.hid hall
    have hjl : j ≤ L.length := by omega
    by_cases hlt : j < L.length
    · have HLT := Lib.hid hlt
      obtain ⟨x, hx, hmem⟩ : ∃ x, L[j]? = some x ∧ x ∈ L := ⟨_, List.getElem?_eq_getElem hlt, List.getElem_mem hlt⟩
      have hxs := HSZ.out x hmem
      obtain ⟨b1, o1, d1, e1, hb1, g1⟩ := HR.out.at hlt
      injection e1 with e1 _ e1'
      subst e1 e1'
      have f1 := g1 j _ (strVals_get hx)
      have i1 : (j : Int) < (L.length : Int) := by omega
      have HX := Lib.hid hx
      have HM := Lib.hid hmem
      clear hx hmem g1 hj hall hlt
      have hes := empty_size (x := x)
      by_cases h0 : x.size = 0
      · have HE := Lib.hid (joinErr_one HM.out (.inl h0))
        rw [decide_eq_true h0] at hes
        have hes2 : x.toList = [] := List.isEmpty_iff.1 hes
        clear h0
        go_wp2_with fail
        refine bodyPost_ret (v := .tuple #[.string ⟨#[]⟩, .int .i64 1]) (by simp [results, Try.results21, go_sem]) rfl ⟨?_, Kept.refl _⟩
        unfold joinS; rw [HE.out]; rfl
      · rw [decide_eq_false h0] at hes
        have hes2 : x.toList ≠ [] := fun e => by rw [e] at hes; cases hes
        have hes3 : (!x.toList.isEmpty) = true := by rw [hes]; rfl
        by_cases h6 : 63 < x.size
        · have HE := Lib.hid (joinErr_one HM.out (.inr h6))
          have h6' : (63 : Int) < (x.size : Int) := by omega
          clear h0
          go_wp2_with fail
          refine bodyPost_ret (v := .tuple #[.string ⟨#[]⟩, .int .i64 1]) (by simp [results, Try.results21, go_sem]) rfl ⟨?_, Kept.refl _⟩
          unfold joinS; rw [HE.out]; rfl
        · have h6' : (x.size : Int) ≤ 63 := by omega
          have HO := Lib.hid (show ¬ (x.size = 0 ∨ 63 < x.size) by omega)
          clear h0 h6
          go_wp2_with fail
          go_roundg (L.length - (j + 1))
          case measure => have := HJ.out; have := HLT.out; omega
          case rel => exact ⟨j + 1, by go_num, by have := HLT.out; omega, take_all HX.out HA.out HO.out, rfl⟩
    · obtain rfl : j = L.length := by omega
      rw [List.take_length] at hall
      have HA2 := Lib.hid hall
      clear hj hall hlt HA
      go_wp2_with fail
      go_loopg [4, 8, 25] L.length (fun k n _ i wr2 => JoinRel2 L wr k n i wr2)
      case atStart => exact ⟨0, 1, rfl, by omega, rfl, rfl, by omega, rfl⟩
      case round =>
        obtain ⟨j, q, rfl, hj, rfl, hq, hq5, rfl⟩ := hrel
        have HJ := Lib.hid hj
        have HQ := Lib.hid hq
        have hjl : j ≤ L.length := by omega
        by_cases hlt : j < L.length
        · have HLT := Lib.hid hlt
          obtain ⟨x, hx, hmem⟩ : ∃ x, L[j]? = some x ∧ x ∈ L := ⟨_, List.getElem?_eq_getElem hlt, List.getElem_mem hlt⟩
          have hxs := HSZ.out x hmem
          obtain ⟨b1, o1, d1, e1, hb1, g1⟩ := HR.out.at hlt
          injection e1 with e1 _ e1'
          subst e1 e1'
          have f1 := g1 j _ (strVals_get hx)
          have i1 : (j : Int) < (L.length : Int) := by omega
          have hnext : (bodyN (lbs (L.take (j + 1)))).length + 1 = q + (x.size + 1) := by
            rw [bodyN_take hx]
            simp only [List.length_append, List.length_cons, List.length_nil, bys_length]
            omega
          have HN := Lib.hid hnext
          clear hx hmem g1 hj hlt hq hnext
          by_cases h5 : 255 < q + (x.size + 1)
          · have h5' : (255 : Int) < (q : Int) + ((x.size : Int) + 1) := by omega
            have HE := Lib.hid (show joinErr (lbs L) = 5 from joinErr_five HA2.out (by have := bodyN_take_le L (j + 1); have := HN.out; omega))
            clear h5
            go_wp2_with fail
            refine bodyPost_ret (v := .tuple #[.string ⟨#[]⟩, .int .i64 5]) (by simp [results, Try.results21, go_sem]) rfl ⟨?_, Kept.refl _⟩
            unfold joinS; rw [HE.out]; rfl
          · have h5' : (q : Int) + ((x.size : Int) + 1) ≤ 255 := by omega
            have H5 := Lib.hid h5
            clear h5
            go_wp2_with fail
            go_roundg (L.length - (j + 1))
            case measure => have := HJ.out; have := HLT.out; omega
            case rel => exact ⟨j + 1, q + (x.size + 1), by go_num, by have := HLT.out; omega, by go_num, HN.out.symm, by have := H5.out; omega, rfl⟩
        · obtain rfl : j = L.length := by omega
          rw [List.take_length] at hq
          have hE := joinErr_zero HA2.out (by omega)
          have HE := Lib.hid hE
          have hok := (joinErr_ok.1 hE)
          have HO := Lib.hid (show ∀ x ∈ L, x.size < 256 from fun x hx => by have := HA2.out x hx; omega)
          have HJ2 := Lib.hid (show (joinN (lbs L)).length ≤ 1000000000 by have := hok.2; omega)
          clear hE hok hj hlt hq
          go_wp2_with fail
          refine (joined_any _ L HO.out HJ2.out _ HR.out).mono ?_
          rintro e w2 ⟨rfl, m2⟩
          have M := Lib.hid m2
          clear m2
          go_wp2_with fail
          refine bodyPost_ret (v := .tuple #[.string (mkS (joinN (lbs L))), .int .i64 0]) (by simp [results, Try.results21, go_sem]) rfl ⟨?_, M.out⟩
          unfold joinS; rw [HE.out]; rfl
end Go.Proofs.Ytafeepokcakmkaa
