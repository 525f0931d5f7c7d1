/- The document's Text, walked. Conditions: at most 1000000 bytes. -/
import Derived.Test.YtafeepokcakmkaaNamZ
import Derived.Outline
namespace Go.Proofs.Ytafeepokcakmkaa
open Go.RowKit

theorem digits_any (c : Int) (x : Nat) (hc : c = x) (hx : x < 256) (w : World) :
    Calls Try.prog 55 #[.int .u8 c] w fun e w' => e = .returned (.string (mkS [48 + x / 100, 48 + x / 10 % 10, 48 + x % 10])) ∧ Kept w w' := by
  subst hc
  have hb := Blk.new w 5 #[.int .u8 (48 + (x : Int) / 100), .int .u8 (48 + (x : Int) / 10 % 10), .int .u8 (48 + (x : Int) % 10)]
  have hbt : Byt (w.alloc (.cells #[.int .u8 (48 + (x : Int) / 100), .int .u8 (48 + (x : Int) / 10 % 10), .int .u8 (48 + (x : Int) % 10)] 5)) w.heap.size (u8s [48 + x / 100, 48 + x / 10 % 10, 48 + x % 10]) := by
    refine ⟨_, _, _, hb, fun j u hu => ?_, fun j _ => Blk.frozen hb j⟩
    rw [← Array.getElem?_toList]
    simp only [u8s, List.map_cons, List.map_nil] at hu
    rw [← hu]
    rfl
  have hr := run_text 3 hbt (by
    intro y hy
    simp only [List.mem_cons, List.not_mem_nil, or_false] at hy
    rcases hy with rfl | rfl | rfl <;> omega) 3 rfl
  clear hb hbt
  go_enter Try.func55, Try.ntmps55
  go_wp2_with fail
  go_ret
  exact ⟨rfl, (Kept.refl _).alloc _⟩
def RTxtRel (L : List ByteArray) (w : World) (k : Nat) (vo vi : Value) (wr : World) : Prop :=
  ∃ (j : Nat) (T : ByteArray), vi = .int .i64 j ∧ j + k = L.length ∧ vo = .string T ∧ bys T = (lbs (L.take j)).flatMap sayL ∧ Kept w wr
def RTxtRel2 (p : List Nat) (x : ByteArray) (w : World) (k : Nat) (vo vi : Value) (wr : World) : Prop :=
  ∃ (j : Nat) (T : ByteArray), vi = .int .i64 j ∧ j + k = x.size ∧ vo = .string T ∧ bys T = p ++ ((bys x).take j).flatMap saidN ∧ Kept w wr
theorem said_cases (c : Nat) : (((c : Int) == 46) = true ∧ saidN c = [92, c] ∧ 33 ≤ (c : Int) ∧ (c : Int) ≤ 126) ∨ (((c : Int) == 46) = false ∧ ((c : Int) == 92) = true ∧ saidN c = [92, c] ∧ 33 ≤ (c : Int) ∧ (c : Int) ≤ 126) ∨
    (((c : Int) == 46) = false ∧ ((c : Int) == 92) = false ∧ saidN c = [c] ∧ 33 ≤ (c : Int) ∧ (c : Int) ≤ 126) ∨ (((c : Int) == 46) = false ∧ ((c : Int) == 92) = false ∧ saidN c = [92, 48 + c / 100, 48 + c / 10 % 10, 48 + c % 10] ∧ (c : Int) < 33) ∨
    (((c : Int) == 46) = false ∧ ((c : Int) == 92) = false ∧ saidN c = [92, 48 + c / 100, 48 + c / 10 % 10, 48 + c % 10] ∧ 33 ≤ (c : Int) ∧ 126 < (c : Int)) := by
  unfold saidN
  by_cases h1 : c = 46
  · subst h1; exact .inl ⟨rfl, rfl, by omega, by omega⟩
  · have e1 : ((c : Int) == 46) = false := by rw [beq_eq_false_iff_ne]; omega
    by_cases h2 : c = 92
    · subst h2; exact .inr (.inl ⟨rfl, rfl, rfl, by omega, by omega⟩)
    · have e2 : ((c : Int) == 92) = false := by rw [beq_eq_false_iff_ne]; omega
      rw [if_neg (by omega)]
      by_cases h3 : c < 33
      · exact .inr (.inr (.inr (.inl ⟨e1, e2, if_pos (.inl h3), by omega⟩)))
      · by_cases h4 : 126 < c
        · exact .inr (.inr (.inr (.inr ⟨e1, e2, if_pos (.inr h4), by omega, by omega⟩)))
        · exact .inr (.inr (.inl ⟨e1, e2, if_neg (by omega), by omega, by omega⟩))
set_option maxHeartbeats 4000000 in
set_option maxRecDepth 100000 in
theorem rtext_any (n : ByteArray) (hn : n.size ≤ 1000000) (w : World) :
    Calls Try.prog 35 #[.string n] w fun e w' => e = .returned (.string (textS n)) ∧ Kept w w' := by
  go_enter Try.func35, Try.ntmps35
  go_wp2_with fail
  refine (rlabels_any n hn _).mono ?_
  rintro e w1 ⟨m1, ⟨hs, rfl⟩ | ⟨v, L, hs, rfl, hT⟩⟩
  · have HS := Lib.hid hs
    have M := Lib.hid m1
    clear hs m1
    go_wp2_with fail
    go_ret
    exact ⟨by unfold textS textN; rw [HS.out]; rfl, M.out⟩
  · have hlen := labs_len hs
    have HO := Lib.hid (labs_ok hs)
    have HS := Lib.hid hs
    have M := Lib.hid m1
    have HR := Lib.hid hT.rd
    obtain ⟨A, c, rfl⟩ := hT.form
    clear hs m1 hT
    rcases Nat.eq_zero_or_pos L.length with h0 | h0
    · obtain rfl := List.eq_nil_of_length_eq_zero h0
      go_wp2_with fail
      go_ret
      exact ⟨by unfold textS textN; rw [HS.out]; rfl, M.out⟩
    · have hpos : ((L.length : Int) == 0) = false := by rw [beq_eq_false_iff_ne]; omega
      have HTX := Lib.hid (show textN (bys n) = (lbs L).flatMap sayL by
        unfold textN; rw [HS.out]
        cases L with
        | nil => simp at h0
        | cons y L' => rfl)
      have M0 := Lib.hid M.out
      clear h0
      go_wp2_with fail
      go_loopg [5, 6, 7, 8] L.length (fun k vo vi _ _ wr => RTxtRel L w1 k vo vi wr)
      case atStart => exact ⟨0, ⟨#[]⟩, rfl, by omega, rfl, rfl, Kept.refl _⟩
      case round =>
        obtain ⟨j, T, rfl, hj, rfl, hT, hm⟩ := hrel
        have HJ := Lib.hid hj
        replace M := Lib.hid hm
        have hjl : j ≤ L.length := by omega
        have hpl : T.size ≤ 253 * 255 := by
          have := say_len (lbs (L.take j)) (by
            intro l hl
            obtain ⟨x, hx, rfl⟩ := List.mem_map.1 hl
            rw [bys_length]; exact HO.out x (List.mem_of_mem_take hx))
          rw [← hT, lbs_length, List.length_take, bys_length] at this
          omega
        by_cases hlt : j < L.length
        · have HLT := Lib.hid hlt
          obtain ⟨x, hx, hmem⟩ : ∃ x, L[j]? = some x ∧ x ∈ L := ⟨_, List.getElem?_eq_getElem hlt, List.getElem_mem hlt⟩
          have hxs : x.size ≤ 63 := HO.out x hmem
          have i1 : (j : Int) < (L.length : Int) := by omega
          obtain ⟨p, hp⟩ : ∃ p, p = (lbs (L.take j)).flatMap sayL := ⟨_, rfl⟩
          rw [← hp] at hT
          have hpl2 : p.length ≤ 253 * 255 := by rw [← hT, bys_length]; exact hpl
          have HPL := Lib.hid hpl2
          have HP := Lib.hid hp
          have HX := Lib.hid hx
          have HT := Lib.hid hT
          clear hx hmem hj hm hlt hp hT hpl2
          go_wp2_with fail
          go_loopg [5, 7, 8] x.size (fun k vo vi _ wr => RTxtRel2 p x w1 k vo vi wr)
          case atStart => exact ⟨0, T, rfl, by omega, rfl, by simpa using HT.out, M.out⟩
          case round =>
            obtain ⟨m, T2, rfl, hmk, rfl, hT, hm⟩ := hrel
            have HMK := Lib.hid hmk
            replace M := Lib.hid hm
            have hml : m ≤ x.size := by omega
            obtain ⟨b, o, c2, e2, hb, g2⟩ := (HR.out.kept M.out (fun _ _ e => e)).at HLT.out
            injection e2 with e2 _ e3
            subst e2 e3
            have f1 := g2 j _ (strVals_get HX.out)
            have hT2s : T2.size ≤ 100000 := by
              have h1 := congrArg List.length hT
              rw [bys_length, List.length_append] at h1
              have h2 := flat_len ((bys x).take m)
              rw [List.length_take] at h2
              have := HPL.out
              omega
            have HT2 := Lib.hid hT
            by_cases hlt : m < x.size
            · have HML := Lib.hid hlt
              have i2 : (m : Int) < (x.size : Int) := by omega
              have hg := bys_get x hlt
              obtain ⟨c, hc⟩ : ∃ c, c = (x[m]'hlt).toNat := ⟨_, rfl⟩
              have hc2 : ((x[m]'hlt).toNat : Int) = (c : Int) := by rw [hc]
              have hc256 : c < 256 := by rw [hc]; exact (x[m]'hlt).toNat_lt
              rw [← hc] at hg
              have HG := Lib.hid hg
              have HSA := Lib.hid (show ((bys x).take (m + 1)).flatMap saidN = ((bys x).take m).flatMap saidN ++ saidN c by rw [List.take_add_one, hg]; simp)
              have hro := run_one wr c hc256
              have HD := Lib.hid (fun w => digits_any (c : Int) c rfl hc256 w)
              have ht2 : (mkS [c]).size ≤ 10 := by rw [mkS_size]; simp
              have ht3 : (T2 ++ ⟨#[92]⟩).size ≤ 100001 := by rw [ByteArray.size_append]; show T2.size + 1 ≤ _; omega
              have hb92 : bys (T2 ++ ⟨#[92]⟩) = bys T2 ++ [92] := by rw [bys_append]; rfl
              have HB92 := Lib.hid hb92
              have hcs := said_cases c
              clear hmk hm hg hc g2 hT hb92
              rcases hcs with ⟨t1, hse, i3, i4⟩ | ⟨t1, t2, hse, i3, i4⟩ | ⟨t1, t2, hse, i3, i4⟩ | ⟨t1, t2, hse, i3⟩ | ⟨t1, t2, hse, i3, i4⟩
              all_goals
                have HSE := Lib.hid hse
                clear hse
                go_wp2_with fail
              · go_roundg (x.size - (m + 1))
                case measure => have := HMK.out; have := HML.out; omega
                case rel => exact ⟨m + 1, _, by go_num, by have := HML.out; omega, rfl, by rw [bys_append, HB92.out, HT2.out, HSA.out, HSE.out, bys_mkS (by intro y hy; simp at hy; omega)]; simp, M.out.alloc _⟩
              · go_roundg (x.size - (m + 1))
                case measure => have := HMK.out; have := HML.out; omega
                case rel => exact ⟨m + 1, _, by go_num, by have := HML.out; omega, rfl, by rw [bys_append, HB92.out, HT2.out, HSA.out, HSE.out, bys_mkS (by intro y hy; simp at hy; omega)]; simp, M.out.alloc _⟩
              · go_roundg (x.size - (m + 1))
                case measure => have := HMK.out; have := HML.out; omega
                case rel => exact ⟨m + 1, _, by go_num, by have := HML.out; omega, rfl, by rw [bys_append, HT2.out, HSA.out, HSE.out, bys_mkS (by intro y hy; simp at hy; omega)]; simp, M.out.alloc _⟩
              all_goals
                refine (HD.out _).mono ?_
                rintro e w3 ⟨rfl, m3⟩
                replace M := Lib.hid (M.out.then m3)
                obtain ⟨D, hD⟩ : ∃ D, D = mkS [48 + c / 100, 48 + c / 10 % 10, 48 + c % 10] := ⟨_, rfl⟩
                rw [← hD]
                have hds : D.size ≤ 10 := by rw [hD, mkS_size]; simp
                have HDB := Lib.hid (show bys D = [48 + c / 100, 48 + c / 10 % 10, 48 + c % 10] by
                  rw [hD]
                  refine bys_mkS ?_
                  intro y hy
                  simp only [List.mem_cons, List.not_mem_nil, or_false] at hy
                  rcases hy with rfl | rfl | rfl <;> omega)
                clear m3 hD
                go_wp2_with fail
              · go_roundg (x.size - (m + 1))
                case measure => have := HMK.out; have := HML.out; omega
                case rel => exact ⟨m + 1, _, by go_num, by have := HML.out; omega, rfl, by rw [bys_append, HB92.out, HT2.out, HSA.out, HSE.out, HDB.out]; simp, M.out⟩
              · go_roundg (x.size - (m + 1))
                case measure => have := HMK.out; have := HML.out; omega
                case rel => exact ⟨m + 1, _, by go_num, by have := HML.out; omega, rfl, by rw [bys_append, HB92.out, HT2.out, HSA.out, HSE.out, HDB.out]; simp, M.out⟩
            · obtain rfl : m = x.size := by omega
              have e1 : (bys x).take x.size = bys x := List.take_of_length_le (by rw [bys_length]; exact Nat.le_refl _)
              rw [e1] at hT
              have HT3 := Lib.hid hT
              clear hmk hm hlt g2 hT e1
              go_wp2_with fail
              go_roundg (L.length - (j + 1))
              case measure => have := HJ.out; have := HLT.out; omega
              case rel => exact ⟨j + 1, _, by go_num, by have := HLT.out; omega, rfl, by
                have e : (lbs (L.take (j + 1))).flatMap sayL = p ++ ((bys x).flatMap saidN ++ [46]) := by
                  rw [HP.out]
                  unfold lbs
                  rw [List.take_add_one, HX.out]
                  simp [sayL]
                rw [e, bys_append, HT3.out, List.append_assoc]; rfl, M.out⟩
        · obtain rfl : j = L.length := by omega
          rw [List.take_length] at hT
          have HE := Lib.hid (show T = textS n by unfold textS; rw [HTX.out]; exact eq_of_bys hT)
          clear hj hm hlt hT
          go_wp2_with fail
          go_ret
          exact ⟨by rw [← HE.out]; rfl, M0.out.then M.out⟩
end Go.Proofs.Ytafeepokcakmkaa
