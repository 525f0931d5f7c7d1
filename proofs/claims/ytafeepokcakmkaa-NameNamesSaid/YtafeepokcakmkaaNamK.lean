/- said, Text, walked. Conditions: texts that a memory may hold. -/
import Derived.Test.YtafeepokcakmkaaNamJ
import Derived.Outline
namespace Go.Proofs.Ytafeepokcakmkaa
open Go.RowKit

theorem enc_ascii {c : Nat} (h : c < 128) : Utf8.encode (c : Int) = mkS [c] := by
  unfold Utf8.encode
  have hv : Utf8.valid (c : Int) = true := by unfold Utf8.valid; simp; omega
  simp only [hv, if_true, Int.toNat_natCast]
  rw [if_pos h]
  rfl
theorem said_any (c : Int) (x : Nat) (hc : c = x) (hx : x < 256) (w : World) :
    Calls Try.prog 52 #[.int .u8 c] w fun e w' => e = .returned (.string (mkS (saidN x))) ∧ Kept w w' := by
  subst hc
  by_cases h1 : x = 46 ∨ x = 92
  · have HE := Lib.hid (show saidN x = [92] ++ [x] by unfold saidN; rw [if_pos h1]; rfl)
    obtain ⟨T, hT⟩ : ∃ T, T = Utf8.encode (x : Int) := ⟨_, rfl⟩
    have HT := Lib.hid (hT.trans (enc_ascii (by omega)))
    have hts : T.size ≤ 10 := by rw [HT.out, mkS_size]; simp
    have ht2 := hT.symm
    clear hT
    have h1' : ((x : Int) == 46) = true ∨ ((x : Int) == 46) = false ∧ ((x : Int) == 92) = true := by
      rcases h1 with rfl | rfl
      · exact .inl rfl
      · exact .inr ⟨rfl, rfl⟩
    clear h1
    rcases h1' with h1 | ⟨h1, h2⟩
    · go_enter Try.func52, Try.ntmps52
      go_wp2_with fail
      go_ret
      exact ⟨by rw [HE.out, mkS_append, ← HT.out]; rfl, Kept.refl _⟩
    · go_enter Try.func52, Try.ntmps52
      go_wp2_with fail
      go_ret
      exact ⟨by rw [HE.out, mkS_append, ← HT.out]; rfl, Kept.refl _⟩
  · have t1 : ((x : Int) == 46) = false := by simp; omega
    have t2 : ((x : Int) == 92) = false := by simp; omega
    by_cases h2 : x < 33 ∨ 126 < x
    · have HE := Lib.hid (show saidN x = [92, 48 + x / 100, 48 + x / 10 % 10, 48 + x % 10] by unfold saidN; rw [if_neg h1, if_pos h2])
      have h3 : (x : Int) < 33 ∨ ¬ (x : Int) < 33 ∧ 126 < (x : Int) := by omega
      have hb := Blk.new w 5 #[.int .u8 92, .int .u8 (48 + (x : Int) / 100), .int .u8 (48 + (x : Int) / 10 % 10), .int .u8 (48 + (x : Int) % 10)]
      have hbt : Byt (w.alloc (.cells #[.int .u8 92, .int .u8 (48 + (x : Int) / 100), .int .u8 (48 + (x : Int) / 10 % 10), .int .u8 (48 + (x : Int) % 10)] 5)) w.heap.size (u8s [92, 48 + x / 100, 48 + x / 10 % 10, 48 + x % 10]) := by
        refine ⟨_, _, _, hb, fun j u hu => ?_, fun j _ => Blk.frozen hb j⟩
        rw [← Array.getElem?_toList]
        simp only [u8s, List.map_cons, List.map_nil] at hu
        rw [← hu]
        rfl
      have hr := run_text 4 hbt (by
        intro y hy
        simp only [List.mem_cons, List.not_mem_nil, or_false] at hy
        rcases hy with rfl | rfl | rfl | rfl <;> omega) 4 rfl
      clear h1 h2 hb hbt
      rcases h3 with h3 | ⟨h3, h4⟩
      · go_enter Try.func52, Try.ntmps52
        go_wp2_with fail
        go_ret
        exact ⟨by rw [HE.out]; rfl, (Kept.refl _).alloc _⟩
      · go_enter Try.func52, Try.ntmps52
        go_wp2_with fail
        go_ret
        exact ⟨by rw [HE.out]; rfl, (Kept.refl _).alloc _⟩
    · have HE := Lib.hid (show saidN x = [x] by unfold saidN; rw [if_neg h1, if_neg h2])
      obtain ⟨T, hT⟩ : ∃ T, T = Utf8.encode (x : Int) := ⟨_, rfl⟩
      have HT := Lib.hid (hT.trans (enc_ascii (by omega)))
      have ht2 := hT.symm
      have h3 : ¬ (x : Int) < 33 := by omega
      have h4 : ¬ 126 < (x : Int) := by omega
      clear hT h1 h2
      go_enter Try.func52, Try.ntmps52
      go_wp2_with fail
      go_ret
      exact ⟨by rw [HE.out, ← HT.out]; rfl, Kept.refl _⟩
def textS (n : ByteArray) : ByteArray := mkS (textN (bys n))
theorem said_len (x : Nat) : 1 ≤ (saidN x).length ∧ (saidN x).length ≤ 4 := by unfold saidN; split <;> (try split) <;> simp
theorem said_lt {x : Nat} (hx : x < 256) : ∀ y ∈ saidN x, y < 256 := by
  intro y hy
  unfold saidN at hy
  split at hy
  · simp at hy; omega
  · split at hy
    · simp at hy; omega
    · simp at hy; omega
theorem flat_len (l : List Nat) : (l.flatMap saidN).length ≤ 4 * l.length := by
  induction l with
  | nil => simp
  | cons a l ih => have := said_len a; simp only [List.flatMap_cons, List.length_append, List.length_cons]; omega
def TxtRel (L : List ByteArray) (w : World) (k : Nat) (i : Value) (wr : World) : Prop :=
  ∃ j : Nat, i = .int .i64 j ∧ j + k = L.length ∧ Bld wr w.heap.size w.heap.size ((lbs (L.take j)).flatMap sayL) ∧ Kept w wr
def TxtRel2 (p : List Nat) (x : ByteArray) (w : World) (k : Nat) (i : Value) (wr : World) : Prop :=
  ∃ j : Nat, i = .int .i64 j ∧ j + k = x.size ∧ Bld wr w.heap.size w.heap.size (p ++ ((bys x).take j).flatMap saidN) ∧ Kept w wr
theorem say_len (ls : List (List Nat)) : ∀ (_ : ∀ l ∈ ls, l.length ≤ 63), (ls.flatMap sayL).length ≤ 253 * ls.length := by
  induction ls with
  | nil => simp
  | cons a ls ih =>
    intro h
    have h1 := h a (by simp)
    have h2 := flat_len a
    have h3 := ih (fun l hl => h l (List.mem_cons_of_mem _ hl))
    simp only [List.flatMap_cons, List.length_append, List.length_cons, sayL, List.length_nil]
    omega
theorem say_lt {ls : List (List Nat)} (h : ∀ l ∈ ls, ∀ x ∈ l, x < 256) : ∀ y ∈ ls.flatMap sayL, y < 256 := by
  intro y hy
  rw [List.mem_flatMap] at hy
  obtain ⟨l, hl, hy⟩ := hy
  unfold sayL at hy
  rcases List.mem_append.1 hy with hy | hy
  · rw [List.mem_flatMap] at hy
    obtain ⟨x, hx, hy⟩ := hy
    exact said_lt (h l hl x hx) y hy
  · simp at hy; omega
theorem text_lt (n : ByteArray) : ∀ y ∈ textN (bys n), y < 256 := by
  intro y hy
  unfold textN at hy
  cases h : splitN (bys n) with
  | none => rw [h] at hy; simp at hy
  | some ls =>
    rw [h] at hy
    cases ls with
    | nil => simp at hy; omega
    | cons l ls => exact say_lt (split_lt h) y hy
theorem bys_textS (n : ByteArray) : bys (textS n) = textN (bys n) := bys_mkS (text_lt n)
set_option maxHeartbeats 2000000 in
set_option maxRecDepth 100000 in
theorem text_any (n : ByteArray) (hn : n.size < 2 ^ 63) (w : World) :
    Calls Try.prog 31 #[.string n] w fun e w' => e = .returned (.string (textS n)) ∧ Kept w w' := by
  go_enter Try.func31, Try.ntmps31
  go_wp2_with fail
  refine (split_any n hn _).mono ?_
  rintro e w1 ⟨m1, ⟨hs, rfl⟩ | ⟨v, L, hs, rfl, hT⟩⟩
  · have HS := Lib.hid hs
    have M := Lib.hid m1
    clear hs m1
    go_wp2_with fail
    go_ret
    exact ⟨by unfold textS textN; rw [HS.out]; rfl, M.out⟩
  · have hlen := labs_len hs
    have HO := Lib.hid (labs_ok hs)
    have HS := Lib.hid hs
    have M := Lib.hid m1
    have HR := Lib.hid hT.rd
    obtain ⟨A, c, rfl⟩ := hT.form
    clear hs m1 hT
    rcases Nat.eq_zero_or_pos L.length with h0 | h0
    · obtain rfl := List.eq_nil_of_length_eq_zero h0
      go_wp2_with fail
      go_ret
      exact ⟨by unfold textS textN; rw [HS.out]; rfl, M.out⟩
    · have hpos : ((L.length : Int) == 0) = false := by rw [beq_eq_false_iff_ne]; omega
      have HTX := Lib.hid (show textN (bys n) = (lbs L).flatMap sayL by
        unfold textN; rw [HS.out]
        cases L with
        | nil => simp at h0
        | cons y L' => rfl)
      have HLS := Lib.hid (say_len (lbs L) (by
        intro l hl
        obtain ⟨x, hx, rfl⟩ := List.mem_map.1 hl
        rw [bys_length]; exact HO.out x hx))
      go_wp2_with fail
      obtain ⟨wb, hwb⟩ : ∃ wb, wb = w1.alloc (.cells #[.pointer none, .slice none 0 0] 59) := ⟨_, rfl⟩
      have hb0 : Bld wb w1.heap.size w1.heap.size [] := by rw [hwb]; exact Bld.new w1
      have hkb : Kept w1 wb := by rw [hwb]; exact (Kept.refl _).alloc _
      rw [← hwb]
      have HB0 := Lib.hid hb0
      have HKB := Lib.hid hkb
      have HR2 := Lib.hid HR.out
      have M0 := Lib.hid M.out
      clear hwb hb0 hkb h0 HR
      go_loopg [7, 8, 23] L.length (fun k _ _ i wr => TxtRel L w1 k i wr)
      case atStart => exact ⟨0, rfl, by omega, HB0.out, HKB.out⟩
      case round =>
        obtain ⟨j, rfl, hj, hB, hm⟩ := hrel
        have HJ := Lib.hid hj
        replace M := Lib.hid hm
        have hjl : j ≤ L.length := by omega
        have hsz := hm.size
        by_cases hlt : j < L.length
        · have HLT := Lib.hid hlt
          obtain ⟨x, hx, hmem⟩ : ∃ x, L[j]? = some x ∧ x ∈ L := ⟨_, List.getElem?_eq_getElem hlt, List.getElem_mem hlt⟩
          have hxs : x.size ≤ 63 := HO.out x hmem
          obtain ⟨b, o, c2, e2, hb, g2⟩ := (HR2.out.kept M.out (fun _ _ e => e)).at hlt
          injection e2 with e2 _ e3
          subst e2 e3
          have f1 := g2 j _ (strVals_get hx)
          have i1 : (j : Int) < (L.length : Int) := by omega
          obtain ⟨p, hp⟩ : ∃ p, p = (lbs (L.take j)).flatMap sayL := ⟨_, rfl⟩
          rw [← hp] at hB
          have hpl : p.length ≤ 253 * 255 := by
            have := say_len (lbs (L.take j)) (by
              intro l hl
              obtain ⟨x, hx, rfl⟩ := List.mem_map.1 hl
              rw [bys_length]; exact HO.out x (List.mem_of_mem_take hx))
            rw [← hp, lbs_length, List.length_take] at this
            omega
          have HPL := Lib.hid hpl
          have HP := Lib.hid hp
          have HX := Lib.hid hx
          have HB := Lib.hid hB
          clear hx hmem hj hm g2 hlt hp hB hpl
          go_wp2_with fail
          go_loopg [8, 29] x.size (fun k _ i wr2 => TxtRel2 p x w1 k i wr2)
          case atStart => exact ⟨0, rfl, by omega, by simpa using HB.out, M.out⟩
          case round =>
            obtain ⟨m, rfl, hmk, hB, hm⟩ := hrel
            have HMK := Lib.hid hmk
            replace M := Lib.hid hm
            have hml : m ≤ x.size := by omega
            have hsz2 := hm.size
            by_cases hlt : m < x.size
            · have HML := Lib.hid hlt
              have i2 : (m : Int) < (x.size : Int) := by omega
              have hg := bys_get x hlt
              obtain ⟨c, hc⟩ : ∃ c, c = (x[m]'hlt).toNat := ⟨_, rfl⟩
              have hc2 : ((x[m]'hlt).toNat : Int) = (c : Int) := by rw [hc]
              have hc256 : c < 256 := by rw [hc]; exact (x[m]'hlt).toNat_lt
              rw [← hc] at hg
              have HG := Lib.hid hg
              have hfl : (((bys x).take m).flatMap saidN).length ≤ 4 * 63 := by
                have := flat_len ((bys x).take m)
                rw [List.length_take] at this
                omega
              have HFL := Lib.hid hfl
              clear hmk hm hg hc hfl
              go_wp2_with fail
              refine (said_any _ c rfl hc256 _).mono ?_
              rintro e w3 ⟨rfl, m3⟩
              have hB3 := hB.kept m3
              have hsz3 : w1.heap.size ≤ w3.heap.size := Nat.le_trans hsz2 m3.size
              replace M := Lib.hid (M.out.then m3)
              have HSL := Lib.hid (said_len c)
              clear m3 hB
              go_wp2_with fail
              refine (wstr_any w1.heap.size w1.heap.size _ (mkS (saidN c)) _ hB3 (by rw [List.length_append, mkS_size]; have := HSL.out; have := HFL.out; have := HPL.out; omega) hsz3).mono ?_
              rintro e w4 ⟨rfl, hB4, m4⟩
              rw [bys_mkS (said_lt hc256), List.append_assoc] at hB4
              replace M := Lib.hid (Kept.above M.out m4 (Nat.le_refl _))
              have HB4 := Lib.hid hB4
              clear m4 hB3 hB4
              go_wp2_with fail
              go_roundg (x.size - (m + 1))
              case measure => have := HMK.out; have := HML.out; omega
              case rel =>
                refine ⟨m + 1, by go_num, by have := HML.out; omega, ?_, M.out⟩
                have e : ((bys x).take (m + 1)).flatMap saidN = ((bys x).take m).flatMap saidN ++ saidN c := by
                  rw [List.take_add_one, HG.out]; simp
                rw [e]; exact HB4.out
            · obtain rfl : m = x.size := by omega
              have e1 : (bys x).take x.size = bys x := List.take_of_length_le (by rw [bys_length]; exact Nat.le_refl _)
              rw [e1] at hB
              have HFL := Lib.hid (show ((bys x).flatMap saidN).length ≤ 4 * 63 by have := flat_len (bys x); rw [bys_length] at this; omega)
              clear e1 hmk hm hlt
              go_wp2_with fail
              refine (wbyte_any w1.heap.size w1.heap.size _ _ 46 rfl _ hB (by rw [List.length_append]; have := HFL.out; have := HPL.out; omega) hsz2).mono ?_
              rintro e w4 ⟨rfl, hB4, m4⟩
              replace M := Lib.hid (Kept.above M.out m4 (Nat.le_refl _))
              have HB4 := Lib.hid hB4
              clear m4 hB hB4
              go_wp2_with fail
              go_roundg (L.length - (j + 1))
              case measure => have := HJ.out; have := HLT.out; omega
              case rel =>
                refine ⟨j + 1, by go_num, by have := HLT.out; omega, ?_, M.out⟩
                have e : (lbs (L.take (j + 1))).flatMap sayL = p ++ ((bys x).flatMap saidN ++ [46]) := by
                  rw [HP.out]
                  unfold lbs
                  rw [List.take_add_one, HX.out]
                  simp [sayL]
                rw [e, ← List.append_assoc]; exact HB4.out
        · obtain rfl : j = L.length := by omega
          rw [List.take_length] at hB
          have HLTT := Lib.hid (say_lt (lbs_lt L))
          clear hj hm hlt
          go_wp2_with fail
          refine (bstring_any w1.heap.size w1.heap.size _ HLTT.out _ hB hsz).mono ?_
          rintro e w4 ⟨rfl, m4⟩
          replace M := Lib.hid (Kept.above M.out m4 (Nat.le_refl _))
          clear m4
          go_wp2_with fail
          go_ret
          exact ⟨by unfold textS; rw [HTX.out]; rfl, M0.out.then M.out⟩
end Go.Proofs.Ytafeepokcakmkaa
