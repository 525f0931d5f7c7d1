/- Bytes that are written. Conditions: fewer than 2^62 bytes in all. -/
import Derived.Test.YtjabpekndgnhmaaSipK
namespace Go.Proofs.Ytjabpekndgnhmaa
open Go.RowKit

noncomputable def readyH (h : HH) : HH := if h.made then h else { h with made := true, v := start 0 0 }
noncomputable def pushB (h : HH) (x : Nat) : HH :=
  if h.n % 8 = 7 then { h with left := upd h.left (h.n % 8) x, n := h.n + 1, v := blk h.v (num (lst8 (upd h.left (h.n % 8) x))) }
  else { h with left := upd h.left (h.n % 8) x, n := h.n + 1 }
def bys (s : ByteArray) : List Nat := s.data.toList.map (·.toNat)
noncomputable def writeH (h : HH) (l : List Nat) : HH := l.foldl pushB h
def HH.Ok (h : HH) : Prop := h.v.Ok ∧ ∀ i, h.left i < 256
theorem upd_lt {f : Nat → Nat} {i v : Nat} (hf : ∀ i, f i < 256) (hv : v < 256) : ∀ j, upd f i v j < 256 := by
  intro j; unfold upd; split
  · exact hv
  · exact hf j
theorem pushB_ok {h : HH} (hh : h.Ok) {x : Nat} (hx : x < 256) : (pushB h x).Ok := by
  unfold pushB
  split
  · exact ⟨blk_ok hh.1 (num_lt8 (lst8_lt (upd_lt hh.2 hx)) (Nat.le_refl 8)), upd_lt hh.2 hx⟩
  · exact ⟨hh.1, upd_lt hh.2 hx⟩
theorem pushB_n (h : HH) (x : Nat) : (pushB h x).n = h.n + 1 := by unfold pushB; split <;> rfl
theorem writeH_ok : ∀ (l : List Nat) {h : HH}, h.Ok → (∀ x ∈ l, x < 256) → (writeH h l).Ok ∧ (writeH h l).n = h.n + l.length
  | [], _, hh, _ => ⟨hh, rfl⟩
  | x :: l, h, hh, hl => by
    have := writeH_ok l (pushB_ok hh (hl x (by simp))) (fun y hy => hl y (List.mem_cons_of_mem _ hy))
    refine ⟨this.1, ?_⟩
    show (writeH (pushB h x) l).n = _
    rw [this.2, pushB_n, List.length_cons]; omega
theorem readyH_ok {h : HH} (hh : h.Ok) : (readyH h).Ok := by
  unfold readyH; split
  · exact hh
  · exact ⟨start_ok (by decide) (by decide), hh.2⟩
theorem readyH_n (h : HH) : (readyH h).n = h.n := by unfold readyH; split <;> rfl
theorem bys_length (s : ByteArray) : (bys s).length = s.size := by simp [bys]
theorem bys_lt (s : ByteArray) : ∀ x ∈ bys s, x < 256 := by
  intro x hx
  simp only [bys, List.mem_map] at hx
  obtain ⟨b, _, rfl⟩ := hx
  exact b.toNat_lt
theorem bys_get (s : ByteArray) {j : Nat} (hj : j < s.size) : (bys s)[j]? = some (s[j]'hj).toNat := by
  simp only [bys, List.getElem?_map, Array.getElem?_toList]
  rw [Array.getElem?_eq_getElem (show j < s.data.size from hj)]
  rfl
theorem writeH_take_succ (h : HH) (l : List Nat) {j x : Nat} (hx : l[j]? = some x) : writeH h (l.take (j + 1)) = pushB (writeH h (l.take j)) x := by
  unfold writeH
  rw [List.take_add_one, hx, List.foldl_append]; rfl

def WriteRel (h : HH) (s : ByteArray) (b : Nat) (w : World) (k : Nat) (i : Value) (wr : World) : Prop :=
  ∃ j : Nat, i = .int .i64 j ∧ j + k = s.size ∧ IsH wr b (writeH h ((bys s).take j)) ∧ Mod (Only b) w wr
set_option maxHeartbeats 2000000 in
set_option maxRecDepth 100000 in
theorem write_any (b : Nat) (h : HH) (s : ByteArray) (hk : h.Ok) (hn : h.n + s.size < 2 ^ 62) (w : World) (hh : IsH w b h) :
    Calls Try.prog 12 #[.pointer (some ⟨b, 0, none⟩), .string s] w fun e w' => e = .returned (.int .i64 0) ∧ IsH w' b (writeH (readyH h) (bys s)) ∧ Mod (Only b) w w' := by
  have HH0 := Lib.hid hh
  have HK := Lib.hid (readyH_ok hk)
  have HN0 := Lib.hid hn
  have hs63 : s.size < 2 ^ 62 := by omega
  have HY := Lib.hid (ready_any b h w hh)
  clear hk hn
  go_enter Try.func12, Try.ntmps12
  go_wp2_with fail
  refine HY.out.mono ?_
  rintro e w1 ⟨rfl, hh1, hm1⟩
  have HH1 := Lib.hid (show IsH w1 b (readyH h) from hh1)
  have HM1 := Lib.hid hm1
  have HN := Lib.hid (readyH_n h)
  clear hh1 hm1
  have hr0 : ∃ r, r = readyH h := ⟨_, rfl⟩
  obtain ⟨r, hr⟩ := hr0
  have HRR := Lib.hid hr
  rw [← hr] at HH1 HK HN
  clear hr
  go_wp2_with fail
  go_loopg [13] s.size (fun k i wr => WriteRel r s b w1 k i wr)
  case atStart => exact ⟨0, rfl, by omega, HH1.out, Mod.refl _ _⟩
  case round =>
    obtain ⟨j, rfl, hj, hhr, hm⟩ := hrel
    have HJ := Lib.hid hj
    have HM := Lib.hid hm
    have hjl : j ≤ s.size := by omega
    have HR := Lib.hid hhr
    obtain ⟨hok, hn2⟩ := writeH_ok ((bys s).take j) HK.out (fun x hx => bys_lt s x (List.mem_of_mem_take hx))
    rw [List.length_take, bys_length, Nat.min_eq_left hjl] at hn2
    generalize hq : writeH r ((bys s).take j) = q at hhr hok hn2
    have HQ := Lib.hid hq
    have HOK := Lib.hid hok
    have HN2 := Lib.hid hn2
    have hq63 : q.n < 2 ^ 62 := by have := HN0.out; have := HN.out; omega
    clear hm hj hq hok hn2
    obtain ⟨m, hm⟩ : ∃ m, m = q.n % 8 := ⟨_, rfl⟩
    have hat : (q.n : Int) % 8 = (m : Int) := by omega
    have hm8 : m < 8 := by omega
    have HMM := Lib.hid hm
    clear hm
    have hhr' := Lib.hid hhr
    have c13 : wr.cell? ⟨b, 13, none⟩ = some (.int .i64 q.n) := Blk.cell hhr 13
    have z13 := Blk.frozen hhr 13
    have cm : wr.cell? ⟨b, 5 + m, none⟩ = some (.int .u8 (q.left m : Nat)) := by
      have := Blk.cell hhr (5 + m)
      rw [this]; exact HH.get_left q hm8
    have zm := Blk.frozen hhr (5 + m)
    clear hhr
    by_cases hlt : j < s.size
    · have hb := bys_get s hlt
      obtain ⟨x, hx⟩ : ∃ x, x = (s[j]'hlt).toNat := ⟨_, rfl⟩
      have hx256 : x < 256 := by rw [hx]; exact (s[j]'hlt).toNat_lt
      have hx2 : ((s[j]'hlt).toNat : Int) = (x : Int) := by rw [hx]
      rw [← hx] at hb
      have HB := Lib.hid hb
      have HLT := Lib.hid hlt
      clear hb hx
      by_cases h7 : m = 7
      · subst h7
        have c5 : wr.cell? ⟨b, 5, none⟩ = some (.int .u8 (q.left 0 : Nat)) := Blk.cell hhr'.out 5
        have c6 : wr.cell? ⟨b, 6, none⟩ = some (.int .u8 (q.left 1 : Nat)) := Blk.cell hhr'.out 6
        have c7 : wr.cell? ⟨b, 7, none⟩ = some (.int .u8 (q.left 2 : Nat)) := Blk.cell hhr'.out 7
        have c8 : wr.cell? ⟨b, 8, none⟩ = some (.int .u8 (q.left 3 : Nat)) := Blk.cell hhr'.out 8
        have c9 : wr.cell? ⟨b, 9, none⟩ = some (.int .u8 (q.left 4 : Nat)) := Blk.cell hhr'.out 9
        have c10 : wr.cell? ⟨b, 10, none⟩ = some (.int .u8 (q.left 5 : Nat)) := Blk.cell hhr'.out 10
        have c11 : wr.cell? ⟨b, 11, none⟩ = some (.int .u8 (q.left 6 : Nat)) := Blk.cell hhr'.out 11
        have c12 : wr.cell? ⟨b, 12, none⟩ = some (.int .u8 (q.left 7 : Nat)) := cm
        have z12 : wr.frozen? ⟨b, 12, none⟩ = false := zm
        clear cm zm
        go_show
        go_wp2_with fail
        go_region
        go_wp2_with fail
        have g1 := hhr'.out.set 12 (.int .u8 x) { q with left := upd q.left 7 x } rfl
        have g2 := g1.drew.set 13 (.int .i64 (q.n + 1 : Nat)) { q with left := upd q.left 7 x, n := q.n + 1 } rfl
        refine (take_any b { q with left := upd q.left 7 x, n := q.n + 1 } (upd q.left 7 x) (upd_lt HOK.out.2 hx256) HOK.out.1 _ g2).mono ?_
        rintro e w3 ⟨rfl, hh3, m3⟩
        have HH3 := Lib.hid hh3
        have M3 := Lib.hid m3
        clear hh3 m3 g1 g2 c5 c6 c7 c8 c9 c10 c11 c12
        go_wp2_with fail
        go_roundg (s.size - (j + 1))
        case measure => have := HJ.out; have := HLT.out; omega
        case rel =>
          refine ⟨j + 1, by go_num, by have := HLT.out; omega, ?_, ?_⟩
          · rw [writeH_take_succ _ _ HB.out, HQ.out]
            have e : pushB q x = { q with left := upd q.left 7 x, n := q.n + 1, v := blk q.v (num (lst8 (upd q.left 7 x))) } := by
              unfold pushB
              rw [← HMM.out, if_pos rfl]
            rw [e]
            exact HH3.out
          · exact (((HM.out.at _ _).drew.at _ _).then M3.out)
      · have t7 : ((m : Int) == 7) = false := by simp; omega
        have H7 := Lib.hid h7
        clear h7
        go_show
        go_wp2_with fail
        go_region
        go_wp2_with fail
        go_roundg (s.size - (j + 1))
        case measure => have := HJ.out; have := HLT.out; omega
        case rel =>
          refine ⟨j + 1, by go_num, by have := HLT.out; omega, ?_, ?_⟩
          · rw [writeH_take_succ _ _ HB.out, HQ.out]
            have e : pushB q x = { q with left := upd q.left m x, n := q.n + 1 } := by
              unfold pushB
              rw [← HMM.out, if_neg H7.out]
            rw [e]
            have g1 := hhr'.out.set (5 + m) (.int .u8 x) { q with left := upd q.left m x } (HH.set_left q hm8 x)
            exact g1.drew.set 13 (.int .i64 (q.n + 1 : Nat)) _ rfl
          · exact ((HM.out.at _ _).drew.at _ _)
    · obtain rfl : j = s.size := by omega
      have HF : writeH r (bys s) = q := by
        have := HQ.out
        rwa [← bys_length, List.take_length] at this
      have HFF := Lib.hid HF
      clear HF
      go_show
      go_wp2_with fail
      go_ret
      refine ⟨rfl, ?_, HM1.out.then HM.out⟩
      rw [← HRR.out, HFF.out]
      exact hhr'.out
end Go.Proofs.Ytjabpekndgnhmaa
