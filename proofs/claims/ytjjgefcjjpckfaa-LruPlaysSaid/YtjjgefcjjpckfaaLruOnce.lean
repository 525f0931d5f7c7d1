/- LruOnce, walked: whatever the acts and the place, it answers true, and turns nothing that was there. Conditions: none. -/
import Derived.Test.YtjjgefcjjpckfaaLruM
namespace Go.Proofs.Ytjjgefcjjpckfaa
open Go.RowKit

theorem lru_newest_to (b : Nat) (n : Int) (ps : List Nat) (w : World) (hL : Lru w b n ps) (x : Int) (hx : ((ps.getLastD 0 : Nat) : Int) = x) (r : Bool) (hr : (!ps.isEmpty) = r) :
    Calls Try.prog 18 #[At b] w fun e w' => e = .returned (.tuple #[.int .i64 x, .bool r]) ∧ w = w' := by
  subst hr hx
  exact lru_newest b n ps w hL
theorem lru_has_to (b : Nat) (n : Int) (ps : List Nat) (i : Int) (w : World) (hL : Lru w b n ps) (r : Bool) (hr : lHas n ps i = r) :
    Calls Try.prog 12 #[At b, .int .i64 i] w fun e w' => e = .returned (.bool r) ∧ w = w' := by
  subst hr
  exact lru_has b n ps i w hL

theorem once_big (v : Value) (n place : Int) (acts : List (Int × Int)) (hl : 1000 < acts.length) (w : World) (hv : RdA w v acts) :
    Calls Try.prog 5 #[.int .i64 n, v, .int .i64 place] w fun e w' => e = .returned (.bool true) ∧ Kept w w' := by
  obtain ⟨_, A, c, rfl, _⟩ := hv
  have h1 : (1000 : Int) < acts.length := by omega
  go_enter Try.func5, Try.ntmps5
  go_wp2_with (go_at_call 9; refine (awake_c _).mono ?_; rintro e w1 ⟨rfl, hm1⟩)
  go_ret
  exact ⟨rfl, hm1⟩

def cnt (place : Int) (l : List Nat) : Nat := (l.filter fun (p : Nat) => decide ((p : Int) = place)).length
theorem cnt_snoc (place : Int) (l : List Nat) (j : Nat) (h : j < l.length) : cnt place (l.take (j + 1)) = cnt place (l.take j) + if (l[j] : Int) = place then 1 else 0 := by
  unfold cnt
  rw [List.take_add_one, List.getElem?_eq_getElem h, List.filter_append, List.length_append]
  congr 1
  by_cases e : (l[j] : Int) = place <;> simp [e]
theorem cnt_nodup (place : Int) (l : List Nat) (h : l.Nodup) : cnt place l = if place.toNat ∈ l ∧ 0 ≤ place then 1 else 0 := by
  induction l with
  | nil => simp [cnt]
  | cons a l ih =>
    rw [List.nodup_cons] at h
    have := ih h.2
    unfold cnt at this ⊢
    rw [List.filter_cons]
    by_cases e : (a : Int) = place
    · subst e
      have hz : (l.filter fun (p : Nat) => decide ((p : Int) = (a : Int))).length = 0 := by
        rw [this, if_neg]
        simp [h.1]
      simp only [decide_true, if_true, List.length_cons, hz]
      simp
    · simp only [e, decide_false, Bool.false_eq_true, if_false, this, List.mem_cons]
      have : ¬ (place.toNat = a ∧ 0 ≤ place) := fun h => e (by omega)
      by_cases h1 : place.toNat ∈ l ∧ 0 ≤ place
      · rw [if_pos h1, if_pos ⟨.inr h1.1, h1.2⟩]
      · rw [if_neg h1, if_neg]
        rintro ⟨h2 | h2, h3⟩
        · exact this ⟨h2, h3⟩
        · exact h1 ⟨h2, h3⟩
theorem cnt_le (place : Int) (l : List Nat) : cnt place l ≤ l.length := List.length_filter_le _ _

def OnceRel (R : List Nat) (place : Int) (W : World) (k : Nat) (c i : Value) (wr : World) : Prop :=
  ∃ j : Nat, i = .int .i64 j ∧ j + k = R.length ∧ c = .int .i64 (cnt place (R.take j)) ∧ ∃ n, wr = W.drewN n
def InRel (i : Nat) (W : World) (k : Nat) (j : Value) (wr : World) : Prop := ∃ m : Nat, j = .int .i64 m ∧ m + k = i ∧ ∃ n, wr = W.drewN n

set_option maxHeartbeats 2000000 in
set_option maxRecDepth 100000 in
theorem once_small (v : Value) (n place : Int) (acts : List (Int × Int)) (hl : acts.length ≤ 1000) (w : World) (hv : RdA w v acts) :
    Calls Try.prog 5 #[.int .i64 n, v, .int .i64 place] w fun e w' => e = .returned (.bool true) ∧ Kept w w' := by
  have H := Lib.hid hv
  obtain ⟨_, A, c, rfl, _⟩ := hv
  have h1 : (acts.length : Int) ≤ 1000 := by omega
  have hd : decide ((1000 : Int) < acts.length) = false := by simp; omega
  go_enter Try.func5, Try.ntmps5
  go_wp2_with fail
  refine (awake_c _).mono ?_
  rintro e w1 ⟨rfl, hm1⟩
  go_wp2_with fail
  refine (made_c n _ acts hl _ (H.out.kept hm1 (fun _ _ e => e))).mono ?_
  rintro e w2 ⟨rfl, hL2, hm2⟩
  have hr := hL2.range
  generalize w1.heap.size = g at *
  generalize hk : kOf n = k at *
  clear hk
  generalize mRow k acts = R at *
  go_wp2_with fail
  refine (lru_row g k _ _ hL2).mono ?_
  rintro e w3 ⟨vr, rfl, hvr, hm3⟩
  have hlen := hL2.length
  have HN := Lib.hid hL2.nodup
  have HM := Lib.hid hL2.mem
  have hL3 := hL2.mod hm3 (fun e => e)
  have hk3 : Kept w w3 := (hm1.then hm2).then hm3
  have hrd := Rd.of_own hvr
  have HR := Lib.hid hrd
  obtain ⟨A2, c2, rfl⟩ : ∃ A2 c2, vr = .slice A2 R.length c2 := by
    obtain ⟨_, A2, c2, e, _⟩ := hrd
    exact ⟨A2, c2, e⟩
  have HL3 := Lib.hid hL3
  have HK3 := Lib.hid hk3
  have hgl : R.length ≤ 256 := by omega
  clear hrd hm1 hm2 hm3 hvr hL2 hL3 hk3 hlen hd
  go_wp2_with fail
  go_loopg [10, 11, 12] R.length (fun q c i _ wr => OnceRel R place w3 q c i wr)
  case atStart => exact ⟨0, rfl, by omega, rfl, 0, rfl⟩
  case round =>
    obtain ⟨j, rfl, hj, rfl, n0, rfl⟩ := hrel
    have HJ := Lib.hid hj
    have hjl : j ≤ R.length := by omega
    have hcl : cnt place (R.take j) ≤ 256 := by have := cnt_le place (R.take j); rw [List.length_take] at this; omega
    clear hj
    by_cases hlt : j < R.length
    · obtain ⟨b2, o2, c2', e2, _, g2⟩ := HR.out.at hlt
      injection e2 with e2 _ e2'
      subst e2 e2'
      have f1 := g2 j _ (ints_get (pInts R) j (by simpa [pInts] using hlt))
      have hpj : (pInts R)[j]'(by simpa [pInts] using hlt) = (R[j] : Int) := by simp [pInts]
      rw [hpj] at f1
      have hmem : R[j] ∈ R := List.getElem_mem hlt
      have hx := HM.out _ hmem
      have hhas : lHas k R (R[j] : Int) = true := by
        unfold lHas isIn
        rw [decide_eq_true (by omega : 0 ≤ (R[j] : Int) ∧ (R[j] : Int) < k)]
        simp [hmem]
      have HH := Lib.hid hhas
      have i1 : (j : Int) < R.length := by omega
      have hx0 : (0 : Int) ≤ (R[j] : Int) := by omega
      have HG := Lib.hid g2
      have HC := Lib.hid (cnt_snoc place R j hlt)
      clear g2 hhas hpj hmem
      go_wp2_with (go_at_call 12; refine (lru_has_to g k R _ _ (HL3.out.mod ((Kept.refl _).drewN n0) (fun e => e)) true HH.out).mono ?_; rintro e w4 ⟨rfl, rfl⟩)
      go_loopg [12] j (fun q c wr => InRel j w3 q c wr)
      case atStart => exact ⟨0, rfl, by omega, _, rfl⟩
      case round =>
        obtain ⟨m, rfl, hm, n1, rfl⟩ := hrel
        have HM1 := Lib.hid hm
        have hmj : m ≤ j := by omega
        clear hm
        by_cases hlt2 : m < j
        · have hmR : m < R.length := by omega
          have f2 := HG.out m _ (ints_get (pInts R) m (by simpa [pInts] using hmR))
          have hpm : (pInts R)[m]'(by simpa [pInts] using hmR) = (R[m] : Int) := by simp [pInts]
          rw [hpm] at f2
          clear hpm
          have hne : ((R[m] : Int) == (R[j] : Int)) = false := by
            have hp := List.pairwise_iff_getElem.1 HN.out m j hmR hlt hlt2
            simp only [beq_eq_false_iff_ne, ne_eq]
            intro e; exact hp (by omega)
          have i2 : (m : Int) < R.length := by omega
          have i3 : (m : Int) < j := by omega
          go_wp2_with fail
          go_quiet (fail)
          go_wp2_with fail
          go_roundg (j - (m + 1))
          case measure => have := HM1.out; omega
          case rel => exact ⟨m + 1, by go_num, by omega, _, rfl⟩
        · obtain rfl : m = j := by omega
          by_cases hp : (R[m] : Int) = place
          · have t1 : ((R[m] : Int) == place) = true := by simp [hp]
            have hc1 : cnt place (R.take (m + 1)) = cnt place (R.take m) + 1 := by rw [HC.out, if_pos hp]
            have HC1 := Lib.hid hc1
            clear hp hc1
            go_wp2_with fail
            go_roundg (R.length - (m + 1))
            case measure => have := HJ.out; omega
            case rel => exact ⟨m + 1, by go_num, by omega, by rw [HC1.out]; go_num, _, rfl⟩
          · have t1 : ((R[m] : Int) == place) = false := by simp [hp]
            have hc1 : cnt place (R.take (m + 1)) = cnt place (R.take m) := by rw [HC.out, if_neg hp]; rfl
            have HC1 := Lib.hid hc1
            clear hp hc1
            go_wp2_with fail
            go_roundg (R.length - (m + 1))
            case measure => have := HJ.out; omega
            case rel => exact ⟨m + 1, by go_num, by omega, by rw [HC1.out], _, rfl⟩
    · obtain rfl : j = R.length := by omega
      rw [List.take_length] at *
      have hc1 := cnt_nodup place R HN.out
      obtain ⟨q, hq⟩ : ∃ q : Bool, lHas k R place = q := ⟨_, rfl⟩
      have hqc : (((cnt place R : Nat) : Int) == 1) = q := by
        rw [← hq, hc1]
        unfold lHas isIn
        by_cases hin : place.toNat ∈ R ∧ 0 ≤ place
        · have := HM.out _ hin.1
          rw [if_pos hin, decide_eq_true (show 0 ≤ place ∧ place < k by omega)]
          simp [hin.1]
        · rw [if_neg hin]
          by_cases h0 : 0 ≤ place ∧ place < k
          · have : place.toNat ∉ R := fun e => hin ⟨e, h0.1⟩
            simp [this]
          · rw [decide_eq_false h0]; rfl
      have HQ := Lib.hid hq
      have hL4 := HL3.out.mod ((Kept.refl _).drewN n0) (fun e => e)
      have HL4 := Lib.hid hL4
      clear hq hc1 hL4 hcl hjl hlt
      by_cases hR : R = []
      · subst hR
        go_wp2_with (first | (go_at_call 17; refine (lru_oldest_to g k _ _ HL4.out 0 rfl false rfl).mono ?_; rintro e w4 ⟨rfl, rfl⟩) | (go_at_call 18; refine (lru_newest_to g k _ _ HL4.out 0 rfl false rfl).mono ?_; rintro e w4 ⟨rfl, rfl⟩) | (go_at_call 19; refine (lru_len g k _ _ HL4.out).mono ?_; rintro e w4 ⟨rfl, rfl⟩) | (go_at_call 12; refine (lru_has_to g k _ _ _ HL4.out q HQ.out).mono ?_; rintro e w4 ⟨rfl, rfl⟩))
        go_ret
        exact ⟨rfl, HK3.out.drewN n0⟩
      · have hpos : 0 < R.length := List.length_pos_iff.2 hR
        have he : (!R.isEmpty) = true := by simp [hR]
        have HE := Lib.hid he
        obtain ⟨b2, o2, c2', e2, _, g2⟩ := HR.out.at hpos
        injection e2 with e2 _ e2'
        subst e2 e2'
        have f1 : w3.cell? ⟨b2, o2, none⟩ = some (.int .i64 ((R.headD 0 : Nat) : Int)) := by
          have := g2 0 (.int .i64 ((R.headD 0 : Nat) : Int)) (by cases R with
            | nil => exact absurd rfl hR
            | cons a l => rfl)
          simpa using this
        have f2 : w3.cell? ⟨b2, o2 + (R.length - 1), none⟩ = some (.int .i64 ((R.getLastD 0 : Nat) : Int)) := by
          refine g2 (R.length - 1) _ ?_
          simp only [ints, pInts, List.map_map, List.getElem?_map]
          rw [List.getElem?_eq_getElem (by omega), ← List.getLast_eq_getElem hR, List.getLastD_eq_getLast?, List.getLast?_eq_some_getLast hR]
          rfl
        clear g2 he hR
        have i1 : (0 : Int) < R.length := by omega
        go_wp2_with (first | (go_at_call 17; refine (lru_oldest_to g k _ _ HL4.out _ rfl true HE.out).mono ?_; rintro e w4 ⟨rfl, rfl⟩) | (go_at_call 18; refine (lru_newest_to g k _ _ HL4.out _ rfl true HE.out).mono ?_; rintro e w4 ⟨rfl, rfl⟩) | (go_at_call 19; refine (lru_len g k _ _ HL4.out).mono ?_; rintro e w4 ⟨rfl, rfl⟩) | (go_at_call 12; refine (lru_has_to g k _ _ _ HL4.out q HQ.out).mono ?_; rintro e w4 ⟨rfl, rfl⟩))
        go_ret
        exact ⟨rfl, HK3.out.drewN n0⟩
end Go.Proofs.Ytjjgefcjjpckfaa
