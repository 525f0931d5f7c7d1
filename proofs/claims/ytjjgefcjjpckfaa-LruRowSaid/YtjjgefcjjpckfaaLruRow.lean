/- LruRow, walked: whatever the acts, it answers true, and turns nothing that was there. Conditions: the acts' kinds are not below 0 (they are bytes). -/
import Derived.Test.YtjjgefcjjpckfaaLruRowP
namespace Go.Proofs.Ytjjgefcjjpckfaa
open Go.RowKit

def seenCells (f : Nat → Bool) : Array Value := Array.ofFn (n := 256) fun i => .bool (f i.val)
theorem seen_zero : (Try.prog.info? 29).bind (fun i => i.zero.map (·.cells)) = some (seenCells fun _ => false) := by kernel_rfl
theorem seen_get (f : Nat → Bool) (p : Nat) (h : p < 256) : (seenCells f)[p]? = some (.bool (f p)) := by simp [seenCells, h]
theorem seen_set (f : Nat → Bool) (p : Nat) (h : p < 256) : (seenCells f).setIfInBounds p (.bool true) = seenCells (upd f p true) := by
  apply Array.ext
  · simp [seenCells]
  · intro k h1 h2
    have hk : k < 256 := by simpa [seenCells] using h2
    rw [Array.getElem_setIfInBounds (by simpa [seenCells] using hk)]
    by_cases e : p = k
    · subst e; simp [seenCells, upd]
    · have e' : ¬ k = p := fun x => e x.symm
      simp [seenCells, upd, e, e']

theorem row_big (v : Value) (n : Int) (acts : List (Int × Int)) (hl : 1000 < acts.length) (w : World) (hv : RdA w v acts) :
    Calls Try.prog 3 #[.int .i64 n, v] w fun e w' => e = .returned (.bool true) ∧ Kept w w' := by
  obtain ⟨_, A, c, rfl, _⟩ := hv
  have h1 : (1000 : Int) < acts.length := by omega
  go_enter Try.func3, Try.ntmps3
  go_wp2_with (go_at_call 9; refine (awake_c _).mono ?_; rintro e w1 ⟨rfl, hm1⟩)
  go_ret
  exact ⟨rfl, hm1⟩

def LawRel (n : Int) (acts : List (Int × Int)) (g : Nat) (w : World) (W : World) (vr : Value) (k : Nat) (at_ i : Value) (wr : World) : Prop :=
  ∃ (m a : Nat), i = .int .i64 ((m : Int) - 1) ∧ m = k ∧ m ≤ acts.length ∧ at_ = .int .i64 a ∧ a + (tl n (acts.drop m)).length = (mRow n acts).length ∧
    Blk wr g 29 (seenCells (touched n (acts.drop m))) ∧ Kept w wr ∧ RdI wr vr (pInts (mRow n acts)) ∧ Kept W wr
set_option maxHeartbeats 1000000 in
set_option maxRecDepth 100000 in
theorem row_small (v : Value) (n : Int) (acts : List (Int × Int)) (hl : acts.length ≤ 1000) (hw : ∀ a ∈ acts, 0 ≤ a.1) (w : World) (hv : RdA w v acts) :
    Calls Try.prog 3 #[.int .i64 n, v] w fun e w' => e = .returned (.bool true) ∧ Kept w w' := by
  have H := Lib.hid hv
  have HW := Lib.hid hw
  obtain ⟨_, A, c, rfl, _⟩ := hv
  have h1 : (acts.length : Int) ≤ 1000 := by omega
  clear hw
  go_enter Try.func3, Try.ntmps3
  go_wp2_with fail
  refine (awake_c _).mono ?_
  rintro e w1 ⟨rfl, hm1⟩
  go_wp2_with fail
  refine (made_c n _ acts hl _ (H.out.kept hm1 (fun _ _ e => e))).mono ?_
  rintro e w2 ⟨rfl, hL2, hm2⟩
  have hr := hL2.range
  generalize w1.heap.size = g at *
  generalize hk : kOf n = k at *
  clear hk
  go_wp2_with fail
  refine (lru_row g k _ _ hL2).mono ?_
  rintro e w3 ⟨vr, rfl, hvr, hm3⟩
  have hlen := hL2.length
  have hnd := hL2.nodup
  have hmem := hL2.mem
  have hk3 : Kept w w3 := (hm1.then hm2).then hm3
  have hrd : RdI w3 vr (pInts (mRow k acts)) := by
    have := Rd.of_own hvr
    rw [show (mRow k acts).length = (pInts (mRow k acts)).length by simp [pInts]] at this
    exact this
  clear hm1 hm2 hm3 hvr hL2
  have HR := Lib.hid hrd
  obtain ⟨A2, c2, rfl⟩ : ∃ A2 c2, vr = .slice A2 (mRow k acts).length c2 := by
    obtain ⟨_, A2, c2, e, _⟩ := hrd
    exact ⟨A2, c2, by rw [e]; simp [pInts]⟩
  have HM := Lib.hid hmem
  have HN := Lib.hid hnd
  clear hrd hmem hnd
  go_wp2_with (refine wpList_run rfl _ _ (run_op_alloc 29 rfl _ (seenCells fun _ => false) seen_zero) ?_)
  generalize hg3 : w3.heap.size = g3 at *
  have hB : Blk (w3.alloc (.cells (seenCells fun _ => false) 29)) g3 29 (seenCells fun _ => false) := by rw [← hg3]; exact Blk.new _ _ _
  have HG := Lib.hid hg3
  clear hg3
  go_loopg [8, 10, 11] acts.length (fun q at_ i _ wr => LawRel k acts g3 w w3 (.slice A2 (mRow k acts).length c2) q at_ i wr)
  case atStart =>
    refine ⟨acts.length, (mRow k acts).length, rfl, rfl, Nat.le_refl _, rfl, ?_, ?_, hk3.alloc _, HR.out.kept ((Kept.refl _).alloc _) (fun _ _ e => e), (Kept.refl _).alloc _⟩
    · rw [List.drop_length]; rfl
    · rw [List.drop_length]; exact hB
  case round =>
    obtain ⟨m, a, rfl, rfl, hm, rfl, hat, hBr, hkr, hrr, hk3r⟩ := hrel
    have HT := Lib.hid hat
    have HK := Lib.hid hk3r
    have HRR := Lib.hid hrr
    have ha : a ≤ (mRow k acts).length := by omega
    have hal : (mRow k acts).length ≤ 256 := by omega
    clear hat hk3r hrr hB
    cases m with
    | zero =>
      have e0 : a = 0 := by
        have h2 := HT.out
        rw [List.drop_zero] at h2
        have h3 : tl k acts = mRow k acts := rfl
        rw [h3] at h2
        omega
      subst e0
      go_wp2_with fail
      go_ret
      exact ⟨rfl, hkr⟩
    | succ m =>
      have hlt : m < acts.length := by omega
      have hcons := drop_cons acts m hlt
      have hw1 : 0 ≤ (acts[m]).1 := HW.out _ (List.getElem_mem hlt)
      have hws : ∀ b ∈ acts.drop (m + 1), 0 ≤ b.1 := fun b hb => HW.out b (List.mem_of_mem_drop hb)
      obtain ⟨b1, o1, c1', e1, hb, g1⟩ := H.out.at hlt
      injection e1 with e1 _ e1'
      subst e1 e1'
      obtain ⟨q1, q2⟩ := actCells_get acts m hlt
      have f1 := g1 _ _ q1
      have f2 := g1 _ _ q2
      clear g1 q1 q2
      rw [← hkr.cell (p := ⟨b1, o1 + m * 2, none⟩) hb (fun e => e)] at f1
      rw [← hkr.cell (p := ⟨b1, o1 + (m * 2 + 1), none⟩) hb (fun e => e), ← Nat.add_assoc] at f2
      have i1 : (m : Int) < acts.length := by omega
      generalize acts[m] = x at *
      obtain ⟨x1, x2⟩ := x
      have HC := Lib.hid hcons
      have HWS := Lib.hid hws
      have HW1 := Lib.hid hw1
      clear hcons hws
      have ei : (((m + 1 : Nat) : Int) - 1) = (m : Int) := by omega
      rw [ei]
      clear ei
      by_cases d1 : 1 < x1
      · have hi : okAct k (x1, x2) = false := by unfold okAct; rw [decide_eq_false (by simp; omega)]; rfl
        obtain ⟨e1, e2⟩ := tl_idle HWS.out HW1.out hi
        rw [← HC.out] at e1 e2
        have HE := Lib.hid (And.intro e1 e2)
        clear e1 e2 hi
        go_wp2_with fail
        go_roundg m
        case measure => omega
        case rel => exact ⟨m, a, rfl, rfl, by omega, rfl, by rw [HE.out.1]; exact HT.out, by rw [HE.out.2]; exact hBr, hkr, HRR.out, HK.out⟩
      by_cases d2 : x2 < 0
      · have hi : okAct k (x1, x2) = false := by unfold okAct isIn; rw [decide_eq_false (p := 0 ≤ (x1, x2).2 ∧ (x1, x2).2 < k) (by simp; omega)]; simp
        obtain ⟨e1, e2⟩ := tl_idle HWS.out HW1.out hi
        rw [← HC.out] at e1 e2
        have HE := Lib.hid (And.intro e1 e2)
        clear e1 e2 hi
        go_wp2_with fail
        go_roundg m
        case measure => omega
        case rel => exact ⟨m, a, rfl, rfl, by omega, rfl, by rw [HE.out.1]; exact HT.out, by rw [HE.out.2]; exact hBr, hkr, HRR.out, HK.out⟩
      by_cases d3 : k ≤ x2
      · have hi : okAct k (x1, x2) = false := by unfold okAct isIn; rw [decide_eq_false (p := 0 ≤ (x1, x2).2 ∧ (x1, x2).2 < k) (by simp; omega)]; simp
        obtain ⟨e1, e2⟩ := tl_idle HWS.out HW1.out hi
        rw [← HC.out] at e1 e2
        have HE := Lib.hid (And.intro e1 e2)
        clear e1 e2 hi
        go_wp2_with fail
        go_roundg m
        case measure => omega
        case rel => exact ⟨m, a, rfl, rfl, by omega, rfl, by rw [HE.out.1]; exact HT.out, by rw [HE.out.2]; exact hBr, hkr, HRR.out, HK.out⟩
      obtain ⟨p, rfl⟩ := Int.eq_ofNat_of_zero_le (show 0 ≤ x2 by omega)
      have hp : p < 256 := by omega
      have hin : isIn k (p : Int) = true := decide_eq_true (by omega)
      have f3 := (hBr.cell p).trans (seen_get _ p hp)
      have k3 := hBr.frozen p
      have ip : (p : Int) < 256 := by omega
      cases ht : touched k (acts.drop (m + 1)) p with
      | true =>
        rw [ht] at f3
        obtain ⟨e1, e2⟩ := tl_told (a := (x1, (p : Int))) HWS.out (by simpa using ht)
        rw [← HC.out] at e1 e2
        have HE := Lib.hid (And.intro e1 e2)
        clear e1 e2 hin ht
        go_wp2_with fail
        go_roundg m
        case measure => omega
        case rel => exact ⟨m, a, rfl, rfl, by omega, rfl, by rw [HE.out.1]; exact HT.out, by rw [HE.out.2]; exact hBr, hkr, HRR.out, HK.out⟩
      | false =>
        rw [ht] at f3
        have hB2 : Blk (wr.setCell ⟨g3, p, none⟩ (.bool true)) g3 29 (seenCells (upd (touched k (acts.drop (m + 1))) p true)) := by rw [← seen_set _ p hp]; exact hBr.set_ p _
        have hg3 : w3.heap.size ≤ g3 := Nat.le_of_eq HG.out
        have hg0 : w.heap.size ≤ g3 := Nat.le_trans hk3.size hg3
        have hkr2 : Kept w (wr.setCell ⟨g3, p, none⟩ (.bool true)) := hkr.setCell (p := ⟨g3, p, none⟩) (fun h => by simp only at h; omega) _
        have hk32 : Kept w3 (wr.setCell ⟨g3, p, none⟩ (.bool true)) := HK.out.setCell (p := ⟨g3, p, none⟩) (fun h => by simp only at h; omega) _
        have hrr2 : RdI (wr.setCell ⟨g3, p, none⟩ (.bool true)) (.slice A2 (mRow k acts).length c2) (pInts (mRow k acts)) := HR.out.kept hk32 (fun _ _ e => e)
        have f5 : (wr.setCell ⟨g3, p, none⟩ (.bool true)).cell? ⟨b1, o1 + m * 2, none⟩ = some (.int .u8 x1) := (World.cell?_setCell_other wr ⟨g3, p, none⟩ ⟨b1, o1 + m * 2, none⟩ _ (fun e => by injection e with e; omega)).trans f1
        have HB2 := Lib.hid hB2
        have HKR2 := Lib.hid hkr2
        have HK32 := Lib.hid hk32
        have HRR2 := Lib.hid hrr2
        clear hB2 hkr2 hk32 hrr2 hg3 hg0
        by_cases hx : x1 = 1
        · obtain ⟨e1, e2⟩ := tl_drop (a := (x1, (p : Int))) HWS.out hx hin
          rw [← HC.out] at e1 e2
          have HE := Lib.hid (And.intro e1 e2)
          have t1 : (x1 == 1) = true := by simp [hx]
          clear e1 e2 hin ht hx
          go_wp2_with fail
          go_roundg m
          case measure => omega
          case rel => exact ⟨m, a, rfl, rfl, by omega, rfl, by rw [HE.out.1]; exact HT.out, by rw [HE.out.2]; exact HB2.out, HKR2.out, HRR2.out, HK32.out⟩
        · have hx0 : x1 = 0 := by omega
          obtain ⟨e1, e2⟩ := tl_use (a := (x1, (p : Int))) HWS.out hx0 hin (by simpa using ht)
          rw [← HC.out] at e1 e2
          obtain ⟨P, hP⟩ := row_tail k acts HW.out m
          have hPl : P.length + (acts.drop m |> tl k).length = (mRow k acts).length := by rw [hP]; simp
          have e1l : (tl k (acts.drop m)).length = (tl k (acts.drop (m + 1))).length + 1 := by rw [e1]; simp
          have hPa : a = P.length + 1 := by have := HT.out; omega
          have hget : (mRow k acts)[P.length]? = some p := by
            rw [hP, e1, List.getElem?_append_right (Nat.le_refl _)]; simp
          have hPlt : P.length < (mRow k acts).length := by omega
          have HP := Lib.hid hPl
          generalize P.length = q at *
          clear hP
          subst hPa
          have HE := Lib.hid (And.intro e1 e2)
          have HL := Lib.hid e1l
          have t1 : (x1 == 1) = false := by simp [hx]
          obtain ⟨b2, o2, c2', e3, _, g2⟩ := HRR2.out.at (k := q) (by simpa [pInts] using hPlt)
          injection e3 with e3 el e3'
          clear el
          subst e3 e3'
          have f4 := g2 q (.int .i64 p) (by simp [ints, pInts, hget])
          have iq : (q : Int) < (mRow k acts).length := by omega
          have t2 : ((p : Int) != (p : Int)) = false := by simp
          clear g2 hget e1 e2 hin ht hx e1l hPl hx0
          go_wp2_with fail
          go_roundg m
          case measure => omega
          case rel => exact ⟨m, q, rfl, rfl, by omega, rfl, by have := HP.out; omega, by rw [HE.out.2]; exact HB2.out, HKR2.out, HRR2.out, HK32.out⟩
end Go.Proofs.Ytjjgefcjjpckfaa
