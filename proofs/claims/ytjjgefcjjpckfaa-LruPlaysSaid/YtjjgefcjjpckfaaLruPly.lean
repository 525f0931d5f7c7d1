/- LruPlays, walked: whatever is used, dropped, asked and copied, it answers true. Conditions: none. -/
import Derived.Test.YtjjgefcjjpckfaaRef15
namespace Go.Proofs.Ytjjgefcjjpckfaa
open Go.RowKit

theorem quiet_same {P : Program} {f : FuncId} {args : Array Value} {w : World} {n : Nat} {v : Value}
    (h : Calls P f args (w.drewN n) fun e w' => e = .returned v ∧ w.drewN n = w') : Calls P f args (w.drewN n) fun e w'' => e = .returned v ∧ ∃ m, w'' = w.drewN m :=
  h.mono fun _ _ ⟨he, hm⟩ => ⟨he, n, hm.symm⟩

def WipeRel (R : List Nat) (A : Option Addr) (w : World) (k : Nat) (s : Value) (wr : World) : Prop :=
  ∃ j : Nat, s = .int .i64 j ∧ j + k = R.length ∧ (0 < R.length → ∃ g cur, A = some ⟨g, 0, none⟩ ∧ w.heap.size ≤ g ∧ Blk wr g 3 cur ∧ R.length ≤ cur.size) ∧ Kept w wr
set_option maxHeartbeats 1000000 in
set_option maxRecDepth 100000 in
theorem alike_c (g b : Nat) (n n2 : Int) (R : List Nat) (v : Value) (w : World) (hL : Lru w g n R) (hX : RefL w b n2 R v) :
    Calls Try.prog 26 #[At g, At b] w fun e w' => e = .returned (.bool true) ∧ Kept w w' := by
  have hl := hX.2.2
  obtain ⟨q, hq⟩ : ∃ q, (!R.isEmpty) = q := ⟨_, rfl⟩
  obtain ⟨x, hx⟩ : ∃ x, ((R.headD 0 : Nat) : Int) = x := ⟨_, rfl⟩
  obtain ⟨y, hy⟩ : ∃ y, ((R.getLastD 0 : Nat) : Int) = y := ⟨_, rfl⟩
  have HQ := Lib.hid (And.intro hq (And.intro hx hy))
  clear hq hx hy
  have h31 := ref_oldest b n2 R v w hX
  have h32 := ref_newest b n2 R v w hX
  rw [HQ.out.1, HQ.out.2.1] at h31
  rw [HQ.out.1, HQ.out.2.2] at h32
  have H31 := Lib.hid h31
  have H32 := Lib.hid h32
  clear h31 h32
  go_enter Try.func26, Try.ntmps26
  go_wp2_with fail
  refine (lru_oldest_to g n R _ hL x HQ.out.2.1 q HQ.out.1).mono ?_
  rintro e w1 ⟨rfl, rfl⟩
  go_wp2_with fail
  refine H31.out.mono ?_
  rintro e w1 ⟨rfl, rfl⟩
  go_wp2_with fail
  refine (lru_newest_to g n R _ hL y HQ.out.2.2 q HQ.out.1).mono ?_
  rintro e w1 ⟨rfl, rfl⟩
  go_wp2_with fail
  refine H32.out.mono ?_
  rintro e w1 ⟨rfl, q1, rfl⟩
  have hL1 := hL.mod ((Kept.refl _).drewN q1) (fun e => e)
  have hX1 := hX.mod ((Kept.refl _).drewN q1) (fun _ _ e => e)
  have hk1 : Kept w (w.drewN q1) := (Kept.refl _).drewN q1
  generalize w.drewN q1 = w1 at *
  clear hL hX H31 H32
  go_wp2_with fail
  refine (lru_row g n R _ hL1).mono ?_
  rintro e w2 ⟨v2, rfl, hv2, hm2⟩
  have hL2 := hL1.mod hm2 (fun e => e)
  have hX2 := hX1.mod hm2 (fun _ _ e => e)
  have hk2 := hk1.then hm2
  obtain ⟨A2, c2, rfl⟩ := own_form hv2
  have hr2 := (Rd.of_own hv2).asInts
  have hx2 := hX2.rd
  have hrow := hX2.row
  obtain ⟨A3, c3, rfl⟩ := hX2.form
  have HO := Lib.hid (own_low hv2 hk1.size)
  have hl3 : (pInts R).length ≤ 4611686018427387904 := by simp [pInts]; omega
  have HL2 := Lib.hid hL2
  have HR2 := Lib.hid hr2
  have HX2 := Lib.hid hx2
  have HK2 := Lib.hid hk2
  clear hL1 hX1 hk1 hm2 hv2 hL2 hX2 hk2 hr2 hx2
  go_wp2_with fail
  go_quiet ((first | (go_at_call 19; exact quiet_same (lru_len g n R _ (HL2.out.mod ((Kept.refl _).drewN _) (fun e => e)))) | (go_at_call 15; exact Calls.quiet_of (ints15 _ _ (pInts R) (pInts R) hl3 true (by simp) _ (HR2.out.kept ((Kept.refl _).drewN _) (fun _ _ e => e)) (HX2.out.kept ((Kept.refl _).drewN _) (fun _ _ e => e))))))
  have hk3 : Kept w (w2.drewN nq) := HK2.out.drewN nq
  have hst : 0 < R.length → ∃ g cur, A2 = some ⟨g, 0, none⟩ ∧ w.heap.size ≤ g ∧ Blk (w2.drewN nq) g 3 cur ∧ R.length ≤ cur.size := by
    intro hp
    rcases HO.out.2 with ⟨e, h0⟩ | ⟨g, cap, cur, e, hb, hg, h1, h2, h3, _⟩
    · omega
    · injection e with e1 e2 e3
      exact ⟨g, cur, e1, hb, hg, by rw [h3]; omega⟩
  clear hrow
  go_wp2_with fail
  go_loopg [15] R.length (fun k s wr => WipeRel R A2 w k s wr)
  case atStart => exact ⟨0, rfl, by omega, hst, hk3⟩
  case round =>
    obtain ⟨j, rfl, hj, hst', hm⟩ := hrel
    have HJ := Lib.hid hj
    have HS := Lib.hid hst'
    have HM := Lib.hid hm
    have hjl : j ≤ R.length := by omega
    clear hj hst hst' hk3 hm
    by_cases hlt : j < R.length
    · obtain ⟨g4, cur, e4, hg4, hB, hc⟩ := HS.out (by omega)
      subst e4
      have f1 := hB.cell j
      rw [Array.getElem?_eq_getElem (by omega)] at f1
      have f2 := hB.frozen j
      have i1 : (j : Int) < R.length := by omega
      have HB := Lib.hid hB
      clear hB
      go_wp2_with fail
      go_roundg (R.length - (j + 1))
      case measure => have := HJ.out; omega
      case rel => exact ⟨j + 1, by go_num, by omega, fun _ => ⟨g4, _, rfl, hg4, HB.out.set_ j _, by simpa using hc⟩, HM.out.setCell (p := ⟨g4, j, none⟩) (fun h => by simp only at h; omega) _⟩
    · obtain rfl : j = R.length := by omega
      go_wp2_with fail
      go_ret
      exact ⟨rfl, HM.out⟩
end Go.Proofs.Ytjjgefcjjpckfaa
