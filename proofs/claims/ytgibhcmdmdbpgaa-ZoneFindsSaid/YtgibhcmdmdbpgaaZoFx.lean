/- The document's Find, walked. Conditions: few zones, texts not long. -/
import Derived.Test.YtgibhcmdmdbpgaaZoD
namespace Go.Proofs.Ytgibhcmdmdbpgaa
open Go.RowKit Go.Lib

theorem Rt.cells {w : World} {base x : Nat} {v : Value} {D : List Zn} (h : Rt w base x v D) {k : Nat} (hk : k < D.length) : ∃ b c, v = .slice (some ⟨b, 0, none⟩) D.length c ∧ b < w.heap.size ∧
    w.cell? ⟨b, k * 3, none⟩ = some (.string (D[k]).name) ∧ w.cell? ⟨b, k * 3 + 1, none⟩ = some (.int .u8 (D[k]).pol) ∧ w.cell? ⟨b, k * 3 + 2, none⟩ = some (.int .u16 (D[k]).tr) := by
  obtain ⟨A, c, rfl⟩ := own_form h.row
  rcases h.row.2 with ⟨h2, h3⟩ | ⟨g, cap, cur, h2, hb, hg, h3⟩
  · rw [h3] at hk; omega
  · injection h2 with h2 _ h4
    subst h2 h4
    obtain ⟨b', o', c', e1, hb1, g1⟩ := (Rd.of_own h.row).at hk
    injection e1 with e1 _ _
    injection e1 with e1
    injection e1 with e1 e2
    subst e1 e2
    obtain ⟨q1, q2, q3⟩ := zC_get D k hk
    have f1 := g1 _ _ q1
    have f2 := g1 _ _ q2
    have f3 := g1 _ _ q3
    rw [Nat.zero_add] at f1 f2 f3
    exact ⟨g, _, rfl, hb1, f1, f2, f3⟩
theorem blk_set3x {w : World} {g : Nat} {t : TypeId} {a b c : Value} (h : Blk w g t #[a, b, c]) (x y z : Value) : Blk (((w.setCell ⟨g, 0, none⟩ x).setCell ⟨g, 1, none⟩ y).setCell ⟨g, 2, none⟩ z) g t #[x, y, z] := ((h.set_ 0 x).set_ 1 y).set_ 2 z
theorem blk_far3 {w : World} {g g2 : Nat} {t : TypeId} {cs : Array Value} (h : Blk w g t cs) (hg : g ≠ g2) (x y z : Value) : Blk (((w.setCell ⟨g2, 0, none⟩ x).setCell ⟨g2, 1, none⟩ y).setCell ⟨g2, 2, none⟩ z) g t cs := ((h.far (p := ⟨g2, 0, none⟩) hg x).far (p := ⟨g2, 1, none⟩) hg y).far (p := ⟨g2, 2, none⟩) hg z
theorem SplitTo.lab {n : ByteArray} {w w' : World} {e : Ending} (h : SplitTo n w e w') : Kept w w' ∧ ∃ A c b, e = .returned (.tuple #[.slice A (labK n) c, .bool b]) := by
  obtain ⟨m, ⟨hs, rfl⟩ | ⟨v, L, hs, rfl, hT⟩⟩ := h
  · exact ⟨m, none, 0, false, by unfold labK; rw [hs]; rfl⟩
  · obtain ⟨A, c, rfl⟩ := hT.form
    have hk : labK n = L.length := by unfold labK; rw [hs]; simp [lbs]
    exact ⟨m, A, c, true, by rw [hk]⟩
def FxRel (D : List Zn) (n : ByteArray) (w : World) (k : Nat) (vm vi : Value) (wr : World) : Prop :=
  ∃ (j : Nat) (s : Zn × Int), vi = .int .i64 j ∧ j + k = D.length ∧ s = foldX (D.take j) n ∧ vm = .int .i64 s.2 ∧ Blk wr w.heap.size 35 #[.string ⟨#[]⟩, .int .u8 0, .int .u16 0] ∧ Blk wr (w.heap.size + 1) 35 #[.string s.1.name, .int .u8 s.1.pol, .int .u16 s.1.tr] ∧ Kept w wr
set_option maxHeartbeats 4000000 in
set_option maxRecDepth 100000 in
theorem rfind_any (w : World) (base x : Nat) (v : Value) (D : List Zn) (h : Rt w base x v D) (hD : ∀ z ∈ D, z.name.size ≤ 1000000) (hDl : D.length < 1000) (n : ByteArray) (hn : n.size ≤ 1000000) :
    Calls Try.prog 14 #[.pointer (some ⟨x, 0, none⟩), .string n] w fun e w' => e = .returned (.agg (znC (foldX D n).1)) ∧ Kept w w' := by
  have HX := Lib.hid h
  have HD := Lib.hid hD
  obtain ⟨A, c, rfl⟩ := own_form h.row
  clear h hD
  go_enter Try.func14, Try.ntmps14
  go_wp2_with fail
  go_loopg [6, 7, 8, 9] D.length (fun k vm vi _ _ wr => FxRel D n w k vm vi wr)
  case atStart =>
    refine ⟨0, (znRoot, -1), rfl, by omega, rfl, rfl, (Blk.new w _ _).alloc _, ?_, ((Mod.refl _ _).alloc _).alloc _⟩
    have h := Blk.new (w.alloc (.cells #[.string ⟨#[]⟩, .int .u8 0, .int .u16 0] 35)) 35 #[.string ⟨#[0]⟩, .int .u8 1, .int .u16 0]
    rw [show (w.alloc (.cells #[.string ⟨#[]⟩, .int .u8 0, .int .u16 0] 35)).heap.size = w.heap.size + 1 by simp] at h
    exact h
  case round =>
    obtain ⟨j, ⟨s, mst⟩, rfl, hj, hs, rfl, hR, hO, hK⟩ := hrel
    have HJ := Lib.hid hj
    have HS := Lib.hid hs
    have HR := Lib.hid hR
    have HO := Lib.hid hO
    have HK := Lib.hid hK
    have hjl : j ≤ D.length := by omega
    have x0 : wr.cell? ⟨x, 0, none⟩ = some (.slice A D.length c) := (HX.out.kept hK).blk.cell 0
    clear hj hs hR hO hK
    by_cases hlt : j < D.length
    · obtain ⟨b1, c1, e1, hb1, f1, f2, f3⟩ := (HX.out.kept HK.out).cells hlt
      injection e1 with e1 _ e1'
      subst e1 e1'
      have HF := Lib.hid (And.intro f1 (And.intro f2 (And.intro f3 (And.intro hb1 (HX.out.kept HK.out).blk.lt))))
      have i1 : (j : Int) < D.length := by omega
      have hsz := HD.out _ (List.getElem_mem hlt)
      have hsn := foldX_snoc D n j hlt
      clear f2 f3 hb1
      generalize D[j]'hlt = y at *
      rw [← HS.out] at hsn
      have HSN := Lib.hid hsn
      have HW := Lib.hid (fun w => rwithin_any n y.name hn hsz w)
      clear hsn
      obtain ⟨wb, hwb⟩ : ∃ wb, wi n y = wb := ⟨_, rfl⟩
      have hwb2 : withinN (bys n) (bys y.name) = wb := hwb
      rw [hwb2] at HW
      have HSN2 := HSN.out
      rw [hwb] at HSN2
      replace HSN := Lib.hid HSN2
      clear hwb hwb2 HSN2
      go_wp2_with fail
      refine (rlabels_any y.name hsz _).mono ?_
      intro e w2 h2
      obtain ⟨m2, A2, c2, b2, rfl⟩ := h2.lab
      have g1 : w2.cell? ⟨b1, j * 3, none⟩ = some (.string y.name) := (m2.cell (p := ⟨b1, j * 3, none⟩) HF.out.2.2.2.1 (fun e => e)).trans HF.out.1
      have x2 : w2.cell? ⟨x, 0, none⟩ = some (.slice (some ⟨b1, 0, none⟩) D.length c) := (m2.cell (p := ⟨x, 0, none⟩) HF.out.2.2.2.2 (fun e => e)).trans x0
      have HX2 := Lib.hid x2
      have HM2 := Lib.hid m2
      clear h2 m2
      clear x0 f1
      go_wp2_with fail
      refine (HW.out _).mono ?_
      rintro e w3 ⟨rfl, m3⟩
      have hm3 := HM2.out.then m3
      have x3 : w3.cell? ⟨x, 0, none⟩ = some (.slice (some ⟨b1, 0, none⟩) D.length c) := (m3.cell (p := ⟨x, 0, none⟩) (block_lt_of_cell HX2.out) (fun e => e)).trans HX2.out
      have k1 := (hm3.cell (p := ⟨b1, j * 3, none⟩) HF.out.2.2.2.1 (fun e => e)).trans HF.out.1
      have k2 := (hm3.cell (p := ⟨b1, j * 3 + 1, none⟩) HF.out.2.2.2.1 (fun e => e)).trans HF.out.2.1
      have k3 := (hm3.cell (p := ⟨b1, j * 3 + 2, none⟩) HF.out.2.2.2.1 (fun e => e)).trans HF.out.2.2.1
      have hO3 := HO.out.mod hm3 (fun e => e)
      have c0 := hO3.cell 0
      have c1 := hO3.cell 1
      have c2 := hO3.cell 2
      have r0 := hO3.frozen 0
      have r1 := hO3.frozen 1
      have r2 := hO3.frozen 2
      have HO3 := Lib.hid hO3
      have HR3 := Lib.hid (HR.out.mod hm3 (fun e => e))
      have HK3 := Lib.hid (HK.out.then hm3)
      clear m3 hm3 hO3 g1 x2
      cases wb with
      | false =>
        simp only [Bool.false_and, Bool.false_eq_true, if_false] at HSN
        go_wp2_with fail
        go_roundg (D.length - (j + 1))
        case measure => have := HJ.out; omega
        case rel => exact ⟨j + 1, (s, mst), by go_num, by omega, by have := HSN.out; simpa using this.symm, rfl, HR3.out, HO3.out, HK3.out⟩
      | true =>
        by_cases hlm : mst < (labK y.name : Int)
        · have HL := Lib.hid hlm
          go_wp2_with fail
          go_roundg (D.length - (j + 1))
          case measure => have := HJ.out; omega
          case rel =>
            refine ⟨j + 1, (y, (labK y.name : Int)), by go_num, by omega, ?_, rfl, blk_far3 HR3.out (by omega) _ _ _, blk_set3x HO3.out _ _ _, mod_set3 HK3.out (by omega) _ _ _⟩
            have := HSN.out
            rw [this]
            simp [HL.out]
        · have i5 : (labK y.name : Int) ≤ mst := by omega
          have HL := Lib.hid hlm
          clear hlm
          go_wp2_with fail
          go_roundg (D.length - (j + 1))
          case measure => have := HJ.out; omega
          case rel =>
            refine ⟨j + 1, (s, mst), by go_num, by omega, ?_, rfl, HR3.out, HO3.out, HK3.out⟩
            have := HSN.out
            rw [this]
            rw [if_neg (by simp; omega)]
    · obtain rfl : j = D.length := by omega
      have c0 := HO.out.cell 0
      have c1 := HO.out.cell 1
      have c2 := HO.out.cell 2
      have e0 := HR.out.cell 0
      have e1 := HR.out.cell 1
      have e2 := HR.out.cell 2
      have r0 := HR.out.frozen 0
      have r1 := HR.out.frozen 1
      have r2 := HR.out.frozen 2
      have hs := HS.out
      rw [List.take_length] at hs
      have HS2 := Lib.hid hs
      clear hs HS
      go_wp2_with fail
      exact bodyPost_ret (results_zone rfl _ _ w.heap.size _ _ _ _ rfl (blk_set3x HR.out _ _ _)) rfl ⟨by rw [← HS2.out]; rfl, mod_set3 HK.out (Nat.le_refl _) _ _ _⟩
end Go.Proofs.Ytgibhcmdmdbpgaa
