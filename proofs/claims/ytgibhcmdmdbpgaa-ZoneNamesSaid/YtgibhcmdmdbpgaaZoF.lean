/- Find, walked. Conditions: texts that a memory may hold. -/
import Derived.Test.YtgibhcmdmdbpgaaZoN
namespace Go.Proofs.Ytgibhcmdmdbpgaa
open Go.RowKit Go.Lib

/-- What Find reads: the table's two kinds of maps. -/
structure Fd (w : World) (g : Nat) (l : List Zn) (mv : Value) (by_ : Int → Value) : Prop where
  lt : g < w.heap.size
  cell : w.cell? ⟨g, 0, none⟩ = some mv
  look1 : ∀ w', Kept w w' → ∀ k, (Instr.lookup 41 mv (.int .i64 k) false).run Try.prog w' = .ok (by_ k) w'
  look2 : ∀ w', Kept w w' → ∀ n, (Instr.lookup 55 (by_ (labK n : Int)) (.string n) true).run Try.prog w' = .ok (inV l n) w'
theorem Fd.of_zt {w : World} {base g mo : Nat} {oe : List (Nat × Nat)} {l : List Zn} {c : Int} (h : Zt w base g mo oe l c) : Fd w g l (.map (some mo)) (byV oe) :=
  ⟨h.blk.lt, h.blk.cell 0, fun _ hk k => look_by (h.kept hk) k, fun _ hk n => look_in (h.kept hk) n⟩
theorem Fd.bare {w : World} {g : Nat} {c : Value} (h : Blk w g 43 #[.map none, c]) : Fd w g [] (.map none) (fun _ => .map none) :=
  ⟨h.lt, h.cell 0, fun w' _ k => run_lookup_nil w' Try.underlying41 Try.underlying3 zero_map (fun em w => check_int w em _ .i64 Try.underlying3 k) false,
    fun w' _ n => run_lookup_nil w' Try.underlying55 Try.underlying9 zero_zone (fun em w => check_string w em _ Try.underlying9 n) true⟩
theorem Fd.kept {w w' : World} {g : Nat} {l : List Zn} {mv : Value} {by_ : Int → Value} (h : Fd w g l mv by_) (hk : Kept w w') : Fd w' g l mv by_ :=
  ⟨Nat.lt_of_lt_of_le h.lt hk.size, (hk.cell (p := ⟨g, 0, none⟩) h.lt (fun e => e)).trans h.cell, fun v hv => h.look1 v (hk.then hv), fun v hv => h.look2 v (hk.then hv)⟩

theorem blk_set3 {w : World} {g : Nat} {t : TypeId} {a b c : Value} (h : Blk w g t #[a, b, c]) (x y z : Value) : Blk (((w.setCell ⟨g, 0, none⟩ x).setCell ⟨g, 1, none⟩ y).setCell ⟨g, 2, none⟩ z) g t #[x, y, z] := ((h.set_ 0 x).set_ 1 y).set_ 2 z
theorem mod_set3 {a w : World} {g : Nat} (h : Kept a w) (hg : a.heap.size ≤ g) (x y z : Value) : Kept a (((w.setCell ⟨g, 0, none⟩ x).setCell ⟨g, 1, none⟩ y).setCell ⟨g, 2, none⟩ z) :=
  ((h.setCell (p := ⟨g, 0, none⟩) (fun e => by simp only at e; omega) x).setCell (p := ⟨g, 1, none⟩) (fun e => by simp only at e; omega) y).setCell (p := ⟨g, 2, none⟩) (fun e => by simp only at e; omega) z
set_option maxHeartbeats 1000000 in
theorem find_nil (n : ByteArray) (w : World) : Calls Try.prog 13 #[.pointer none, .string n] w fun e w' => e = .returned (.agg (znC znRoot)) ∧ Kept w w' := by
  go_enter Try.func13, Try.ntmps13
  go_wp2_with fail
  refine (root_any _).mono ?_
  rintro e w1 ⟨rfl, m1⟩
  have hB := (Blk.new w 35 #[.string ⟨#[]⟩, .int .u8 0, .int .u16 0]).mod m1 (fun e => e)
  have HK := Lib.hid ((((Mod.refl (fun _ => False) w).alloc (.cells #[.string ⟨#[]⟩, .int .u8 0, .int .u16 0] 35))).then m1)
  have c0 := hB.cell 0
  have c1 := hB.cell 1
  have c2 := hB.cell 2
  have r0 := hB.frozen 0
  have r1 := hB.frozen 1
  have r2 := hB.frozen 2
  have HB := Lib.hid hB
  clear hB m1
  unfold znC znRoot
  simp only
  go_wp2_with fail
  exact bodyPost_ret (results_zone rfl _ _ w.heap.size _ _ _ _ rfl (blk_set3 HB.out _ _ _)) rfl ⟨rfl, mod_set3 HK.out (Nat.le_refl _) _ _ _⟩
def FindRel (l : List Zn) (w : World) (ks0 : List (List Nat)) (k : Nat) (vn vk : Value) (wr : World) : Prop :=
  ∃ (m : ByteArray) (ks : List (List Nat)) (a b c : Value), vn = .string m ∧ vk = .int .i64 (ks.length : Nat) ∧ splitN (bys m) = some ks ∧ ks.length = k ∧ upZ l ks = upZ l ks0 ∧ Blk wr w.heap.size 35 #[a, b, c] ∧ Kept w wr
set_option maxHeartbeats 2000000 in
set_option maxRecDepth 100000 in
theorem find_any (w : World) (g : Nat) (l : List Zn) (mv : Value) (by_ : Int → Value) (h : Fd w g l mv by_) (n : ByteArray) (hn : n.size < 2 ^ 63) :
    Calls Try.prog 13 #[.pointer (some ⟨g, 0, none⟩), .string n] w fun e w' => e = .returned (.agg (znC (findZ l n))) ∧ Kept w w' := by
  have H := Lib.hid h
  have CM := Lib.hid (fun w => may_any n hn w)
  have CF := Lib.hid (fun w => fold_any n hn w)
  clear h
  cases hs : splitN (bys n) with
  | none =>
    have hm : mayN (bys n) = false := by unfold mayN; rw [hs]; rfl
    have HR : Hid (findZ l n = znRoot) := Lib.hid (by unfold findZ; rw [hs])
    rw [hm] at CM
    clear hs hm hn
    go_enter Try.func13, Try.ntmps13
    go_wp2_with fail
    refine (CM.out _).mono ?_
    rintro e w1 ⟨rfl, m1⟩
    have hB1 := Lib.hid ((Blk.new w 35 #[.string ⟨#[]⟩, .int .u8 0, .int .u16 0]).mod m1 (fun e => e))
    have HK1 := Lib.hid ((((Mod.refl (fun _ => False) w).alloc (.cells #[.string ⟨#[]⟩, .int .u8 0, .int .u16 0] 35))).then m1)
    clear m1
    go_wp2_with fail
    refine (root_any _).mono ?_
    rintro e w2 ⟨rfl, m2⟩
    have hB := hB1.out.mod m2 (fun e => e)
    have HK := Lib.hid (HK1.out.then m2)
    have c0 := hB.cell 0
    have c1 := hB.cell 1
    have c2 := hB.cell 2
    have r0 := hB.frozen 0
    have r1 := hB.frozen 1
    have r2 := hB.frozen 2
    have HB := Lib.hid hB
    clear hB m2
    unfold znC znRoot
    simp only
    go_wp2_with fail
    exact bodyPost_ret (results_zone rfl _ _ w.heap.size _ _ _ _ rfl (blk_set3 HB.out _ _ _)) rfl ⟨by rw [HR.out]; rfl, mod_set3 HK.out (Nat.le_refl _) _ _ _⟩
  | some ks0 =>
    have hm : mayN (bys n) = true := by unfold mayN; rw [hs]; rfl
    have HR : Hid (findZ l n = upZ l (ks0.map lowL)) := Lib.hid (by unfold findZ; rw [hs])
    have hfs : splitN (bys (foldS n)) = some (ks0.map lowL) := by rw [bys_foldS]; exact split_low hs
    have hf255 : (foldS n).size < 2 ^ 63 := by have := ((splitN_iff _ _).1 hfs).2.2; rw [bys_length] at this; omega
    rw [hm] at CM
    have HFS := Lib.hid hfs
    have HL := Lib.hid (fun w => labels_any (foldS n) hf255 w)
    clear hs hm hn hfs hf255
    generalize ks0.map lowL = ks at *
    generalize foldS n = m at *
    go_enter Try.func13, Try.ntmps13
    go_wp2_with fail
    refine (CM.out _).mono ?_
    rintro e w1 ⟨rfl, m1⟩
    have HB1 := Lib.hid ((Blk.new w 35 #[.string ⟨#[]⟩, .int .u8 0, .int .u16 0]).mod m1 (fun e => e))
    have HK1 := Lib.hid ((((Mod.refl (fun _ => False) w).alloc (.cells #[.string ⟨#[]⟩, .int .u8 0, .int .u16 0] 35))).then m1)
    clear m1
    go_wp2_with fail
    refine (CF.out _).mono ?_
    rintro e w2 ⟨rfl, m2⟩
    have HB2 := Lib.hid (HB1.out.mod m2 (fun e => e))
    have HK2 := Lib.hid (HK1.out.then m2)
    clear m2 HB1 HK1
    go_wp2_with fail
    refine (HL.out _).mono ?_
    rintro e w3 ⟨m3, ⟨hs, rfl⟩ | ⟨v3, L, hs, rfl, hT⟩⟩
    · have := HFS.out
      rw [hs] at this
      cases this
    have hlk : L.length = ks.length := by have := HFS.out; rw [hs] at this; injection this with this; rw [← this, lbs_length]
    obtain ⟨A3, c3, rfl⟩ := hT.form
    rw [hlk]
    have HB3 := Lib.hid (HB2.out.mod m3 (fun e => e))
    have HK3 := Lib.hid (HK2.out.then m3)
    clear hs hT hlk m3 HB2 HK2 HL CM CF
    go_wp2_with fail
    go_loopg [1, 5, 6, 7, 8, 9] ks.length (fun k vn vk _ _ _ _ wr => FindRel l w ks k vn vk wr)
    case atStart => exact ⟨m, ks, _, _, _, rfl, rfl, HFS.out, rfl, rfl, HB3.out, HK3.out⟩
    case round =>
      obtain ⟨m2, ks2, a, b, c, rfl, rfl, hsp, hlen, hup, hB, hK⟩ := hrel
      have HSP := Lib.hid hsp
      have HLEN := Lib.hid hlen
      have HUP := Lib.hid hup
      have HB := Lib.hid hB
      have HK := Lib.hid hK
      have hk : labK m2 = ks2.length := by unfold labK; rw [hsp]; rfl
      have hsz : m2.size < 2 ^ 63 := by have := ((splitN_iff _ _).1 hsp).2.2; rw [bys_length] at this; omega
      have hcell := (H.out.kept hK).cell
      have y1 := H.out.look1 wr hK (ks2.length : Int)
      have x1 := H.out.look2 wr hK m2
      rw [hk] at x1
      generalize by_ (ks2.length : Int) = bv at *
      have HSZ := Lib.hid hsz
      clear hsp hlen hup hB hK hsz
      cases hf : l.find? (fun z => m2 == z.name) with
      | some z =>
        have hx : inV l m2 = .tuple #[.agg (znC z), .bool true] := by unfold inV; rw [hf]
        have HZ : Hid (upZ l ks2 = z) := Lib.hid (upZ_in (by rw [keyS_of HSP.out]; exact hf))
        rw [hx] at x1
        unfold znC at x1
        clear hx hf hk
        have hB := (HB.out.alloc (.cells #[.string z.name, .int .u8 z.pol, .int .u16 z.tr] 35))
        have c0 := hB.cell 0
        have c1 := hB.cell 1
        have c2 := hB.cell 2
        have r0 := hB.frozen 0
        have r1 := hB.frozen 1
        have r2 := hB.frozen 2
        have HB2 := Lib.hid hB
        clear hB
        go_wp2_with fail
        exact bodyPost_ret (results_zone rfl _ _ w.heap.size _ _ _ _ rfl (blk_set3 HB2.out _ _ _)) rfl ⟨by rw [HR.out, ← HUP.out, HZ.out]; rfl, mod_set3 (HK.out.alloc _) (Nat.le_refl _) _ _ _⟩
      | none =>
        have hx : inV l m2 = .tuple #[.agg zn0, .bool false] := by unfold inV; rw [hf]
        rw [hx] at x1
        unfold zn0 at x1
        have HF : Hid (l.find? (fun z => keyS ks2 == z.name) = none) := Lib.hid (by rw [keyS_of HSP.out]; exact hf)
        clear hx hf hk
        go_wp2_with fail
        refine (parent_any m2 HSZ.out _).mono ?_
        rintro e w4 ⟨rfl, m4⟩
        have HB4 := Lib.hid ((HB.out.alloc (.cells #[.string ⟨#[]⟩, .int .u8 0, .int .u16 0] 35)).mod m4 (fun e => e))
        have HK4 := Lib.hid ((HK.out.alloc _).then m4)
        clear m4 x1 y1 hcell HB HK
        cases ks2 with
        | nil =>
          have HRT : Hid (findZ l n = znRoot) := Lib.hid (by rw [HR.out, ← HUP.out]; exact upZ_root HF.out)
          rw [parB_nil HSP.out]
          clear HF HUP
          go_wp2_with fail
          refine (root_any _).mono ?_
          rintro e w5 ⟨rfl, m5⟩
          have hB := HB4.out.mod m5 (fun e => e)
          have HK5 := Lib.hid (HK4.out.then m5)
          have c0 := hB.cell 0
          have c1 := hB.cell 1
          have c2 := hB.cell 2
          have r0 := hB.frozen 0
          have r1 := hB.frozen 1
          have r2 := hB.frozen 2
          have HB5 := Lib.hid hB
          clear hB m5
          unfold znC znRoot
          simp only
          go_wp2_with fail
          exact bodyPost_ret (results_zone rfl _ _ w.heap.size _ _ _ _ rfl (blk_set3 HB5.out _ _ _)) rfl ⟨by rw [HRT.out]; rfl, mod_set3 HK5.out (Nat.le_refl _) _ _ _⟩
        | cons x ks3 =>
          obtain ⟨hp1, hp2⟩ := parS_cons HSP.out
          have hk3 : (ks3.length : Int) + 1 - 1 = ks3.length := by omega
          have HP := Lib.hid (And.intro hp1 ((upZ_up HF.out).symm.trans HUP.out))
          rw [hp2]
          clear hp1 hp2 HF HUP
          have hlen : gk = ks3.length + 1 := by have := HLEN.out; simp at this; omega
          have hkl : ((x :: ks3).length : Int) = (ks3.length : Int) + 1 := by simp
          have h255 : ks3.length < 1000 := by
            have := lab_len2 HSP.out
            simp at this
            omega
          rw [hkl]
          have HLN := Lib.hid hlen
          clear hlen hkl
          go_wp2_with fail
          go_roundg (ks3.length)
          case measure => have := HLN.out; omega
          case rel => exact ⟨_, ks3, _, _, _, rfl, by go_num, HP.out.1, rfl, HP.out.2, HB4.out, HK4.out⟩
end Go.Proofs.Ytgibhcmdmdbpgaa
