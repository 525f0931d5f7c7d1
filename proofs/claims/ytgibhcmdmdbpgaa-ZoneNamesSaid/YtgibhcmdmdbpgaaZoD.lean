/- The document's New and Find, walked. Conditions: few zones, texts not long. -/
import Derived.Test.YtgibhcmdmdbpgaaZoE
import Derived.Test.YtgibhcmdmdbpgaaReg
import Derived.BigQuiet
namespace Go.Proofs.Ytgibhcmdmdbpgaa
open Go.RowKit Go.Lib

theorem elem_zone : Elem Try.prog 22 35 3 24 := ⟨by kernel_rfl, by kernel_rfl, by decide, by decide⟩
theorem zC_snoc (l : List Zn) (z : Zn) : zC (l ++ [z]) = zC l ++ [.string z.name, .int .u8 z.pol, .int .u16 z.tr] := by simp [zC]
theorem lit3 (w : World) (z : Zn) : Rd (w.alloc (.cells #[.string z.name, .int .u8 z.pol, .int .u16 z.tr] 35)) 3 (.slice (some ⟨w.heap.size, 0, none⟩) 1 1) 1 (zC [z]) := RdZ.lit w _ 1 1 [z] _ rfl rfl
theorem one_zC (l : List Zn) : ∀ u ∈ zC l, u.oneCell' = true := by
  intro u hu
  unfold zC at hu
  obtain ⟨z, _, hz⟩ := List.mem_flatMap.1 hu
  simp only [List.mem_cons, List.not_mem_nil, or_false] at hz
  rcases hz with rfl | rfl | rfl <;> rfl
/-- The document's table in memory. -/
structure Rt (w : World) (base x : Nat) (v : Value) (D : List Zn) : Prop where
  blk : Blk w x 57 #[v]
  row : w.ownsRow base 35 3 v D.length (zC D)
  ne : v.ownBlock ≠ some x
  lo : base ≤ x
theorem Rt.kept {w w' : World} {base x : Nat} {v : Value} {D : List Zn} (h : Rt w base x v D) (hm : Kept w w') : Rt w' base x v D := ⟨h.blk.mod hm (fun e => e), own_kept h.row hm, h.ne, h.lo⟩
def RNewTo (l : List Zn) (w : World) (e : Ending) (w' : World) : Prop :=
  Kept w w' ∧ ((newE l ≠ 0 ∧ e = .returned (.tuple #[.pointer none, .int .i64 (newE l)])) ∨ (newE l = 0 ∧ ∃ x v, e = .returned (.tuple #[.pointer (some ⟨x, 0, none⟩), .int .i64 0]) ∧ Rt w' w.heap.size x v l))
def RNewRel (l : List Zn) (w : World) (k : Nat) (i : Value) (wr : World) : Prop :=
  ∃ (j : Nat) (v : Value), i = .int .i64 j ∧ j + k = l.length ∧ Rt wr w.heap.size w.heap.size v (l.take j) ∧ errT (l.take j) (l.drop j) = errT [] l ∧ Kept w wr
def RHasRel (l : List Zn) (n : ByteArray) (j : Nat) (Ad : Option Addr) (cd : Nat) (w : World) (k : Nat) (i : Value) (wr : World) : Prop :=
  ∃ q : Nat, i = .int .i64 q ∧ q + k = j ∧ (∀ m (h : m < l.length), m < q → (l[m]).name ≠ n) ∧ wr.ownsRow w.heap.size 35 3 (.slice Ad j cd) j (zC (l.take j)) ∧ Blk wr w.heap.size 57 #[.slice Ad j cd] ∧ Kept w wr
theorem hasZ_take {l : List Zn} {n : ByteArray} {j : Nat} (hj : j ≤ l.length) : hasZ (l.take j) n = true ↔ ∃ m, ∃ h : m < l.length, m < j ∧ (l[m]).name = n := by
  rw [hasZ_iff, List.mem_map]
  constructor
  · rintro ⟨z, hz, e⟩
    obtain ⟨m, hm, rfl⟩ := List.mem_iff_getElem.1 hz
    rw [List.length_take] at hm
    exact ⟨m, by omega, by omega, by rw [List.getElem_take] at e; exact e⟩
  · rintro ⟨m, hm, hmj, e⟩
    exact ⟨l[m], by rw [List.mem_take_iff_getElem]; exact ⟨m, by omega, rfl⟩, e⟩
set_option maxHeartbeats 4000000 in
set_option maxRecDepth 100000 in
theorem rnew_any (v : Value) (l : List Zn) (hl : ∀ z ∈ l, z.name.size ≤ 1000000) (hlen : l.length < 1000) (w : World) (hv : RdZ w v l) : Calls Try.prog 12 #[v] w (RNewTo l w) := by
  have HV := Lib.hid hv
  have HL := Lib.hid hl
  obtain ⟨_, A, c, rfl, _⟩ := hv
  clear hl
  by_cases h16 : 16 < l.length
  · have i16 : (16 : Int) < (l.length : Int) := by omega
    have he : newE l = 5 := by unfold newE; rw [if_pos h16]
    have HE := Lib.hid he
    clear h16 he
    go_enter Try.func12, Try.ntmps12
    go_wp2_with fail
    go_ret2
    exact ⟨Kept.refl _, .inl ⟨by rw [HE.out]; decide, by rw [HE.out]; rfl⟩⟩
  · have i16 : (l.length : Int) ≤ 16 := by omega
    have he : newE l = errT [] l := by unfold newE; rw [if_neg h16]
    have HE := Lib.hid he
    clear h16 he
    go_enter Try.func12, Try.ntmps12
    go_wp2_with fail
    go_loopg [5, 6] l.length (fun k i _ wr => RNewRel l w k i wr)
    case atStart => exact ⟨0, .slice none 0 0, rfl, by omega, ⟨Blk.new _ _ _, World.ownsRow_nil _ _ _ _, (fun e => by cases e), Nat.le_refl _⟩, rfl, (Mod.refl _ _).alloc _⟩
    case round =>
      obtain ⟨j, vd, rfl, hj, hrt, he2, hk⟩ := hrel
      have HJ := Lib.hid hj
      have HE2 := Lib.hid he2
      have HK := Lib.hid hk
      have hjl : j ≤ l.length := by omega
      have hro := hrt.row
      rw [List.length_take, Nat.min_eq_left hjl] at hro
      obtain ⟨Ad, cd, rfl⟩ := own_form hro
      have HO := Lib.hid hro
      have HX := Lib.hid hrt.blk
      have HNE := Lib.hid hrt.ne
      have HXL := Lib.hid hrt.blk.lt
      clear hj he2 hk hrt hro
      by_cases hlt : j < l.length
      · obtain ⟨b1, o1, c1', e1, hb1, g1⟩ := HV.out.at hlt
        injection e1 with e1 _ e1'
        subst e1 e1'
        obtain ⟨q1, q2, q3⟩ := zC_get l j hlt
        have HCW : Hid (∀ W, Kept w W → W.cell? ⟨b1, o1 + j * 3, none⟩ = some (.string (l[j]'hlt).name) ∧ W.cell? ⟨b1, o1 + j * 3 + 1, none⟩ = some (.int .u8 (l[j]'hlt).pol) ∧ W.cell? ⟨b1, o1 + j * 3 + 2, none⟩ = some (.int .u16 (l[j]'hlt).tr)) := Lib.hid (fun W hW => by
          have f1 := (hW.cell (p := ⟨b1, o1 + j * 3, none⟩) hb1 (fun e => e)).trans (g1 _ _ q1)
          have f2 := (hW.cell (p := ⟨b1, o1 + (j * 3 + 1), none⟩) hb1 (fun e => e)).trans (g1 _ _ q2)
          have f3 := (hW.cell (p := ⟨b1, o1 + (j * 3 + 2), none⟩) hb1 (fun e => e)).trans (g1 _ _ q3)
          rw [← Nat.add_assoc] at f2 f3
          exact ⟨f1, f2, f3⟩)
        have HG1 := Lib.hid g1
        have i1 : (j : Int) < l.length := by omega
        have hsz := HL.out _ (List.getElem_mem hlt)
        have htk : l.take (j + 1) = l.take j ++ [l[j]'hlt] := by rw [List.take_add_one, List.getElem?_eq_getElem hlt]; rfl
        have hdr : l.drop j = l[j]'hlt :: l.drop (j + 1) := List.drop_eq_getElem_cons hlt
        have HT := Lib.hid (And.intro htk hdr)
        clear htk hdr g1 q1 q2 q3
        generalize l[j]'hlt = z at *
        obtain ⟨n, p, t⟩ := z
        simp only at hsz
        have HCK : Hid (∀ W, Kept wr W → W.cell? ⟨b1, o1 + j * 3, none⟩ = some (.string n) ∧ W.cell? ⟨b1, o1 + j * 3 + 1, none⟩ = some (.int .u8 p)) := Lib.hid (fun W hW => ⟨(HCW.out W (HK.out.then hW)).1, (HCW.out W (HK.out.then hW)).2.1⟩)
        have HC6 : Hid (∀ W, Kept wr W → W.cell? ⟨b1, o1 + j * 3, none⟩ = some (.string n) ∧ W.cell? ⟨b1, o1 + j * 3 + 1, none⟩ = some (.int .u8 p) ∧ W.cell? ⟨b1, o1 + j * 3 + 2, none⟩ = some (.int .u16 t)) := Lib.hid (fun W hW => HCW.out W (HK.out.then hW))
        have HC := Lib.hid (HCK.out wr (Mod.refl _ _))
        have CM := Lib.hid (fun w => rmay_any n hsz w)
        have CF := Lib.hid (fun w => rfold_any n hsz w)
        have HBAD : Hid (okZ ⟨n, p, t⟩ = false → newE l = 3) := Lib.hid (fun h => by rw [HE.out, ← HE2.out, HT.out.2]; exact errT_bad h)
        clear hsz
        cases hm : mayN (bys n) with
        | false =>
          have HB3 := Lib.hid (HBAD.out (okZ_no_may hm))
          rw [hm] at CM
          clear hm HBAD
          go_wp2_with fail
          refine wp_region_held_drew (S := (fun w' => w'.cell? ⟨b1, o1 + j * 3, none⟩ = some (.string n) ∧ w'.cell? ⟨b1, o1 + j * 3 + 1, none⟩ = some (.int .u8 p))) (by kernel_rfl) ?_ (fun hHeld => ?_)
          · (try dsimp only); first | exact HC.out | exact HC3.out | exact HC4.out
          refine regH_take 0 18 (v := ?_) rfl rfl (by kernel_rfl) (by kernel_rfl) (by kernel_rfl) (fun _ _ _ h => h) (by rfl) (by assumption) ?_ ?_
          rotate_left
          · (intro w hSw; (try dsimp only at hSw); go_simp); try (with_reducible rfl)
          try simp only [Act.put, List.setIfInBounds_toArray, List.set_cons_zero, List.set_cons_succ]
          refine regH_take 1 19 (v := ?_) rfl rfl (by kernel_rfl) (by kernel_rfl) (by kernel_rfl) (fun _ _ _ h => h) (by rfl) (by assumption) ?_ ?_
          rotate_left
          · (intro w hSw; (try dsimp only at hSw); go_simp); try (with_reducible rfl)
          try simp only [Act.put, List.setIfInBounds_toArray, List.set_cons_zero, List.set_cons_succ]
          refine regH_take 2 20 (v := ?_) rfl rfl (by kernel_rfl) (by kernel_rfl) (by kernel_rfl) (fun _ _ _ h => h) (by rfl) (by assumption) ?_ ?_
          rotate_left
          · (intro w hSw; (try dsimp only at hSw); go_simp); try (with_reducible rfl)
          try simp only [Act.put, List.setIfInBounds_toArray, List.set_cons_zero, List.set_cons_succ]
          refine regH_take 3 21 (v := ?_) rfl rfl (by kernel_rfl) (by kernel_rfl) (by kernel_rfl) (fun _ _ _ h => h) (by rfl) (by assumption) ?_ ?_
          rotate_left
          · (intro w hSw; (try dsimp only at hSw); go_simp); try (with_reducible rfl)
          try simp only [Act.put, List.setIfInBounds_toArray, List.set_cons_zero, List.set_cons_succ]
          refine regH_take 4 22 (v := ?_) rfl rfl (by kernel_rfl) (by kernel_rfl) (by kernel_rfl) (fun _ _ _ h => h) (by rfl) (by assumption) ?_ ?_
          rotate_left
          · (intro w hSw; (try dsimp only at hSw); go_simp); try (with_reducible rfl)
          try simp only [Act.put, List.setIfInBounds_toArray, List.set_cons_zero, List.set_cons_succ]
          refine wpAnyH_ready (rs := [5]) (by kernel_rfl) (by simp) ?_
          refine AllReadyH.cons rfl (fun K hK => ?_) AllReadyH.nil
          go_simp
          (refine (CM.out _).mono ?_; rintro e w3 ⟨rfl, m3⟩; have HM3 := Lib.hid (((Mod.refl (fun _ => False) wr).drew).then m3); have HC3 := Lib.hid (HCK.out _ HM3.out); clear m3)
          try (go_wp2_with fail)
          refine hK.out _ _ ?_ (fun hHeld => ?_)
          · (try dsimp only); first | exact HC.out | exact HC3.out | exact HC4.out
          clear hK K
          try simp only [Act.put, List.setIfInBounds_toArray, List.set_cons_zero, List.set_cons_succ]
          refine regH_take 6 24 (v := ?_) rfl rfl (by kernel_rfl) (by kernel_rfl) (by kernel_rfl) (fun _ _ _ h => h) (by rfl) (by assumption) ?_ ?_
          rotate_left
          · (intro w hSw; (try dsimp only at hSw); go_simp); try (with_reducible rfl)
          try simp only [Act.put, List.setIfInBounds_toArray, List.set_cons_zero, List.set_cons_succ]
          refine regH_take 7 25 (v := ?_) rfl rfl (by kernel_rfl) (by kernel_rfl) (by kernel_rfl) (fun _ _ _ h => h) (by rfl) (by assumption) ?_ ?_
          rotate_left
          · (intro w hSw; (try dsimp only at hSw); go_simp); try (with_reducible rfl)
          try simp only [Act.put, List.setIfInBounds_toArray, List.set_cons_zero, List.set_cons_succ]
          refine regH_skip 8 26 rfl rfl (by kernel_rfl) (by kernel_rfl) (by kernel_rfl) (fun _ _ _ h => h) (by rfl) (by assumption) ?_
          try simp only [Act.put, List.setIfInBounds_toArray, List.set_cons_zero, List.set_cons_succ]
          refine regH_skip 9 27 rfl rfl (by kernel_rfl) (by kernel_rfl) (by kernel_rfl) (fun _ _ _ h => h) (by rfl) (by assumption) ?_
          try simp only [Act.put, List.setIfInBounds_toArray, List.set_cons_zero, List.set_cons_succ]
          refine regH_skip 10 28 rfl rfl (by kernel_rfl) (by kernel_rfl) (by kernel_rfl) (fun _ _ _ h => h) (by rfl) (by assumption) ?_
          try simp only [Act.put, List.setIfInBounds_toArray, List.set_cons_zero, List.set_cons_succ]
          refine regH_skip 11 29 rfl rfl (by kernel_rfl) (by kernel_rfl) (by kernel_rfl) (fun _ _ _ h => h) (by rfl) (by assumption) ?_
          try simp only [Act.put, List.setIfInBounds_toArray, List.set_cons_zero, List.set_cons_succ]
          refine regH_skip 12 30 rfl rfl (by kernel_rfl) (by kernel_rfl) (by kernel_rfl) (fun _ _ _ h => h) (by rfl) (by assumption) ?_
          try simp only [Act.put, List.setIfInBounds_toArray, List.set_cons_zero, List.set_cons_succ]
          refine regH_skip 13 31 rfl rfl (by kernel_rfl) (by kernel_rfl) (by kernel_rfl) (fun _ _ _ h => h) (by rfl) (by assumption) ?_
          try simp only [Act.put, List.setIfInBounds_toArray, List.set_cons_zero, List.set_cons_succ]
          refine regH_skip 14 32 rfl rfl (by kernel_rfl) (by kernel_rfl) (by kernel_rfl) (fun _ _ _ h => h) (by rfl) (by assumption) ?_
          try simp only [Act.put, List.setIfInBounds_toArray, List.set_cons_zero, List.set_cons_succ]
          refine regH_skip 15 33 rfl rfl (by kernel_rfl) (by kernel_rfl) (by kernel_rfl) (fun _ _ _ h => h) (by rfl) (by assumption) ?_
          try simp only [Act.put, List.setIfInBounds_toArray, List.set_cons_zero, List.set_cons_succ]
          refine regH_skip 16 34 rfl rfl (by kernel_rfl) (by kernel_rfl) (by kernel_rfl) (fun _ _ _ h => h) (by rfl) (by assumption) ?_
          try simp only [Act.put, List.setIfInBounds_toArray, List.set_cons_zero, List.set_cons_succ]
          refine regH_skip 17 35 rfl rfl (by kernel_rfl) (by kernel_rfl) (by kernel_rfl) (fun _ _ _ h => h) (by rfl) (by assumption) ?_
          try simp only [Act.put, List.setIfInBounds_toArray, List.set_cons_zero, List.set_cons_succ]
          refine regH_skip 18 36 rfl rfl (by kernel_rfl) (by kernel_rfl) (by kernel_rfl) (fun _ _ _ h => h) (by rfl) (by assumption) ?_
          try simp only [Act.put, List.setIfInBounds_toArray, List.set_cons_zero, List.set_cons_succ]
          refine regH_skip 19 37 rfl rfl (by kernel_rfl) (by kernel_rfl) (by kernel_rfl) (fun _ _ _ h => h) (by rfl) (by assumption) ?_
          try simp only [Act.put, List.setIfInBounds_toArray, List.set_cons_zero, List.set_cons_succ]
          refine regH_take 20 38 (v := ?_) rfl rfl (by kernel_rfl) (by kernel_rfl) (by kernel_rfl) (fun _ _ _ h => h) (by rfl) (by assumption) ?_ ?_
          rotate_left
          · (intro w hSw; (try dsimp only at hSw); go_simp); try (with_reducible rfl)
          try simp only [Act.put, List.setIfInBounds_toArray, List.set_cons_zero, List.set_cons_succ]
          refine regH_take 21 39 (v := ?_) rfl rfl (by kernel_rfl) (by kernel_rfl) (by kernel_rfl) (fun _ _ _ h => h) (by rfl) (by assumption) ?_ ?_
          rotate_left
          · (intro w hSw; (try dsimp only at hSw); go_simp); try (with_reducible rfl)
          try simp only [Act.put, List.setIfInBounds_toArray, List.set_cons_zero, List.set_cons_succ]
          refine regH_skip 22 40 rfl rfl (by kernel_rfl) (by kernel_rfl) (by kernel_rfl) (fun _ _ _ h => h) (by rfl) (by assumption) ?_
          try simp only [Act.put, List.setIfInBounds_toArray, List.set_cons_zero, List.set_cons_succ]
          refine regH_skip 23 41 rfl rfl (by kernel_rfl) (by kernel_rfl) (by kernel_rfl) (fun _ _ _ h => h) (by rfl) (by assumption) ?_
          try simp only [Act.put, List.setIfInBounds_toArray, List.set_cons_zero, List.set_cons_succ]
          refine regH_skip 24 42 rfl rfl (by kernel_rfl) (by kernel_rfl) (by kernel_rfl) (fun _ _ _ h => h) (by rfl) (by assumption) ?_
          try simp only [Act.put, List.setIfInBounds_toArray, List.set_cons_zero, List.set_cons_succ]
          refine regH_skip 25 43 rfl rfl (by kernel_rfl) (by kernel_rfl) (by kernel_rfl) (fun _ _ _ h => h) (by rfl) (by assumption) ?_
          try simp only [Act.put, List.setIfInBounds_toArray, List.set_cons_zero, List.set_cons_succ]
          refine regH_skip 26 44 rfl rfl (by kernel_rfl) (by kernel_rfl) (by kernel_rfl) (fun _ _ _ h => h) (by rfl) (by assumption) ?_
          try simp only [Act.put, List.setIfInBounds_toArray, List.set_cons_zero, List.set_cons_succ]
          refine regH_skip 27 45 rfl rfl (by kernel_rfl) (by kernel_rfl) (by kernel_rfl) (fun _ _ _ h => h) (by rfl) (by assumption) ?_
          try simp only [Act.put, List.setIfInBounds_toArray, List.set_cons_zero, List.set_cons_succ]
          refine regH_take 28 46 (v := ?_) rfl rfl (by kernel_rfl) (by kernel_rfl) (by kernel_rfl) (fun _ _ _ h => h) (by rfl) (by assumption) ?_ ?_
          rotate_left
          · (intro w hSw; (try dsimp only at hSw); go_simp); try (with_reducible rfl)
          try simp only [Act.put, List.setIfInBounds_toArray, List.set_cons_zero, List.set_cons_succ]
          refine regH_take 29 47 (v := ?_) rfl rfl (by kernel_rfl) (by kernel_rfl) (by kernel_rfl) (fun _ _ _ h => h) (by rfl) (by assumption) ?_ ?_
          rotate_left
          · (intro w hSw; (try dsimp only at hSw); go_simp); try (with_reducible rfl)
          try simp only [Act.put, List.setIfInBounds_toArray, List.set_cons_zero, List.set_cons_succ]
          refine regH_skip 30 48 rfl rfl (by kernel_rfl) (by kernel_rfl) (by kernel_rfl) (fun _ _ _ h => h) (by rfl) (by assumption) ?_
          try simp only [Act.put, List.setIfInBounds_toArray, List.set_cons_zero, List.set_cons_succ]
          refine regH_skip 31 49 rfl rfl (by kernel_rfl) (by kernel_rfl) (by kernel_rfl) (fun _ _ _ h => h) (by rfl) (by assumption) ?_
          try simp only [Act.put, List.setIfInBounds_toArray, List.set_cons_zero, List.set_cons_succ]
          refine regH_skip 32 50 rfl rfl (by kernel_rfl) (by kernel_rfl) (by kernel_rfl) (fun _ _ _ h => h) (by rfl) (by assumption) ?_
          try simp only [Act.put, List.setIfInBounds_toArray, List.set_cons_zero, List.set_cons_succ]
          refine regH_skip 33 51 rfl rfl (by kernel_rfl) (by kernel_rfl) (by kernel_rfl) (fun _ _ _ h => h) (by rfl) (by assumption) ?_
          try simp only [Act.put, List.setIfInBounds_toArray, List.set_cons_zero, List.set_cons_succ]
          refine regH_skip 34 52 rfl rfl (by kernel_rfl) (by kernel_rfl) (by kernel_rfl) (fun _ _ _ h => h) (by rfl) (by assumption) ?_
          try simp only [Act.put, List.setIfInBounds_toArray, List.set_cons_zero, List.set_cons_succ]
          refine regH_skip 35 53 rfl rfl (by kernel_rfl) (by kernel_rfl) (by kernel_rfl) (fun _ _ _ h => h) (by rfl) (by assumption) ?_
          try simp only [Act.put, List.setIfInBounds_toArray, List.set_cons_zero, List.set_cons_succ]
          refine regH_take 36 54 (v := ?_) rfl rfl (by kernel_rfl) (by kernel_rfl) (by kernel_rfl) (fun _ _ _ h => h) (by rfl) (by assumption) ?_ ?_
          rotate_left
          · (intro w hSw; (try dsimp only at hSw); go_simp); try (with_reducible rfl)
          try simp only [Act.put, List.setIfInBounds_toArray, List.set_cons_zero, List.set_cons_succ]
          refine wpAnyH_done (by kernel_rfl) ?_ _
          go_wp2_with fail
          go_ret2
          exact ⟨HK.out.then HM3.out, .inl ⟨by rw [HB3.out]; decide, by rw [HB3.out]; rfl⟩⟩
        | true =>
          rw [hm] at CM
          have HM := Lib.hid hm
          clear hm
          by_cases hf : foldS n = n
          · rw [hf] at CF
            have HFO := Lib.hid hf
            clear hf
            by_cases hlo : p < 1
            · have HB3 := Lib.hid (HBAD.out (okZ_no_lo hlo))
              have d1 : decide (p < 1) = true := by simpa using hlo
              clear HBAD
              go_wp2_with fail
              refine wp_region_held_drew (S := (fun w' => w'.cell? ⟨b1, o1 + j * 3, none⟩ = some (.string n) ∧ w'.cell? ⟨b1, o1 + j * 3 + 1, none⟩ = some (.int .u8 p))) (by kernel_rfl) ?_ (fun hHeld => ?_)
              · (try dsimp only); first | exact HC.out | exact HC3.out | exact HC4.out
              refine regH_take 0 18 (v := ?_) rfl rfl (by kernel_rfl) (by kernel_rfl) (by kernel_rfl) (fun _ _ _ h => h) (by rfl) (by assumption) ?_ ?_
              rotate_left
              · (intro w hSw; (try dsimp only at hSw); go_simp); try (with_reducible rfl)
              try simp only [Act.put, List.setIfInBounds_toArray, List.set_cons_zero, List.set_cons_succ]
              refine regH_take 1 19 (v := ?_) rfl rfl (by kernel_rfl) (by kernel_rfl) (by kernel_rfl) (fun _ _ _ h => h) (by rfl) (by assumption) ?_ ?_
              rotate_left
              · (intro w hSw; (try dsimp only at hSw); go_simp); try (with_reducible rfl)
              try simp only [Act.put, List.setIfInBounds_toArray, List.set_cons_zero, List.set_cons_succ]
              refine regH_take 2 20 (v := ?_) rfl rfl (by kernel_rfl) (by kernel_rfl) (by kernel_rfl) (fun _ _ _ h => h) (by rfl) (by assumption) ?_ ?_
              rotate_left
              · (intro w hSw; (try dsimp only at hSw); go_simp); try (with_reducible rfl)
              try simp only [Act.put, List.setIfInBounds_toArray, List.set_cons_zero, List.set_cons_succ]
              refine regH_take 3 21 (v := ?_) rfl rfl (by kernel_rfl) (by kernel_rfl) (by kernel_rfl) (fun _ _ _ h => h) (by rfl) (by assumption) ?_ ?_
              rotate_left
              · (intro w hSw; (try dsimp only at hSw); go_simp); try (with_reducible rfl)
              try simp only [Act.put, List.setIfInBounds_toArray, List.set_cons_zero, List.set_cons_succ]
              refine regH_take 4 22 (v := ?_) rfl rfl (by kernel_rfl) (by kernel_rfl) (by kernel_rfl) (fun _ _ _ h => h) (by rfl) (by assumption) ?_ ?_
              rotate_left
              · (intro w hSw; (try dsimp only at hSw); go_simp); try (with_reducible rfl)
              try simp only [Act.put, List.setIfInBounds_toArray, List.set_cons_zero, List.set_cons_succ]
              refine wpAnyH_ready (rs := [5]) (by kernel_rfl) (by simp) ?_
              refine AllReadyH.cons rfl (fun K hK => ?_) AllReadyH.nil
              go_simp
              (refine (CM.out _).mono ?_; rintro e w3 ⟨rfl, m3⟩; have HM3 := Lib.hid (((Mod.refl (fun _ => False) wr).drew).then m3); have HC3 := Lib.hid (HCK.out _ HM3.out); clear m3)
              try (go_wp2_with fail)
              refine hK.out _ _ ?_ (fun hHeld => ?_)
              · (try dsimp only); first | exact HC.out | exact HC3.out | exact HC4.out
              clear hK K
              try simp only [Act.put, List.setIfInBounds_toArray, List.set_cons_zero, List.set_cons_succ]
              refine regH_take 6 24 (v := ?_) rfl rfl (by kernel_rfl) (by kernel_rfl) (by kernel_rfl) (fun _ _ _ h => h) (by rfl) (by assumption) ?_ ?_
              rotate_left
              · (intro w hSw; (try dsimp only at hSw); go_simp); try (with_reducible rfl)
              try simp only [Act.put, List.setIfInBounds_toArray, List.set_cons_zero, List.set_cons_succ]
              refine regH_take 7 25 (v := ?_) rfl rfl (by kernel_rfl) (by kernel_rfl) (by kernel_rfl) (fun _ _ _ h => h) (by rfl) (by assumption) ?_ ?_
              rotate_left
              · (intro w hSw; (try dsimp only at hSw); go_simp); try (with_reducible rfl)
              try simp only [Act.put, List.setIfInBounds_toArray, List.set_cons_zero, List.set_cons_succ]
              refine regH_take 8 26 (v := ?_) rfl rfl (by kernel_rfl) (by kernel_rfl) (by kernel_rfl) (fun _ _ _ h => h) (by rfl) (by assumption) ?_ ?_
              rotate_left
              · (intro w hSw; (try dsimp only at hSw); go_simp); try (with_reducible rfl)
              try simp only [Act.put, List.setIfInBounds_toArray, List.set_cons_zero, List.set_cons_succ]
              refine regH_take 9 27 (v := ?_) rfl rfl (by kernel_rfl) (by kernel_rfl) (by kernel_rfl) (fun _ _ _ h => h) (by rfl) (by assumption) ?_ ?_
              rotate_left
              · (intro w hSw; (try dsimp only at hSw); go_simp); try (with_reducible rfl)
              try simp only [Act.put, List.setIfInBounds_toArray, List.set_cons_zero, List.set_cons_succ]
              refine regH_take 10 28 (v := ?_) rfl rfl (by kernel_rfl) (by kernel_rfl) (by kernel_rfl) (fun _ _ _ h => h) (by rfl) (by assumption) ?_ ?_
              rotate_left
              · (intro w hSw; (try dsimp only at hSw); go_simp); try (with_reducible rfl)
              try simp only [Act.put, List.setIfInBounds_toArray, List.set_cons_zero, List.set_cons_succ]
              refine regH_take 11 29 (v := ?_) rfl rfl (by kernel_rfl) (by kernel_rfl) (by kernel_rfl) (fun _ _ _ h => h) (by rfl) (by assumption) ?_ ?_
              rotate_left
              · (intro w hSw; (try dsimp only at hSw); go_simp); try (with_reducible rfl)
              try simp only [Act.put, List.setIfInBounds_toArray, List.set_cons_zero, List.set_cons_succ]
              refine regH_take 12 30 (v := ?_) rfl rfl (by kernel_rfl) (by kernel_rfl) (by kernel_rfl) (fun _ _ _ h => h) (by rfl) (by assumption) ?_ ?_
              rotate_left
              · (intro w hSw; (try dsimp only at hSw); go_simp); try (with_reducible rfl)
              try simp only [Act.put, List.setIfInBounds_toArray, List.set_cons_zero, List.set_cons_succ]
              refine regH_take 14 32 (v := ?_) rfl rfl (by kernel_rfl) (by kernel_rfl) (by kernel_rfl) (fun _ _ _ h => h) (by rfl) (by assumption) ?_ ?_
              rotate_left
              · (intro w hSw; (try dsimp only at hSw); go_simp); try (with_reducible rfl)
              try simp only [Act.put, List.setIfInBounds_toArray, List.set_cons_zero, List.set_cons_succ]
              refine regH_take 15 33 (v := ?_) rfl rfl (by kernel_rfl) (by kernel_rfl) (by kernel_rfl) (fun _ _ _ h => h) (by rfl) (by assumption) ?_ ?_
              rotate_left
              · (intro w hSw; (try dsimp only at hSw); go_simp); try (with_reducible rfl)
              try simp only [Act.put, List.setIfInBounds_toArray, List.set_cons_zero, List.set_cons_succ]
              refine regH_take 16 34 (v := ?_) rfl rfl (by kernel_rfl) (by kernel_rfl) (by kernel_rfl) (fun _ _ _ h => h) (by rfl) (by assumption) ?_ ?_
              rotate_left
              · (intro w hSw; (try dsimp only at hSw); go_simp); try (with_reducible rfl)
              try simp only [Act.put, List.setIfInBounds_toArray, List.set_cons_zero, List.set_cons_succ]
              refine regH_take 17 35 (v := ?_) rfl rfl (by kernel_rfl) (by kernel_rfl) (by kernel_rfl) (fun _ _ _ h => h) (by rfl) (by assumption) ?_ ?_
              rotate_left
              · (intro w hSw; (try dsimp only at hSw); go_simp); try (with_reducible rfl)
              try simp only [Act.put, List.setIfInBounds_toArray, List.set_cons_zero, List.set_cons_succ]
              refine regH_take 18 36 (v := ?_) rfl rfl (by kernel_rfl) (by kernel_rfl) (by kernel_rfl) (fun _ _ _ h => h) (by rfl) (by assumption) ?_ ?_
              rotate_left
              · (intro w hSw; (try dsimp only at hSw); go_simp); try (with_reducible rfl)
              try simp only [Act.put, List.setIfInBounds_toArray, List.set_cons_zero, List.set_cons_succ]
              refine wpAnyH_ready (rs := [13]) (by kernel_rfl) (by simp) ?_
              refine AllReadyH.cons rfl (fun K hK => ?_) AllReadyH.nil
              go_simp
              (refine (CF.out _).mono ?_; rintro e w4 ⟨rfl, m4⟩; have HM4 := Lib.hid (HM3.out.then m4); have HC4 := Lib.hid (HCK.out _ HM4.out); clear m4)
              try (go_wp2_with fail)
              refine hK.out _ _ ?_ (fun hHeld => ?_)
              · (try dsimp only); first | exact HC.out | exact HC3.out | exact HC4.out
              clear hK K
              try simp only [Act.put, List.setIfInBounds_toArray, List.set_cons_zero, List.set_cons_succ]
              refine regH_take 19 37 (v := ?_) rfl rfl (by kernel_rfl) (by kernel_rfl) (by kernel_rfl) (fun _ _ _ h => h) (by rfl) (by assumption) ?_ ?_
              rotate_left
              · (intro w hSw; (try dsimp only at hSw); go_simp); try (with_reducible rfl)
              try simp only [Act.put, List.setIfInBounds_toArray, List.set_cons_zero, List.set_cons_succ]
              refine regH_take 20 38 (v := ?_) rfl rfl (by kernel_rfl) (by kernel_rfl) (by kernel_rfl) (fun _ _ _ h => h) (by rfl) (by assumption) ?_ ?_
              rotate_left
              · (intro w hSw; (try dsimp only at hSw); go_simp); try (with_reducible rfl)
              try simp only [Act.put, List.setIfInBounds_toArray, List.set_cons_zero, List.set_cons_succ]
              refine regH_take 21 39 (v := ?_) rfl rfl (by kernel_rfl) (by kernel_rfl) (by kernel_rfl) (fun _ _ _ h => h) (by rfl) (by assumption) ?_ ?_
              rotate_left
              · (intro w hSw; (try dsimp only at hSw); go_simp); try (with_reducible rfl)
              try simp only [Act.put, List.setIfInBounds_toArray, List.set_cons_zero, List.set_cons_succ]
              refine regH_take 22 40 (v := ?_) rfl rfl (by kernel_rfl) (by kernel_rfl) (by kernel_rfl) (fun _ _ _ h => h) (by rfl) (by assumption) ?_ ?_
              rotate_left
              · (intro w hSw; (try dsimp only at hSw); go_simp); try (with_reducible rfl)
              try simp only [Act.put, List.setIfInBounds_toArray, List.set_cons_zero, List.set_cons_succ]
              refine regH_take 23 41 (v := ?_) rfl rfl (by kernel_rfl) (by kernel_rfl) (by kernel_rfl) (fun _ _ _ h => h) (by rfl) (by assumption) ?_ ?_
              rotate_left
              · (intro w hSw; (try dsimp only at hSw); go_simp); try (with_reducible rfl)
              try simp only [Act.put, List.setIfInBounds_toArray, List.set_cons_zero, List.set_cons_succ]
              refine regH_take 24 42 (v := ?_) rfl rfl (by kernel_rfl) (by kernel_rfl) (by kernel_rfl) (fun _ _ _ h => h) (by rfl) (by assumption) ?_ ?_
              rotate_left
              · (intro w hSw; (try dsimp only at hSw); go_simp); try (with_reducible rfl)
              try simp only [Act.put, List.setIfInBounds_toArray, List.set_cons_zero, List.set_cons_succ]
              refine regH_take 25 43 (v := ?_) rfl rfl (by kernel_rfl) (by kernel_rfl) (by kernel_rfl) (fun _ _ _ h => h) (by rfl) (by assumption) ?_ ?_
              rotate_left
              · (intro w hSw; (try dsimp only at hSw); go_simp); try (with_reducible rfl)
              try simp only [Act.put, List.setIfInBounds_toArray, List.set_cons_zero, List.set_cons_succ]
              refine regH_take 26 44 (v := ?_) rfl rfl (by kernel_rfl) (by kernel_rfl) (by kernel_rfl) (fun _ _ _ h => h) (by rfl) (by assumption) ?_ ?_
              rotate_left
              · (intro w hSw; (try dsimp only at hSw); go_simp); try (with_reducible rfl)
              try simp only [Act.put, List.setIfInBounds_toArray, List.set_cons_zero, List.set_cons_succ]
              refine regH_take 27 45 (v := ?_) rfl rfl (by kernel_rfl) (by kernel_rfl) (by kernel_rfl) (fun _ _ _ h => h) (by rfl) (by assumption) ?_ ?_
              rotate_left
              · (intro w hSw; (try dsimp only at hSw); go_simp); try (with_reducible rfl)
              try simp only [Act.put, List.setIfInBounds_toArray, List.set_cons_zero, List.set_cons_succ]
              refine regH_take 28 46 (v := ?_) rfl rfl (by kernel_rfl) (by kernel_rfl) (by kernel_rfl) (fun _ _ _ h => h) (by rfl) (by assumption) ?_ ?_
              rotate_left
              · (intro w hSw; (try dsimp only at hSw); go_simp); try (with_reducible rfl)
              try simp only [Act.put, List.setIfInBounds_toArray, List.set_cons_zero, List.set_cons_succ]
              refine regH_take 29 47 (v := ?_) rfl rfl (by kernel_rfl) (by kernel_rfl) (by kernel_rfl) (fun _ _ _ h => h) (by rfl) (by assumption) ?_ ?_
              rotate_left
              · (intro w hSw; (try dsimp only at hSw); go_simp); try (with_reducible rfl)
              try simp only [Act.put, List.setIfInBounds_toArray, List.set_cons_zero, List.set_cons_succ]
              refine regH_skip 30 48 rfl rfl (by kernel_rfl) (by kernel_rfl) (by kernel_rfl) (fun _ _ _ h => h) (by rfl) (by assumption) ?_
              try simp only [Act.put, List.setIfInBounds_toArray, List.set_cons_zero, List.set_cons_succ]
              refine regH_skip 31 49 rfl rfl (by kernel_rfl) (by kernel_rfl) (by kernel_rfl) (fun _ _ _ h => h) (by rfl) (by assumption) ?_
              try simp only [Act.put, List.setIfInBounds_toArray, List.set_cons_zero, List.set_cons_succ]
              refine regH_skip 32 50 rfl rfl (by kernel_rfl) (by kernel_rfl) (by kernel_rfl) (fun _ _ _ h => h) (by rfl) (by assumption) ?_
              try simp only [Act.put, List.setIfInBounds_toArray, List.set_cons_zero, List.set_cons_succ]
              refine regH_skip 33 51 rfl rfl (by kernel_rfl) (by kernel_rfl) (by kernel_rfl) (fun _ _ _ h => h) (by rfl) (by assumption) ?_
              try simp only [Act.put, List.setIfInBounds_toArray, List.set_cons_zero, List.set_cons_succ]
              refine regH_skip 34 52 rfl rfl (by kernel_rfl) (by kernel_rfl) (by kernel_rfl) (fun _ _ _ h => h) (by rfl) (by assumption) ?_
              try simp only [Act.put, List.setIfInBounds_toArray, List.set_cons_zero, List.set_cons_succ]
              refine regH_skip 35 53 rfl rfl (by kernel_rfl) (by kernel_rfl) (by kernel_rfl) (fun _ _ _ h => h) (by rfl) (by assumption) ?_
              try simp only [Act.put, List.setIfInBounds_toArray, List.set_cons_zero, List.set_cons_succ]
              refine regH_take 36 54 (v := ?_) rfl rfl (by kernel_rfl) (by kernel_rfl) (by kernel_rfl) (fun _ _ _ h => h) (by rfl) (by assumption) ?_ ?_
              rotate_left
              · (intro w hSw; (try dsimp only at hSw); go_simp); try (with_reducible rfl)
              try simp only [Act.put, List.setIfInBounds_toArray, List.set_cons_zero, List.set_cons_succ]
              refine wpAnyH_done (by kernel_rfl) ?_ _
              go_wp2_with fail
              go_ret2
              exact ⟨HK.out.then HM4.out, .inl ⟨by rw [HB3.out]; decide, by rw [HB3.out]; rfl⟩⟩
            · by_cases hhi : 4 < p
              · have HB3 := Lib.hid (HBAD.out (okZ_no_hi hhi))
                have d1 : decide (p < 1) = false := by simp; omega
                have d2 : decide (4 < p) = true := by simpa using hhi
                clear HBAD
                go_wp2_with fail
                refine wp_region_held_drew (S := (fun w' => w'.cell? ⟨b1, o1 + j * 3, none⟩ = some (.string n) ∧ w'.cell? ⟨b1, o1 + j * 3 + 1, none⟩ = some (.int .u8 p))) (by kernel_rfl) ?_ (fun hHeld => ?_)
                · (try dsimp only); first | exact HC.out | exact HC3.out | exact HC4.out
                refine regH_take 0 18 (v := ?_) rfl rfl (by kernel_rfl) (by kernel_rfl) (by kernel_rfl) (fun _ _ _ h => h) (by rfl) (by assumption) ?_ ?_
                rotate_left
                · (intro w hSw; (try dsimp only at hSw); go_simp); try (with_reducible rfl)
                try simp only [Act.put, List.setIfInBounds_toArray, List.set_cons_zero, List.set_cons_succ]
                refine regH_take 1 19 (v := ?_) rfl rfl (by kernel_rfl) (by kernel_rfl) (by kernel_rfl) (fun _ _ _ h => h) (by rfl) (by assumption) ?_ ?_
                rotate_left
                · (intro w hSw; (try dsimp only at hSw); go_simp); try (with_reducible rfl)
                try simp only [Act.put, List.setIfInBounds_toArray, List.set_cons_zero, List.set_cons_succ]
                refine regH_take 2 20 (v := ?_) rfl rfl (by kernel_rfl) (by kernel_rfl) (by kernel_rfl) (fun _ _ _ h => h) (by rfl) (by assumption) ?_ ?_
                rotate_left
                · (intro w hSw; (try dsimp only at hSw); go_simp); try (with_reducible rfl)
                try simp only [Act.put, List.setIfInBounds_toArray, List.set_cons_zero, List.set_cons_succ]
                refine regH_take 3 21 (v := ?_) rfl rfl (by kernel_rfl) (by kernel_rfl) (by kernel_rfl) (fun _ _ _ h => h) (by rfl) (by assumption) ?_ ?_
                rotate_left
                · (intro w hSw; (try dsimp only at hSw); go_simp); try (with_reducible rfl)
                try simp only [Act.put, List.setIfInBounds_toArray, List.set_cons_zero, List.set_cons_succ]
                refine regH_take 4 22 (v := ?_) rfl rfl (by kernel_rfl) (by kernel_rfl) (by kernel_rfl) (fun _ _ _ h => h) (by rfl) (by assumption) ?_ ?_
                rotate_left
                · (intro w hSw; (try dsimp only at hSw); go_simp); try (with_reducible rfl)
                try simp only [Act.put, List.setIfInBounds_toArray, List.set_cons_zero, List.set_cons_succ]
                refine wpAnyH_ready (rs := [5]) (by kernel_rfl) (by simp) ?_
                refine AllReadyH.cons rfl (fun K hK => ?_) AllReadyH.nil
                go_simp
                (refine (CM.out _).mono ?_; rintro e w3 ⟨rfl, m3⟩; have HM3 := Lib.hid (((Mod.refl (fun _ => False) wr).drew).then m3); have HC3 := Lib.hid (HCK.out _ HM3.out); clear m3)
                try (go_wp2_with fail)
                refine hK.out _ _ ?_ (fun hHeld => ?_)
                · (try dsimp only); first | exact HC.out | exact HC3.out | exact HC4.out
                clear hK K
                try simp only [Act.put, List.setIfInBounds_toArray, List.set_cons_zero, List.set_cons_succ]
                refine regH_take 6 24 (v := ?_) rfl rfl (by kernel_rfl) (by kernel_rfl) (by kernel_rfl) (fun _ _ _ h => h) (by rfl) (by assumption) ?_ ?_
                rotate_left
                · (intro w hSw; (try dsimp only at hSw); go_simp); try (with_reducible rfl)
                try simp only [Act.put, List.setIfInBounds_toArray, List.set_cons_zero, List.set_cons_succ]
                refine regH_take 7 25 (v := ?_) rfl rfl (by kernel_rfl) (by kernel_rfl) (by kernel_rfl) (fun _ _ _ h => h) (by rfl) (by assumption) ?_ ?_
                rotate_left
                · (intro w hSw; (try dsimp only at hSw); go_simp); try (with_reducible rfl)
                try simp only [Act.put, List.setIfInBounds_toArray, List.set_cons_zero, List.set_cons_succ]
                refine regH_take 8 26 (v := ?_) rfl rfl (by kernel_rfl) (by kernel_rfl) (by kernel_rfl) (fun _ _ _ h => h) (by rfl) (by assumption) ?_ ?_
                rotate_left
                · (intro w hSw; (try dsimp only at hSw); go_simp); try (with_reducible rfl)
                try simp only [Act.put, List.setIfInBounds_toArray, List.set_cons_zero, List.set_cons_succ]
                refine regH_take 9 27 (v := ?_) rfl rfl (by kernel_rfl) (by kernel_rfl) (by kernel_rfl) (fun _ _ _ h => h) (by rfl) (by assumption) ?_ ?_
                rotate_left
                · (intro w hSw; (try dsimp only at hSw); go_simp); try (with_reducible rfl)
                try simp only [Act.put, List.setIfInBounds_toArray, List.set_cons_zero, List.set_cons_succ]
                refine regH_take 10 28 (v := ?_) rfl rfl (by kernel_rfl) (by kernel_rfl) (by kernel_rfl) (fun _ _ _ h => h) (by rfl) (by assumption) ?_ ?_
                rotate_left
                · (intro w hSw; (try dsimp only at hSw); go_simp); try (with_reducible rfl)
                try simp only [Act.put, List.setIfInBounds_toArray, List.set_cons_zero, List.set_cons_succ]
                refine regH_take 11 29 (v := ?_) rfl rfl (by kernel_rfl) (by kernel_rfl) (by kernel_rfl) (fun _ _ _ h => h) (by rfl) (by assumption) ?_ ?_
                rotate_left
                · (intro w hSw; (try dsimp only at hSw); go_simp); try (with_reducible rfl)
                try simp only [Act.put, List.setIfInBounds_toArray, List.set_cons_zero, List.set_cons_succ]
                refine regH_take 12 30 (v := ?_) rfl rfl (by kernel_rfl) (by kernel_rfl) (by kernel_rfl) (fun _ _ _ h => h) (by rfl) (by assumption) ?_ ?_
                rotate_left
                · (intro w hSw; (try dsimp only at hSw); go_simp); try (with_reducible rfl)
                try simp only [Act.put, List.setIfInBounds_toArray, List.set_cons_zero, List.set_cons_succ]
                refine regH_take 14 32 (v := ?_) rfl rfl (by kernel_rfl) (by kernel_rfl) (by kernel_rfl) (fun _ _ _ h => h) (by rfl) (by assumption) ?_ ?_
                rotate_left
                · (intro w hSw; (try dsimp only at hSw); go_simp); try (with_reducible rfl)
                try simp only [Act.put, List.setIfInBounds_toArray, List.set_cons_zero, List.set_cons_succ]
                refine regH_take 15 33 (v := ?_) rfl rfl (by kernel_rfl) (by kernel_rfl) (by kernel_rfl) (fun _ _ _ h => h) (by rfl) (by assumption) ?_ ?_
                rotate_left
                · (intro w hSw; (try dsimp only at hSw); go_simp); try (with_reducible rfl)
                try simp only [Act.put, List.setIfInBounds_toArray, List.set_cons_zero, List.set_cons_succ]
                refine regH_take 16 34 (v := ?_) rfl rfl (by kernel_rfl) (by kernel_rfl) (by kernel_rfl) (fun _ _ _ h => h) (by rfl) (by assumption) ?_ ?_
                rotate_left
                · (intro w hSw; (try dsimp only at hSw); go_simp); try (with_reducible rfl)
                try simp only [Act.put, List.setIfInBounds_toArray, List.set_cons_zero, List.set_cons_succ]
                refine regH_take 17 35 (v := ?_) rfl rfl (by kernel_rfl) (by kernel_rfl) (by kernel_rfl) (fun _ _ _ h => h) (by rfl) (by assumption) ?_ ?_
                rotate_left
                · (intro w hSw; (try dsimp only at hSw); go_simp); try (with_reducible rfl)
                try simp only [Act.put, List.setIfInBounds_toArray, List.set_cons_zero, List.set_cons_succ]
                refine regH_take 18 36 (v := ?_) rfl rfl (by kernel_rfl) (by kernel_rfl) (by kernel_rfl) (fun _ _ _ h => h) (by rfl) (by assumption) ?_ ?_
                rotate_left
                · (intro w hSw; (try dsimp only at hSw); go_simp); try (with_reducible rfl)
                try simp only [Act.put, List.setIfInBounds_toArray, List.set_cons_zero, List.set_cons_succ]
                refine wpAnyH_ready (rs := [13]) (by kernel_rfl) (by simp) ?_
                refine AllReadyH.cons rfl (fun K hK => ?_) AllReadyH.nil
                go_simp
                (refine (CF.out _).mono ?_; rintro e w4 ⟨rfl, m4⟩; have HM4 := Lib.hid (HM3.out.then m4); have HC4 := Lib.hid (HCK.out _ HM4.out); clear m4)
                try (go_wp2_with fail)
                refine hK.out _ _ ?_ (fun hHeld => ?_)
                · (try dsimp only); first | exact HC.out | exact HC3.out | exact HC4.out
                clear hK K
                try simp only [Act.put, List.setIfInBounds_toArray, List.set_cons_zero, List.set_cons_succ]
                refine regH_take 19 37 (v := ?_) rfl rfl (by kernel_rfl) (by kernel_rfl) (by kernel_rfl) (fun _ _ _ h => h) (by rfl) (by assumption) ?_ ?_
                rotate_left
                · (intro w hSw; (try dsimp only at hSw); go_simp); try (with_reducible rfl)
                try simp only [Act.put, List.setIfInBounds_toArray, List.set_cons_zero, List.set_cons_succ]
                refine regH_take 20 38 (v := ?_) rfl rfl (by kernel_rfl) (by kernel_rfl) (by kernel_rfl) (fun _ _ _ h => h) (by rfl) (by assumption) ?_ ?_
                rotate_left
                · (intro w hSw; (try dsimp only at hSw); go_simp); try (with_reducible rfl)
                try simp only [Act.put, List.setIfInBounds_toArray, List.set_cons_zero, List.set_cons_succ]
                refine regH_take 21 39 (v := ?_) rfl rfl (by kernel_rfl) (by kernel_rfl) (by kernel_rfl) (fun _ _ _ h => h) (by rfl) (by assumption) ?_ ?_
                rotate_left
                · (intro w hSw; (try dsimp only at hSw); go_simp); try (with_reducible rfl)
                try simp only [Act.put, List.setIfInBounds_toArray, List.set_cons_zero, List.set_cons_succ]
                refine regH_take 22 40 (v := ?_) rfl rfl (by kernel_rfl) (by kernel_rfl) (by kernel_rfl) (fun _ _ _ h => h) (by rfl) (by assumption) ?_ ?_
                rotate_left
                · (intro w hSw; (try dsimp only at hSw); go_simp); try (with_reducible rfl)
                try simp only [Act.put, List.setIfInBounds_toArray, List.set_cons_zero, List.set_cons_succ]
                refine regH_take 23 41 (v := ?_) rfl rfl (by kernel_rfl) (by kernel_rfl) (by kernel_rfl) (fun _ _ _ h => h) (by rfl) (by assumption) ?_ ?_
                rotate_left
                · (intro w hSw; (try dsimp only at hSw); go_simp); try (with_reducible rfl)
                try simp only [Act.put, List.setIfInBounds_toArray, List.set_cons_zero, List.set_cons_succ]
                refine regH_take 24 42 (v := ?_) rfl rfl (by kernel_rfl) (by kernel_rfl) (by kernel_rfl) (fun _ _ _ h => h) (by rfl) (by assumption) ?_ ?_
                rotate_left
                · (intro w hSw; (try dsimp only at hSw); go_simp); try (with_reducible rfl)
                try simp only [Act.put, List.setIfInBounds_toArray, List.set_cons_zero, List.set_cons_succ]
                refine regH_take 25 43 (v := ?_) rfl rfl (by kernel_rfl) (by kernel_rfl) (by kernel_rfl) (fun _ _ _ h => h) (by rfl) (by assumption) ?_ ?_
                rotate_left
                · (intro w hSw; (try dsimp only at hSw); go_simp); try (with_reducible rfl)
                try simp only [Act.put, List.setIfInBounds_toArray, List.set_cons_zero, List.set_cons_succ]
                refine regH_take 26 44 (v := ?_) rfl rfl (by kernel_rfl) (by kernel_rfl) (by kernel_rfl) (fun _ _ _ h => h) (by rfl) (by assumption) ?_ ?_
                rotate_left
                · (intro w hSw; (try dsimp only at hSw); go_simp); try (with_reducible rfl)
                try simp only [Act.put, List.setIfInBounds_toArray, List.set_cons_zero, List.set_cons_succ]
                refine regH_take 27 45 (v := ?_) rfl rfl (by kernel_rfl) (by kernel_rfl) (by kernel_rfl) (fun _ _ _ h => h) (by rfl) (by assumption) ?_ ?_
                rotate_left
                · (intro w hSw; (try dsimp only at hSw); go_simp); try (with_reducible rfl)
                try simp only [Act.put, List.setIfInBounds_toArray, List.set_cons_zero, List.set_cons_succ]
                refine regH_take 28 46 (v := ?_) rfl rfl (by kernel_rfl) (by kernel_rfl) (by kernel_rfl) (fun _ _ _ h => h) (by rfl) (by assumption) ?_ ?_
                rotate_left
                · (intro w hSw; (try dsimp only at hSw); go_simp); try (with_reducible rfl)
                try simp only [Act.put, List.setIfInBounds_toArray, List.set_cons_zero, List.set_cons_succ]
                refine regH_take 29 47 (v := ?_) rfl rfl (by kernel_rfl) (by kernel_rfl) (by kernel_rfl) (fun _ _ _ h => h) (by rfl) (by assumption) ?_ ?_
                rotate_left
                · (intro w hSw; (try dsimp only at hSw); go_simp); try (with_reducible rfl)
                try simp only [Act.put, List.setIfInBounds_toArray, List.set_cons_zero, List.set_cons_succ]
                refine regH_take 30 48 (v := ?_) rfl rfl (by kernel_rfl) (by kernel_rfl) (by kernel_rfl) (fun _ _ _ h => h) (by rfl) (by assumption) ?_ ?_
                rotate_left
                · (intro w hSw; (try dsimp only at hSw); go_simp); try (with_reducible rfl)
                try simp only [Act.put, List.setIfInBounds_toArray, List.set_cons_zero, List.set_cons_succ]
                refine regH_take 31 49 (v := ?_) rfl rfl (by kernel_rfl) (by kernel_rfl) (by kernel_rfl) (fun _ _ _ h => h) (by rfl) (by assumption) ?_ ?_
                rotate_left
                · (intro w hSw; (try dsimp only at hSw); go_simp); try (with_reducible rfl)
                try simp only [Act.put, List.setIfInBounds_toArray, List.set_cons_zero, List.set_cons_succ]
                refine regH_take 32 50 (v := ?_) rfl rfl (by kernel_rfl) (by kernel_rfl) (by kernel_rfl) (fun _ _ _ h => h) (by rfl) (by assumption) ?_ ?_
                rotate_left
                · (intro w hSw; (try dsimp only at hSw); go_simp); try (with_reducible rfl)
                try simp only [Act.put, List.setIfInBounds_toArray, List.set_cons_zero, List.set_cons_succ]
                refine regH_take 33 51 (v := ?_) rfl rfl (by kernel_rfl) (by kernel_rfl) (by kernel_rfl) (fun _ _ _ h => h) (by rfl) (by assumption) ?_ ?_
                rotate_left
                · (intro w hSw; (try dsimp only at hSw); go_simp); try (with_reducible rfl)
                try simp only [Act.put, List.setIfInBounds_toArray, List.set_cons_zero, List.set_cons_succ]
                refine regH_take 34 52 (v := ?_) rfl rfl (by kernel_rfl) (by kernel_rfl) (by kernel_rfl) (fun _ _ _ h => h) (by rfl) (by assumption) ?_ ?_
                rotate_left
                · (intro w hSw; (try dsimp only at hSw); go_simp); try (with_reducible rfl)
                try simp only [Act.put, List.setIfInBounds_toArray, List.set_cons_zero, List.set_cons_succ]
                refine regH_take 35 53 (v := ?_) rfl rfl (by kernel_rfl) (by kernel_rfl) (by kernel_rfl) (fun _ _ _ h => h) (by rfl) (by assumption) ?_ ?_
                rotate_left
                · (intro w hSw; (try dsimp only at hSw); go_simp); try (with_reducible rfl)
                try simp only [Act.put, List.setIfInBounds_toArray, List.set_cons_zero, List.set_cons_succ]
                refine regH_take 36 54 (v := ?_) rfl rfl (by kernel_rfl) (by kernel_rfl) (by kernel_rfl) (fun _ _ _ h => h) (by rfl) (by assumption) ?_ ?_
                rotate_left
                · (intro w hSw; (try dsimp only at hSw); go_simp); try (with_reducible rfl)
                try simp only [Act.put, List.setIfInBounds_toArray, List.set_cons_zero, List.set_cons_succ]
                refine wpAnyH_done (by kernel_rfl) ?_ _
                go_wp2_with fail
                go_ret2
                exact ⟨HK.out.then HM4.out, .inl ⟨by rw [HB3.out]; decide, by rw [HB3.out]; rfl⟩⟩
              · have d1 : decide (p < 1) = false := by simp; omega
                have d2 : decide (4 < p) = false := by simp; omega
                have HOK : Hid (okZ ⟨n, p, t⟩ = true) := Lib.hid (by unfold okZ; simp [HM.out, HFO.out]; omega)
                clear HBAD hlo hhi
                go_wp2_with fail
                refine wp_region_held_drew (S := (fun w' => w'.cell? ⟨b1, o1 + j * 3, none⟩ = some (.string n) ∧ w'.cell? ⟨b1, o1 + j * 3 + 1, none⟩ = some (.int .u8 p))) (by kernel_rfl) ?_ (fun hHeld => ?_)
                · (try dsimp only); first | exact HC.out | exact HC3.out | exact HC4.out
                refine regH_take 0 18 (v := ?_) rfl rfl (by kernel_rfl) (by kernel_rfl) (by kernel_rfl) (fun _ _ _ h => h) (by rfl) (by assumption) ?_ ?_
                rotate_left
                · (intro w hSw; (try dsimp only at hSw); go_simp); try (with_reducible rfl)
                try simp only [Act.put, List.setIfInBounds_toArray, List.set_cons_zero, List.set_cons_succ]
                refine regH_take 1 19 (v := ?_) rfl rfl (by kernel_rfl) (by kernel_rfl) (by kernel_rfl) (fun _ _ _ h => h) (by rfl) (by assumption) ?_ ?_
                rotate_left
                · (intro w hSw; (try dsimp only at hSw); go_simp); try (with_reducible rfl)
                try simp only [Act.put, List.setIfInBounds_toArray, List.set_cons_zero, List.set_cons_succ]
                refine regH_take 2 20 (v := ?_) rfl rfl (by kernel_rfl) (by kernel_rfl) (by kernel_rfl) (fun _ _ _ h => h) (by rfl) (by assumption) ?_ ?_
                rotate_left
                · (intro w hSw; (try dsimp only at hSw); go_simp); try (with_reducible rfl)
                try simp only [Act.put, List.setIfInBounds_toArray, List.set_cons_zero, List.set_cons_succ]
                refine regH_take 3 21 (v := ?_) rfl rfl (by kernel_rfl) (by kernel_rfl) (by kernel_rfl) (fun _ _ _ h => h) (by rfl) (by assumption) ?_ ?_
                rotate_left
                · (intro w hSw; (try dsimp only at hSw); go_simp); try (with_reducible rfl)
                try simp only [Act.put, List.setIfInBounds_toArray, List.set_cons_zero, List.set_cons_succ]
                refine regH_take 4 22 (v := ?_) rfl rfl (by kernel_rfl) (by kernel_rfl) (by kernel_rfl) (fun _ _ _ h => h) (by rfl) (by assumption) ?_ ?_
                rotate_left
                · (intro w hSw; (try dsimp only at hSw); go_simp); try (with_reducible rfl)
                try simp only [Act.put, List.setIfInBounds_toArray, List.set_cons_zero, List.set_cons_succ]
                refine wpAnyH_ready (rs := [5]) (by kernel_rfl) (by simp) ?_
                refine AllReadyH.cons rfl (fun K hK => ?_) AllReadyH.nil
                go_simp
                (refine (CM.out _).mono ?_; rintro e w3 ⟨rfl, m3⟩; have HM3 := Lib.hid (((Mod.refl (fun _ => False) wr).drew).then m3); have HC3 := Lib.hid (HCK.out _ HM3.out); clear m3)
                try (go_wp2_with fail)
                refine hK.out _ _ ?_ (fun hHeld => ?_)
                · (try dsimp only); first | exact HC.out | exact HC3.out | exact HC4.out
                clear hK K
                try simp only [Act.put, List.setIfInBounds_toArray, List.set_cons_zero, List.set_cons_succ]
                refine regH_take 6 24 (v := ?_) rfl rfl (by kernel_rfl) (by kernel_rfl) (by kernel_rfl) (fun _ _ _ h => h) (by rfl) (by assumption) ?_ ?_
                rotate_left
                · (intro w hSw; (try dsimp only at hSw); go_simp); try (with_reducible rfl)
                try simp only [Act.put, List.setIfInBounds_toArray, List.set_cons_zero, List.set_cons_succ]
                refine regH_take 7 25 (v := ?_) rfl rfl (by kernel_rfl) (by kernel_rfl) (by kernel_rfl) (fun _ _ _ h => h) (by rfl) (by assumption) ?_ ?_
                rotate_left
                · (intro w hSw; (try dsimp only at hSw); go_simp); try (with_reducible rfl)
                try simp only [Act.put, List.setIfInBounds_toArray, List.set_cons_zero, List.set_cons_succ]
                refine regH_take 8 26 (v := ?_) rfl rfl (by kernel_rfl) (by kernel_rfl) (by kernel_rfl) (fun _ _ _ h => h) (by rfl) (by assumption) ?_ ?_
                rotate_left
                · (intro w hSw; (try dsimp only at hSw); go_simp); try (with_reducible rfl)
                try simp only [Act.put, List.setIfInBounds_toArray, List.set_cons_zero, List.set_cons_succ]
                refine regH_take 9 27 (v := ?_) rfl rfl (by kernel_rfl) (by kernel_rfl) (by kernel_rfl) (fun _ _ _ h => h) (by rfl) (by assumption) ?_ ?_
                rotate_left
                · (intro w hSw; (try dsimp only at hSw); go_simp); try (with_reducible rfl)
                try simp only [Act.put, List.setIfInBounds_toArray, List.set_cons_zero, List.set_cons_succ]
                refine regH_take 10 28 (v := ?_) rfl rfl (by kernel_rfl) (by kernel_rfl) (by kernel_rfl) (fun _ _ _ h => h) (by rfl) (by assumption) ?_ ?_
                rotate_left
                · (intro w hSw; (try dsimp only at hSw); go_simp); try (with_reducible rfl)
                try simp only [Act.put, List.setIfInBounds_toArray, List.set_cons_zero, List.set_cons_succ]
                refine regH_take 11 29 (v := ?_) rfl rfl (by kernel_rfl) (by kernel_rfl) (by kernel_rfl) (fun _ _ _ h => h) (by rfl) (by assumption) ?_ ?_
                rotate_left
                · (intro w hSw; (try dsimp only at hSw); go_simp); try (with_reducible rfl)
                try simp only [Act.put, List.setIfInBounds_toArray, List.set_cons_zero, List.set_cons_succ]
                refine regH_take 12 30 (v := ?_) rfl rfl (by kernel_rfl) (by kernel_rfl) (by kernel_rfl) (fun _ _ _ h => h) (by rfl) (by assumption) ?_ ?_
                rotate_left
                · (intro w hSw; (try dsimp only at hSw); go_simp); try (with_reducible rfl)
                try simp only [Act.put, List.setIfInBounds_toArray, List.set_cons_zero, List.set_cons_succ]
                refine regH_take 14 32 (v := ?_) rfl rfl (by kernel_rfl) (by kernel_rfl) (by kernel_rfl) (fun _ _ _ h => h) (by rfl) (by assumption) ?_ ?_
                rotate_left
                · (intro w hSw; (try dsimp only at hSw); go_simp); try (with_reducible rfl)
                try simp only [Act.put, List.setIfInBounds_toArray, List.set_cons_zero, List.set_cons_succ]
                refine regH_take 15 33 (v := ?_) rfl rfl (by kernel_rfl) (by kernel_rfl) (by kernel_rfl) (fun _ _ _ h => h) (by rfl) (by assumption) ?_ ?_
                rotate_left
                · (intro w hSw; (try dsimp only at hSw); go_simp); try (with_reducible rfl)
                try simp only [Act.put, List.setIfInBounds_toArray, List.set_cons_zero, List.set_cons_succ]
                refine regH_take 16 34 (v := ?_) rfl rfl (by kernel_rfl) (by kernel_rfl) (by kernel_rfl) (fun _ _ _ h => h) (by rfl) (by assumption) ?_ ?_
                rotate_left
                · (intro w hSw; (try dsimp only at hSw); go_simp); try (with_reducible rfl)
                try simp only [Act.put, List.setIfInBounds_toArray, List.set_cons_zero, List.set_cons_succ]
                refine regH_take 17 35 (v := ?_) rfl rfl (by kernel_rfl) (by kernel_rfl) (by kernel_rfl) (fun _ _ _ h => h) (by rfl) (by assumption) ?_ ?_
                rotate_left
                · (intro w hSw; (try dsimp only at hSw); go_simp); try (with_reducible rfl)
                try simp only [Act.put, List.setIfInBounds_toArray, List.set_cons_zero, List.set_cons_succ]
                refine regH_take 18 36 (v := ?_) rfl rfl (by kernel_rfl) (by kernel_rfl) (by kernel_rfl) (fun _ _ _ h => h) (by rfl) (by assumption) ?_ ?_
                rotate_left
                · (intro w hSw; (try dsimp only at hSw); go_simp); try (with_reducible rfl)
                try simp only [Act.put, List.setIfInBounds_toArray, List.set_cons_zero, List.set_cons_succ]
                refine wpAnyH_ready (rs := [13]) (by kernel_rfl) (by simp) ?_
                refine AllReadyH.cons rfl (fun K hK => ?_) AllReadyH.nil
                go_simp
                (refine (CF.out _).mono ?_; rintro e w4 ⟨rfl, m4⟩; have HM4 := Lib.hid (HM3.out.then m4); have HC4 := Lib.hid (HCK.out _ HM4.out); clear m4)
                try (go_wp2_with fail)
                refine hK.out _ _ ?_ (fun hHeld => ?_)
                · (try dsimp only); first | exact HC.out | exact HC3.out | exact HC4.out
                clear hK K
                try simp only [Act.put, List.setIfInBounds_toArray, List.set_cons_zero, List.set_cons_succ]
                refine regH_take 19 37 (v := ?_) rfl rfl (by kernel_rfl) (by kernel_rfl) (by kernel_rfl) (fun _ _ _ h => h) (by rfl) (by assumption) ?_ ?_
                rotate_left
                · (intro w hSw; (try dsimp only at hSw); go_simp); try (with_reducible rfl)
                try simp only [Act.put, List.setIfInBounds_toArray, List.set_cons_zero, List.set_cons_succ]
                refine regH_take 20 38 (v := ?_) rfl rfl (by kernel_rfl) (by kernel_rfl) (by kernel_rfl) (fun _ _ _ h => h) (by rfl) (by assumption) ?_ ?_
                rotate_left
                · (intro w hSw; (try dsimp only at hSw); go_simp); try (with_reducible rfl)
                try simp only [Act.put, List.setIfInBounds_toArray, List.set_cons_zero, List.set_cons_succ]
                refine regH_take 21 39 (v := ?_) rfl rfl (by kernel_rfl) (by kernel_rfl) (by kernel_rfl) (fun _ _ _ h => h) (by rfl) (by assumption) ?_ ?_
                rotate_left
                · (intro w hSw; (try dsimp only at hSw); go_simp); try (with_reducible rfl)
                try simp only [Act.put, List.setIfInBounds_toArray, List.set_cons_zero, List.set_cons_succ]
                refine regH_take 22 40 (v := ?_) rfl rfl (by kernel_rfl) (by kernel_rfl) (by kernel_rfl) (fun _ _ _ h => h) (by rfl) (by assumption) ?_ ?_
                rotate_left
                · (intro w hSw; (try dsimp only at hSw); go_simp); try (with_reducible rfl)
                try simp only [Act.put, List.setIfInBounds_toArray, List.set_cons_zero, List.set_cons_succ]
                refine regH_take 23 41 (v := ?_) rfl rfl (by kernel_rfl) (by kernel_rfl) (by kernel_rfl) (fun _ _ _ h => h) (by rfl) (by assumption) ?_ ?_
                rotate_left
                · (intro w hSw; (try dsimp only at hSw); go_simp); try (with_reducible rfl)
                try simp only [Act.put, List.setIfInBounds_toArray, List.set_cons_zero, List.set_cons_succ]
                refine regH_take 24 42 (v := ?_) rfl rfl (by kernel_rfl) (by kernel_rfl) (by kernel_rfl) (fun _ _ _ h => h) (by rfl) (by assumption) ?_ ?_
                rotate_left
                · (intro w hSw; (try dsimp only at hSw); go_simp); try (with_reducible rfl)
                try simp only [Act.put, List.setIfInBounds_toArray, List.set_cons_zero, List.set_cons_succ]
                refine regH_take 25 43 (v := ?_) rfl rfl (by kernel_rfl) (by kernel_rfl) (by kernel_rfl) (fun _ _ _ h => h) (by rfl) (by assumption) ?_ ?_
                rotate_left
                · (intro w hSw; (try dsimp only at hSw); go_simp); try (with_reducible rfl)
                try simp only [Act.put, List.setIfInBounds_toArray, List.set_cons_zero, List.set_cons_succ]
                refine regH_take 26 44 (v := ?_) rfl rfl (by kernel_rfl) (by kernel_rfl) (by kernel_rfl) (fun _ _ _ h => h) (by rfl) (by assumption) ?_ ?_
                rotate_left
                · (intro w hSw; (try dsimp only at hSw); go_simp); try (with_reducible rfl)
                try simp only [Act.put, List.setIfInBounds_toArray, List.set_cons_zero, List.set_cons_succ]
                refine regH_take 27 45 (v := ?_) rfl rfl (by kernel_rfl) (by kernel_rfl) (by kernel_rfl) (fun _ _ _ h => h) (by rfl) (by assumption) ?_ ?_
                rotate_left
                · (intro w hSw; (try dsimp only at hSw); go_simp); try (with_reducible rfl)
                try simp only [Act.put, List.setIfInBounds_toArray, List.set_cons_zero, List.set_cons_succ]
                refine regH_take 28 46 (v := ?_) rfl rfl (by kernel_rfl) (by kernel_rfl) (by kernel_rfl) (fun _ _ _ h => h) (by rfl) (by assumption) ?_ ?_
                rotate_left
                · (intro w hSw; (try dsimp only at hSw); go_simp); try (with_reducible rfl)
                try simp only [Act.put, List.setIfInBounds_toArray, List.set_cons_zero, List.set_cons_succ]
                refine regH_take 29 47 (v := ?_) rfl rfl (by kernel_rfl) (by kernel_rfl) (by kernel_rfl) (fun _ _ _ h => h) (by rfl) (by assumption) ?_ ?_
                rotate_left
                · (intro w hSw; (try dsimp only at hSw); go_simp); try (with_reducible rfl)
                try simp only [Act.put, List.setIfInBounds_toArray, List.set_cons_zero, List.set_cons_succ]
                refine regH_take 30 48 (v := ?_) rfl rfl (by kernel_rfl) (by kernel_rfl) (by kernel_rfl) (fun _ _ _ h => h) (by rfl) (by assumption) ?_ ?_
                rotate_left
                · (intro w hSw; (try dsimp only at hSw); go_simp); try (with_reducible rfl)
                try simp only [Act.put, List.setIfInBounds_toArray, List.set_cons_zero, List.set_cons_succ]
                refine regH_take 31 49 (v := ?_) rfl rfl (by kernel_rfl) (by kernel_rfl) (by kernel_rfl) (fun _ _ _ h => h) (by rfl) (by assumption) ?_ ?_
                rotate_left
                · (intro w hSw; (try dsimp only at hSw); go_simp); try (with_reducible rfl)
                try simp only [Act.put, List.setIfInBounds_toArray, List.set_cons_zero, List.set_cons_succ]
                refine regH_take 32 50 (v := ?_) rfl rfl (by kernel_rfl) (by kernel_rfl) (by kernel_rfl) (fun _ _ _ h => h) (by rfl) (by assumption) ?_ ?_
                rotate_left
                · (intro w hSw; (try dsimp only at hSw); go_simp); try (with_reducible rfl)
                try simp only [Act.put, List.setIfInBounds_toArray, List.set_cons_zero, List.set_cons_succ]
                refine regH_take 33 51 (v := ?_) rfl rfl (by kernel_rfl) (by kernel_rfl) (by kernel_rfl) (fun _ _ _ h => h) (by rfl) (by assumption) ?_ ?_
                rotate_left
                · (intro w hSw; (try dsimp only at hSw); go_simp); try (with_reducible rfl)
                try simp only [Act.put, List.setIfInBounds_toArray, List.set_cons_zero, List.set_cons_succ]
                refine regH_take 34 52 (v := ?_) rfl rfl (by kernel_rfl) (by kernel_rfl) (by kernel_rfl) (fun _ _ _ h => h) (by rfl) (by assumption) ?_ ?_
                rotate_left
                · (intro w hSw; (try dsimp only at hSw); go_simp); try (with_reducible rfl)
                try simp only [Act.put, List.setIfInBounds_toArray, List.set_cons_zero, List.set_cons_succ]
                refine regH_take 35 53 (v := ?_) rfl rfl (by kernel_rfl) (by kernel_rfl) (by kernel_rfl) (fun _ _ _ h => h) (by rfl) (by assumption) ?_ ?_
                rotate_left
                · (intro w hSw; (try dsimp only at hSw); go_simp); try (with_reducible rfl)
                try simp only [Act.put, List.setIfInBounds_toArray, List.set_cons_zero, List.set_cons_succ]
                refine regH_take 36 54 (v := ?_) rfl rfl (by kernel_rfl) (by kernel_rfl) (by kernel_rfl) (fun _ _ _ h => h) (by rfl) (by assumption) ?_ ?_
                rotate_left
                · (intro w hSw; (try dsimp only at hSw); go_simp); try (with_reducible rfl)
                try simp only [Act.put, List.setIfInBounds_toArray, List.set_cons_zero, List.set_cons_succ]
                refine wpAnyH_done (by kernel_rfl) ?_ _
                refine at_world (P := Exit.then _ _ _ _) (fun W => W.ownsRow w.heap.size 35 3 (.slice Ad j cd) j (zC (l.take j)) ∧ Blk W w.heap.size 57 #[.slice Ad j cd] ∧ Kept w W) ⟨own_kept HO.out HM4.out, HX.out.mod HM4.out (fun e => e), HK.out.then HM4.out⟩ ?_
                clear d1 d2 CM CF HC3 HC4 HC HCK HM3 HM4 HC6 HO HX HK HXL
                rintro wr ⟨ho, hx, hk⟩
                have HO := Lib.hid ho
                have HX := Lib.hid hx
                have HXL := Lib.hid hx.lt
                have HK := Lib.hid hk
                have HC6 : Hid (∀ W, Kept wr W → W.cell? ⟨b1, o1 + j * 3, none⟩ = some (.string n) ∧ W.cell? ⟨b1, o1 + j * 3 + 1, none⟩ = some (.int .u8 p) ∧ W.cell? ⟨b1, o1 + j * 3 + 2, none⟩ = some (.int .u16 t)) := Lib.hid (fun W hW => HCW.out W (HK.out.then hW))
                clear ho hx hk
                go_wp2_with fail
                go_loopg [6] j (fun k i wq => RHasRel l n j Ad cd w k i wq)
                case atStart => exact ⟨0, rfl, by omega, fun _ _ h => absurd h (Nat.not_lt_zero _), HO.out, HX.out, HK.out⟩
                case round =>
                  clear HO HX HXL HK HC6
                  obtain ⟨q, rfl, hqk, hno, ho, hx, hk⟩ := hrel
                  have HQ := Lib.hid hqk
                  have HNO := Lib.hid hno
                  have HO := Lib.hid ho
                  have HX := Lib.hid hx
                  have HXL := Lib.hid hx.lt
                  have HK := Lib.hid hk
                  have HC6 : Hid (∀ W, Kept wr W → W.cell? ⟨b1, o1 + j * 3, none⟩ = some (.string n) ∧ W.cell? ⟨b1, o1 + j * 3 + 1, none⟩ = some (.int .u8 p) ∧ W.cell? ⟨b1, o1 + j * 3 + 2, none⟩ = some (.int .u16 t)) := Lib.hid (fun W hW => HCW.out W (HK.out.then hW))
                  have hqj : q ≤ j := by omega
                  clear hqk hno ho hx hk
                  by_cases hq : q < j
                  · have hql : q < l.length := by omega
                    obtain ⟨q1, _, _⟩ := zC_get l q hql
                    have f1 := (HK.out.cell (p := ⟨b1, o1 + q * 3, none⟩) hb1 (fun e => e)).trans (HG1.out _ _ q1)
                    have f2 := (HC6.out _ (Mod.refl _ _)).1
                    have iq : (q : Int) < (j : Int) := by omega
                    have iq2 : (q : Int) < (l.length : Int) := by omega
                    obtain ⟨m, hm⟩ : ∃ m, (l[q]'hql).name = m := ⟨_, rfl⟩
                    rw [hm] at f1
                    have HQM := Lib.hid hm
                    clear q1 hm
                    by_cases hmn : m = n
                    · have t1 : (m.toList == n.toList) = true := by rw [eq_bys, hmn]; simp
                      have H7 : Hid (newE l = 7) := Lib.hid (by
                        rw [HE.out, ← HE2.out, HT.out.2]
                        exact errT_has HOK.out ((hasZ_take hjl).2 ⟨q, hql, hq, by rw [HQM.out]; exact hmn⟩))
                      clear hmn
                      go_wp2_with fail
                      go_quiet (fail)
                      go_wp2_with fail
                      go_ret2
                      exact ⟨HK.out.drewN _, .inl ⟨by rw [H7.out]; decide, by rw [H7.out]; rfl⟩⟩
                    · have t1 : (m.toList == n.toList) = false := by rw [eq_bys]; exact decide_eq_false (fun e => hmn (bys_inj e))
                      have HMN := Lib.hid hmn
                      clear hmn
                      go_wp2_with fail
                      go_quiet (fail)
                      go_wp2_with fail
                      go_roundg (j - (q + 1))
                      case measure => have := HQ.out; omega
                      case rel =>
                        refine ⟨q + 1, by go_num, by omega, fun m2 h hm2 => ?_, own_kept HO.out ((Mod.refl _ _).drewN _), HX.out.drewN _, HK.out.drewN _⟩
                        by_cases e : m2 = q
                        · subst e; rw [HQM.out]; exact HMN.out
                        · exact HNO.out m2 h (by omega)
                  · obtain rfl : q = j := by omega
                    have hh : hasZ (l.take q) n = false := by
                      cases hb : hasZ (l.take q) n with
                      | false => rfl
                      | true =>
                        obtain ⟨m2, h2, h3, h4⟩ := (hasZ_take hjl).1 hb
                        exact absurd h4 (HNO.out m2 h2 h3)
                    have HON : Hid (errT (l.take (q + 1)) (l.drop (q + 1)) = errT [] l) := Lib.hid (by rw [HT.out.1, ← HE2.out, HT.out.2]; exact (errT_on HOK.out hh).symm)
                    have c0 := HX.out.cell 0
                    have c0 : wr.cell? ⟨w.heap.size, 0, none⟩ = some (.slice Ad q cd) := c0
                    have c1 : (wr.alloc (.cells #[.string n, .int .u8 p, .int .u16 t] 35)).cell? ⟨w.heap.size, 0, none⟩ = some (.slice Ad q cd) := (HX.out.alloc _).cell 0
                    clear hh HNO HQ hq
                    go_wp2_with fail
                    refine wp_region_held_drew (S := (fun w' => w'.cell? ⟨b1, o1 + q * 3, none⟩ = some (.string n) ∧ w'.cell? ⟨b1, o1 + q * 3 + 1, none⟩ = some (.int .u8 p) ∧ w'.cell? ⟨b1, o1 + q * 3 + 2, none⟩ = some (.int .u16 t))) (by kernel_rfl) ?_ (fun hHeld => ?_)
                    · (try dsimp only); exact HC6.out _ ((Mod.refl _ _).drew)
                    refine regH_take 0 71 (v := ?_) rfl rfl (by kernel_rfl) (by kernel_rfl) (by kernel_rfl) (fun _ _ _ h => h) (by rfl) (by assumption) ?_ ?_
                    rotate_left
                    · (intro w hSw; (try dsimp only at hSw); go_simp); try (with_reducible rfl)
                    try simp only [Act.put, List.setIfInBounds_toArray, List.set_cons_zero, List.set_cons_succ]
                    refine regH_take 1 72 (v := ?_) rfl rfl (by kernel_rfl) (by kernel_rfl) (by kernel_rfl) (fun _ _ _ h => h) (by rfl) (by assumption) ?_ ?_
                    rotate_left
                    · (intro w hSw; (try dsimp only at hSw); go_simp); try (with_reducible rfl)
                    try simp only [Act.put, List.setIfInBounds_toArray, List.set_cons_zero, List.set_cons_succ]
                    refine regH_take 2 73 (v := ?_) rfl rfl (by kernel_rfl) (by kernel_rfl) (by kernel_rfl) (fun _ _ _ h => h) (by rfl) (by assumption) ?_ ?_
                    rotate_left
                    · (intro w hSw; (try dsimp only at hSw); go_simp); try (with_reducible rfl)
                    try simp only [Act.put, List.setIfInBounds_toArray, List.set_cons_zero, List.set_cons_succ]
                    refine regH_take 3 74 (v := ?_) rfl rfl (by kernel_rfl) (by kernel_rfl) (by kernel_rfl) (fun _ _ _ h => h) (by rfl) (by assumption) ?_ ?_
                    rotate_left
                    · (intro w hSw; (try dsimp only at hSw); go_simp); try (with_reducible rfl)
                    try simp only [Act.put, List.setIfInBounds_toArray, List.set_cons_zero, List.set_cons_succ]
                    refine regH_take 5 76 (v := ?_) rfl rfl (by kernel_rfl) (by kernel_rfl) (by kernel_rfl) (fun _ _ _ h => h) (by rfl) (by assumption) ?_ ?_
                    rotate_left
                    · (intro w hSw; (try dsimp only at hSw); go_simp); try (with_reducible rfl)
                    try simp only [Act.put, List.setIfInBounds_toArray, List.set_cons_zero, List.set_cons_succ]
                    refine regH_take 6 77 (v := ?_) rfl rfl (by kernel_rfl) (by kernel_rfl) (by kernel_rfl) (fun _ _ _ h => h) (by rfl) (by assumption) ?_ ?_
                    rotate_left
                    · (intro w hSw; (try dsimp only at hSw); go_simp); try (with_reducible rfl)
                    try simp only [Act.put, List.setIfInBounds_toArray, List.set_cons_zero, List.set_cons_succ]
                    refine regH_take 7 78 (v := ?_) rfl rfl (by kernel_rfl) (by kernel_rfl) (by kernel_rfl) (fun _ _ _ h => h) (by rfl) (by assumption) ?_ ?_
                    rotate_left
                    · (intro w hSw; (try dsimp only at hSw); go_simp); try (with_reducible rfl)
                    try simp only [Act.put, List.setIfInBounds_toArray, List.set_cons_zero, List.set_cons_succ]
                    refine regH_take 8 79 (v := ?_) rfl rfl (by kernel_rfl) (by kernel_rfl) (by kernel_rfl) (fun _ _ _ h => h) (by rfl) (by assumption) ?_ ?_
                    rotate_left
                    · (intro w hSw; (try dsimp only at hSw); go_simp); try (with_reducible rfl)
                    try simp only [Act.put, List.setIfInBounds_toArray, List.set_cons_zero, List.set_cons_succ]
                    refine wpAnyH_ready (rs := [4, 9]) (by kernel_rfl) (by simp) ?_
                    refine AllReadyH.cons rfl (fun K hK => ?_) (AllReadyH.cons rfl (fun K hK => ?_) AllReadyH.nil)
                    · go_simp
                      refine hK.out _ _ ?_ (fun hHeld => ?_)
                      · (try dsimp only); exact HC6.out _ ((Mod.refl _ _).drew)
                      clear hK K
                      try simp only [Act.put, List.setIfInBounds_toArray, List.set_cons_zero, List.set_cons_succ]
                      refine wpAnyH_ready (rs := [9]) (by kernel_rfl) (by simp) ?_
                      refine AllReadyH.cons rfl (fun K hK => ?_) AllReadyH.nil
                      go_simp
                      refine hK.out _ _ ?_ (fun hHeld => ?_)
                      · (try dsimp only); exact HC6.out _ (((Mod.refl _ _).alloc _).drew)
                      clear hK K
                      try simp only [Act.put, List.setIfInBounds_toArray, List.set_cons_zero, List.set_cons_succ]
                      refine at_world (P := wpAnyH _ _ _ _ _ _ _ _) (fun W => W.ownsRow w.heap.size 35 3 (.slice Ad q cd) q (zC (l.take q)) ∧ Rd W 3 (.slice (some ⟨wr.heap.size, 0, none⟩) 1 1) 1 (zC [⟨n, p, t⟩]) ∧ Blk W w.heap.size 57 #[.slice Ad q cd] ∧ Kept wr W) ⟨own_kept HO.out (((Mod.refl _ _).alloc _).drew), (lit3 wr ⟨n, p, t⟩).kept ((Mod.refl (fun _ => False) _).drew) (fun _ _ e => e), ((HX.out.alloc _).drew), ((Mod.refl _ _).alloc _).drew⟩ ?_
                      rintro W6 ⟨ho6, hr6, hB6, hk6⟩
                      have hHeld := HC6.out W6 hk6
                      have hb6 : w.heap.size ≤ W6.heap.size := Nat.le_trans HK.out.size hk6.size
                      refine wpAnyH_ready (rs := [10]) (by kernel_rfl) (by simp) ?_
                      refine AllReadyH.cons rfl (fun K hK => ?_) AllReadyH.nil
                      refine step_append_rd 22 35 3 24 elem_zone (.tmp 75) (.tmp 80) rfl rfl w.heap.size (.slice Ad q cd) q _ rfl ho6 (.slice (some ⟨wr.heap.size, 0, none⟩) 1 1) 1 (zC [⟨n, p, t⟩]) rfl hr6 (one_zC _) (by unfold maxLen; omega) (by omega) hb6 ?_
                      intro A7 c7 w7 ho7 hm7 hn7
                      have hx7 := hB6.mod hm7 (fun e => HNE.out e)
                      have hk7 : Mod (fun k => w.heap.size ≤ k) w w7 := (HK.out.mono (fun _ _ e => e.elim)).trans (S' := fun k => w.heap.size ≤ k) ((hk6.mono (fun _ _ e => e.elim)).trans (S' := fun k => w.heap.size ≤ k) (hm7.mono (fun k _ e => (ho6.lt k e).1)) (fun _ _ e => e)) (fun _ _ e => e)
                      have hk7 : Kept w w7 := hk7.mono (fun i hi e => by omega)
                      have hs7 : w7.cell? ⟨w.heap.size, 0, none⟩ = some (.slice Ad q cd) := hx7.cell 0
                      have hf7 := hx7.frozen 0
                      have HX7 := Lib.hid hx7
                      have HO7 := Lib.hid ho7
                      have HK7 := Lib.hid hk7
                      have hc7 := HCW.out _ hk7
                      have hne7 : (Value.slice A7 (q + 1) c7).ownBlock ≠ some w.heap.size := fun e => by
                        rcases hn7 _ e with h | h
                        · exact HNE.out h
                        · have := HXL.out; have := hk6.size; omega
                      have HN7 := Lib.hid hne7
                      clear hx7 ho7 hk7 hm7 hn7 hne7
                      refine hK.out _ _ ?_ (fun hHeld => ?_)
                      · (try dsimp only); exact hc7
                      clear hK K
                      try simp only [Act.put, List.setIfInBounds_toArray, List.set_cons_zero, List.set_cons_succ]
                      refine regH_take 11 82 (v := ?_) rfl rfl (by kernel_rfl) (by kernel_rfl) (by kernel_rfl) (fun _ _ _ h => h) (by rfl) (by assumption) ?_ ?_
                      rotate_left
                      · (intro w hSw; (try dsimp only at hSw); go_simp); try (with_reducible rfl)
                      try simp only [Act.put, List.setIfInBounds_toArray, List.set_cons_zero, List.set_cons_succ]
                      refine regH_take 12 83 (v := ?_) rfl rfl (by kernel_rfl) (by kernel_rfl) (by kernel_rfl) (fun _ _ _ h => h) (by rfl) (by assumption) ?_ ?_
                      rotate_left
                      · (intro w hSw; (try dsimp only at hSw); go_simp); try (with_reducible rfl)
                      try simp only [Act.put, List.setIfInBounds_toArray, List.set_cons_zero, List.set_cons_succ]
                      refine wpAnyH_ready (rs := [13]) (by kernel_rfl) (by simp) ?_
                      refine AllReadyH.cons rfl (fun K hK => ?_) AllReadyH.nil
                      go_simp
                      refine hK.out _ _ ?_ (fun hHeld => ?_)
                      · (try dsimp only); exact HCW.out _ (HK7.out.setCell (p := ⟨w.heap.size, 0, none⟩) (fun h => by simp only at h; omega) _)
                      clear hK K
                      try simp only [Act.put, List.setIfInBounds_toArray, List.set_cons_zero, List.set_cons_succ]
                      refine wpAnyH_done (by kernel_rfl) ?_ _
                      go_wp2_with fail
                      go_roundg (l.length - (q + 1))
                      case measure => have := HJ.out; omega
                      case rel => exact ⟨q + 1, .slice A7 (q + 1) c7, by go_num, by omega, by rw [HT.out.1]; exact ⟨by simpa using HX7.out.set_ 0 (.slice A7 (q + 1) c7), by rw [zC_snoc, List.length_append, List.length_take, Nat.min_eq_left hjl]; exact own_setc HO7.out (p := ⟨w.heap.size, 0, none⟩) HN7.out _, HN7.out, Nat.le_refl _⟩, HON.out, HK7.out.setCell (p := ⟨w.heap.size, 0, none⟩) (fun h => by simp only at h; omega) _⟩
                    · go_simp
                      refine hK.out _ _ ?_ (fun hHeld => ?_)
                      · (try dsimp only); exact HC6.out _ (((Mod.refl _ _).alloc _).drew)
                      clear hK K
                      try simp only [Act.put, List.setIfInBounds_toArray, List.set_cons_zero, List.set_cons_succ]
                      refine wpAnyH_ready (rs := [4]) (by kernel_rfl) (by simp) ?_
                      refine AllReadyH.cons rfl (fun K hK => ?_) AllReadyH.nil
                      go_simp
                      refine hK.out _ _ ?_ (fun hHeld => ?_)
                      · (try dsimp only); exact HC6.out _ (((Mod.refl _ _).alloc _).drew)
                      clear hK K
                      try simp only [Act.put, List.setIfInBounds_toArray, List.set_cons_zero, List.set_cons_succ]
                      refine at_world (P := wpAnyH _ _ _ _ _ _ _ _) (fun W => W.ownsRow w.heap.size 35 3 (.slice Ad q cd) q (zC (l.take q)) ∧ Rd W 3 (.slice (some ⟨wr.heap.size, 0, none⟩) 1 1) 1 (zC [⟨n, p, t⟩]) ∧ Blk W w.heap.size 57 #[.slice Ad q cd] ∧ Kept wr W) ⟨own_kept HO.out (((Mod.refl _ _).alloc _).drew), (lit3 wr ⟨n, p, t⟩).kept ((Mod.refl (fun _ => False) _).drew) (fun _ _ e => e), ((HX.out.alloc _).drew), ((Mod.refl _ _).alloc _).drew⟩ ?_
                      rintro W6 ⟨ho6, hr6, hB6, hk6⟩
                      have hHeld := HC6.out W6 hk6
                      have hb6 : w.heap.size ≤ W6.heap.size := Nat.le_trans HK.out.size hk6.size
                      refine wpAnyH_ready (rs := [10]) (by kernel_rfl) (by simp) ?_
                      refine AllReadyH.cons rfl (fun K hK => ?_) AllReadyH.nil
                      refine step_append_rd 22 35 3 24 elem_zone (.tmp 75) (.tmp 80) rfl rfl w.heap.size (.slice Ad q cd) q _ rfl ho6 (.slice (some ⟨wr.heap.size, 0, none⟩) 1 1) 1 (zC [⟨n, p, t⟩]) rfl hr6 (one_zC _) (by unfold maxLen; omega) (by omega) hb6 ?_
                      intro A7 c7 w7 ho7 hm7 hn7
                      have hx7 := hB6.mod hm7 (fun e => HNE.out e)
                      have hk7 : Mod (fun k => w.heap.size ≤ k) w w7 := (HK.out.mono (fun _ _ e => e.elim)).trans (S' := fun k => w.heap.size ≤ k) ((hk6.mono (fun _ _ e => e.elim)).trans (S' := fun k => w.heap.size ≤ k) (hm7.mono (fun k _ e => (ho6.lt k e).1)) (fun _ _ e => e)) (fun _ _ e => e)
                      have hk7 : Kept w w7 := hk7.mono (fun i hi e => by omega)
                      have hs7 : w7.cell? ⟨w.heap.size, 0, none⟩ = some (.slice Ad q cd) := hx7.cell 0
                      have hf7 := hx7.frozen 0
                      have HX7 := Lib.hid hx7
                      have HO7 := Lib.hid ho7
                      have HK7 := Lib.hid hk7
                      have hc7 := HCW.out _ hk7
                      have hne7 : (Value.slice A7 (q + 1) c7).ownBlock ≠ some w.heap.size := fun e => by
                        rcases hn7 _ e with h | h
                        · exact HNE.out h
                        · have := HXL.out; have := hk6.size; omega
                      have HN7 := Lib.hid hne7
                      clear hx7 ho7 hk7 hm7 hn7 hne7
                      refine hK.out _ _ ?_ (fun hHeld => ?_)
                      · (try dsimp only); exact hc7
                      clear hK K
                      try simp only [Act.put, List.setIfInBounds_toArray, List.set_cons_zero, List.set_cons_succ]
                      refine regH_take 11 82 (v := ?_) rfl rfl (by kernel_rfl) (by kernel_rfl) (by kernel_rfl) (fun _ _ _ h => h) (by rfl) (by assumption) ?_ ?_
                      rotate_left
                      · (intro w hSw; (try dsimp only at hSw); go_simp); try (with_reducible rfl)
                      try simp only [Act.put, List.setIfInBounds_toArray, List.set_cons_zero, List.set_cons_succ]
                      refine regH_take 12 83 (v := ?_) rfl rfl (by kernel_rfl) (by kernel_rfl) (by kernel_rfl) (fun _ _ _ h => h) (by rfl) (by assumption) ?_ ?_
                      rotate_left
                      · (intro w hSw; (try dsimp only at hSw); go_simp); try (with_reducible rfl)
                      try simp only [Act.put, List.setIfInBounds_toArray, List.set_cons_zero, List.set_cons_succ]
                      refine wpAnyH_ready (rs := [13]) (by kernel_rfl) (by simp) ?_
                      refine AllReadyH.cons rfl (fun K hK => ?_) AllReadyH.nil
                      go_simp
                      refine hK.out _ _ ?_ (fun hHeld => ?_)
                      · (try dsimp only); exact HCW.out _ (HK7.out.setCell (p := ⟨w.heap.size, 0, none⟩) (fun h => by simp only at h; omega) _)
                      clear hK K
                      try simp only [Act.put, List.setIfInBounds_toArray, List.set_cons_zero, List.set_cons_succ]
                      refine wpAnyH_done (by kernel_rfl) ?_ _
                      go_wp2_with fail
                      go_roundg (l.length - (q + 1))
                      case measure => have := HJ.out; omega
                      case rel => exact ⟨q + 1, .slice A7 (q + 1) c7, by go_num, by omega, by rw [HT.out.1]; exact ⟨by simpa using HX7.out.set_ 0 (.slice A7 (q + 1) c7), by rw [zC_snoc, List.length_append, List.length_take, Nat.min_eq_left hjl]; exact own_setc HO7.out (p := ⟨w.heap.size, 0, none⟩) HN7.out _, HN7.out, Nat.le_refl _⟩, HON.out, HK7.out.setCell (p := ⟨w.heap.size, 0, none⟩) (fun h => by simp only at h; omega) _⟩
          · have HB3 := Lib.hid (HBAD.out (okZ_no_fold hf))
            have d1 : ((foldS n).toList == n.toList) = false := by rw [eq_bys]; exact decide_eq_false (fun e => hf (bys_inj e))
            clear hf HBAD
            go_wp2_with fail
            refine wp_region_held_drew (S := (fun w' => w'.cell? ⟨b1, o1 + j * 3, none⟩ = some (.string n) ∧ w'.cell? ⟨b1, o1 + j * 3 + 1, none⟩ = some (.int .u8 p))) (by kernel_rfl) ?_ (fun hHeld => ?_)
            · (try dsimp only); first | exact HC.out | exact HC3.out | exact HC4.out
            refine regH_take 0 18 (v := ?_) rfl rfl (by kernel_rfl) (by kernel_rfl) (by kernel_rfl) (fun _ _ _ h => h) (by rfl) (by assumption) ?_ ?_
            rotate_left
            · (intro w hSw; (try dsimp only at hSw); go_simp); try (with_reducible rfl)
            try simp only [Act.put, List.setIfInBounds_toArray, List.set_cons_zero, List.set_cons_succ]
            refine regH_take 1 19 (v := ?_) rfl rfl (by kernel_rfl) (by kernel_rfl) (by kernel_rfl) (fun _ _ _ h => h) (by rfl) (by assumption) ?_ ?_
            rotate_left
            · (intro w hSw; (try dsimp only at hSw); go_simp); try (with_reducible rfl)
            try simp only [Act.put, List.setIfInBounds_toArray, List.set_cons_zero, List.set_cons_succ]
            refine regH_take 2 20 (v := ?_) rfl rfl (by kernel_rfl) (by kernel_rfl) (by kernel_rfl) (fun _ _ _ h => h) (by rfl) (by assumption) ?_ ?_
            rotate_left
            · (intro w hSw; (try dsimp only at hSw); go_simp); try (with_reducible rfl)
            try simp only [Act.put, List.setIfInBounds_toArray, List.set_cons_zero, List.set_cons_succ]
            refine regH_take 3 21 (v := ?_) rfl rfl (by kernel_rfl) (by kernel_rfl) (by kernel_rfl) (fun _ _ _ h => h) (by rfl) (by assumption) ?_ ?_
            rotate_left
            · (intro w hSw; (try dsimp only at hSw); go_simp); try (with_reducible rfl)
            try simp only [Act.put, List.setIfInBounds_toArray, List.set_cons_zero, List.set_cons_succ]
            refine regH_take 4 22 (v := ?_) rfl rfl (by kernel_rfl) (by kernel_rfl) (by kernel_rfl) (fun _ _ _ h => h) (by rfl) (by assumption) ?_ ?_
            rotate_left
            · (intro w hSw; (try dsimp only at hSw); go_simp); try (with_reducible rfl)
            try simp only [Act.put, List.setIfInBounds_toArray, List.set_cons_zero, List.set_cons_succ]
            refine wpAnyH_ready (rs := [5]) (by kernel_rfl) (by simp) ?_
            refine AllReadyH.cons rfl (fun K hK => ?_) AllReadyH.nil
            go_simp
            (refine (CM.out _).mono ?_; rintro e w3 ⟨rfl, m3⟩; have HM3 := Lib.hid (((Mod.refl (fun _ => False) wr).drew).then m3); have HC3 := Lib.hid (HCK.out _ HM3.out); clear m3)
            try (go_wp2_with fail)
            refine hK.out _ _ ?_ (fun hHeld => ?_)
            · (try dsimp only); first | exact HC.out | exact HC3.out | exact HC4.out
            clear hK K
            try simp only [Act.put, List.setIfInBounds_toArray, List.set_cons_zero, List.set_cons_succ]
            refine regH_take 6 24 (v := ?_) rfl rfl (by kernel_rfl) (by kernel_rfl) (by kernel_rfl) (fun _ _ _ h => h) (by rfl) (by assumption) ?_ ?_
            rotate_left
            · (intro w hSw; (try dsimp only at hSw); go_simp); try (with_reducible rfl)
            try simp only [Act.put, List.setIfInBounds_toArray, List.set_cons_zero, List.set_cons_succ]
            refine regH_take 7 25 (v := ?_) rfl rfl (by kernel_rfl) (by kernel_rfl) (by kernel_rfl) (fun _ _ _ h => h) (by rfl) (by assumption) ?_ ?_
            rotate_left
            · (intro w hSw; (try dsimp only at hSw); go_simp); try (with_reducible rfl)
            try simp only [Act.put, List.setIfInBounds_toArray, List.set_cons_zero, List.set_cons_succ]
            refine regH_take 8 26 (v := ?_) rfl rfl (by kernel_rfl) (by kernel_rfl) (by kernel_rfl) (fun _ _ _ h => h) (by rfl) (by assumption) ?_ ?_
            rotate_left
            · (intro w hSw; (try dsimp only at hSw); go_simp); try (with_reducible rfl)
            try simp only [Act.put, List.setIfInBounds_toArray, List.set_cons_zero, List.set_cons_succ]
            refine regH_take 9 27 (v := ?_) rfl rfl (by kernel_rfl) (by kernel_rfl) (by kernel_rfl) (fun _ _ _ h => h) (by rfl) (by assumption) ?_ ?_
            rotate_left
            · (intro w hSw; (try dsimp only at hSw); go_simp); try (with_reducible rfl)
            try simp only [Act.put, List.setIfInBounds_toArray, List.set_cons_zero, List.set_cons_succ]
            refine regH_take 10 28 (v := ?_) rfl rfl (by kernel_rfl) (by kernel_rfl) (by kernel_rfl) (fun _ _ _ h => h) (by rfl) (by assumption) ?_ ?_
            rotate_left
            · (intro w hSw; (try dsimp only at hSw); go_simp); try (with_reducible rfl)
            try simp only [Act.put, List.setIfInBounds_toArray, List.set_cons_zero, List.set_cons_succ]
            refine regH_take 11 29 (v := ?_) rfl rfl (by kernel_rfl) (by kernel_rfl) (by kernel_rfl) (fun _ _ _ h => h) (by rfl) (by assumption) ?_ ?_
            rotate_left
            · (intro w hSw; (try dsimp only at hSw); go_simp); try (with_reducible rfl)
            try simp only [Act.put, List.setIfInBounds_toArray, List.set_cons_zero, List.set_cons_succ]
            refine regH_take 12 30 (v := ?_) rfl rfl (by kernel_rfl) (by kernel_rfl) (by kernel_rfl) (fun _ _ _ h => h) (by rfl) (by assumption) ?_ ?_
            rotate_left
            · (intro w hSw; (try dsimp only at hSw); go_simp); try (with_reducible rfl)
            try simp only [Act.put, List.setIfInBounds_toArray, List.set_cons_zero, List.set_cons_succ]
            refine regH_take 14 32 (v := ?_) rfl rfl (by kernel_rfl) (by kernel_rfl) (by kernel_rfl) (fun _ _ _ h => h) (by rfl) (by assumption) ?_ ?_
            rotate_left
            · (intro w hSw; (try dsimp only at hSw); go_simp); try (with_reducible rfl)
            try simp only [Act.put, List.setIfInBounds_toArray, List.set_cons_zero, List.set_cons_succ]
            refine regH_take 15 33 (v := ?_) rfl rfl (by kernel_rfl) (by kernel_rfl) (by kernel_rfl) (fun _ _ _ h => h) (by rfl) (by assumption) ?_ ?_
            rotate_left
            · (intro w hSw; (try dsimp only at hSw); go_simp); try (with_reducible rfl)
            try simp only [Act.put, List.setIfInBounds_toArray, List.set_cons_zero, List.set_cons_succ]
            refine regH_take 16 34 (v := ?_) rfl rfl (by kernel_rfl) (by kernel_rfl) (by kernel_rfl) (fun _ _ _ h => h) (by rfl) (by assumption) ?_ ?_
            rotate_left
            · (intro w hSw; (try dsimp only at hSw); go_simp); try (with_reducible rfl)
            try simp only [Act.put, List.setIfInBounds_toArray, List.set_cons_zero, List.set_cons_succ]
            refine regH_take 17 35 (v := ?_) rfl rfl (by kernel_rfl) (by kernel_rfl) (by kernel_rfl) (fun _ _ _ h => h) (by rfl) (by assumption) ?_ ?_
            rotate_left
            · (intro w hSw; (try dsimp only at hSw); go_simp); try (with_reducible rfl)
            try simp only [Act.put, List.setIfInBounds_toArray, List.set_cons_zero, List.set_cons_succ]
            refine regH_take 18 36 (v := ?_) rfl rfl (by kernel_rfl) (by kernel_rfl) (by kernel_rfl) (fun _ _ _ h => h) (by rfl) (by assumption) ?_ ?_
            rotate_left
            · (intro w hSw; (try dsimp only at hSw); go_simp); try (with_reducible rfl)
            try simp only [Act.put, List.setIfInBounds_toArray, List.set_cons_zero, List.set_cons_succ]
            refine wpAnyH_ready (rs := [13]) (by kernel_rfl) (by simp) ?_
            refine AllReadyH.cons rfl (fun K hK => ?_) AllReadyH.nil
            go_simp
            (refine (CF.out _).mono ?_; rintro e w4 ⟨rfl, m4⟩; have HM4 := Lib.hid (HM3.out.then m4); have HC4 := Lib.hid (HCK.out _ HM4.out); clear m4)
            try (go_wp2_with fail)
            refine hK.out _ _ ?_ (fun hHeld => ?_)
            · (try dsimp only); first | exact HC.out | exact HC3.out | exact HC4.out
            clear hK K
            try simp only [Act.put, List.setIfInBounds_toArray, List.set_cons_zero, List.set_cons_succ]
            refine regH_take 19 37 (v := ?_) rfl rfl (by kernel_rfl) (by kernel_rfl) (by kernel_rfl) (fun _ _ _ h => h) (by rfl) (by assumption) ?_ ?_
            rotate_left
            · (intro w hSw; (try dsimp only at hSw); go_simp); try (with_reducible rfl)
            try simp only [Act.put, List.setIfInBounds_toArray, List.set_cons_zero, List.set_cons_succ]
            refine regH_take 20 38 (v := ?_) rfl rfl (by kernel_rfl) (by kernel_rfl) (by kernel_rfl) (fun _ _ _ h => h) (by rfl) (by assumption) ?_ ?_
            rotate_left
            · (intro w hSw; (try dsimp only at hSw); go_simp); try (with_reducible rfl)
            try simp only [Act.put, List.setIfInBounds_toArray, List.set_cons_zero, List.set_cons_succ]
            refine regH_take 21 39 (v := ?_) rfl rfl (by kernel_rfl) (by kernel_rfl) (by kernel_rfl) (fun _ _ _ h => h) (by rfl) (by assumption) ?_ ?_
            rotate_left
            · (intro w hSw; (try dsimp only at hSw); go_simp); try (with_reducible rfl)
            try simp only [Act.put, List.setIfInBounds_toArray, List.set_cons_zero, List.set_cons_succ]
            refine regH_skip 22 40 rfl rfl (by kernel_rfl) (by kernel_rfl) (by kernel_rfl) (fun _ _ _ h => h) (by rfl) (by assumption) ?_
            try simp only [Act.put, List.setIfInBounds_toArray, List.set_cons_zero, List.set_cons_succ]
            refine regH_skip 23 41 rfl rfl (by kernel_rfl) (by kernel_rfl) (by kernel_rfl) (fun _ _ _ h => h) (by rfl) (by assumption) ?_
            try simp only [Act.put, List.setIfInBounds_toArray, List.set_cons_zero, List.set_cons_succ]
            refine regH_skip 24 42 rfl rfl (by kernel_rfl) (by kernel_rfl) (by kernel_rfl) (fun _ _ _ h => h) (by rfl) (by assumption) ?_
            try simp only [Act.put, List.setIfInBounds_toArray, List.set_cons_zero, List.set_cons_succ]
            refine regH_skip 25 43 rfl rfl (by kernel_rfl) (by kernel_rfl) (by kernel_rfl) (fun _ _ _ h => h) (by rfl) (by assumption) ?_
            try simp only [Act.put, List.setIfInBounds_toArray, List.set_cons_zero, List.set_cons_succ]
            refine regH_skip 26 44 rfl rfl (by kernel_rfl) (by kernel_rfl) (by kernel_rfl) (fun _ _ _ h => h) (by rfl) (by assumption) ?_
            try simp only [Act.put, List.setIfInBounds_toArray, List.set_cons_zero, List.set_cons_succ]
            refine regH_skip 27 45 rfl rfl (by kernel_rfl) (by kernel_rfl) (by kernel_rfl) (fun _ _ _ h => h) (by rfl) (by assumption) ?_
            try simp only [Act.put, List.setIfInBounds_toArray, List.set_cons_zero, List.set_cons_succ]
            refine regH_take 28 46 (v := ?_) rfl rfl (by kernel_rfl) (by kernel_rfl) (by kernel_rfl) (fun _ _ _ h => h) (by rfl) (by assumption) ?_ ?_
            rotate_left
            · (intro w hSw; (try dsimp only at hSw); go_simp); try (with_reducible rfl)
            try simp only [Act.put, List.setIfInBounds_toArray, List.set_cons_zero, List.set_cons_succ]
            refine regH_take 29 47 (v := ?_) rfl rfl (by kernel_rfl) (by kernel_rfl) (by kernel_rfl) (fun _ _ _ h => h) (by rfl) (by assumption) ?_ ?_
            rotate_left
            · (intro w hSw; (try dsimp only at hSw); go_simp); try (with_reducible rfl)
            try simp only [Act.put, List.setIfInBounds_toArray, List.set_cons_zero, List.set_cons_succ]
            refine regH_skip 30 48 rfl rfl (by kernel_rfl) (by kernel_rfl) (by kernel_rfl) (fun _ _ _ h => h) (by rfl) (by assumption) ?_
            try simp only [Act.put, List.setIfInBounds_toArray, List.set_cons_zero, List.set_cons_succ]
            refine regH_skip 31 49 rfl rfl (by kernel_rfl) (by kernel_rfl) (by kernel_rfl) (fun _ _ _ h => h) (by rfl) (by assumption) ?_
            try simp only [Act.put, List.setIfInBounds_toArray, List.set_cons_zero, List.set_cons_succ]
            refine regH_skip 32 50 rfl rfl (by kernel_rfl) (by kernel_rfl) (by kernel_rfl) (fun _ _ _ h => h) (by rfl) (by assumption) ?_
            try simp only [Act.put, List.setIfInBounds_toArray, List.set_cons_zero, List.set_cons_succ]
            refine regH_skip 33 51 rfl rfl (by kernel_rfl) (by kernel_rfl) (by kernel_rfl) (fun _ _ _ h => h) (by rfl) (by assumption) ?_
            try simp only [Act.put, List.setIfInBounds_toArray, List.set_cons_zero, List.set_cons_succ]
            refine regH_skip 34 52 rfl rfl (by kernel_rfl) (by kernel_rfl) (by kernel_rfl) (fun _ _ _ h => h) (by rfl) (by assumption) ?_
            try simp only [Act.put, List.setIfInBounds_toArray, List.set_cons_zero, List.set_cons_succ]
            refine regH_skip 35 53 rfl rfl (by kernel_rfl) (by kernel_rfl) (by kernel_rfl) (fun _ _ _ h => h) (by rfl) (by assumption) ?_
            try simp only [Act.put, List.setIfInBounds_toArray, List.set_cons_zero, List.set_cons_succ]
            refine regH_take 36 54 (v := ?_) rfl rfl (by kernel_rfl) (by kernel_rfl) (by kernel_rfl) (fun _ _ _ h => h) (by rfl) (by assumption) ?_ ?_
            rotate_left
            · (intro w hSw; (try dsimp only at hSw); go_simp); try (with_reducible rfl)
            try simp only [Act.put, List.setIfInBounds_toArray, List.set_cons_zero, List.set_cons_succ]
            refine wpAnyH_done (by kernel_rfl) ?_ _
            go_wp2_with fail
            go_ret2
            exact ⟨HK.out.then HM4.out, .inl ⟨by rw [HB3.out]; decide, by rw [HB3.out]; rfl⟩⟩
      · obtain rfl : j = l.length := by omega
        have h0 : newE l = 0 := by
          rw [HE.out, ← HE2.out, List.drop_length]
          rfl
        have ho := HO.out
        rw [List.take_length] at ho
        have H0 := Lib.hid (And.intro h0 ho)
        clear h0 ho HE2 HE
        go_wp2_with fail
        go_ret2
        exact ⟨HK.out, .inr ⟨H0.out.1, _, _, rfl, HX.out, H0.out.2, HNE.out, Nat.le_refl _⟩⟩
end Go.Proofs.Ytgibhcmdmdbpgaa
