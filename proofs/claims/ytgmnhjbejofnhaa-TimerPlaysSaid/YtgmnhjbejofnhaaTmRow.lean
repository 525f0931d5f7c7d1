/- TimerRow, walked. Condition: no reading is past the greatest int64. -/
import Derived.Test.YtgmnhjbejofnhaaTmLa
namespace Go.Proofs.Ytgmnhjbejofnhaa
open Go.RowKit Go.Lib

def atI (L : List Th) : Nat → Int
  | 0 => -1
  | i + 1 => ((L[i]?).map (fun x => x.no)).getD 0 - 1
theorem atI_succ {L : List Th} {i k : Nat} {a b : Int} (hi : i < L.length) (h : L[i] = ⟨a, (k : Int) + 1, b⟩) : atI L (i + 1) = (k : Int) := by
  show ((L[i]?).map (fun x => x.no)).getD 0 - 1 = _
  rw [List.getElem?_eq_getElem hi, h]
  simp
def kIf (kx m : Nat) : Int := if kx < m then (kx : Int) else -1
def RowRel (L : List Th) (wA : World) (k : Nat) (s9 s11 : Value) (wr : World) : Prop :=
  ∃ i : Nat, s11 = .int .i64 i ∧ i + k = L.length ∧ s9 = .int .i64 (atI L i) ∧ Kept wA wr
def InRel (l : List (Int × Int)) (kx : Nat) (wA : World) (k : Nat) (s12 s13 : Value) (wr : World) : Prop :=
  ∃ m : Nat, s13 = .int .i64 m ∧ m + k = l.length ∧ s12 = .int .i64 (kIf kx m) ∧ Kept wA wr
def CntRel (l : List (Int × Int)) (wA : World) (k : Nat) (s10 s14 : Value) (wr : World) : Prop :=
  ∃ m : Nat, s14 = .int .i64 m ∧ m + k = l.length ∧ s10 = .int .i64 (((List.range m).filter (lastB l)).length : Nat) ∧ Kept wA wr

theorem row_big (v : Value) (l : List (Int × Int)) (now : Int) (hl : 150 < l.length) (w : World) (hv : RdS w v l) :
    Calls Try.prog 3 #[v, .int .i64 now] w fun e w' => e = .returned (.bool true) ∧ Kept w w' := by
  obtain ⟨_, A, c, rfl, _⟩ := hv
  have h1 : (150 : Int) < l.length := by omega
  go_enter Try.func3, Try.ntmps3
  go_wp2_with (go_at_call 10; refine (awake_c _).mono ?_; rintro e w1 ⟨rfl, hm1⟩)
  go_ret
  exact ⟨rfl, hm1⟩

theorem dueN_full {L : List Th} {now : Int} (h : ∀ x ∈ L, x.rd ≤ now) : dueN L now = L.length :=
  dueN_at (fun _ hi _ => h _ (List.getElem_mem hi)) (Nat.le_refl _) (fun h => absurd h (Nat.lt_irrefl _))
theorem due_iff {L : List Th} {now : Int} (hs : SortT L) {i : Nat} (hi : i < L.length) : i < dueN L now ↔ L[i].rd ≤ now := by
  constructor
  · exact dueN_all hi
  · intro h
    rcases Nat.lt_or_ge i (dueN L now) with h1 | h1
    · exact h1
    · have hD : dueN L now < L.length := by omega
      have hd : ¬ (L[dueN L now]'hD).rd ≤ now := by
        intro hle
        have hle2 : ∀ k (hk : k < L.length), k < dueN L now + 1 → L[k].rd ≤ now := fun k hk h2 => by
          rcases Nat.lt_or_ge k (dueN L now) with h3 | h3
          · exact dueN_all hk h3
          · have : k = dueN L now := by omega
            subst this
            exact hle
        have := dueN_more (p := dueN L now + 1) (by omega) hle2
        omega
      rcases Nat.lt_or_ge (dueN L now) i with h2 | h2
      · have := List.pairwise_iff_getElem.1 hs (dueN L now) i hD hi h2
        rcases this with h3 | ⟨h3, _⟩ <;> omega
      · have : i = dueN L now := by omega
        subst this
        exact absurd h hd
theorem last_one {l : List (Int × Int)} {i j : Nat} (hi : i < l.length) (hj : j < l.length) (h1 : lastB l i = true) (h2 : lastB l j = true) (he : l[i].1 = l[j].1) : i = j := by
  rcases Nat.lt_trichotomy i j with h | h | h
  · exact absurd he.symm ((lastB_iff hi).1 h1 j hj h)
  · exact h
  · exact absurd he ((lastB_iff hj).1 h2 i hi h)

set_option maxHeartbeats 8000000 in
set_option maxRecDepth 100000 in
theorem row_small (v : Value) (l : List (Int × Int)) (now : Int) (hl1 : l.length ≤ 150) (hmax : ∀ a ∈ l, a.2 ≤ 9223372036854775807) (w : World) (hv : RdS w v l) :
    Calls Try.prog 3 #[v, .int .i64 now] w fun e w' => e = .returned (.bool true) ∧ Kept w w' := by
  have H := Lib.hid hv
  obtain ⟨_, A, c, rfl, _⟩ := hv
  have hd1 : decide ((150 : Int) < l.length) = false := by simp; omega
  go_enter Try.func3, Try.ntmps3
  go_wp2_with fail
  refine (awake_c _).mono ?_
  rintro e w1 ⟨rfl, hk1⟩
  go_wp2_with fail
  refine (put_l _ l (by omega) _ (H.out.kept hk1 (fun _ _ e => e))).mono ?_
  rintro e w2 ⟨rfl, vt, ht2⟩
  have hk2 : Kept w w2 := hk1.then ht2.kept
  have hL := ht2.len
  have hinv := inv_puts l
  generalize hLe : (putsT l ([], 0)).1 = L at *
  have HI := Lib.hid hinv
  have HMAX := Lib.hid hmax
  have hrd : ∀ x ∈ L, x.rd ≤ 9223372036854775807 := fun x hx => by
    obtain ⟨k, hk, rfl, _⟩ := (hinv.mem x).1 hx
    exact hmax _ (List.getElem_mem hk)
  have hR : dueN (L.drop (dueN L now)) 9223372036854775807 = (L.drop (dueN L now)).length := dueN_full fun x hx => hrd x (List.mem_of_mem_drop hx)
  have HR := Lib.hid hR
  have hs01 := hk1.size
  have hD := dueN_le L now
  have ht2' := ht2.tm
  clear hinv hrd hR hmax hLe hk1 ht2
  go_wp2_with fail
  refine (due_c _ _ vt L _ now _ ht2' (by omega)).mono ?_
  rintro e w3 ⟨vo3, rfl, ho3, vt3, ht3, hm3, hv3⟩
  have hk3 : Kept w w3 := Mod.trans hk2 hm3 fun i hi e => by have := (ht2'.lt i e).1; omega
  have hlt2 := fun k hk => (ht2'.lt k hk).2
  clear ht2' hk2 hm3
  obtain ⟨A3, c3, rfl⟩ := own_form ho3
  go_wp2_with fail
  refine (due_c _ _ vt3 _ _ 9223372036854775807 _ ht3 (by rw [List.length_drop]; omega)).mono ?_
  rintro e w4 ⟨vo4, rfl, ho4, vt4, ht4, hm4, hv4⟩
  have ho34 := own_mod ho3 hm4 (fun k hk e => by rw [Fp.same hv3] at e; have h1 := (ho3.lt k hk).1; have h2 := hlt2 k e; omega)
  have hk4 : Kept w w4 := Mod.trans hk3 hm4 fun i hi e => by have := (ht3.lt i e).1; omega
  rw [HR.out, List.take_length] at ho4
  rw [HR.out, List.drop_length] at ht4
  clear ho3 ht3 hk3 hm4 hlt2
  obtain ⟨A4, c4, rfl⟩ := own_form ho4
  have HT4 := Lib.hid ht4
  have HK4 := Lib.hid hk4
  have HO3 := Lib.hid (Rd.of_own ho34)
  have HO4 := Lib.hid (Rd.of_own ho4)
  have hone : ∀ (x : List Int), ∀ u ∈ ints x, u.oneCell' = true := by
    intro x u hu
    unfold ints at hu
    obtain ⟨z, _, rfl⟩ := List.mem_map.1 hu
    rfl
  have HONE := Lib.hid hone
  have hal : ints (idsT (L.take (dueN L now))) ++ ints (idsT (L.drop (dueN L now))) = ints (idsT L) := by
    unfold ints idsT
    rw [← List.map_append, ← List.map_append, List.take_append_drop]
  have HAL := Lib.hid hal
  have hdl : (L.drop (dueN L now)).length = L.length - dueN L now := List.length_drop
  generalize hDe : dueN L now = D at *
  generalize hRe : (L.drop D).length = R at *
  have hb1 : 0 + D ≤ maxLen ∧ 0 + D + R ≤ maxLen := by simp only [maxLen]; omega
  have hb2 : (0 + D) * 8 ≤ 140737488355328 ∧ (0 + D + R) * 8 ≤ 140737488355328 := by omega
  have HB := Lib.hid (And.intro hb1 hb2)
  have HDE := Lib.hid hDe
  have HDL := Lib.hid hdl
  clear hone hal hb1 hb2 ho34 ho4 ht4 hk4 hDe hRe HR hdl
  go_wp2_with (first
    | (at_builtin; refine wpList_append_rd 26 3 1 8 elem_int (.tmp 30) (.tmp 31) rfl rfl w4.heap.size _ 0 [] rfl (World.ownsRow_made w4 #[] 0 (Nat.le_refl _) (Nat.zero_le _) rfl) _ D _ rfl (HO3.out.kept ((Mod.refl _ _).alloc _) (fun _ _ e => e)) (HONE.out _) HB.out.1.1 HB.out.2.1 (by simp) ?_; intro v5 w5 ho5 hm5 _; have hk45 : Kept w4 w5 := Mod.trans ((Mod.refl _ w4).alloc _) hm5 (fun k hk e => by have e : some w4.heap.size = some k := e; injection e with e; omega); have ho45 := HO4.out.kept hk45 (fun _ _ e => e); obtain ⟨A5, m5, c5, rfl⟩ := own_form3 ho5; clear hm5)
    | (at_builtin; refine wpList_append_rd 26 3 1 8 elem_int (.tmp 32) (.tmp 33) rfl rfl w4.heap.size _ _ _ rfl ho5 _ R _ rfl ho45 (HONE.out _) HB.out.1.2 HB.out.2.2 hk45.size ?_; intro v6 w6 ho6 hm6 _; have hk46 : Kept w4 w6 := Mod.trans hk45 hm6 (fun k hk e => by have h1 := (ho5.lt k e).1; omega); clear hk45 ho45 ho5 hm6)
    | fail)
  have hall : RdI w6 v6 (idsT L) := by
    have h := Rd.of_own ho6
    rw [List.nil_append, HAL.out] at h
    exact h.asInts
  have hidl : (idsT L).length = L.length := by simp [idsT]
  obtain ⟨m8, hm8⟩ : ∃ m8, m8 = L.length := ⟨_, rfl⟩
  have hall8 : Rd w6 1 v6 m8 (ints (idsT L)) := by rw [hm8, ← hidl]; exact hall
  obtain ⟨A8, c8, rfl⟩ : ∃ A8 c8, v6 = .slice A8 m8 c8 := by obtain ⟨_, A, c, h, _⟩ := hall8; exact ⟨A, c, h⟩
  have HALL := Lib.hid hall8
  have HM8 := Lib.hid hm8
  clear hall8 hm8
  have HS := Lib.hid ((H.out.kept HK4.out (fun _ _ e => e)).kept hk46 (fun _ _ e => e))
  have HT := Lib.hid (HT4.out.kept hk46)
  have HK := Lib.hid (HK4.out.then hk46)
  have HIDL := Lib.hid hidl
  clear hall hidl ho6 hk46 HO3 HO4 HB HAL HONE HT4 HK4 HDL hv3 hv4
  go_loopg [9, 11] m8 (fun k s9 s11 wr => RowRel L w6 k s9 s11 wr)
  case atStart => exact ⟨0, rfl, by have := HM8.out; omega, rfl, Mod.refl _ _⟩
  case round =>
    obtain ⟨i, rfl, hi, rfl, hk⟩ := hrel
    have HJ := Lib.hid hi
    have HKR := Lib.hid hk
    have hil : i ≤ L.length := by omega
    clear hi hk
    by_cases hlt : i < L.length
    · have hlt8 : i < m8 := by have := HM8.out; omega
      obtain ⟨kx, hkx, hxe, hxl⟩ := (HI.out.mem L[i]).1 (List.getElem_mem hlt)
      obtain ⟨x, hx⟩ : ∃ x, (L[i]'hlt) = x := ⟨_, rfl⟩
      rw [hx] at hxe
      have HX := Lib.hid (And.intro hx (And.intro hxe hxl))
      have i1 : (i : Int) < m8 := by omega
      obtain ⟨ba, oa, ca, ea, hba, ga⟩ := HALL.out.at (k := i) hlt8
      injection ea with ea _ ea'
      subst ea ea'
      have fa : w6.cell? ⟨ba, oa + i, none⟩ = some (.int .i64 x.id) := by
        have h := ga i _ (ints_get (idsT L) i (by rw [HIDL.out]; exact hlt))
        rw [h]
        simp [idsT, hx]
      have HFA := Lib.hid (And.intro fa hba)
      have fa1 := (HKR.out.cell (p := ⟨ba, oa + i, none⟩) hba (fun e => e)).trans fa
      clear ga hx hxe hxl hba fa
      go_wp2_with fail
      go_loopg [12, 13] l.length (fun k s12 s13 wr2 => InRel l kx w6 k s12 s13 wr2)
      case atStart => exact ⟨0, rfl, by omega, rfl, HKR.out⟩
      case round =>
        obtain ⟨m, rfl, hm, rfl, hk2⟩ := hrel
        have HM := Lib.hid hm
        have HK2 := Lib.hid hk2
        have hml : m ≤ l.length := by omega
        clear hm hk2 fa1
        by_cases hlm : m < l.length
        · obtain ⟨bl, ol, cl, el, hbl, gl⟩ := HS.out.at hlm
          injection el with el _ el'
          subst el el'
          have fl := (HK2.out.cell (p := ⟨bl, ol + m * 2, none⟩) hbl (fun e => e)).trans (gl _ _ (setC_get l m hlm).1)
          have fa2 := (HK2.out.cell (p := ⟨ba, oa + i, none⟩) HFA.out.2 (fun e => e)).trans HFA.out.1
          clear gl hbl
          have i2 : (m : Int) < l.length := by omega
          obtain ⟨y, hy⟩ : ∃ y, (l[m]'hlm).1 = y := ⟨_, rfl⟩
          rw [hy] at fl
          have HY := Lib.hid hy
          clear hy
          by_cases he : y = x.id
          · have d1 : (y == x.id) = true := by simp [he]
            have HFF := Lib.hid (And.intro fl fa2)
            have HLB := Lib.hid (And.intro (block_lt_of_cell fl) (block_lt_of_cell fa2))
            have HLA := Lib.hid (fun n => last_c _ l m hlm (by omega) (wr.drewN n) ((HS.out.kept HK2.out (fun _ _ e => e)).kept ((Mod.refl _ wr).drewN n) (fun _ _ e => e)))
            have hyx : (l[m]'hlm).1 = (l[kx]'hkx).1 := by
              have := HX.out.2.1
              rw [HY.out, he, this]
            cases hb : lastB l m with
            | true =>
              have hmk : m = kx := last_one hlm hkx hb HX.out.2.2 hyx
              have hkm : kIf kx (m + 1) = (m : Int) := by unfold kIf; rw [if_pos (by omega), hmk]
              have HKM := Lib.hid hkm
              rw [hb] at HLA
              clear he hkm hmk hyx hb
              go_wp2_with fail
              go_region_held3 (fun w' => w'.cell? ⟨bl, ol + m * 2, none⟩ = some (.int .i64 y) ∧ w'.cell? ⟨ba, oa + i, none⟩ = some (.int .i64 x.id)) (first | exact HFF.out | exact hq9) (first | (go_at_call 13; refine (HLA.out 1).mono ?_; rintro e w9 ⟨rfl, hw9⟩; have hk9 : Kept wr w9 := by { obtain ⟨nq, rfl⟩ := hw9; exact ((Mod.refl _ wr).drewN 1).drewN nq }; have hq9 := And.intro ((hk9.cell (p := ⟨bl, ol + m * 2, none⟩) HLB.out.1 (fun e => e)).trans HFF.out.1) ((hk9.cell (p := ⟨ba, oa + i, none⟩) HLB.out.2 (fun e => e)).trans HFF.out.2)) | fail)
              go_wp2_with fail
              go_roundg (l.length - (m + 1))
              case measure => have := HM.out; omega
              case rel => exact ⟨m + 1, by go_num, by omega, by rw [HKM.out], HK2.out.then hk9⟩
            | false =>
              have hmk : m ≠ kx := by
                rintro rfl
                rw [HX.out.2.2] at hb
                cases hb
              have hkm : kIf kx (m + 1) = kIf kx m := by unfold kIf; split <;> split <;> omega
              have HKM := Lib.hid hkm
              rw [hb] at HLA
              clear he hkm hmk hyx hb
              go_wp2_with fail
              go_region_held3 (fun w' => w'.cell? ⟨bl, ol + m * 2, none⟩ = some (.int .i64 y) ∧ w'.cell? ⟨ba, oa + i, none⟩ = some (.int .i64 x.id)) (first | exact HFF.out | exact hq9) (first | (go_at_call 13; refine (HLA.out 1).mono ?_; rintro e w9 ⟨rfl, hw9⟩; have hk9 : Kept wr w9 := by { obtain ⟨nq, rfl⟩ := hw9; exact ((Mod.refl _ wr).drewN 1).drewN nq }; have hq9 := And.intro ((hk9.cell (p := ⟨bl, ol + m * 2, none⟩) HLB.out.1 (fun e => e)).trans HFF.out.1) ((hk9.cell (p := ⟨ba, oa + i, none⟩) HLB.out.2 (fun e => e)).trans HFF.out.2)) | fail)
              go_wp2_with fail
              go_roundg (l.length - (m + 1))
              case measure => have := HM.out; omega
              case rel => exact ⟨m + 1, by go_num, by omega, by rw [HKM.out], HK2.out.then hk9⟩
          · have d1 : (y == x.id) = false := by simp [he]
            have hkm : kIf kx (m + 1) = kIf kx m := by
              unfold kIf
              have hne : kx ≠ m := by
                rintro rfl
                apply he
                have := HX.out.2.1
                rw [this, ← HY.out]
              split <;> split <;> omega
            have HKM := Lib.hid hkm
            clear he hkm
            go_wp2_with fail
            go_quiet (fail)
            go_wp2_with fail
            go_roundg (l.length - (m + 1))
            case measure => have := HM.out; omega
            case rel => exact ⟨m + 1, by go_num, by omega, by rw [HKM.out], HK2.out.drewN _⟩
        · obtain rfl : m = l.length := by omega
          have hkk : kIf kx l.length = (kx : Int) := by unfold kIf; rw [if_pos hkx]
          rw [hkk]
          obtain ⟨bl, ol, cl, el, hbl, gl⟩ := HS.out.at hkx
          injection el with el _ el'
          subst el el'
          have fl : wr.cell? ⟨bl, ol + kx * 2 + 1, none⟩ = some (.int .i64 x.rd) := by
            have h := (HK2.out.cell (p := ⟨bl, ol + (kx * 2 + 1), none⟩) hbl (fun e => e)).trans (gl _ _ (setC_get l kx hkx).2)
            rw [← Nat.add_assoc] at h
            rw [h]
            have := HX.out.2.1
            rw [this]
          have HGL := Lib.hid (And.intro hbl gl)
          clear gl hbl hkk
          have i5 : (kx : Int) < l.length := by omega
          have i6 : ¬ (kx : Int) < 0 := by omega
          have hdi := due_iff (now := now) HI.out.sort hlt
          have hx' := HX.out.1
          rw [hx', HDE.out] at hdi
          have HX2 := Lib.hid hx'
          obtain ⟨bq, hbq⟩ : ∃ bq, bq = decide (i < D) := ⟨_, rfl⟩
          have q1 : decide (x.rd ≤ now) = bq := by rw [hbq]; exact decide_eq_decide.2 hdi.symm
          have q2 : decide ((i : Int) < (D : Int)) = bq := by rw [hbq]; exact decide_eq_decide.2 (by omega)
          have q3 : (bq != bq) = false := by simp
          have q4 : decide (i < D) = bq := by rw [hbq]
          have q5 : (!bq == bq) = false := by cases bq <;> rfl
          have hat : atI L (i + 1) = (kx : Int) := atI_succ hlt (hx'.trans HX.out.2.1)
          have HAT := Lib.hid hat
          clear hdi hbq hx' hat
          go_wp2_with fail
          cases i with
          | zero =>
            have p1 : decide ((0 : Int) ≤ -1) = false := by decide
            rw [show atI L 0 = -1 from rfl]
            go_quiet (fail)
            go_wp2_with fail
            go_roundg (m8 - 1)
            case measure => have := HJ.out; have := HM8.out; omega
            case rel => exact ⟨1, rfl, by have := HM8.out; omega, by rw [HAT.out], HK2.out.drewN _⟩
          | succ i =>
            have hli : i < L.length := by omega
            obtain ⟨ka, hka, hae, _⟩ := (HI.out.mem (L[i]'hli)).1 (List.getElem_mem hli)
            have hs := List.pairwise_iff_getElem.1 HI.out.sort i (i + 1) hli hlt (by omega)
            rw [HX2.out, hae, HX.out.2.1] at hs
            have hat2 : atI L (i + 1) = (ka : Int) := atI_succ hli hae
            rw [hat2]
            have fla : wr.cell? ⟨bl, ol + ka * 2 + 1, none⟩ = some (.int .i64 (l[ka]'hka).2) := by
              have h := (HK2.out.cell (p := ⟨bl, ol + (ka * 2 + 1), none⟩) HGL.out.1 (fun e => e)).trans (HGL.out.2 _ _ (setC_get l ka hka).2)
              rw [← Nat.add_assoc] at h
              exact h
            have hxr : x.rd = (l[kx]'hkx).2 := by have := HX.out.2.1; rw [this]
            obtain ⟨r1, hr1⟩ : ∃ r1, (l[ka]'hka).2 = r1 := ⟨_, rfl⟩
            unfold lessT at hs
            simp only at hs
            rw [hr1, ← hxr] at hs
            rw [hr1] at fla
            obtain ⟨r2, hr2⟩ : ∃ r2, x.rd = r2 := ⟨_, rfl⟩
            rw [hr2] at fl hs
            have p1 : decide ((0 : Int) ≤ (ka : Int)) = true := decide_eq_true (by omega)
            have p2 : (ka : Int) < l.length := by omega
            have p3 : ¬ (ka : Int) < 0 := by omega
            have p4 : (0 : Int) ≤ (ka : Int) := by omega
            have p5 : decide (r2 < r1) = false := decide_eq_false (by rcases hs with h | ⟨h, _⟩ <;> omega)
            have HKA := Lib.hid hka
            clear hat2 hae hxr hr1 q1 q2 q3 q4 q5 HX HX2
            by_cases he : r1 = r2
            · have p6 : (r1 == r2) = true := by simp [he]
              have p7 : decide ((kx : Int) ≤ (ka : Int)) = false := decide_eq_false (by rcases hs with h | ⟨_, h⟩ <;> omega)
              have p8 : decide (kx ≤ ka) = false := decide_eq_false (by rcases hs with h | ⟨_, h⟩ <;> omega)
              clear he hs hr2
              go_quiet (fail)
              go_wp2_with fail
              go_roundg (m8 - (i + 2))
              case measure => have := HJ.out; have := HM8.out; omega
              case rel => exact ⟨i + 2, by go_num, by have := HM8.out; omega, by rw [HAT.out], HK2.out.drewN _⟩
            · have p6 : (r1 == r2) = false := by simp [he]
              clear he hs hr2
              go_quiet (fail)
              go_wp2_with fail
              go_roundg (m8 - (i + 2))
              case measure => have := HJ.out; have := HM8.out; omega
              case rel => exact ⟨i + 2, by go_num, by have := HM8.out; omega, by rw [HAT.out], HK2.out.drewN _⟩
    · have hlt8 : ¬ i < m8 := by have := HM8.out; omega
      have hi8 : i = m8 := by have := HM8.out; omega
      subst hi8
      go_wp2_with fail
      go_loopg [10, 14] l.length (fun k s10 s14 wr2 => CntRel l w6 k s10 s14 wr2)
      case atStart => exact ⟨0, rfl, by omega, rfl, HKR.out⟩
      case round =>
        obtain ⟨m, rfl, hm, rfl, hk2⟩ := hrel
        have HM := Lib.hid hm
        have HK2 := Lib.hid hk2
        have hml : m ≤ l.length := by omega
        have hcl : ((List.range m).filter (lastB l)).length ≤ m := by
          have := List.length_filter_le (lastB l) (List.range m)
          rwa [List.length_range] at this
        have HCL := Lib.hid hcl
        clear hm hk2
        by_cases hlm : m < l.length
        · have i2 : (m : Int) < l.length := by omega
          have HLA := Lib.hid (last_c _ l m hlm (by omega) wr (HS.out.kept HK2.out (fun _ _ e => e)))
          have hsn : ((List.range (m + 1)).filter (lastB l)).length = ((List.range m).filter (lastB l)).length + (if lastB l m then 1 else 0) := by
            rw [List.range_succ, List.filter_append, List.length_append]
            congr 1
            rw [List.filter_cons]
            split <;> rfl
          generalize ((List.range m).filter (lastB l)).length = q at *
          cases hb : lastB l m with
          | true =>
            rw [hb] at HLA hsn
            simp only [if_true] at hsn
            have HSN := Lib.hid hsn
            have iw : IntKind.i64.wrap ((q : Int) + 1) = (q : Int) + 1 := by rw [IntKind.wrap_i64]; omega
            clear hsn hb hcl
            go_wp2_with (go_at_call 13; refine HLA.out.mono ?_; rintro e w9 ⟨rfl, nq, rfl⟩)
            go_roundg (l.length - (m + 1))
            case measure => have := HM.out; omega
            case rel => exact ⟨m + 1, by go_num, by omega, by rw [HSN.out]; go_num, HK2.out.drewN _⟩
          | false =>
            rw [hb] at HLA hsn
            simp only [Bool.false_eq_true, if_false, Nat.add_zero] at hsn
            have HSN := Lib.hid hsn
            clear hsn hb hcl
            go_wp2_with (go_at_call 13; refine HLA.out.mono ?_; rintro e w9 ⟨rfl, nq, rfl⟩)
            go_roundg (l.length - (m + 1))
            case measure => have := HM.out; omega
            case rel => exact ⟨m + 1, by go_num, by omega, by rw [HSN.out], HK2.out.drewN _⟩
        · obtain rfl : m = l.length := by omega
          have hcnt : ((List.range l.length).filter (lastB l)).length = i := by rw [← inv_len HI.out, HM8.out]
          rw [hcnt]
          have p1 : ((i : Int) == (i : Int)) = true := by simp
          have HLN := Lib.hid (len_c _ _ _ _ _ _ (HT.out.kept HK2.out))
          clear hcnt hcl HCL
          go_wp2_with (go_at_call 14; refine HLN.out.mono ?_; rintro e w9 ⟨rfl, rfl⟩)
          go_ret
          exact ⟨rfl, HK.out.then HK2.out⟩
end Go.Proofs.Ytgmnhjbejofnhaa
