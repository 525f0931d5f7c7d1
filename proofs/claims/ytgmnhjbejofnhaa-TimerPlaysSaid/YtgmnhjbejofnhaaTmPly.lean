/- TimerPlays, walked. Conditions: none. -/
import Derived.Test.YtgmnhjbejofnhaaTmK
import Derived.Deep.RegionHeld3
namespace Go.Proofs.Ytgmnhjbejofnhaa
open Go.RowKit Go.Lib

abbrev Act3 := Int × Int × Int
def actC (l : List Act3) : List Value := l.flatMap fun a => [.int .u8 a.1, .int .i64 a.2.1, .int .i64 a.2.2]
theorem actC_len (l : List Act3) : (actC l).length = l.length * 3 := by
  induction l with
  | nil => rfl
  | cons a l ih => simp [actC] at ih ⊢; omega
theorem actC_get (l : List Act3) : ∀ (k : Nat) (h : k < l.length), (actC l)[k * 3]? = some (.int .u8 (l[k]).1) ∧ (actC l)[k * 3 + 1]? = some (.int .i64 (l[k]).2.1) ∧ (actC l)[k * 3 + 2]? = some (.int .i64 (l[k]).2.2) := by
  induction l with
  | nil => intro k h; exact absurd h (by simp)
  | cons a l ih =>
    intro k h
    have e : actC (a :: l) = .int .u8 a.1 :: .int .i64 a.2.1 :: .int .i64 a.2.2 :: actC l := rfl
    cases k with
    | zero => exact ⟨rfl, rfl, rfl⟩
    | succ k =>
      have := ih k (by simpa using h)
      rw [e, show (k + 1) * 3 = k * 3 + 3 by omega]
      simpa using this
theorem plv_nil : Plv [] 0 [] [] := ⟨rfl, fun _ => Iff.rfl, List.Pairwise.nil, fun _ h => (by cases h), List.Pairwise.nil, (by simp [Uni, idsT])⟩
abbrev RdAc (w : World) (v : Value) (l : List Act3) : Prop := Rd w 3 v l.length (actC l)

set_option maxRecDepth 100000 in
theorem plays_big (v : Value) (l : List Act3) (hl : 300 < l.length) (w : World) (hv : RdAc w v l) :
    Calls Try.prog 7 #[v] w fun e w' => e = .returned (.bool true) ∧ Kept w w' := by
  obtain ⟨_, A, c, rfl, _⟩ := hv
  have h1 : (300 : Int) < l.length := by omega
  go_enter Try.func7, Try.ntmps7
  go_wp2_with (go_at_call 10; refine (awake_c _).mono ?_; rintro e w1 ⟨rfl, hm1⟩)
  go_ret
  exact ⟨rfl, hm1⟩
def PlayRel (l : List Act3) (w : World) (k : Nat) (s3 s4 s5 : Value) (wr : World) : Prop :=
  ∃ (i g n x : Nat) (M : List Th) (D : List (Int × Int)) (T : List Th), s3 = At g ∧ s4 = At x ∧ s5 = .int .i64 i ∧ i + k = l.length ∧ n ≤ i ∧ Bq w wr (fun _ => False) g M n x D ∧ Plv M n D T
def AskRel (i : Nat) (wb : World) (k : Nat) (s14 : Value) (wr : World) : Prop := ∃ m : Nat, s14 = .int .i64 m ∧ m + k = i + 1 ∧ Kept wb wr
theorem nextD_form (D : List (Int × Int)) : ∃ r1 r2 r3, nextD D = .tuple #[.int .i64 r1, .int .i64 r2, .bool r3] := by
  unfold nextD
  split <;> exact ⟨_, _, _, rfl⟩
theorem both_new {w w1 : World} (hk : Kept w w1) {w2 : World} (h : Tq w1 w2 w1.heap.size [] 0) : Bq w (w2.alloc (.cells #[.slice none 0 0] 49)) (fun _ => False) w1.heap.size [] 0 w2.heap.size [] := by
  obtain ⟨vt, h⟩ := h
  have hm : Kept w2 (w2.alloc (.cells #[.slice none 0 0] 49)) := (Mod.refl _ _).alloc _
  have h' := (h.lower hk).mod hm (fun _ _ e => e) ((hk.then h.kept).then hm)
  refine ⟨vt, .slice none 0 0, h', ⟨Blk.new _ _ _, World.ownsRow_nil _ _ _ _, by simp [Value.ownBlock], (hk.then h.kept).size⟩, fun k hk' e => ?_, fun _ _ e => e, fun _ e => e.elim⟩
  rcases e with e | e
  · have := (h.tm.lt k hk').2
    omega
  · simp [Value.ownBlock] at e

set_option maxHeartbeats 16000000 in
set_option maxRecDepth 100000 in
theorem plays_small (v : Value) (l : List Act3) (hl1 : l.length ≤ 300) (w : World) (hv : RdAc w v l) :
    Calls Try.prog 7 #[v] w fun e w' => e = .returned (.bool true) ∧ Kept w w' := by
  have H := Lib.hid hv
  obtain ⟨_, A, c, rfl, _⟩ := hv
  have hd1 : decide ((300 : Int) < l.length) = false := by simp; omega
  go_enter Try.func7, Try.ntmps7
  go_wp2_with fail
  refine (new_q _).mono ?_
  rintro e w1 ⟨rfl, hq1⟩
  have hb0 := both_new (Mod.refl _ w) hq1
  have HB0 := Lib.hid hb0
  clear hb0 hq1
  go_wp2_with fail
  go_loopg [3, 4, 5] l.length (fun k s3 s4 s5 wr => PlayRel l w k s3 s4 s5 wr)
  case atStart => exact ⟨0, _, 0, _, [], [], [], rfl, rfl, rfl, by omega, Nat.le_refl _, HB0.out, plv_nil⟩
  case round =>
    obtain ⟨i, g, n, x, M, D, T, rfl, rfl, rfl, hi, hn, hb, hp⟩ := hrel
    have HJ := Lib.hid hi
    have HB := Lib.hid hb
    have HP := Lib.hid hp
    have hil : i ≤ l.length := by omega
    have hML := hp.len
    have hMn : M.length ≤ n := by obtain ⟨_, _, h⟩ := hb; exact h.t.len
    have hD : D.length ≤ 1000 := by omega
    clear hi hb hp
    by_cases hlt : i < l.length
    · obtain ⟨b1, o1, c1', e1, hb1, g1⟩ := H.out.at hlt
      injection e1 with e1 _ e1'
      subst e1 e1'
      obtain ⟨q1, q2, q3⟩ := actC_get l i hlt
      have hkw := HB.out.kept
      have f1 := (hkw.cell (p := ⟨b1, o1 + i * 3, none⟩) hb1 (fun e => e)).trans (g1 _ _ q1)
      have f2 := (hkw.cell (p := ⟨b1, o1 + (i * 3 + 1), none⟩) hb1 (fun e => e)).trans (g1 _ _ q2)
      have f3 := (hkw.cell (p := ⟨b1, o1 + (i * 3 + 2), none⟩) hb1 (fun e => e)).trans (g1 _ _ q3)
      rw [← Nat.add_assoc] at f2 f3
      have i1 : (i : Int) < l.length := by omega
      obtain ⟨a1, ha1⟩ : ∃ a1, (l[i]'hlt).1 = a1 := ⟨_, rfl⟩
      obtain ⟨a2, ha2⟩ : ∃ a2, (l[i]'hlt).2.1 = a2 := ⟨_, rfl⟩
      obtain ⟨a3, ha3⟩ : ∃ a3, (l[i]'hlt).2.2 = a3 := ⟨_, rfl⟩
      rw [ha1] at f1
      rw [ha2] at f2
      rw [ha3] at f3
      have hBx := HB.out.aim (ob := .cells #[.int .u8 a1, .int .i64 a2, .int .i64 a3] 51) rfl
      have hgx := bq_mod hBx
      have c1x : (wr.alloc (.cells #[.int .u8 a1, .int .i64 a2, .int .i64 a3] 51)).cell? ⟨wr.heap.size, 1, none⟩ = some (.int .i64 a2) := (Blk.new _ _ _).cell 1
      have c2x : (wr.alloc (.cells #[.int .u8 a1, .int .i64 a2, .int .i64 a3] 51)).cell? ⟨wr.heap.size, 2, none⟩ = some (.int .i64 a3) := (Blk.new _ _ _).cell 2
      have HBX := Lib.hid hBx
      have HC := Lib.hid (And.intro c1x (And.intro c2x hgx))
      clear g1 q1 q2 q3 hkw hBx hgx ha1 ha2 ha3 HB
      by_cases h1 : a1 = 1
      · have d1 : (a1 == 1) = true := by simp [h1]
        obtain ⟨bd, hbd⟩ : ∃ bd, (findT M a2).isSome = bd := ⟨_, rfl⟩
        have hbd2 := HP.out.has a2
        rw [hbd] at hbd2
        have HBD := Lib.hid (And.intro hbd hbd2.symm)
        have tb : (bd != bd) = false := by simp
        clear h1 hbd hbd2
        go_wp2_with fail
        go_region_held3 (fun w' => w'.cell? ⟨wr.heap.size, 1, none⟩ = some (.int .i64 a2)) (first | exact HC.out.1 | exact hq3 | exact hq4) (first | (go_at_call 18; refine (bt_drop a2 (HBX.out.keep ((Mod.refl _ _).drew))).mono ?_; rw [HBD.out.1]; rintro e w3 ⟨rfl, hB3, hm3⟩; have hq3 := (hm3.cell (p := ⟨wr.heap.size, 1, none⟩) HC.out.2.2 (fun e => e rfl)).trans HC.out.1) | (go_at_call 21; refine (bx_drop a2 hD hB3).mono ?_; rw [HBD.out.2]; rintro e w4 ⟨rfl, hB4, hm4⟩; have hq4 := (hm4.cell (p := ⟨wr.heap.size, 1, none⟩) (block_lt_of_cell hq3) (fun e => e rfl)).trans hq3; have HT := Lib.hid hB4; have HPT := Lib.hid (HP.out.drop a2)) | fail)
        clear hB3 hm3 hq3 hB4 hm4 hq4 tb c1x c2x
        have HTL := Lib.hid HPT.out.next
        have hTM : (dropD D a2).length ≤ 1000 := by have h1 := HPT.out.len; have h2 : ((dropT M a2)).length ≤ ((n)) := (by obtain ⟨_, _, h⟩ := HT.out; exact h.t.len); omega
        have HTM := Lib.hid hTM
        clear hTM
        obtain ⟨r1, r2, r3, hnd⟩ := nextD_form ((dropD D a2))
        have HND := Lib.hid hnd
        clear hnd
        go_wp2_with fail
        refine (bt_next HT.out).mono ?_
        rw [HTL.out, HND.out]
        rintro e wa ⟨rfl, hma⟩
        have hTa := HT.out.keep hma
        go_wp2_with fail
        refine (bx_next HTM.out hTa).mono ?_
        rw [HND.out]
        rintro e wb ⟨rfl, hmb⟩
        have hTb := hTa.keep hmb
        obtain ⟨Ax, cx, hcx⟩ := hTb.cellx
        have HTB := Lib.hid hTb
        have HCX := Lib.hid hcx
        have hlen := HPT.out.len
        have t1 : (r1 != r1) = false := by simp
        have t2 : (r2 != r2) = false := by simp
        have t3 : (r3 != r3) = false := by simp
        obtain ⟨dl, hdl⟩ : ∃ dl, ((dropD D a2)).length = dl := ⟨_, rfl⟩
        rw [hdl] at hlen HCX hcx
        have hlq : ((((dropT M a2)).length : Nat) : Int) = (dl : Int) := by omega
        have HLQ := Lib.hid hlq
        clear hlq
        have t4 : ((dl : Int) != (dl : Int)) = false := by simp
        clear hma hmb hTa hTb hdl hlen hcx
        go_wp2_with fail
        go_region_held3 (fun w' => w'.cell? ⟨x, 0, none⟩ = some (.slice Ax dl cx)) (first | exact HCX.out | exact hq9) (first | (go_at_call 14; refine (bt_len (HTB.out.keep ((Mod.refl _ _).drew))).mono ?_; rw [HLQ.out]; rintro e wc ⟨rfl, rfl⟩; have hq9 := HCX.out) | fail)
        clear t1 t2 t3 t4
        go_wp2_with fail
        go_loopg [14] (i + 1) (fun k s14 wr2 => AskRel i wb k s14 wr2)
        case atStart => exact ⟨0, rfl, by omega, (Mod.refl _ wb).drew⟩
        case round =>
          obtain ⟨m, rfl, hm, hka⟩ := hrel
          have HMM := Lib.hid hm
          have HKA := Lib.hid hka
          clear hm hka
          by_cases hmi : m < i + 1
          · have hml : m < l.length := by omega
            obtain ⟨b3, o3, c3, e3, hb3, g3⟩ := H.out.at hml
            injection e3 with e3 _ e3'
            injection e3 with e3
            injection e3 with e3 e3''
            subst e3 e3' e3''
            have hkw := HTB.out.kept.then HKA.out
            have f5 := (hkw.cell (p := ⟨b1, o1 + (m * 3 + 1), none⟩) hb3 (fun e => e)).trans (g3 _ _ (actC_get l m hml).2.1)
            rw [← Nat.add_assoc] at f5
            obtain ⟨y, hy⟩ : ∃ y, (l[m]'hml).2.1 = y := ⟨_, rfl⟩
            rw [hy] at f5
            have i3 : (m : Int) < l.length := by omega
            have d5 : decide ((m : Int) ≤ (i : Int)) = true := decide_eq_true (by omega)
            have hat := HPT.out.at_ y
            have hr1 : atR ((dropT M a2)) y = (atD ((dropD D a2)) y).getD 0 := by unfold atR; rw [hat]
            have hr2 : atB ((dropT M a2)) y = (atD ((dropD D a2)) y).isSome := by unfold atB; rw [hat]
            have HBA := Lib.hid (bt_at y (HTB.out.keep HKA.out))
            generalize atR ((dropT M a2)) y = ra at *
            generalize atB ((dropT M a2)) y = rb at *
            have HAT := Lib.hid (And.intro hr1 hr2)
            have t5 : (ra != ra) = false := by simp
            have t6 : (rb != rb) = false := by simp
            have HF5 := Lib.hid (And.intro f5 (block_lt_of_cell f5))
            clear g3 hb3 hkw hy hat hr1 hr2
            go_wp2_with (first
              | (go_at_call 16; refine HBA.out.mono ?_; rintro e wd ⟨rfl, hmd⟩; have hkd := HKA.out.then hmd; have f6 := (hmd.cell (p := ⟨b1, o1 + m * 3 + 1, none⟩) HF5.out.2 (fun e => e)).trans HF5.out.1; clear f5)
              | (go_at_call 27; refine (bx_at y HTM.out ra rb HAT.out.1 HAT.out.2 (HTB.out.keep hkd)).mono ?_; rintro e we ⟨rfl, rfl⟩)
              | fail)
            go_roundg (i + 1 - (m + 1))
            case measure => have := HMM.out; omega
            case rel => exact ⟨m + 1, by go_num, by omega, hkd⟩
          · obtain rfl : m = i + 1 := by have := HMM.out; omega
            have d5 : decide (((i + 1 : Nat) : Int) ≤ (i : Int)) = false := decide_eq_false (by omega)
            have d6 : decide ((i : Int) + 1 ≤ (i : Int)) = false := decide_eq_false (by omega)
            go_wp2_with fail
            go_roundg (l.length - (i + 1))
            case measure => have := HJ.out; omega
            case rel => exact ⟨i + 1, g, _, _, _, _, _, rfl, rfl, by go_num, by omega, by omega, (HTB.out.keep HKA.out).weak, HPT.out⟩
      · have d1 : (a1 == 1) = false := by simp [h1]
        by_cases h2 : a1 = 2
        · have d2 : (a1 == 2) = true := by simp [h2]
          have hlq : (idsT (M.take (dueN M a3))).length ≤ 4611686018427387904 := by unfold idsT; rw [List.length_map, List.length_take]; omega
          have HLQ2 := Lib.hid hlq
          clear h1 h2 hlq
          go_wp2_with fail
          go_region_held3 (fun w' => w'.cell? ⟨wr.heap.size, 2, none⟩ = some (.int .i64 a3)) (first | exact HC.out.2.1 | exact hq3 | exact hq4 | exact hq5) (first | (go_at_call 12; refine (bt_due a3 (HBX.out.keep ((Mod.refl _ _).drew))).mono ?_; rintro e w3 ⟨v3, rfl, ho3, hB3, hm3⟩; have hq3 := (hm3.cell (p := ⟨wr.heap.size, 2, none⟩) HC.out.2.2 (fun e => e rfl)).trans HC.out.2.1) | (go_at_call 22; refine (bx_due a3 hD hB3).mono ?_; rintro e w4 ⟨v4, o4, D4, rfl, hd4, ho4, hB4, hm4⟩; have hq4 := (hm4.cell (p := ⟨wr.heap.size, 2, none⟩) (block_lt_of_cell hq3) (fun e => e (.inl rfl))).trans hq3; have ho34 := own_mod ho3 hm4 (fun k hk e => e (.inr hk)); obtain ⟨hpo, T4, hpT⟩ := pl_due hd4 HP.out; rw [hpo] at ho4) | (go_at_call 15; refine (ints12k _ _ _ _ HLQ2.out true (by simp) _ (Rd.of_own ho34).asInts (Rd.of_own ho4).asInts).mono ?_; rintro e w5 ⟨rfl, hm5⟩; have hq5 := (hm5.cell (p := ⟨wr.heap.size, 2, none⟩) (block_lt_of_cell hq4) (fun e => e)).trans hq4; have HT := Lib.hid (hB4.keep hm5); have HPT := Lib.hid hpT) | fail)
          clear hB3 hm3 hq3 hB4 hm4 hq4 hm5 hq5 ho3 ho4 ho34 hpo hpT hd4 c1x c2x
          have HTL := Lib.hid HPT.out.next
          have hTM : (D4).length ≤ 1000 := by have h1 := HPT.out.len; have h2 : ((M.drop (dueN M a3))).length ≤ ((n)) := (by obtain ⟨_, _, h⟩ := HT.out; exact h.t.len); omega
          have HTM := Lib.hid hTM
          clear hTM
          obtain ⟨r1, r2, r3, hnd⟩ := nextD_form ((D4))
          have HND := Lib.hid hnd
          clear hnd
          go_wp2_with fail
          refine (bt_next HT.out).mono ?_
          rw [HTL.out, HND.out]
          rintro e wa ⟨rfl, hma⟩
          have hTa := HT.out.keep hma
          go_wp2_with fail
          refine (bx_next HTM.out hTa).mono ?_
          rw [HND.out]
          rintro e wb ⟨rfl, hmb⟩
          have hTb := hTa.keep hmb
          obtain ⟨Ax, cx, hcx⟩ := hTb.cellx
          have HTB := Lib.hid hTb
          have HCX := Lib.hid hcx
          have hlen := HPT.out.len
          have t1 : (r1 != r1) = false := by simp
          have t2 : (r2 != r2) = false := by simp
          have t3 : (r3 != r3) = false := by simp
          obtain ⟨dl, hdl⟩ : ∃ dl, ((D4)).length = dl := ⟨_, rfl⟩
          rw [hdl] at hlen HCX hcx
          have hlq : ((((M.drop (dueN M a3))).length : Nat) : Int) = (dl : Int) := by omega
          have HLQ := Lib.hid hlq
          clear hlq
          have t4 : ((dl : Int) != (dl : Int)) = false := by simp
          clear hma hmb hTa hTb hdl hlen hcx
          go_wp2_with fail
          go_region_held3 (fun w' => w'.cell? ⟨x, 0, none⟩ = some (.slice Ax dl cx)) (first | exact HCX.out | exact hq9) (first | (go_at_call 14; refine (bt_len (HTB.out.keep ((Mod.refl _ _).drew))).mono ?_; rw [HLQ.out]; rintro e wc ⟨rfl, rfl⟩; have hq9 := HCX.out) | fail)
          clear t1 t2 t3 t4
          go_wp2_with fail
          go_loopg [14] (i + 1) (fun k s14 wr2 => AskRel i wb k s14 wr2)
          case atStart => exact ⟨0, rfl, by omega, (Mod.refl _ wb).drew⟩
          case round =>
            obtain ⟨m, rfl, hm, hka⟩ := hrel
            have HMM := Lib.hid hm
            have HKA := Lib.hid hka
            clear hm hka
            by_cases hmi : m < i + 1
            · have hml : m < l.length := by omega
              obtain ⟨b3, o3, c3, e3, hb3, g3⟩ := H.out.at hml
              injection e3 with e3 _ e3'
              injection e3 with e3
              injection e3 with e3 e3''
              subst e3 e3' e3''
              have hkw := HTB.out.kept.then HKA.out
              have f5 := (hkw.cell (p := ⟨b1, o1 + (m * 3 + 1), none⟩) hb3 (fun e => e)).trans (g3 _ _ (actC_get l m hml).2.1)
              rw [← Nat.add_assoc] at f5
              obtain ⟨y, hy⟩ : ∃ y, (l[m]'hml).2.1 = y := ⟨_, rfl⟩
              rw [hy] at f5
              have i3 : (m : Int) < l.length := by omega
              have d5 : decide ((m : Int) ≤ (i : Int)) = true := decide_eq_true (by omega)
              have hat := HPT.out.at_ y
              have hr1 : atR ((M.drop (dueN M a3))) y = (atD ((D4)) y).getD 0 := by unfold atR; rw [hat]
              have hr2 : atB ((M.drop (dueN M a3))) y = (atD ((D4)) y).isSome := by unfold atB; rw [hat]
              have HBA := Lib.hid (bt_at y (HTB.out.keep HKA.out))
              generalize atR ((M.drop (dueN M a3))) y = ra at *
              generalize atB ((M.drop (dueN M a3))) y = rb at *
              have HAT := Lib.hid (And.intro hr1 hr2)
              have t5 : (ra != ra) = false := by simp
              have t6 : (rb != rb) = false := by simp
              have HF5 := Lib.hid (And.intro f5 (block_lt_of_cell f5))
              clear g3 hb3 hkw hy hat hr1 hr2
              go_wp2_with (first
                | (go_at_call 16; refine HBA.out.mono ?_; rintro e wd ⟨rfl, hmd⟩; have hkd := HKA.out.then hmd; have f6 := (hmd.cell (p := ⟨b1, o1 + m * 3 + 1, none⟩) HF5.out.2 (fun e => e)).trans HF5.out.1; clear f5)
                | (go_at_call 27; refine (bx_at y HTM.out ra rb HAT.out.1 HAT.out.2 (HTB.out.keep hkd)).mono ?_; rintro e we ⟨rfl, rfl⟩)
                | fail)
              go_roundg (i + 1 - (m + 1))
              case measure => have := HMM.out; omega
              case rel => exact ⟨m + 1, by go_num, by omega, hkd⟩
            · obtain rfl : m = i + 1 := by have := HMM.out; omega
              have d5 : decide (((i + 1 : Nat) : Int) ≤ (i : Int)) = false := decide_eq_false (by omega)
              have d6 : decide ((i : Int) + 1 ≤ (i : Int)) = false := decide_eq_false (by omega)
              go_wp2_with fail
              go_roundg (l.length - (i + 1))
              case measure => have := HJ.out; omega
              case rel => exact ⟨i + 1, g, _, _, _, _, _, rfl, rfl, by go_num, by omega, by omega, (HTB.out.keep HKA.out).weak, HPT.out⟩
        · have d2 : (a1 == 2) = false := by simp [h2]
          by_cases h3 : a1 = 3
          · have d3 : (a1 == 3) = true := by simp [h3]
            clear h1 h2 h3
            go_wp2_with (first
              | (go_at_call 19; refine (bt_copy HBX.out).mono ?_; rintro e w3 ⟨gu, vu, rfl, hu3, hB3⟩; have c1y := (hu3.kept.cell (p := ⟨wr.heap.size, 1, none⟩) HC.out.2.2 (fun e => e)).trans HC.out.1; have c2y := (hu3.kept.cell (p := ⟨wr.heap.size, 2, none⟩) HC.out.2.2 (fun e => e)).trans HC.out.2.1; have hu3w := hu3.lower HBX.out.kept; clear hu3)
              | (go_at_call 17; refine (bt_put a2 a3 (by omega) hB3).mono ?_; rintro e w4 ⟨rfl, hB4, hm4⟩; have hu4 := hu3w.mod hm4 (fun k hk e => e (.inr hk)) hB4.kept; clear hB3 c1y c2y hm4 hu3w)
              | (go_at_call 12; refine (bt_due 4611686018427387904 hB4).mono ?_; rintro e w5 ⟨v5, rfl, _, hB5, hm5⟩; have hu5 := hu4.mod hm5 (fun k hk e => e (.inr hk)) hB5.kept; clear hB4 hm5 hu4)
              | (go_at_call 23; refine (bx_copy hD hB5 hu5 (Mod.refl _ _)).mono ?_; rintro e w6 ⟨x6, rfl, hB6⟩; have HT := Lib.hid hB6; have HPT := HP; clear hB5 hu5 hB6)
              | (go_at_call 25; fail)
              | fail)
            clear c1x c2x
            have HTL := Lib.hid HPT.out.next
            have hTM : (D).length ≤ 1000 := by have h1 := HPT.out.len; have h2 : ((M)).length ≤ ((n)) := (by obtain ⟨_, _, h⟩ := HT.out; exact h.t.len); omega
            have HTM := Lib.hid hTM
            clear hTM
            obtain ⟨r1, r2, r3, hnd⟩ := nextD_form ((D))
            have HND := Lib.hid hnd
            clear hnd
            refine (bt_next HT.out).mono ?_
            rw [HTL.out, HND.out]
            rintro e wa ⟨rfl, hma⟩
            have hTa := HT.out.keep hma
            go_wp2_with fail
            refine (bx_next HTM.out hTa).mono ?_
            rw [HND.out]
            rintro e wb ⟨rfl, hmb⟩
            have hTb := hTa.keep hmb
            obtain ⟨Ax, cx, hcx⟩ := hTb.cellx
            have HTB := Lib.hid hTb
            have HCX := Lib.hid hcx
            have hlen := HPT.out.len
            have t1 : (r1 != r1) = false := by simp
            have t2 : (r2 != r2) = false := by simp
            have t3 : (r3 != r3) = false := by simp
            obtain ⟨dl, hdl⟩ : ∃ dl, ((D)).length = dl := ⟨_, rfl⟩
            rw [hdl] at hlen HCX hcx
            have hlq : ((((M)).length : Nat) : Int) = (dl : Int) := by omega
            have HLQ := Lib.hid hlq
            clear hlq
            have t4 : ((dl : Int) != (dl : Int)) = false := by simp
            clear hma hmb hTa hTb hdl hlen hcx
            go_wp2_with fail
            go_region_held3 (fun w' => w'.cell? ⟨x6, 0, none⟩ = some (.slice Ax dl cx)) (first | exact HCX.out | exact hq9) (first | (go_at_call 14; refine (bt_len (HTB.out.keep ((Mod.refl _ _).drew))).mono ?_; rw [HLQ.out]; rintro e wc ⟨rfl, rfl⟩; have hq9 := HCX.out) | fail)
            clear t1 t2 t3 t4
            go_wp2_with fail
            go_loopg [14] (i + 1) (fun k s14 wr2 => AskRel i wb k s14 wr2)
            case atStart => exact ⟨0, rfl, by omega, (Mod.refl _ wb).drew⟩
            case round =>
              obtain ⟨m, rfl, hm, hka⟩ := hrel
              have HMM := Lib.hid hm
              have HKA := Lib.hid hka
              clear hm hka
              by_cases hmi : m < i + 1
              · have hml : m < l.length := by omega
                obtain ⟨b3, o3, c3, e3, hb3, g3⟩ := H.out.at hml
                injection e3 with e3 _ e3'
                injection e3 with e3
                injection e3 with e3 e3''
                subst e3 e3' e3''
                have hkw := HTB.out.kept.then HKA.out
                have f5 := (hkw.cell (p := ⟨b1, o1 + (m * 3 + 1), none⟩) hb3 (fun e => e)).trans (g3 _ _ (actC_get l m hml).2.1)
                rw [← Nat.add_assoc] at f5
                obtain ⟨y, hy⟩ : ∃ y, (l[m]'hml).2.1 = y := ⟨_, rfl⟩
                rw [hy] at f5
                have i3 : (m : Int) < l.length := by omega
                have d5 : decide ((m : Int) ≤ (i : Int)) = true := decide_eq_true (by omega)
                have hat := HPT.out.at_ y
                have hr1 : atR ((M)) y = (atD ((D)) y).getD 0 := by unfold atR; rw [hat]
                have hr2 : atB ((M)) y = (atD ((D)) y).isSome := by unfold atB; rw [hat]
                have HBA := Lib.hid (bt_at y (HTB.out.keep HKA.out))
                generalize atR ((M)) y = ra at *
                generalize atB ((M)) y = rb at *
                have HAT := Lib.hid (And.intro hr1 hr2)
                have t5 : (ra != ra) = false := by simp
                have t6 : (rb != rb) = false := by simp
                have HF5 := Lib.hid (And.intro f5 (block_lt_of_cell f5))
                clear g3 hb3 hkw hy hat hr1 hr2
                go_wp2_with (first
                  | (go_at_call 16; refine HBA.out.mono ?_; rintro e wd ⟨rfl, hmd⟩; have hkd := HKA.out.then hmd; have f6 := (hmd.cell (p := ⟨b1, o1 + m * 3 + 1, none⟩) HF5.out.2 (fun e => e)).trans HF5.out.1; clear f5)
                  | (go_at_call 27; refine (bx_at y HTM.out ra rb HAT.out.1 HAT.out.2 (HTB.out.keep hkd)).mono ?_; rintro e we ⟨rfl, rfl⟩)
                  | fail)
                go_roundg (i + 1 - (m + 1))
                case measure => have := HMM.out; omega
                case rel => exact ⟨m + 1, by go_num, by omega, hkd⟩
              · obtain rfl : m = i + 1 := by have := HMM.out; omega
                have d5 : decide (((i + 1 : Nat) : Int) ≤ (i : Int)) = false := decide_eq_false (by omega)
                have d6 : decide ((i : Int) + 1 ≤ (i : Int)) = false := decide_eq_false (by omega)
                go_wp2_with fail
                go_roundg (l.length - (i + 1))
                case measure => have := HJ.out; omega
                case rel => exact ⟨i + 1, gu, _, _, _, _, _, rfl, rfl, by go_num, by omega, by omega, (HTB.out.keep HKA.out).weak, HPT.out⟩
          · have d3 : (a1 == 3) = false := by simp [h3]
            clear h1 h2 h3
            go_wp2_with (first
              | (go_at_call 17; refine (bt_put a2 a3 (by omega) HBX.out).mono ?_; rintro e w3 ⟨rfl, hB3, hm3⟩; have c1y := (hm3.cell (p := ⟨wr.heap.size, 1, none⟩) HC.out.2.2 (fun e => e rfl)).trans HC.out.1; have c2y := (hm3.cell (p := ⟨wr.heap.size, 2, none⟩) HC.out.2.2 (fun e => e rfl)).trans HC.out.2.1; clear hm3)
              | (go_at_call 24; refine (bx_put a2 a3 hD hB3).mono ?_; clear hB3 c1y c2y; rintro e w4 ⟨rfl, hB4, _⟩; have HT := Lib.hid hB4; have HPT := Lib.hid (HP.out.put a2 a3); clear hB4)
              | (go_at_call 25; fail)
              | fail)
            clear c1x c2x
            have HTL := Lib.hid HPT.out.next
            have hTM : (dropD D a2 ++ [(a2, a3)]).length ≤ 1000 := by have h1 := HPT.out.len; have h2 : ((putT M n a2 a3)).length ≤ ((n + 1)) := (by obtain ⟨_, _, h⟩ := HT.out; exact h.t.len); omega
            have HTM := Lib.hid hTM
            clear hTM
            obtain ⟨r1, r2, r3, hnd⟩ := nextD_form ((dropD D a2 ++ [(a2, a3)]))
            have HND := Lib.hid hnd
            clear hnd
            refine (bt_next HT.out).mono ?_
            rw [HTL.out, HND.out]
            rintro e wa ⟨rfl, hma⟩
            have hTa := HT.out.keep hma
            go_wp2_with fail
            refine (bx_next HTM.out hTa).mono ?_
            rw [HND.out]
            rintro e wb ⟨rfl, hmb⟩
            have hTb := hTa.keep hmb
            obtain ⟨Ax, cx, hcx⟩ := hTb.cellx
            have HTB := Lib.hid hTb
            have HCX := Lib.hid hcx
            have hlen := HPT.out.len
            have t1 : (r1 != r1) = false := by simp
            have t2 : (r2 != r2) = false := by simp
            have t3 : (r3 != r3) = false := by simp
            obtain ⟨dl, hdl⟩ : ∃ dl, ((dropD D a2 ++ [(a2, a3)])).length = dl := ⟨_, rfl⟩
            rw [hdl] at hlen HCX hcx
            have hlq : ((((putT M n a2 a3)).length : Nat) : Int) = (dl : Int) := by omega
            have HLQ := Lib.hid hlq
            clear hlq
            have t4 : ((dl : Int) != (dl : Int)) = false := by simp
            clear hma hmb hTa hTb hdl hlen hcx
            go_wp2_with fail
            go_region_held3 (fun w' => w'.cell? ⟨x, 0, none⟩ = some (.slice Ax dl cx)) (first | exact HCX.out | exact hq9) (first | (go_at_call 14; refine (bt_len (HTB.out.keep ((Mod.refl _ _).drew))).mono ?_; rw [HLQ.out]; rintro e wc ⟨rfl, rfl⟩; have hq9 := HCX.out) | fail)
            clear t1 t2 t3 t4
            go_wp2_with fail
            go_loopg [14] (i + 1) (fun k s14 wr2 => AskRel i wb k s14 wr2)
            case atStart => exact ⟨0, rfl, by omega, (Mod.refl _ wb).drew⟩
            case round =>
              obtain ⟨m, rfl, hm, hka⟩ := hrel
              have HMM := Lib.hid hm
              have HKA := Lib.hid hka
              clear hm hka
              by_cases hmi : m < i + 1
              · have hml : m < l.length := by omega
                obtain ⟨b3, o3, c3, e3, hb3, g3⟩ := H.out.at hml
                injection e3 with e3 _ e3'
                injection e3 with e3
                injection e3 with e3 e3''
                subst e3 e3' e3''
                have hkw := HTB.out.kept.then HKA.out
                have f5 := (hkw.cell (p := ⟨b1, o1 + (m * 3 + 1), none⟩) hb3 (fun e => e)).trans (g3 _ _ (actC_get l m hml).2.1)
                rw [← Nat.add_assoc] at f5
                obtain ⟨y, hy⟩ : ∃ y, (l[m]'hml).2.1 = y := ⟨_, rfl⟩
                rw [hy] at f5
                have i3 : (m : Int) < l.length := by omega
                have d5 : decide ((m : Int) ≤ (i : Int)) = true := decide_eq_true (by omega)
                have hat := HPT.out.at_ y
                have hr1 : atR ((putT M n a2 a3)) y = (atD ((dropD D a2 ++ [(a2, a3)])) y).getD 0 := by unfold atR; rw [hat]
                have hr2 : atB ((putT M n a2 a3)) y = (atD ((dropD D a2 ++ [(a2, a3)])) y).isSome := by unfold atB; rw [hat]
                have HBA := Lib.hid (bt_at y (HTB.out.keep HKA.out))
                generalize atR ((putT M n a2 a3)) y = ra at *
                generalize atB ((putT M n a2 a3)) y = rb at *
                have HAT := Lib.hid (And.intro hr1 hr2)
                have t5 : (ra != ra) = false := by simp
                have t6 : (rb != rb) = false := by simp
                have HF5 := Lib.hid (And.intro f5 (block_lt_of_cell f5))
                clear g3 hb3 hkw hy hat hr1 hr2
                go_wp2_with (first
                  | (go_at_call 16; refine HBA.out.mono ?_; rintro e wd ⟨rfl, hmd⟩; have hkd := HKA.out.then hmd; have f6 := (hmd.cell (p := ⟨b1, o1 + m * 3 + 1, none⟩) HF5.out.2 (fun e => e)).trans HF5.out.1; clear f5)
                  | (go_at_call 27; refine (bx_at y HTM.out ra rb HAT.out.1 HAT.out.2 (HTB.out.keep hkd)).mono ?_; rintro e we ⟨rfl, rfl⟩)
                  | fail)
                go_roundg (i + 1 - (m + 1))
                case measure => have := HMM.out; omega
                case rel => exact ⟨m + 1, by go_num, by omega, hkd⟩
              · obtain rfl : m = i + 1 := by have := HMM.out; omega
                have d5 : decide (((i + 1 : Nat) : Int) ≤ (i : Int)) = false := decide_eq_false (by omega)
                have d6 : decide ((i : Int) + 1 ≤ (i : Int)) = false := decide_eq_false (by omega)
                go_wp2_with fail
                go_roundg (l.length - (i + 1))
                case measure => have := HJ.out; omega
                case rel => exact ⟨i + 1, g, _, _, _, _, _, rfl, rfl, by go_num, by omega, by omega, (HTB.out.keep HKA.out).weak, HPT.out⟩
    · obtain rfl : i = l.length := by omega
      have hlq : (idsT (M.take (dueN M 9223372036854775807))).length ≤ 4611686018427387904 := by unfold idsT; rw [List.length_map, List.length_take]; omega
      have HLQ2 := Lib.hid hlq
      clear hlq
      go_wp2_with (first
        | (go_at_call 12; refine (bt_due 9223372036854775807 HB.out).mono ?_; rintro e w3 ⟨v3, rfl, ho3, hB3, _⟩)
        | (go_at_call 22; refine (bx_due 9223372036854775807 hD hB3).mono ?_; rintro e w4 ⟨v4, o4, D4, rfl, hd4, ho4, hB4, hm4⟩; have ho34 := own_mod ho3 hm4 (fun k hk e => e (.inr hk)); have hpd := pl_due hd4 HP.out; rw [hpd.1] at ho4; clear hpd hd4 ho3 hB3 hm4)
        | (go_at_call 15; refine (ints12k _ _ _ _ HLQ2.out true (by simp) _ (Rd.of_own ho34).asInts (Rd.of_own ho4).asInts).mono ?_; clear ho34 ho4; rintro e w5 ⟨rfl, hm5⟩; have hkz := hB4.kept.then hm5; clear hB4 hm5)
        | (go_at_call 10; refine (awake_c _).mono ?_; rintro e w6 ⟨rfl, hm6⟩)
        | fail)
      go_ret
      exact ⟨rfl, hkz.then hm6⟩
end Go.Proofs.Ytgmnhjbejofnhaa
