/- TimerFirst, walked. Conditions: none. -/
import Derived.Test.YtgmnhjbejofnhaaTmRow
namespace Go.Proofs.Ytgmnhjbejofnhaa
open Go.RowKit Go.Lib

theorem first_big (v : Value) (l : List (Int × Int)) (hl : 150 < l.length) (w : World) (hv : RdS w v l) :
    Calls Try.prog 9 #[v] w fun e w' => e = .returned (.bool true) ∧ Kept w w' := by
  obtain ⟨_, A, c, rfl, _⟩ := hv
  have h1 : (150 : Int) < l.length := by omega
  go_enter Try.func9, Try.ntmps9
  go_wp2_with (go_at_call 10; refine (awake_c _).mono ?_; rintro e w1 ⟨rfl, hm1⟩)
  go_ret
  exact ⟨rfl, hm1⟩

/-- What At tells, said apart: the reading, and whether the thing is there. -/
def atR (L : List Th) (id : Int) : Int := (atT L id).getD 0
def atB (L : List Th) (id : Int) : Bool := (atT L id).isSome
theorem atV_eq (L : List Th) (id : Int) : atV L id = .tuple #[.int .i64 (atR L id), .bool (atB L id)] := by
  unfold atV atR atB
  cases atT L id <;> rfl
theorem at_ge {x : Th} {L : List Th} (hs : SortT (x :: L)) (id : Int) : (atB (x :: L) id && decide (atR (x :: L) id < x.rd)) = false := by
  unfold atB atR atT
  cases hf : (x :: L).find? (fun y => y.id == id) with
  | none => rfl
  | some y =>
    have hm := List.mem_of_find?_eq_some hf
    have hle : x.rd ≤ y.rd := by
      rcases List.mem_cons.1 hm with rfl | hm
      · exact Int.le_refl _
      · have := (List.pairwise_cons.1 hs).1 y hm
        rcases this with h | ⟨h, _⟩ <;> omega
    simp
    exact hle
theorem drop_head {x : Th} {L : List Th} (hu : Uni (x :: L)) : dropT (x :: L) x.id = L := by
  have h : findT (x :: L) x.id = some 0 := by simp [findT, List.findIdx?_cons]
  rw [dropT_some hu h]
  rfl
theorem find_head (x : Th) (L : List Th) : (findT (x :: L) x.id).isSome = true := by simp [findT]
theorem due_head (x : Th) (L : List Th) (now : Int) (h : x.rd ≤ now) : ∃ k, dueN (x :: L) now = k + 1 := by
  refine ⟨dueN L now, ?_⟩
  unfold dueN
  rw [List.takeWhile_cons_of_pos (by simpa using h), List.length_cons]
theorem due_zero (x : Th) (L : List Th) (now : Int) (h : now < x.rd) : dueN (x :: L) now = 0 := by
  unfold dueN
  rw [List.takeWhile_cons_of_neg (by simp; omega)]
  rfl

def FstRel (L : List Th) (w : World) (g : Nat) (N : Nat) (k : Nat) (s4 : Value) (wr : World) : Prop :=
  ∃ j : Nat, s4 = .int .i64 ((L.length - j : Nat) : Int) ∧ j + k = L.length ∧ Tq w wr g (L.drop j) N
def FstIn (l : List (Int × Int)) (wr : World) (k : Nat) (s8 : Value) (wr2 : World) : Prop :=
  ∃ m : Nat, s8 = .int .i64 m ∧ m + k = l.length ∧ Kept wr wr2
theorem copy_q {w0 w : World} {g : Nat} {l : List Th} {n : Nat} (h : Tq w0 w g l n) :
    Calls Try.prog 19 #[At g] w fun e w' => ∃ g', e = .returned (At g') ∧ Tq w w' g' l n := by
  obtain ⟨v, h⟩ := h
  have h1 := h.len
  have h2 := h.n
  refine (copy_c _ g v l n w h.tm (by omega)).mono ?_
  rintro e w' ⟨g', v', rfl, ht, hk⟩
  exact ⟨g', rfl, v', ht, hk, h.uni, h.len, h.n⟩
theorem at_q {w0 w : World} {g : Nat} {l : List Th} {n : Nat} (h : Tq w0 w g l n) (id : Int) :
    Calls Try.prog 16 #[At g, .int .i64 id] w fun e w' => e = .returned (.tuple #[.int .i64 (atR l id), .bool (atB l id)]) ∧ Kept w w' := by
  obtain ⟨v, h⟩ := h
  have := at_c _ g v l n id w h.tm
  rwa [atV_eq] at this

set_option maxHeartbeats 8000000 in
set_option maxRecDepth 100000 in
theorem first_small (v : Value) (l : List (Int × Int)) (hl1 : l.length ≤ 150) (hmax : ∀ a ∈ l, a.2 ≤ 9223372036854775807) (w : World) (hv : RdS w v l) :
    Calls Try.prog 9 #[v] w fun e w' => e = .returned (.bool true) ∧ Kept w w' := by
  have H := Lib.hid hv
  obtain ⟨_, A, c, rfl, _⟩ := hv
  have hd1 : decide ((150 : Int) < l.length) = false := by simp; omega
  go_enter Try.func9, Try.ntmps9
  go_wp2_with fail
  refine (awake_c _).mono ?_
  rintro e w1 ⟨rfl, hk1⟩
  go_wp2_with fail
  refine (put_l _ l (by omega) _ (H.out.kept hk1 (fun _ _ e => e))).mono ?_
  rintro e w2 ⟨rfl, ht2⟩
  have hinv := inv_puts l
  have hLl : (putsT l ([], 0)).1.length ≤ l.length := (ht2.choose_spec).len
  generalize hLe : (putsT l ([], 0)).1 = L at *
  have HI := Lib.hid hinv
  have hrd : ∀ x ∈ L, x.rd ≤ 9223372036854775807 := fun x hx => by
    obtain ⟨k, hk, rfl, _⟩ := (hinv.mem x).1 hx
    exact hmax _ (List.getElem_mem hk)
  have HRD := Lib.hid hrd
  have HK1 := Lib.hid hk1
  clear hinv hLe hk1 hrd hmax
  go_wp2_with fail
  refine (len_q (L.length : Int) rfl ht2).mono ?_
  rintro e w3 ⟨rfl, ht3⟩
  have HT3 := Lib.hid ht3
  clear ht2 ht3
  go_wp2_with fail
  go_loopg [4] L.length (fun k s4 wr => FstRel L w1 w1.heap.size l.length k s4 wr)
  case atStart => exact ⟨0, by rw [Nat.sub_zero], by omega, by rw [List.drop_zero]; exact HT3.out⟩
  case round =>
    obtain ⟨j, rfl, hj, hq⟩ := hrel
    have HJ := Lib.hid hj
    have HQ := Lib.hid hq
    have hjl : j ≤ L.length := by omega
    obtain ⟨nn, hnn⟩ : ∃ nn, nn = L.length - j := ⟨_, rfl⟩
    rw [← hnn]
    clear hj hq HT3
    by_cases hlt : j < L.length
    · have hcut : L.drop j = L[j] :: L.drop (j + 1) := List.drop_eq_getElem_cons hlt
      have hso : SortT (L[j] :: L.drop (j + 1)) := by
        rw [← hcut]
        exact HI.out.sort.sublist (List.drop_sublist _ _)
      obtain ⟨x, hx⟩ : ∃ x, (L[j]'hlt) = x := ⟨_, rfl⟩
      obtain ⟨Q, hQ⟩ : ∃ Q, L.drop (j + 1) = Q := ⟨_, rfl⟩
      rw [hx, hQ] at hcut hso
      have hq := HQ.out
      rw [hcut] at hq
      have huni : Uni (x :: Q) := (hq.choose_spec).uni
      have HU := Lib.hid (And.intro huni hso)
      have hxm : x.rd ≤ 9223372036854775807 := HRD.out x (by rw [← hx]; exact List.getElem_mem hlt)
      have iw : IntKind.i64.wrap ((nn : Int) - 1) = ((nn - 1 : Nat) : Int) := by rw [IntKind.wrap_i64]; omega
      have hnj : L.length - (j + 1) = nn - 1 := by omega
      have HNJ := Lib.hid hnj
      have HQX := Lib.hid hQ
      have i0 : (0 : Int) < (nn : Int) := by omega
      have HNN := Lib.hid hnn
      clear huni hso hcut hx hQ HQ hnn hnj
      go_wp2_with fail
      refine (next_q hq (.tuple #[.int .i64 x.id, .int .i64 x.rd, .bool true]) rfl).mono ?_
      rintro e w4 ⟨rfl, hq4⟩
      have HQ4 := Lib.hid hq4
      clear hq hq4
      go_wp2_with fail
      go_loopg [8] l.length (fun k s8 wr2 => FstIn l w4 k s8 wr2)
      case atStart => exact ⟨0, rfl, by omega, Mod.refl _ _⟩
      case round =>
        obtain ⟨m, rfl, hm, hk2⟩ := hrel
        have HM := Lib.hid hm
        have HK2 := Lib.hid hk2
        have hml : m ≤ l.length := by omega
        clear hm hk2
        have HKW : Hid (Kept w wr) := (HK1.out.then (HQ4.out.choose_spec).kept).then HK2.out
        by_cases hlm : m < l.length
        · obtain ⟨bl, ol, cl, el, hbl, gl⟩ := H.out.at hlm
          injection el with el _ el'
          subst el el'
          have fl := (HKW.out.cell (p := ⟨bl, ol + m * 2, none⟩) hbl (fun e => e)).trans (gl _ _ (setC_get l m hlm).1)
          have i2 : (m : Int) < l.length := by omega
          obtain ⟨y, hy⟩ : ∃ y, (l[m]'hlm).1 = y := ⟨_, rfl⟩
          rw [hy] at fl
          have HA := Lib.hid (at_q (HQ4.out.keep HK2.out) y)
          have hge := at_ge HU.out.2 y
          clear gl hbl hy
          generalize atR (x :: Q) y = ra at *
          generalize atB (x :: Q) y = rb at *
          cases rb with
          | true =>
            have d1 : decide (ra < x.rd) = false := by simpa using hge
            clear hge
            go_wp2_with (go_at_call 16; refine HA.out.mono ?_; rintro e w9 ⟨rfl, hm9⟩)
            go_roundg (l.length - (m + 1))
            case measure => have := HM.out; omega
            case rel => exact ⟨m + 1, by go_num, by omega, HK2.out.then hm9⟩
          | false =>
            clear hge
            go_wp2_with (go_at_call 16; refine HA.out.mono ?_; rintro e w9 ⟨rfl, hm9⟩)
            go_roundg (l.length - (m + 1))
            case measure => have := HM.out; omega
            case rel => exact ⟨m + 1, by go_num, by omega, HK2.out.then hm9⟩
        · obtain rfl : m = l.length := by omega
          have hq5 := HQ4.out.keep HK2.out
          clear HQ4 HM HK2 HKW hml hlm
          go_wp2_with fail
          refine (copy_q hq5).mono ?_
          rintro e w6 ⟨gc, rfl, hc6⟩
          obtain ⟨k, hk⟩ := due_head x Q x.rd (Int.le_refl _)
          have hids : idsT ((x :: Q).take (dueN (x :: Q) x.rd)) = x.id :: idsT (Q.take k) := by rw [hk]; rfl
          go_wp2_with fail
          refine (due_q x.rd _ _ hids rfl hc6).mono ?_
          rintro e w7 ⟨vo, rfl, ho, hc7⟩
          have hq7 := hq5.keep (hc7.choose_spec).kept
          clear hq5 hc6 hc7
          obtain ⟨bo, oo, co, rfl, _, go⟩ := ho.at (k := 0) (by simp)
          have fo : w7.cell? ⟨bo, oo, none⟩ = some (.int .i64 x.id) := by
            have h := go 0 (.int .i64 x.id) rfl
            rwa [Nat.add_zero] at h
          have i7 : ((((x.id :: idsT (Q.take k)).length : Nat) : Int) == 0) = false := by rw [List.length_cons]; simp; omega
          have i8 : (0 : Int) < ((x.id :: idsT (Q.take k)).length : Nat) := by rw [List.length_cons]; omega
          have i9 : 0 < (x.id :: idsT (Q.take k)).length := by rw [List.length_cons]; omega
          have t1 : (x.id != x.id) = false := by simp
          generalize (x.id :: idsT (Q.take k)).length = nl at *
          have HQ7 := Lib.hid hq7
          have hb := drop_head HU.out.1
          have hfh := find_head x Q
          have HB := Lib.hid (And.intro hb hfh)
          clear ho go hids hk hq7 hb hfh
          by_cases hmin : (-9223372036854775808 : Int) < x.rd
          · have d3 : decide ((-9223372036854775808 : Int) < x.rd) = true := decide_eq_true hmin
            have iw2 : IntKind.i64.wrap (x.rd - 1) = x.rd - 1 := by rw [IntKind.wrap_i64]; omega
            have hz0 := due_zero x Q (x.rd - 1) (by omega)
            have hz1 : idsT ((x :: Q).take (dueN (x :: Q) (x.rd - 1))) = [] := by rw [hz0]; rfl
            have HZ1 := Lib.hid hz1
            clear hz0 hz1 hmin
            go_wp2_with (first
              | (go_at_call 19; refine (copy_q HQ7.out).mono ?_; rintro e w8 ⟨gd, rfl, hd8⟩)
              | (go_at_call 12; refine (due_q (x.rd - 1) _ [] HZ1.out rfl hd8).mono ?_; clear hd8; rintro e w9 ⟨vo2, rfl, ho2, hd9⟩; obtain ⟨_, A2, c2, rfl, _⟩ := id ho2; have hq9 := HQ7.out.keep (hd9.choose_spec).kept; clear ho2 hd9)
              | (go_at_call 18; refine (drop_q x.id Q true HB.out.1 HB.out.2 hq9).mono ?_; clear hq9; rintro e wa ⟨rfl, hqa⟩)
              | fail)
            go_roundg (L.length - (j + 1))
            case measure => have := HJ.out; omega
            case rel => exact ⟨j + 1, by rw [HNJ.out], by omega, by rw [HQX.out]; exact hqa⟩
          · have d3 : decide ((-9223372036854775808 : Int) < x.rd) = false := decide_eq_false hmin
            go_wp2_with (go_at_call 18; refine (drop_q x.id Q true HB.out.1 HB.out.2 HQ7.out).mono ?_; rintro e w9 ⟨rfl, hq9⟩)
            go_roundg (L.length - (j + 1))
            case measure => have := HJ.out; omega
            case rel => exact ⟨j + 1, by rw [HNJ.out], by omega, by rw [HQX.out]; exact hq9⟩
    · have hz : nn = 0 := by omega
      subst hz
      have hq := HQ.out
      have hdz : L.drop j = [] := by rw [show j = L.length by omega, List.drop_length]
      rw [hdz] at hq
      clear hdz HQ
      go_wp2_with (go_at_call 14; refine (len_q 0 rfl hq).mono ?_; rintro e w9 ⟨rfl, hq9⟩)
      go_ret
      exact ⟨rfl, HK1.out.then (hq9.choose_spec).kept⟩
end Go.Proofs.Ytgmnhjbejofnhaa
