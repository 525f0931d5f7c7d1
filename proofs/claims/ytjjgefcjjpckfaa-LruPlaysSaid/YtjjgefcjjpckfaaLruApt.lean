/- LruApart, walked: whatever the two rows of acts, it answers true, and turns nothing that was there. Conditions: none. -/
import Derived.Test.YtjjgefcjjpckfaaLruDrp
namespace Go.Proofs.Ytjjgefcjjpckfaa
open Go.RowKit

def aAct (n : Int) (ps : List Nat) (a : Int × Int) : List Nat := if a.1 = 0 then lUse n ps a.2 else lDrop n ps a.2
def aRow (n : Int) (ps : List Nat) (l : List (Int × Int)) : List Nat := l.foldl (aAct n) ps
theorem aRow_snoc (n : Int) (ps : List Nat) (l : List (Int × Int)) (j : Nat) (h : j < l.length) : aRow n ps (l.take (j + 1)) = aAct n (aRow n ps (l.take j)) l[j] := by
  unfold aRow
  rw [List.take_add_one, List.getElem?_eq_getElem h, List.foldl_append]
  rfl
def AptRel (more : List (Int × Int)) (n : Int) (R : List Nat) (b : Nat) (W : World) (k : Nat) (i : Value) (wr : World) : Prop :=
  ∃ j : Nat, i = .int .i64 j ∧ j + k = more.length ∧ Lru wr b n (aRow n R (more.take j)) ∧ Mod (Only b) W wr

theorem apart_big1 (v1 v2 : Value) (n : Int) (acts more : List (Int × Int)) (hl : 500 < acts.length) (w : World) (hv : RdA w v1 acts) (hv2 : RdA w v2 more) :
    Calls Try.prog 6 #[.int .i64 n, v1, v2] w fun e w' => e = .returned (.bool true) ∧ Kept w w' := by
  obtain ⟨_, A, c, rfl, _⟩ := hv
  obtain ⟨_, A2, c2, rfl, _⟩ := hv2
  have h1 : (500 : Int) < acts.length := by omega
  go_enter Try.func6, Try.ntmps6
  go_wp2_with (go_at_call 9; refine (awake_c _).mono ?_; rintro e w1 ⟨rfl, hm1⟩)
  go_ret
  exact ⟨rfl, hm1⟩
theorem apart_big2 (v1 v2 : Value) (n : Int) (acts more : List (Int × Int)) (hl0 : acts.length ≤ 500) (hl : 500 < more.length) (w : World) (hv : RdA w v1 acts) (hv2 : RdA w v2 more) :
    Calls Try.prog 6 #[.int .i64 n, v1, v2] w fun e w' => e = .returned (.bool true) ∧ Kept w w' := by
  obtain ⟨_, A, c, rfl, _⟩ := hv
  obtain ⟨_, A2, c2, rfl, _⟩ := hv2
  have h1 : (500 : Int) < more.length := by omega
  have h2 : decide ((500 : Int) < acts.length) = false := by simp; omega
  go_enter Try.func6, Try.ntmps6
  go_wp2_with (go_at_call 9; refine (awake_c _).mono ?_; rintro e w1 ⟨rfl, hm1⟩)
  go_ret
  exact ⟨rfl, hm1⟩

set_option maxHeartbeats 2000000 in
set_option maxRecDepth 100000 in
theorem apart_small (v1 v2 : Value) (n : Int) (acts more : List (Int × Int)) (hl1 : acts.length ≤ 500) (hl2 : more.length ≤ 500) (w : World) (hv : RdA w v1 acts) (hv2 : RdA w v2 more) :
    Calls Try.prog 6 #[.int .i64 n, v1, v2] w fun e w' => e = .returned (.bool true) ∧ Kept w w' := by
  have H := Lib.hid hv
  have H2 := Lib.hid hv2
  obtain ⟨_, A, c, rfl, _⟩ := hv
  obtain ⟨_, A2, c2, rfl, _⟩ := hv2
  have hd1 : decide ((500 : Int) < acts.length) = false := by simp; omega
  have hd2 : decide ((500 : Int) < more.length) = false := by simp; omega
  go_enter Try.func6, Try.ntmps6
  go_wp2_with fail
  refine (awake_c _).mono ?_
  rintro e w1 ⟨rfl, hm1⟩
  go_wp2_with fail
  refine (made_c n _ acts (by omega) _ (H.out.kept hm1 (fun _ _ e => e))).mono ?_
  rintro e w2 ⟨rfl, hL2, hm2⟩
  have hgn : w.heap.size ≤ w1.heap.size := hm1.size
  generalize w1.heap.size = g at *
  generalize kOf n = k at *
  generalize mRow k acts = R at *
  have hk2 : Kept w w2 := hm1.then hm2
  clear hm1 hm2
  go_wp2_with fail
  refine (lru_row g k _ _ hL2).mono ?_
  rintro e w3 ⟨vr, rfl, hvr, hm3⟩
  have hlen := hL2.length
  have hrg := hL2.range
  have hL3 := hL2.mod hm3 (fun e => e)
  have hk3 : Kept w w3 := hk2.then hm3
  have hblk : ∀ x, vr.ownBlock = some x → g < x ∧ x < w3.heap.size := fun x hx => by
    have h1 := hvr.lt x hx
    have h2 := hL2.lt
    omega
  have hrd := Rd.of_own hvr
  obtain ⟨A3, c3, rfl⟩ : ∃ A3 c3, vr = .slice A3 R.length c3 := by
    obtain ⟨_, A2, c2, e, _⟩ := hrd
    exact ⟨A2, c2, e⟩
  clear hm3 hvr hL2 hk2 hd1 hd2
  go_wp2_with fail
  refine (lru_copy g k R _ hL3).mono ?_
  rintro e w4 ⟨rfl, hLc, hm4⟩
  have hgc : g < w3.heap.size := hL3.lt
  have hsz := hk3.size
  generalize w3.heap.size = gc at *
  have hL4 := hL3.mod hm4 (fun e => e)
  have hr4 := hrd.kept hm4 (fun _ _ e => e)
  have hk4 := hk3.then hm4
  have HL := Lib.hid hL4
  have HR := Lib.hid hr4
  have HK := Lib.hid hk4
  have HB := Lib.hid hblk
  have hne : ¬ Only gc g := fun e => by have e : g = gc := e; omega
  have hne' : ¬ Only g gc := fun e => by have e : gc = g := e; omega
  have HN := Lib.hid (And.intro hne hne')
  clear hL3 hrd hk3 hm4 hL4 hr4 hk4 hblk hne hne'
  go_wp2_with fail
  go_loopg [11] more.length (fun s i wr => AptRel more k R gc w4 s i wr)
  case atStart => exact ⟨0, rfl, by omega, hLc, Mod.refl _ _⟩
  case round =>
    obtain ⟨j, rfl, hj, hL, hm⟩ := hrel
    have HJ := Lib.hid hj
    have hjl : j ≤ more.length := by omega
    clear hj hLc
    by_cases hlt : j < more.length
    · obtain ⟨b1, o1, c1', e1, hb, g1⟩ := H2.out.at hlt
      injection e1 with e1 _ e1'
      subst e1 e1'
      obtain ⟨q1, q2⟩ := actCells_get more j hlt
      have f1 := g1 _ _ q1
      have f2 := g1 _ _ q2
      clear g1 q1 q2
      have hbc : ¬ Only gc b1 := fun e => by have e : b1 = gc := e; omega
      have hb4 : b1 < w4.heap.size := Nat.lt_of_lt_of_le hb HK.out.size
      rw [← HK.out.cell (p := ⟨b1, o1 + j * 2, none⟩) hb (fun e => e), ← hm.cell (p := ⟨b1, o1 + j * 2, none⟩) hb4 hbc] at f1
      rw [← HK.out.cell (p := ⟨b1, o1 + (j * 2 + 1), none⟩) hb (fun e => e), ← hm.cell (p := ⟨b1, o1 + (j * 2 + 1), none⟩) hb4 hbc, ← Nat.add_assoc] at f2
      have i1 : (j : Int) < more.length := by omega
      have hs := aRow_snoc k R more j hlt
      generalize more[j] = a at *
      obtain ⟨a1, a2⟩ := a
      have HE := Lib.hid hs
      have HM := Lib.hid hm
      clear hs hm hbc hb4
      by_cases h0 : a1 = 0
      · have hs : aRow k R (more.take (j + 1)) = lUse k (aRow k R (more.take j)) a2 := by rw [HE.out]; simp [aAct, h0]
        have HE2 := Lib.hid hs
        have t0 : (a1 == 0) = true := by simp [h0]
        clear HE hs h0
        go_wp2_with fail
        refine (lru_use gc _ _ a2 _ hL).mono ?_
        rintro e w5 ⟨rfl, hL5, hm5⟩
        go_wp2_with fail
        go_roundg (more.length - (j + 1))
        case measure => have := HJ.out; omega
        case rel => exact ⟨j + 1, by go_num, by omega, by rw [HE2.out]; exact hL5, HM.out.then hm5⟩
      · have hs : aRow k R (more.take (j + 1)) = lDrop k (aRow k R (more.take j)) a2 := by rw [HE.out]; simp [aAct, h0]
        have HE2 := Lib.hid hs
        have t0 : (a1 == 0) = false := by simp [h0]
        clear HE hs h0
        go_wp2_with fail
        refine (lru_drop gc _ _ a2 _ hL).mono ?_
        rintro e w5 ⟨rfl, hL5, hm5⟩
        go_wp2_with fail
        go_roundg (more.length - (j + 1))
        case measure => have := HJ.out; omega
        case rel => exact ⟨j + 1, by go_num, by omega, by rw [HE2.out]; exact hL5, HM.out.then hm5⟩
    · obtain rfl : j = more.length := by omega
      rw [List.take_length] at hL
      have hL5 := HL.out.mod hm HN.out.1
      have hr5 := HR.out.mod hm (fun x hx _ e => by have e : x = gc := e; have := (HB.out x hx).2; omega)
      have hk5 : Kept w wr := HK.out.only hm hsz
      have hRl : (pInts R).length ≤ 256 := by simp [pInts]; omega
      clear hm hjl hlt
      go_wp2_with fail
      refine (lru_row g k _ _ hL5).mono ?_
      rintro e w6 ⟨v6, rfl, hv6, hm6⟩
      have hL6 := hL5.mod hm6 (fun e => e)
      have hc6 := hL.mod hm6 (fun e => e)
      have hr6 := hr5.kept hm6 (fun _ _ e => e)
      have hk6 := hk5.then hm6
      have hv61 := (Rd.of_own hv6).asInts
      clear hL5 hL hr5 hk5 hm6 hv6
      go_wp2_with fail
      refine (ints15k _ _ (pInts R) (pInts R) (by omega) true (by simp) _ hv61 hr6.asInts).mono ?_
      rintro e w7 ⟨rfl, hm7⟩
      have hL7 := hL6.mod hm7 (fun e => e)
      have hc7 := hc6.mod hm7 (fun e => e)
      have hk7 := hk6.then hm7
      have t3 : ((R.length : Int) != (R.length : Int)) = false := by simp
      clear hL6 hc6 hr6 hk6 hm7 hv61
      go_wp2_with fail
      refine (lru_len g k _ _ hL7).mono ?_
      rintro e w8 ⟨rfl, rfl⟩
      go_wp2_with fail
      generalize hR2e : aRow k R more = R2 at *
      have HR2 := Lib.hid hR2e
      clear hR2e
      refine (lru_row gc k _ _ hc7).mono ?_
      rintro e w8 ⟨v8, rfl, hv8, hm8⟩
      have hR2 := hc7.length
      have hblk8 : ∀ x, v8.ownBlock = some x → gc < x := fun x hx => by
        have h1 := hv8.lt x hx
        have h2 := hc7.lt
        omega
      have HB8 := Lib.hid hblk8
      have HL8 := Lib.hid (hL7.mod hm8 (fun e => e))
      have HC8 := Lib.hid (hc7.mod hm8 (fun e => e))
      have HV8 := Lib.hid (Rd.of_own hv8).asInts
      have HK8 := Lib.hid (hk7.then hm8)
      have hR2l : (pInts R2).length ≤ 256 := by simp [pInts]; omega
      clear hL7 hc7 hk7 hm8 hv8 hblk8 t3 HL HR HK HB HJ
      go_wp2_with fail
      go_loopg [13] more.length (fun s i wr => AptRel more k R g w8 s i wr)
      case atStart => exact ⟨0, rfl, by omega, HL8.out, Mod.refl _ _⟩
      case round =>
        obtain ⟨j, rfl, hj, hL, hm⟩ := hrel
        have HJ := Lib.hid hj
        have hjl : j ≤ more.length := by omega
        clear hj
        by_cases hlt : j < more.length
        · obtain ⟨b1, o1, c1', e1, hb, g1⟩ := H2.out.at hlt
          injection e1 with e1 _ e1'
          subst e1 e1'
          obtain ⟨q1, q2⟩ := actCells_get more j hlt
          have f1 := g1 _ _ q1
          have f2 := g1 _ _ q2
          clear g1 q1 q2
          have hbc : ¬ Only g b1 := fun e => by have e : b1 = g := e; omega
          have hb4 : b1 < w8.heap.size := Nat.lt_of_lt_of_le hb HK8.out.size
          rw [← HK8.out.cell (p := ⟨b1, o1 + j * 2, none⟩) hb (fun e => e), ← hm.cell (p := ⟨b1, o1 + j * 2, none⟩) hb4 hbc] at f1
          rw [← HK8.out.cell (p := ⟨b1, o1 + (j * 2 + 1), none⟩) hb (fun e => e), ← hm.cell (p := ⟨b1, o1 + (j * 2 + 1), none⟩) hb4 hbc, ← Nat.add_assoc] at f2
          have i1 : (j : Int) < more.length := by omega
          have hs := aRow_snoc k R more j hlt
          generalize more[j] = a at *
          obtain ⟨a1, a2⟩ := a
          have HE := Lib.hid hs
          have HM := Lib.hid hm
          clear hs hm hbc hb4
          by_cases h0 : a1 = 0
          · have hs : aRow k R (more.take (j + 1)) = lUse k (aRow k R (more.take j)) a2 := by rw [HE.out]; simp [aAct, h0]
            have HE2 := Lib.hid hs
            have t0 : (a1 == 0) = true := by simp [h0]
            clear HE hs h0
            go_wp2_with fail
            refine (lru_use g _ _ a2 _ hL).mono ?_
            rintro e w5 ⟨rfl, hL5, hm5⟩
            go_wp2_with fail
            go_roundg (more.length - (j + 1))
            case measure => have := HJ.out; omega
            case rel => exact ⟨j + 1, by go_num, by omega, by rw [HE2.out]; exact hL5, HM.out.then hm5⟩
          · have hs : aRow k R (more.take (j + 1)) = lDrop k (aRow k R (more.take j)) a2 := by rw [HE.out]; simp [aAct, h0]
            have HE2 := Lib.hid hs
            have t0 : (a1 == 0) = false := by simp [h0]
            clear HE hs h0
            go_wp2_with fail
            refine (lru_drop g _ _ a2 _ hL).mono ?_
            rintro e w5 ⟨rfl, hL5, hm5⟩
            go_wp2_with fail
            go_roundg (more.length - (j + 1))
            case measure => have := HJ.out; omega
            case rel => exact ⟨j + 1, by go_num, by omega, by rw [HE2.out]; exact hL5, HM.out.then hm5⟩
        · obtain rfl : j = more.length := by omega
          rw [List.take_length] at hL
          have e9 : aRow k R more = R2 := HR2.out
          rw [e9] at hL
          have hc9 := HC8.out.mod hm HN.out.2
          have hv9 := HV8.out.mod hm (fun x hx _ e => by have e : x = g := e; have := HB8.out x hx; omega)
          have hk9 : Kept w wr := HK8.out.only hm hgn
          clear hm hjl hlt e9
          go_wp2_with fail
          refine (lru_row gc k _ _ hc9).mono ?_
          rintro e wa ⟨va, rfl, hva, hma⟩
          have hLa := hL.mod hma (fun e => e)
          have hv8a := hv9.kept hma (fun _ _ e => e)
          have hka := hk9.then hma
          have hva1 := (Rd.of_own hva).asInts
          clear hc9 hL hv9 hk9 hma hva
          go_wp2_with fail
          refine (ints15k _ _ (pInts R2) (pInts R2) (by omega) true (by simp) _ hva1 hv8a.asInts).mono ?_
          rintro e wb ⟨rfl, hmb⟩
          have hLb := hLa.mod hmb (fun e => e)
          have hv8b := hv8a.kept hmb (fun _ _ e => e)
          have hkb := hka.then hmb
          clear hLa hv8a hka hmb hva1
          go_wp2_with fail
          refine (lru_row g k _ _ hLb).mono ?_
          rintro e wc ⟨vc, rfl, hvc, hmc⟩
          have hv8c := hv8b.kept hmc (fun _ _ e => e)
          have hkc := hkb.then hmc
          have hvc1 := (Rd.of_own hvc).asInts
          clear hLb hv8b hkb hmc hvc
          go_wp2_with fail
          refine (ints15k _ _ (pInts R2) (pInts R2) (by omega) true (by simp) _ hvc1 hv8c.asInts).mono ?_
          rintro e wd ⟨rfl, hmd⟩
          have hkd := hkc.then hmd
          clear hv8c hkc hmd hvc1
          go_wp2_with fail
          go_ret
          exact ⟨rfl, hkd⟩
end Go.Proofs.Ytjjgefcjjpckfaa
