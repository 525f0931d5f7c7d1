/- TimerApart, walked. Conditions: none. -/
import Derived.Test.YtgmnhjbejofnhaaTmM
namespace Go.Proofs.Ytgmnhjbejofnhaa
open Go.RowKit Go.Lib

theorem apart_big1 (v1 v2 : Value) (now : Int) (l more : List (Int × Int)) (hl : 150 < l.length) (w : World) (hv : RdS w v1 l) (hv2 : RdS w v2 more) :
    Calls Try.prog 6 #[v1, v2, .int .i64 now] w fun e w' => e = .returned (.bool true) ∧ Kept w w' := by
  obtain ⟨_, A, c, rfl, _⟩ := hv
  obtain ⟨_, A2, c2, rfl, _⟩ := hv2
  have h1 : (150 : Int) < l.length := by omega
  go_enter Try.func6, Try.ntmps6
  go_wp2_with (go_at_call 10; refine (awake_c _).mono ?_; rintro e w1 ⟨rfl, hm1⟩)
  go_ret
  exact ⟨rfl, hm1⟩
theorem apart_big2 (v1 v2 : Value) (now : Int) (l more : List (Int × Int)) (hl0 : l.length ≤ 150) (hl : 150 < more.length) (w : World) (hv : RdS w v1 l) (hv2 : RdS w v2 more) :
    Calls Try.prog 6 #[v1, v2, .int .i64 now] w fun e w' => e = .returned (.bool true) ∧ Kept w w' := by
  obtain ⟨_, A, c, rfl, _⟩ := hv
  obtain ⟨_, A2, c2, rfl, _⟩ := hv2
  have h1 : (150 : Int) < more.length := by omega
  have h2 : decide ((150 : Int) < l.length) = false := by simp; omega
  go_enter Try.func6, Try.ntmps6
  go_wp2_with (go_at_call 10; refine (awake_c _).mono ?_; rintro e w1 ⟨rfl, hm1⟩)
  go_ret
  exact ⟨rfl, hm1⟩

/-- Two sets of timers of which neither turns the other. -/
theorem Tm.other {w w' : World} {b g b' g' : Nat} {v v' : Value} {l l' : List Th} {n n' : Int} {B : Nat} (h : Tm w b g v l n) (h' : Tm w b' g' v' l' n') (hB : B ≤ b') (hlt : ∀ k, Fp g v k → k < B) (hm : Mod (Fp g' v') w w') : Tm w' b g v l n :=
  h.mod hm fun k hk hk' => by have := hlt k hk; have := (h'.lt k hk').1; omega
theorem Tm.other' {w w' : World} {b g b' g' : Nat} {v v' : Value} {l l' : List Th} {n n' : Int} {B : Nat} (h : Tm w b g v l n) (_h' : Tm w b' g' v' l' n') (hB : B ≤ b) (hlt : ∀ k, Fp g' v' k → k < B) (hm : Mod (Fp g' v') w w') : Tm w' b g v l n :=
  h.mod hm fun k hk hk' => by have := hlt k hk'; have := (h.lt k hk).1; omega
theorem Fp.same {g : Nat} {v v' : Value} (h : v'.ownBlock = v.ownBlock) : Fp g v' = Fp g v := by unfold Fp; rw [h]

def CopRel (more : List (Int × Int)) (L : List Th) (N : Nat) (w3 : World) (gc : Nat) (k : Nat) (i : Value) (wr : World) : Prop :=
  ∃ j : Nat, i = .int .i64 j ∧ j + k = more.length ∧ Tq w3 wr gc (putsT (more.take j) (L, N)).1 (N + j)

set_option maxHeartbeats 4000000 in
set_option maxRecDepth 100000 in
theorem apart_small (v1 v2 : Value) (now : Int) (l more : List (Int × Int)) (hl1 : l.length ≤ 150) (hl2 : more.length ≤ 150) (w : World) (hv : RdS w v1 l) (hv2 : RdS w v2 more) :
    Calls Try.prog 6 #[v1, v2, .int .i64 now] w fun e w' => e = .returned (.bool true) ∧ Kept w w' := by
  have H := Lib.hid hv
  have H2 := Lib.hid hv2
  obtain ⟨_, A, c, rfl, _⟩ := hv
  obtain ⟨_, A2, c2, rfl, _⟩ := hv2
  have hd1 : decide ((150 : Int) < l.length) = false := by simp; omega
  have hd2 : decide ((150 : Int) < more.length) = false := by simp; omega
  go_enter Try.func6, Try.ntmps6
  go_wp2_with fail
  refine (awake_c _).mono ?_
  rintro e w1 ⟨rfl, hk1⟩
  go_wp2_with fail
  refine (put_l _ l (by omega) _ (H.out.kept hk1 (fun _ _ e => e))).mono ?_
  rintro e w2 ⟨rfl, vt, ht2⟩
  have hk2 : Kept w w2 := hk1.then ht2.kept
  go_wp2_with fail
  refine (put_l _ l (by omega) _ (H.out.kept hk2 (fun _ _ e => e))).mono ?_
  rintro e w3 ⟨rfl, vu, hu3⟩
  have ht3 := ht2.tm.kept hu3.kept
  have hk3 : Kept w w3 := hk2.then hu3.kept
  have hltt : ∀ k, Fp w1.heap.size vt k → k < w2.heap.size := fun k hk => (ht2.tm.lt k hk).2
  have hltu : ∀ k, Fp w2.heap.size vu k → k < w3.heap.size := fun k hk => (hu3.tm.lt k hk).2
  have hL := ht2.len
  have hU := ht2.uni
  generalize hLe : (putsT l ([], 0)).1 = L at *
  have HLE := Lib.hid hLe
  have HT3 := Lib.hid ht3
  have HU3 := Lib.hid hu3.tm
  have HK3 := Lib.hid hk3
  have HLT := Lib.hid (And.intro hltt hltu)
  have hs23 := hu3.kept.size
  have hs01 := hk1.size
  have hs02 := hk2.size
  clear ht3 ht2 hu3 hk1 hk2 hk3 hltt hltu hLe
  generalize w1.heap.size = gt at *
  generalize w2.heap.size = gu at *
  go_wp2_with fail
  refine (copy_c gt gt vt L _ _ HT3.out (by omega)).mono ?_
  rintro e w4 ⟨gc, vc, rfl, hc4, hk4⟩
  have hq4 : Tq w3 w4 gc L l.length := ⟨vc, hc4, hk4, hU, hL, by omega⟩
  clear hc4 hk4
  go_wp2_with fail
  go_loopg [10] more.length (fun k s10 wr => CopRel more L l.length w3 gc k s10 wr)
  case atStart => exact ⟨0, rfl, by omega, hq4⟩
  case round =>
    obtain ⟨j, rfl, hj, hq⟩ := hrel
    have hjl : j ≤ more.length := by omega
    have HJ := Lib.hid hj
    have HQ := Lib.hid hq
    clear hj hq hq4
    have HKR : Hid (Kept w wr) := HK3.out.then (HQ.out.choose_spec).kept
    by_cases hlt : j < more.length
    · obtain ⟨b1, o1, c1', e1, hb, g1⟩ := H2.out.at hlt
      injection e1 with e1 _ e1'
      subst e1 e1'
      obtain ⟨q1, q2⟩ := setC_get more j hlt
      have f1 := g1 _ _ q1
      have f2 := g1 _ _ q2
      clear g1 q1 q2
      rw [← HKR.out.cell (p := ⟨b1, o1 + j * 2, none⟩) hb (fun e => e)] at f1
      rw [← HKR.out.cell (p := ⟨b1, o1 + (j * 2 + 1), none⟩) hb (fun e => e), ← Nat.add_assoc] at f2
      have i1 : (j : Int) < more.length := by omega
      have hs := puts_snoc more (L, l.length) j hlt
      have hn := puts_n (more.take j) (L, l.length)
      rw [List.length_take, Nat.min_eq_left hjl] at hn
      simp only at hn
      rw [hn] at hs
      have hs1 : putT (putsT (more.take j) (L, l.length)).1 ((l.length + j : Nat) : Int) more[j].1 more[j].2 = (putsT (more.take (j + 1)) (L, l.length)).1 := by rw [hs]
      generalize more[j] = a at *
      obtain ⟨a1, a2⟩ := a
      have HP := Lib.hid (fun w1 h => put_q (w0 := w3) (w := w1) (g := gc) a1 a2 _ hs1 (by omega) h)
      clear hs hn hs1 hb
      go_wp2_with fail
      go_region_with (go_at_call 17; refine (HP.out _ (HQ.out.keep ((Mod.refl _ _).drew))).mono ?_; rintro e w5 ⟨rfl, hq5⟩)
      all_goals
        go_wp2
        go_roundg (more.length - (j + 1))
        case measure => have := HJ.out; omega
        case rel => exact ⟨j + 1, by go_num, by omega, by rw [show l.length + (j + 1) = l.length + j + 1 by omega]; exact hq5⟩
    · obtain rfl : j = more.length := by omega
      have hq := HQ.out
      clear HQ hjl HJ hlt
      go_wp2_with fail
      refine (due_q now _ _ rfl rfl hq).mono ?_
      rintro e w5 ⟨vo5, rfl, _, vc5, hc5⟩
      have hk35 := hc5.kept
      clear hq hc5
      have ht5 := HT3.out.kept hk35
      have hu5 := HU3.out.kept hk35
      have hs5 := hk35.size
      have hk5 : Kept w w5 := HK3.out.then hk35
      clear HKR hk35
      go_wp2_with fail
      refine (copy_c gt gt vt L _ _ ht5 (by omega)).mono ?_
      rintro e w6 ⟨gd, vd, rfl, hd6, hk6⟩
      have ht6 := ht5.kept hk6
      have hu6 := hu5.kept hk6
      have hk06 := hk5.then hk6
      have hs6 := hk6.size
      clear ht5 hu5 hk5 hk6
      go_wp2_with fail
      refine (len_c gt gt vt L _ _ ht6).mono ?_
      rintro e w7 ⟨rfl, rfl⟩
      go_wp2_with fail
      refine (len_c gu gu vu L _ _ hu6).mono ?_
      rintro e w7 ⟨rfl, rfl⟩
      have t3 : ((L.length : Int) != (L.length : Int)) = false := by simp
      go_wp2_with fail
      refine (due_c gt gt vt L _ 9223372036854775807 _ ht6 (by omega)).mono ?_
      rintro e w7 ⟨vo7, rfl, ho7, vt7, ht7, hm7, hv7⟩
      have hu7 := hu6.other' ht6 (Nat.le_refl _) HLT.out.1 hm7
      have hd7 := hd6.other' ht6 (B := gu) (by omega) HLT.out.1 hm7
      have hk07 : Kept w w7 := Mod.trans hk06 hm7 fun i hi e => by have := (ht6.lt i e).1; omega
      have hs7 := hm7.size
      clear ht6 hu6 hd6 hm7 ht7 hk06 t3
      obtain ⟨A7, c7, rfl⟩ := own_form ho7
      go_wp2_with fail
      refine (due_c gu gu vu L _ 9223372036854775807 _ hu7 (by omega)).mono ?_
      rintro e w8 ⟨vo8, rfl, ho8, vu8, hu8, hm8, hv8⟩
      have hd8 := hd7.other' hu7 (B := w3.heap.size) (by omega) HLT.out.2 hm8
      have ho78 := own_mod ho7 hm8 (fun k hk e => by have h1 := (ho7.lt k hk).1; have h2 := HLT.out.2 k e; omega)
      have hk08 : Kept w w8 := Mod.trans hk07 hm8 fun i hi e => by have := (hu7.lt i e).1; omega
      have hs8 := hm8.size
      clear hu7 hd7 hm8 hu8 hk07 ho7
      obtain ⟨A8, c8, rfl⟩ := own_form ho8
      have hrl : (idsT (L.take (dueN L 9223372036854775807))).length ≤ 4611686018427387904 := by unfold idsT; rw [List.length_map, List.length_take]; omega
      go_wp2_with fail
      refine (ints12k _ _ _ _ hrl true (by simp) _ (Rd.of_own ho78).asInts (Rd.of_own ho8).asInts).mono ?_
      rintro e w9 ⟨rfl, hm9⟩
      have hd9 := hd8.kept hm9
      have hk09 := hk08.then hm9
      have hs9 := hm9.size
      clear ho78 ho8 hd8 hk08 hm9
      go_wp2_with fail
      refine (due_c _ gd vd L _ 9223372036854775807 _ hd9 (by omega)).mono ?_
      rintro e wa ⟨voa, rfl, hoa, vda, hda, hma, hva⟩
      have hk0a : Kept w wa := Mod.trans hk09 hma fun i hi e => by have h1 := (hd9.lt i e).1; have h2 := HK3.out.size; omega
      clear hd9 hda hma hk09
      obtain ⟨Aa, ca, rfl⟩ := own_form hoa
      go_wp2_with fail
      refine (put_l _ l (by omega) _ (H.out.kept hk0a (fun _ _ e => e))).mono ?_
      rintro e wb ⟨rfl, vf, hfb⟩
      rw [HLE.out] at hfb
      have hob := own_kept hoa hfb.kept
      have hk0b := hk0a.then hfb.kept
      have hlta := fun k hk => (hoa.lt k hk).2
      have hsa := hk0a.size
      clear hoa hk0a
      go_wp2_with fail
      refine (due_c _ _ vf L _ 9223372036854775807 _ hfb.tm (by omega)).mono ?_
      rintro e wc ⟨voc, rfl, hoc, vfc, hfc, hmc, hvc⟩
      have hoac := own_mod hob hmc (fun k hk e => by have h1 := hlta k hk; have h2 := (hfb.tm.lt k e).1; omega)
      have hk0c : Kept w wc := Mod.trans hk0b hmc fun i hi e => by have := (hfb.tm.lt i e).1; omega
      clear hob hfb hfc hmc hk0b
      obtain ⟨Ac, cc, rfl⟩ := own_form hoc
      go_wp2_with fail
      refine (ints12k _ _ _ _ hrl true (by simp) _ (Rd.of_own hoac).asInts (Rd.of_own hoc).asInts).mono ?_
      rintro e wd ⟨rfl, hmd⟩
      have hk0d := hk0c.then hmd
      clear hoac hoc hk0c hmd
      go_wp2_with fail
      go_ret
      exact ⟨rfl, hk0d⟩
end Go.Proofs.Ytgmnhjbejofnhaa
