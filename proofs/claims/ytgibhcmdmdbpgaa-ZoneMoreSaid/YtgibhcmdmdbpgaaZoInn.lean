/- A name is within its zone, walked. Conditions: texts that a memory may hold. -/
import Derived.Test.YtgibhcmdmdbpgaaZoRow
import Derived.Test.YtgibhcmdmdbpgaaReg
import Derived.BigQuiet
import Derived.Deep.RegionHeld3
namespace Go.Proofs.Ytgibhcmdmdbpgaa
open Go.RowKit Go.Lib

/-- Is the zone in the row? -/
def inB (l : List Zn) (z : Zn) : Bool := l.any fun y => eqZ y z
theorem inB_iff (l : List Zn) (z : Zn) : inB l z = true ↔ z ∈ l := by
  unfold inB
  rw [List.any_eq_true]
  constructor
  · rintro ⟨y, hy, h⟩; rw [(eqZ_iff _ _).1 h] at hy; exact hy
  · intro h; exact ⟨z, h, eqZ_self z⟩
theorem inB_snoc (l : List Zn) (z : Zn) (j : Nat) (h : j < l.length) : inB (l.take (j + 1)) z = (inB (l.take j) z || eqZ l[j] z) := by
  unfold inB
  rw [List.take_add_one, List.getElem?_eq_getElem h, List.any_append]
  simp
theorem find_last {l : List Zn} (h : OkT l) (n : ByteArray) : (wi n (findZ l n) = true ∧ inB l (findZ l n) = true) ∨ (findZ l n = znRoot ∧ inB l znRoot = false) ∨ (findZ l n = znRoot ∧ inB l znRoot = true ∧ wi n znRoot = false) := by
  rcases find_cases h n with ⟨h1, h2⟩ | ⟨h1, h2, _⟩
  · right
    cases hb : inB l znRoot with
    | false => exact .inl ⟨h2, rfl⟩
    | true => exact .inr ⟨h2, rfl, h1 _ ((inB_iff _ _).1 hb)⟩
  · exact .inl ⟨h2, (inB_iff _ _).2 h1⟩
theorem find_none_more {l : List Zn} (h : OkT l) (n : ByteArray) {y : Zn} (hy : y ∈ l) (hw : wi n y = true) : labK y.name ≤ labK (findZ l n).name := by
  rcases find_cases h n with ⟨h1, _⟩ | ⟨_, _, h3⟩
  · rw [h1 y hy] at hw; cases hw
  · exact h3 y hy hw
def InnRel (l : List Zn) (z : Zn) (w : World) (zb : Nat) (k : Nat) (vh vi : Value) (wr : World) : Prop :=
  ∃ j : Nat, vi = .int .i64 j ∧ j + k = l.length ∧ vh = .bool (inB (l.take j) z) ∧ Blk wr zb 35 #[.string z.name, .int .u8 z.pol, .int .u16 z.tr] ∧ Kept w wr
set_option maxHeartbeats 4000000 in
set_option maxRecDepth 100000 in
theorem inner_any (v : Value) (l : List Zn) (n : ByteArray) (hl : ∀ z ∈ l, z.name.size < 2 ^ 63) (hll : l.length < 2 ^ 63) (hn : n.size < 2 ^ 63) (w : World) (hv : RdZ w v l) :
    Calls Try.prog 6 #[v, .string n] w fun e w' => e = .returned (.bool true) ∧ Kept w w' := by
  have HV := Lib.hid hv
  obtain ⟨_, A, c, rfl, _⟩ := hv
  have HL := Lib.hid (And.intro hl hn)
  clear hl
  go_enter Try.func6, Try.ntmps6
  go_wp2_with fail
  refine (long_any _ _ l [n] HL.out.1 (by intro x hx; rw [List.mem_singleton.1 hx]; exact HL.out.2) hll (by simp) _ (HV.out.kept ((Mod.refl _ _).alloc _)) (lit1 _ _ _ _ _ _ rfl rfl)).mono ?_
  rintro e w1 ⟨rfl, rfl | ⟨rfl, hF⟩⟩
  · go_wp2_with fail
    refine (awake_any _).mono ?_
    rintro e w2 ⟨rfl, m2⟩
    have HK2 := Lib.hid (((Mod.refl (fun _ => False) w).alloc (.cells #[.string n] 9)).then m2)
    clear m2
    go_wp2_with fail
    go_ret
    exact ⟨rfl, HK2.out⟩
  · have hl500 := hF.2.1
    clear hF
    go_wp2_with fail
    refine (awake_any _).mono ?_
    rintro e w2 ⟨rfl, m2⟩
    have HK2 := Lib.hid (((Mod.refl (fun _ => False) w).alloc (.cells #[.string n] 9)).then m2)
    clear m2
    go_wp2_with fail
    refine (new_any _ l HL.out.1 hll _ (HV.out.kept HK2.out)).mono ?_
    intro e w3 h3
    by_cases h0 : newE l = 0
    · obtain ⟨k3, g, mo, oe, rfl, hz3⟩ := h3.good h0
      have HK3 := Lib.hid (HK2.out.then k3)
      have HA3 := Lib.hid (Fd.of_zt hz3)
      have HOK := Lib.hid ((newE_zero l).1 h0).2
      clear h3 k3 hz3 h0 HK2
      go_wp2_with fail
      refine (find_any _ g l _ _ HA3.out n hn).mono ?_
      rintro e w4 ⟨rfl, m4⟩
      have HK4 := Lib.hid (HK3.out.then m4)
      have HMOST := Lib.hid (fun (y : Zn) (hy : y ∈ l) (hw : wi n y = true) => find_none_more HOK.out n hy hw)
      have HLAST := Lib.hid (find_last HOK.out n)
      have hzs : (findZ l n).name.size < 2 ^ 63 := by
        obtain ⟨xs, hx, _⟩ := find_mayb HOK.out n
        have := ((splitN_iff _ _).1 hx).2.2
        rw [bys_length] at this
        omega
      clear m4 HK3 HA3
      generalize findZ l n = z at *
      unfold znC
      simp only
      have HZS := Lib.hid hzs
      clear hzs
      go_wp2_with fail
      go_loopg [8, 9] l.length (fun k vh vi wr => InnRel l z w w4.heap.size k vh vi wr)
      case atStart => exact ⟨0, rfl, by omega, rfl, Blk.new _ _ _, HK4.out.alloc _⟩
      case round =>
        obtain ⟨j, rfl, hj, rfl, hB, hK⟩ := hrel
        have HJ := Lib.hid hj
        have HB := Lib.hid hB
        have HK := Lib.hid hK
        have hjl : j ≤ l.length := by omega
        clear hj hB hK
        by_cases hlt : j < l.length
        · obtain ⟨b1, o1, c1', e1, hb1, g1⟩ := HV.out.at hlt
          injection e1 with e1 _ e1'
          subst e1 e1'
          obtain ⟨q1, q2, q3⟩ := zC_get l j hlt
          have HG := Lib.hid (fun (w4 : World) (hk4 : Kept w w4) => And.intro ((hk4.cell (p := ⟨b1, o1 + j * 3, none⟩) hb1 (fun e => e)).trans (g1 _ _ q1)) (And.intro ((hk4.cell (p := ⟨b1, o1 + (j * 3 + 1), none⟩) hb1 (fun e => e)).trans (g1 _ _ q2)) ((hk4.cell (p := ⟨b1, o1 + (j * 3 + 2), none⟩) hb1 (fun e => e)).trans (g1 _ _ q3))))
          have i1 : (j : Int) < l.length := by omega
          have hsz := HL.out.1 _ (List.getElem_mem hlt)
          have hsn := inB_snoc l z j hlt
          have hmo := HMOST.out _ (List.getElem_mem hlt)
          clear g1 q1 q2 q3
          generalize l[j]'hlt = y at *
          obtain ⟨yn, yp, yt⟩ := y
          have HSN := Lib.hid hsn
          have HSY := Lib.hid (And.intro hsz hmo)
          clear hsn hsz hmo
          have hq2 : ∀ w, (binOp .eql 35 (.agg #[.string yn, .int .u8 yp, .int .u16 yt]) (.agg #[.string z.name, .int .u8 z.pol, .int .u16 z.tr])).run Try.prog w = .ok (.bool (eqZ ⟨yn, yp, yt⟩ z)) w := fun w => run_eql_zone ⟨yn, yp, yt⟩ z w
          obtain ⟨f1, f2, f3⟩ := HG.out wr HK.out
          simp only at f1 f2 f3
          rw [← Nat.add_assoc] at f2 f3
          have c1 : wr.cell? ⟨w4.heap.size, 0, none⟩ = some (.string z.name) := HB.out.cell 0
          have c2 : wr.cell? ⟨w4.heap.size, 1, none⟩ = some (.int .u8 z.pol) := HB.out.cell 1
          have c3 : wr.cell? ⟨w4.heap.size, 2, none⟩ = some (.int .u16 z.tr) := HB.out.cell 2
          obtain ⟨hb, hhb⟩ : ∃ hb, inB (l.take j) z = hb := ⟨_, rfl⟩
          obtain ⟨hy, hhy⟩ : ∃ hy, eqZ ⟨yn, yp, yt⟩ z = hy := ⟨_, rfl⟩
          have HSN2 : Hid (inB (l.take (j + 1)) z = (hb || hy)) := Lib.hid (by rw [HSN.out, hhb, hhy])
          rw [hhb]
          rw [hhy] at hq2
          clear HSN hhb hhy
          have HWI := Lib.hid (fun w => within_any n yn hn HSY.out.1 w)
          have HLY := Lib.hid (fun w => labels_c yn HSY.out.1 w)
          have HLZ := Lib.hid (fun w => labels_c z.name HZS.out w)
          obtain ⟨wb, hwb⟩ : ∃ wb, wi n ⟨yn, yp, yt⟩ = wb := ⟨_, rfl⟩
          have hwb2 : withinN (bys n) (bys yn) = wb := hwb
          have HMO : Hid (wb = true → labK yn ≤ labK z.name) := Lib.hid (fun e => HSY.out.2 (hwb.trans e))
          rw [hwb2] at HWI
          clear hwb hwb2
          cases hb with
          | true =>
            go_wp2_with fail
            go_quiet (fail)
            have HQ1 := Lib.hid (And.intro f1 (And.intro c1 (And.intro hb1 (HB.out.lt))))
            clear f1 f2 f3 c1 c2 c3 hq2
            cases wb with
            | false =>
              have f1 := HQ1.out.1
              go_wp2_with fail
              refine wp_region_any (by kernel_rfl) ?_
              try (change wpAny _ _ _ _ _ _ _ (World.drew _))
              refine reg_take 0 46 (v := ?_) rfl rfl (by kernel_rfl) (by kernel_rfl) (by kernel_rfl) (fun _ _ _ h => h) (by rfl) ?_ ?_
              rotate_left
              · (intro w; go_simp); try (with_reducible rfl)
              try simp only [Act.put, List.setIfInBounds_toArray, List.set_cons_zero, List.set_cons_succ]
              refine reg_take 1 47 (v := ?_) rfl rfl (by kernel_rfl) (by kernel_rfl) (by kernel_rfl) (fun _ _ _ h => h) (by rfl) ?_ ?_
              rotate_left
              · (intro w; go_simp); try (with_reducible rfl)
              try simp only [Act.put, List.setIfInBounds_toArray, List.set_cons_zero, List.set_cons_succ]
              refine reg_take 2 48 (v := ?_) rfl rfl (by kernel_rfl) (by kernel_rfl) (by kernel_rfl) (fun _ _ _ h => h) (by rfl) ?_ ?_
              rotate_left
              · (intro w; go_simp); try (with_reducible rfl)
              try simp only [Act.put, List.setIfInBounds_toArray, List.set_cons_zero, List.set_cons_succ]
              refine reg_take 3 49 (v := ?_) rfl rfl (by kernel_rfl) (by kernel_rfl) (by kernel_rfl) (fun _ _ _ h => h) (by rfl) ?_ ?_
              rotate_left
              · (intro w; go_simp); try (with_reducible rfl)
              try simp only [Act.put, List.setIfInBounds_toArray, List.set_cons_zero, List.set_cons_succ]
              refine reg_take 4 50 (v := ?_) rfl rfl (by kernel_rfl) (by kernel_rfl) (by kernel_rfl) (fun _ _ _ h => h) (by rfl) ?_ ?_
              rotate_left
              · (intro w; go_simp); try (with_reducible rfl)
              try simp only [Act.put, List.setIfInBounds_toArray, List.set_cons_zero, List.set_cons_succ]
              refine wpAny_ready (rs := [5]) (by kernel_rfl) (by simp) ?_
              refine AllReady.cons rfl (fun K hK => ?_) AllReady.nil
              go_simp
              try (refine hK _ _ ?_)
              try (clear hK K)
              try simp only [Act.put, List.setIfInBounds_toArray, List.set_cons_zero, List.set_cons_succ]
              refine wpAny_ready (rs := [6]) (by kernel_rfl) (by simp) ?_
              refine AllReady.cons rfl (fun K hK => ?_) AllReady.nil
              go_simp
              go_wp2_with (refine (HWI.out _).mono ?_; rintro e w5 ⟨rfl, m5⟩; have HM5 := Lib.hid (((Mod.refl (fun _ => False) wr).drewN nq).drew.then m5))
              try (refine hK _ _ ?_)
              try (clear hK K)
              try simp only [Act.put, List.setIfInBounds_toArray, List.set_cons_zero, List.set_cons_succ]
              refine reg_take 7 53 (v := ?_) rfl rfl (by kernel_rfl) (by kernel_rfl) (by kernel_rfl) (fun _ _ _ h => h) (by rfl) ?_ ?_
              rotate_left
              · (intro w; go_simp); try (with_reducible rfl)
              try simp only [Act.put, List.setIfInBounds_toArray, List.set_cons_zero, List.set_cons_succ]
              refine reg_skip 8 54 rfl rfl (by kernel_rfl) (by kernel_rfl) (by kernel_rfl) (fun _ _ _ h => h) (by rfl) ?_
              try simp only [Act.put, List.setIfInBounds_toArray, List.set_cons_zero, List.set_cons_succ]
              refine reg_skip 9 55 rfl rfl (by kernel_rfl) (by kernel_rfl) (by kernel_rfl) (fun _ _ _ h => h) (by rfl) ?_
              try simp only [Act.put, List.setIfInBounds_toArray, List.set_cons_zero, List.set_cons_succ]
              refine reg_skip 10 56 rfl rfl (by kernel_rfl) (by kernel_rfl) (by kernel_rfl) (fun _ _ _ h => h) (by rfl) ?_
              try simp only [Act.put, List.setIfInBounds_toArray, List.set_cons_zero, List.set_cons_succ]
              refine reg_skip 11 57 rfl rfl (by kernel_rfl) (by kernel_rfl) (by kernel_rfl) (fun _ _ _ h => h) (by rfl) ?_
              try simp only [Act.put, List.setIfInBounds_toArray, List.set_cons_zero, List.set_cons_succ]
              refine reg_skip 12 58 rfl rfl (by kernel_rfl) (by kernel_rfl) (by kernel_rfl) (fun _ _ _ h => h) (by rfl) ?_
              try simp only [Act.put, List.setIfInBounds_toArray, List.set_cons_zero, List.set_cons_succ]
              refine reg_skip 13 59 rfl rfl (by kernel_rfl) (by kernel_rfl) (by kernel_rfl) (fun _ _ _ h => h) (by rfl) ?_
              try simp only [Act.put, List.setIfInBounds_toArray, List.set_cons_zero, List.set_cons_succ]
              refine reg_skip 14 60 rfl rfl (by kernel_rfl) (by kernel_rfl) (by kernel_rfl) (fun _ _ _ h => h) (by rfl) ?_
              try simp only [Act.put, List.setIfInBounds_toArray, List.set_cons_zero, List.set_cons_succ]
              refine reg_skip 15 61 rfl rfl (by kernel_rfl) (by kernel_rfl) (by kernel_rfl) (fun _ _ _ h => h) (by rfl) ?_
              try simp only [Act.put, List.setIfInBounds_toArray, List.set_cons_zero, List.set_cons_succ]
              refine reg_skip 16 62 rfl rfl (by kernel_rfl) (by kernel_rfl) (by kernel_rfl) (fun _ _ _ h => h) (by rfl) ?_
              try simp only [Act.put, List.setIfInBounds_toArray, List.set_cons_zero, List.set_cons_succ]
              refine reg_skip 17 63 rfl rfl (by kernel_rfl) (by kernel_rfl) (by kernel_rfl) (fun _ _ _ h => h) (by rfl) ?_
              try simp only [Act.put, List.setIfInBounds_toArray, List.set_cons_zero, List.set_cons_succ]
              refine reg_take 18 64 (v := ?_) rfl rfl (by kernel_rfl) (by kernel_rfl) (by kernel_rfl) (fun _ _ _ h => h) (by rfl) ?_ ?_
              rotate_left
              · (intro w; go_simp); try (with_reducible rfl)
              try simp only [Act.put, List.setIfInBounds_toArray, List.set_cons_zero, List.set_cons_succ]
              refine wpAny_done (by kernel_rfl) ?_ _
              all_goals
                go_wp2_with fail
                go_roundg (l.length - (j + 1))
                case measure => have := HJ.out; omega
                case rel => exact ⟨j + 1, by go_num, by omega, by rw [HSN2.out]; rfl, HB.out.mod HM5.out (fun e => e), HK.out.then HM5.out⟩
            | true =>
              have hd : decide ((labK z.name : Int) < (labK yn : Int)) = false := by have := HMO.out rfl; simp; omega
              have hd2 : (labK yn : Int) ≤ (labK z.name : Int) := by have := HMO.out rfl; omega
              have hd3 : labK yn ≤ labK z.name := HMO.out rfl
              have hs0 : (wr.drewN nq).cell? ⟨b1, o1 + j * 3, none⟩ = some (.string yn) ∧ (wr.drewN nq).cell? ⟨w4.heap.size, 0, none⟩ = some (.string z.name) := ⟨HQ1.out.1, HQ1.out.2.1⟩
              have HS0 := Lib.hid (hs0)
              clear hs0
              go_wp2_with fail
              go_region_held3 (fun w' => w'.cell? ⟨b1, o1 + j * 3, none⟩ = some (.string yn) ∧ w'.cell? ⟨w4.heap.size, 0, none⟩ = some (.string z.name)) (first | exact HS0.out | exact HS5.out | exact HS6.out | exact HS7.out) (first | (go_at_call 17; refine (HWI.out _).mono ?_; rintro e w5 ⟨rfl, m5⟩; have hm5 := ((Mod.refl (fun _ => False) wr).drewN nq).drew.then m5; have a1 := (hm5.cell (p := ⟨b1, o1 + j * 3, none⟩) (Nat.lt_of_lt_of_le HQ1.out.2.2.1 HK.out.size) (fun e => e)).trans HQ1.out.1; have a2 := (hm5.cell (p := ⟨w4.heap.size, 0, none⟩) HQ1.out.2.2.2 (fun e => e)).trans HQ1.out.2.1; have HS5 := Lib.hid (And.intro a1 a2); have HM5 := Lib.hid hm5; clear hm5 a1 a2 m5) | (go_at_call 18; refine (HLY.out _).mono ?_; rintro e w6 ⟨rfl, m6⟩; have hm6 := HM5.out.then m6; have a1 := (hm6.cell (p := ⟨b1, o1 + j * 3, none⟩) (Nat.lt_of_lt_of_le HQ1.out.2.2.1 HK.out.size) (fun e => e)).trans HQ1.out.1; have a2 := (hm6.cell (p := ⟨w4.heap.size, 0, none⟩) HQ1.out.2.2.2 (fun e => e)).trans HQ1.out.2.1; have HS6 := Lib.hid (And.intro a1 a2); have HM6 := Lib.hid hm6; clear hm6 a1 a2 m6 HM5 HLY) | (go_at_call 18; refine (HLZ.out _).mono ?_; rintro e w7 ⟨rfl, m7⟩; have hm7 := HM6.out.then m7; have a1 := (hm7.cell (p := ⟨b1, o1 + j * 3, none⟩) (Nat.lt_of_lt_of_le HQ1.out.2.2.1 HK.out.size) (fun e => e)).trans HQ1.out.1; have a2 := (hm7.cell (p := ⟨w4.heap.size, 0, none⟩) HQ1.out.2.2.2 (fun e => e)).trans HQ1.out.2.1; have HS7 := Lib.hid (And.intro a1 a2); have HM7 := Lib.hid hm7; clear hm7 a1 a2 m7 HM6) | fail)
              go_wp2_with fail
              go_roundg (l.length - (j + 1))
              case measure => have := HJ.out; omega
              case rel => exact ⟨j + 1, by go_num, by omega, by rw [HSN2.out]; rfl, HB.out.mod HM7.out (fun e => e), HK.out.then HM7.out⟩
          | false =>
            go_wp2_with fail
            go_quiet (fail)
            have HQ1 := Lib.hid (And.intro f1 (And.intro c1 (And.intro hb1 (HB.out.lt))))
            clear f1 f2 f3 c1 c2 c3 hq2
            cases wb with
            | false =>
              have f1 := HQ1.out.1
              go_wp2_with fail
              refine wp_region_any (by kernel_rfl) ?_
              try (change wpAny _ _ _ _ _ _ _ (World.drew _))
              refine reg_take 0 46 (v := ?_) rfl rfl (by kernel_rfl) (by kernel_rfl) (by kernel_rfl) (fun _ _ _ h => h) (by rfl) ?_ ?_
              rotate_left
              · (intro w; go_simp); try (with_reducible rfl)
              try simp only [Act.put, List.setIfInBounds_toArray, List.set_cons_zero, List.set_cons_succ]
              refine reg_take 1 47 (v := ?_) rfl rfl (by kernel_rfl) (by kernel_rfl) (by kernel_rfl) (fun _ _ _ h => h) (by rfl) ?_ ?_
              rotate_left
              · (intro w; go_simp); try (with_reducible rfl)
              try simp only [Act.put, List.setIfInBounds_toArray, List.set_cons_zero, List.set_cons_succ]
              refine reg_take 2 48 (v := ?_) rfl rfl (by kernel_rfl) (by kernel_rfl) (by kernel_rfl) (fun _ _ _ h => h) (by rfl) ?_ ?_
              rotate_left
              · (intro w; go_simp); try (with_reducible rfl)
              try simp only [Act.put, List.setIfInBounds_toArray, List.set_cons_zero, List.set_cons_succ]
              refine reg_take 3 49 (v := ?_) rfl rfl (by kernel_rfl) (by kernel_rfl) (by kernel_rfl) (fun _ _ _ h => h) (by rfl) ?_ ?_
              rotate_left
              · (intro w; go_simp); try (with_reducible rfl)
              try simp only [Act.put, List.setIfInBounds_toArray, List.set_cons_zero, List.set_cons_succ]
              refine reg_take 4 50 (v := ?_) rfl rfl (by kernel_rfl) (by kernel_rfl) (by kernel_rfl) (fun _ _ _ h => h) (by rfl) ?_ ?_
              rotate_left
              · (intro w; go_simp); try (with_reducible rfl)
              try simp only [Act.put, List.setIfInBounds_toArray, List.set_cons_zero, List.set_cons_succ]
              refine wpAny_ready (rs := [5]) (by kernel_rfl) (by simp) ?_
              refine AllReady.cons rfl (fun K hK => ?_) AllReady.nil
              go_simp
              try (refine hK _ _ ?_)
              try (clear hK K)
              try simp only [Act.put, List.setIfInBounds_toArray, List.set_cons_zero, List.set_cons_succ]
              refine wpAny_ready (rs := [6]) (by kernel_rfl) (by simp) ?_
              refine AllReady.cons rfl (fun K hK => ?_) AllReady.nil
              go_simp
              go_wp2_with (refine (HWI.out _).mono ?_; rintro e w5 ⟨rfl, m5⟩; have HM5 := Lib.hid (((Mod.refl (fun _ => False) wr).drewN nq).drew.then m5))
              try (refine hK _ _ ?_)
              try (clear hK K)
              try simp only [Act.put, List.setIfInBounds_toArray, List.set_cons_zero, List.set_cons_succ]
              refine reg_take 7 53 (v := ?_) rfl rfl (by kernel_rfl) (by kernel_rfl) (by kernel_rfl) (fun _ _ _ h => h) (by rfl) ?_ ?_
              rotate_left
              · (intro w; go_simp); try (with_reducible rfl)
              try simp only [Act.put, List.setIfInBounds_toArray, List.set_cons_zero, List.set_cons_succ]
              refine reg_skip 8 54 rfl rfl (by kernel_rfl) (by kernel_rfl) (by kernel_rfl) (fun _ _ _ h => h) (by rfl) ?_
              try simp only [Act.put, List.setIfInBounds_toArray, List.set_cons_zero, List.set_cons_succ]
              refine reg_skip 9 55 rfl rfl (by kernel_rfl) (by kernel_rfl) (by kernel_rfl) (fun _ _ _ h => h) (by rfl) ?_
              try simp only [Act.put, List.setIfInBounds_toArray, List.set_cons_zero, List.set_cons_succ]
              refine reg_skip 10 56 rfl rfl (by kernel_rfl) (by kernel_rfl) (by kernel_rfl) (fun _ _ _ h => h) (by rfl) ?_
              try simp only [Act.put, List.setIfInBounds_toArray, List.set_cons_zero, List.set_cons_succ]
              refine reg_skip 11 57 rfl rfl (by kernel_rfl) (by kernel_rfl) (by kernel_rfl) (fun _ _ _ h => h) (by rfl) ?_
              try simp only [Act.put, List.setIfInBounds_toArray, List.set_cons_zero, List.set_cons_succ]
              refine reg_skip 12 58 rfl rfl (by kernel_rfl) (by kernel_rfl) (by kernel_rfl) (fun _ _ _ h => h) (by rfl) ?_
              try simp only [Act.put, List.setIfInBounds_toArray, List.set_cons_zero, List.set_cons_succ]
              refine reg_skip 13 59 rfl rfl (by kernel_rfl) (by kernel_rfl) (by kernel_rfl) (fun _ _ _ h => h) (by rfl) ?_
              try simp only [Act.put, List.setIfInBounds_toArray, List.set_cons_zero, List.set_cons_succ]
              refine reg_skip 14 60 rfl rfl (by kernel_rfl) (by kernel_rfl) (by kernel_rfl) (fun _ _ _ h => h) (by rfl) ?_
              try simp only [Act.put, List.setIfInBounds_toArray, List.set_cons_zero, List.set_cons_succ]
              refine reg_skip 15 61 rfl rfl (by kernel_rfl) (by kernel_rfl) (by kernel_rfl) (fun _ _ _ h => h) (by rfl) ?_
              try simp only [Act.put, List.setIfInBounds_toArray, List.set_cons_zero, List.set_cons_succ]
              refine reg_skip 16 62 rfl rfl (by kernel_rfl) (by kernel_rfl) (by kernel_rfl) (fun _ _ _ h => h) (by rfl) ?_
              try simp only [Act.put, List.setIfInBounds_toArray, List.set_cons_zero, List.set_cons_succ]
              refine reg_skip 17 63 rfl rfl (by kernel_rfl) (by kernel_rfl) (by kernel_rfl) (fun _ _ _ h => h) (by rfl) ?_
              try simp only [Act.put, List.setIfInBounds_toArray, List.set_cons_zero, List.set_cons_succ]
              refine reg_take 18 64 (v := ?_) rfl rfl (by kernel_rfl) (by kernel_rfl) (by kernel_rfl) (fun _ _ _ h => h) (by rfl) ?_ ?_
              rotate_left
              · (intro w; go_simp); try (with_reducible rfl)
              try simp only [Act.put, List.setIfInBounds_toArray, List.set_cons_zero, List.set_cons_succ]
              refine wpAny_done (by kernel_rfl) ?_ _
              all_goals
                go_wp2_with fail
                go_roundg (l.length - (j + 1))
                case measure => have := HJ.out; omega
                case rel => exact ⟨j + 1, by go_num, by omega, by rw [HSN2.out, Bool.false_or], HB.out.mod HM5.out (fun e => e), HK.out.then HM5.out⟩
            | true =>
              have hd : decide ((labK z.name : Int) < (labK yn : Int)) = false := by have := HMO.out rfl; simp; omega
              have hd2 : (labK yn : Int) ≤ (labK z.name : Int) := by have := HMO.out rfl; omega
              have hd3 : labK yn ≤ labK z.name := HMO.out rfl
              have hs0 : (wr.drewN nq).cell? ⟨b1, o1 + j * 3, none⟩ = some (.string yn) ∧ (wr.drewN nq).cell? ⟨w4.heap.size, 0, none⟩ = some (.string z.name) := ⟨HQ1.out.1, HQ1.out.2.1⟩
              have HS0 := Lib.hid (hs0)
              clear hs0
              go_wp2_with fail
              go_region_held3 (fun w' => w'.cell? ⟨b1, o1 + j * 3, none⟩ = some (.string yn) ∧ w'.cell? ⟨w4.heap.size, 0, none⟩ = some (.string z.name)) (first | exact HS0.out | exact HS5.out | exact HS6.out | exact HS7.out) (first | (go_at_call 17; refine (HWI.out _).mono ?_; rintro e w5 ⟨rfl, m5⟩; have hm5 := ((Mod.refl (fun _ => False) wr).drewN nq).drew.then m5; have a1 := (hm5.cell (p := ⟨b1, o1 + j * 3, none⟩) (Nat.lt_of_lt_of_le HQ1.out.2.2.1 HK.out.size) (fun e => e)).trans HQ1.out.1; have a2 := (hm5.cell (p := ⟨w4.heap.size, 0, none⟩) HQ1.out.2.2.2 (fun e => e)).trans HQ1.out.2.1; have HS5 := Lib.hid (And.intro a1 a2); have HM5 := Lib.hid hm5; clear hm5 a1 a2 m5) | (go_at_call 18; refine (HLY.out _).mono ?_; rintro e w6 ⟨rfl, m6⟩; have hm6 := HM5.out.then m6; have a1 := (hm6.cell (p := ⟨b1, o1 + j * 3, none⟩) (Nat.lt_of_lt_of_le HQ1.out.2.2.1 HK.out.size) (fun e => e)).trans HQ1.out.1; have a2 := (hm6.cell (p := ⟨w4.heap.size, 0, none⟩) HQ1.out.2.2.2 (fun e => e)).trans HQ1.out.2.1; have HS6 := Lib.hid (And.intro a1 a2); have HM6 := Lib.hid hm6; clear hm6 a1 a2 m6 HM5 HLY) | (go_at_call 18; refine (HLZ.out _).mono ?_; rintro e w7 ⟨rfl, m7⟩; have hm7 := HM6.out.then m7; have a1 := (hm7.cell (p := ⟨b1, o1 + j * 3, none⟩) (Nat.lt_of_lt_of_le HQ1.out.2.2.1 HK.out.size) (fun e => e)).trans HQ1.out.1; have a2 := (hm7.cell (p := ⟨w4.heap.size, 0, none⟩) HQ1.out.2.2.2 (fun e => e)).trans HQ1.out.2.1; have HS7 := Lib.hid (And.intro a1 a2); have HM7 := Lib.hid hm7; clear hm7 a1 a2 m7 HM6) | fail)
              go_wp2_with fail
              go_roundg (l.length - (j + 1))
              case measure => have := HJ.out; omega
              case rel => exact ⟨j + 1, by go_num, by omega, by rw [HSN2.out, Bool.false_or], HB.out.mod HM7.out (fun e => e), HK.out.then HM7.out⟩
        · obtain rfl : j = l.length := by omega
          rw [List.take_length]
          have hq3 : ∀ w, (binOp .eql 35 (.agg #[.string z.name, .int .u8 z.pol, .int .u16 z.tr]) (.agg (znC znRoot))).run Try.prog w = .ok (.bool (eqZ z znRoot)) w := fun w => run_eql_zone z znRoot w
          have HC0 := Lib.hid (And.intro (HB.out.cell 0) (And.intro (HB.out.cell 1) (HB.out.cell 2)))
          rcases HLAST.out with ⟨h1, h2⟩ | ⟨h1, h2⟩ | ⟨h1, h2, h3⟩
          · rw [h2]
            have HWZ : Hid (withinN (bys n) (bys z.name) = true) := Lib.hid h1
            clear h1 h2 hq3 HLAST HMOST
            go_wp2_with fail
            refine wp_region_held_drew (S := (fun w' => w'.cell? ⟨w4.heap.size, 0, none⟩ = some (.string z.name) ∧ w'.cell? ⟨w4.heap.size, 1, none⟩ = some (.int .u8 z.pol) ∧ w'.cell? ⟨w4.heap.size, 2, none⟩ = some (.int .u16 z.tr))) (by kernel_rfl) ?_ (fun hHeld => ?_)
            · (try dsimp only); first | exact HC0.out | exact HC5.out | exact HC9.out
            refine regH_take 0 65 (v := ?_) rfl rfl (by kernel_rfl) (by kernel_rfl) (by kernel_rfl) (fun _ _ _ h => h) (by rfl) (by assumption) ?_ ?_
            rotate_left
            · (intro w hSw; (try dsimp only at hSw); go_simp); try (with_reducible rfl)
            try simp only [Act.put, List.setIfInBounds_toArray, List.set_cons_zero, List.set_cons_succ]
            refine regH_take 1 66 (v := ?_) rfl rfl (by kernel_rfl) (by kernel_rfl) (by kernel_rfl) (fun _ _ _ h => h) (by rfl) (by assumption) ?_ ?_
            rotate_left
            · (intro w hSw; (try dsimp only at hSw); go_simp); try (with_reducible rfl)
            try simp only [Act.put, List.setIfInBounds_toArray, List.set_cons_zero, List.set_cons_succ]
            refine regH_take 2 67 (v := ?_) rfl rfl (by kernel_rfl) (by kernel_rfl) (by kernel_rfl) (fun _ _ _ h => h) (by rfl) (by assumption) ?_ ?_
            rotate_left
            · (intro w hSw; (try dsimp only at hSw); go_simp); try (with_reducible rfl)
            try simp only [Act.put, List.setIfInBounds_toArray, List.set_cons_zero, List.set_cons_succ]
            refine regH_take 3 68 (v := ?_) rfl rfl (by kernel_rfl) (by kernel_rfl) (by kernel_rfl) (fun _ _ _ h => h) (by rfl) (by assumption) ?_ ?_
            rotate_left
            · (intro w hSw; (try dsimp only at hSw); go_simp); try (with_reducible rfl)
            try simp only [Act.put, List.setIfInBounds_toArray, List.set_cons_zero, List.set_cons_succ]
            refine regH_take 4 69 (v := ?_) rfl rfl (by kernel_rfl) (by kernel_rfl) (by kernel_rfl) (fun _ _ _ h => h) (by rfl) (by assumption) ?_ ?_
            rotate_left
            · (intro w hSw; (try dsimp only at hSw); go_simp); try (with_reducible rfl)
            try simp only [Act.put, List.setIfInBounds_toArray, List.set_cons_zero, List.set_cons_succ]
            refine wpAnyH_ready (rs := [5]) (by kernel_rfl) (by simp) ?_
            refine AllReadyH.cons rfl (fun K hK => ?_) AllReadyH.nil
            go_simp
            (refine (within_any n z.name hn HZS.out _).mono ?_; rw [HWZ.out]; rintro e w5 ⟨rfl, m5⟩; have hm5 := ((Mod.refl (fun _ => False) wr)).drew.then m5; have hB5 := HB.out.mod hm5 (fun e => e); have HC5 := Lib.hid (And.intro (hB5.cell 0) (And.intro (hB5.cell 1) (hB5.cell 2))); have HM5 := Lib.hid hm5; clear hm5 hB5 m5)
            try (go_wp2_with fail)
            refine hK.out _ _ ?_ (fun hHeld => ?_)
            · (try dsimp only); first | exact HC0.out | exact HC5.out | exact HC9.out
            clear hK K
            try simp only [Act.put, List.setIfInBounds_toArray, List.set_cons_zero, List.set_cons_succ]
            refine regH_take 6 71 (v := ?_) rfl rfl (by kernel_rfl) (by kernel_rfl) (by kernel_rfl) (fun _ _ _ h => h) (by rfl) (by assumption) ?_ ?_
            rotate_left
            · (intro w hSw; (try dsimp only at hSw); go_simp); try (with_reducible rfl)
            try simp only [Act.put, List.setIfInBounds_toArray, List.set_cons_zero, List.set_cons_succ]
            refine regH_take 7 72 (v := ?_) rfl rfl (by kernel_rfl) (by kernel_rfl) (by kernel_rfl) (fun _ _ _ h => h) (by rfl) (by assumption) ?_ ?_
            rotate_left
            · (intro w hSw; (try dsimp only at hSw); go_simp); try (with_reducible rfl)
            try simp only [Act.put, List.setIfInBounds_toArray, List.set_cons_zero, List.set_cons_succ]
            refine regH_skip 8 73 rfl rfl (by kernel_rfl) (by kernel_rfl) (by kernel_rfl) (fun _ _ _ h => h) (by rfl) (by assumption) ?_
            try simp only [Act.put, List.setIfInBounds_toArray, List.set_cons_zero, List.set_cons_succ]
            refine regH_skip 9 74 rfl rfl (by kernel_rfl) (by kernel_rfl) (by kernel_rfl) (fun _ _ _ h => h) (by rfl) (by assumption) ?_
            try simp only [Act.put, List.setIfInBounds_toArray, List.set_cons_zero, List.set_cons_succ]
            refine regH_skip 10 75 rfl rfl (by kernel_rfl) (by kernel_rfl) (by kernel_rfl) (fun _ _ _ h => h) (by rfl) (by assumption) ?_
            try simp only [Act.put, List.setIfInBounds_toArray, List.set_cons_zero, List.set_cons_succ]
            refine regH_take 11 76 (v := ?_) rfl rfl (by kernel_rfl) (by kernel_rfl) (by kernel_rfl) (fun _ _ _ h => h) (by rfl) (by assumption) ?_ ?_
            rotate_left
            · (intro w hSw; (try dsimp only at hSw); go_simp); try (with_reducible rfl)
            try simp only [Act.put, List.setIfInBounds_toArray, List.set_cons_zero, List.set_cons_succ]
            refine regH_take 12 4 (v := ?_) rfl rfl (by kernel_rfl) (by kernel_rfl) (by kernel_rfl) (fun _ _ _ h => h) (by rfl) (by assumption) ?_ ?_
            rotate_left
            · (intro w hSw; (try dsimp only at hSw); go_simp); try (with_reducible rfl)
            try simp only [Act.put, List.setIfInBounds_toArray, List.set_cons_zero, List.set_cons_succ]
            refine wpAnyH_done (by kernel_rfl) ?_ _
            go_wp2_with fail
            go_ret
            exact ⟨rfl, HK.out.then HM5.out⟩
          · have h2' : inB l z = false := by rw [h1]; exact h2
            have e3 : eqZ z znRoot = true := (eqZ_iff _ _).2 h1
            rw [h2']
            rw [e3] at hq3
            clear h1 h2 h2' e3 HLAST HMOST
            go_wp2_with fail
            refine wp_region_held_drew (S := (fun w' => w'.cell? ⟨w4.heap.size, 0, none⟩ = some (.string z.name) ∧ w'.cell? ⟨w4.heap.size, 1, none⟩ = some (.int .u8 z.pol) ∧ w'.cell? ⟨w4.heap.size, 2, none⟩ = some (.int .u16 z.tr))) (by kernel_rfl) ?_ (fun hHeld => ?_)
            · (try dsimp only); first | exact HC0.out | exact HC5.out | exact HC9.out
            refine regH_take 0 65 (v := ?_) rfl rfl (by kernel_rfl) (by kernel_rfl) (by kernel_rfl) (fun _ _ _ h => h) (by rfl) (by assumption) ?_ ?_
            rotate_left
            · (intro w hSw; (try dsimp only at hSw); go_simp); try (with_reducible rfl)
            try simp only [Act.put, List.setIfInBounds_toArray, List.set_cons_zero, List.set_cons_succ]
            refine regH_take 1 66 (v := ?_) rfl rfl (by kernel_rfl) (by kernel_rfl) (by kernel_rfl) (fun _ _ _ h => h) (by rfl) (by assumption) ?_ ?_
            rotate_left
            · (intro w hSw; (try dsimp only at hSw); go_simp); try (with_reducible rfl)
            try simp only [Act.put, List.setIfInBounds_toArray, List.set_cons_zero, List.set_cons_succ]
            refine regH_skip 2 67 rfl rfl (by kernel_rfl) (by kernel_rfl) (by kernel_rfl) (fun _ _ _ h => h) (by rfl) (by assumption) ?_
            try simp only [Act.put, List.setIfInBounds_toArray, List.set_cons_zero, List.set_cons_succ]
            refine regH_skip 3 68 rfl rfl (by kernel_rfl) (by kernel_rfl) (by kernel_rfl) (fun _ _ _ h => h) (by rfl) (by assumption) ?_
            try simp only [Act.put, List.setIfInBounds_toArray, List.set_cons_zero, List.set_cons_succ]
            refine regH_skip 4 69 rfl rfl (by kernel_rfl) (by kernel_rfl) (by kernel_rfl) (fun _ _ _ h => h) (by rfl) (by assumption) ?_
            try simp only [Act.put, List.setIfInBounds_toArray, List.set_cons_zero, List.set_cons_succ]
            refine regH_skip 5 70 rfl rfl (by kernel_rfl) (by kernel_rfl) (by kernel_rfl) (fun _ _ _ h => h) (by rfl) (by assumption) ?_
            try simp only [Act.put, List.setIfInBounds_toArray, List.set_cons_zero, List.set_cons_succ]
            refine regH_take 6 71 (v := ?_) rfl rfl (by kernel_rfl) (by kernel_rfl) (by kernel_rfl) (fun _ _ _ h => h) (by rfl) (by assumption) ?_ ?_
            rotate_left
            · (intro w hSw; (try dsimp only at hSw); go_simp); try (with_reducible rfl)
            try simp only [Act.put, List.setIfInBounds_toArray, List.set_cons_zero, List.set_cons_succ]
            refine regH_take 7 72 (v := ?_) rfl rfl (by kernel_rfl) (by kernel_rfl) (by kernel_rfl) (fun _ _ _ h => h) (by rfl) (by assumption) ?_ ?_
            rotate_left
            · (intro w hSw; (try dsimp only at hSw); go_simp); try (with_reducible rfl)
            try simp only [Act.put, List.setIfInBounds_toArray, List.set_cons_zero, List.set_cons_succ]
            refine regH_take 8 73 (v := ?_) rfl rfl (by kernel_rfl) (by kernel_rfl) (by kernel_rfl) (fun _ _ _ h => h) (by rfl) (by assumption) ?_ ?_
            rotate_left
            · (intro w hSw; (try dsimp only at hSw); go_simp); try (with_reducible rfl)
            try simp only [Act.put, List.setIfInBounds_toArray, List.set_cons_zero, List.set_cons_succ]
            refine wpAnyH_ready (rs := [9]) (by kernel_rfl) (by simp) ?_
            refine AllReadyH.cons rfl (fun K hK => ?_) AllReadyH.nil
            go_simp
            (refine (none_any _).mono ?_; rintro e w9 ⟨rfl, m9⟩; have hm9 := (Mod.refl (fun _ => False) wr).drew.then m9; have hB9 := HB.out.mod hm9 (fun e => e); have HC9 := Lib.hid (And.intro (hB9.cell 0) (And.intro (hB9.cell 1) (hB9.cell 2))); have HM9 := Lib.hid hm9; clear hm9 hB9 m9)
            try (go_wp2_with fail)
            refine hK.out _ _ ?_ (fun hHeld => ?_)
            · (try dsimp only); first | exact HC0.out | exact HC5.out | exact HC9.out
            clear hK K
            try simp only [Act.put, List.setIfInBounds_toArray, List.set_cons_zero, List.set_cons_succ]
            refine regH_take 10 75 (v := ?_) rfl rfl (by kernel_rfl) (by kernel_rfl) (by kernel_rfl) (fun _ _ _ h => h) (by rfl) (by assumption) ?_ ?_
            rotate_left
            · (intro w hSw; (try dsimp only at hSw); go_simp); try (with_reducible rfl)
            try simp only [Act.put, List.setIfInBounds_toArray, List.set_cons_zero, List.set_cons_succ]
            refine regH_take 11 76 (v := ?_) rfl rfl (by kernel_rfl) (by kernel_rfl) (by kernel_rfl) (fun _ _ _ h => h) (by rfl) (by assumption) ?_ ?_
            rotate_left
            · (intro w hSw; (try dsimp only at hSw); go_simp); try (with_reducible rfl)
            try simp only [Act.put, List.setIfInBounds_toArray, List.set_cons_zero, List.set_cons_succ]
            refine regH_take 12 4 (v := ?_) rfl rfl (by kernel_rfl) (by kernel_rfl) (by kernel_rfl) (fun _ _ _ h => h) (by rfl) (by assumption) ?_ ?_
            rotate_left
            · (intro w hSw; (try dsimp only at hSw); go_simp); try (with_reducible rfl)
            try simp only [Act.put, List.setIfInBounds_toArray, List.set_cons_zero, List.set_cons_succ]
            refine wpAnyH_done (by kernel_rfl) ?_ _
            go_wp2_with fail
            go_ret
            exact ⟨rfl, HK.out.then HM9.out⟩
          · have h2' : inB l z = true := by rw [h1]; exact h2
            have e3 : eqZ z znRoot = true := (eqZ_iff _ _).2 h1
            have HWZ : Hid (withinN (bys n) (bys z.name) = false) := Lib.hid (by rw [h1]; exact h3)
            rw [h2']
            rw [e3] at hq3
            clear h1 h2 h2' h3 e3 HLAST HMOST
            go_wp2_with fail
            refine wp_region_held_drew (S := (fun w' => w'.cell? ⟨w4.heap.size, 0, none⟩ = some (.string z.name) ∧ w'.cell? ⟨w4.heap.size, 1, none⟩ = some (.int .u8 z.pol) ∧ w'.cell? ⟨w4.heap.size, 2, none⟩ = some (.int .u16 z.tr))) (by kernel_rfl) ?_ (fun hHeld => ?_)
            · (try dsimp only); first | exact HC0.out | exact HC5.out | exact HC9.out
            refine regH_take 0 65 (v := ?_) rfl rfl (by kernel_rfl) (by kernel_rfl) (by kernel_rfl) (fun _ _ _ h => h) (by rfl) (by assumption) ?_ ?_
            rotate_left
            · (intro w hSw; (try dsimp only at hSw); go_simp); try (with_reducible rfl)
            try simp only [Act.put, List.setIfInBounds_toArray, List.set_cons_zero, List.set_cons_succ]
            refine regH_take 1 66 (v := ?_) rfl rfl (by kernel_rfl) (by kernel_rfl) (by kernel_rfl) (fun _ _ _ h => h) (by rfl) (by assumption) ?_ ?_
            rotate_left
            · (intro w hSw; (try dsimp only at hSw); go_simp); try (with_reducible rfl)
            try simp only [Act.put, List.setIfInBounds_toArray, List.set_cons_zero, List.set_cons_succ]
            refine regH_take 2 67 (v := ?_) rfl rfl (by kernel_rfl) (by kernel_rfl) (by kernel_rfl) (fun _ _ _ h => h) (by rfl) (by assumption) ?_ ?_
            rotate_left
            · (intro w hSw; (try dsimp only at hSw); go_simp); try (with_reducible rfl)
            try simp only [Act.put, List.setIfInBounds_toArray, List.set_cons_zero, List.set_cons_succ]
            refine regH_take 3 68 (v := ?_) rfl rfl (by kernel_rfl) (by kernel_rfl) (by kernel_rfl) (fun _ _ _ h => h) (by rfl) (by assumption) ?_ ?_
            rotate_left
            · (intro w hSw; (try dsimp only at hSw); go_simp); try (with_reducible rfl)
            try simp only [Act.put, List.setIfInBounds_toArray, List.set_cons_zero, List.set_cons_succ]
            refine regH_take 4 69 (v := ?_) rfl rfl (by kernel_rfl) (by kernel_rfl) (by kernel_rfl) (fun _ _ _ h => h) (by rfl) (by assumption) ?_ ?_
            rotate_left
            · (intro w hSw; (try dsimp only at hSw); go_simp); try (with_reducible rfl)
            try simp only [Act.put, List.setIfInBounds_toArray, List.set_cons_zero, List.set_cons_succ]
            refine wpAnyH_ready (rs := [5]) (by kernel_rfl) (by simp) ?_
            refine AllReadyH.cons rfl (fun K hK => ?_) AllReadyH.nil
            go_simp
            (refine (within_any n z.name hn HZS.out _).mono ?_; rw [HWZ.out]; rintro e w5 ⟨rfl, m5⟩; have hm5 := ((Mod.refl (fun _ => False) wr)).drew.then m5; have hB5 := HB.out.mod hm5 (fun e => e); have HC5 := Lib.hid (And.intro (hB5.cell 0) (And.intro (hB5.cell 1) (hB5.cell 2))); have HM5 := Lib.hid hm5; clear hm5 hB5 m5)
            try (go_wp2_with fail)
            refine hK.out _ _ ?_ (fun hHeld => ?_)
            · (try dsimp only); first | exact HC0.out | exact HC5.out | exact HC9.out
            clear hK K
            try simp only [Act.put, List.setIfInBounds_toArray, List.set_cons_zero, List.set_cons_succ]
            refine regH_take 6 71 (v := ?_) rfl rfl (by kernel_rfl) (by kernel_rfl) (by kernel_rfl) (fun _ _ _ h => h) (by rfl) (by assumption) ?_ ?_
            rotate_left
            · (intro w hSw; (try dsimp only at hSw); go_simp); try (with_reducible rfl)
            try simp only [Act.put, List.setIfInBounds_toArray, List.set_cons_zero, List.set_cons_succ]
            refine regH_take 7 72 (v := ?_) rfl rfl (by kernel_rfl) (by kernel_rfl) (by kernel_rfl) (fun _ _ _ h => h) (by rfl) (by assumption) ?_ ?_
            rotate_left
            · (intro w hSw; (try dsimp only at hSw); go_simp); try (with_reducible rfl)
            try simp only [Act.put, List.setIfInBounds_toArray, List.set_cons_zero, List.set_cons_succ]
            refine regH_take 8 73 (v := ?_) rfl rfl (by kernel_rfl) (by kernel_rfl) (by kernel_rfl) (fun _ _ _ h => h) (by rfl) (by assumption) ?_ ?_
            rotate_left
            · (intro w hSw; (try dsimp only at hSw); go_simp); try (with_reducible rfl)
            try simp only [Act.put, List.setIfInBounds_toArray, List.set_cons_zero, List.set_cons_succ]
            refine wpAnyH_ready (rs := [9]) (by kernel_rfl) (by simp) ?_
            refine AllReadyH.cons rfl (fun K hK => ?_) AllReadyH.nil
            go_simp
            (refine (none_any _).mono ?_; rintro e w9 ⟨rfl, m9⟩; have hm9 := HM5.out.then m9; have hB9 := HB.out.mod hm9 (fun e => e); have HC9 := Lib.hid (And.intro (hB9.cell 0) (And.intro (hB9.cell 1) (hB9.cell 2))); have HM9 := Lib.hid hm9; clear hm9 hB9 m9)
            try (go_wp2_with fail)
            refine hK.out _ _ ?_ (fun hHeld => ?_)
            · (try dsimp only); first | exact HC0.out | exact HC5.out | exact HC9.out
            clear hK K
            try simp only [Act.put, List.setIfInBounds_toArray, List.set_cons_zero, List.set_cons_succ]
            refine regH_take 10 75 (v := ?_) rfl rfl (by kernel_rfl) (by kernel_rfl) (by kernel_rfl) (fun _ _ _ h => h) (by rfl) (by assumption) ?_ ?_
            rotate_left
            · (intro w hSw; (try dsimp only at hSw); go_simp); try (with_reducible rfl)
            try simp only [Act.put, List.setIfInBounds_toArray, List.set_cons_zero, List.set_cons_succ]
            refine regH_take 11 76 (v := ?_) rfl rfl (by kernel_rfl) (by kernel_rfl) (by kernel_rfl) (fun _ _ _ h => h) (by rfl) (by assumption) ?_ ?_
            rotate_left
            · (intro w hSw; (try dsimp only at hSw); go_simp); try (with_reducible rfl)
            try simp only [Act.put, List.setIfInBounds_toArray, List.set_cons_zero, List.set_cons_succ]
            refine regH_take 12 4 (v := ?_) rfl rfl (by kernel_rfl) (by kernel_rfl) (by kernel_rfl) (fun _ _ _ h => h) (by rfl) (by assumption) ?_ ?_
            rotate_left
            · (intro w hSw; (try dsimp only at hSw); go_simp); try (with_reducible rfl)
            try simp only [Act.put, List.setIfInBounds_toArray, List.set_cons_zero, List.set_cons_succ]
            refine wpAnyH_done (by kernel_rfl) ?_ _
            go_wp2_with fail
            go_ret
            exact ⟨rfl, HK.out.then HM9.out⟩
    · obtain ⟨k3, rfl⟩ := h3.bad rfl h0
      have HK3 := Lib.hid (HK2.out.then k3)
      have b1n : (newE l != 0) = true := by simpa using h0
      clear h3 k3 h0
      generalize newE l = x at *
      go_wp2_with fail
      go_ret
      exact ⟨rfl, HK3.out⟩
end Go.Proofs.Ytgibhcmdmdbpgaa
