/- TimerBy, walked. Conditions: none. -/
import Derived.Test.YtgmnhjbejofnhaaTmApt
namespace Go.Proofs.Ytgmnhjbejofnhaa
open Go.RowKit Go.Lib

theorem dueN_more {L : List Th} {now : Int} {p : Nat} (hp : p ≤ L.length) (h : ∀ i (hi : i < L.length), i < p → L[i].rd ≤ now) : dueN L now = p + dueN (L.drop p) now := by
  unfold dueN
  conv => lhs; rw [← List.take_append_drop p L]
  have hall : ∀ x ∈ L.take p, decide (x.rd ≤ now) = true := by
    intro x hx
    obtain ⟨i, hi, rfl⟩ := List.mem_iff_getElem.1 hx
    rw [List.length_take] at hi
    rw [List.getElem_take]
    simpa using h i (by omega) (by omega)
  rw [List.takeWhile_append_of_pos hall, List.length_append, List.length_take]
  omega
theorem dueN_le (L : List Th) (now : Int) : dueN L now ≤ L.length := by
  unfold dueN
  exact (List.takeWhile_sublist _).length_le
theorem dueN_all {L : List Th} {now : Int} {i : Nat} (hi : i < L.length) (h : i < dueN L now) : L[i].rd ≤ now := by
  have h' : i < (L.takeWhile (fun x => decide (x.rd ≤ now))).length := h
  have hm := List.getElem_mem h'
  have h2 := List.all_eq_true.1 (List.all_takeWhile (p := fun x : Th => decide (x.rd ≤ now)) (l := L)) _ hm
  have e : (L.takeWhile (fun x => decide (x.rd ≤ now)))[i] = L[i] := (List.takeWhile_prefix _).getElem h'
  rw [e] at h2
  simpa using h2

def ByRel (L : List Th) (n : Int) (readings : List Int) (gt : Nat) (vt : Value) (w3 : World) (k : Nat) (s7 s8 s9 : Value) (wr : World) : Prop :=
  ∃ (j p : Nat) (now : Int) (vt' : Value), s8 = .int .i64 now ∧ s9 = .int .i64 j ∧ j + k = readings.length ∧ p ≤ L.length ∧ (∀ i (hi : i < L.length), i < p → L[i].rd ≤ now) ∧ (0 < j → p = dueN L now) ∧ (j = 0 → p = 0) ∧
    wr.ownsRow w3.heap.size 3 1 s7 p (ints (idsT (L.take p))) ∧ Tm wr gt gt vt' (L.drop p) n ∧ vt'.ownBlock = vt.ownBlock ∧ Mod (Fp gt vt) w3 wr
abbrev RdR (w : World) (v : Value) (l : List Int) : Prop := Rd w 1 v l.length (l.map (Value.int .i64))

theorem by_big1 (v1 v2 : Value) (l : List (Int × Int)) (rs : List Int) (hl : 150 < l.length) (w : World) (hv : RdS w v1 l) (hv2 : RdR w v2 rs) :
    Calls Try.prog 4 #[v1, v2] w fun e w' => e = .returned (.bool true) ∧ Kept w w' := by
  obtain ⟨_, A, c, rfl, _⟩ := hv
  obtain ⟨_, A2, c2, rfl, _⟩ := hv2
  have h1 : (150 : Int) < l.length := by omega
  go_enter Try.func4, Try.ntmps4
  go_wp2_with (go_at_call 10; refine (awake_c _).mono ?_; rintro e w1 ⟨rfl, hm1⟩)
  go_ret
  exact ⟨rfl, hm1⟩
theorem by_big2 (v1 v2 : Value) (l : List (Int × Int)) (rs : List Int) (hl0 : l.length ≤ 150) (hl : 150 < rs.length) (w : World) (hv : RdS w v1 l) (hv2 : RdR w v2 rs) :
    Calls Try.prog 4 #[v1, v2] w fun e w' => e = .returned (.bool true) ∧ Kept w w' := by
  obtain ⟨_, A, c, rfl, _⟩ := hv
  obtain ⟨_, A2, c2, rfl, _⟩ := hv2
  have h1 : (150 : Int) < rs.length := by omega
  have h2 : decide ((150 : Int) < l.length) = false := by simp; omega
  go_enter Try.func4, Try.ntmps4
  go_wp2_with (go_at_call 10; refine (awake_c _).mono ?_; rintro e w1 ⟨rfl, hm1⟩)
  go_ret
  exact ⟨rfl, hm1⟩

/-- One round in memory: what is due is told, and joined to what was told. -/
theorem by_round {L : List Th} {n : Int} {gt : Nat} {vt vt' vt2 : Value} {w3 wr w5 w6 : World} {p : Nat} {now : Int} {s7 v6 : Value} (hp : p ≤ L.length) (hle : ∀ i (hi : i < L.length), i < p → L[i].rd ≤ now)
    (hv : vt'.ownBlock = vt.ownBlock) (hM : Mod (Fp gt vt) w3 wr) (hlt : ∀ k, Fp gt vt k → k < w3.heap.size)
    (hT2 : Tm w5 gt gt vt2 ((L.drop p).drop (dueN (L.drop p) now)) n) (hm5 : Mod (Fp gt vt') wr w5) (hv2 : vt2.ownBlock = vt'.ownBlock)
    (ho : wr.ownsRow w3.heap.size 3 1 s7 p (ints (idsT (L.take p))))
    (ho6 : w6.ownsRow w3.heap.size 3 1 v6 (p + dueN (L.drop p) now) (ints (idsT (L.take p)) ++ ints (idsT ((L.drop p).take (dueN (L.drop p) now))))) (hm6 : Mod (fun k => s7.ownBlock = some k) w5 w6) :
    w6.ownsRow w3.heap.size 3 1 v6 (dueN L now) (ints (idsT (L.take (dueN L now)))) ∧ Tm w6 gt gt vt2 (L.drop (dueN L now)) n ∧ vt2.ownBlock = vt.ownBlock ∧ Mod (Fp gt vt) w3 w6 := by
  have hd := dueN_more hp hle
  have hF : Fp gt vt' = Fp gt vt := Fp.same hv
  rw [hF] at hm5
  refine ⟨?_, ?_, hv2.trans hv, ?_⟩
  · rw [hd]
    have : ints (idsT (L.take (p + dueN (L.drop p) now))) = ints (idsT (L.take p)) ++ ints (idsT ((L.drop p).take (dueN (L.drop p) now))) := by
      rw [List.take_add]
      unfold ints idsT
      rw [List.map_append, List.map_append]
    rw [this]
    exact ho6
  · rw [hd]
    rw [List.drop_drop] at hT2
    refine hT2.mod hm6 fun k hk e => ?_
    rw [Fp.same hv2, hF] at hk
    have h1 := hlt k hk
    have h2 := (ho.lt k e).1
    omega
  · exact Mod.trans (hM.then hm5) hm6 fun i hi e => by have := (ho.lt i e).1; omega

set_option maxHeartbeats 4000000 in
set_option maxRecDepth 100000 in
theorem by_small (v1 v2 : Value) (l : List (Int × Int)) (rs : List Int) (hl1 : l.length ≤ 150) (hl2 : rs.length ≤ 150) (w : World) (hv : RdS w v1 l) (hv2 : RdR w v2 rs) :
    Calls Try.prog 4 #[v1, v2] w fun e w' => e = .returned (.bool true) ∧ Kept w w' := by
  have H := Lib.hid hv
  have H2 := Lib.hid hv2
  obtain ⟨_, A, c, rfl, _⟩ := hv
  obtain ⟨_, A2, c2, rfl, _⟩ := hv2
  have hd1 : decide ((150 : Int) < l.length) = false := by simp; omega
  have hd2 : decide ((150 : Int) < rs.length) = false := by simp; omega
  go_enter Try.func4, Try.ntmps4
  go_wp2_with fail
  refine (awake_c _).mono ?_
  rintro e w1 ⟨rfl, hk1⟩
  go_wp2_with fail
  refine (put_l _ l (by omega) _ (H.out.kept hk1 (fun _ _ e => e))).mono ?_
  rintro e w2 ⟨rfl, vt, ht2⟩
  have hk2 : Kept w w2 := hk1.then ht2.kept
  go_wp2_with fail
  refine (put_l _ l (by omega) _ (H.out.kept hk2 (fun _ _ e => e))).mono ?_
  rintro e w3 ⟨rfl, vu, hu3⟩
  have ht3 := ht2.tm.kept hu3.kept
  have hk3 : Kept w w3 := hk2.then hu3.kept
  have hltt : ∀ k, Fp w1.heap.size vt k → k < w2.heap.size := fun k hk => (ht2.tm.lt k hk).2
  have hL := ht2.len
  generalize hLe : (putsT l ([], 0)).1 = L at *
  have HT3 := Lib.hid ht3
  have HU3 := Lib.hid hu3.tm
  have HK3 := Lib.hid hk3
  have HLT := Lib.hid hltt
  have hs23 := hu3.kept.size
  have hs01 := hk1.size
  have hs02 := hk2.size
  have hs03 := hk3.size
  clear ht3 ht2 hu3 hk1 hk2 hk3 hltt hLe
  generalize w1.heap.size = gt at *
  generalize w2.heap.size = gu at *
  go_wp2_with fail
  go_loopg [7, 8, 9] rs.length (fun k s7 s8 s9 wr => ByRel L l.length rs gt vt w3 k s7 s8 s9 wr)
  case atStart => exact ⟨0, 0, _, vt, rfl, rfl, by omega, Nat.zero_le _, fun i _ hi => absurd hi (Nat.not_lt_zero _), fun h => absurd h (Nat.lt_irrefl _), fun _ => rfl, World.ownsRow_nil _ _ _ _, by rw [List.drop_zero]; exact HT3.out, rfl, Mod.refl _ _⟩
  case round =>
    obtain ⟨j, p, now, vt', rfl, rfl, hj, hp, hle, hpj, hp0, ho, hT, hvt, hM⟩ := hrel
    have HP0 := Lib.hid hp0
    clear hp0
    have hjl : j ≤ rs.length := by omega
    have HJ := Lib.hid hj
    have HLE := Lib.hid hle
    have HPJ := Lib.hid hpj
    have HO := Lib.hid ho
    have HT := Lib.hid hT
    have HVT := Lib.hid hvt
    have HM := Lib.hid hM
    clear hj hle hpj ho hT hvt hM
    have HKR : Hid (Kept w wr) := Mod.trans HK3.out HM.out fun i hi e => by have := (HT3.out.lt i e).1; omega
    by_cases hlt : j < rs.length
    · obtain ⟨b1, o1, c1', e1, hb, g1⟩ := H2.out.at hlt
      injection e1 with e1 _ e1'
      subst e1 e1'
      have f1 := g1 j (.int .i64 rs[j]) (by simp [hlt])
      clear g1
      rw [← HKR.out.cell (p := ⟨b1, o1 + j, none⟩) hb (fun e => e)] at f1
      have i1 : (j : Int) < rs.length := by omega
      generalize rs[j] = r at *
      obtain ⟨A7, c7, rfl⟩ := own_form HO.out
      have hle2 : ∀ i (hi : i < L.length), i < p → L[i].rd ≤ max now r := fun i hi hip => by
        have := HLE.out i hi hip
        omega
      have HLE2 := Lib.hid hle2
      have hdl : (L.drop p).length ≤ 90000 := by rw [List.length_drop]; omega
      have HDL := Lib.hid hdl
      have hdn := dueN_le (L.drop p) (max now r)
      rw [List.length_drop] at hdn
      have HL2 := Lib.hid hL
      clear hb hle2 hdl
      go_wp2_with fail
      generalize max now r = nx at *
      refine (due_c gt gt vt' _ _ nx _ HT.out HDL.out).mono ?_
      rintro e w5 ⟨vo5, rfl, ho5, vt5, ht5, hm5, hv5⟩
      have ho57 := own_mod HO.out hm5 (fun k hk e => by rw [Fp.same HVT.out] at e; have h1 := HLT.out k e; have h2 := (HO.out.lt k hk).1; omega)
      have hb1 : p + dueN (L.drop p) nx ≤ maxLen := by simp only [maxLen]; omega
      have hb2 : (p + dueN (L.drop p) nx) * 8 ≤ 140737488355328 := by omega
      have hone : ∀ u ∈ ints (idsT ((L.drop p).take (dueN (L.drop p) nx))), u.oneCell' = true := by
        intro u hu
        unfold ints at hu
        obtain ⟨z, _, rfl⟩ := List.mem_map.1 hu
        rfl
      have hsz : w3.heap.size ≤ w5.heap.size := Nat.le_trans HM.out.size hm5.size
      have HW := Lib.hid (And.intro ho57 (And.intro hb1 (And.intro hb2 (And.intro hone hsz))))
      have H5 := Lib.hid (And.intro ht5 (And.intro hm5 hv5))
      obtain ⟨A5, c5, rfl⟩ := own_form ho5
      have HO5 := Lib.hid (Rd.of_own ho5)
      clear ho57 hb1 hb2 hone hsz ht5 hm5 hv5 ho5 hdn
      go_wp2_with (at_builtin; refine wpList_append_rd 26 3 1 8 elem_int (.tmp 39) (.tmp 42) rfl rfl w3.heap.size _ _ _ rfl HW.out.1 _ _ _ rfl HO5.out HW.out.2.2.2.1 HW.out.2.1 HW.out.2.2.1 HW.out.2.2.2.2 ?_; intro v6 w6 ho6 hm6 _)
      have hz := by_round hp HLE2.out HVT.out HM.out (fun k hk => by have := HLT.out k hk; omega) H5.out.1 H5.out.2.1 H5.out.2.2 HO.out ho6 hm6
      go_roundg (rs.length - (j + 1))
      case measure => have := HJ.out; omega
      case rel =>
        refine ⟨j + 1, dueN L nx, nx, vt5, rfl, by go_num, by omega, dueN_le L nx, fun i hi hin => dueN_all hi hin, fun _ => rfl, fun h => absurd h (Nat.succ_ne_zero j), hz.1, hz.2.1, hz.2.2.1, hz.2.2.2⟩
    · obtain rfl : j = rs.length := by omega
      have hltu : ∀ k, Fp gt vt k → k < gu := HLT.out
      have hur : Tm wr gu gu vu L l.length := HU3.out.mod HM.out (fun k hk e => by have h1 := hltu k e; have h2 := (HU3.out.lt k hk).1; omega)
      have HUR := Lib.hid hur
      have hltv : ∀ k, Fp gt vt' k → k < gu := by rw [Fp.same HVT.out]; exact hltu
      have HLV := Lib.hid hltv
      have HL2 := Lib.hid hL
      have hlu3 := fun k hk => (HU3.out.lt k hk).2
      have HLU3 := Lib.hid hlu3
      clear hur hltu hltv HU3 hlu3
      obtain ⟨A7, c7, rfl⟩ := own_form HO.out
      by_cases hz : rs.length = 0
      · have d0 : ((rs.length : Int) == 0) = true := beq_iff_eq.2 (by omega)
        have hpz : p = 0 := HP0.out hz
        subst hpz
        have hTz := HT.out
        rw [List.drop_zero] at hTz
        have HTZ := Lib.hid hTz
        clear hTz hz
        go_wp2_with fail
        refine (len_c gt gt vt' _ _ _ HTZ.out).mono ?_
        rintro e w5 ⟨rfl, rfl⟩
        go_wp2_with fail
        refine (len_c gu gu vu _ _ _ HUR.out).mono ?_
        rintro e w5 ⟨rfl, rfl⟩
        go_wp2_with fail
        go_ret
        exact ⟨ret_bool (by simp), HKR.out⟩
      · have hpe := HPJ.out (by omega)
        have d0 : ((rs.length : Int) == 0) = false := beq_eq_false_iff_ne.2 (by omega)
        have HPE := Lib.hid hpe
        clear hpe hz
        go_wp2_with fail
        refine (due_c gu gu vu _ _ now _ HUR.out (by have := HL2.out; omega)).mono ?_
        rintro e w5 ⟨vo5, rfl, ho5, vu5, hu5, hm5, hv5⟩
        rw [← HPE.out] at ho5 hu5
        have ht5 := HT.out.other HUR.out (B := gu) (Nat.le_refl _) HLV.out hm5
        have ho57 := own_mod HO.out hm5 (fun k hk e => by have h1 := HLU3.out k e; have h2 := (HO.out.lt k hk).1; omega)
        have hk5 : Kept w w5 := Mod.trans HKR.out hm5 fun i hi e => by have := (HUR.out.lt i e).1; omega
        obtain ⟨A5, c5, rfl⟩ := own_form ho5
        have hrl : (idsT (L.take p)).length ≤ 4611686018427387904 := by unfold idsT; rw [List.length_map, List.length_take]; omega
        go_wp2_with fail
        refine (ints12k _ _ _ _ hrl true (by simp) _ (Rd.of_own ho57).asInts (Rd.of_own ho5).asInts).mono ?_
        rintro e w6 ⟨rfl, hm6⟩
        have ht6 := ht5.kept hm6
        have hu6 := hu5.kept hm6
        have hk6 := hk5.then hm6
        clear ht5 hu5 hk5 ho57 ho5 hm5 hm6
        generalize hQ : L.drop p = Q at *
        have hQl : Q.length ≤ 90000 := by rw [← hQ, List.length_drop]; omega
        clear hQ
        go_wp2_with fail
        refine (len_c gt gt vt' _ _ _ ht6).mono ?_
        rintro e w7 ⟨rfl, rfl⟩
        go_wp2_with fail
        refine (len_c gu gu vu5 _ _ _ hu6).mono ?_
        rintro e w7 ⟨rfl, rfl⟩
        have t3 : ((Q.length : Int) == (Q.length : Int)) = true := by simp
        go_wp2_with fail
        refine (due_c gt gt vt' _ _ 9223372036854775807 _ ht6 hQl).mono ?_
        rintro e w7 ⟨vo7, rfl, ho7, vt7, ht7, hm7, hv7⟩
        have hu7 := hu6.other' ht6 (Nat.le_refl _) HLV.out hm7
        have hk7 : Kept w w7 := Mod.trans hk6 hm7 fun i hi e => by have := (ht6.lt i e).1; omega
        have hlu6 := fun k hk => (hu6.lt k hk).2
        clear ht6 hu6 ht7 hm7 hk6 t3
        obtain ⟨A8, c8, rfl⟩ := own_form ho7
        go_wp2_with fail
        refine (due_c gu gu vu5 _ _ 9223372036854775807 _ hu7 hQl).mono ?_
        rintro e w8 ⟨vo8, rfl, ho8, vu8, hu8, hm8, hv8⟩
        have ho78 := own_mod ho7 hm8 (fun k hk e => by have h1 := (ho7.lt k hk).1; have h2 := hlu6 k e; omega)
        have hk8 : Kept w w8 := Mod.trans hk7 hm8 fun i hi e => by have := (hu7.lt i e).1; omega
        clear hu7 hu8 hm8 hk7 ho7 hlu6
        obtain ⟨A9, c9, rfl⟩ := own_form ho8
        have hrl2 : (idsT (Q.take (dueN Q 9223372036854775807))).length ≤ 4611686018427387904 := by unfold idsT; rw [List.length_map, List.length_take]; omega
        go_wp2_with fail
        refine (ints12k _ _ _ _ hrl2 true (by simp) _ (Rd.of_own ho78).asInts (Rd.of_own ho8).asInts).mono ?_
        rintro e w9 ⟨rfl, hm9⟩
        have hk9 := hk8.then hm9
        clear ho78 ho8 hk8 hm9
        go_wp2_with fail
        go_ret
        exact ⟨rfl, hk9⟩
end Go.Proofs.Ytgmnhjbejofnhaa
