/- Zones turned about, walked. Conditions: texts that a memory may hold. -/
import Derived.Test.YtgibhcmdmdbpgaaZoE
namespace Go.Proofs.Ytgibhcmdmdbpgaa
open Go.RowKit Go.Lib

theorem elem_zone : Elem Try.prog 22 35 3 24 := ⟨by kernel_rfl, by kernel_rfl, by decide, by decide⟩
theorem zC_snoc (l : List Zn) (z : Zn) : zC (l ++ [z]) = zC l ++ [.string z.name, .int .u8 z.pol, .int .u16 z.tr] := by simp [zC]
theorem lit1 (w : World) (e n c : Nat) (X : Array Value) (ns : List ByteArray) (hX : X.toList = strVals ns) (hn : n = ns.length) : Rd (w.alloc (.cells X e)) 1 (.slice (some ⟨w.heap.size, 0, none⟩) n c) ns.length (strVals ns) := by
  subst hn
  refine ⟨by simp [strVals], _, c, rfl, fun _ => ⟨_, 0, rfl, by simp, fun j u hu => ?_⟩⟩
  rw [Nat.zero_add, (Blk.new w e X).cell, ← Array.getElem?_toList, hX]
  exact hu
theorem turn_in (by_ : Int) (n : Nat) (h0 : 0 < n) (hn : n ≤ 1000) : ∃ r : Nat, r < n ∧ wrap64 ((IntKind.u64.wrap by_).tmod (n : Int)) = (r : Int) := by
  have e1 : IntKind.u64.wrap by_ = by_ % 18446744073709551616 := IntKind.wrap_u64 by_
  rw [e1]
  have h1 : 0 ≤ by_ % 18446744073709551616 := by omega
  have h2 : (by_ % 18446744073709551616).tmod (n : Int) = (by_ % 18446744073709551616) % (n : Int) := Int.tmod_eq_emod_of_nonneg h1
  rw [h2]
  generalize by_ % 18446744073709551616 = q at *
  have h3 : 0 ≤ q % (n : Int) := Int.emod_nonneg _ (by omega)
  have h4 : q % (n : Int) < n := Int.emod_lt_of_pos _ (by omega)
  obtain ⟨r, hr⟩ := Int.eq_ofNat_of_zero_le h3
  refine ⟨r, by omega, ?_⟩
  rw [hr]
  unfold wrap64
  omega
/-- The zones turned about by r. -/
def turnZ (l : List Zn) (r : Nat) : List Zn := l.drop r ++ l.take r
theorem turnZ_len (l : List Zn) (r : Nat) : (turnZ l r).length = l.length := by unfold turnZ; rw [List.length_append, List.length_drop, List.length_take]; omega
theorem turnZ_get (l : List Zn) (r j : Nat) (hr : r < l.length) (hj : j < l.length) : (turnZ l r)[j]? = l[(j + r) % l.length]? := by
  unfold turnZ
  rw [List.getElem?_append, List.length_drop]
  split
  · rw [List.getElem?_drop, Nat.mod_eq_of_lt (by omega), Nat.add_comm]
  · rw [List.getElem?_take, if_pos (by omega)]
    congr 1
    rw [Nat.mod_eq_sub_mod (by omega), Nat.mod_eq_of_lt (by omega)]
    omega
theorem turnZ_perm (l : List Zn) (r : Nat) : l.Perm (turnZ l r) := by
  have h := List.perm_append_comm (l₁ := l.take r) (l₂ := l.drop r)
  rw [List.take_append_drop] at h
  exact h
def RowRel (l : List Zn) (r : Nat) (w : World) (k : Nat) (vt vb vi : Value) (wr : World) : Prop :=
  ∃ j : Nat, vi = .int .i64 j ∧ j + k = l.length ∧ wr.ownsRow w.heap.size 35 3 vt j (zC ((turnZ l r).take j)) ∧ wr.ownsRow w.heap.size 35 3 vb j (zC (l.reverse.take j)) ∧ (∀ k, vt.ownBlock = some k → vb.ownBlock ≠ some k) ∧ Kept w wr
theorem wrap64_u (n : Nat) (h : n ≤ 1000) : wrap64 (n : Int) = n := by unfold wrap64; omega
set_option maxHeartbeats 4000000 in
set_option maxRecDepth 100000 in
theorem row_any (v : Value) (l : List Zn) (by_ : Int) (n : ByteArray) (hl : ∀ z ∈ l, z.name.size < 2 ^ 63) (hll : l.length < 2 ^ 63) (hn : n.size < 2 ^ 63) (w : World) (hv : RdZ w v l) :
    Calls Try.prog 5 #[v, .int .i64 by_, .string n] w fun e w' => e = .returned (.bool true) ∧ Kept w w' := by
  have HV := Lib.hid hv
  obtain ⟨_, A, c, rfl, _⟩ := hv
  have HL := Lib.hid (And.intro hl hn)
  clear hl
  have hq := run_eql_zone
  go_enter Try.func5, Try.ntmps5
  go_wp2_with fail
  refine (long_any _ _ l [n] HL.out.1 (by intro x hx; rw [List.mem_singleton.1 hx]; exact HL.out.2) hll (by simp) _ (HV.out.kept ((Mod.refl _ _).alloc _)) (lit1 _ _ _ _ _ _ rfl rfl)).mono ?_
  rintro e w1 ⟨rfl, rfl | ⟨rfl, hF⟩⟩
  · go_wp2_with fail
    refine (awake_any _).mono ?_
    rintro e w2 ⟨rfl, m2⟩
    have HK2 := Lib.hid (((Mod.refl (fun _ => False) w).alloc (.cells #[.string n] 9)).then m2)
    clear m2
    go_wp2_with fail
    go_ret
    exact ⟨rfl, HK2.out⟩
  · have HF := Lib.hid hF
    have hl500 := hF.2.1
    clear hF
    go_wp2_with fail
    refine (awake_any _).mono ?_
    rintro e w2 ⟨rfl, m2⟩
    have HK2 := Lib.hid (((Mod.refl (fun _ => False) w).alloc (.cells #[.string n] 9)).then m2)
    clear m2
    go_wp2_with fail
    obtain ⟨r, hr⟩ : ∃ r : Nat, 0 < l.length → r < l.length ∧ wrap64 ((IntKind.u64.wrap by_).tmod (l.length : Int)) = (r : Int) := by
      by_cases h0 : 0 < l.length
      · obtain ⟨r, h⟩ := turn_in by_ l.length h0 (by omega)
        exact ⟨r, fun _ => h⟩
      · exact ⟨0, fun h => absurd h h0⟩
    have HR := Lib.hid hr
    have HV2 := Lib.hid (HV.out.kept HK2.out)
    clear hr
    go_loopg [7, 8, 9] l.length (fun k vt vb vi wr => RowRel l r w k vt vb vi wr)
    case atStart => exact ⟨0, rfl, by omega, World.ownsRow_nil _ _ _ _, World.ownsRow_nil _ _ _ _, (fun k hk => by cases hk), HK2.out⟩
    case round =>
      obtain ⟨j, rfl, hj, ht, hb, hne, hk⟩ := hrel
      have HJ := Lib.hid hj
      have HT := Lib.hid ht
      have HB := Lib.hid hb
      have HNE := Lib.hid hne
      have HK := Lib.hid hk
      have hjl : j ≤ l.length := by omega
      obtain ⟨At, ct, rfl⟩ := own_form ht
      obtain ⟨Ab, cb, rfl⟩ := own_form hb
      clear hj ht hb hne hk
      by_cases hlt : j < l.length
      · obtain ⟨b1, o1, c1', e1, hb1, g1⟩ := HV.out.at hlt
        injection e1 with e1 _ e1'
        subst e1 e1'
        obtain ⟨hrl, hrw⟩ := HR.out (by omega)
        obtain ⟨q, hqq⟩ : ∃ q, q = (j + r) % l.length := ⟨_, rfl⟩
        have hql : q < l.length := by rw [hqq]; exact Nat.mod_lt _ (by omega)
        have hqi : ((j : Int) + (r : Int)) % (l.length : Int) = (q : Int) := by rw [hqq]; push_cast; rfl
        have hqt : ((j : Int) + (r : Int)).tmod (l.length : Int) = (q : Int) := by rw [Int.tmod_eq_emod_of_nonneg (by omega)]; exact hqi
        obtain ⟨p, hpp⟩ : ∃ p, p = l.length - 1 - j := ⟨_, rfl⟩
        have hpl : p < l.length := by omega
        have hpi : (l.length : Int) - 1 - (j : Int) = (p : Int) := by omega
        obtain ⟨q1, q2, q3⟩ := zC_get l q hql
        have f1 := (HK.out.cell (p := ⟨b1, o1 + q * 3, none⟩) hb1 (fun e => e)).trans (g1 _ _ q1)
        have f2 := (HK.out.cell (p := ⟨b1, o1 + (q * 3 + 1), none⟩) hb1 (fun e => e)).trans (g1 _ _ q2)
        have f3 := (HK.out.cell (p := ⟨b1, o1 + (q * 3 + 2), none⟩) hb1 (fun e => e)).trans (g1 _ _ q3)
        rw [← Nat.add_assoc] at f2 f3
        obtain ⟨p1, p2, p3⟩ := zC_get l p hpl
        have HG := Lib.hid (fun (w4 : World) (hk4 : Kept w w4) => And.intro ((hk4.cell (p := ⟨b1, o1 + p * 3, none⟩) hb1 (fun e => e)).trans (g1 _ _ p1)) (And.intro ((hk4.cell (p := ⟨b1, o1 + (p * 3 + 1), none⟩) hb1 (fun e => e)).trans (g1 _ _ p2)) ((hk4.cell (p := ⟨b1, o1 + (p * 3 + 2), none⟩) hb1 (fun e => e)).trans (g1 _ _ p3))))
        have i1 : (j : Int) < l.length := by omega
        have i2 : (q : Int) < l.length := by omega
        have i3 : (p : Int) < l.length := by omega
        have i4 : (r : Int) < l.length := by omega
        have hz : (turnZ l r).take (j + 1) = (turnZ l r).take j ++ [l[q]'hql] := by
          rw [List.take_add_one, turnZ_get l r j hrl hlt, ← hqq, List.getElem?_eq_getElem hql]; rfl
        have hy : l.reverse.take (j + 1) = l.reverse.take j ++ [l[p]'hpl] := by
          rw [List.take_add_one, List.getElem?_reverse hlt, ← hpp, List.getElem?_eq_getElem hpl]; rfl
        have HZY := Lib.hid (And.intro hz hy)
        clear hz hy g1 q1 q2 q3 p1 p2 p3 hqq hpp hqi
        generalize l[q]'hql = z at *
        generalize l[p]'hpl = y at *
        go_wp2_with (first | (refine wpList_pushS 22 35 3 24 47 elem_zone (.tmp 46) (.tmp 31) rfl rfl rfl rfl rfl (by simp) (.agg #[.string z.name, .int .u8 z.pol, .int .u16 z.tr]) rfl rfl (by simp [Value.cells, Value.oneCell']) w.heap.size _ _ _ rfl HT.out (by unfold maxLen; omega) (by omega) HK.out.size ?_; intro g4 c4 w4 hown4 hm4 hg4; have hk4 : Kept w w4 := Mod.trans HK.out hm4 (fun k hk e => by have := (HT.out.lt k e).1; omega); have hb4 := own_mod HB.out hm4 (fun k hk e => HNE.out k e hk); have hne4 : ∀ k, (Value.slice Ab j cb).ownBlock = some k → g4 ≠ k := (fun k hk e => by rcases hg4 with h | h; exact HNE.out g4 h (e ▸ hk); have := (HB.out.lt k hk).2; omega); obtain ⟨f4, f5, f6⟩ := HG.out w4 hk4; rw [← Nat.add_assoc] at f5 f6; have HT4 := Lib.hid hown4; have HB4 := Lib.hid hb4; have HK4 := Lib.hid hk4; have HNE4 := Lib.hid hne4; clear hown4 hm4 hg4 hk4 hb4 hne4) | (refine wpList_pushS 22 35 3 24 58 elem_zone (.tmp 57) (.tmp 49) rfl rfl rfl rfl rfl (by simp) (.agg #[.string y.name, .int .u8 y.pol, .int .u16 y.tr]) rfl rfl (by simp [Value.cells, Value.oneCell']) w.heap.size _ _ _ rfl HB4.out (by unfold maxLen; omega) (by omega) HK4.out.size ?_; intro g5 c5 w5 hown5 hm5 hg5; have hk5 : Kept w w5 := Mod.trans HK4.out hm5 (fun k hk e => by have := (HB4.out.lt k e).1; omega); have ht5 := own_mod HT4.out hm5 (fun k hk e => by have hk : some g4 = some k := hk; injection hk with hk; exact HNE4.out k e hk); have hne5 : ∀ k, (Value.slice (some ⟨g4, 0, none⟩) (j + 1) c4).ownBlock = some k → (Value.slice (some ⟨g5, 0, none⟩) (j + 1) c5).ownBlock ≠ some k := (fun k hk e => by have hk : some g4 = some k := hk; injection hk with hk; have e : some g5 = some k := e; injection e with e; rcases hg5 with h | h; exact HNE4.out g5 h (hk.trans e.symm); have := (HT4.out.lt g4 rfl).2; omega); have HT5 := Lib.hid ht5; have HB5 := Lib.hid hown5; have HK5 := Lib.hid hk5; have HNE5 := Lib.hid hne5; clear hown5 hm5 hg5 hk5 ht5 hne5 f4 f5 f6) | fail)
        go_roundg (l.length - (j + 1))
        case measure => have := HJ.out; omega
        case rel => exact ⟨j + 1, by go_num, by omega, by rw [HZY.out.1, zC_snoc]; exact HT5.out, by rw [HZY.out.2, zC_snoc]; exact HB5.out, HNE5.out, HK5.out⟩
      · obtain rfl : j = l.length := by omega
        have h1 := HT.out
        rw [List.take_of_length_le (by rw [turnZ_len]; exact Nat.le_refl _)] at h1
        have h2 := HB.out
        rw [List.take_of_length_le (by rw [List.length_reverse]; exact Nat.le_refl _)] at h2
        have r1 : RdZ wr (.slice At l.length ct) (turnZ l r) := by
          have := Rd.of_own h1
          rw [← turnZ_len l r] at this
          have e : (turnZ l r).length = l.length := turnZ_len l r
          unfold RdZ
          rw [e] at this ⊢
          exact this
        have r2 : RdZ wr (.slice Ab l.length cb) l.reverse := by
          have := Rd.of_own h2
          have e : l.reverse.length = l.length := List.length_reverse
          unfold RdZ
          rw [e]
          exact this
        have hp1 := turnZ_perm l r
        have hp2 : l.Perm l.reverse := (List.reverse_perm l).symm
        have HR12 := Lib.hid (And.intro r1 r2)
        have HP12 := Lib.hid (And.intro hp1 hp2)
        have HRV := Lib.hid (HV.out.kept HK.out)
        have HLT : Hid ((∀ z ∈ turnZ l r, z.name.size < 2 ^ 63) ∧ (∀ z ∈ l.reverse, z.name.size < 2 ^ 63) ∧ (∀ z ∈ l, z.name.size < 2 ^ 63) ∧ (turnZ l r).length < 2 ^ 63 ∧ l.reverse.length < 2 ^ 63) := Lib.hid ⟨fun z hz => by have := HL.out.1 z (hp1.mem_iff.2 hz); omega, fun z hz => by have := HL.out.1 z (hp2.mem_iff.2 hz); omega, fun z hz => by have := HL.out.1 z hz; omega, by rw [turnZ_len]; exact hll, by rw [List.length_reverse]; exact hll⟩
        clear h1 h2 r1 r2 hp1 hp2 HT HB HNE HR HV2 hlt
        go_wp2_with fail
        refine (new_any _ l HLT.out.2.2.1 hll _ HRV.out).mono ?_
        intro e w3 h3
        by_cases h0 : newE l = 0
        · have h01 := (newE_perm HP12.out.1).1 h0
          have h02 := (newE_perm HP12.out.2).1 h0
          obtain ⟨k3, g, mo, oe, rfl, hz3⟩ := h3.good h0
          have HK3 := Lib.hid (HK.out.then k3)
          have HA3 := Lib.hid (And.intro (Fd.of_zt hz3) hz3)
          have HS3 := Lib.hid (And.intro (HR12.out.1.kept k3) (HR12.out.2.kept k3))
          have HOK := Lib.hid (And.intro ((newE_zero l).1 h0).2 (And.intro h01 h02))
          clear h3 k3 hz3 h0 h01 h02 HR12 HRV HK
          go_wp2_with fail
          refine (new_any _ (turnZ l r) HLT.out.1 HLT.out.2.2.2.1 _ HS3.out.1).mono ?_
          intro e w4 h4
          obtain ⟨k4, g4, mo4, oe4, rfl, hz4⟩ := h4.good HOK.out.2.1
          have HK4 := Lib.hid (HK3.out.then k4)
          have HA4 := Lib.hid (And.intro (HA3.out.1.kept k4) (HA3.out.2.kept k4))
          have HB4 := Lib.hid (And.intro (Fd.of_zt hz4) hz4)
          have HS4 := Lib.hid (HS3.out.2.kept k4)
          clear h4 k4 hz4 HS3 HA3 HK3
          go_wp2_with fail
          refine (new_any _ l.reverse HLT.out.2.1 HLT.out.2.2.2.2 _ HS4.out).mono ?_
          intro e w5 h5
          obtain ⟨k5, g5, mo5, oe5, rfl, hz5⟩ := h5.good HOK.out.2.2
          have HK5 := Lib.hid (HK4.out.then k5)
          have HA5 := Lib.hid (And.intro (HA4.out.1.kept k5) (HA4.out.2.kept k5))
          have HB5 := Lib.hid (And.intro (HB4.out.1.kept k5) (HB4.out.2.kept k5))
          have HC5 := Lib.hid (Fd.of_zt hz5)
          clear h5 k5 hz5 HS4 HA4 HB4 HK4
          have hN : n.size < 2 ^ 63 := by omega
          have e1 := find_perm HOK.out.1 HP12.out.1 n
          have e2 := find_perm HOK.out.1 HP12.out.2 n
          have HE := Lib.hid (And.intro e1 e2)
          clear e1 e2
          go_wp2_with fail
          refine (find_any _ g l _ _ HA5.out.1 n hN).mono ?_
          rintro e w6 ⟨rfl, m6⟩
          have HK6 := Lib.hid (HK5.out.then m6)
          have HA6 := Lib.hid (And.intro (HA5.out.1.kept m6) (HA5.out.2.kept m6))
          have HB6 := Lib.hid (And.intro (HB5.out.1.kept m6) (HB5.out.2.kept m6))
          have HC6 := Lib.hid (HC5.out.kept m6)
          clear m6 HK5 HA5 HB5 HC5
          go_wp2_with fail
          refine (find_any _ g4 _ _ _ HB6.out.1 n hN).mono ?_
          rw [HE.out.1]
          rintro e w7 ⟨rfl, m7⟩
          have HK7 := Lib.hid (HK6.out.then m7)
          have HA7 := Lib.hid (And.intro (HA6.out.1.kept m7) (HA6.out.2.kept m7))
          have HB7 := Lib.hid (And.intro (HB6.out.1.kept m7) (HB6.out.2.kept m7))
          have HC7 := Lib.hid (HC6.out.kept m7)
          have t1 := eqZ_self (findZ l n)
          clear m7 HK6 HA6 HB6 HC6
          go_wp2_with fail
          refine (find_any _ g l _ _ HA7.out.1 n hN).mono ?_
          rintro e w8 ⟨rfl, m8⟩
          have HK8 := Lib.hid (HK7.out.then m8)
          have HA8 := Lib.hid (And.intro (HA7.out.1.kept m8) (HA7.out.2.kept m8))
          have HB8 := Lib.hid (And.intro (HB7.out.1.kept m8) (HB7.out.2.kept m8))
          have HC8 := Lib.hid (HC7.out.kept m8)
          clear m8 HK7 HA7 HB7 HC7
          go_wp2_with fail
          refine (find_any _ g5 _ _ _ HC8.out n hN).mono ?_
          rw [HE.out.2]
          rintro e w9 ⟨rfl, m9⟩
          have HK9 := Lib.hid (HK8.out.then m9)
          have HA9 := Lib.hid (HA8.out.2.kept m9)
          have HB9 := Lib.hid (HB8.out.2.kept m9)
          clear m9 HK8 HA8 HB8 HC8
          go_wp2_with fail
          refine (len_any _ _ g mo oe l _ HA9.out).mono ?_
          rintro e wa ⟨rfl, rfl⟩
          go_wp2_with fail
          refine (len_any _ _ g4 mo4 oe4 _ _ HB9.out).mono ?_
          rw [turnZ_len]
          rintro e wb ⟨rfl, rfl⟩
          go_wp2_with fail
          go_ret
          exact ⟨rfl, HK9.out⟩
        · have h01 := fun e => h0 ((newE_perm HP12.out.1).2 e)
          have h02 := fun e => h0 ((newE_perm HP12.out.2).2 e)
          obtain ⟨k3, rfl⟩ := h3.bad rfl h0
          have HK3 := Lib.hid (HK.out.then k3)
          have HS3 := Lib.hid (And.intro (HR12.out.1.kept k3) (HR12.out.2.kept k3))
          have HOK := Lib.hid (And.intro h01 h02)
          have b1 : (newE l == 0) = false := by simpa using h0
          have b1n : (newE l != 0) = true := by simpa using h0
          clear h3 k3 h01 h02 HR12 HRV HK
          generalize newE l = x at *
          go_wp2_with fail
          refine (new_any _ (turnZ l r) HLT.out.1 HLT.out.2.2.2.1 _ HS3.out.1).mono ?_
          intro e w4 h4
          obtain ⟨k4, rfl⟩ := h4.bad rfl HOK.out.1
          have HK4 := Lib.hid (HK3.out.then k4)
          have HS4 := Lib.hid (HS3.out.2.kept k4)
          have b2 : (newE (turnZ l r) == 0) = false := by simpa using HOK.out.1
          have h02 := HOK.out.2
          clear h4 k4 HS3 HK3 HOK
          generalize newE (turnZ l r) = x2 at *
          go_wp2_with fail
          refine (new_any _ l.reverse HLT.out.2.1 HLT.out.2.2.2.2 _ HS4.out).mono ?_
          intro e w5 h5
          obtain ⟨k5, rfl⟩ := h5.bad rfl h02
          have HK5 := Lib.hid (HK4.out.then k5)
          have b3 : (newE l.reverse == 0) = false := by simpa using h02
          clear h5 k5 HS4 HK4 h02 h0
          generalize newE l.reverse = x3 at *
          go_wp2_with fail
          go_ret
          exact ⟨rfl, HK5.out⟩
end Go.Proofs.Ytgibhcmdmdbpgaa
