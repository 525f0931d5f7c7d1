/- ZoneFinds, walked. Conditions: texts that a memory may hold. -/
import Derived.Test.YtgibhcmdmdbpgaaZoFx
namespace Go.Proofs.Ytgibhcmdmdbpgaa
open Go.RowKit Go.Lib

/-- The parts of a row that is the call's own. -/
theorem own_blk {w : World} {base e size n g c o : Nat} {xs : List Value} {s : Option Nat} (h : w.ownsRow base e size (.slice (some ⟨g, o, s⟩) n c) n xs) :
    o = 0 ∧ s = none ∧ base ≤ g ∧ n ≤ c ∧ c ≤ maxLen ∧ xs.length = n * size ∧ ∃ cs : Array Value, Blk w g e cs ∧ cs.size = c * size ∧ cs.toList.take (n * size) = xs := by
  rcases h.2 with ⟨h2, _⟩ | ⟨g', cap, cur, h2, hb, hg, hn, hm, hc, ht⟩
  · cases h2
  · injection h2 with h2 _ h3
    injection h2 with h2
    injection h2 with h4 h5 h6
    subst h3 h4 h5 h6
    exact ⟨rfl, rfl, hb, hn, hm, h.1, cur, hg, hc, ht⟩
theorem Rt.mod {S : Nat → Prop} {w w' : World} {base x : Nat} {v : Value} {D : List Zn} (h : Rt w base x v D) (hm : Mod S w w') (hs : ∀ k, base ≤ k → ¬ S k) : Rt w' base x v D :=
  ⟨h.blk.mod hm (hs x h.lo), own_mod h.row hm (fun k hk => hs k (h.row.lt k hk).1), h.ne, h.lo⟩
def WipRel (l : List Zn) (A : Option Addr) (c : Nat) (w : World) (k : Nat) (vi : Value) (wr : World) : Prop :=
  ∃ j : Nat, vi = .int .i64 j ∧ j + k = l.length ∧ (∀ g, A = some ⟨g, 0, none⟩ → ∃ cs : Array Value, Blk wr g 35 cs ∧ l.length * 3 ≤ cs.size) ∧ Mod (fun k => (Value.slice A l.length c).ownBlock = some k) w wr
def NmsRel (l : List Zn) (ns : List ByteArray) (w w6 : World) (base g mo : Nat) (oe : List (Nat × Nat)) (bx x : Nat) (vx : Value) (k : Nat) (vi : Value) (wr : World) : Prop :=
  ∃ j : Nat, vi = .int .i64 j ∧ j + k = ns.length ∧ Zt wr base g mo oe l l.length ∧ Rt wr bx x vx l ∧ Kept w wr
set_option maxHeartbeats 4000000 in
set_option maxRecDepth 100000 in
theorem finds_any (v vn : Value) (l : List Zn) (ns : List ByteArray) (hl : ∀ z ∈ l, z.name.size < 2 ^ 63) (hll : l.length < 2 ^ 63) (hns : ∀ x ∈ ns, x.size < 2 ^ 63) (hnl : ns.length < 2 ^ 63) (w : World) (hv : RdZ w v l) (hvn : Rd w 1 vn ns.length (strVals ns)) :
    Calls Try.prog 3 #[v, vn] w fun e w' => e = .returned (.bool true) ∧ Kept w w' := by
  have HV := Lib.hid hv
  have HN := Lib.hid hvn
  obtain ⟨_, A, c, rfl, _⟩ := hv
  obtain ⟨_, A2, c2, rfl, _⟩ := hvn
  have HL := Lib.hid (And.intro hl hns)
  clear hl hns
  go_enter Try.func3, Try.ntmps3
  go_wp2_with fail
  refine (long_any _ _ l ns HL.out.1 HL.out.2 hll hnl _ HV.out HN.out).mono ?_
  rintro e w1 ⟨rfl, rfl | ⟨rfl, hF⟩⟩
  · go_wp2_with fail
    refine (awake_any _).mono ?_
    rintro e w2 ⟨rfl, m2⟩
    have HK2 := Lib.hid m2
    clear m2
    go_wp2_with fail
    go_ret
    exact ⟨rfl, HK2.out⟩
  · have hl500 := hF.2.1
    have hn500 := hF.2.2.2
    have HSZ : Hid (∀ z ∈ l, z.name.size ≤ 1000000) := Lib.hid (fun z hz => by have := hF.1 z hz; omega)
    have HNZ : Hid (∀ x ∈ ns, x.size ≤ 1000000) := Lib.hid (fun x hx => by have := hF.2.2.1 x hx; omega)
    have hb1 : 0 + l.length ≤ maxLen := by unfold maxLen; omega
    have hb2 : (0 + l.length) * 24 ≤ 140737488355328 := by omega
    have HB := Lib.hid (And.intro hb1 hb2)
    clear hF hb1 hb2
    go_wp2_with (first
      | (at_builtin; refine wpList_append_rd 22 35 3 24 elem_zone (.tmp 16) (.tmp 17) rfl rfl w1.heap.size _ 0 [] rfl (World.ownsRow_made w1 #[] 0 (Nat.le_refl _) (Nat.zero_le _) rfl) _ l.length (zC l) rfl (HV.out.kept ((Mod.refl _ _).alloc _)) (one_zC l) HB.out.1 HB.out.2 (by simp) ?_; intro v5 w5 ho5 hm5 _; obtain ⟨A5, c5, rfl⟩ := own_form ho5; have hk5 : Kept w1 w5 := Mod.trans ((Mod.refl _ w1).alloc _) hm5 (fun k hk e => by have e : some w1.heap.size = some k := e; injection e with e; omega); rw [Nat.zero_add, List.nil_append] at ho5; rw [Nat.zero_add]; have HO5 := Lib.hid ho5; have HK5 := Lib.hid hk5; clear ho5 hk5 hm5)
      | fail)
    refine (new_any _ l HL.out.1 hll _ (Rd.of_own HO5.out)).mono ?_
    intro e w6 h6
    by_cases h0 : newE l = 0
    · obtain ⟨k6, g, mo, oe, rfl, hz6⟩ := h6.good h0
      have HK6 := Lib.hid (HK5.out.then k6)
      have HZ6 := Lib.hid hz6
      have HO6 := Lib.hid (own_kept HO5.out k6)
      have HS56 := Lib.hid k6.size
      have HOK := Lib.hid ((newE_zero l).1 h0).2
      have H0 := Lib.hid h0
      clear h6 k6 hz6 h0
      go_wp2_with fail
      refine (rnew_any _ l HSZ.out (by omega) _ (HV.out.kept HK6.out)).mono ?_
      rintro e w7 ⟨k7, ⟨h1, _⟩ | ⟨_, x, vx, rfl, hr7⟩⟩
      · exact absurd H0.out h1
      have HK7 := Lib.hid (HK6.out.then k7)
      have HZ7 := Lib.hid (HZ6.out.kept k7)
      have HO7 := Lib.hid (own_kept HO6.out k7)
      have HR7 := Lib.hid hr7
      clear k7 hr7
      go_wp2_with fail
      go_loopg [10] l.length (fun k vi wr => WipRel l A5 c5 w7 k vi wr)
      case atStart =>
        refine ⟨0, rfl, by omega, fun g2 hg => ?_, Mod.refl _ _⟩
        subst hg
        obtain ⟨_, _, _, hnc, _, _, cs, hB, hcs, _⟩ := own_blk HO7.out
        exact ⟨cs, hB, by rw [hcs]; exact Nat.mul_le_mul_right _ hnc⟩
      case round =>
        obtain ⟨j, rfl, hj, hbk, hmm⟩ := hrel
        have HJ := Lib.hid hj
        have HBK := Lib.hid hbk
        have HMM := Lib.hid hmm
        have hjl : j ≤ l.length := by omega
        clear hj hbk hmm
        by_cases hlt : j < l.length
        · obtain ⟨b5, o5, c5', e5, _, _⟩ := (Rd.of_own HO7.out).at hlt
          injection e5 with e5 _ e5'
          subst e5 e5'
          obtain ⟨rfl, _⟩ := own_blk HO7.out
          obtain ⟨cs, hB, hcs⟩ := HBK.out b5 rfl
          have i1 : (j : Int) < l.length := by omega
          have HBB := Lib.hid (And.intro hB hcs)
          obtain ⟨c0, hc0⟩ : ∃ u, wr.cell? ⟨b5, 0 + j * 3, none⟩ = some u := ⟨cs[0 + j * 3]'(by omega), by rw [hB.cell]; exact Array.getElem?_eq_getElem _⟩
          obtain ⟨c1, hc1⟩ : ∃ u, wr.cell? ⟨b5, 0 + j * 3 + 1, none⟩ = some u := ⟨cs[0 + j * 3 + 1]'(by omega), by rw [hB.cell]; exact Array.getElem?_eq_getElem _⟩
          obtain ⟨c2, hc2⟩ : ∃ u, wr.cell? ⟨b5, 0 + j * 3 + 2, none⟩ = some u := ⟨cs[0 + j * 3 + 2]'(by omega), by rw [hB.cell]; exact Array.getElem?_eq_getElem _⟩
          rw [Nat.zero_add] at hc0 hc1 hc2
          have r0 := hB.frozen (j * 3)
          have r1 := hB.frozen (j * 3 + 1)
          have r2 := hB.frozen (j * 3 + 2)
          clear hB hcs
          go_wp2_with fail
          go_roundg (l.length - (j + 1))
          case measure => have := HJ.out; omega
          case rel =>
            refine ⟨j + 1, by go_num, by omega, fun g2 hg => ?_, ?_⟩
            · injection hg with hg
              injection hg with hg
              subst hg
              exact ⟨_, ((HBB.out.1.set_ (j * 3) _).set_ (j * 3 + 1) _).set_ (j * 3 + 2) _, by simpa using HBB.out.2⟩
            · exact ((HMM.out.setCell (p := ⟨b5, j * 3, none⟩) (fun _ => rfl) _).setCell (p := ⟨b5, j * 3 + 1, none⟩) (fun _ => rfl) _).setCell (p := ⟨b5, j * 3 + 2, none⟩) (fun _ => rfl) _
        · have hz := HZ7.out.mod HMM.out (fun b hb e => by have h1 := (HZ7.out.lo b hb).1; have h2 := (HO5.out.lt b e).2; omega)
          have hr := HR7.out.mod HMM.out (fun k hk e => by have h2 := (HO5.out.lt k e).2; have := HS56.out; omega)
          have hk : Kept w1 wr := Mod.trans HK7.out HMM.out (fun k hk e => by have h2 := (HO5.out.lt k e).1; omega)
          have HZ := Lib.hid hz
          have HR := Lib.hid hr
          have HK := Lib.hid hk
          clear hz hr hk HZ7 HR7 HK7 HZ6 HO7 HO6 HMM HBK
          have hq := run_neq_zone
          go_wp2_with fail
          go_loopg [11] ns.length (fun k vi wq => NmsRel l ns w1 w6 w5.heap.size g mo oe w6.heap.size x vx k vi wq)
          case atStart => exact ⟨0, rfl, by omega, HZ.out, HR.out, HK.out⟩
          case round =>
            clear HZ HR HK
            obtain ⟨j, rfl, hj, hz, hr, hk⟩ := hrel
            have HJ2 := Lib.hid hj
            have HA := Lib.hid (And.intro (Fd.of_zt hz) hz)
            have HB := Lib.hid hr
            have HK := Lib.hid hk
            have hjn : j ≤ ns.length := by omega
            clear hj hz hr hk
            by_cases hlt : j < ns.length
            · obtain ⟨b2, o2, c2', e2, hb2, g2⟩ := HN.out.at hlt
              injection e2 with e2 _ e2'
              subst e2 e2'
              have f0 := g2 j _ (strVals_get (List.getElem?_eq_getElem hlt))
              have hsz := HNZ.out _ (List.getElem_mem hlt)
              generalize ns[j]'hlt = nm at *
              have HCN : Hid (∀ W, Kept wr W → W.cell? ⟨b2, o2 + j, none⟩ = some (.string nm)) := Lib.hid (fun W hW => ((HK.out.then hW).cell (p := ⟨b2, o2 + j, none⟩) hb2 (fun e => e)).trans f0)
              have t1 := eqZ_self (findZ l nm)
              have i1 : (j : Int) < ns.length := by omega
              clear g2 f0
              go_wp2_with fail
              refine wp_region_held_drew (S := (fun w' => w'.cell? ⟨b2, o2 + j, none⟩ = some (.string nm))) (by kernel_rfl) ?_ (fun hHeld => ?_)
              · (try dsimp only); first | exact HCN.out _ ((Mod.refl _ _).drew) | exact HCN.out _ HM8.out | exact HCN.out _ HM9.out
              refine regH_take 0 58 (v := ?_) rfl rfl (by kernel_rfl) (by kernel_rfl) (by kernel_rfl) (fun _ _ _ h => h) (by rfl) (by assumption) ?_ ?_
              rotate_left
              · (intro w hSw; (try dsimp only at hSw); go_simp); try (with_reducible rfl)
              try simp only [Act.put, List.setIfInBounds_toArray, List.set_cons_zero, List.set_cons_succ]
              refine regH_take 1 59 (v := ?_) rfl rfl (by kernel_rfl) (by kernel_rfl) (by kernel_rfl) (fun _ _ _ h => h) (by rfl) (by assumption) ?_ ?_
              rotate_left
              · (intro w hSw; (try dsimp only at hSw); go_simp); try (with_reducible rfl)
              try simp only [Act.put, List.setIfInBounds_toArray, List.set_cons_zero, List.set_cons_succ]
              refine regH_take 2 60 (v := ?_) rfl rfl (by kernel_rfl) (by kernel_rfl) (by kernel_rfl) (fun _ _ _ h => h) (by rfl) (by assumption) ?_ ?_
              rotate_left
              · (intro w hSw; (try dsimp only at hSw); go_simp); try (with_reducible rfl)
              try simp only [Act.put, List.setIfInBounds_toArray, List.set_cons_zero, List.set_cons_succ]
              refine regH_take 3 61 (v := ?_) rfl rfl (by kernel_rfl) (by kernel_rfl) (by kernel_rfl) (fun _ _ _ h => h) (by rfl) (by assumption) ?_ ?_
              rotate_left
              · (intro w hSw; (try dsimp only at hSw); go_simp); try (with_reducible rfl)
              try simp only [Act.put, List.setIfInBounds_toArray, List.set_cons_zero, List.set_cons_succ]
              refine regH_take 4 62 (v := ?_) rfl rfl (by kernel_rfl) (by kernel_rfl) (by kernel_rfl) (fun _ _ _ h => h) (by rfl) (by assumption) ?_ ?_
              rotate_left
              · (intro w hSw; (try dsimp only at hSw); go_simp); try (with_reducible rfl)
              try simp only [Act.put, List.setIfInBounds_toArray, List.set_cons_zero, List.set_cons_succ]
              refine regH_take 6 64 (v := ?_) rfl rfl (by kernel_rfl) (by kernel_rfl) (by kernel_rfl) (fun _ _ _ h => h) (by rfl) (by assumption) ?_ ?_
              rotate_left
              · (intro w hSw; (try dsimp only at hSw); go_simp); try (with_reducible rfl)
              try simp only [Act.put, List.setIfInBounds_toArray, List.set_cons_zero, List.set_cons_succ]
              refine regH_take 7 65 (v := ?_) rfl rfl (by kernel_rfl) (by kernel_rfl) (by kernel_rfl) (fun _ _ _ h => h) (by rfl) (by assumption) ?_ ?_
              rotate_left
              · (intro w hSw; (try dsimp only at hSw); go_simp); try (with_reducible rfl)
              try simp only [Act.put, List.setIfInBounds_toArray, List.set_cons_zero, List.set_cons_succ]
              refine regH_take 8 66 (v := ?_) rfl rfl (by kernel_rfl) (by kernel_rfl) (by kernel_rfl) (fun _ _ _ h => h) (by rfl) (by assumption) ?_ ?_
              rotate_left
              · (intro w hSw; (try dsimp only at hSw); go_simp); try (with_reducible rfl)
              try simp only [Act.put, List.setIfInBounds_toArray, List.set_cons_zero, List.set_cons_succ]
              refine regH_take 9 67 (v := ?_) rfl rfl (by kernel_rfl) (by kernel_rfl) (by kernel_rfl) (fun _ _ _ h => h) (by rfl) (by assumption) ?_ ?_
              rotate_left
              · (intro w hSw; (try dsimp only at hSw); go_simp); try (with_reducible rfl)
              try simp only [Act.put, List.setIfInBounds_toArray, List.set_cons_zero, List.set_cons_succ]
              refine regH_take 10 68 (v := ?_) rfl rfl (by kernel_rfl) (by kernel_rfl) (by kernel_rfl) (fun _ _ _ h => h) (by rfl) (by assumption) ?_ ?_
              rotate_left
              · (intro w hSw; (try dsimp only at hSw); go_simp); try (with_reducible rfl)
              try simp only [Act.put, List.setIfInBounds_toArray, List.set_cons_zero, List.set_cons_succ]
              refine wpAnyH_ready (rs := [5]) (by kernel_rfl) (by simp) ?_
              refine AllReadyH.cons rfl (fun K hK => ?_) AllReadyH.nil
              go_simp
              (refine (find_any _ g l _ _ (HA.out.1.kept ((Mod.refl _ _).drew)) nm (by omega)).mono ?_; rintro e w8 ⟨rfl, m8⟩; have HM8 := Lib.hid (((Mod.refl (fun _ => False) wr).drew).then m8); clear m8)
              try (go_wp2_with fail)
              refine hK.out _ _ ?_ (fun hHeld => ?_)
              · (try dsimp only); first | exact HCN.out _ ((Mod.refl _ _).drew) | exact HCN.out _ HM8.out | exact HCN.out _ HM9.out
              clear hK K
              try simp only [Act.put, List.setIfInBounds_toArray, List.set_cons_zero, List.set_cons_succ]
              refine wpAnyH_ready (rs := [11]) (by kernel_rfl) (by simp) ?_
              refine AllReadyH.cons rfl (fun K hK => ?_) AllReadyH.nil
              go_simp
              (refine (rfind_any _ _ x vx l (HB.out.kept HM8.out) HSZ.out (by omega) nm (by omega)).mono ?_; rw [foldX_is HOK.out nm]; rintro e w9 ⟨rfl, m9⟩; have HM9 := Lib.hid (HM8.out.then m9); clear m9)
              try (go_wp2_with fail)
              refine hK.out _ _ ?_ (fun hHeld => ?_)
              · (try dsimp only); first | exact HCN.out _ ((Mod.refl _ _).drew) | exact HCN.out _ HM8.out | exact HCN.out _ HM9.out
              clear hK K
              try simp only [Act.put, List.setIfInBounds_toArray, List.set_cons_zero, List.set_cons_succ]
              refine regH_take 12 70 (v := ?_) rfl rfl (by kernel_rfl) (by kernel_rfl) (by kernel_rfl) (fun _ _ _ h => h) (by rfl) (by assumption) ?_ ?_
              rotate_left
              · (intro w hSw; (try dsimp only at hSw); go_simp); try (with_reducible rfl)
              try simp only [Act.put, List.setIfInBounds_toArray, List.set_cons_zero, List.set_cons_succ]
              refine wpAnyH_done (by kernel_rfl) ?_ _
              go_wp2_with fail
              go_roundg (ns.length - (j + 1))
              case measure => have := HJ2.out; omega
              case rel => exact ⟨j + 1, by go_num, by omega, HA.out.2.kept HM9.out, HB.out.kept HM9.out, HK.out.then HM9.out⟩
            · go_wp2_with fail
              refine (len_any _ _ g mo oe l _ HA.out.2).mono ?_
              rintro e w8 ⟨rfl, rfl⟩
              go_wp2_with fail
              refine (awake_any _).mono ?_
              rintro e w9 ⟨rfl, m9⟩
              have HK9 := Lib.hid (HK.out.then m9)
              clear m9
              go_wp2_with fail
              go_ret
              exact ⟨rfl, HK9.out⟩
    · obtain ⟨k6, rfl⟩ := h6.bad rfl h0
      have HK6 := Lib.hid (HK5.out.then k6)
      have HE := Lib.hid h0
      have b1n : (newE l != 0) = true := by simpa using h0
      have b1e : (newE l == 0) = false := by simpa using h0
      have b2n : (newE l != newE l) = false := by simp
      clear h6 k6 h0
      go_wp2_with fail
      refine (rnew_any _ l HSZ.out (by omega) _ (HV.out.kept HK6.out)).mono ?_
      rintro e w7 ⟨k7, ⟨_, rfl⟩ | ⟨h1, _⟩⟩
      · have HK7 := Lib.hid (HK6.out.then k7)
        clear k7
        generalize newE l = y at *
        go_wp2_with fail
        refine (awake_any _).mono ?_
        rintro e w8 ⟨rfl, m8⟩
        have HK8 := Lib.hid (HK7.out.then m8)
        clear m8
        go_wp2_with fail
        go_ret
        exact ⟨rfl, HK8.out⟩
      · exact absurd h1 HE.out
end Go.Proofs.Ytgibhcmdmdbpgaa
