/- A zone more, walked. Conditions: texts that a memory may hold. -/
import Derived.Test.YtgibhcmdmdbpgaaZoInn
namespace Go.Proofs.Ytgibhcmdmdbpgaa
open Go.RowKit Go.Lib

theorem newE_front {l : List Zn} {z : Zn} (h : newE (l ++ [z]) = 0) : newE l = 0 := by
  rw [newE_zero] at h ⊢
  obtain ⟨h1, h2⟩ := h
  rw [List.length_append] at h1
  exact ⟨by omega, h2.front⟩
theorem made0 (w : World) : (w.alloc (.cells #[] 35)).ownsRow w.heap.size 35 3 (.slice (some ⟨w.heap.size, 0, none⟩) 0 0) 0 [] := World.ownsRow_made w #[] 0 (Nat.le_refl _) (Nat.zero_le _) rfl
theorem lit3 (w : World) (z : Zn) : Rd (w.alloc (.cells #[.string z.name, .int .u8 z.pol, .int .u16 z.tr] 35)) 3 (.slice (some ⟨w.heap.size, 0, none⟩) 1 1) 1 (zC [z]) := RdZ.lit w _ 1 1 [z] _ rfl rfl
theorem one_zC (l : List Zn) : ∀ u ∈ zC l, u.oneCell' = true := by
  intro u hu
  unfold zC at hu
  obtain ⟨z, _, hz⟩ := List.mem_flatMap.1 hu
  simp only [List.mem_cons, List.not_mem_nil, or_false] at hz
  rcases hz with rfl | rfl | rfl <;> rfl
def MorRel (l : List Zn) (n : ByteArray) (w : World) (b4 b11 b12 : Nat) (z was now : Zn) (k : Nat) (vs vi : Value) (wr : World) : Prop :=
  ∃ j : Nat, vi = .int .i64 j ∧ j + k = l.length ∧ vs = .bool ((l.take j).any (wi n)) ∧ Blk wr b4 35 #[.string z.name, .int .u8 z.pol, .int .u16 z.tr] ∧ Blk wr b11 35 #[.string was.name, .int .u8 was.pol, .int .u16 was.tr] ∧ Blk wr b12 35 #[.string now.name, .int .u8 now.pol, .int .u16 now.tr] ∧ Kept w wr
theorem any_snoc (l : List Zn) (n : ByteArray) (j : Nat) (h : j < l.length) : (l.take (j + 1)).any (wi n) = ((l.take j).any (wi n) || wi n l[j]) := by
  rw [List.take_add_one, List.getElem?_eq_getElem h, List.any_append]
  simp
set_option maxHeartbeats 4000000 in
set_option maxRecDepth 100000 in
theorem more_any (v : Value) (l : List Zn) (z : Zn) (n : ByteArray) (hl : ∀ z ∈ l, z.name.size < 2 ^ 63) (hll : l.length < 2 ^ 63) (hz : z.name.size < 2 ^ 63) (hn : n.size < 2 ^ 63) (w : World) (hv : RdZ w v l) :
    Calls Try.prog 7 #[v, .agg #[.string z.name, .int .u8 z.pol, .int .u16 z.tr], .string n] w fun e w' => e = .returned (.bool true) ∧ Kept w w' := by
  have HV := Lib.hid hv
  obtain ⟨_, A, c, rfl, _⟩ := hv
  have HL := Lib.hid (And.intro hl (And.intro hn hz))
  clear hl
  have hz0 : (w.alloc (.cells #[.string z.name, .int .u8 z.pol, .int .u16 z.tr] 35)).cell? ⟨w.heap.size, 0, none⟩ = some (.string z.name) := (Blk.new _ _ _).cell 0
  have hl1 := lit1 (w.alloc (.cells #[.string z.name, .int .u8 z.pol, .int .u16 z.tr] 35)) 9 2 2 #[.string n, .string z.name] [n, z.name] rfl rfl
  rw [show (w.alloc (.cells #[.string z.name, .int .u8 z.pol, .int .u16 z.tr] 35)).heap.size = w.heap.size + 1 by simp] at hl1
  have HL1 := Lib.hid hl1
  clear hl1
  go_enter Try.func7, Try.ntmps7
  go_wp2_with fail
  refine (long_any _ _ l [n, z.name] HL.out.1 (by intro x hx; simp at hx; rcases hx with rfl | rfl; exact HL.out.2.1; exact HL.out.2.2) hll (by simp) _ (HV.out.kept (((Mod.refl _ _).alloc _).alloc _)) HL1.out).mono ?_
  rintro e w1 ⟨rfl, rfl | ⟨rfl, hF⟩⟩
  · go_wp2_with fail
    refine (awake_any _).mono ?_
    rintro e w2 ⟨rfl, m2⟩
    have HK2 := Lib.hid ((((Mod.refl (fun _ => False) w).alloc (.cells #[.string z.name, .int .u8 z.pol, .int .u16 z.tr] 35)).alloc (.cells #[.string n, .string z.name] 9)).then m2)
    clear m2
    go_wp2_with fail
    go_ret
    exact ⟨rfl, HK2.out⟩
  · have hl500 := hF.2.1
    clear hF
    go_wp2_with fail
    refine (awake_any _).mono ?_
    rintro e w2 ⟨rfl, m2⟩
    have HK2 := Lib.hid ((((Mod.refl (fun _ => False) w).alloc (.cells #[.string z.name, .int .u8 z.pol, .int .u16 z.tr] 35)).alloc (.cells #[.string n, .string z.name] 9)).then m2)
    have HB2 := Lib.hid (((Blk.new w 35 #[.string z.name, .int .u8 z.pol, .int .u16 z.tr]).alloc (.cells #[.string n, .string z.name] 9)).mod m2 (fun e => e))
    clear m2 hz0
    go_wp2_with fail
    refine (new_any _ l HL.out.1 hll _ (HV.out.kept HK2.out)).mono ?_
    intro e w3 h3
    have hlz : (l ++ [z]).length < 2 ^ 63 := by rw [List.length_append]; simp; omega
    have hsz : ∀ y ∈ l ++ [z], y.name.size < 2 ^ 63 := fun y hy => by
      rcases List.mem_append.1 hy with hy | hy
      · exact HL.out.1 y hy
      · rw [List.mem_singleton.1 hy]; exact HL.out.2.2
    have HNL := Lib.hid (And.intro hlz hsz)
    clear hlz hsz
    by_cases h0 : newE l = 0
    · obtain ⟨k3, g, mo, oe, rfl, hz3⟩ := h3.good h0
      have HK3 := Lib.hid (HK2.out.then k3)
      have HB3 := Lib.hid (HB2.out.mod k3 (fun e => e))
      have HA3 := Lib.hid (Fd.of_zt hz3)
      have HRV := Lib.hid (HV.out.kept HK3.out)
      have HSK : Hid (∀ W, Kept w3 W → W.cell? ⟨w.heap.size, 0, none⟩ = some (.string z.name) ∧ W.cell? ⟨w.heap.size, 1, none⟩ = some (.int .u8 z.pol) ∧ W.cell? ⟨w.heap.size, 2, none⟩ = some (.int .u16 z.tr)) := Lib.hid (fun W hW => by
        have hB := HB3.out.mod hW (fun e => e)
        exact ⟨hB.cell 0, hB.cell 1, hB.cell 2⟩)
      clear h3 k3 hz3 h0 HK2 HB2
      by_cases hf : newE (l ++ [z]) = 0
      · have HOK := Lib.hid hf
        clear hf
        go_wp2_with fail
        go_cut [9, 10] from 31 (fun s9 s10 wc => ∃ g2 mv2 by2, s9 = .pointer (some ⟨g2, 0, none⟩) ∧ s10 = .int .i64 0 ∧ Fd wc g2 (l ++ [z]) mv2 by2 ∧ Kept w3 wc)
        case first =>
          refine wp_region_held_drew (S := (fun w' => w'.cell? ⟨w.heap.size, 0, none⟩ = some (.string z.name) ∧ w'.cell? ⟨w.heap.size, 1, none⟩ = some (.int .u8 z.pol) ∧ w'.cell? ⟨w.heap.size, 2, none⟩ = some (.int .u16 z.tr))) (by kernel_rfl) ?_ (fun hHeld => ?_)
          · (try dsimp only); exact HSK.out _ ((Mod.refl _ _).drew)
          refine regH_take 1 33 (v := ?_) rfl rfl (by kernel_rfl) (by kernel_rfl) (by kernel_rfl) (fun _ _ _ h => h) (by rfl) (by assumption) ?_ ?_
          rotate_left
          · (intro w hSw; (try dsimp only at hSw); go_simp); try (with_reducible rfl)
          try simp only [Act.put, List.setIfInBounds_toArray, List.set_cons_zero, List.set_cons_succ]
          refine regH_take 3 35 (v := ?_) rfl rfl (by kernel_rfl) (by kernel_rfl) (by kernel_rfl) (fun _ _ _ h => h) (by rfl) (by assumption) ?_ ?_
          rotate_left
          · (intro w hSw; (try dsimp only at hSw); go_simp); try (with_reducible rfl)
          try simp only [Act.put, List.setIfInBounds_toArray, List.set_cons_zero, List.set_cons_succ]
          refine wpAnyH_ready (rs := [0, 4]) (by kernel_rfl) (by simp) ?_
          refine AllReadyH.cons rfl (fun K hK => ?_) (AllReadyH.cons rfl (fun K hK => ?_) AllReadyH.nil)
          · go_simp
            refine hK.out _ _ ?_ (fun hHeld => ?_)
            · (try dsimp only); exact HSK.out _ (((Mod.refl _ _).alloc _).drew)
            clear hK K
            try simp only [Act.put, List.setIfInBounds_toArray, List.set_cons_zero, List.set_cons_succ]
            refine at_world (P := wpAnyH _ _ _ _ _ _ _ _) (fun W => W.ownsRow w3.heap.size 35 3 (.slice (some ⟨w3.heap.size, 0, none⟩) 0 0) 0 [] ∧ Kept w3 W ∧ w3.heap.size < W.heap.size ∧ Kept w3 W) ⟨own_kept (made0 w3) ((Mod.refl _ _).drew), ((Mod.refl _ _).alloc _).drew, by simp, ((Mod.refl _ _).alloc _).drew⟩ ?_
            rintro W1 ⟨ho1, _, hlt1, hk1⟩
            have hHeld := HSK.out W1 hk1
            refine wpAnyH_ready (rs := [2, 4]) (by kernel_rfl) (by simp) ?_
            refine AllReadyH.cons rfl (fun K hK => ?_) (AllReadyH.cons rfl (fun K hK => ?_) AllReadyH.nil)
            · refine step_append_rd 22 35 3 24 elem_zone (.tmp 32) (.tmp 33) rfl rfl w3.heap.size (.slice (some ⟨w3.heap.size, 0, none⟩) 0 0) 0 _ rfl ho1 (.slice A l.length c) l.length (zC l) rfl (HRV.out.kept hk1) (one_zC _) (by unfold maxLen; omega) (by omega) hk1.size ?_
              intro A5 c5 w5 ho5 hm5 _
              rw [Nat.zero_add, List.nil_append] at ho5
              rw [Nat.zero_add]
              have hk5 : Kept w3 w5 := Mod.trans hk1 hm5 (fun k hk e => by have := (ho1.lt k e).1; omega)
              refine hK.out _ _ ?_ (fun hHeld => ?_)
              · (try dsimp only); exact HSK.out _ hk5
              clear hK K
              try simp only [Act.put, List.setIfInBounds_toArray, List.set_cons_zero, List.set_cons_succ]
              refine wpAnyH_ready (rs := [4]) (by kernel_rfl) (by simp) ?_
              refine AllReadyH.cons rfl (fun K hK => ?_) AllReadyH.nil
              go_simp
              refine hK.out _ _ ?_ (fun hHeld => ?_)
              · (try dsimp only); exact HSK.out _ (hk5.alloc _)
              clear hK K
              try simp only [Act.put, List.setIfInBounds_toArray, List.set_cons_zero, List.set_cons_succ]
              refine at_world (P := wpAnyH _ _ _ _ _ _ _ _) (fun W => W.ownsRow w3.heap.size 35 3 (.slice A5 l.length c5) l.length (zC l) ∧ Rd W 3 (.slice (some ⟨w5.heap.size, 0, none⟩) 1 1) 1 (zC [z]) ∧ Kept w3 W) ⟨own_kept ho5 ((Mod.refl _ _).alloc _), lit3 w5 z, hk5.alloc _⟩ ?_
              rintro W6 ⟨ho6, hr6, hk6⟩
              have hHeld := HSK.out W6 hk6
              refine wpAnyH_ready (rs := [5]) (by kernel_rfl) (by simp) ?_
              refine AllReadyH.cons rfl (fun K hK => ?_) AllReadyH.nil
              refine step_append_rd 22 35 3 24 elem_zone (.tmp 34) (.tmp 36) rfl rfl w3.heap.size (.slice A5 l.length c5) l.length _ rfl ho6 (.slice (some ⟨w5.heap.size, 0, none⟩) 1 1) 1 (zC [z]) rfl hr6 (one_zC _) (by unfold maxLen; omega) (by omega) hk6.size ?_
              intro A7 c7 w7 ho7 hm7 _
              have hk7 : Kept w3 w7 := Mod.trans hk6 hm7 (fun k hk e => by have := (ho6.lt k e).1; omega)
              have hrz : RdZ w7 (.slice A7 (l.length + 1) c7) (l ++ [z]) := by
                have h := Rd.of_own ho7
                unfold RdZ
                rw [List.length_append, show zC (l ++ [z]) = zC l ++ zC [z] by simp [zC]]
                exact h
              refine hK.out _ _ ?_ (fun hHeld => ?_)
              · (try dsimp only); exact HSK.out _ hk7
              clear hK K
              try simp only [Act.put, List.setIfInBounds_toArray, List.set_cons_zero, List.set_cons_succ]
              refine wpAnyH_ready (rs := [6]) (by kernel_rfl) (by simp) ?_
              refine AllReadyH.cons rfl (fun K hK => ?_) AllReadyH.nil
              go_simp
              refine (new_any _ (l ++ [z]) HNL.out.2 HNL.out.1 _ hrz).mono ?_
              intro e w8 h8
              obtain ⟨k8, g2, mo2, oe2, rfl, hz8⟩ := h8.good HOK.out
              have hk8 := hk7.then k8
              try (go_wp2_with fail)
              refine hK.out _ _ ?_ (fun hHeld => ?_)
              · (try dsimp only); exact HSK.out _ hk8
              clear hK K
              try simp only [Act.put, List.setIfInBounds_toArray, List.set_cons_zero, List.set_cons_succ]
              refine regH_take 7 31 (v := ?_) rfl rfl (by kernel_rfl) (by kernel_rfl) (by kernel_rfl) (fun _ _ _ h => h) (by rfl) (by assumption) ?_ ?_
              rotate_left
              · (intro w hSw; (try dsimp only at hSw); go_simp); try (with_reducible rfl)
              try simp only [Act.put, List.setIfInBounds_toArray, List.set_cons_zero, List.set_cons_succ]
              refine regH_take 8 39 (v := ?_) rfl rfl (by kernel_rfl) (by kernel_rfl) (by kernel_rfl) (fun _ _ _ h => h) (by rfl) (by assumption) ?_ ?_
              rotate_left
              · (intro w hSw; (try dsimp only at hSw); go_simp); try (with_reducible rfl)
              try simp only [Act.put, List.setIfInBounds_toArray, List.set_cons_zero, List.set_cons_succ]
              refine regH_take 9 40 (v := ?_) rfl rfl (by kernel_rfl) (by kernel_rfl) (by kernel_rfl) (fun _ _ _ h => h) (by rfl) (by assumption) ?_ ?_
              rotate_left
              · (intro w hSw; (try dsimp only at hSw); go_simp); try (with_reducible rfl)
              try simp only [Act.put, List.setIfInBounds_toArray, List.set_cons_zero, List.set_cons_succ]
              refine regH_take 10 9 (v := ?_) rfl rfl (by kernel_rfl) (by kernel_rfl) (by kernel_rfl) (fun _ _ _ h => h) (by rfl) (by assumption) ?_ ?_
              rotate_left
              · (intro w hSw; (try dsimp only at hSw); go_simp); try (with_reducible rfl)
              try simp only [Act.put, List.setIfInBounds_toArray, List.set_cons_zero, List.set_cons_succ]
              refine regH_take 11 10 (v := ?_) rfl rfl (by kernel_rfl) (by kernel_rfl) (by kernel_rfl) (fun _ _ _ h => h) (by rfl) (by assumption) ?_ ?_
              rotate_left
              · (intro w hSw; (try dsimp only at hSw); go_simp); try (with_reducible rfl)
              try simp only [Act.put, List.setIfInBounds_toArray, List.set_cons_zero, List.set_cons_succ]
              refine wpAnyH_done (by kernel_rfl) ?_ _
              go_wp2_with fail
              go_meet
              case rel => exact ⟨g2, _, _, rfl, rfl, Fd.of_zt hz8, hk8⟩
            · go_simp
              refine hK.out _ _ ?_ (fun hHeld => ?_)
              · (try dsimp only); exact HSK.out _ (hk1.alloc _)
              clear hK K
              try simp only [Act.put, List.setIfInBounds_toArray, List.set_cons_zero, List.set_cons_succ]
              refine at_world (P := wpAnyH _ _ _ _ _ _ _ _) (fun W => W.ownsRow w3.heap.size 35 3 (.slice (some ⟨w3.heap.size, 0, none⟩) 0 0) 0 [] ∧ Rd W 3 (.slice (some ⟨W1.heap.size, 0, none⟩) 1 1) 1 (zC [z]) ∧ Kept w3 W) ⟨own_kept ho1 ((Mod.refl _ _).alloc _), lit3 W1 z, hk1.alloc _⟩ ?_
              rintro W2 ⟨ho2, hr2, hk2⟩
              have hHeld := HSK.out W2 hk2
              refine wpAnyH_ready (rs := [2]) (by kernel_rfl) (by simp) ?_
              refine AllReadyH.cons rfl (fun K hK => ?_) AllReadyH.nil
              refine step_append_rd 22 35 3 24 elem_zone (.tmp 32) (.tmp 33) rfl rfl w3.heap.size (.slice (some ⟨w3.heap.size, 0, none⟩) 0 0) 0 _ rfl ho2 (.slice A l.length c) l.length (zC l) rfl (HRV.out.kept hk2) (one_zC _) (by unfold maxLen; omega) (by omega) hk2.size ?_
              intro A5 c5 w5 ho5 hm5 _
              rw [Nat.zero_add, List.nil_append] at ho5
              rw [Nat.zero_add]
              have hk5 : Kept w3 w5 := Mod.trans hk2 hm5 (fun k hk e => by have := (ho2.lt k e).1; omega)
              have hr5 := hr2.mod hm5 (fun k hk _ e => by have e : some w3.heap.size = some k := e; have hk : some W1.heap.size = some k := hk; injection e with e; injection hk with hk; omega)
              refine hK.out _ _ ?_ (fun hHeld => ?_)
              · (try dsimp only); exact HSK.out _ hk5
              clear hK K
              try simp only [Act.put, List.setIfInBounds_toArray, List.set_cons_zero, List.set_cons_succ]
              refine at_world (P := wpAnyH _ _ _ _ _ _ _ _) (fun W => W.ownsRow w3.heap.size 35 3 (.slice A5 l.length c5) l.length (zC l) ∧ Rd W 3 (.slice (some ⟨W1.heap.size, 0, none⟩) 1 1) 1 (zC [z]) ∧ Kept w3 W) ⟨ho5, hr5, hk5⟩ ?_
              rintro W6 ⟨ho6, hr6, hk6⟩
              have hHeld := HSK.out W6 hk6
              refine wpAnyH_ready (rs := [5]) (by kernel_rfl) (by simp) ?_
              refine AllReadyH.cons rfl (fun K hK => ?_) AllReadyH.nil
              refine step_append_rd 22 35 3 24 elem_zone (.tmp 34) (.tmp 36) rfl rfl w3.heap.size (.slice A5 l.length c5) l.length _ rfl ho6 (.slice (some ⟨W1.heap.size, 0, none⟩) 1 1) 1 (zC [z]) rfl hr6 (one_zC _) (by unfold maxLen; omega) (by omega) hk6.size ?_
              intro A7 c7 w7 ho7 hm7 _
              have hk7 : Kept w3 w7 := Mod.trans hk6 hm7 (fun k hk e => by have := (ho6.lt k e).1; omega)
              have hrz : RdZ w7 (.slice A7 (l.length + 1) c7) (l ++ [z]) := by
                have h := Rd.of_own ho7
                unfold RdZ
                rw [List.length_append, show zC (l ++ [z]) = zC l ++ zC [z] by simp [zC]]
                exact h
              refine hK.out _ _ ?_ (fun hHeld => ?_)
              · (try dsimp only); exact HSK.out _ hk7
              clear hK K
              try simp only [Act.put, List.setIfInBounds_toArray, List.set_cons_zero, List.set_cons_succ]
              refine wpAnyH_ready (rs := [6]) (by kernel_rfl) (by simp) ?_
              refine AllReadyH.cons rfl (fun K hK => ?_) AllReadyH.nil
              go_simp
              refine (new_any _ (l ++ [z]) HNL.out.2 HNL.out.1 _ hrz).mono ?_
              intro e w8 h8
              obtain ⟨k8, g2, mo2, oe2, rfl, hz8⟩ := h8.good HOK.out
              have hk8 := hk7.then k8
              try (go_wp2_with fail)
              refine hK.out _ _ ?_ (fun hHeld => ?_)
              · (try dsimp only); exact HSK.out _ hk8
              clear hK K
              try simp only [Act.put, List.setIfInBounds_toArray, List.set_cons_zero, List.set_cons_succ]
              refine regH_take 7 31 (v := ?_) rfl rfl (by kernel_rfl) (by kernel_rfl) (by kernel_rfl) (fun _ _ _ h => h) (by rfl) (by assumption) ?_ ?_
              rotate_left
              · (intro w hSw; (try dsimp only at hSw); go_simp); try (with_reducible rfl)
              try simp only [Act.put, List.setIfInBounds_toArray, List.set_cons_zero, List.set_cons_succ]
              refine regH_take 8 39 (v := ?_) rfl rfl (by kernel_rfl) (by kernel_rfl) (by kernel_rfl) (fun _ _ _ h => h) (by rfl) (by assumption) ?_ ?_
              rotate_left
              · (intro w hSw; (try dsimp only at hSw); go_simp); try (with_reducible rfl)
              try simp only [Act.put, List.setIfInBounds_toArray, List.set_cons_zero, List.set_cons_succ]
              refine regH_take 9 40 (v := ?_) rfl rfl (by kernel_rfl) (by kernel_rfl) (by kernel_rfl) (fun _ _ _ h => h) (by rfl) (by assumption) ?_ ?_
              rotate_left
              · (intro w hSw; (try dsimp only at hSw); go_simp); try (with_reducible rfl)
              try simp only [Act.put, List.setIfInBounds_toArray, List.set_cons_zero, List.set_cons_succ]
              refine regH_take 10 9 (v := ?_) rfl rfl (by kernel_rfl) (by kernel_rfl) (by kernel_rfl) (fun _ _ _ h => h) (by rfl) (by assumption) ?_ ?_
              rotate_left
              · (intro w hSw; (try dsimp only at hSw); go_simp); try (with_reducible rfl)
              try simp only [Act.put, List.setIfInBounds_toArray, List.set_cons_zero, List.set_cons_succ]
              refine regH_take 11 10 (v := ?_) rfl rfl (by kernel_rfl) (by kernel_rfl) (by kernel_rfl) (fun _ _ _ h => h) (by rfl) (by assumption) ?_ ?_
              rotate_left
              · (intro w hSw; (try dsimp only at hSw); go_simp); try (with_reducible rfl)
              try simp only [Act.put, List.setIfInBounds_toArray, List.set_cons_zero, List.set_cons_succ]
              refine wpAnyH_done (by kernel_rfl) ?_ _
              go_wp2_with fail
              go_meet
              case rel => exact ⟨g2, _, _, rfl, rfl, Fd.of_zt hz8, hk8⟩
          · go_simp
            refine hK.out _ _ ?_ (fun hHeld => ?_)
            · (try dsimp only); exact HSK.out _ (((Mod.refl _ _).alloc _).drew)
            clear hK K
            try simp only [Act.put, List.setIfInBounds_toArray, List.set_cons_zero, List.set_cons_succ]
            refine at_world (P := wpAnyH _ _ _ _ _ _ _ _) (fun W => Rd W 3 (.slice (some ⟨w3.heap.size, 0, none⟩) 1 1) 1 (zC [z]) ∧ w3.heap.size < W.heap.size ∧ Kept w3 W) ⟨(lit3 w3 z).kept ((Mod.refl (fun _ => False) _).drew) (fun _ _ e => e), by simp, ((Mod.refl _ _).alloc _).drew⟩ ?_
            rintro W1 ⟨hr1, hlt1, hk1⟩
            have hHeld := HSK.out W1 hk1
            refine wpAnyH_ready (rs := [0]) (by kernel_rfl) (by simp) ?_
            refine AllReadyH.cons rfl (fun K hK => ?_) AllReadyH.nil
            go_simp
            refine hK.out _ _ ?_ (fun hHeld => ?_)
            · (try dsimp only); exact HSK.out _ (hk1.alloc _)
            clear hK K
            try simp only [Act.put, List.setIfInBounds_toArray, List.set_cons_zero, List.set_cons_succ]
            refine at_world (P := wpAnyH _ _ _ _ _ _ _ _) (fun W => W.ownsRow w3.heap.size 35 3 (.slice (some ⟨W1.heap.size, 0, none⟩) 0 0) 0 [] ∧ Rd W 3 (.slice (some ⟨w3.heap.size, 0, none⟩) 1 1) 1 (zC [z]) ∧ Kept w3 W) ⟨own_lower (made0 W1) hk1.size, hr1.kept ((Mod.refl (fun _ => False) _).alloc _) (fun _ _ e => e), hk1.alloc _⟩ ?_
            rintro W2 ⟨ho2, hr2, hk2⟩
            have hHeld := HSK.out W2 hk2
            refine wpAnyH_ready (rs := [2]) (by kernel_rfl) (by simp) ?_
            refine AllReadyH.cons rfl (fun K hK => ?_) AllReadyH.nil
            refine step_append_rd 22 35 3 24 elem_zone (.tmp 32) (.tmp 33) rfl rfl w3.heap.size (.slice (some ⟨W1.heap.size, 0, none⟩) 0 0) 0 _ rfl ho2 (.slice A l.length c) l.length (zC l) rfl (HRV.out.kept hk2) (one_zC _) (by unfold maxLen; omega) (by omega) hk2.size ?_
            intro A5 c5 w5 ho5 hm5 _
            rw [Nat.zero_add, List.nil_append] at ho5
            rw [Nat.zero_add]
            have hk5 : Kept w3 w5 := Mod.trans hk2 hm5 (fun k hk e => by have := (ho2.lt k e).1; omega)
            have hr5 := hr2.mod hm5 (fun k hk _ e => by have e : some W1.heap.size = some k := e; have hk : some w3.heap.size = some k := hk; injection e with e; injection hk with hk; omega)
            refine hK.out _ _ ?_ (fun hHeld => ?_)
            · (try dsimp only); exact HSK.out _ hk5
            clear hK K
            try simp only [Act.put, List.setIfInBounds_toArray, List.set_cons_zero, List.set_cons_succ]
            refine at_world (P := wpAnyH _ _ _ _ _ _ _ _) (fun W => W.ownsRow w3.heap.size 35 3 (.slice A5 l.length c5) l.length (zC l) ∧ Rd W 3 (.slice (some ⟨w3.heap.size, 0, none⟩) 1 1) 1 (zC [z]) ∧ Kept w3 W) ⟨ho5, hr5, hk5⟩ ?_
            rintro W6 ⟨ho6, hr6, hk6⟩
            have hHeld := HSK.out W6 hk6
            refine wpAnyH_ready (rs := [5]) (by kernel_rfl) (by simp) ?_
            refine AllReadyH.cons rfl (fun K hK => ?_) AllReadyH.nil
            refine step_append_rd 22 35 3 24 elem_zone (.tmp 34) (.tmp 36) rfl rfl w3.heap.size (.slice A5 l.length c5) l.length _ rfl ho6 (.slice (some ⟨w3.heap.size, 0, none⟩) 1 1) 1 (zC [z]) rfl hr6 (one_zC _) (by unfold maxLen; omega) (by omega) hk6.size ?_
            intro A7 c7 w7 ho7 hm7 _
            have hk7 : Kept w3 w7 := Mod.trans hk6 hm7 (fun k hk e => by have := (ho6.lt k e).1; omega)
            have hrz : RdZ w7 (.slice A7 (l.length + 1) c7) (l ++ [z]) := by
              have h := Rd.of_own ho7
              unfold RdZ
              rw [List.length_append, show zC (l ++ [z]) = zC l ++ zC [z] by simp [zC]]
              exact h
            refine hK.out _ _ ?_ (fun hHeld => ?_)
            · (try dsimp only); exact HSK.out _ hk7
            clear hK K
            try simp only [Act.put, List.setIfInBounds_toArray, List.set_cons_zero, List.set_cons_succ]
            refine wpAnyH_ready (rs := [6]) (by kernel_rfl) (by simp) ?_
            refine AllReadyH.cons rfl (fun K hK => ?_) AllReadyH.nil
            go_simp
            refine (new_any _ (l ++ [z]) HNL.out.2 HNL.out.1 _ hrz).mono ?_
            intro e w8 h8
            obtain ⟨k8, g2, mo2, oe2, rfl, hz8⟩ := h8.good HOK.out
            have hk8 := hk7.then k8
            try (go_wp2_with fail)
            refine hK.out _ _ ?_ (fun hHeld => ?_)
            · (try dsimp only); exact HSK.out _ hk8
            clear hK K
            try simp only [Act.put, List.setIfInBounds_toArray, List.set_cons_zero, List.set_cons_succ]
            refine regH_take 7 31 (v := ?_) rfl rfl (by kernel_rfl) (by kernel_rfl) (by kernel_rfl) (fun _ _ _ h => h) (by rfl) (by assumption) ?_ ?_
            rotate_left
            · (intro w hSw; (try dsimp only at hSw); go_simp); try (with_reducible rfl)
            try simp only [Act.put, List.setIfInBounds_toArray, List.set_cons_zero, List.set_cons_succ]
            refine regH_take 8 39 (v := ?_) rfl rfl (by kernel_rfl) (by kernel_rfl) (by kernel_rfl) (fun _ _ _ h => h) (by rfl) (by assumption) ?_ ?_
            rotate_left
            · (intro w hSw; (try dsimp only at hSw); go_simp); try (with_reducible rfl)
            try simp only [Act.put, List.setIfInBounds_toArray, List.set_cons_zero, List.set_cons_succ]
            refine regH_take 9 40 (v := ?_) rfl rfl (by kernel_rfl) (by kernel_rfl) (by kernel_rfl) (fun _ _ _ h => h) (by rfl) (by assumption) ?_ ?_
            rotate_left
            · (intro w hSw; (try dsimp only at hSw); go_simp); try (with_reducible rfl)
            try simp only [Act.put, List.setIfInBounds_toArray, List.set_cons_zero, List.set_cons_succ]
            refine regH_take 10 9 (v := ?_) rfl rfl (by kernel_rfl) (by kernel_rfl) (by kernel_rfl) (fun _ _ _ h => h) (by rfl) (by assumption) ?_ ?_
            rotate_left
            · (intro w hSw; (try dsimp only at hSw); go_simp); try (with_reducible rfl)
            try simp only [Act.put, List.setIfInBounds_toArray, List.set_cons_zero, List.set_cons_succ]
            refine regH_take 11 10 (v := ?_) rfl rfl (by kernel_rfl) (by kernel_rfl) (by kernel_rfl) (fun _ _ _ h => h) (by rfl) (by assumption) ?_ ?_
            rotate_left
            · (intro w hSw; (try dsimp only at hSw); go_simp); try (with_reducible rfl)
            try simp only [Act.put, List.setIfInBounds_toArray, List.set_cons_zero, List.set_cons_succ]
            refine wpAnyH_done (by kernel_rfl) ?_ _
            go_wp2_with fail
            go_meet
            case rel => exact ⟨g2, _, _, rfl, rfl, Fd.of_zt hz8, hk8⟩
        case rest =>
          obtain ⟨g2, mv2, by2, rfl, rfl, hfd2, hk4⟩ := hcut
          have HK4 := Lib.hid hk4
          have HFD := Lib.hid (And.intro (HA3.out.kept hk4) hfd2)
          have HB4 := Lib.hid (HB3.out.mod hk4 (fun e => e))
          have HKW := Lib.hid (HK3.out.then hk4)
          have hok := ((newE_zero _).1 HOK.out).2
          have hcs : (wi n z = false ∧ findZ (l ++ [z]) n = findZ l n) ∨ (wi n z = true ∧ l.any (wi n) = false ∧ findZ (l ++ [z]) n = z) ∨ (wi n z = true ∧ l.any (wi n) = true ∧ labK (findZ l n).name < labK z.name ∧ findZ (l ++ [z]) n = z) ∨ (wi n z = true ∧ l.any (wi n) = true ∧ ¬ labK (findZ l n).name < labK z.name ∧ findZ (l ++ [z]) n = findZ l n) := by
            cases h1 : wi n z with
            | false => exact .inl ⟨rfl, find_more_was hok (.inl h1)⟩
            | true =>
              cases h2 : l.any (wi n) with
              | false => exact .inr (.inl ⟨rfl, rfl, find_more_new hok h1 (.inl (fun y hy => by
                  rw [List.any_eq_false] at h2
                  simpa using h2 y hy))⟩)
              | true =>
                by_cases h3 : labK (findZ l n).name < labK z.name
                · exact .inr (.inr (.inl ⟨rfl, rfl, h3, find_more_new hok h1 (.inr h3)⟩))
                · rw [List.any_eq_true] at h2
                  exact .inr (.inr (.inr ⟨rfl, rfl, h3, find_more_was hok (.inr ⟨h2, h3⟩)⟩))
          have HCS := Lib.hid hcs
          have hzs : (findZ l n).name.size < 2 ^ 63 := by
            obtain ⟨xs, hx, _⟩ := find_mayb hok.front n
            have := ((splitN_iff _ _).1 hx).2.2
            rw [bys_length] at this
            omega
          have HZS := Lib.hid hzs
          clear hk4 hfd2 hok hcs hzs HSK HRV HA3 HB3 HK3
          go_wp2_with fail
          refine (find_any _ g l _ _ HFD.out.1 n hn).mono ?_
          rintro e w5 ⟨rfl, m5⟩
          have HFD5 := Lib.hid (HFD.out.2.kept m5)
          have HB5 := Lib.hid (HB4.out.mod m5 (fun e => e))
          have HKW5 := Lib.hid (HKW.out.then m5)
          clear m5 HFD HB4 HKW HK4
          go_wp2_with fail
          refine (find_any _ g2 (l ++ [z]) _ _ HFD5.out n hn).mono ?_
          rintro e w6 ⟨rfl, m6⟩
          have HB6 := Lib.hid (HB5.out.mod m6 (fun e => e))
          have HKW6 := Lib.hid (HKW5.out.then m6)
          clear m6 HFD5 HB5 HKW5
          generalize findZ l n = was at *
          generalize findZ (l ++ [z]) n = now at *
          unfold znC
          simp only
          go_wp2_with fail
          go_loopg [13, 14] l.length (fun k vs vi wr => MorRel l n w w.heap.size w6.heap.size (w6.heap.size + 1) z was now k vs vi wr)
          case atStart =>
            refine ⟨0, rfl, by omega, rfl, (HB6.out.alloc _).alloc _, (Blk.new _ _ _).alloc _, ?_, (HKW6.out.alloc _).alloc _⟩
            have h := Blk.new (w6.alloc (.cells #[.string was.name, .int .u8 was.pol, .int .u16 was.tr] 35)) 35 #[.string now.name, .int .u8 now.pol, .int .u16 now.tr]
            rw [show (w6.alloc (.cells #[.string was.name, .int .u8 was.pol, .int .u16 was.tr] 35)).heap.size = w6.heap.size + 1 by simp] at h
            exact h
          case round =>
            obtain ⟨j, rfl, hj, rfl, hBz, hBw, hBn, hK⟩ := hrel
            have HJ := Lib.hid hj
            have HBZ := Lib.hid hBz
            have HBW := Lib.hid hBw
            have HBN := Lib.hid hBn
            have HK := Lib.hid hK
            have hjl : j ≤ l.length := by omega
            clear hj hBz hBw hBn hK
            by_cases hlt : j < l.length
            · obtain ⟨b1, o1, c1', e1, hb1, g1⟩ := HV.out.at hlt
              injection e1 with e1 _ e1'
              subst e1 e1'
              obtain ⟨q1, _, _⟩ := zC_get l j hlt
              have f1 := (HK.out.cell (p := ⟨b1, o1 + j * 3, none⟩) hb1 (fun e => e)).trans (g1 _ _ q1)
              have i1 : (j : Int) < l.length := by omega
              have hsz := HL.out.1 _ (List.getElem_mem hlt)
              have hsn := any_snoc l n j hlt
              clear g1 q1
              generalize l[j]'hlt = y at *
              have HWI := Lib.hid (fun w => within_any n y.name hn hsz w)
              obtain ⟨hb, hhb⟩ : ∃ hb, (l.take j).any (wi n) = hb := ⟨_, rfl⟩
              rw [hhb] at hsn
              rw [hhb]
              have HSN := Lib.hid hsn
              clear hsn hhb hsz
              cases hb with
              | true =>
                go_wp2_with fail
                go_roundg (l.length - (j + 1))
                case measure => have := HJ.out; omega
                case rel => exact ⟨j + 1, by go_num, by omega, by rw [HSN.out]; rfl, HBZ.out, HBW.out, HBN.out, HK.out⟩
              | false =>
                go_wp2_with fail
                refine (HWI.out _).mono ?_
                rintro e w7 ⟨rfl, m7⟩
                have HM7 := Lib.hid m7
                clear m7
                go_wp2_with fail
                go_roundg (l.length - (j + 1))
                case measure => have := HJ.out; omega
                case rel => exact ⟨j + 1, by go_num, by omega, by rw [HSN.out, Bool.false_or]; rfl, HBZ.out.mod HM7.out (fun e => e), HBW.out.mod HM7.out (fun e => e), HBN.out.mod HM7.out (fun e => e), HK.out.then HM7.out⟩
            · obtain rfl : j = l.length := by omega
              rw [List.take_length]
              have HWZ := Lib.hid (fun w => within_any n z.name hn HL.out.2.2 w)
              have HLZ := Lib.hid (fun w => labels_c z.name HL.out.2.2 w)
              have HLW := Lib.hid (fun w => labels_c was.name HZS.out w)
              have hq4 : ∀ w, (binOp .eql 35 (.agg #[.string now.name, .int .u8 now.pol, .int .u16 now.tr]) (.agg #[.string z.name, .int .u8 z.pol, .int .u16 z.tr])).run Try.prog w = .ok (.bool (eqZ now z)) w := fun w => run_eql_zone now z w
              have hq5 : ∀ w, (binOp .eql 35 (.agg #[.string now.name, .int .u8 now.pol, .int .u16 now.tr]) (.agg #[.string was.name, .int .u8 was.pol, .int .u16 was.tr])).run Try.prog w = .ok (.bool (eqZ now was)) w := fun w => run_eql_zone now was w
              have HSK : Hid (∀ W, Kept wr W → W.cell? ⟨w.heap.size, 0, none⟩ = some (.string z.name) ∧ W.cell? ⟨w6.heap.size, 0, none⟩ = some (.string was.name)) := Lib.hid (fun W hW => ⟨(HBZ.out.mod hW (fun e => e)).cell 0, (HBW.out.mod hW (fun e => e)).cell 0⟩)
              have HCL : Hid (∀ W, Kept wr W → (W.cell? ⟨w.heap.size, 0, none⟩ = some (.string z.name) ∧ W.cell? ⟨w.heap.size, 1, none⟩ = some (.int .u8 z.pol) ∧ W.cell? ⟨w.heap.size, 2, none⟩ = some (.int .u16 z.tr)) ∧ (W.cell? ⟨w6.heap.size, 0, none⟩ = some (.string was.name) ∧ W.cell? ⟨w6.heap.size, 1, none⟩ = some (.int .u8 was.pol) ∧ W.cell? ⟨w6.heap.size, 2, none⟩ = some (.int .u16 was.tr)) ∧ (W.cell? ⟨w6.heap.size + 1, 0, none⟩ = some (.string now.name) ∧ W.cell? ⟨w6.heap.size + 1, 1, none⟩ = some (.int .u8 now.pol) ∧ W.cell? ⟨w6.heap.size + 1, 2, none⟩ = some (.int .u16 now.tr))) := Lib.hid (fun W hW => by
                have a := HBZ.out.mod hW (fun e => e)
                have b := HBW.out.mod hW (fun e => e)
                have c := HBN.out.mod hW (fun e => e)
                exact ⟨⟨a.cell 0, a.cell 1, a.cell 2⟩, ⟨b.cell 0, b.cell 1, b.cell 2⟩, c.cell 0, c.cell 1, c.cell 2⟩)
              rcases HCS.out with ⟨h1, h2⟩ | ⟨h1, h2, h3⟩ | ⟨h1, h2, h3, h4⟩ | ⟨h1, h2, h3, h4⟩
              · have e5 : eqZ now was = true := (eqZ_iff _ _).2 h2
                have h1' : withinN (bys n) (bys z.name) = false := h1
                rw [h1'] at HWZ
                rw [e5] at hq5
                obtain ⟨sm, hsm⟩ : ∃ sm, l.any (wi n) = sm := ⟨_, rfl⟩
                rw [hsm]
                clear h1 h2 h1' e5 hq4 HCS hsm hlt
                go_wp2_with fail
                refine wp_region_held_drew (S := (fun w' => w'.cell? ⟨w.heap.size, 0, none⟩ = some (.string z.name) ∧ w'.cell? ⟨w6.heap.size, 0, none⟩ = some (.string was.name))) (by kernel_rfl) ?_ (fun hHeld => ?_)
                · (try dsimp only); first | exact HSK.out _ HME.out | exact HSK.out _ ((Mod.refl _ _).drew)
                refine regH_take 0 75 (v := ?_) rfl rfl (by kernel_rfl) (by kernel_rfl) (by kernel_rfl) (fun _ _ _ h => h) (by rfl) (by assumption) ?_ ?_
                rotate_left
                · (intro w hSw; (try dsimp only at hSw); go_simp); try (with_reducible rfl)
                try simp only [Act.put, List.setIfInBounds_toArray, List.set_cons_zero, List.set_cons_succ]
                refine regH_take 1 76 (v := ?_) rfl rfl (by kernel_rfl) (by kernel_rfl) (by kernel_rfl) (fun _ _ _ h => h) (by rfl) (by assumption) ?_ ?_
                rotate_left
                · (intro w hSw; (try dsimp only at hSw); go_simp); try (with_reducible rfl)
                try simp only [Act.put, List.setIfInBounds_toArray, List.set_cons_zero, List.set_cons_succ]
                refine regH_take 2 77 (v := ?_) rfl rfl (by kernel_rfl) (by kernel_rfl) (by kernel_rfl) (fun _ _ _ h => h) (by rfl) (by assumption) ?_ ?_
                rotate_left
                · (intro w hSw; (try dsimp only at hSw); go_simp); try (with_reducible rfl)
                try simp only [Act.put, List.setIfInBounds_toArray, List.set_cons_zero, List.set_cons_succ]
                refine wpAnyH_ready (rs := [3]) (by kernel_rfl) (by simp) ?_
                refine AllReadyH.cons rfl (fun K hK => ?_) AllReadyH.nil
                go_simp
                (refine (HWZ.out _).mono ?_; rintro e wa ⟨rfl, ma⟩; have HME := Lib.hid (((Mod.refl (fun _ => False) wr).drew).then ma); clear ma)
                try (go_wp2_with fail)
                refine hK.out _ _ ?_ (fun hHeld => ?_)
                · (try dsimp only); first | exact HSK.out _ HME.out | exact HSK.out _ ((Mod.refl _ _).drew)
                clear hK K
                try simp only [Act.put, List.setIfInBounds_toArray, List.set_cons_zero, List.set_cons_succ]
                refine regH_take 4 79 (v := ?_) rfl rfl (by kernel_rfl) (by kernel_rfl) (by kernel_rfl) (fun _ _ _ h => h) (by rfl) (by assumption) ?_ ?_
                rotate_left
                · (intro w hSw; (try dsimp only at hSw); go_simp); try (with_reducible rfl)
                try simp only [Act.put, List.setIfInBounds_toArray, List.set_cons_zero, List.set_cons_succ]
                refine regH_skip 5 80 rfl rfl (by kernel_rfl) (by kernel_rfl) (by kernel_rfl) (fun _ _ _ h => h) (by rfl) (by assumption) ?_
                try simp only [Act.put, List.setIfInBounds_toArray, List.set_cons_zero, List.set_cons_succ]
                refine regH_skip 6 81 rfl rfl (by kernel_rfl) (by kernel_rfl) (by kernel_rfl) (fun _ _ _ h => h) (by rfl) (by assumption) ?_
                try simp only [Act.put, List.setIfInBounds_toArray, List.set_cons_zero, List.set_cons_succ]
                refine regH_skip 7 82 rfl rfl (by kernel_rfl) (by kernel_rfl) (by kernel_rfl) (fun _ _ _ h => h) (by rfl) (by assumption) ?_
                try simp only [Act.put, List.setIfInBounds_toArray, List.set_cons_zero, List.set_cons_succ]
                refine regH_skip 8 83 rfl rfl (by kernel_rfl) (by kernel_rfl) (by kernel_rfl) (fun _ _ _ h => h) (by rfl) (by assumption) ?_
                try simp only [Act.put, List.setIfInBounds_toArray, List.set_cons_zero, List.set_cons_succ]
                refine regH_skip 9 84 rfl rfl (by kernel_rfl) (by kernel_rfl) (by kernel_rfl) (fun _ _ _ h => h) (by rfl) (by assumption) ?_
                try simp only [Act.put, List.setIfInBounds_toArray, List.set_cons_zero, List.set_cons_succ]
                refine regH_skip 10 85 rfl rfl (by kernel_rfl) (by kernel_rfl) (by kernel_rfl) (fun _ _ _ h => h) (by rfl) (by assumption) ?_
                try simp only [Act.put, List.setIfInBounds_toArray, List.set_cons_zero, List.set_cons_succ]
                refine regH_skip 11 86 rfl rfl (by kernel_rfl) (by kernel_rfl) (by kernel_rfl) (fun _ _ _ h => h) (by rfl) (by assumption) ?_
                try simp only [Act.put, List.setIfInBounds_toArray, List.set_cons_zero, List.set_cons_succ]
                refine regH_skip 12 87 rfl rfl (by kernel_rfl) (by kernel_rfl) (by kernel_rfl) (fun _ _ _ h => h) (by rfl) (by assumption) ?_
                try simp only [Act.put, List.setIfInBounds_toArray, List.set_cons_zero, List.set_cons_succ]
                refine regH_skip 13 88 rfl rfl (by kernel_rfl) (by kernel_rfl) (by kernel_rfl) (fun _ _ _ h => h) (by rfl) (by assumption) ?_
                try simp only [Act.put, List.setIfInBounds_toArray, List.set_cons_zero, List.set_cons_succ]
                refine regH_skip 14 89 rfl rfl (by kernel_rfl) (by kernel_rfl) (by kernel_rfl) (fun _ _ _ h => h) (by rfl) (by assumption) ?_
                try simp only [Act.put, List.setIfInBounds_toArray, List.set_cons_zero, List.set_cons_succ]
                refine regH_skip 15 90 rfl rfl (by kernel_rfl) (by kernel_rfl) (by kernel_rfl) (fun _ _ _ h => h) (by rfl) (by assumption) ?_
                try simp only [Act.put, List.setIfInBounds_toArray, List.set_cons_zero, List.set_cons_succ]
                refine regH_take 16 91 (v := ?_) rfl rfl (by kernel_rfl) (by kernel_rfl) (by kernel_rfl) (fun _ _ _ h => h) (by rfl) (by assumption) ?_ ?_
                rotate_left
                · (intro w hSw; (try dsimp only at hSw); go_simp); try (with_reducible rfl)
                try simp only [Act.put, List.setIfInBounds_toArray, List.set_cons_zero, List.set_cons_succ]
                refine wpAnyH_done (by kernel_rfl) ?_ _
                obtain ⟨⟨a1, a2, a3⟩, ⟨a4, a5, a6⟩, a7, a8, a9⟩ := HCL.out _ HME.out
                go_wp2_with fail
                go_ret
                exact ⟨rfl, HK.out.then HME.out⟩
              · have e5 : eqZ now z = true := (eqZ_iff _ _).2 h3
                have h1' : withinN (bys n) (bys z.name) = true := h1
                rw [h1'] at HWZ
                rw [e5] at hq4
                rw [h2]
                clear h1 h2 h1' h3 e5 hq5 HCS hlt
                go_wp2_with fail
                refine wp_region_held_drew (S := (fun w' => w'.cell? ⟨w.heap.size, 0, none⟩ = some (.string z.name) ∧ w'.cell? ⟨w6.heap.size, 0, none⟩ = some (.string was.name))) (by kernel_rfl) ?_ (fun hHeld => ?_)
                · (try dsimp only); first | exact HSK.out _ HME.out | exact HSK.out _ ((Mod.refl _ _).drew)
                refine regH_take 0 75 (v := ?_) rfl rfl (by kernel_rfl) (by kernel_rfl) (by kernel_rfl) (fun _ _ _ h => h) (by rfl) (by assumption) ?_ ?_
                rotate_left
                · (intro w hSw; (try dsimp only at hSw); go_simp); try (with_reducible rfl)
                try simp only [Act.put, List.setIfInBounds_toArray, List.set_cons_zero, List.set_cons_succ]
                refine regH_take 1 76 (v := ?_) rfl rfl (by kernel_rfl) (by kernel_rfl) (by kernel_rfl) (fun _ _ _ h => h) (by rfl) (by assumption) ?_ ?_
                rotate_left
                · (intro w hSw; (try dsimp only at hSw); go_simp); try (with_reducible rfl)
                try simp only [Act.put, List.setIfInBounds_toArray, List.set_cons_zero, List.set_cons_succ]
                refine regH_take 2 77 (v := ?_) rfl rfl (by kernel_rfl) (by kernel_rfl) (by kernel_rfl) (fun _ _ _ h => h) (by rfl) (by assumption) ?_ ?_
                rotate_left
                · (intro w hSw; (try dsimp only at hSw); go_simp); try (with_reducible rfl)
                try simp only [Act.put, List.setIfInBounds_toArray, List.set_cons_zero, List.set_cons_succ]
                refine wpAnyH_ready (rs := [3]) (by kernel_rfl) (by simp) ?_
                refine AllReadyH.cons rfl (fun K hK => ?_) AllReadyH.nil
                go_simp
                (refine (HWZ.out _).mono ?_; rintro e wa ⟨rfl, ma⟩; have HME := Lib.hid (((Mod.refl (fun _ => False) wr).drew).then ma); clear ma)
                try (go_wp2_with fail)
                refine hK.out _ _ ?_ (fun hHeld => ?_)
                · (try dsimp only); first | exact HSK.out _ HME.out | exact HSK.out _ ((Mod.refl _ _).drew)
                clear hK K
                try simp only [Act.put, List.setIfInBounds_toArray, List.set_cons_zero, List.set_cons_succ]
                refine regH_take 4 79 (v := ?_) rfl rfl (by kernel_rfl) (by kernel_rfl) (by kernel_rfl) (fun _ _ _ h => h) (by rfl) (by assumption) ?_ ?_
                rotate_left
                · (intro w hSw; (try dsimp only at hSw); go_simp); try (with_reducible rfl)
                try simp only [Act.put, List.setIfInBounds_toArray, List.set_cons_zero, List.set_cons_succ]
                refine regH_take 5 80 (v := ?_) rfl rfl (by kernel_rfl) (by kernel_rfl) (by kernel_rfl) (fun _ _ _ h => h) (by rfl) (by assumption) ?_ ?_
                rotate_left
                · (intro w hSw; (try dsimp only at hSw); go_simp); try (with_reducible rfl)
                try simp only [Act.put, List.setIfInBounds_toArray, List.set_cons_zero, List.set_cons_succ]
                refine regH_take 6 81 (v := ?_) rfl rfl (by kernel_rfl) (by kernel_rfl) (by kernel_rfl) (fun _ _ _ h => h) (by rfl) (by assumption) ?_ ?_
                rotate_left
                · (intro w hSw; (try dsimp only at hSw); go_simp); try (with_reducible rfl)
                try simp only [Act.put, List.setIfInBounds_toArray, List.set_cons_zero, List.set_cons_succ]
                refine regH_take 7 82 (v := ?_) rfl rfl (by kernel_rfl) (by kernel_rfl) (by kernel_rfl) (fun _ _ _ h => h) (by rfl) (by assumption) ?_ ?_
                rotate_left
                · (intro w hSw; (try dsimp only at hSw); go_simp); try (with_reducible rfl)
                try simp only [Act.put, List.setIfInBounds_toArray, List.set_cons_zero, List.set_cons_succ]
                refine regH_skip 8 83 rfl rfl (by kernel_rfl) (by kernel_rfl) (by kernel_rfl) (fun _ _ _ h => h) (by rfl) (by assumption) ?_
                try simp only [Act.put, List.setIfInBounds_toArray, List.set_cons_zero, List.set_cons_succ]
                refine regH_skip 9 84 rfl rfl (by kernel_rfl) (by kernel_rfl) (by kernel_rfl) (fun _ _ _ h => h) (by rfl) (by assumption) ?_
                try simp only [Act.put, List.setIfInBounds_toArray, List.set_cons_zero, List.set_cons_succ]
                refine regH_skip 10 85 rfl rfl (by kernel_rfl) (by kernel_rfl) (by kernel_rfl) (fun _ _ _ h => h) (by rfl) (by assumption) ?_
                try simp only [Act.put, List.setIfInBounds_toArray, List.set_cons_zero, List.set_cons_succ]
                refine regH_skip 11 86 rfl rfl (by kernel_rfl) (by kernel_rfl) (by kernel_rfl) (fun _ _ _ h => h) (by rfl) (by assumption) ?_
                try simp only [Act.put, List.setIfInBounds_toArray, List.set_cons_zero, List.set_cons_succ]
                refine regH_skip 12 87 rfl rfl (by kernel_rfl) (by kernel_rfl) (by kernel_rfl) (fun _ _ _ h => h) (by rfl) (by assumption) ?_
                try simp only [Act.put, List.setIfInBounds_toArray, List.set_cons_zero, List.set_cons_succ]
                refine regH_skip 13 88 rfl rfl (by kernel_rfl) (by kernel_rfl) (by kernel_rfl) (fun _ _ _ h => h) (by rfl) (by assumption) ?_
                try simp only [Act.put, List.setIfInBounds_toArray, List.set_cons_zero, List.set_cons_succ]
                refine regH_skip 14 89 rfl rfl (by kernel_rfl) (by kernel_rfl) (by kernel_rfl) (fun _ _ _ h => h) (by rfl) (by assumption) ?_
                try simp only [Act.put, List.setIfInBounds_toArray, List.set_cons_zero, List.set_cons_succ]
                refine regH_take 15 90 (v := ?_) rfl rfl (by kernel_rfl) (by kernel_rfl) (by kernel_rfl) (fun _ _ _ h => h) (by rfl) (by assumption) ?_ ?_
                rotate_left
                · (intro w hSw; (try dsimp only at hSw); go_simp); try (with_reducible rfl)
                try simp only [Act.put, List.setIfInBounds_toArray, List.set_cons_zero, List.set_cons_succ]
                refine regH_take 16 91 (v := ?_) rfl rfl (by kernel_rfl) (by kernel_rfl) (by kernel_rfl) (fun _ _ _ h => h) (by rfl) (by assumption) ?_ ?_
                rotate_left
                · (intro w hSw; (try dsimp only at hSw); go_simp); try (with_reducible rfl)
                try simp only [Act.put, List.setIfInBounds_toArray, List.set_cons_zero, List.set_cons_succ]
                refine wpAnyH_done (by kernel_rfl) ?_ _
                obtain ⟨⟨a1, a2, a3⟩, ⟨a4, a5, a6⟩, a7, a8, a9⟩ := HCL.out _ HME.out
                go_wp2_with fail
                go_ret
                exact ⟨rfl, HK.out.then HME.out⟩
              · have e5 : eqZ now z = true := (eqZ_iff _ _).2 h4
                have h1' : withinN (bys n) (bys z.name) = true := h1
                have i5 : (labK was.name : Int) < (labK z.name : Int) := by omega
                have n5 := h3
                rw [h1'] at HWZ
                rw [e5] at hq4
                rw [h2]
                clear h1 h2 h1' h3 h4 e5 hq5 HCS hlt
                go_wp2_with fail
                refine wp_region_held_drew (S := (fun w' => w'.cell? ⟨w.heap.size, 0, none⟩ = some (.string z.name) ∧ w'.cell? ⟨w6.heap.size, 0, none⟩ = some (.string was.name))) (by kernel_rfl) ?_ (fun hHeld => ?_)
                · (try dsimp only); first | exact HSK.out _ HME.out | exact HSK.out _ ((Mod.refl _ _).drew)
                refine regH_take 0 75 (v := ?_) rfl rfl (by kernel_rfl) (by kernel_rfl) (by kernel_rfl) (fun _ _ _ h => h) (by rfl) (by assumption) ?_ ?_
                rotate_left
                · (intro w hSw; (try dsimp only at hSw); go_simp); try (with_reducible rfl)
                try simp only [Act.put, List.setIfInBounds_toArray, List.set_cons_zero, List.set_cons_succ]
                refine regH_take 1 76 (v := ?_) rfl rfl (by kernel_rfl) (by kernel_rfl) (by kernel_rfl) (fun _ _ _ h => h) (by rfl) (by assumption) ?_ ?_
                rotate_left
                · (intro w hSw; (try dsimp only at hSw); go_simp); try (with_reducible rfl)
                try simp only [Act.put, List.setIfInBounds_toArray, List.set_cons_zero, List.set_cons_succ]
                refine regH_take 2 77 (v := ?_) rfl rfl (by kernel_rfl) (by kernel_rfl) (by kernel_rfl) (fun _ _ _ h => h) (by rfl) (by assumption) ?_ ?_
                rotate_left
                · (intro w hSw; (try dsimp only at hSw); go_simp); try (with_reducible rfl)
                try simp only [Act.put, List.setIfInBounds_toArray, List.set_cons_zero, List.set_cons_succ]
                refine wpAnyH_ready (rs := [3]) (by kernel_rfl) (by simp) ?_
                refine AllReadyH.cons rfl (fun K hK => ?_) AllReadyH.nil
                go_simp
                (refine (HWZ.out _).mono ?_; rintro e wa ⟨rfl, ma⟩; have HME := Lib.hid (((Mod.refl (fun _ => False) wr).drew).then ma); clear ma)
                try (go_wp2_with fail)
                refine hK.out _ _ ?_ (fun hHeld => ?_)
                · (try dsimp only); first | exact HSK.out _ HME.out | exact HSK.out _ ((Mod.refl _ _).drew)
                clear hK K
                try simp only [Act.put, List.setIfInBounds_toArray, List.set_cons_zero, List.set_cons_succ]
                refine regH_take 4 79 (v := ?_) rfl rfl (by kernel_rfl) (by kernel_rfl) (by kernel_rfl) (fun _ _ _ h => h) (by rfl) (by assumption) ?_ ?_
                rotate_left
                · (intro w hSw; (try dsimp only at hSw); go_simp); try (with_reducible rfl)
                try simp only [Act.put, List.setIfInBounds_toArray, List.set_cons_zero, List.set_cons_succ]
                refine regH_take 5 80 (v := ?_) rfl rfl (by kernel_rfl) (by kernel_rfl) (by kernel_rfl) (fun _ _ _ h => h) (by rfl) (by assumption) ?_ ?_
                rotate_left
                · (intro w hSw; (try dsimp only at hSw); go_simp); try (with_reducible rfl)
                try simp only [Act.put, List.setIfInBounds_toArray, List.set_cons_zero, List.set_cons_succ]
                refine regH_take 6 81 (v := ?_) rfl rfl (by kernel_rfl) (by kernel_rfl) (by kernel_rfl) (fun _ _ _ h => h) (by rfl) (by assumption) ?_ ?_
                rotate_left
                · (intro w hSw; (try dsimp only at hSw); go_simp); try (with_reducible rfl)
                try simp only [Act.put, List.setIfInBounds_toArray, List.set_cons_zero, List.set_cons_succ]
                refine regH_take 7 82 (v := ?_) rfl rfl (by kernel_rfl) (by kernel_rfl) (by kernel_rfl) (fun _ _ _ h => h) (by rfl) (by assumption) ?_ ?_
                rotate_left
                · (intro w hSw; (try dsimp only at hSw); go_simp); try (with_reducible rfl)
                try simp only [Act.put, List.setIfInBounds_toArray, List.set_cons_zero, List.set_cons_succ]
                refine regH_take 8 83 (v := ?_) rfl rfl (by kernel_rfl) (by kernel_rfl) (by kernel_rfl) (fun _ _ _ h => h) (by rfl) (by assumption) ?_ ?_
                rotate_left
                · (intro w hSw; (try dsimp only at hSw); go_simp); try (with_reducible rfl)
                try simp only [Act.put, List.setIfInBounds_toArray, List.set_cons_zero, List.set_cons_succ]
                refine regH_take 9 84 (v := ?_) rfl rfl (by kernel_rfl) (by kernel_rfl) (by kernel_rfl) (fun _ _ _ h => h) (by rfl) (by assumption) ?_ ?_
                rotate_left
                · (intro w hSw; (try dsimp only at hSw); go_simp); try (with_reducible rfl)
                try simp only [Act.put, List.setIfInBounds_toArray, List.set_cons_zero, List.set_cons_succ]
                refine regH_take 11 86 (v := ?_) rfl rfl (by kernel_rfl) (by kernel_rfl) (by kernel_rfl) (fun _ _ _ h => h) (by rfl) (by assumption) ?_ ?_
                rotate_left
                · (intro w hSw; (try dsimp only at hSw); go_simp); try (with_reducible rfl)
                try simp only [Act.put, List.setIfInBounds_toArray, List.set_cons_zero, List.set_cons_succ]
                refine regH_take 12 87 (v := ?_) rfl rfl (by kernel_rfl) (by kernel_rfl) (by kernel_rfl) (fun _ _ _ h => h) (by rfl) (by assumption) ?_ ?_
                rotate_left
                · (intro w hSw; (try dsimp only at hSw); go_simp); try (with_reducible rfl)
                try simp only [Act.put, List.setIfInBounds_toArray, List.set_cons_zero, List.set_cons_succ]
                refine wpAnyH_ready (rs := [10]) (by kernel_rfl) (by simp) ?_
                refine AllReadyH.cons rfl (fun K hK => ?_) AllReadyH.nil
                go_simp
                (refine (HLZ.out _).mono ?_; rintro e wb ⟨rfl, mb⟩; replace HME := Lib.hid (HME.out.then mb); clear mb)
                try (go_wp2_with fail)
                refine hK.out _ _ ?_ (fun hHeld => ?_)
                · (try dsimp only); first | exact HSK.out _ HME.out | exact HSK.out _ ((Mod.refl _ _).drew)
                clear hK K
                try simp only [Act.put, List.setIfInBounds_toArray, List.set_cons_zero, List.set_cons_succ]
                refine wpAnyH_ready (rs := [13]) (by kernel_rfl) (by simp) ?_
                refine AllReadyH.cons rfl (fun K hK => ?_) AllReadyH.nil
                go_simp
                (refine (HLW.out _).mono ?_; rintro e wc ⟨rfl, mc⟩; replace HME := Lib.hid (HME.out.then mc); clear mc)
                try (go_wp2_with fail)
                refine hK.out _ _ ?_ (fun hHeld => ?_)
                · (try dsimp only); first | exact HSK.out _ HME.out | exact HSK.out _ ((Mod.refl _ _).drew)
                clear hK K
                try simp only [Act.put, List.setIfInBounds_toArray, List.set_cons_zero, List.set_cons_succ]
                refine regH_take 14 89 (v := ?_) rfl rfl (by kernel_rfl) (by kernel_rfl) (by kernel_rfl) (fun _ _ _ h => h) (by rfl) (by assumption) ?_ ?_
                rotate_left
                · (intro w hSw; (try dsimp only at hSw); go_simp); try (with_reducible rfl)
                try simp only [Act.put, List.setIfInBounds_toArray, List.set_cons_zero, List.set_cons_succ]
                refine regH_take 15 90 (v := ?_) rfl rfl (by kernel_rfl) (by kernel_rfl) (by kernel_rfl) (fun _ _ _ h => h) (by rfl) (by assumption) ?_ ?_
                rotate_left
                · (intro w hSw; (try dsimp only at hSw); go_simp); try (with_reducible rfl)
                try simp only [Act.put, List.setIfInBounds_toArray, List.set_cons_zero, List.set_cons_succ]
                refine regH_take 16 91 (v := ?_) rfl rfl (by kernel_rfl) (by kernel_rfl) (by kernel_rfl) (fun _ _ _ h => h) (by rfl) (by assumption) ?_ ?_
                rotate_left
                · (intro w hSw; (try dsimp only at hSw); go_simp); try (with_reducible rfl)
                try simp only [Act.put, List.setIfInBounds_toArray, List.set_cons_zero, List.set_cons_succ]
                refine wpAnyH_done (by kernel_rfl) ?_ _
                obtain ⟨⟨a1, a2, a3⟩, ⟨a4, a5, a6⟩, a7, a8, a9⟩ := HCL.out _ HME.out
                go_wp2_with fail
                go_ret
                exact ⟨rfl, HK.out.then HME.out⟩
              · have e5 : eqZ now was = true := (eqZ_iff _ _).2 h4
                have h1' : withinN (bys n) (bys z.name) = true := h1
                have i5 : (labK z.name : Int) ≤ (labK was.name : Int) := by omega
                have n5 : labK z.name ≤ labK was.name := by omega
                rw [h1'] at HWZ
                rw [e5] at hq5
                rw [h2]
                clear h1 h2 h1' h3 h4 e5 hq4 HCS hlt
                go_wp2_with fail
                refine wp_region_held_drew (S := (fun w' => w'.cell? ⟨w.heap.size, 0, none⟩ = some (.string z.name) ∧ w'.cell? ⟨w6.heap.size, 0, none⟩ = some (.string was.name))) (by kernel_rfl) ?_ (fun hHeld => ?_)
                · (try dsimp only); first | exact HSK.out _ HME.out | exact HSK.out _ ((Mod.refl _ _).drew)
                refine regH_take 0 75 (v := ?_) rfl rfl (by kernel_rfl) (by kernel_rfl) (by kernel_rfl) (fun _ _ _ h => h) (by rfl) (by assumption) ?_ ?_
                rotate_left
                · (intro w hSw; (try dsimp only at hSw); go_simp); try (with_reducible rfl)
                try simp only [Act.put, List.setIfInBounds_toArray, List.set_cons_zero, List.set_cons_succ]
                refine regH_take 1 76 (v := ?_) rfl rfl (by kernel_rfl) (by kernel_rfl) (by kernel_rfl) (fun _ _ _ h => h) (by rfl) (by assumption) ?_ ?_
                rotate_left
                · (intro w hSw; (try dsimp only at hSw); go_simp); try (with_reducible rfl)
                try simp only [Act.put, List.setIfInBounds_toArray, List.set_cons_zero, List.set_cons_succ]
                refine regH_take 2 77 (v := ?_) rfl rfl (by kernel_rfl) (by kernel_rfl) (by kernel_rfl) (fun _ _ _ h => h) (by rfl) (by assumption) ?_ ?_
                rotate_left
                · (intro w hSw; (try dsimp only at hSw); go_simp); try (with_reducible rfl)
                try simp only [Act.put, List.setIfInBounds_toArray, List.set_cons_zero, List.set_cons_succ]
                refine wpAnyH_ready (rs := [3]) (by kernel_rfl) (by simp) ?_
                refine AllReadyH.cons rfl (fun K hK => ?_) AllReadyH.nil
                go_simp
                (refine (HWZ.out _).mono ?_; rintro e wa ⟨rfl, ma⟩; have HME := Lib.hid (((Mod.refl (fun _ => False) wr).drew).then ma); clear ma)
                try (go_wp2_with fail)
                refine hK.out _ _ ?_ (fun hHeld => ?_)
                · (try dsimp only); first | exact HSK.out _ HME.out | exact HSK.out _ ((Mod.refl _ _).drew)
                clear hK K
                try simp only [Act.put, List.setIfInBounds_toArray, List.set_cons_zero, List.set_cons_succ]
                refine regH_take 4 79 (v := ?_) rfl rfl (by kernel_rfl) (by kernel_rfl) (by kernel_rfl) (fun _ _ _ h => h) (by rfl) (by assumption) ?_ ?_
                rotate_left
                · (intro w hSw; (try dsimp only at hSw); go_simp); try (with_reducible rfl)
                try simp only [Act.put, List.setIfInBounds_toArray, List.set_cons_zero, List.set_cons_succ]
                refine regH_take 5 80 (v := ?_) rfl rfl (by kernel_rfl) (by kernel_rfl) (by kernel_rfl) (fun _ _ _ h => h) (by rfl) (by assumption) ?_ ?_
                rotate_left
                · (intro w hSw; (try dsimp only at hSw); go_simp); try (with_reducible rfl)
                try simp only [Act.put, List.setIfInBounds_toArray, List.set_cons_zero, List.set_cons_succ]
                refine regH_take 6 81 (v := ?_) rfl rfl (by kernel_rfl) (by kernel_rfl) (by kernel_rfl) (fun _ _ _ h => h) (by rfl) (by assumption) ?_ ?_
                rotate_left
                · (intro w hSw; (try dsimp only at hSw); go_simp); try (with_reducible rfl)
                try simp only [Act.put, List.setIfInBounds_toArray, List.set_cons_zero, List.set_cons_succ]
                refine regH_take 7 82 (v := ?_) rfl rfl (by kernel_rfl) (by kernel_rfl) (by kernel_rfl) (fun _ _ _ h => h) (by rfl) (by assumption) ?_ ?_
                rotate_left
                · (intro w hSw; (try dsimp only at hSw); go_simp); try (with_reducible rfl)
                try simp only [Act.put, List.setIfInBounds_toArray, List.set_cons_zero, List.set_cons_succ]
                refine regH_take 8 83 (v := ?_) rfl rfl (by kernel_rfl) (by kernel_rfl) (by kernel_rfl) (fun _ _ _ h => h) (by rfl) (by assumption) ?_ ?_
                rotate_left
                · (intro w hSw; (try dsimp only at hSw); go_simp); try (with_reducible rfl)
                try simp only [Act.put, List.setIfInBounds_toArray, List.set_cons_zero, List.set_cons_succ]
                refine regH_take 9 84 (v := ?_) rfl rfl (by kernel_rfl) (by kernel_rfl) (by kernel_rfl) (fun _ _ _ h => h) (by rfl) (by assumption) ?_ ?_
                rotate_left
                · (intro w hSw; (try dsimp only at hSw); go_simp); try (with_reducible rfl)
                try simp only [Act.put, List.setIfInBounds_toArray, List.set_cons_zero, List.set_cons_succ]
                refine regH_take 11 86 (v := ?_) rfl rfl (by kernel_rfl) (by kernel_rfl) (by kernel_rfl) (fun _ _ _ h => h) (by rfl) (by assumption) ?_ ?_
                rotate_left
                · (intro w hSw; (try dsimp only at hSw); go_simp); try (with_reducible rfl)
                try simp only [Act.put, List.setIfInBounds_toArray, List.set_cons_zero, List.set_cons_succ]
                refine regH_take 12 87 (v := ?_) rfl rfl (by kernel_rfl) (by kernel_rfl) (by kernel_rfl) (fun _ _ _ h => h) (by rfl) (by assumption) ?_ ?_
                rotate_left
                · (intro w hSw; (try dsimp only at hSw); go_simp); try (with_reducible rfl)
                try simp only [Act.put, List.setIfInBounds_toArray, List.set_cons_zero, List.set_cons_succ]
                refine wpAnyH_ready (rs := [10]) (by kernel_rfl) (by simp) ?_
                refine AllReadyH.cons rfl (fun K hK => ?_) AllReadyH.nil
                go_simp
                (refine (HLZ.out _).mono ?_; rintro e wb ⟨rfl, mb⟩; replace HME := Lib.hid (HME.out.then mb); clear mb)
                try (go_wp2_with fail)
                refine hK.out _ _ ?_ (fun hHeld => ?_)
                · (try dsimp only); first | exact HSK.out _ HME.out | exact HSK.out _ ((Mod.refl _ _).drew)
                clear hK K
                try simp only [Act.put, List.setIfInBounds_toArray, List.set_cons_zero, List.set_cons_succ]
                refine wpAnyH_ready (rs := [13]) (by kernel_rfl) (by simp) ?_
                refine AllReadyH.cons rfl (fun K hK => ?_) AllReadyH.nil
                go_simp
                (refine (HLW.out _).mono ?_; rintro e wc ⟨rfl, mc⟩; replace HME := Lib.hid (HME.out.then mc); clear mc)
                try (go_wp2_with fail)
                refine hK.out _ _ ?_ (fun hHeld => ?_)
                · (try dsimp only); first | exact HSK.out _ HME.out | exact HSK.out _ ((Mod.refl _ _).drew)
                clear hK K
                try simp only [Act.put, List.setIfInBounds_toArray, List.set_cons_zero, List.set_cons_succ]
                refine regH_take 14 89 (v := ?_) rfl rfl (by kernel_rfl) (by kernel_rfl) (by kernel_rfl) (fun _ _ _ h => h) (by rfl) (by assumption) ?_ ?_
                rotate_left
                · (intro w hSw; (try dsimp only at hSw); go_simp); try (with_reducible rfl)
                try simp only [Act.put, List.setIfInBounds_toArray, List.set_cons_zero, List.set_cons_succ]
                refine regH_take 15 90 (v := ?_) rfl rfl (by kernel_rfl) (by kernel_rfl) (by kernel_rfl) (fun _ _ _ h => h) (by rfl) (by assumption) ?_ ?_
                rotate_left
                · (intro w hSw; (try dsimp only at hSw); go_simp); try (with_reducible rfl)
                try simp only [Act.put, List.setIfInBounds_toArray, List.set_cons_zero, List.set_cons_succ]
                refine regH_take 16 91 (v := ?_) rfl rfl (by kernel_rfl) (by kernel_rfl) (by kernel_rfl) (fun _ _ _ h => h) (by rfl) (by assumption) ?_ ?_
                rotate_left
                · (intro w hSw; (try dsimp only at hSw); go_simp); try (with_reducible rfl)
                try simp only [Act.put, List.setIfInBounds_toArray, List.set_cons_zero, List.set_cons_succ]
                refine wpAnyH_done (by kernel_rfl) ?_ _
                obtain ⟨⟨a1, a2, a3⟩, ⟨a4, a5, a6⟩, a7, a8, a9⟩ := HCL.out _ HME.out
                go_wp2_with fail
                go_ret
                exact ⟨rfl, HK.out.then HME.out⟩
      · have b1n : (newE (l ++ [z]) != 0) = true := by simpa using hf
        have HBD := Lib.hid hf
        clear hf
        go_wp2_with fail
        refine wp_region_held_drew (S := (fun w' => w'.cell? ⟨w.heap.size, 0, none⟩ = some (.string z.name) ∧ w'.cell? ⟨w.heap.size, 1, none⟩ = some (.int .u8 z.pol) ∧ w'.cell? ⟨w.heap.size, 2, none⟩ = some (.int .u16 z.tr))) (by kernel_rfl) ?_ (fun hHeld => ?_)
        · (try dsimp only); exact HSK.out _ ((Mod.refl _ _).drew)
        refine regH_take 1 33 (v := ?_) rfl rfl (by kernel_rfl) (by kernel_rfl) (by kernel_rfl) (fun _ _ _ h => h) (by rfl) (by assumption) ?_ ?_
        rotate_left
        · (intro w hSw; (try dsimp only at hSw); go_simp); try (with_reducible rfl)
        try simp only [Act.put, List.setIfInBounds_toArray, List.set_cons_zero, List.set_cons_succ]
        refine regH_take 3 35 (v := ?_) rfl rfl (by kernel_rfl) (by kernel_rfl) (by kernel_rfl) (fun _ _ _ h => h) (by rfl) (by assumption) ?_ ?_
        rotate_left
        · (intro w hSw; (try dsimp only at hSw); go_simp); try (with_reducible rfl)
        try simp only [Act.put, List.setIfInBounds_toArray, List.set_cons_zero, List.set_cons_succ]
        refine wpAnyH_ready (rs := [0, 4]) (by kernel_rfl) (by simp) ?_
        refine AllReadyH.cons rfl (fun K hK => ?_) (AllReadyH.cons rfl (fun K hK => ?_) AllReadyH.nil)
        · go_simp
          refine hK.out _ _ ?_ (fun hHeld => ?_)
          · (try dsimp only); exact HSK.out _ (((Mod.refl _ _).alloc _).drew)
          clear hK K
          try simp only [Act.put, List.setIfInBounds_toArray, List.set_cons_zero, List.set_cons_succ]
          refine at_world (P := wpAnyH _ _ _ _ _ _ _ _) (fun W => W.ownsRow w3.heap.size 35 3 (.slice (some ⟨w3.heap.size, 0, none⟩) 0 0) 0 [] ∧ Kept w3 W ∧ w3.heap.size < W.heap.size ∧ Kept w3 W) ⟨own_kept (made0 w3) ((Mod.refl _ _).drew), ((Mod.refl _ _).alloc _).drew, by simp, ((Mod.refl _ _).alloc _).drew⟩ ?_
          rintro W1 ⟨ho1, _, hlt1, hk1⟩
          have hHeld := HSK.out W1 hk1
          refine wpAnyH_ready (rs := [2, 4]) (by kernel_rfl) (by simp) ?_
          refine AllReadyH.cons rfl (fun K hK => ?_) (AllReadyH.cons rfl (fun K hK => ?_) AllReadyH.nil)
          · refine step_append_rd 22 35 3 24 elem_zone (.tmp 32) (.tmp 33) rfl rfl w3.heap.size (.slice (some ⟨w3.heap.size, 0, none⟩) 0 0) 0 _ rfl ho1 (.slice A l.length c) l.length (zC l) rfl (HRV.out.kept hk1) (one_zC _) (by unfold maxLen; omega) (by omega) hk1.size ?_
            intro A5 c5 w5 ho5 hm5 _
            rw [Nat.zero_add, List.nil_append] at ho5
            rw [Nat.zero_add]
            have hk5 : Kept w3 w5 := Mod.trans hk1 hm5 (fun k hk e => by have := (ho1.lt k e).1; omega)
            refine hK.out _ _ ?_ (fun hHeld => ?_)
            · (try dsimp only); exact HSK.out _ hk5
            clear hK K
            try simp only [Act.put, List.setIfInBounds_toArray, List.set_cons_zero, List.set_cons_succ]
            refine wpAnyH_ready (rs := [4]) (by kernel_rfl) (by simp) ?_
            refine AllReadyH.cons rfl (fun K hK => ?_) AllReadyH.nil
            go_simp
            refine hK.out _ _ ?_ (fun hHeld => ?_)
            · (try dsimp only); exact HSK.out _ (hk5.alloc _)
            clear hK K
            try simp only [Act.put, List.setIfInBounds_toArray, List.set_cons_zero, List.set_cons_succ]
            refine at_world (P := wpAnyH _ _ _ _ _ _ _ _) (fun W => W.ownsRow w3.heap.size 35 3 (.slice A5 l.length c5) l.length (zC l) ∧ Rd W 3 (.slice (some ⟨w5.heap.size, 0, none⟩) 1 1) 1 (zC [z]) ∧ Kept w3 W) ⟨own_kept ho5 ((Mod.refl _ _).alloc _), lit3 w5 z, hk5.alloc _⟩ ?_
            rintro W6 ⟨ho6, hr6, hk6⟩
            have hHeld := HSK.out W6 hk6
            refine wpAnyH_ready (rs := [5]) (by kernel_rfl) (by simp) ?_
            refine AllReadyH.cons rfl (fun K hK => ?_) AllReadyH.nil
            refine step_append_rd 22 35 3 24 elem_zone (.tmp 34) (.tmp 36) rfl rfl w3.heap.size (.slice A5 l.length c5) l.length _ rfl ho6 (.slice (some ⟨w5.heap.size, 0, none⟩) 1 1) 1 (zC [z]) rfl hr6 (one_zC _) (by unfold maxLen; omega) (by omega) hk6.size ?_
            intro A7 c7 w7 ho7 hm7 _
            have hk7 : Kept w3 w7 := Mod.trans hk6 hm7 (fun k hk e => by have := (ho6.lt k e).1; omega)
            have hrz : RdZ w7 (.slice A7 (l.length + 1) c7) (l ++ [z]) := by
              have h := Rd.of_own ho7
              unfold RdZ
              rw [List.length_append, show zC (l ++ [z]) = zC l ++ zC [z] by simp [zC]]
              exact h
            refine hK.out _ _ ?_ (fun hHeld => ?_)
            · (try dsimp only); exact HSK.out _ hk7
            clear hK K
            try simp only [Act.put, List.setIfInBounds_toArray, List.set_cons_zero, List.set_cons_succ]
            refine wpAnyH_ready (rs := [6]) (by kernel_rfl) (by simp) ?_
            refine AllReadyH.cons rfl (fun K hK => ?_) AllReadyH.nil
            go_simp
            refine (new_any _ (l ++ [z]) HNL.out.2 HNL.out.1 _ hrz).mono ?_
            intro e w8 h8
            obtain ⟨k8, rfl⟩ := h8.bad rfl HBD.out
            have hk8 := hk7.then k8
            try (go_wp2_with fail)
            refine hK.out _ _ ?_ (fun hHeld => ?_)
            · (try dsimp only); exact HSK.out _ hk8
            clear hK K
            try simp only [Act.put, List.setIfInBounds_toArray, List.set_cons_zero, List.set_cons_succ]
            refine regH_take 7 31 (v := ?_) rfl rfl (by kernel_rfl) (by kernel_rfl) (by kernel_rfl) (fun _ _ _ h => h) (by rfl) (by assumption) ?_ ?_
            rotate_left
            · (intro w hSw; (try dsimp only at hSw); go_simp); try (with_reducible rfl)
            try simp only [Act.put, List.setIfInBounds_toArray, List.set_cons_zero, List.set_cons_succ]
            refine regH_take 8 39 (v := ?_) rfl rfl (by kernel_rfl) (by kernel_rfl) (by kernel_rfl) (fun _ _ _ h => h) (by rfl) (by assumption) ?_ ?_
            rotate_left
            · (intro w hSw; (try dsimp only at hSw); go_simp); try (with_reducible rfl)
            try simp only [Act.put, List.setIfInBounds_toArray, List.set_cons_zero, List.set_cons_succ]
            refine regH_take 9 40 (v := ?_) rfl rfl (by kernel_rfl) (by kernel_rfl) (by kernel_rfl) (fun _ _ _ h => h) (by rfl) (by assumption) ?_ ?_
            rotate_left
            · (intro w hSw; (try dsimp only at hSw); go_simp); try (with_reducible rfl)
            try simp only [Act.put, List.setIfInBounds_toArray, List.set_cons_zero, List.set_cons_succ]
            refine regH_take 10 9 (v := ?_) rfl rfl (by kernel_rfl) (by kernel_rfl) (by kernel_rfl) (fun _ _ _ h => h) (by rfl) (by assumption) ?_ ?_
            rotate_left
            · (intro w hSw; (try dsimp only at hSw); go_simp); try (with_reducible rfl)
            try simp only [Act.put, List.setIfInBounds_toArray, List.set_cons_zero, List.set_cons_succ]
            refine regH_take 11 10 (v := ?_) rfl rfl (by kernel_rfl) (by kernel_rfl) (by kernel_rfl) (fun _ _ _ h => h) (by rfl) (by assumption) ?_ ?_
            rotate_left
            · (intro w hSw; (try dsimp only at hSw); go_simp); try (with_reducible rfl)
            try simp only [Act.put, List.setIfInBounds_toArray, List.set_cons_zero, List.set_cons_succ]
            refine wpAnyH_done (by kernel_rfl) ?_ _
            have HKE := Lib.hid (HK3.out.then hk8)
            go_wp2_with fail
            go_ret
            exact ⟨rfl, HKE.out⟩
          · go_simp
            refine hK.out _ _ ?_ (fun hHeld => ?_)
            · (try dsimp only); exact HSK.out _ (hk1.alloc _)
            clear hK K
            try simp only [Act.put, List.setIfInBounds_toArray, List.set_cons_zero, List.set_cons_succ]
            refine at_world (P := wpAnyH _ _ _ _ _ _ _ _) (fun W => W.ownsRow w3.heap.size 35 3 (.slice (some ⟨w3.heap.size, 0, none⟩) 0 0) 0 [] ∧ Rd W 3 (.slice (some ⟨W1.heap.size, 0, none⟩) 1 1) 1 (zC [z]) ∧ Kept w3 W) ⟨own_kept ho1 ((Mod.refl _ _).alloc _), lit3 W1 z, hk1.alloc _⟩ ?_
            rintro W2 ⟨ho2, hr2, hk2⟩
            have hHeld := HSK.out W2 hk2
            refine wpAnyH_ready (rs := [2]) (by kernel_rfl) (by simp) ?_
            refine AllReadyH.cons rfl (fun K hK => ?_) AllReadyH.nil
            refine step_append_rd 22 35 3 24 elem_zone (.tmp 32) (.tmp 33) rfl rfl w3.heap.size (.slice (some ⟨w3.heap.size, 0, none⟩) 0 0) 0 _ rfl ho2 (.slice A l.length c) l.length (zC l) rfl (HRV.out.kept hk2) (one_zC _) (by unfold maxLen; omega) (by omega) hk2.size ?_
            intro A5 c5 w5 ho5 hm5 _
            rw [Nat.zero_add, List.nil_append] at ho5
            rw [Nat.zero_add]
            have hk5 : Kept w3 w5 := Mod.trans hk2 hm5 (fun k hk e => by have := (ho2.lt k e).1; omega)
            have hr5 := hr2.mod hm5 (fun k hk _ e => by have e : some w3.heap.size = some k := e; have hk : some W1.heap.size = some k := hk; injection e with e; injection hk with hk; omega)
            refine hK.out _ _ ?_ (fun hHeld => ?_)
            · (try dsimp only); exact HSK.out _ hk5
            clear hK K
            try simp only [Act.put, List.setIfInBounds_toArray, List.set_cons_zero, List.set_cons_succ]
            refine at_world (P := wpAnyH _ _ _ _ _ _ _ _) (fun W => W.ownsRow w3.heap.size 35 3 (.slice A5 l.length c5) l.length (zC l) ∧ Rd W 3 (.slice (some ⟨W1.heap.size, 0, none⟩) 1 1) 1 (zC [z]) ∧ Kept w3 W) ⟨ho5, hr5, hk5⟩ ?_
            rintro W6 ⟨ho6, hr6, hk6⟩
            have hHeld := HSK.out W6 hk6
            refine wpAnyH_ready (rs := [5]) (by kernel_rfl) (by simp) ?_
            refine AllReadyH.cons rfl (fun K hK => ?_) AllReadyH.nil
            refine step_append_rd 22 35 3 24 elem_zone (.tmp 34) (.tmp 36) rfl rfl w3.heap.size (.slice A5 l.length c5) l.length _ rfl ho6 (.slice (some ⟨W1.heap.size, 0, none⟩) 1 1) 1 (zC [z]) rfl hr6 (one_zC _) (by unfold maxLen; omega) (by omega) hk6.size ?_
            intro A7 c7 w7 ho7 hm7 _
            have hk7 : Kept w3 w7 := Mod.trans hk6 hm7 (fun k hk e => by have := (ho6.lt k e).1; omega)
            have hrz : RdZ w7 (.slice A7 (l.length + 1) c7) (l ++ [z]) := by
              have h := Rd.of_own ho7
              unfold RdZ
              rw [List.length_append, show zC (l ++ [z]) = zC l ++ zC [z] by simp [zC]]
              exact h
            refine hK.out _ _ ?_ (fun hHeld => ?_)
            · (try dsimp only); exact HSK.out _ hk7
            clear hK K
            try simp only [Act.put, List.setIfInBounds_toArray, List.set_cons_zero, List.set_cons_succ]
            refine wpAnyH_ready (rs := [6]) (by kernel_rfl) (by simp) ?_
            refine AllReadyH.cons rfl (fun K hK => ?_) AllReadyH.nil
            go_simp
            refine (new_any _ (l ++ [z]) HNL.out.2 HNL.out.1 _ hrz).mono ?_
            intro e w8 h8
            obtain ⟨k8, rfl⟩ := h8.bad rfl HBD.out
            have hk8 := hk7.then k8
            try (go_wp2_with fail)
            refine hK.out _ _ ?_ (fun hHeld => ?_)
            · (try dsimp only); exact HSK.out _ hk8
            clear hK K
            try simp only [Act.put, List.setIfInBounds_toArray, List.set_cons_zero, List.set_cons_succ]
            refine regH_take 7 31 (v := ?_) rfl rfl (by kernel_rfl) (by kernel_rfl) (by kernel_rfl) (fun _ _ _ h => h) (by rfl) (by assumption) ?_ ?_
            rotate_left
            · (intro w hSw; (try dsimp only at hSw); go_simp); try (with_reducible rfl)
            try simp only [Act.put, List.setIfInBounds_toArray, List.set_cons_zero, List.set_cons_succ]
            refine regH_take 8 39 (v := ?_) rfl rfl (by kernel_rfl) (by kernel_rfl) (by kernel_rfl) (fun _ _ _ h => h) (by rfl) (by assumption) ?_ ?_
            rotate_left
            · (intro w hSw; (try dsimp only at hSw); go_simp); try (with_reducible rfl)
            try simp only [Act.put, List.setIfInBounds_toArray, List.set_cons_zero, List.set_cons_succ]
            refine regH_take 9 40 (v := ?_) rfl rfl (by kernel_rfl) (by kernel_rfl) (by kernel_rfl) (fun _ _ _ h => h) (by rfl) (by assumption) ?_ ?_
            rotate_left
            · (intro w hSw; (try dsimp only at hSw); go_simp); try (with_reducible rfl)
            try simp only [Act.put, List.setIfInBounds_toArray, List.set_cons_zero, List.set_cons_succ]
            refine regH_take 10 9 (v := ?_) rfl rfl (by kernel_rfl) (by kernel_rfl) (by kernel_rfl) (fun _ _ _ h => h) (by rfl) (by assumption) ?_ ?_
            rotate_left
            · (intro w hSw; (try dsimp only at hSw); go_simp); try (with_reducible rfl)
            try simp only [Act.put, List.setIfInBounds_toArray, List.set_cons_zero, List.set_cons_succ]
            refine regH_take 11 10 (v := ?_) rfl rfl (by kernel_rfl) (by kernel_rfl) (by kernel_rfl) (fun _ _ _ h => h) (by rfl) (by assumption) ?_ ?_
            rotate_left
            · (intro w hSw; (try dsimp only at hSw); go_simp); try (with_reducible rfl)
            try simp only [Act.put, List.setIfInBounds_toArray, List.set_cons_zero, List.set_cons_succ]
            refine wpAnyH_done (by kernel_rfl) ?_ _
            have HKE := Lib.hid (HK3.out.then hk8)
            go_wp2_with fail
            go_ret
            exact ⟨rfl, HKE.out⟩
        · go_simp
          refine hK.out _ _ ?_ (fun hHeld => ?_)
          · (try dsimp only); exact HSK.out _ (((Mod.refl _ _).alloc _).drew)
          clear hK K
          try simp only [Act.put, List.setIfInBounds_toArray, List.set_cons_zero, List.set_cons_succ]
          refine at_world (P := wpAnyH _ _ _ _ _ _ _ _) (fun W => Rd W 3 (.slice (some ⟨w3.heap.size, 0, none⟩) 1 1) 1 (zC [z]) ∧ w3.heap.size < W.heap.size ∧ Kept w3 W) ⟨(lit3 w3 z).kept ((Mod.refl (fun _ => False) _).drew) (fun _ _ e => e), by simp, ((Mod.refl _ _).alloc _).drew⟩ ?_
          rintro W1 ⟨hr1, hlt1, hk1⟩
          have hHeld := HSK.out W1 hk1
          refine wpAnyH_ready (rs := [0]) (by kernel_rfl) (by simp) ?_
          refine AllReadyH.cons rfl (fun K hK => ?_) AllReadyH.nil
          go_simp
          refine hK.out _ _ ?_ (fun hHeld => ?_)
          · (try dsimp only); exact HSK.out _ (hk1.alloc _)
          clear hK K
          try simp only [Act.put, List.setIfInBounds_toArray, List.set_cons_zero, List.set_cons_succ]
          refine at_world (P := wpAnyH _ _ _ _ _ _ _ _) (fun W => W.ownsRow w3.heap.size 35 3 (.slice (some ⟨W1.heap.size, 0, none⟩) 0 0) 0 [] ∧ Rd W 3 (.slice (some ⟨w3.heap.size, 0, none⟩) 1 1) 1 (zC [z]) ∧ Kept w3 W) ⟨own_lower (made0 W1) hk1.size, hr1.kept ((Mod.refl (fun _ => False) _).alloc _) (fun _ _ e => e), hk1.alloc _⟩ ?_
          rintro W2 ⟨ho2, hr2, hk2⟩
          have hHeld := HSK.out W2 hk2
          refine wpAnyH_ready (rs := [2]) (by kernel_rfl) (by simp) ?_
          refine AllReadyH.cons rfl (fun K hK => ?_) AllReadyH.nil
          refine step_append_rd 22 35 3 24 elem_zone (.tmp 32) (.tmp 33) rfl rfl w3.heap.size (.slice (some ⟨W1.heap.size, 0, none⟩) 0 0) 0 _ rfl ho2 (.slice A l.length c) l.length (zC l) rfl (HRV.out.kept hk2) (one_zC _) (by unfold maxLen; omega) (by omega) hk2.size ?_
          intro A5 c5 w5 ho5 hm5 _
          rw [Nat.zero_add, List.nil_append] at ho5
          rw [Nat.zero_add]
          have hk5 : Kept w3 w5 := Mod.trans hk2 hm5 (fun k hk e => by have := (ho2.lt k e).1; omega)
          have hr5 := hr2.mod hm5 (fun k hk _ e => by have e : some W1.heap.size = some k := e; have hk : some w3.heap.size = some k := hk; injection e with e; injection hk with hk; omega)
          refine hK.out _ _ ?_ (fun hHeld => ?_)
          · (try dsimp only); exact HSK.out _ hk5
          clear hK K
          try simp only [Act.put, List.setIfInBounds_toArray, List.set_cons_zero, List.set_cons_succ]
          refine at_world (P := wpAnyH _ _ _ _ _ _ _ _) (fun W => W.ownsRow w3.heap.size 35 3 (.slice A5 l.length c5) l.length (zC l) ∧ Rd W 3 (.slice (some ⟨w3.heap.size, 0, none⟩) 1 1) 1 (zC [z]) ∧ Kept w3 W) ⟨ho5, hr5, hk5⟩ ?_
          rintro W6 ⟨ho6, hr6, hk6⟩
          have hHeld := HSK.out W6 hk6
          refine wpAnyH_ready (rs := [5]) (by kernel_rfl) (by simp) ?_
          refine AllReadyH.cons rfl (fun K hK => ?_) AllReadyH.nil
          refine step_append_rd 22 35 3 24 elem_zone (.tmp 34) (.tmp 36) rfl rfl w3.heap.size (.slice A5 l.length c5) l.length _ rfl ho6 (.slice (some ⟨w3.heap.size, 0, none⟩) 1 1) 1 (zC [z]) rfl hr6 (one_zC _) (by unfold maxLen; omega) (by omega) hk6.size ?_
          intro A7 c7 w7 ho7 hm7 _
          have hk7 : Kept w3 w7 := Mod.trans hk6 hm7 (fun k hk e => by have := (ho6.lt k e).1; omega)
          have hrz : RdZ w7 (.slice A7 (l.length + 1) c7) (l ++ [z]) := by
            have h := Rd.of_own ho7
            unfold RdZ
            rw [List.length_append, show zC (l ++ [z]) = zC l ++ zC [z] by simp [zC]]
            exact h
          refine hK.out _ _ ?_ (fun hHeld => ?_)
          · (try dsimp only); exact HSK.out _ hk7
          clear hK K
          try simp only [Act.put, List.setIfInBounds_toArray, List.set_cons_zero, List.set_cons_succ]
          refine wpAnyH_ready (rs := [6]) (by kernel_rfl) (by simp) ?_
          refine AllReadyH.cons rfl (fun K hK => ?_) AllReadyH.nil
          go_simp
          refine (new_any _ (l ++ [z]) HNL.out.2 HNL.out.1 _ hrz).mono ?_
          intro e w8 h8
          obtain ⟨k8, rfl⟩ := h8.bad rfl HBD.out
          have hk8 := hk7.then k8
          try (go_wp2_with fail)
          refine hK.out _ _ ?_ (fun hHeld => ?_)
          · (try dsimp only); exact HSK.out _ hk8
          clear hK K
          try simp only [Act.put, List.setIfInBounds_toArray, List.set_cons_zero, List.set_cons_succ]
          refine regH_take 7 31 (v := ?_) rfl rfl (by kernel_rfl) (by kernel_rfl) (by kernel_rfl) (fun _ _ _ h => h) (by rfl) (by assumption) ?_ ?_
          rotate_left
          · (intro w hSw; (try dsimp only at hSw); go_simp); try (with_reducible rfl)
          try simp only [Act.put, List.setIfInBounds_toArray, List.set_cons_zero, List.set_cons_succ]
          refine regH_take 8 39 (v := ?_) rfl rfl (by kernel_rfl) (by kernel_rfl) (by kernel_rfl) (fun _ _ _ h => h) (by rfl) (by assumption) ?_ ?_
          rotate_left
          · (intro w hSw; (try dsimp only at hSw); go_simp); try (with_reducible rfl)
          try simp only [Act.put, List.setIfInBounds_toArray, List.set_cons_zero, List.set_cons_succ]
          refine regH_take 9 40 (v := ?_) rfl rfl (by kernel_rfl) (by kernel_rfl) (by kernel_rfl) (fun _ _ _ h => h) (by rfl) (by assumption) ?_ ?_
          rotate_left
          · (intro w hSw; (try dsimp only at hSw); go_simp); try (with_reducible rfl)
          try simp only [Act.put, List.setIfInBounds_toArray, List.set_cons_zero, List.set_cons_succ]
          refine regH_take 10 9 (v := ?_) rfl rfl (by kernel_rfl) (by kernel_rfl) (by kernel_rfl) (fun _ _ _ h => h) (by rfl) (by assumption) ?_ ?_
          rotate_left
          · (intro w hSw; (try dsimp only at hSw); go_simp); try (with_reducible rfl)
          try simp only [Act.put, List.setIfInBounds_toArray, List.set_cons_zero, List.set_cons_succ]
          refine regH_take 11 10 (v := ?_) rfl rfl (by kernel_rfl) (by kernel_rfl) (by kernel_rfl) (fun _ _ _ h => h) (by rfl) (by assumption) ?_ ?_
          rotate_left
          · (intro w hSw; (try dsimp only at hSw); go_simp); try (with_reducible rfl)
          try simp only [Act.put, List.setIfInBounds_toArray, List.set_cons_zero, List.set_cons_succ]
          refine wpAnyH_done (by kernel_rfl) ?_ _
          have HKE := Lib.hid (HK3.out.then hk8)
          go_wp2_with fail
          go_ret
          exact ⟨rfl, HKE.out⟩
    · have hf : newE (l ++ [z]) ≠ 0 := fun e => h0 (newE_front e)
      obtain ⟨k3, rfl⟩ := h3.bad rfl h0
      have HK3 := Lib.hid (HK2.out.then k3)
      have HB3 := Lib.hid (HB2.out.mod k3 (fun e => e))
      have HRV := Lib.hid (HV.out.kept HK3.out)
      have HSK : Hid (∀ W, Kept w3 W → W.cell? ⟨w.heap.size, 0, none⟩ = some (.string z.name) ∧ W.cell? ⟨w.heap.size, 1, none⟩ = some (.int .u8 z.pol) ∧ W.cell? ⟨w.heap.size, 2, none⟩ = some (.int .u16 z.tr)) := Lib.hid (fun W hW => by
        have hB := HB3.out.mod hW (fun e => e)
        exact ⟨hB.cell 0, hB.cell 1, hB.cell 2⟩)
      have b0n : (newE l != 0) = true := by simpa using h0
      have b0e : (newE l == 0) = false := by simpa using h0
      have b1n : (newE (l ++ [z]) != 0) = true := by simpa using hf
      have HBD := Lib.hid hf
      clear h3 k3 h0 hf HK2 HB2
      generalize newE l = x at *
      go_wp2_with fail
      refine wp_region_held_drew (S := (fun w' => w'.cell? ⟨w.heap.size, 0, none⟩ = some (.string z.name) ∧ w'.cell? ⟨w.heap.size, 1, none⟩ = some (.int .u8 z.pol) ∧ w'.cell? ⟨w.heap.size, 2, none⟩ = some (.int .u16 z.tr))) (by kernel_rfl) ?_ (fun hHeld => ?_)
      · (try dsimp only); exact HSK.out _ ((Mod.refl _ _).drew)
      refine regH_take 1 33 (v := ?_) rfl rfl (by kernel_rfl) (by kernel_rfl) (by kernel_rfl) (fun _ _ _ h => h) (by rfl) (by assumption) ?_ ?_
      rotate_left
      · (intro w hSw; (try dsimp only at hSw); go_simp); try (with_reducible rfl)
      try simp only [Act.put, List.setIfInBounds_toArray, List.set_cons_zero, List.set_cons_succ]
      refine regH_take 3 35 (v := ?_) rfl rfl (by kernel_rfl) (by kernel_rfl) (by kernel_rfl) (fun _ _ _ h => h) (by rfl) (by assumption) ?_ ?_
      rotate_left
      · (intro w hSw; (try dsimp only at hSw); go_simp); try (with_reducible rfl)
      try simp only [Act.put, List.setIfInBounds_toArray, List.set_cons_zero, List.set_cons_succ]
      refine wpAnyH_ready (rs := [0, 4]) (by kernel_rfl) (by simp) ?_
      refine AllReadyH.cons rfl (fun K hK => ?_) (AllReadyH.cons rfl (fun K hK => ?_) AllReadyH.nil)
      · go_simp
        refine hK.out _ _ ?_ (fun hHeld => ?_)
        · (try dsimp only); exact HSK.out _ (((Mod.refl _ _).alloc _).drew)
        clear hK K
        try simp only [Act.put, List.setIfInBounds_toArray, List.set_cons_zero, List.set_cons_succ]
        refine at_world (P := wpAnyH _ _ _ _ _ _ _ _) (fun W => W.ownsRow w3.heap.size 35 3 (.slice (some ⟨w3.heap.size, 0, none⟩) 0 0) 0 [] ∧ Kept w3 W ∧ w3.heap.size < W.heap.size ∧ Kept w3 W) ⟨own_kept (made0 w3) ((Mod.refl _ _).drew), ((Mod.refl _ _).alloc _).drew, by simp, ((Mod.refl _ _).alloc _).drew⟩ ?_
        rintro W1 ⟨ho1, _, hlt1, hk1⟩
        have hHeld := HSK.out W1 hk1
        refine wpAnyH_ready (rs := [2, 4]) (by kernel_rfl) (by simp) ?_
        refine AllReadyH.cons rfl (fun K hK => ?_) (AllReadyH.cons rfl (fun K hK => ?_) AllReadyH.nil)
        · refine step_append_rd 22 35 3 24 elem_zone (.tmp 32) (.tmp 33) rfl rfl w3.heap.size (.slice (some ⟨w3.heap.size, 0, none⟩) 0 0) 0 _ rfl ho1 (.slice A l.length c) l.length (zC l) rfl (HRV.out.kept hk1) (one_zC _) (by unfold maxLen; omega) (by omega) hk1.size ?_
          intro A5 c5 w5 ho5 hm5 _
          rw [Nat.zero_add, List.nil_append] at ho5
          rw [Nat.zero_add]
          have hk5 : Kept w3 w5 := Mod.trans hk1 hm5 (fun k hk e => by have := (ho1.lt k e).1; omega)
          refine hK.out _ _ ?_ (fun hHeld => ?_)
          · (try dsimp only); exact HSK.out _ hk5
          clear hK K
          try simp only [Act.put, List.setIfInBounds_toArray, List.set_cons_zero, List.set_cons_succ]
          refine wpAnyH_ready (rs := [4]) (by kernel_rfl) (by simp) ?_
          refine AllReadyH.cons rfl (fun K hK => ?_) AllReadyH.nil
          go_simp
          refine hK.out _ _ ?_ (fun hHeld => ?_)
          · (try dsimp only); exact HSK.out _ (hk5.alloc _)
          clear hK K
          try simp only [Act.put, List.setIfInBounds_toArray, List.set_cons_zero, List.set_cons_succ]
          refine at_world (P := wpAnyH _ _ _ _ _ _ _ _) (fun W => W.ownsRow w3.heap.size 35 3 (.slice A5 l.length c5) l.length (zC l) ∧ Rd W 3 (.slice (some ⟨w5.heap.size, 0, none⟩) 1 1) 1 (zC [z]) ∧ Kept w3 W) ⟨own_kept ho5 ((Mod.refl _ _).alloc _), lit3 w5 z, hk5.alloc _⟩ ?_
          rintro W6 ⟨ho6, hr6, hk6⟩
          have hHeld := HSK.out W6 hk6
          refine wpAnyH_ready (rs := [5]) (by kernel_rfl) (by simp) ?_
          refine AllReadyH.cons rfl (fun K hK => ?_) AllReadyH.nil
          refine step_append_rd 22 35 3 24 elem_zone (.tmp 34) (.tmp 36) rfl rfl w3.heap.size (.slice A5 l.length c5) l.length _ rfl ho6 (.slice (some ⟨w5.heap.size, 0, none⟩) 1 1) 1 (zC [z]) rfl hr6 (one_zC _) (by unfold maxLen; omega) (by omega) hk6.size ?_
          intro A7 c7 w7 ho7 hm7 _
          have hk7 : Kept w3 w7 := Mod.trans hk6 hm7 (fun k hk e => by have := (ho6.lt k e).1; omega)
          have hrz : RdZ w7 (.slice A7 (l.length + 1) c7) (l ++ [z]) := by
            have h := Rd.of_own ho7
            unfold RdZ
            rw [List.length_append, show zC (l ++ [z]) = zC l ++ zC [z] by simp [zC]]
            exact h
          refine hK.out _ _ ?_ (fun hHeld => ?_)
          · (try dsimp only); exact HSK.out _ hk7
          clear hK K
          try simp only [Act.put, List.setIfInBounds_toArray, List.set_cons_zero, List.set_cons_succ]
          refine wpAnyH_ready (rs := [6]) (by kernel_rfl) (by simp) ?_
          refine AllReadyH.cons rfl (fun K hK => ?_) AllReadyH.nil
          go_simp
          refine (new_any _ (l ++ [z]) HNL.out.2 HNL.out.1 _ hrz).mono ?_
          intro e w8 h8
          obtain ⟨k8, rfl⟩ := h8.bad rfl HBD.out
          have hk8 := hk7.then k8
          try (go_wp2_with fail)
          refine hK.out _ _ ?_ (fun hHeld => ?_)
          · (try dsimp only); exact HSK.out _ hk8
          clear hK K
          try simp only [Act.put, List.setIfInBounds_toArray, List.set_cons_zero, List.set_cons_succ]
          refine regH_take 7 31 (v := ?_) rfl rfl (by kernel_rfl) (by kernel_rfl) (by kernel_rfl) (fun _ _ _ h => h) (by rfl) (by assumption) ?_ ?_
          rotate_left
          · (intro w hSw; (try dsimp only at hSw); go_simp); try (with_reducible rfl)
          try simp only [Act.put, List.setIfInBounds_toArray, List.set_cons_zero, List.set_cons_succ]
          refine regH_take 8 39 (v := ?_) rfl rfl (by kernel_rfl) (by kernel_rfl) (by kernel_rfl) (fun _ _ _ h => h) (by rfl) (by assumption) ?_ ?_
          rotate_left
          · (intro w hSw; (try dsimp only at hSw); go_simp); try (with_reducible rfl)
          try simp only [Act.put, List.setIfInBounds_toArray, List.set_cons_zero, List.set_cons_succ]
          refine regH_take 9 40 (v := ?_) rfl rfl (by kernel_rfl) (by kernel_rfl) (by kernel_rfl) (fun _ _ _ h => h) (by rfl) (by assumption) ?_ ?_
          rotate_left
          · (intro w hSw; (try dsimp only at hSw); go_simp); try (with_reducible rfl)
          try simp only [Act.put, List.setIfInBounds_toArray, List.set_cons_zero, List.set_cons_succ]
          refine regH_take 10 9 (v := ?_) rfl rfl (by kernel_rfl) (by kernel_rfl) (by kernel_rfl) (fun _ _ _ h => h) (by rfl) (by assumption) ?_ ?_
          rotate_left
          · (intro w hSw; (try dsimp only at hSw); go_simp); try (with_reducible rfl)
          try simp only [Act.put, List.setIfInBounds_toArray, List.set_cons_zero, List.set_cons_succ]
          refine regH_take 11 10 (v := ?_) rfl rfl (by kernel_rfl) (by kernel_rfl) (by kernel_rfl) (fun _ _ _ h => h) (by rfl) (by assumption) ?_ ?_
          rotate_left
          · (intro w hSw; (try dsimp only at hSw); go_simp); try (with_reducible rfl)
          try simp only [Act.put, List.setIfInBounds_toArray, List.set_cons_zero, List.set_cons_succ]
          refine wpAnyH_done (by kernel_rfl) ?_ _
          have HKE := Lib.hid (HK3.out.then hk8)
          go_wp2_with fail
          go_ret
          exact ⟨rfl, HKE.out⟩
        · go_simp
          refine hK.out _ _ ?_ (fun hHeld => ?_)
          · (try dsimp only); exact HSK.out _ (hk1.alloc _)
          clear hK K
          try simp only [Act.put, List.setIfInBounds_toArray, List.set_cons_zero, List.set_cons_succ]
          refine at_world (P := wpAnyH _ _ _ _ _ _ _ _) (fun W => W.ownsRow w3.heap.size 35 3 (.slice (some ⟨w3.heap.size, 0, none⟩) 0 0) 0 [] ∧ Rd W 3 (.slice (some ⟨W1.heap.size, 0, none⟩) 1 1) 1 (zC [z]) ∧ Kept w3 W) ⟨own_kept ho1 ((Mod.refl _ _).alloc _), lit3 W1 z, hk1.alloc _⟩ ?_
          rintro W2 ⟨ho2, hr2, hk2⟩
          have hHeld := HSK.out W2 hk2
          refine wpAnyH_ready (rs := [2]) (by kernel_rfl) (by simp) ?_
          refine AllReadyH.cons rfl (fun K hK => ?_) AllReadyH.nil
          refine step_append_rd 22 35 3 24 elem_zone (.tmp 32) (.tmp 33) rfl rfl w3.heap.size (.slice (some ⟨w3.heap.size, 0, none⟩) 0 0) 0 _ rfl ho2 (.slice A l.length c) l.length (zC l) rfl (HRV.out.kept hk2) (one_zC _) (by unfold maxLen; omega) (by omega) hk2.size ?_
          intro A5 c5 w5 ho5 hm5 _
          rw [Nat.zero_add, List.nil_append] at ho5
          rw [Nat.zero_add]
          have hk5 : Kept w3 w5 := Mod.trans hk2 hm5 (fun k hk e => by have := (ho2.lt k e).1; omega)
          have hr5 := hr2.mod hm5 (fun k hk _ e => by have e : some w3.heap.size = some k := e; have hk : some W1.heap.size = some k := hk; injection e with e; injection hk with hk; omega)
          refine hK.out _ _ ?_ (fun hHeld => ?_)
          · (try dsimp only); exact HSK.out _ hk5
          clear hK K
          try simp only [Act.put, List.setIfInBounds_toArray, List.set_cons_zero, List.set_cons_succ]
          refine at_world (P := wpAnyH _ _ _ _ _ _ _ _) (fun W => W.ownsRow w3.heap.size 35 3 (.slice A5 l.length c5) l.length (zC l) ∧ Rd W 3 (.slice (some ⟨W1.heap.size, 0, none⟩) 1 1) 1 (zC [z]) ∧ Kept w3 W) ⟨ho5, hr5, hk5⟩ ?_
          rintro W6 ⟨ho6, hr6, hk6⟩
          have hHeld := HSK.out W6 hk6
          refine wpAnyH_ready (rs := [5]) (by kernel_rfl) (by simp) ?_
          refine AllReadyH.cons rfl (fun K hK => ?_) AllReadyH.nil
          refine step_append_rd 22 35 3 24 elem_zone (.tmp 34) (.tmp 36) rfl rfl w3.heap.size (.slice A5 l.length c5) l.length _ rfl ho6 (.slice (some ⟨W1.heap.size, 0, none⟩) 1 1) 1 (zC [z]) rfl hr6 (one_zC _) (by unfold maxLen; omega) (by omega) hk6.size ?_
          intro A7 c7 w7 ho7 hm7 _
          have hk7 : Kept w3 w7 := Mod.trans hk6 hm7 (fun k hk e => by have := (ho6.lt k e).1; omega)
          have hrz : RdZ w7 (.slice A7 (l.length + 1) c7) (l ++ [z]) := by
            have h := Rd.of_own ho7
            unfold RdZ
            rw [List.length_append, show zC (l ++ [z]) = zC l ++ zC [z] by simp [zC]]
            exact h
          refine hK.out _ _ ?_ (fun hHeld => ?_)
          · (try dsimp only); exact HSK.out _ hk7
          clear hK K
          try simp only [Act.put, List.setIfInBounds_toArray, List.set_cons_zero, List.set_cons_succ]
          refine wpAnyH_ready (rs := [6]) (by kernel_rfl) (by simp) ?_
          refine AllReadyH.cons rfl (fun K hK => ?_) AllReadyH.nil
          go_simp
          refine (new_any _ (l ++ [z]) HNL.out.2 HNL.out.1 _ hrz).mono ?_
          intro e w8 h8
          obtain ⟨k8, rfl⟩ := h8.bad rfl HBD.out
          have hk8 := hk7.then k8
          try (go_wp2_with fail)
          refine hK.out _ _ ?_ (fun hHeld => ?_)
          · (try dsimp only); exact HSK.out _ hk8
          clear hK K
          try simp only [Act.put, List.setIfInBounds_toArray, List.set_cons_zero, List.set_cons_succ]
          refine regH_take 7 31 (v := ?_) rfl rfl (by kernel_rfl) (by kernel_rfl) (by kernel_rfl) (fun _ _ _ h => h) (by rfl) (by assumption) ?_ ?_
          rotate_left
          · (intro w hSw; (try dsimp only at hSw); go_simp); try (with_reducible rfl)
          try simp only [Act.put, List.setIfInBounds_toArray, List.set_cons_zero, List.set_cons_succ]
          refine regH_take 8 39 (v := ?_) rfl rfl (by kernel_rfl) (by kernel_rfl) (by kernel_rfl) (fun _ _ _ h => h) (by rfl) (by assumption) ?_ ?_
          rotate_left
          · (intro w hSw; (try dsimp only at hSw); go_simp); try (with_reducible rfl)
          try simp only [Act.put, List.setIfInBounds_toArray, List.set_cons_zero, List.set_cons_succ]
          refine regH_take 9 40 (v := ?_) rfl rfl (by kernel_rfl) (by kernel_rfl) (by kernel_rfl) (fun _ _ _ h => h) (by rfl) (by assumption) ?_ ?_
          rotate_left
          · (intro w hSw; (try dsimp only at hSw); go_simp); try (with_reducible rfl)
          try simp only [Act.put, List.setIfInBounds_toArray, List.set_cons_zero, List.set_cons_succ]
          refine regH_take 10 9 (v := ?_) rfl rfl (by kernel_rfl) (by kernel_rfl) (by kernel_rfl) (fun _ _ _ h => h) (by rfl) (by assumption) ?_ ?_
          rotate_left
          · (intro w hSw; (try dsimp only at hSw); go_simp); try (with_reducible rfl)
          try simp only [Act.put, List.setIfInBounds_toArray, List.set_cons_zero, List.set_cons_succ]
          refine regH_take 11 10 (v := ?_) rfl rfl (by kernel_rfl) (by kernel_rfl) (by kernel_rfl) (fun _ _ _ h => h) (by rfl) (by assumption) ?_ ?_
          rotate_left
          · (intro w hSw; (try dsimp only at hSw); go_simp); try (with_reducible rfl)
          try simp only [Act.put, List.setIfInBounds_toArray, List.set_cons_zero, List.set_cons_succ]
          refine wpAnyH_done (by kernel_rfl) ?_ _
          have HKE := Lib.hid (HK3.out.then hk8)
          go_wp2_with fail
          go_ret
          exact ⟨rfl, HKE.out⟩
      · go_simp
        refine hK.out _ _ ?_ (fun hHeld => ?_)
        · (try dsimp only); exact HSK.out _ (((Mod.refl _ _).alloc _).drew)
        clear hK K
        try simp only [Act.put, List.setIfInBounds_toArray, List.set_cons_zero, List.set_cons_succ]
        refine at_world (P := wpAnyH _ _ _ _ _ _ _ _) (fun W => Rd W 3 (.slice (some ⟨w3.heap.size, 0, none⟩) 1 1) 1 (zC [z]) ∧ w3.heap.size < W.heap.size ∧ Kept w3 W) ⟨(lit3 w3 z).kept ((Mod.refl (fun _ => False) _).drew) (fun _ _ e => e), by simp, ((Mod.refl _ _).alloc _).drew⟩ ?_
        rintro W1 ⟨hr1, hlt1, hk1⟩
        have hHeld := HSK.out W1 hk1
        refine wpAnyH_ready (rs := [0]) (by kernel_rfl) (by simp) ?_
        refine AllReadyH.cons rfl (fun K hK => ?_) AllReadyH.nil
        go_simp
        refine hK.out _ _ ?_ (fun hHeld => ?_)
        · (try dsimp only); exact HSK.out _ (hk1.alloc _)
        clear hK K
        try simp only [Act.put, List.setIfInBounds_toArray, List.set_cons_zero, List.set_cons_succ]
        refine at_world (P := wpAnyH _ _ _ _ _ _ _ _) (fun W => W.ownsRow w3.heap.size 35 3 (.slice (some ⟨W1.heap.size, 0, none⟩) 0 0) 0 [] ∧ Rd W 3 (.slice (some ⟨w3.heap.size, 0, none⟩) 1 1) 1 (zC [z]) ∧ Kept w3 W) ⟨own_lower (made0 W1) hk1.size, hr1.kept ((Mod.refl (fun _ => False) _).alloc _) (fun _ _ e => e), hk1.alloc _⟩ ?_
        rintro W2 ⟨ho2, hr2, hk2⟩
        have hHeld := HSK.out W2 hk2
        refine wpAnyH_ready (rs := [2]) (by kernel_rfl) (by simp) ?_
        refine AllReadyH.cons rfl (fun K hK => ?_) AllReadyH.nil
        refine step_append_rd 22 35 3 24 elem_zone (.tmp 32) (.tmp 33) rfl rfl w3.heap.size (.slice (some ⟨W1.heap.size, 0, none⟩) 0 0) 0 _ rfl ho2 (.slice A l.length c) l.length (zC l) rfl (HRV.out.kept hk2) (one_zC _) (by unfold maxLen; omega) (by omega) hk2.size ?_
        intro A5 c5 w5 ho5 hm5 _
        rw [Nat.zero_add, List.nil_append] at ho5
        rw [Nat.zero_add]
        have hk5 : Kept w3 w5 := Mod.trans hk2 hm5 (fun k hk e => by have := (ho2.lt k e).1; omega)
        have hr5 := hr2.mod hm5 (fun k hk _ e => by have e : some W1.heap.size = some k := e; have hk : some w3.heap.size = some k := hk; injection e with e; injection hk with hk; omega)
        refine hK.out _ _ ?_ (fun hHeld => ?_)
        · (try dsimp only); exact HSK.out _ hk5
        clear hK K
        try simp only [Act.put, List.setIfInBounds_toArray, List.set_cons_zero, List.set_cons_succ]
        refine at_world (P := wpAnyH _ _ _ _ _ _ _ _) (fun W => W.ownsRow w3.heap.size 35 3 (.slice A5 l.length c5) l.length (zC l) ∧ Rd W 3 (.slice (some ⟨w3.heap.size, 0, none⟩) 1 1) 1 (zC [z]) ∧ Kept w3 W) ⟨ho5, hr5, hk5⟩ ?_
        rintro W6 ⟨ho6, hr6, hk6⟩
        have hHeld := HSK.out W6 hk6
        refine wpAnyH_ready (rs := [5]) (by kernel_rfl) (by simp) ?_
        refine AllReadyH.cons rfl (fun K hK => ?_) AllReadyH.nil
        refine step_append_rd 22 35 3 24 elem_zone (.tmp 34) (.tmp 36) rfl rfl w3.heap.size (.slice A5 l.length c5) l.length _ rfl ho6 (.slice (some ⟨w3.heap.size, 0, none⟩) 1 1) 1 (zC [z]) rfl hr6 (one_zC _) (by unfold maxLen; omega) (by omega) hk6.size ?_
        intro A7 c7 w7 ho7 hm7 _
        have hk7 : Kept w3 w7 := Mod.trans hk6 hm7 (fun k hk e => by have := (ho6.lt k e).1; omega)
        have hrz : RdZ w7 (.slice A7 (l.length + 1) c7) (l ++ [z]) := by
          have h := Rd.of_own ho7
          unfold RdZ
          rw [List.length_append, show zC (l ++ [z]) = zC l ++ zC [z] by simp [zC]]
          exact h
        refine hK.out _ _ ?_ (fun hHeld => ?_)
        · (try dsimp only); exact HSK.out _ hk7
        clear hK K
        try simp only [Act.put, List.setIfInBounds_toArray, List.set_cons_zero, List.set_cons_succ]
        refine wpAnyH_ready (rs := [6]) (by kernel_rfl) (by simp) ?_
        refine AllReadyH.cons rfl (fun K hK => ?_) AllReadyH.nil
        go_simp
        refine (new_any _ (l ++ [z]) HNL.out.2 HNL.out.1 _ hrz).mono ?_
        intro e w8 h8
        obtain ⟨k8, rfl⟩ := h8.bad rfl HBD.out
        have hk8 := hk7.then k8
        try (go_wp2_with fail)
        refine hK.out _ _ ?_ (fun hHeld => ?_)
        · (try dsimp only); exact HSK.out _ hk8
        clear hK K
        try simp only [Act.put, List.setIfInBounds_toArray, List.set_cons_zero, List.set_cons_succ]
        refine regH_take 7 31 (v := ?_) rfl rfl (by kernel_rfl) (by kernel_rfl) (by kernel_rfl) (fun _ _ _ h => h) (by rfl) (by assumption) ?_ ?_
        rotate_left
        · (intro w hSw; (try dsimp only at hSw); go_simp); try (with_reducible rfl)
        try simp only [Act.put, List.setIfInBounds_toArray, List.set_cons_zero, List.set_cons_succ]
        refine regH_take 8 39 (v := ?_) rfl rfl (by kernel_rfl) (by kernel_rfl) (by kernel_rfl) (fun _ _ _ h => h) (by rfl) (by assumption) ?_ ?_
        rotate_left
        · (intro w hSw; (try dsimp only at hSw); go_simp); try (with_reducible rfl)
        try simp only [Act.put, List.setIfInBounds_toArray, List.set_cons_zero, List.set_cons_succ]
        refine regH_take 9 40 (v := ?_) rfl rfl (by kernel_rfl) (by kernel_rfl) (by kernel_rfl) (fun _ _ _ h => h) (by rfl) (by assumption) ?_ ?_
        rotate_left
        · (intro w hSw; (try dsimp only at hSw); go_simp); try (with_reducible rfl)
        try simp only [Act.put, List.setIfInBounds_toArray, List.set_cons_zero, List.set_cons_succ]
        refine regH_take 10 9 (v := ?_) rfl rfl (by kernel_rfl) (by kernel_rfl) (by kernel_rfl) (fun _ _ _ h => h) (by rfl) (by assumption) ?_ ?_
        rotate_left
        · (intro w hSw; (try dsimp only at hSw); go_simp); try (with_reducible rfl)
        try simp only [Act.put, List.setIfInBounds_toArray, List.set_cons_zero, List.set_cons_succ]
        refine regH_take 11 10 (v := ?_) rfl rfl (by kernel_rfl) (by kernel_rfl) (by kernel_rfl) (fun _ _ _ h => h) (by rfl) (by assumption) ?_ ?_
        rotate_left
        · (intro w hSw; (try dsimp only at hSw); go_simp); try (with_reducible rfl)
        try simp only [Act.put, List.setIfInBounds_toArray, List.set_cons_zero, List.set_cons_succ]
        refine wpAnyH_done (by kernel_rfl) ?_ _
        have HKE := Lib.hid (HK3.out.then hk8)
        go_wp2_with fail
        go_ret
        exact ⟨rfl, HKE.out⟩
end Go.Proofs.Ytgibhcmdmdbpgaa
