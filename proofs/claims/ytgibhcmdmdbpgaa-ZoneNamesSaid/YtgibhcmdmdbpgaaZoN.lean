/- New, walked. Conditions: texts that a memory may hold. -/
import Derived.Test.YtgibhcmdmdbpgaaZoP
import Derived.Test.YtgibhcmdmdbpgaaReg
namespace Go.Proofs.Ytgibhcmdmdbpgaa
open Go.RowKit Go.Lib

def zC (l : List Zn) : List Value := l.flatMap fun z => [.string z.name, .int .u8 z.pol, .int .u16 z.tr]
theorem zC_len (l : List Zn) : (zC l).length = l.length * 3 := by
  induction l with
  | nil => rfl
  | cons a l ih => simp [zC] at ih ⊢; omega
theorem zC_get (l : List Zn) : ∀ (k : Nat) (h : k < l.length), (zC l)[k * 3]? = some (.string (l[k]).name) ∧ (zC l)[k * 3 + 1]? = some (.int .u8 (l[k]).pol) ∧ (zC l)[k * 3 + 2]? = some (.int .u16 (l[k]).tr) := by
  induction l with
  | nil => intro k h; exact absurd h (by simp)
  | cons a l ih =>
    intro k h
    have e : zC (a :: l) = .string a.name :: .int .u8 a.pol :: .int .u16 a.tr :: zC l := rfl
    cases k with
    | zero => exact ⟨rfl, rfl, rfl⟩
    | succ k =>
      have := ih k (by simpa using h)
      rw [e, show (k + 1) * 3 = k * 3 + 3 by omega]
      simpa using this
abbrev RdZ (w : World) (v : Value) (l : List Zn) : Prop := Rd w 3 v l.length (zC l)
/-- A table, or how it is refused. -/
def NewTo (l : List Zn) (w : World) (e : Ending) (w' : World) : Prop :=
  Kept w w' ∧ ((newE l ≠ 0 ∧ e = .returned (.tuple #[.pointer none, .int .i64 (newE l)])) ∨ (newE l = 0 ∧ ∃ g mo oe, e = .returned (.tuple #[.pointer (some ⟨g, 0, none⟩), .int .i64 0]) ∧ Zt w' w.heap.size g mo oe l l.length))
theorem zt_new (w : World) : Zt ((w.alloc (.map #[] 0)).alloc (.cells #[.map (some w.heap.size), .int .i64 0] 43)) w.heap.size (w.heap.size + 1) w.heap.size [] [] 0 := by
  refine ⟨?_, ?_, by simp, by simp, by simp, by simp, ?_⟩
  · have := Blk.new (w.alloc (.map #[] 0)) 43 #[.map (some w.heap.size), .int .i64 0]
    rw [show (w.alloc (.map #[] 0)).heap.size = w.heap.size + 1 by simp] at this
    exact this
  · have h0 : Mpb (w.alloc (.map #[] 0)) w.heap.size [] := ⟨#[], 0, heap_alloc_new w _, rfl⟩
    exact h0.mod (S := fun _ => False) ((Mod.refl _ _).alloc _) (fun e => e)
  · intro b hb
    simp only [List.map_nil, List.mem_cons, List.not_mem_nil, or_false] at hb
    simp
    omega
theorem zt_count {w : World} {base g mo : Nat} {oe : List (Nat × Nat)} {l : List Zn} {c : Int} (h : Zt w base g mo oe l c) (d : Int) : Zt (w.setCell ⟨g, 1, none⟩ (.int .i64 d)) base g mo oe l d := by
  have hm : Mod (Only g) w (w.setCell ⟨g, 1, none⟩ (.int .i64 d)) := (Mod.refl _ _).at 1 _
  have hb := h.blks
  rw [List.nodup_cons] at hb
  refine ⟨h.blk.set_ 1 _, h.outer.mod hm fun e => hb.1 (by rw [show g = mo from e.symm]; simp), fun p hp => (h.inner p hp).mod hm fun e => hb.1 (by rw [show g = p.2 from e.symm]; exact List.mem_cons_of_mem _ (List.mem_map.2 ⟨p, hp, rfl⟩)), h.every, h.keys, h.blks, fun b hb => ⟨(h.lo b hb).1, Nat.lt_of_lt_of_le (h.lo b hb).2 hm.size⟩⟩
theorem okZ_no_may {z : Zn} (h : mayN (bys z.name) = false) : okZ z = false := by unfold okZ; rw [h]; rfl
theorem okZ_no_fold {z : Zn} (h : ¬ foldS z.name = z.name) : okZ z = false := by unfold okZ; rw [decide_eq_false h]; simp
theorem okZ_no_lo {z : Zn} (h : z.pol < 1) : okZ z = false := by unfold okZ; rw [decide_eq_false (by omega : ¬ 1 ≤ z.pol)]; simp
theorem okZ_no_hi {z : Zn} (h : 4 < z.pol) : okZ z = false := by unfold okZ; rw [decide_eq_false (by omega : ¬ z.pol ≤ 4)]; simp
theorem errT_bad {s r : List Zn} {z : Zn} (h : okZ z = false) : errT s (z :: r) = 3 := by unfold errT; rw [h]; simp
theorem errT_has {s r : List Zn} {z : Zn} (h : okZ z = true) (k : hasZ s z.name = true) : errT s (z :: r) = 7 := by unfold errT; rw [if_pos h, if_pos k]
theorem errT_on {s r : List Zn} {z : Zn} (h : okZ z = true) (k : hasZ s z.name = false) : errT s (z :: r) = errT (s ++ [z]) r := by rw [errT, if_pos h, k]; rfl
theorem inV_has {l : List Zn} {n : ByteArray} (h : hasZ l n = true) : ∃ z, inV l n = .tuple #[.agg (znC z), .bool true] := by
  unfold hasZ at h
  unfold inV
  cases hf : l.find? (fun z => n == z.name) with
  | none => rw [hf] at h; cases h
  | some z => exact ⟨z, rfl⟩
theorem inV_no {l : List Zn} {n : ByteArray} (h : hasZ l n = false) : inV l n = .tuple #[.agg zn0, .bool false] ∧ l.find? (fun z => n == z.name) = none := by
  unfold hasZ at h
  unfold inV
  cases hf : l.find? (fun z => n == z.name) with
  | none => exact ⟨rfl, rfl⟩
  | some z => rw [hf] at h; cases h
theorem byV_some {oe : List (Nat × Nat)} {k : Int} {b : Nat} (h : byV oe k = .map (some b)) (hk : 0 ≤ k) : (k.toNat, b) ∈ oe := by
  unfold byV at h
  cases hf : oe.find? (fun p => k == (p.1 : Int)) with
  | none => rw [hf] at h; cases h
  | some p =>
    rw [hf] at h
    injection h with h
    injection h with h
    have hp := List.mem_of_find?_eq_some hf
    have := List.find?_some hf
    simp at this
    rw [← h, show k.toNat = p.1 by omega]
    exact hp
theorem byV_cases (oe : List (Nat × Nat)) (k : Int) : (∃ b, byV oe k = .map (some b)) ∨ (byV oe k = .map none ∧ oe.find? (fun p => k == (p.1 : Int)) = none) := by
  unfold byV
  cases hf : oe.find? (fun p => k == (p.1 : Int)) with
  | none => exact .inr ⟨rfl, rfl⟩
  | some p => exact .inl ⟨_, rfl⟩
theorem byV_new {oe : List (Nat × Nat)} {k b : Nat} (h : oe.find? (fun p => (k : Int) == (p.1 : Int)) = none) : byV (oe ++ [(k, b)]) (k : Int) = .map (some b) := by
  unfold byV
  rw [List.find?_append, h]
  simp
def NewRel (l : List Zn) (w : World) (g mo : Nat) (k : Nat) (i : Value) (wr : World) : Prop :=
  ∃ (j : Nat) (oe : List (Nat × Nat)), i = .int .i64 j ∧ j + k = l.length ∧ errT (l.take j) (l.drop j) = errT [] l ∧ Zt wr w.heap.size g mo oe (l.take j) j ∧ Kept w wr
set_option maxHeartbeats 4000000 in
set_option maxRecDepth 100000 in
theorem new_any (v : Value) (l : List Zn) (hl : ∀ z ∈ l, z.name.size < 2 ^ 63) (hlen : l.length < 2 ^ 63) (w : World) (hv : RdZ w v l) : Calls Try.prog 11 #[v] w (NewTo l w) := by
  have HV := Lib.hid hv
  have HL := Lib.hid hl
  obtain ⟨_, A, c, rfl, _⟩ := hv
  clear hl
  have hmm := @run_makeMap Try.prog
  by_cases h16 : 16 < l.length
  · have i16 : (16 : Int) < (l.length : Int) := by omega
    have he : newE l = 5 := by unfold newE; rw [if_pos h16]
    have HE := Lib.hid he
    clear h16 he
    go_enter Try.func11, Try.ntmps11
    go_wp2_with fail
    go_ret2
    exact ⟨Kept.refl _, .inl ⟨by rw [HE.out]; decide, by rw [HE.out]; rfl⟩⟩
  · have i16 : (l.length : Int) ≤ 16 := by omega
    have he : newE l = errT [] l := by unfold newE; rw [if_neg h16]
    have HE := Lib.hid he
    clear h16 he
    go_enter Try.func11, Try.ntmps11
    go_wp2_with fail
    go_loopg [6, 7, 8, 9, 18] l.length (fun k _ _ _ _ i wr => NewRel l w (w.heap.size + 1) w.heap.size k i wr)
    case atStart => exact ⟨0, [], rfl, by omega, rfl, zt_new w, ((Mod.refl _ _).alloc _).alloc _⟩
    case round =>
      obtain ⟨j, oe, rfl, hj, he2, hz, hk⟩ := hrel
      have HJ := Lib.hid hj
      have HE2 := Lib.hid he2
      have HZ := Lib.hid hz
      have HK := Lib.hid hk
      have hjl : j ≤ l.length := by omega
      clear hj he2 hz hk
      by_cases hlt : j < l.length
      · obtain ⟨b1, o1, c1', e1, hb1, g1⟩ := HV.out.at hlt
        injection e1 with e1 _ e1'
        subst e1 e1'
        obtain ⟨q1, q2, q3⟩ := zC_get l j hlt
        have f1 := (HK.out.cell (p := ⟨b1, o1 + j * 3, none⟩) hb1 (fun e => e)).trans (g1 _ _ q1)
        have f2 := (HK.out.cell (p := ⟨b1, o1 + (j * 3 + 1), none⟩) hb1 (fun e => e)).trans (g1 _ _ q2)
        have f3 := (HK.out.cell (p := ⟨b1, o1 + (j * 3 + 2), none⟩) hb1 (fun e => e)).trans (g1 _ _ q3)
        rw [← Nat.add_assoc] at f2 f3
        have i1 : (j : Int) < l.length := by omega
        have hsz := HL.out _ (List.getElem_mem hlt)
        have htk : l.take (j + 1) = l.take j ++ [l[j]'hlt] := by rw [List.take_add_one, List.getElem?_eq_getElem hlt]; rfl
        have hdr : l.drop j = l[j]'hlt :: l.drop (j + 1) := List.drop_eq_getElem_cons hlt
        have HT := Lib.hid (And.intro htk hdr)
        clear htk hdr g1 q1 q2 q3
        generalize l[j]'hlt = z at *
        obtain ⟨n, p, t⟩ := z
        simp only at f1 f2 f3 hsz
        have HSZ := Lib.hid hsz
        clear hsz
        have hgx : (wr.alloc (.cells #[.string n, .int .u8 p, .int .u16 t] 35)).cell? ⟨wr.heap.size, 0, none⟩ = some (.string n) := (Blk.new _ _ _).cell 0
        have hgp : (wr.alloc (.cells #[.string n, .int .u8 p, .int .u16 t] 35)).cell? ⟨wr.heap.size, 1, none⟩ = some (.int .u8 p) := (Blk.new _ _ _).cell 1
        have HC := Lib.hid (And.intro hgx hgp)
        have CM := Lib.hid (fun w => may_any n HSZ.out w)
        have CF := Lib.hid (fun w => fold_any n HSZ.out w)
        have HBAD : Hid (okZ ⟨n, p, t⟩ = false → newE l = 3) := Lib.hid (fun h => by rw [HE.out, ← HE2.out, HT.out.2]; exact errT_bad h)
        cases hm : mayN (bys n) with
        | false =>
          have HB3 := Lib.hid (HBAD.out (okZ_no_may hm))
          rw [hm] at CM
          clear hm HBAD
          go_wp2_with fail
          refine wp_region_held_drew (S := (fun w' => w'.cell? ⟨wr.heap.size, 0, none⟩ = some (.string n) ∧ w'.cell? ⟨wr.heap.size, 1, none⟩ = some (.int .u8 p))) (by kernel_rfl) ?_ (fun hHeld => ?_)
          · (try dsimp only); first | exact HC.out | exact HC3.out | exact HC4.out
          refine regH_take 0 22 (v := ?_) rfl rfl (by kernel_rfl) (by kernel_rfl) (by kernel_rfl) (fun _ _ _ h => h) (by rfl) (by assumption) ?_ ?_
          rotate_left
          · (intro w hSw; (try dsimp only at hSw); go_simp); try (with_reducible rfl)
          try simp only [Act.put, List.setIfInBounds_toArray, List.set_cons_zero, List.set_cons_succ]
          refine regH_take 1 23 (v := ?_) rfl rfl (by kernel_rfl) (by kernel_rfl) (by kernel_rfl) (fun _ _ _ h => h) (by rfl) (by assumption) ?_ ?_
          rotate_left
          · (intro w hSw; (try dsimp only at hSw); go_simp); try (with_reducible rfl)
          try simp only [Act.put, List.setIfInBounds_toArray, List.set_cons_zero, List.set_cons_succ]
          refine wpAnyH_ready (rs := [2]) (by kernel_rfl) (by simp) ?_
          refine AllReadyH.cons rfl (fun K hK => ?_) AllReadyH.nil
          go_simp
          (refine (CM.out _).mono ?_; rintro e w3 ⟨rfl, m3⟩; have q31 := (m3.cell (p := ⟨wr.heap.size, 0, none⟩) (by simp) (fun e => e)).trans HC.out.1; have q32 := (m3.cell (p := ⟨wr.heap.size, 1, none⟩) (by simp) (fun e => e)).trans HC.out.2; have a1 := block_lt_of_cell q31; have HC3 := Lib.hid (And.intro q31 q32); clear q31 q32)
          try (go_wp2_with fail)
          refine hK.out _ _ ?_ (fun hHeld => ?_)
          · (try dsimp only); first | exact HC.out | exact HC3.out | exact HC4.out
          clear hK K
          try simp only [Act.put, List.setIfInBounds_toArray, List.set_cons_zero, List.set_cons_succ]
          refine regH_take 3 25 (v := ?_) rfl rfl (by kernel_rfl) (by kernel_rfl) (by kernel_rfl) (fun _ _ _ h => h) (by rfl) (by assumption) ?_ ?_
          rotate_left
          · (intro w hSw; (try dsimp only at hSw); go_simp); try (with_reducible rfl)
          try simp only [Act.put, List.setIfInBounds_toArray, List.set_cons_zero, List.set_cons_succ]
          refine regH_take 4 26 (v := ?_) rfl rfl (by kernel_rfl) (by kernel_rfl) (by kernel_rfl) (fun _ _ _ h => h) (by rfl) (by assumption) ?_ ?_
          rotate_left
          · (intro w hSw; (try dsimp only at hSw); go_simp); try (with_reducible rfl)
          try simp only [Act.put, List.setIfInBounds_toArray, List.set_cons_zero, List.set_cons_succ]
          refine regH_skip 5 27 rfl rfl (by kernel_rfl) (by kernel_rfl) (by kernel_rfl) (fun _ _ _ h => h) (by rfl) (by assumption) ?_
          try simp only [Act.put, List.setIfInBounds_toArray, List.set_cons_zero, List.set_cons_succ]
          refine regH_skip 6 28 rfl rfl (by kernel_rfl) (by kernel_rfl) (by kernel_rfl) (fun _ _ _ h => h) (by rfl) (by assumption) ?_
          try simp only [Act.put, List.setIfInBounds_toArray, List.set_cons_zero, List.set_cons_succ]
          refine regH_skip 7 29 rfl rfl (by kernel_rfl) (by kernel_rfl) (by kernel_rfl) (fun _ _ _ h => h) (by rfl) (by assumption) ?_
          try simp only [Act.put, List.setIfInBounds_toArray, List.set_cons_zero, List.set_cons_succ]
          refine regH_skip 8 30 rfl rfl (by kernel_rfl) (by kernel_rfl) (by kernel_rfl) (fun _ _ _ h => h) (by rfl) (by assumption) ?_
          try simp only [Act.put, List.setIfInBounds_toArray, List.set_cons_zero, List.set_cons_succ]
          refine regH_skip 9 31 rfl rfl (by kernel_rfl) (by kernel_rfl) (by kernel_rfl) (fun _ _ _ h => h) (by rfl) (by assumption) ?_
          try simp only [Act.put, List.setIfInBounds_toArray, List.set_cons_zero, List.set_cons_succ]
          refine regH_skip 10 32 rfl rfl (by kernel_rfl) (by kernel_rfl) (by kernel_rfl) (fun _ _ _ h => h) (by rfl) (by assumption) ?_
          try simp only [Act.put, List.setIfInBounds_toArray, List.set_cons_zero, List.set_cons_succ]
          refine regH_take 11 33 (v := ?_) rfl rfl (by kernel_rfl) (by kernel_rfl) (by kernel_rfl) (fun _ _ _ h => h) (by rfl) (by assumption) ?_ ?_
          rotate_left
          · (intro w hSw; (try dsimp only at hSw); go_simp); try (with_reducible rfl)
          try simp only [Act.put, List.setIfInBounds_toArray, List.set_cons_zero, List.set_cons_succ]
          refine regH_take 12 34 (v := ?_) rfl rfl (by kernel_rfl) (by kernel_rfl) (by kernel_rfl) (fun _ _ _ h => h) (by rfl) (by assumption) ?_ ?_
          rotate_left
          · (intro w hSw; (try dsimp only at hSw); go_simp); try (with_reducible rfl)
          try simp only [Act.put, List.setIfInBounds_toArray, List.set_cons_zero, List.set_cons_succ]
          refine regH_skip 13 35 rfl rfl (by kernel_rfl) (by kernel_rfl) (by kernel_rfl) (fun _ _ _ h => h) (by rfl) (by assumption) ?_
          try simp only [Act.put, List.setIfInBounds_toArray, List.set_cons_zero, List.set_cons_succ]
          refine regH_skip 14 36 rfl rfl (by kernel_rfl) (by kernel_rfl) (by kernel_rfl) (fun _ _ _ h => h) (by rfl) (by assumption) ?_
          try simp only [Act.put, List.setIfInBounds_toArray, List.set_cons_zero, List.set_cons_succ]
          refine regH_skip 15 37 rfl rfl (by kernel_rfl) (by kernel_rfl) (by kernel_rfl) (fun _ _ _ h => h) (by rfl) (by assumption) ?_
          try simp only [Act.put, List.setIfInBounds_toArray, List.set_cons_zero, List.set_cons_succ]
          refine regH_take 16 38 (v := ?_) rfl rfl (by kernel_rfl) (by kernel_rfl) (by kernel_rfl) (fun _ _ _ h => h) (by rfl) (by assumption) ?_ ?_
          rotate_left
          · (intro w hSw; (try dsimp only at hSw); go_simp); try (with_reducible rfl)
          try simp only [Act.put, List.setIfInBounds_toArray, List.set_cons_zero, List.set_cons_succ]
          refine regH_take 17 39 (v := ?_) rfl rfl (by kernel_rfl) (by kernel_rfl) (by kernel_rfl) (fun _ _ _ h => h) (by rfl) (by assumption) ?_ ?_
          rotate_left
          · (intro w hSw; (try dsimp only at hSw); go_simp); try (with_reducible rfl)
          try simp only [Act.put, List.setIfInBounds_toArray, List.set_cons_zero, List.set_cons_succ]
          refine regH_skip 18 40 rfl rfl (by kernel_rfl) (by kernel_rfl) (by kernel_rfl) (fun _ _ _ h => h) (by rfl) (by assumption) ?_
          try simp only [Act.put, List.setIfInBounds_toArray, List.set_cons_zero, List.set_cons_succ]
          refine regH_skip 19 41 rfl rfl (by kernel_rfl) (by kernel_rfl) (by kernel_rfl) (fun _ _ _ h => h) (by rfl) (by assumption) ?_
          try simp only [Act.put, List.setIfInBounds_toArray, List.set_cons_zero, List.set_cons_succ]
          refine regH_skip 20 42 rfl rfl (by kernel_rfl) (by kernel_rfl) (by kernel_rfl) (fun _ _ _ h => h) (by rfl) (by assumption) ?_
          try simp only [Act.put, List.setIfInBounds_toArray, List.set_cons_zero, List.set_cons_succ]
          refine regH_take 21 43 (v := ?_) rfl rfl (by kernel_rfl) (by kernel_rfl) (by kernel_rfl) (fun _ _ _ h => h) (by rfl) (by assumption) ?_ ?_
          rotate_left
          · (intro w hSw; (try dsimp only at hSw); go_simp); try (with_reducible rfl)
          try simp only [Act.put, List.setIfInBounds_toArray, List.set_cons_zero, List.set_cons_succ]
          refine wpAnyH_done (by kernel_rfl) ?_ _
          go_wp2_with fail
          go_ret2
          exact ⟨((HK.out.alloc _).drew).then m3, .inl ⟨by rw [HB3.out]; decide, by rw [HB3.out]; rfl⟩⟩
        | true =>
          rw [hm] at CM
          have HM := Lib.hid hm
          clear hm
          by_cases hf : foldS n = n
          · rw [hf] at CF
            have HFO := Lib.hid hf
            clear hf
            by_cases hlo : p < 1
            · have HB3 := Lib.hid (HBAD.out (okZ_no_lo hlo))
              have d1 : decide (p < 1) = true := by simpa using hlo
              clear HBAD
              go_wp2_with fail
              refine wp_region_held_drew (S := (fun w' => w'.cell? ⟨wr.heap.size, 0, none⟩ = some (.string n) ∧ w'.cell? ⟨wr.heap.size, 1, none⟩ = some (.int .u8 p))) (by kernel_rfl) ?_ (fun hHeld => ?_)
              · (try dsimp only); first | exact HC.out | exact HC3.out | exact HC4.out
              refine regH_take 0 22 (v := ?_) rfl rfl (by kernel_rfl) (by kernel_rfl) (by kernel_rfl) (fun _ _ _ h => h) (by rfl) (by assumption) ?_ ?_
              rotate_left
              · (intro w hSw; (try dsimp only at hSw); go_simp); try (with_reducible rfl)
              try simp only [Act.put, List.setIfInBounds_toArray, List.set_cons_zero, List.set_cons_succ]
              refine regH_take 1 23 (v := ?_) rfl rfl (by kernel_rfl) (by kernel_rfl) (by kernel_rfl) (fun _ _ _ h => h) (by rfl) (by assumption) ?_ ?_
              rotate_left
              · (intro w hSw; (try dsimp only at hSw); go_simp); try (with_reducible rfl)
              try simp only [Act.put, List.setIfInBounds_toArray, List.set_cons_zero, List.set_cons_succ]
              refine wpAnyH_ready (rs := [2]) (by kernel_rfl) (by simp) ?_
              refine AllReadyH.cons rfl (fun K hK => ?_) AllReadyH.nil
              go_simp
              (refine (CM.out _).mono ?_; rintro e w3 ⟨rfl, m3⟩; have q31 := (m3.cell (p := ⟨wr.heap.size, 0, none⟩) (by simp) (fun e => e)).trans HC.out.1; have q32 := (m3.cell (p := ⟨wr.heap.size, 1, none⟩) (by simp) (fun e => e)).trans HC.out.2; have a1 := block_lt_of_cell q31; have HC3 := Lib.hid (And.intro q31 q32); clear q31 q32)
              try (go_wp2_with fail)
              refine hK.out _ _ ?_ (fun hHeld => ?_)
              · (try dsimp only); first | exact HC.out | exact HC3.out | exact HC4.out
              clear hK K
              try simp only [Act.put, List.setIfInBounds_toArray, List.set_cons_zero, List.set_cons_succ]
              refine regH_take 3 25 (v := ?_) rfl rfl (by kernel_rfl) (by kernel_rfl) (by kernel_rfl) (fun _ _ _ h => h) (by rfl) (by assumption) ?_ ?_
              rotate_left
              · (intro w hSw; (try dsimp only at hSw); go_simp); try (with_reducible rfl)
              try simp only [Act.put, List.setIfInBounds_toArray, List.set_cons_zero, List.set_cons_succ]
              refine regH_take 4 26 (v := ?_) rfl rfl (by kernel_rfl) (by kernel_rfl) (by kernel_rfl) (fun _ _ _ h => h) (by rfl) (by assumption) ?_ ?_
              rotate_left
              · (intro w hSw; (try dsimp only at hSw); go_simp); try (with_reducible rfl)
              try simp only [Act.put, List.setIfInBounds_toArray, List.set_cons_zero, List.set_cons_succ]
              refine regH_take 5 27 (v := ?_) rfl rfl (by kernel_rfl) (by kernel_rfl) (by kernel_rfl) (fun _ _ _ h => h) (by rfl) (by assumption) ?_ ?_
              rotate_left
              · (intro w hSw; (try dsimp only at hSw); go_simp); try (with_reducible rfl)
              try simp only [Act.put, List.setIfInBounds_toArray, List.set_cons_zero, List.set_cons_succ]
              refine regH_take 6 28 (v := ?_) rfl rfl (by kernel_rfl) (by kernel_rfl) (by kernel_rfl) (fun _ _ _ h => h) (by rfl) (by assumption) ?_ ?_
              rotate_left
              · (intro w hSw; (try dsimp only at hSw); go_simp); try (with_reducible rfl)
              try simp only [Act.put, List.setIfInBounds_toArray, List.set_cons_zero, List.set_cons_succ]
              refine regH_take 8 30 (v := ?_) rfl rfl (by kernel_rfl) (by kernel_rfl) (by kernel_rfl) (fun _ _ _ h => h) (by rfl) (by assumption) ?_ ?_
              rotate_left
              · (intro w hSw; (try dsimp only at hSw); go_simp); try (with_reducible rfl)
              try simp only [Act.put, List.setIfInBounds_toArray, List.set_cons_zero, List.set_cons_succ]
              refine regH_take 9 31 (v := ?_) rfl rfl (by kernel_rfl) (by kernel_rfl) (by kernel_rfl) (fun _ _ _ h => h) (by rfl) (by assumption) ?_ ?_
              rotate_left
              · (intro w hSw; (try dsimp only at hSw); go_simp); try (with_reducible rfl)
              try simp only [Act.put, List.setIfInBounds_toArray, List.set_cons_zero, List.set_cons_succ]
              refine wpAnyH_ready (rs := [7]) (by kernel_rfl) (by simp) ?_
              refine AllReadyH.cons rfl (fun K hK => ?_) AllReadyH.nil
              go_simp
              (refine (CF.out _).mono ?_; rintro e w4 ⟨rfl, m4⟩; have q41 := (m4.cell (p := ⟨wr.heap.size, 0, none⟩) a1 (fun e => e)).trans HC3.out.1; have q42 := (m4.cell (p := ⟨wr.heap.size, 1, none⟩) a1 (fun e => e)).trans HC3.out.2; have HC4 := Lib.hid (And.intro q41 q42); clear q42)
              try (go_wp2_with fail)
              refine hK.out _ _ ?_ (fun hHeld => ?_)
              · (try dsimp only); first | exact HC.out | exact HC3.out | exact HC4.out
              clear hK K
              try simp only [Act.put, List.setIfInBounds_toArray, List.set_cons_zero, List.set_cons_succ]
              refine regH_take 10 32 (v := ?_) rfl rfl (by kernel_rfl) (by kernel_rfl) (by kernel_rfl) (fun _ _ _ h => h) (by rfl) (by assumption) ?_ ?_
              rotate_left
              · (intro w hSw; (try dsimp only at hSw); go_simp); try (with_reducible rfl)
              try simp only [Act.put, List.setIfInBounds_toArray, List.set_cons_zero, List.set_cons_succ]
              refine regH_take 11 33 (v := ?_) rfl rfl (by kernel_rfl) (by kernel_rfl) (by kernel_rfl) (fun _ _ _ h => h) (by rfl) (by assumption) ?_ ?_
              rotate_left
              · (intro w hSw; (try dsimp only at hSw); go_simp); try (with_reducible rfl)
              try simp only [Act.put, List.setIfInBounds_toArray, List.set_cons_zero, List.set_cons_succ]
              refine regH_take 12 34 (v := ?_) rfl rfl (by kernel_rfl) (by kernel_rfl) (by kernel_rfl) (fun _ _ _ h => h) (by rfl) (by assumption) ?_ ?_
              rotate_left
              · (intro w hSw; (try dsimp only at hSw); go_simp); try (with_reducible rfl)
              try simp only [Act.put, List.setIfInBounds_toArray, List.set_cons_zero, List.set_cons_succ]
              refine regH_take 13 35 (v := ?_) rfl rfl (by kernel_rfl) (by kernel_rfl) (by kernel_rfl) (fun _ _ _ h => h) (by rfl) (by assumption) ?_ ?_
              rotate_left
              · (intro w hSw; (try dsimp only at hSw); go_simp); try (with_reducible rfl)
              try simp only [Act.put, List.setIfInBounds_toArray, List.set_cons_zero, List.set_cons_succ]
              refine regH_take 14 36 (v := ?_) rfl rfl (by kernel_rfl) (by kernel_rfl) (by kernel_rfl) (fun _ _ _ h => h) (by rfl) (by assumption) ?_ ?_
              rotate_left
              · (intro w hSw; (try dsimp only at hSw); go_simp); try (with_reducible rfl)
              try simp only [Act.put, List.setIfInBounds_toArray, List.set_cons_zero, List.set_cons_succ]
              refine regH_take 15 37 (v := ?_) rfl rfl (by kernel_rfl) (by kernel_rfl) (by kernel_rfl) (fun _ _ _ h => h) (by rfl) (by assumption) ?_ ?_
              rotate_left
              · (intro w hSw; (try dsimp only at hSw); go_simp); try (with_reducible rfl)
              try simp only [Act.put, List.setIfInBounds_toArray, List.set_cons_zero, List.set_cons_succ]
              refine regH_take 16 38 (v := ?_) rfl rfl (by kernel_rfl) (by kernel_rfl) (by kernel_rfl) (fun _ _ _ h => h) (by rfl) (by assumption) ?_ ?_
              rotate_left
              · (intro w hSw; (try dsimp only at hSw); go_simp); try (with_reducible rfl)
              try simp only [Act.put, List.setIfInBounds_toArray, List.set_cons_zero, List.set_cons_succ]
              refine regH_take 17 39 (v := ?_) rfl rfl (by kernel_rfl) (by kernel_rfl) (by kernel_rfl) (fun _ _ _ h => h) (by rfl) (by assumption) ?_ ?_
              rotate_left
              · (intro w hSw; (try dsimp only at hSw); go_simp); try (with_reducible rfl)
              try simp only [Act.put, List.setIfInBounds_toArray, List.set_cons_zero, List.set_cons_succ]
              refine regH_skip 18 40 rfl rfl (by kernel_rfl) (by kernel_rfl) (by kernel_rfl) (fun _ _ _ h => h) (by rfl) (by assumption) ?_
              try simp only [Act.put, List.setIfInBounds_toArray, List.set_cons_zero, List.set_cons_succ]
              refine regH_skip 19 41 rfl rfl (by kernel_rfl) (by kernel_rfl) (by kernel_rfl) (fun _ _ _ h => h) (by rfl) (by assumption) ?_
              try simp only [Act.put, List.setIfInBounds_toArray, List.set_cons_zero, List.set_cons_succ]
              refine regH_skip 20 42 rfl rfl (by kernel_rfl) (by kernel_rfl) (by kernel_rfl) (fun _ _ _ h => h) (by rfl) (by assumption) ?_
              try simp only [Act.put, List.setIfInBounds_toArray, List.set_cons_zero, List.set_cons_succ]
              refine regH_take 21 43 (v := ?_) rfl rfl (by kernel_rfl) (by kernel_rfl) (by kernel_rfl) (fun _ _ _ h => h) (by rfl) (by assumption) ?_ ?_
              rotate_left
              · (intro w hSw; (try dsimp only at hSw); go_simp); try (with_reducible rfl)
              try simp only [Act.put, List.setIfInBounds_toArray, List.set_cons_zero, List.set_cons_succ]
              refine wpAnyH_done (by kernel_rfl) ?_ _
              go_wp2_with fail
              go_ret2
              exact ⟨(((HK.out.alloc _).drew).then m3).then m4, .inl ⟨by rw [HB3.out]; decide, by rw [HB3.out]; rfl⟩⟩
            · by_cases hhi : 4 < p
              · have HB3 := Lib.hid (HBAD.out (okZ_no_hi hhi))
                have hlo2 : 1 ≤ p := by omega
                have d1 : decide (p < 1) = false := by simp; omega
                have d2 : decide (4 < p) = true := by simpa using hhi
                clear HBAD
                go_wp2_with fail
                refine wp_region_held_drew (S := (fun w' => w'.cell? ⟨wr.heap.size, 0, none⟩ = some (.string n) ∧ w'.cell? ⟨wr.heap.size, 1, none⟩ = some (.int .u8 p))) (by kernel_rfl) ?_ (fun hHeld => ?_)
                · (try dsimp only); first | exact HC.out | exact HC3.out | exact HC4.out
                refine regH_take 0 22 (v := ?_) rfl rfl (by kernel_rfl) (by kernel_rfl) (by kernel_rfl) (fun _ _ _ h => h) (by rfl) (by assumption) ?_ ?_
                rotate_left
                · (intro w hSw; (try dsimp only at hSw); go_simp); try (with_reducible rfl)
                try simp only [Act.put, List.setIfInBounds_toArray, List.set_cons_zero, List.set_cons_succ]
                refine regH_take 1 23 (v := ?_) rfl rfl (by kernel_rfl) (by kernel_rfl) (by kernel_rfl) (fun _ _ _ h => h) (by rfl) (by assumption) ?_ ?_
                rotate_left
                · (intro w hSw; (try dsimp only at hSw); go_simp); try (with_reducible rfl)
                try simp only [Act.put, List.setIfInBounds_toArray, List.set_cons_zero, List.set_cons_succ]
                refine wpAnyH_ready (rs := [2]) (by kernel_rfl) (by simp) ?_
                refine AllReadyH.cons rfl (fun K hK => ?_) AllReadyH.nil
                go_simp
                (refine (CM.out _).mono ?_; rintro e w3 ⟨rfl, m3⟩; have q31 := (m3.cell (p := ⟨wr.heap.size, 0, none⟩) (by simp) (fun e => e)).trans HC.out.1; have q32 := (m3.cell (p := ⟨wr.heap.size, 1, none⟩) (by simp) (fun e => e)).trans HC.out.2; have a1 := block_lt_of_cell q31; have HC3 := Lib.hid (And.intro q31 q32); clear q31 q32)
                try (go_wp2_with fail)
                refine hK.out _ _ ?_ (fun hHeld => ?_)
                · (try dsimp only); first | exact HC.out | exact HC3.out | exact HC4.out
                clear hK K
                try simp only [Act.put, List.setIfInBounds_toArray, List.set_cons_zero, List.set_cons_succ]
                refine regH_take 3 25 (v := ?_) rfl rfl (by kernel_rfl) (by kernel_rfl) (by kernel_rfl) (fun _ _ _ h => h) (by rfl) (by assumption) ?_ ?_
                rotate_left
                · (intro w hSw; (try dsimp only at hSw); go_simp); try (with_reducible rfl)
                try simp only [Act.put, List.setIfInBounds_toArray, List.set_cons_zero, List.set_cons_succ]
                refine regH_take 4 26 (v := ?_) rfl rfl (by kernel_rfl) (by kernel_rfl) (by kernel_rfl) (fun _ _ _ h => h) (by rfl) (by assumption) ?_ ?_
                rotate_left
                · (intro w hSw; (try dsimp only at hSw); go_simp); try (with_reducible rfl)
                try simp only [Act.put, List.setIfInBounds_toArray, List.set_cons_zero, List.set_cons_succ]
                refine regH_take 5 27 (v := ?_) rfl rfl (by kernel_rfl) (by kernel_rfl) (by kernel_rfl) (fun _ _ _ h => h) (by rfl) (by assumption) ?_ ?_
                rotate_left
                · (intro w hSw; (try dsimp only at hSw); go_simp); try (with_reducible rfl)
                try simp only [Act.put, List.setIfInBounds_toArray, List.set_cons_zero, List.set_cons_succ]
                refine regH_take 6 28 (v := ?_) rfl rfl (by kernel_rfl) (by kernel_rfl) (by kernel_rfl) (fun _ _ _ h => h) (by rfl) (by assumption) ?_ ?_
                rotate_left
                · (intro w hSw; (try dsimp only at hSw); go_simp); try (with_reducible rfl)
                try simp only [Act.put, List.setIfInBounds_toArray, List.set_cons_zero, List.set_cons_succ]
                refine regH_take 8 30 (v := ?_) rfl rfl (by kernel_rfl) (by kernel_rfl) (by kernel_rfl) (fun _ _ _ h => h) (by rfl) (by assumption) ?_ ?_
                rotate_left
                · (intro w hSw; (try dsimp only at hSw); go_simp); try (with_reducible rfl)
                try simp only [Act.put, List.setIfInBounds_toArray, List.set_cons_zero, List.set_cons_succ]
                refine regH_take 9 31 (v := ?_) rfl rfl (by kernel_rfl) (by kernel_rfl) (by kernel_rfl) (fun _ _ _ h => h) (by rfl) (by assumption) ?_ ?_
                rotate_left
                · (intro w hSw; (try dsimp only at hSw); go_simp); try (with_reducible rfl)
                try simp only [Act.put, List.setIfInBounds_toArray, List.set_cons_zero, List.set_cons_succ]
                refine wpAnyH_ready (rs := [7]) (by kernel_rfl) (by simp) ?_
                refine AllReadyH.cons rfl (fun K hK => ?_) AllReadyH.nil
                go_simp
                (refine (CF.out _).mono ?_; rintro e w4 ⟨rfl, m4⟩; have q41 := (m4.cell (p := ⟨wr.heap.size, 0, none⟩) a1 (fun e => e)).trans HC3.out.1; have q42 := (m4.cell (p := ⟨wr.heap.size, 1, none⟩) a1 (fun e => e)).trans HC3.out.2; have HC4 := Lib.hid (And.intro q41 q42); clear q42)
                try (go_wp2_with fail)
                refine hK.out _ _ ?_ (fun hHeld => ?_)
                · (try dsimp only); first | exact HC.out | exact HC3.out | exact HC4.out
                clear hK K
                try simp only [Act.put, List.setIfInBounds_toArray, List.set_cons_zero, List.set_cons_succ]
                refine regH_take 10 32 (v := ?_) rfl rfl (by kernel_rfl) (by kernel_rfl) (by kernel_rfl) (fun _ _ _ h => h) (by rfl) (by assumption) ?_ ?_
                rotate_left
                · (intro w hSw; (try dsimp only at hSw); go_simp); try (with_reducible rfl)
                try simp only [Act.put, List.setIfInBounds_toArray, List.set_cons_zero, List.set_cons_succ]
                refine regH_take 11 33 (v := ?_) rfl rfl (by kernel_rfl) (by kernel_rfl) (by kernel_rfl) (fun _ _ _ h => h) (by rfl) (by assumption) ?_ ?_
                rotate_left
                · (intro w hSw; (try dsimp only at hSw); go_simp); try (with_reducible rfl)
                try simp only [Act.put, List.setIfInBounds_toArray, List.set_cons_zero, List.set_cons_succ]
                refine regH_take 12 34 (v := ?_) rfl rfl (by kernel_rfl) (by kernel_rfl) (by kernel_rfl) (fun _ _ _ h => h) (by rfl) (by assumption) ?_ ?_
                rotate_left
                · (intro w hSw; (try dsimp only at hSw); go_simp); try (with_reducible rfl)
                try simp only [Act.put, List.setIfInBounds_toArray, List.set_cons_zero, List.set_cons_succ]
                refine regH_take 13 35 (v := ?_) rfl rfl (by kernel_rfl) (by kernel_rfl) (by kernel_rfl) (fun _ _ _ h => h) (by rfl) (by assumption) ?_ ?_
                rotate_left
                · (intro w hSw; (try dsimp only at hSw); go_simp); try (with_reducible rfl)
                try simp only [Act.put, List.setIfInBounds_toArray, List.set_cons_zero, List.set_cons_succ]
                refine regH_take 14 36 (v := ?_) rfl rfl (by kernel_rfl) (by kernel_rfl) (by kernel_rfl) (fun _ _ _ h => h) (by rfl) (by assumption) ?_ ?_
                rotate_left
                · (intro w hSw; (try dsimp only at hSw); go_simp); try (with_reducible rfl)
                try simp only [Act.put, List.setIfInBounds_toArray, List.set_cons_zero, List.set_cons_succ]
                refine regH_take 15 37 (v := ?_) rfl rfl (by kernel_rfl) (by kernel_rfl) (by kernel_rfl) (fun _ _ _ h => h) (by rfl) (by assumption) ?_ ?_
                rotate_left
                · (intro w hSw; (try dsimp only at hSw); go_simp); try (with_reducible rfl)
                try simp only [Act.put, List.setIfInBounds_toArray, List.set_cons_zero, List.set_cons_succ]
                refine regH_take 16 38 (v := ?_) rfl rfl (by kernel_rfl) (by kernel_rfl) (by kernel_rfl) (fun _ _ _ h => h) (by rfl) (by assumption) ?_ ?_
                rotate_left
                · (intro w hSw; (try dsimp only at hSw); go_simp); try (with_reducible rfl)
                try simp only [Act.put, List.setIfInBounds_toArray, List.set_cons_zero, List.set_cons_succ]
                refine regH_take 17 39 (v := ?_) rfl rfl (by kernel_rfl) (by kernel_rfl) (by kernel_rfl) (fun _ _ _ h => h) (by rfl) (by assumption) ?_ ?_
                rotate_left
                · (intro w hSw; (try dsimp only at hSw); go_simp); try (with_reducible rfl)
                try simp only [Act.put, List.setIfInBounds_toArray, List.set_cons_zero, List.set_cons_succ]
                refine regH_take 18 40 (v := ?_) rfl rfl (by kernel_rfl) (by kernel_rfl) (by kernel_rfl) (fun _ _ _ h => h) (by rfl) (by assumption) ?_ ?_
                rotate_left
                · (intro w hSw; (try dsimp only at hSw); go_simp); try (with_reducible rfl)
                try simp only [Act.put, List.setIfInBounds_toArray, List.set_cons_zero, List.set_cons_succ]
                refine regH_take 19 41 (v := ?_) rfl rfl (by kernel_rfl) (by kernel_rfl) (by kernel_rfl) (fun _ _ _ h => h) (by rfl) (by assumption) ?_ ?_
                rotate_left
                · (intro w hSw; (try dsimp only at hSw); go_simp); try (with_reducible rfl)
                try simp only [Act.put, List.setIfInBounds_toArray, List.set_cons_zero, List.set_cons_succ]
                refine regH_take 20 42 (v := ?_) rfl rfl (by kernel_rfl) (by kernel_rfl) (by kernel_rfl) (fun _ _ _ h => h) (by rfl) (by assumption) ?_ ?_
                rotate_left
                · (intro w hSw; (try dsimp only at hSw); go_simp); try (with_reducible rfl)
                try simp only [Act.put, List.setIfInBounds_toArray, List.set_cons_zero, List.set_cons_succ]
                refine regH_take 21 43 (v := ?_) rfl rfl (by kernel_rfl) (by kernel_rfl) (by kernel_rfl) (fun _ _ _ h => h) (by rfl) (by assumption) ?_ ?_
                rotate_left
                · (intro w hSw; (try dsimp only at hSw); go_simp); try (with_reducible rfl)
                try simp only [Act.put, List.setIfInBounds_toArray, List.set_cons_zero, List.set_cons_succ]
                refine wpAnyH_done (by kernel_rfl) ?_ _
                go_wp2_with fail
                go_ret2
                exact ⟨(((HK.out.alloc _).drew).then m3).then m4, .inl ⟨by rw [HB3.out]; decide, by rw [HB3.out]; rfl⟩⟩
              · have hlo2 : 1 ≤ p := by omega
                have hhi2 : p ≤ 4 := by omega
                have HOK : Hid (okZ ⟨n, p, t⟩ = true) := Lib.hid (by unfold okZ; simp [HM.out, HFO.out, hlo2, hhi2])
                clear HBAD hlo hhi
                have d1 : decide (p < 1) = false := by simp; omega
                have d2 : decide (4 < p) = false := by simp; omega
                go_wp2_with fail
                refine wp_region_held_drew (S := (fun w' => w'.cell? ⟨wr.heap.size, 0, none⟩ = some (.string n) ∧ w'.cell? ⟨wr.heap.size, 1, none⟩ = some (.int .u8 p))) (by kernel_rfl) ?_ (fun hHeld => ?_)
                · (try dsimp only); first | exact HC.out | exact HC3.out | exact HC4.out
                refine regH_take 0 22 (v := ?_) rfl rfl (by kernel_rfl) (by kernel_rfl) (by kernel_rfl) (fun _ _ _ h => h) (by rfl) (by assumption) ?_ ?_
                rotate_left
                · (intro w hSw; (try dsimp only at hSw); go_simp); try (with_reducible rfl)
                try simp only [Act.put, List.setIfInBounds_toArray, List.set_cons_zero, List.set_cons_succ]
                refine regH_take 1 23 (v := ?_) rfl rfl (by kernel_rfl) (by kernel_rfl) (by kernel_rfl) (fun _ _ _ h => h) (by rfl) (by assumption) ?_ ?_
                rotate_left
                · (intro w hSw; (try dsimp only at hSw); go_simp); try (with_reducible rfl)
                try simp only [Act.put, List.setIfInBounds_toArray, List.set_cons_zero, List.set_cons_succ]
                refine wpAnyH_ready (rs := [2]) (by kernel_rfl) (by simp) ?_
                refine AllReadyH.cons rfl (fun K hK => ?_) AllReadyH.nil
                go_simp
                (refine (CM.out _).mono ?_; rintro e w3 ⟨rfl, m3⟩; have q31 := (m3.cell (p := ⟨wr.heap.size, 0, none⟩) (by simp) (fun e => e)).trans HC.out.1; have q32 := (m3.cell (p := ⟨wr.heap.size, 1, none⟩) (by simp) (fun e => e)).trans HC.out.2; have a1 := block_lt_of_cell q31; have HC3 := Lib.hid (And.intro q31 q32); clear q31 q32)
                try (go_wp2_with fail)
                refine hK.out _ _ ?_ (fun hHeld => ?_)
                · (try dsimp only); first | exact HC.out | exact HC3.out | exact HC4.out
                clear hK K
                try simp only [Act.put, List.setIfInBounds_toArray, List.set_cons_zero, List.set_cons_succ]
                refine regH_take 3 25 (v := ?_) rfl rfl (by kernel_rfl) (by kernel_rfl) (by kernel_rfl) (fun _ _ _ h => h) (by rfl) (by assumption) ?_ ?_
                rotate_left
                · (intro w hSw; (try dsimp only at hSw); go_simp); try (with_reducible rfl)
                try simp only [Act.put, List.setIfInBounds_toArray, List.set_cons_zero, List.set_cons_succ]
                refine regH_take 4 26 (v := ?_) rfl rfl (by kernel_rfl) (by kernel_rfl) (by kernel_rfl) (fun _ _ _ h => h) (by rfl) (by assumption) ?_ ?_
                rotate_left
                · (intro w hSw; (try dsimp only at hSw); go_simp); try (with_reducible rfl)
                try simp only [Act.put, List.setIfInBounds_toArray, List.set_cons_zero, List.set_cons_succ]
                refine regH_take 5 27 (v := ?_) rfl rfl (by kernel_rfl) (by kernel_rfl) (by kernel_rfl) (fun _ _ _ h => h) (by rfl) (by assumption) ?_ ?_
                rotate_left
                · (intro w hSw; (try dsimp only at hSw); go_simp); try (with_reducible rfl)
                try simp only [Act.put, List.setIfInBounds_toArray, List.set_cons_zero, List.set_cons_succ]
                refine regH_take 6 28 (v := ?_) rfl rfl (by kernel_rfl) (by kernel_rfl) (by kernel_rfl) (fun _ _ _ h => h) (by rfl) (by assumption) ?_ ?_
                rotate_left
                · (intro w hSw; (try dsimp only at hSw); go_simp); try (with_reducible rfl)
                try simp only [Act.put, List.setIfInBounds_toArray, List.set_cons_zero, List.set_cons_succ]
                refine regH_take 8 30 (v := ?_) rfl rfl (by kernel_rfl) (by kernel_rfl) (by kernel_rfl) (fun _ _ _ h => h) (by rfl) (by assumption) ?_ ?_
                rotate_left
                · (intro w hSw; (try dsimp only at hSw); go_simp); try (with_reducible rfl)
                try simp only [Act.put, List.setIfInBounds_toArray, List.set_cons_zero, List.set_cons_succ]
                refine regH_take 9 31 (v := ?_) rfl rfl (by kernel_rfl) (by kernel_rfl) (by kernel_rfl) (fun _ _ _ h => h) (by rfl) (by assumption) ?_ ?_
                rotate_left
                · (intro w hSw; (try dsimp only at hSw); go_simp); try (with_reducible rfl)
                try simp only [Act.put, List.setIfInBounds_toArray, List.set_cons_zero, List.set_cons_succ]
                refine wpAnyH_ready (rs := [7]) (by kernel_rfl) (by simp) ?_
                refine AllReadyH.cons rfl (fun K hK => ?_) AllReadyH.nil
                go_simp
                (refine (CF.out _).mono ?_; rintro e w4 ⟨rfl, m4⟩; have q41 := (m4.cell (p := ⟨wr.heap.size, 0, none⟩) a1 (fun e => e)).trans HC3.out.1; have q42 := (m4.cell (p := ⟨wr.heap.size, 1, none⟩) a1 (fun e => e)).trans HC3.out.2; have HC4 := Lib.hid (And.intro q41 q42); clear q42)
                try (go_wp2_with fail)
                refine hK.out _ _ ?_ (fun hHeld => ?_)
                · (try dsimp only); first | exact HC.out | exact HC3.out | exact HC4.out
                clear hK K
                try simp only [Act.put, List.setIfInBounds_toArray, List.set_cons_zero, List.set_cons_succ]
                refine regH_take 10 32 (v := ?_) rfl rfl (by kernel_rfl) (by kernel_rfl) (by kernel_rfl) (fun _ _ _ h => h) (by rfl) (by assumption) ?_ ?_
                rotate_left
                · (intro w hSw; (try dsimp only at hSw); go_simp); try (with_reducible rfl)
                try simp only [Act.put, List.setIfInBounds_toArray, List.set_cons_zero, List.set_cons_succ]
                refine regH_take 11 33 (v := ?_) rfl rfl (by kernel_rfl) (by kernel_rfl) (by kernel_rfl) (fun _ _ _ h => h) (by rfl) (by assumption) ?_ ?_
                rotate_left
                · (intro w hSw; (try dsimp only at hSw); go_simp); try (with_reducible rfl)
                try simp only [Act.put, List.setIfInBounds_toArray, List.set_cons_zero, List.set_cons_succ]
                refine regH_take 12 34 (v := ?_) rfl rfl (by kernel_rfl) (by kernel_rfl) (by kernel_rfl) (fun _ _ _ h => h) (by rfl) (by assumption) ?_ ?_
                rotate_left
                · (intro w hSw; (try dsimp only at hSw); go_simp); try (with_reducible rfl)
                try simp only [Act.put, List.setIfInBounds_toArray, List.set_cons_zero, List.set_cons_succ]
                refine regH_take 13 35 (v := ?_) rfl rfl (by kernel_rfl) (by kernel_rfl) (by kernel_rfl) (fun _ _ _ h => h) (by rfl) (by assumption) ?_ ?_
                rotate_left
                · (intro w hSw; (try dsimp only at hSw); go_simp); try (with_reducible rfl)
                try simp only [Act.put, List.setIfInBounds_toArray, List.set_cons_zero, List.set_cons_succ]
                refine regH_take 14 36 (v := ?_) rfl rfl (by kernel_rfl) (by kernel_rfl) (by kernel_rfl) (fun _ _ _ h => h) (by rfl) (by assumption) ?_ ?_
                rotate_left
                · (intro w hSw; (try dsimp only at hSw); go_simp); try (with_reducible rfl)
                try simp only [Act.put, List.setIfInBounds_toArray, List.set_cons_zero, List.set_cons_succ]
                refine regH_take 15 37 (v := ?_) rfl rfl (by kernel_rfl) (by kernel_rfl) (by kernel_rfl) (fun _ _ _ h => h) (by rfl) (by assumption) ?_ ?_
                rotate_left
                · (intro w hSw; (try dsimp only at hSw); go_simp); try (with_reducible rfl)
                try simp only [Act.put, List.setIfInBounds_toArray, List.set_cons_zero, List.set_cons_succ]
                refine regH_take 16 38 (v := ?_) rfl rfl (by kernel_rfl) (by kernel_rfl) (by kernel_rfl) (fun _ _ _ h => h) (by rfl) (by assumption) ?_ ?_
                rotate_left
                · (intro w hSw; (try dsimp only at hSw); go_simp); try (with_reducible rfl)
                try simp only [Act.put, List.setIfInBounds_toArray, List.set_cons_zero, List.set_cons_succ]
                refine regH_take 17 39 (v := ?_) rfl rfl (by kernel_rfl) (by kernel_rfl) (by kernel_rfl) (fun _ _ _ h => h) (by rfl) (by assumption) ?_ ?_
                rotate_left
                · (intro w hSw; (try dsimp only at hSw); go_simp); try (with_reducible rfl)
                try simp only [Act.put, List.setIfInBounds_toArray, List.set_cons_zero, List.set_cons_succ]
                refine regH_take 18 40 (v := ?_) rfl rfl (by kernel_rfl) (by kernel_rfl) (by kernel_rfl) (fun _ _ _ h => h) (by rfl) (by assumption) ?_ ?_
                rotate_left
                · (intro w hSw; (try dsimp only at hSw); go_simp); try (with_reducible rfl)
                try simp only [Act.put, List.setIfInBounds_toArray, List.set_cons_zero, List.set_cons_succ]
                refine regH_take 19 41 (v := ?_) rfl rfl (by kernel_rfl) (by kernel_rfl) (by kernel_rfl) (fun _ _ _ h => h) (by rfl) (by assumption) ?_ ?_
                rotate_left
                · (intro w hSw; (try dsimp only at hSw); go_simp); try (with_reducible rfl)
                try simp only [Act.put, List.setIfInBounds_toArray, List.set_cons_zero, List.set_cons_succ]
                refine regH_take 20 42 (v := ?_) rfl rfl (by kernel_rfl) (by kernel_rfl) (by kernel_rfl) (fun _ _ _ h => h) (by rfl) (by assumption) ?_ ?_
                rotate_left
                · (intro w hSw; (try dsimp only at hSw); go_simp); try (with_reducible rfl)
                try simp only [Act.put, List.setIfInBounds_toArray, List.set_cons_zero, List.set_cons_succ]
                refine regH_take 21 43 (v := ?_) rfl rfl (by kernel_rfl) (by kernel_rfl) (by kernel_rfl) (fun _ _ _ h => h) (by rfl) (by assumption) ?_ ?_
                rotate_left
                · (intro w hSw; (try dsimp only at hSw); go_simp); try (with_reducible rfl)
                try simp only [Act.put, List.setIfInBounds_toArray, List.set_cons_zero, List.set_cons_succ]
                refine wpAnyH_done (by kernel_rfl) ?_ _
                have mz : Kept wr w4 := (((Mod.refl _ wr).alloc (.cells #[.string n, .int .u8 p, .int .u16 t] 35)).drew.then m3).then m4
                have HK4 := Lib.hid (HK.out.then mz)
                have HZ4 := Lib.hid (HZ.out.kept mz)
                have HB4 := Lib.hid ((((Blk.new wr 35 #[.string n, .int .u8 p, .int .u16 t]).drew).mod m3 (fun e => e)).mod m4 (fun e => e))
                clear mz HC3 HC4 m3 m4 a1 hgx hgp HC
                go_wp2_with fail
                refine (labels_any n HSZ.out _).mono ?_
                rintro e w5 ⟨m5, ⟨hs, rfl⟩ | ⟨v5, L, hs, rfl, hT⟩⟩
                · exfalso
                  have := HM.out
                  unfold mayN at this
                  rw [hs] at this
                  cases this
                have hlk : L.length = labK n := by unfold labK; rw [hs]; simp [lbs]
                obtain ⟨A5, c5, rfl⟩ := hT.form
                rw [hlk]
                have HK5 := Lib.hid (HK4.out.then m5)
                have HZ5 := Lib.hid (HZ4.out.kept m5)
                have HB5 := Lib.hid (HB4.out.mod m5 (fun e => e))
                clear hs hT hlk m5 q41
                clear d1 d2
                go_wp2_with fail
                have hZ1 := HZ5.out.kept ((Mod.refl (fun _ => False) w5).drew)
                have hZ2 := HZ5.out.kept (((Mod.refl (fun _ => False) w5).alloc (.cells zn0 35)).drew)
                have hS1 : w5.cell? ⟨w.heap.size + 1, 0, none⟩ = some (.map (some w.heap.size)) ∧ w5.cell? ⟨wr.heap.size, 0, none⟩ = some (.string n) := ⟨HZ5.out.blk.cell 0, HB5.out.cell 0⟩
                have hS2 : (w5.alloc (.cells zn0 35)).drew.cell? ⟨w.heap.size + 1, 0, none⟩ = some (.map (some w.heap.size)) ∧ (w5.alloc (.cells zn0 35)).drew.cell? ⟨wr.heap.size, 0, none⟩ = some (.string n) := ⟨hZ2.blk.cell 0, ((HB5.out.alloc _).drew).cell 0⟩
                have y1 := look_by hZ1 (labK n : Int)
                have y2 := look_by hZ2 (labK n : Int)
                have x1 := look_in hZ1 n
                have x2 := look_in hZ2 n
                have hS3 : ∀ a b c, (w5.alloc (.cells #[a, b, c] 35)).drew.cell? ⟨w.heap.size + 1, 0, none⟩ = some (.map (some w.heap.size)) ∧ (w5.alloc (.cells #[a, b, c] 35)).drew.cell? ⟨wr.heap.size, 0, none⟩ = some (.string n) := fun a b c => ⟨((HZ5.out.blk.alloc _).drew).cell 0, ((HB5.out.alloc _).drew).cell 0⟩
                have HSS := Lib.hid (And.intro hS1 (And.intro hS2 hS3))
                clear hZ1 hZ2 hS1 hS2 hS3
                cases hh : hasZ (l.take j) n with
                | true =>
                  obtain ⟨zz, hzz⟩ := inV_has hh
                  rw [hzz] at x1 x2
                  have HE7 : Hid (newE l = 7) := Lib.hid (by rw [HE.out, ← HE2.out, HT.out.2]; exact errT_has HOK.out hh)
                  clear hh hzz
                  unfold znC at x1 x2
                  unfold zn0 at *
                  generalize byV oe (labK n : Int) = bv at *
                  go_region_held3 (fun w' => w'.cell? ⟨w.heap.size + 1, 0, none⟩ = some (.map (some w.heap.size)) ∧ w'.cell? ⟨wr.heap.size, 0, none⟩ = some (.string n)) (first | exact HSS.out.1 | exact HSS.out.2.1 | exact HSS.out.2.2 _ _ _) (fail)
                  all_goals
                    go_wp2_with fail
                    go_ret2
                    exact ⟨((HK5.out.alloc _).drew), .inl ⟨by rw [HE7.out]; decide, by rw [HE7.out]; rfl⟩⟩
                | false =>
                  obtain ⟨hzz, hno⟩ := inV_no hh
                  rw [hzz] at x1 x2
                  have HON : Hid (errT (l.take (j + 1)) (l.drop (j + 1)) = errT [] l) := Lib.hid (by rw [HT.out.1, ← HE2.out, HT.out.2]; exact (errT_on HOK.out hh).symm)
                  have HNO := Lib.hid hno
                  clear hh hzz hno
                  unfold zn0 at *
                  have hw6 : ∀ a b c, Zt (w5.alloc (.cells #[a, b, c] 35)).drew w.heap.size (w.heap.size + 1) w.heap.size oe (l.take j) j ∧ Blk (w5.alloc (.cells #[a, b, c] 35)).drew wr.heap.size 35 #[.string n, .int .u8 p, .int .u16 t] ∧ Kept w (w5.alloc (.cells #[a, b, c] 35)).drew := fun a b c => ⟨HZ5.out.kept (((Mod.refl (fun _ => False) w5).alloc _).drew), (HB5.out.alloc _).drew, (HK5.out.alloc _).drew⟩
                  have HW6 := Lib.hid hw6
                  have q1 : ∀ (b : Nat) (w : World), (binOp .eql 55 (.map (some b)) (.map none)).run Try.prog w = .ok (.bool false) w := fun b w => by kernel_rfl
                  have q2 : ∀ (w : World), (binOp .eql 55 (.map none) (.map none)).run Try.prog w = .ok (.bool true) w := fun w => by kernel_rfl
                  clear hw6
                  rcases byV_cases oe (labK n : Int) with ⟨b, hb⟩ | ⟨hb, hbn⟩
                  · rw [hb] at x1 x2 y1 y2
                    have HBP := Lib.hid (byV_some hb (by omega))
                    have HB := Lib.hid hb
                    clear hb
                    go_region_held3 (fun w' => w'.cell? ⟨w.heap.size + 1, 0, none⟩ = some (.map (some w.heap.size)) ∧ w'.cell? ⟨wr.heap.size, 0, none⟩ = some (.string n)) (first | exact HSS.out.1 | exact HSS.out.2.1 | exact HSS.out.2.2 _ _ _) (fail)
                    all_goals
                      refine at_world (P := Exit.then _ _ _ _) (fun w' => Zt w' w.heap.size (w.heap.size + 1) w.heap.size oe (l.take j) j ∧ Blk w' wr.heap.size 35 #[.string n, .int .u8 p, .int .u16 t] ∧ Kept w w') (HW6.out _ _ _) ?_
                      rintro w6 ⟨hZ6, hB6, hK6⟩
                      have y6 := look_by hZ6 (labK n : Int)
                      rw [HB.out] at y6
                      have t6 : w6.cell? ⟨w.heap.size + 1, 0, none⟩ = some (.map (some w.heap.size)) := hZ6.blk.cell 0
                      clear x1 x2 y1 y2 HSS HW6 HZ4 HB4 HK4 HZ5 HB5 HK5
                      have HZ6 := Lib.hid hZ6
                      have HB6 := Lib.hid hB6
                      have HK6 := Lib.hid hK6
                      clear hZ6 hB6 hK6
                      go_wp2_with fail
                      have hZd := HZ6.out.kept ((Mod.refl (fun _ => False) w6).drew)
                      obtain ⟨w8, hr8, hZ8, hM8⟩ := add_in hZd HBP.out ⟨n, p, t⟩ rfl HNO.out
                      have yd := look_by hZd (labK n : Int)
                      rw [HB.out] at yd
                      unfold znC at hr8
                      simp only at hr8
                      have hkd : Kept w w6.drew := (HK6.out).drew
                      have hk8 : Kept w w8 := Kept.only hkd hM8 (HZ6.out.lo _ (List.mem_cons_of_mem _ (List.mem_cons_of_mem _ (List.mem_map.2 ⟨_, HBP.out, rfl⟩)))).1
                      have hs1 : w6.drew.cell? ⟨w.heap.size + 1, 0, none⟩ = some (.map (some w.heap.size)) ∧ w6.drew.cell? ⟨wr.heap.size, 0, none⟩ = some (.string n) ∧ w6.drew.cell? ⟨wr.heap.size, 1, none⟩ = some (.int .u8 p) ∧ w6.drew.cell? ⟨wr.heap.size, 2, none⟩ = some (.int .u16 t) := ⟨hZd.blk.cell 0, HB6.out.cell 0, HB6.out.cell 1, HB6.out.cell 2⟩
                      have hB8 := (HB6.out.drew).mod hM8 (fun e => by have e : wr.heap.size = b := e; have := (HZ.out.lo _ (List.mem_cons_of_mem _ (List.mem_cons_of_mem _ (List.mem_map.2 ⟨_, HBP.out, rfl⟩)))).2; simp only at this; omega)
                      have hs2 : w8.cell? ⟨w.heap.size + 1, 0, none⟩ = some (.map (some w.heap.size)) ∧ w8.cell? ⟨wr.heap.size, 0, none⟩ = some (.string n) ∧ w8.cell? ⟨wr.heap.size, 1, none⟩ = some (.int .u8 p) ∧ w8.cell? ⟨wr.heap.size, 2, none⟩ = some (.int .u16 t) := ⟨hZ8.blk.cell 0, hB8.cell 0, hB8.cell 1, hB8.cell 2⟩
                      have HS12 := Lib.hid (And.intro hs1 hs2)
                      have c8 : w8.cell? ⟨w.heap.size + 1, 1, none⟩ = some (.int .i64 (j : Int)) := hZ8.blk.cell 1
                      have r8 := hZ8.blk.frozen 1
                      have HZ8 := Lib.hid hZ8
                      have HK8 := Lib.hid hk8
                      clear hZd hZ8 hM8 hkd hk8 hs1 hs2 hB8
                      go_region_held3 (fun w' => w'.cell? ⟨w.heap.size + 1, 0, none⟩ = some (.map (some w.heap.size)) ∧ w'.cell? ⟨wr.heap.size, 0, none⟩ = some (.string n) ∧ w'.cell? ⟨wr.heap.size, 1, none⟩ = some (.int .u8 p) ∧ w'.cell? ⟨wr.heap.size, 2, none⟩ = some (.int .u16 t)) (first | exact HS12.out.1 | exact HS12.out.2) (fail)
                      go_wp2_with fail
                      go_roundg (l.length - (j + 1))
                      case measure => have := HJ.out; omega
                      case rel =>
                        refine ⟨j + 1, oe, by go_num, by have := HJ.out; omega, HON.out, ?_, HK8.out.setCell (p := ⟨w.heap.size + 1, 1, none⟩) (fun h => by simp only at h; omega) _⟩
                        have e : ((j + 1 : Nat) : Int) = (j : Int) + 1 := by omega
                        rw [e, HT.out.1]
                        exact zt_count HZ8.out _
                  · rw [hb] at x1 x2 y1 y2
                    have HB := Lib.hid (And.intro hb hbn)
                    clear hb hbn
                    go_region_held3 (fun w' => w'.cell? ⟨w.heap.size + 1, 0, none⟩ = some (.map (some w.heap.size)) ∧ w'.cell? ⟨wr.heap.size, 0, none⟩ = some (.string n)) (first | exact HSS.out.1 | exact HSS.out.2.1 | exact HSS.out.2.2 _ _ _) (fail)
                    all_goals
                      refine at_world (P := Exit.then _ _ _ _) (fun w' => Zt w' w.heap.size (w.heap.size + 1) w.heap.size oe (l.take j) j ∧ Blk w' wr.heap.size 35 #[.string n, .int .u8 p, .int .u16 t] ∧ Kept w w') (HW6.out _ _ _) ?_
                      rintro w6 ⟨hZ6, hB6, hK6⟩
                      have y6 := look_by hZ6 (labK n : Int)
                      rw [HB.out.1] at y6
                      have t6 : w6.cell? ⟨w.heap.size + 1, 0, none⟩ = some (.map (some w.heap.size)) := hZ6.blk.cell 0
                      obtain ⟨w7, hr7, hZ7, hM7⟩ := add_by hZ6 (labK n) HB.out.2 hK6.size
                      have hk7 : Kept w w7 := Kept.only hK6 hM7 (hZ6.lo w.heap.size (by simp)).1
                      have hB7 := hB6.mod hM7 (fun e => by have e : wr.heap.size = w.heap.size := e; have := (HZ.out.lo w.heap.size (by simp)).2; omega)
                      have hmem : (labK n, w6.heap.size) ∈ oe ++ [(labK n, w6.heap.size)] := by simp
                      have t6a : (w6.alloc (.map #[] 0)).cell? ⟨w.heap.size + 1, 0, none⟩ = some (.map (some w.heap.size)) := ((hZ6.blk).alloc _).cell 0
                      have HL6 := Lib.hid hB6.lt
                      have HZ7 := Lib.hid hZ7
                      have HB7 := Lib.hid hB7
                      have HK7 := Lib.hid hk7
                      have HME := Lib.hid hmem
                      clear x1 x2 y1 y2 HSS HW6 HZ4 HB4 HK4 HZ5 HB5 HK5 hZ6 hB6 hK6 hZ7 hM7 hk7 hB7 hmem
                      go_wp2_with fail
                      have hZd := HZ7.out.kept ((Mod.refl (fun _ => False) w7).drew)
                      obtain ⟨w8, hr8, hZ8, hM8⟩ := add_in hZd HME.out ⟨n, p, t⟩ rfl HNO.out
                      have yd := look_by hZd (labK n : Int)
                      rw [byV_new HB.out.2] at yd
                      unfold znC at hr8
                      simp only at hr8
                      have hkd : Kept w w7.drew := (HK7.out).drew
                      have hk8 : Kept w w8 := Kept.only hkd hM8 (HZ7.out.lo _ (List.mem_cons_of_mem _ (List.mem_cons_of_mem _ (List.mem_map.2 ⟨_, HME.out, rfl⟩)))).1
                      have hs1 : w7.drew.cell? ⟨w.heap.size + 1, 0, none⟩ = some (.map (some w.heap.size)) ∧ w7.drew.cell? ⟨wr.heap.size, 0, none⟩ = some (.string n) ∧ w7.drew.cell? ⟨wr.heap.size, 1, none⟩ = some (.int .u8 p) ∧ w7.drew.cell? ⟨wr.heap.size, 2, none⟩ = some (.int .u16 t) := ⟨hZd.blk.cell 0, HB7.out.cell 0, HB7.out.cell 1, HB7.out.cell 2⟩
                      have hB8 := (HB7.out.drew).mod hM8 (fun e => by have e : wr.heap.size = w6.heap.size := e; have := HL6.out; omega)
                      have hs2 : w8.cell? ⟨w.heap.size + 1, 0, none⟩ = some (.map (some w.heap.size)) ∧ w8.cell? ⟨wr.heap.size, 0, none⟩ = some (.string n) ∧ w8.cell? ⟨wr.heap.size, 1, none⟩ = some (.int .u8 p) ∧ w8.cell? ⟨wr.heap.size, 2, none⟩ = some (.int .u16 t) := ⟨hZ8.blk.cell 0, hB8.cell 0, hB8.cell 1, hB8.cell 2⟩
                      have HS12 := Lib.hid (And.intro hs1 hs2)
                      have c8 : w8.cell? ⟨w.heap.size + 1, 1, none⟩ = some (.int .i64 (j : Int)) := hZ8.blk.cell 1
                      have r8 := hZ8.blk.frozen 1
                      have HZ8 := Lib.hid hZ8
                      have HK8 := Lib.hid hk8
                      clear hZd hZ8 hM8 hkd hk8 hs1 hs2 hB8
                      go_region_held3 (fun w' => w'.cell? ⟨w.heap.size + 1, 0, none⟩ = some (.map (some w.heap.size)) ∧ w'.cell? ⟨wr.heap.size, 0, none⟩ = some (.string n) ∧ w'.cell? ⟨wr.heap.size, 1, none⟩ = some (.int .u8 p) ∧ w'.cell? ⟨wr.heap.size, 2, none⟩ = some (.int .u16 t)) (first | exact HS12.out.1 | exact HS12.out.2) (fail)
                      go_wp2_with fail
                      go_roundg (l.length - (j + 1))
                      case measure => have := HJ.out; omega
                      case rel =>
                        refine ⟨j + 1, oe ++ [(labK n, w6.heap.size)], by go_num, by have := HJ.out; omega, HON.out, ?_, HK8.out.setCell (p := ⟨w.heap.size + 1, 1, none⟩) (fun h => by simp only at h; omega) _⟩
                        have e : ((j + 1 : Nat) : Int) = (j : Int) + 1 := by omega
                        rw [e, HT.out.1]
                        exact zt_count HZ8.out _
          · have HB3 := Lib.hid (HBAD.out (okZ_no_fold hf))
            have d1 : ((foldS n).toList == n.toList) = false := by rw [eq_bys]; exact decide_eq_false (fun e => hf (bys_inj e))
            clear hf HBAD
            go_wp2_with fail
            refine wp_region_held_drew (S := (fun w' => w'.cell? ⟨wr.heap.size, 0, none⟩ = some (.string n) ∧ w'.cell? ⟨wr.heap.size, 1, none⟩ = some (.int .u8 p))) (by kernel_rfl) ?_ (fun hHeld => ?_)
            · (try dsimp only); first | exact HC.out | exact HC3.out | exact HC4.out
            refine regH_take 0 22 (v := ?_) rfl rfl (by kernel_rfl) (by kernel_rfl) (by kernel_rfl) (fun _ _ _ h => h) (by rfl) (by assumption) ?_ ?_
            rotate_left
            · (intro w hSw; (try dsimp only at hSw); go_simp); try (with_reducible rfl)
            try simp only [Act.put, List.setIfInBounds_toArray, List.set_cons_zero, List.set_cons_succ]
            refine regH_take 1 23 (v := ?_) rfl rfl (by kernel_rfl) (by kernel_rfl) (by kernel_rfl) (fun _ _ _ h => h) (by rfl) (by assumption) ?_ ?_
            rotate_left
            · (intro w hSw; (try dsimp only at hSw); go_simp); try (with_reducible rfl)
            try simp only [Act.put, List.setIfInBounds_toArray, List.set_cons_zero, List.set_cons_succ]
            refine wpAnyH_ready (rs := [2]) (by kernel_rfl) (by simp) ?_
            refine AllReadyH.cons rfl (fun K hK => ?_) AllReadyH.nil
            go_simp
            (refine (CM.out _).mono ?_; rintro e w3 ⟨rfl, m3⟩; have q31 := (m3.cell (p := ⟨wr.heap.size, 0, none⟩) (by simp) (fun e => e)).trans HC.out.1; have q32 := (m3.cell (p := ⟨wr.heap.size, 1, none⟩) (by simp) (fun e => e)).trans HC.out.2; have a1 := block_lt_of_cell q31; have HC3 := Lib.hid (And.intro q31 q32); clear q31 q32)
            try (go_wp2_with fail)
            refine hK.out _ _ ?_ (fun hHeld => ?_)
            · (try dsimp only); first | exact HC.out | exact HC3.out | exact HC4.out
            clear hK K
            try simp only [Act.put, List.setIfInBounds_toArray, List.set_cons_zero, List.set_cons_succ]
            refine regH_take 3 25 (v := ?_) rfl rfl (by kernel_rfl) (by kernel_rfl) (by kernel_rfl) (fun _ _ _ h => h) (by rfl) (by assumption) ?_ ?_
            rotate_left
            · (intro w hSw; (try dsimp only at hSw); go_simp); try (with_reducible rfl)
            try simp only [Act.put, List.setIfInBounds_toArray, List.set_cons_zero, List.set_cons_succ]
            refine regH_take 4 26 (v := ?_) rfl rfl (by kernel_rfl) (by kernel_rfl) (by kernel_rfl) (fun _ _ _ h => h) (by rfl) (by assumption) ?_ ?_
            rotate_left
            · (intro w hSw; (try dsimp only at hSw); go_simp); try (with_reducible rfl)
            try simp only [Act.put, List.setIfInBounds_toArray, List.set_cons_zero, List.set_cons_succ]
            refine regH_take 5 27 (v := ?_) rfl rfl (by kernel_rfl) (by kernel_rfl) (by kernel_rfl) (fun _ _ _ h => h) (by rfl) (by assumption) ?_ ?_
            rotate_left
            · (intro w hSw; (try dsimp only at hSw); go_simp); try (with_reducible rfl)
            try simp only [Act.put, List.setIfInBounds_toArray, List.set_cons_zero, List.set_cons_succ]
            refine regH_take 6 28 (v := ?_) rfl rfl (by kernel_rfl) (by kernel_rfl) (by kernel_rfl) (fun _ _ _ h => h) (by rfl) (by assumption) ?_ ?_
            rotate_left
            · (intro w hSw; (try dsimp only at hSw); go_simp); try (with_reducible rfl)
            try simp only [Act.put, List.setIfInBounds_toArray, List.set_cons_zero, List.set_cons_succ]
            refine regH_take 8 30 (v := ?_) rfl rfl (by kernel_rfl) (by kernel_rfl) (by kernel_rfl) (fun _ _ _ h => h) (by rfl) (by assumption) ?_ ?_
            rotate_left
            · (intro w hSw; (try dsimp only at hSw); go_simp); try (with_reducible rfl)
            try simp only [Act.put, List.setIfInBounds_toArray, List.set_cons_zero, List.set_cons_succ]
            refine regH_take 9 31 (v := ?_) rfl rfl (by kernel_rfl) (by kernel_rfl) (by kernel_rfl) (fun _ _ _ h => h) (by rfl) (by assumption) ?_ ?_
            rotate_left
            · (intro w hSw; (try dsimp only at hSw); go_simp); try (with_reducible rfl)
            try simp only [Act.put, List.setIfInBounds_toArray, List.set_cons_zero, List.set_cons_succ]
            refine wpAnyH_ready (rs := [7]) (by kernel_rfl) (by simp) ?_
            refine AllReadyH.cons rfl (fun K hK => ?_) AllReadyH.nil
            go_simp
            (refine (CF.out _).mono ?_; rintro e w4 ⟨rfl, m4⟩; have q41 := (m4.cell (p := ⟨wr.heap.size, 0, none⟩) a1 (fun e => e)).trans HC3.out.1; have q42 := (m4.cell (p := ⟨wr.heap.size, 1, none⟩) a1 (fun e => e)).trans HC3.out.2; have HC4 := Lib.hid (And.intro q41 q42); clear q42)
            try (go_wp2_with fail)
            refine hK.out _ _ ?_ (fun hHeld => ?_)
            · (try dsimp only); first | exact HC.out | exact HC3.out | exact HC4.out
            clear hK K
            try simp only [Act.put, List.setIfInBounds_toArray, List.set_cons_zero, List.set_cons_succ]
            refine regH_take 10 32 (v := ?_) rfl rfl (by kernel_rfl) (by kernel_rfl) (by kernel_rfl) (fun _ _ _ h => h) (by rfl) (by assumption) ?_ ?_
            rotate_left
            · (intro w hSw; (try dsimp only at hSw); go_simp); try (with_reducible rfl)
            try simp only [Act.put, List.setIfInBounds_toArray, List.set_cons_zero, List.set_cons_succ]
            refine regH_take 11 33 (v := ?_) rfl rfl (by kernel_rfl) (by kernel_rfl) (by kernel_rfl) (fun _ _ _ h => h) (by rfl) (by assumption) ?_ ?_
            rotate_left
            · (intro w hSw; (try dsimp only at hSw); go_simp); try (with_reducible rfl)
            try simp only [Act.put, List.setIfInBounds_toArray, List.set_cons_zero, List.set_cons_succ]
            refine regH_take 12 34 (v := ?_) rfl rfl (by kernel_rfl) (by kernel_rfl) (by kernel_rfl) (fun _ _ _ h => h) (by rfl) (by assumption) ?_ ?_
            rotate_left
            · (intro w hSw; (try dsimp only at hSw); go_simp); try (with_reducible rfl)
            try simp only [Act.put, List.setIfInBounds_toArray, List.set_cons_zero, List.set_cons_succ]
            refine regH_skip 13 35 rfl rfl (by kernel_rfl) (by kernel_rfl) (by kernel_rfl) (fun _ _ _ h => h) (by rfl) (by assumption) ?_
            try simp only [Act.put, List.setIfInBounds_toArray, List.set_cons_zero, List.set_cons_succ]
            refine regH_skip 14 36 rfl rfl (by kernel_rfl) (by kernel_rfl) (by kernel_rfl) (fun _ _ _ h => h) (by rfl) (by assumption) ?_
            try simp only [Act.put, List.setIfInBounds_toArray, List.set_cons_zero, List.set_cons_succ]
            refine regH_skip 15 37 rfl rfl (by kernel_rfl) (by kernel_rfl) (by kernel_rfl) (fun _ _ _ h => h) (by rfl) (by assumption) ?_
            try simp only [Act.put, List.setIfInBounds_toArray, List.set_cons_zero, List.set_cons_succ]
            refine regH_take 16 38 (v := ?_) rfl rfl (by kernel_rfl) (by kernel_rfl) (by kernel_rfl) (fun _ _ _ h => h) (by rfl) (by assumption) ?_ ?_
            rotate_left
            · (intro w hSw; (try dsimp only at hSw); go_simp); try (with_reducible rfl)
            try simp only [Act.put, List.setIfInBounds_toArray, List.set_cons_zero, List.set_cons_succ]
            refine regH_take 17 39 (v := ?_) rfl rfl (by kernel_rfl) (by kernel_rfl) (by kernel_rfl) (fun _ _ _ h => h) (by rfl) (by assumption) ?_ ?_
            rotate_left
            · (intro w hSw; (try dsimp only at hSw); go_simp); try (with_reducible rfl)
            try simp only [Act.put, List.setIfInBounds_toArray, List.set_cons_zero, List.set_cons_succ]
            refine regH_skip 18 40 rfl rfl (by kernel_rfl) (by kernel_rfl) (by kernel_rfl) (fun _ _ _ h => h) (by rfl) (by assumption) ?_
            try simp only [Act.put, List.setIfInBounds_toArray, List.set_cons_zero, List.set_cons_succ]
            refine regH_skip 19 41 rfl rfl (by kernel_rfl) (by kernel_rfl) (by kernel_rfl) (fun _ _ _ h => h) (by rfl) (by assumption) ?_
            try simp only [Act.put, List.setIfInBounds_toArray, List.set_cons_zero, List.set_cons_succ]
            refine regH_skip 20 42 rfl rfl (by kernel_rfl) (by kernel_rfl) (by kernel_rfl) (fun _ _ _ h => h) (by rfl) (by assumption) ?_
            try simp only [Act.put, List.setIfInBounds_toArray, List.set_cons_zero, List.set_cons_succ]
            refine regH_take 21 43 (v := ?_) rfl rfl (by kernel_rfl) (by kernel_rfl) (by kernel_rfl) (fun _ _ _ h => h) (by rfl) (by assumption) ?_ ?_
            rotate_left
            · (intro w hSw; (try dsimp only at hSw); go_simp); try (with_reducible rfl)
            try simp only [Act.put, List.setIfInBounds_toArray, List.set_cons_zero, List.set_cons_succ]
            refine wpAnyH_done (by kernel_rfl) ?_ _
            go_wp2_with fail
            go_ret2
            exact ⟨(((HK.out.alloc _).drew).then m3).then m4, .inl ⟨by rw [HB3.out]; decide, by rw [HB3.out]; rfl⟩⟩
      · obtain rfl : j = l.length := by omega
        have h0 : newE l = 0 := by
          rw [HE.out, ← HE2.out, List.drop_length]
          rfl
        have hz := HZ.out
        rw [List.take_length] at hz
        have H0 := Lib.hid (And.intro h0 hz)
        clear h0 hz HZ HE2 HE
        go_wp2_with fail
        go_ret2
        exact ⟨HK.out, .inr ⟨H0.out.1, _, _, _, rfl, H0.out.2⟩⟩
end Go.Proofs.Ytgibhcmdmdbpgaa
