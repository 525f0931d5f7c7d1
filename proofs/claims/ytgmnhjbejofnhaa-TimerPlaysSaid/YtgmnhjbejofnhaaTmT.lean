/- Timers in memory: where they lie, what is theirs; place, At, Next, Len, New, Drop. Conditions: numbers fit. -/
import Derived.Test.YtgmnhjbejofnhaaTmG
import Derived.OwnWalk
namespace Go.Proofs.Ytgmnhjbejofnhaa
open Go.RowKit Go.Lib

abbrev At (g : Nat) : Value := .pointer (some ⟨g, 0, none⟩)
structure Tm (w : World) (base g : Nat) (v : Value) (l : List Th) (n : Int) : Prop where
  blk : Blk w g 59 #[v, .int .i64 n]
  row : w.ownsRow base 62 3 v l.length (thc l)
  ne : v.ownBlock ≠ some g
  lo : base ≤ g
/-- What is the timers' own. -/
def Fp (g : Nat) (v : Value) : Nat → Prop := fun k => k = g ∨ v.ownBlock = some k
section
variable {w w' : World} {base g : Nat} {v : Value} {l : List Th} {n : Int}
theorem Tm.mod {S : Nat → Prop} (h : Tm w base g v l n) (hm : Mod S w w') (hs : ∀ k, Fp g v k → ¬ S k) : Tm w' base g v l n := by
  refine ⟨h.blk.mod hm (hs g (.inl rfl)), ⟨h.row.1, ?_⟩, h.ne, h.lo⟩
  rcases h.row.2 with h2 | ⟨b, cap, cur, rfl, hb, hg, h3⟩
  · exact .inl h2
  · exact .inr ⟨b, cap, cur, rfl, hb, (hm.block b (Blk.lt hg) (hs b (.inr rfl))).trans hg, h3⟩
theorem Tm.kept (h : Tm w base g v l n) (hm : Kept w w') : Tm w' base g v l n := h.mod hm fun _ _ e => e
theorem Tm.lt (h : Tm w base g v l n) : ∀ k, Fp g v k → base ≤ k ∧ k < w.heap.size := by
  intro k hk
  rcases hk with rfl | hk
  · exact ⟨h.lo, h.blk.lt⟩
  · exact h.row.lt k hk
theorem Tm.cell0 (h : Tm w base g v l n) : w.cell? ⟨g, 0, none⟩ = some v := h.blk.cell 0
theorem Tm.cell1 (h : Tm w base g v l n) : w.cell? ⟨g, 1, none⟩ = some (.int .i64 n) := h.blk.cell 1
theorem Tm.form (h : Tm w base g v l n) : ∃ A c, v = .slice A l.length c := own_form h.row
theorem Tm.len (h : Tm w base g v l n) : l.length ≤ maxLen := by
  rcases h.row.2 with ⟨_, h2⟩ | ⟨_, cap, _, _, _, _, h2, h3, _⟩
  · rw [h2]; exact Nat.zero_le _
  · omega
/-- A thing's cells, where there is one at that place. -/
theorem Tm.thing (h : Tm w base g v l n) {k : Nat} (hk : k < l.length) : ∃ b c, v = .slice (some ⟨b, 0, none⟩) l.length c ∧ b < w.heap.size ∧
    w.cell? ⟨b, k * 3, none⟩ = some (.int .i64 l[k].id) ∧ w.cell? ⟨b, k * 3 + 1, none⟩ = some (.int .i64 l[k].no) ∧ w.cell? ⟨b, k * 3 + 2, none⟩ = some (.int .i64 l[k].rd) := by
  obtain ⟨A, c, rfl⟩ := h.form
  cases A with
  | none => obtain ⟨h0, _⟩ := own_none h.row; omega
  | some a =>
    obtain ⟨b, o, s⟩ := a
    have hr := h.row
    obtain ⟨rfl, rfl, _, _, _, _, cs, hB, _, htk⟩ := own_blk hr
    have hc : ∀ j u, (thc l)[j]? = some u → w.cell? ⟨b, 0 + j, none⟩ = some u := by
      intro j u hu
      rw [← htk, List.getElem?_take] at hu
      split at hu
      · rw [hB.cell, Nat.zero_add]; simpa using hu
      · cases hu
    have h3 := cells_thing hc k hk
    simp only [Nat.zero_add] at h3
    exact ⟨b, c, rfl, hB.lt, h3⟩
end

set_option maxHeartbeats 1000000 in
theorem place_nil (id : Int) (w : World) :
    Calls Try.prog 29 #[.pointer none, .int .i64 id] w fun e w' => e = .returned (.int .i64 (-1)) ∧ Kept w w' := by
  go_enter Try.func29, Try.ntmps29
  go_wp2
  go_ret
  exact ⟨rfl, (Mod.refl _ _).alloc _⟩
set_option maxHeartbeats 1000000 in
theorem place_c (base g : Nat) (v : Value) (l : List Th) (n id : Int) (w : World) (h : Tm w base g v l n) :
    Calls Try.prog 29 #[At g, .int .i64 id] w fun e w' => e = .returned (.int .i64 (placeI l id)) ∧ Kept w w' := by
  have hk : Kept w (w.alloc (.cells #[.int .i64 id] 3)) := (Mod.refl _ _).alloc _
  have h' := h.kept hk
  have h0 := h'.cell0
  have HT := Lib.hid h'
  have HM := Lib.hid h.len
  have HB : w.heap.size = w.heap.size := rfl
  have hb := (Blk.new w 3 #[.int .i64 id]).cell 0
  have HI := Lib.hid (index_c v l w.heap.size id _ (Rd.of_own h'.row) h.len hb)
  clear h h' hb HB
  go_enter Try.func29, Try.ntmps29
  go_wp2_with (go_at_call 34; refine HI.out.mono ?_; rintro e w1 ⟨rfl, hm1⟩)
  go_ret
  exact ⟨rfl, hk.then hm1⟩

theorem placeI_some {l : List Th} {id : Int} {k : Nat} (h : findT l id = some k) : placeI l id = k := by unfold placeI; rw [h]
theorem placeI_none {l : List Th} {id : Int} (h : findT l id = none) : placeI l id = -1 := by unfold placeI; rw [h]

set_option maxHeartbeats 1000000 in
theorem at_nil (id : Int) (w : World) :
    Calls Try.prog 16 #[.pointer none, .int .i64 id] w fun e w' => e = .returned (.tuple #[.int .i64 0, .bool false]) ∧ Kept w w' := by
  have H := Lib.hid (place_nil id)
  go_enter Try.func16, Try.ntmps16
  go_wp2_with (go_at_call 29; refine (H.out _).mono ?_; rintro e w1 ⟨rfl, hm1⟩)
  go_ret2
  exact ⟨rfl, hm1⟩
set_option maxHeartbeats 1000000 in
theorem at_none (base g : Nat) (v : Value) (l : List Th) (n id : Int) (w : World) (h : Tm w base g v l n) (hf : findT l id = none) :
    Calls Try.prog 16 #[At g, .int .i64 id] w fun e w' => e = .returned (.tuple #[.int .i64 0, .bool false]) ∧ Kept w w' := by
  have hp := place_c base g v l n id w h
  rw [placeI_none hf] at hp
  have H := Lib.hid hp
  clear hp hf
  go_enter Try.func16, Try.ntmps16
  go_wp2_with (go_at_call 29; refine H.out.mono ?_; rintro e w1 ⟨rfl, hm1⟩)
  go_ret2
  exact ⟨rfl, hm1⟩
set_option maxHeartbeats 1000000 in
theorem at_some (base g : Nat) (v : Value) (l : List Th) (n id : Int) (w : World) (h : Tm w base g v l n) (k : Nat) (hf : findT l id = some k) :
    Calls Try.prog 16 #[At g, .int .i64 id] w fun e w' => e = .returned (.tuple #[.int .i64 (l[k]'(findT_lt hf)).rd, .bool true]) ∧ Kept w w' := by
  have hk := findT_lt hf
  have hp := place_c base g v l n id w h
  rw [placeI_some hf] at hp
  have H := Lib.hid hp
  have hkz : (k : Int) < (l.length : Int) := by omega
  have hkn : ¬ (k : Int) < 0 := by omega
  have hm := h.len
  simp only [maxLen] at hm
  have HT := Lib.hid h
  generalize hr : (l[k]'hk).rd = r
  have HR := Lib.hid hr
  clear hp h hr
  go_enter Try.func16, Try.ntmps16
  go_wp2_with (go_at_call 29; refine H.out.mono ?_; rintro e w1 ⟨rfl, hm1⟩; have h1 := HT.out.kept hm1; have h0 := h1.cell0; obtain ⟨b, c, rfl, _, _, _, f3⟩ := h1.thing hk; rw [HR.out] at f3; clear h1)
  go_ret2
  exact ⟨rfl, hm1⟩

set_option maxHeartbeats 1000000 in
theorem len_nil (w : World) :
    Calls Try.prog 14 #[.pointer none] w fun e w' => e = .returned (.int .i64 0) ∧ w = w' := by
  go_enter Try.func14, Try.ntmps14
  go_wp2
  go_ret
  exact ⟨rfl, rfl⟩
set_option maxHeartbeats 1000000 in
theorem len_c (base g : Nat) (v : Value) (l : List Th) (n : Int) (w : World) (h : Tm w base g v l n) :
    Calls Try.prog 14 #[At g] w fun e w' => e = .returned (.int .i64 l.length) ∧ w = w' := by
  have h0 := h.cell0
  obtain ⟨A, c, rfl⟩ := h.form
  clear h
  go_enter Try.func14, Try.ntmps14
  go_wp2
  go_ret
  exact ⟨rfl, rfl⟩

set_option maxHeartbeats 1000000 in
theorem next_nil (w : World) :
    Calls Try.prog 25 #[.pointer none] w fun e w' => e = .returned (.tuple #[.int .i64 0, .int .i64 0, .bool false]) ∧ Kept w w' := by
  go_enter Try.func25, Try.ntmps25
  go_wp2
  go_ret3
  exact ⟨rfl, Mod.refl _ _⟩
set_option maxHeartbeats 1000000 in
theorem next_none (base g : Nat) (v : Value) (n : Int) (w : World) (h : Tm w base g v [] n) :
    Calls Try.prog 25 #[At g] w fun e w' => e = .returned (.tuple #[.int .i64 0, .int .i64 0, .bool false]) ∧ Kept w w' := by
  have h0 := h.cell0
  obtain ⟨A, c, rfl⟩ := h.form
  clear h
  go_enter Try.func25, Try.ntmps25
  go_wp2
  go_ret3
  exact ⟨rfl, Mod.refl _ _⟩
set_option maxHeartbeats 1000000 in
theorem next_some (base g : Nat) (v : Value) (x : Th) (l : List Th) (n : Int) (w : World) (h : Tm w base g v (x :: l) n) :
    Calls Try.prog 25 #[At g] w fun e w' => e = .returned (.tuple #[.int .i64 x.id, .int .i64 x.rd, .bool true]) ∧ Kept w w' := by
  have h0 := h.cell0
  obtain ⟨b, c, rfl, _, f1, _, f3⟩ := h.thing (k := 0) (by simp)
  simp only [Nat.zero_mul, Nat.zero_add, List.getElem_cons_zero] at f1 f3
  have i1 : 0 < (x :: l).length := by simp
  have i2 : (0 : Int) < ((x :: l).length : Int) := by simp only [List.length_cons]; omega
  have i3 : (((x :: l).length : Int) == 0) = false := by simp only [List.length_cons]; simp; omega
  generalize (x :: l).length = m at *
  clear h
  go_enter Try.func25, Try.ntmps25
  go_wp2_with fail
  go_region
  all_goals (go_wp2; go_ret3; exact ⟨rfl, (Mod.refl _ _).drew⟩)

set_option maxHeartbeats 1000000 in
theorem new_c (w : World) :
    Calls Try.prog 20 #[] w fun e w' => e = .returned (At w.heap.size) ∧ Tm w' w.heap.size w.heap.size (.slice none 0 0) [] 0 ∧ Kept w w' := by
  go_enter Try.func20, Try.ntmps20
  go_wp2
  go_ret
  refine ⟨rfl, ⟨Blk.new _ _ _, World.ownsRow_nil _ _ _ _, by simp [Value.ownBlock], Nat.le_refl _⟩, (Mod.refl _ _).alloc _⟩

set_option maxHeartbeats 1000000 in
theorem drop_nil (id : Int) (w : World) :
    Calls Try.prog 18 #[.pointer none, .int .i64 id] w fun e w' => e = .returned (.bool false) ∧ Kept w w' := by
  have H := Lib.hid (place_nil id)
  go_enter Try.func18, Try.ntmps18
  go_wp2_with (go_at_call 29; refine (H.out _).mono ?_; rintro e w1 ⟨rfl, hm1⟩)
  go_ret
  exact ⟨rfl, hm1⟩
set_option maxHeartbeats 1000000 in
theorem drop_none (base g : Nat) (v : Value) (l : List Th) (n id : Int) (w : World) (h : Tm w base g v l n) (hf : findT l id = none) :
    Calls Try.prog 18 #[At g, .int .i64 id] w fun e w' => e = .returned (.bool false) ∧ Kept w w' := by
  have hp := place_c base g v l n id w h
  rw [placeI_none hf] at hp
  have H := Lib.hid hp
  clear hp hf
  go_enter Try.func18, Try.ntmps18
  go_wp2_with (go_at_call 29; refine H.out.mono ?_; rintro e w1 ⟨rfl, hm1⟩)
  go_ret
  exact ⟨rfl, hm1⟩
set_option maxHeartbeats 2000000 in
theorem drop_some (base g : Nat) (v : Value) (l : List Th) (n id : Int) (w : World) (h : Tm w base g v l n) (hu : Uni l) (k : Nat) (hf : findT l id = some k) :
    Calls Try.prog 18 #[At g, .int .i64 id] w fun e w' => e = .returned (.bool true) ∧ ∃ v', Tm w' base g v' (dropT l id) n ∧ Mod (Fp g v) w w' ∧ v'.ownBlock = v.ownBlock := by
  have hk := findT_lt hf
  have hp := place_c base g v l n id w h
  rw [placeI_some hf] at hp
  have H := Lib.hid hp
  have hkz : (k : Int) < (l.length : Int) := by omega
  have hkn : ¬ (k : Int) < 0 := by omega
  have hm := h.len
  simp only [maxLen] at hm
  have hwr : IntKind.i64.wrap ((k : Int) + 1) = ((k + 1 : Nat) : Int) := by rw [IntKind.wrap_i64]; omega
  have HT := Lib.hid h
  have HD := Lib.hid (dropT_some hu hf)
  have HK := Lib.hid hk
  have hdel : ∀ w1, Kept w w1 → Calls Try.prog 28 #[v, .int .i64 k, .int .i64 ((k : Int) + 1)] w1 fun e w' => ∃ v', e = .returned v' ∧ w'.ownsRow base 62 3 v' (l.take k ++ l.drop (k + 1)).length (thc (l.take k ++ l.drop (k + 1))) ∧ Mod (fun k => v.ownBlock = some k) w1 w' ∧ v'.ownBlock = v.ownBlock :=
    fun w1 hw => delete_c base v l k (k + 1) w1 (h.kept hw).row (by omega) (by omega)
  have HDEL := Lib.hid hdel
  clear hp h hu hf hdel
  go_enter Try.func18, Try.ntmps18
  go_wp2_with (first | (go_at_call 29; refine H.out.mono ?_; rintro e w1 ⟨rfl, hm1⟩; have h0 := (HT.out.kept hm1).cell0) | (go_at_call 28; refine (HDEL.out _ hm1).mono ?_; rintro e w2 ⟨v', rfl, ho2, hm2, hv2⟩; obtain ⟨A2, c2, rfl⟩ := own_form ho2; have hB2 := ((HT.out.kept hm1).blk).mod hm2 HT.out.ne; have h2 := hB2.cell 0; have h3 := hB2.frozen 0) | fail)
  go_ret
  have hm9 := fun u => ((hm1.mono (S' := Fp g v) fun _ _ e => e.elim).then (hm2.mono fun k _ hk => .inr hk)).setCell (p := ⟨g, 0, none⟩) (fun _ => .inl rfl) u
  refine ⟨rfl, _, ⟨by simpa using hB2.set_ 0 _, ?_, by rw [hv2]; exact HT.out.ne, HT.out.lo⟩, hm9 _, hv2⟩
  rw [HD.out]
  exact own_setc ho2 (p := ⟨g, 0, none⟩) (by rw [hv2]; exact HT.out.ne) _
end Go.Proofs.Ytgmnhjbejofnhaa
