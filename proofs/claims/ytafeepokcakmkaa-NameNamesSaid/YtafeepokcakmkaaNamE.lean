/- The reader's other functions, walked. Conditions: fewer than 1000000000 bytes. -/
import Derived.Test.YtafeepokcakmkaaNamR
import Derived.Outline
namespace Go.Proofs.Ytafeepokcakmkaa
open Go.RowKit

theorem dig_true {x : Nat} (h : isDig x = true) : 48 ≤ x ∧ x ≤ 57 := by unfold isDig at h; simpa using h
theorem dig_false {x : Nat} (h : isDig x = false) : x < 48 ∨ 57 < x := by
  unfold isDig at h
  rcases Nat.lt_or_ge x 48 with h1 | h1
  · exact .inl h1
  · right
    rcases Nat.lt_or_ge 57 x with h2 | h2
    · exact h2
    · rw [decide_eq_true h1, decide_eq_true h2] at h; cases h
theorem wrap_u8 {n : Nat} : IntKind.u8.wrap (n : Int) = ((n % 256 : Nat) : Int) := by
  show (n : Int) % 256 = _
  omega
theorem val_lt {r : RS} (h : r.ok) : r.value < 100 := by
  obtain ⟨h1, h2, _⟩ := h
  have : 10 ^ r.digits ≤ 10 ^ 2 := Nat.pow_le_pow_right (by omega) h1
  omega
set_option maxHeartbeats 1000000 in
set_option maxRecDepth 100000 in
theorem esc_one (g B : Nat) (r : RS) (x : Nat) (hx2 : x ≤ 126) (hd2 : r.digits ≤ 2) (hv : r.value < 100) (hd : isDig x = true) (h3 : r.digits + 1 < 3) (w : World) (h : Rdr w g B r) :
    Calls Try.prog 59 #[.pointer (some ⟨g, 0, none⟩), .int .i32 (x : Int)] w fun e w' => e = .returned (.tuple #[]) ∧ Rdr w' g B (r.esc x) ∧ Abv g B w w' := by
  obtain ⟨vL, vl, L, h⟩ := h
  obtain ⟨⟨c0, c1, c2, c3, c4, c5, c6⟩, f0, f1, f2, f3, f4, f5, f6⟩ := h.cells
  have H := Lib.hid h
  obtain ⟨d1, d2⟩ := dig_true hd
  have i1 : (48 : Int) ≤ (x : Int) := by omega
  have i2 : (x : Int) ≤ 57 := by omega
  obtain ⟨V, hV⟩ : ∃ V, V = 10 * r.value + (x - 48) := ⟨_, rfl⟩
  have hVI : 10 * (r.value : Int) + ((x : Int) - 48) = (V : Int) := by omega
  have hV1 : V < 1000 := by omega
  obtain ⟨D, hD⟩ : ∃ D, D = r.digits + 1 := ⟨_, rfl⟩
  have hDI : (r.digits : Int) + 1 = (D : Int) := by omega
  have HE := Lib.hid (show r.esc x = { r with value := V, digits := D } by unfold RS.esc; rw [if_pos hd, if_pos h3, hV, hD])
  have i3 : (D : Int) < 3 := by omega
  clear h hV hD hd h3
  go_enter Try.func59, Try.ntmps59
  go_wp2_with fail
  go_region
  refine at_world (P := Exit.then _ _ _ _) (fun w' => RdrV w' g B { r with value := V, digits := D } vL vl L ∧ Abv g B w w') ⟨((H.out.stored 4 (.int .i64 (V : Int)) (r' := { r with value := V }) rfl rfl rfl).stored 3 (.int .i64 (D : Int)) (r' := { r with value := V, digits := D }) rfl rfl rfl).drew, (abv_at (abv_at (Mod.refl _ _) 4 _) 3 _).drew⟩ ?_
  rintro w2 ⟨h2, m2⟩
  clear c0 c1 c2 c3 c4 c5 c6 f0 f1 f2 f3 f4 f5 f6
  obtain ⟨⟨c0, c1, c2, c3, c4, c5, c6⟩, f0, f1, f2, f3, f4, f5, f6⟩ := h2.cells
  have H2 := Lib.hid h2
  have M := Lib.hid m2
  clear h2 m2 hVI hDI
  go_wp2_with fail
  exact bodyPost_ret (v := .tuple #[]) (by simp [results, Try.results59, go_sem]) rfl ⟨rfl, by rw [HE.out]; exact ⟨_, _, _, H2.out⟩, M.out⟩
set_option maxHeartbeats 1000000 in
set_option maxRecDepth 100000 in
theorem esc_two (g B : Nat) (r : RS) (x : Nat) (hx2 : x ≤ 126) (hd2 : r.digits ≤ 2) (hv : r.value < 100) (hd : isDig x = true) (h3 : ¬ r.digits + 1 < 3) (hlen : r.label.length < 1000000000) (w : World) (h : Rdr w g B r) :
    Calls Try.prog 59 #[.pointer (some ⟨g, 0, none⟩), .int .i32 (x : Int)] w fun e w' => e = .returned (.tuple #[]) ∧ Rdr w' g B (r.esc x) ∧ Abv g B w w' := by
  obtain ⟨vL, vl, L, h⟩ := h
  obtain ⟨⟨c0, c1, c2, c3, c4, c5, c6⟩, f0, f1, f2, f3, f4, f5, f6⟩ := h.cells
  have H := Lib.hid h
  obtain ⟨d1, d2⟩ := dig_true hd
  have i1 : (48 : Int) ≤ (x : Int) := by omega
  have i2 : (x : Int) ≤ 57 := by omega
  obtain ⟨V, hV⟩ : ∃ V, V = 10 * r.value + (x - 48) := ⟨_, rfl⟩
  have hVI : 10 * (r.value : Int) + ((x : Int) - 48) = (V : Int) := by omega
  have hV1 : V < 1000 := by omega
  obtain ⟨D, hD⟩ : ∃ D, D = r.digits + 1 := ⟨_, rfl⟩
  have hDI : (r.digits : Int) + 1 = (D : Int) := by omega
  have HE := Lib.hid (show r.esc x = ({ r with value := V, digits := D, bad := r.bad || decide (255 < V) } : RS).put (V % 256) by unfold RS.esc; rw [if_pos hd, if_neg h3, hV, hD])
  have i3 : (3 : Int) ≤ (D : Int) := by omega
  have HL := Lib.hid hlen
  clear h hV hD hd h3
  go_enter Try.func59, Try.ntmps59
  go_wp2_with fail
  go_region
  refine at_world (P := Exit.then _ _ _ _) (fun w' => RdrV w' g B { r with value := V, digits := D } vL vl L ∧ Abv g B w w') ⟨((H.out.stored 4 (.int .i64 (V : Int)) (r' := { r with value := V }) rfl rfl rfl).stored 3 (.int .i64 (D : Int)) (r' := { r with value := V, digits := D }) rfl rfl rfl).drew, (abv_at (abv_at (Mod.refl _ _) 4 _) 3 _).drew⟩ ?_
  rintro w2 ⟨h2, m2⟩
  clear c0 c1 c2 c3 c4 c5 c6 f0 f1 f2 f3 f4 f5 f6
  obtain ⟨⟨c0, c1, c2, c3, c4, c5, c6⟩, f0, f1, f2, f3, f4, f5, f6⟩ := h2.cells
  have H2 := Lib.hid h2
  have M := Lib.hid m2
  clear h2 m2 hVI hDI
  have key : ∀ (c : Int) (b : Bool), c = ((V % 256 : Nat) : Int) → b = (r.bad || decide (255 < V)) → Calls Try.prog 64 #[.pointer (some ⟨g, 0, none⟩), .int .u8 c] (w2.setCell ⟨g, 5, none⟩ (.bool b)) fun e w' => e = .returned (.tuple #[]) ∧ Rdr w' g B (r.esc x) ∧ Abv g B w w' := by
    intro c b hc hb
    have h5 := H2.out.stored 5 (.bool b) (r' := { r with value := V, digits := D, bad := b }) rfl rfl rfl
    refine (put_any g B _ _ (V % 256) hc _ ⟨_, _, _, h5⟩ HL.out).mono ?_
    rintro e w' ⟨rfl, hR, m5⟩
    rw [hb] at hR
    exact ⟨rfl, by rw [HE.out]; exact hR, M.out.then ((abv_at (Mod.refl _ _) 5 _).then m5)⟩
  have hcase : (r.bad = true ∧ (r.bad || decide (255 < V)) = true) ∨ (r.bad = false ∧ 255 < (V : Int) ∧ (r.bad || decide (255 < V)) = true) ∨ (r.bad = false ∧ (V : Int) ≤ 255 ∧ (r.bad || decide (255 < V)) = false) := by
    cases hb : r.bad with
    | true => exact .inl ⟨rfl, rfl⟩
    | false =>
      by_cases hv5 : 255 < V
      · exact .inr (.inl ⟨rfl, by omega, by rw [decide_eq_true hv5]; rfl⟩)
      · exact .inr (.inr ⟨rfl, by omega, by rw [decide_eq_false hv5]; rfl⟩)
  rcases hcase with ⟨hb, hk⟩ | ⟨hb, i5, hk⟩ | ⟨hb, i5, hk⟩
  · have KB := Lib.hid (key ((V : Int) % 256) true (by omega) hk.symm)
    rw [hb] at c5
    clear hb hk key
    go_wp2_with fail
    refine KB.out.mono ?_
    rintro e w3 ⟨rfl, hR, m3⟩
    go_wp2_with fail
    go_end0
    exact ⟨rfl, hR, m3⟩
  · have KB := Lib.hid (key ((V : Int) % 256) true (by omega) hk.symm)
    rw [hb] at c5
    clear hb hk key
    go_wp2_with fail
    refine KB.out.mono ?_
    rintro e w3 ⟨rfl, hR, m3⟩
    go_wp2_with fail
    go_end0
    exact ⟨rfl, hR, m3⟩
  · have i6 : decide ((255 : Int) < (V : Int)) = false := decide_eq_false (by omega)
    have KB := Lib.hid (key (V : Int) false (by omega) hk.symm)
    rw [hb] at c5
    clear hb hk key
    go_wp2_with fail
    refine KB.out.mono ?_
    rintro e w3 ⟨rfl, hR, m3⟩
    go_wp2_with fail
    go_end0
    exact ⟨rfl, hR, m3⟩
set_option maxHeartbeats 1000000 in
set_option maxRecDepth 100000 in
theorem esc_bad (g B : Nat) (r : RS) (x : Nat) (hx2 : x ≤ 126) (hd2 : r.digits ≤ 2) (_hv : r.value < 100) (hd : isDig x = false) (h0 : 0 < r.digits) (w : World) (h : Rdr w g B r) :
    Calls Try.prog 59 #[.pointer (some ⟨g, 0, none⟩), .int .i32 (x : Int)] w fun e w' => e = .returned (.tuple #[]) ∧ Rdr w' g B (r.esc x) ∧ Abv g B w w' := by
  obtain ⟨vL, vl, L, h⟩ := h
  obtain ⟨⟨c0, c1, c2, c3, c4, c5, c6⟩, f0, f1, f2, f3, f4, f5, f6⟩ := h.cells
  have H := Lib.hid h
  have hdf := dig_false hd
  have i0 : (x : Int) < 48 ∨ 48 ≤ (x : Int) ∧ 57 < (x : Int) := by omega
  have HE := Lib.hid (show r.esc x = { r with bad := true } by unfold RS.esc; rw [hd, if_pos h0]; rfl)
  have i3 : (0 : Int) < (r.digits : Int) := by omega
  clear h hd hdf h0
  rcases i0 with i1 | ⟨i1, i2⟩
  all_goals
    go_enter Try.func59, Try.ntmps59
    go_wp2_with fail
    go_end0
    exact ⟨rfl, by rw [HE.out]; exact ⟨_, _, _, H.out.stored 5 (.bool true) (r' := { r with bad := true }) rfl rfl rfl⟩, abv_at (Mod.refl _ _) 5 _⟩
set_option maxHeartbeats 1000000 in
set_option maxRecDepth 100000 in
theorem esc_put (g B : Nat) (r : RS) (x : Nat) (hx2 : x ≤ 126) (_hd2 : r.digits ≤ 2) (_hv : r.value < 100) (hd : isDig x = false) (h0 : r.digits = 0) (hlen : r.label.length < 1000000000) (w : World) (h : Rdr w g B r) :
    Calls Try.prog 59 #[.pointer (some ⟨g, 0, none⟩), .int .i32 (x : Int)] w fun e w' => e = .returned (.tuple #[]) ∧ Rdr w' g B (r.esc x) ∧ Abv g B w w' := by
  have HR := Lib.hid h
  obtain ⟨vL, vl, L, h⟩ := h
  obtain ⟨⟨c0, c1, c2, c3, c4, c5, c6⟩, f0, f1, f2, f3, f4, f5, f6⟩ := h.cells
  have H := Lib.hid h
  have hdf := dig_false hd
  have i0 : (x : Int) < 48 ∨ 48 ≤ (x : Int) ∧ 57 < (x : Int) := by omega
  have HE := Lib.hid (show r.esc x = r.put x by unfold RS.esc; rw [hd, h0]; rfl)
  have HP := Lib.hid (fun w (h : Rdr w g B r) => put_any g B r (x : Int) x rfl w h hlen)
  rw [h0] at c3
  clear h hd hdf h0
  rcases i0 with i1 | ⟨i1, i2⟩
  all_goals
    go_enter Try.func59, Try.ntmps59
    go_wp2_with fail
    refine (HP.out _ HR.out).mono ?_
    rintro e w3 ⟨rfl, hR, m3⟩
    go_wp2_with fail
    go_end0
    exact ⟨rfl, by rw [HE.out]; exact hR, m3⟩
theorem escaped_any (g B : Nat) (r : RS) (hr : r.ok) (x : Nat) (hx2 : x ≤ 126) (w : World) (h : Rdr w g B r) (hlen : r.label.length < 1000000000) :
    Calls Try.prog 59 #[.pointer (some ⟨g, 0, none⟩), .int .i32 (x : Int)] w fun e w' => e = .returned (.tuple #[]) ∧ Rdr w' g B (r.esc x) ∧ Abv g B w w' := by
  have hd2 := hr.1
  have hv := val_lt hr
  cases hd : isDig x with
  | true =>
    by_cases h3 : r.digits + 1 < 3
    · exact esc_one g B r x hx2 hd2 hv hd h3 w h
    · exact esc_two g B r x hx2 hd2 hv hd h3 hlen w h
  | false =>
    rcases Nat.eq_zero_or_pos r.digits with h0 | h0
    · exact esc_put g B r x hx2 hd2 hv hd h0 hlen w h
    · exact esc_bad g B r x hx2 hd2 hv hd h0 w h
theorem fin_close {g B : Nat} {r : RS} {b : Bool} (hb : b = (r.bad || decide (r.label.length = 0))) (hlt : ∀ x ∈ r.label, x < 256) {w w1 w2 W : World} {vL vl : Value} {L : List ByteArray} {A2 : Option Addr} {c2 : Nat}
    (h1 : RdrV w1 g B { r with bad := b } vL vl L) (m1 : Abv g B w w1) (ma : Kept w1 W) (hm : Mod (fun k => vL.ownBlock = some k) W w2) (hb2 : Blk w2 g 50 (rdrCells vL vl { r with bad := b }))
    (ho : w2.ownsRow B 9 1 (.slice A2 (L.length + 1) c2) (L.length + 1) (strVals L ++ [.string (mkS r.label)])) :
    Rdr ((w2.setCell ⟨g, 0, none⟩ (.slice A2 (L.length + 1) c2)).setCell ⟨g, 1, none⟩ (.slice none 0 0)) g B r.fin ∧ Abv g B w ((w2.setCell ⟨g, 0, none⟩ (.slice A2 (L.length + 1) c2)).setCell ⟨g, 1, none⟩ (.slice none 0 0)) := by
  have e : r.fin = { r with bad := b, labels := r.labels ++ [r.label], label := [] } := by unfold RS.fin; rw [hb]
  have ho2 : Txs w2 B (.slice A2 (L.length + 1) c2) (L ++ [mkS r.label]) := by
    unfold Txs strVals at *
    simpa using ho
  have hn : (Value.slice A2 (L.length + 1) c2).ownBlock ≠ some g := own_off ho hb2 (by decide)
  rw [e]
  refine ⟨⟨_, .slice none 0 0, _, (hb2.set_ 0 _).set_ 1 _, ?_, own_setc (own_setc ho2 hn _) hn _, by have := hm.size; have := ma.size; have := h1.sz; simp [World.setCell]; omega, World.ownsRow_nil _ _ _ _⟩, ?_⟩
  · have hl : lbs L = r.labels := h1.labels
    unfold lbs at hl ⊢
    rw [List.map_append, hl]
    simp [bys_mkS hlt]
  · have hk : Abv g B w1 w2 := (ma.mono (S' := fun k => k = g ∨ B ≤ k) (fun _ _ e => e.elim)).then (hm.mono fun i _ e => .inr (h1.rowL.lt i e).1)
    exact abv_at (abv_at (m1.then hk) 0 _) 1 _
set_option maxHeartbeats 2000000 in
set_option maxRecDepth 100000 in
theorem fin_any (g B : Nat) (r : RS) (hr : r.ok) (w : World) (h : Rdr w g B r) (_hlen : r.label.length < 1000000000) (hlen2 : r.labels.length < 1000000000) :
    Calls Try.prog 45 #[.pointer (some ⟨g, 0, none⟩)] w fun e w' => e = .returned (.tuple #[]) ∧ Rdr w' g B r.fin ∧ Abv g B w w' := by
  obtain ⟨vL, vl, L, h⟩ := h
  obtain ⟨⟨c0, c1, c2, c3, c4, c5, c6⟩, f0, f1, f2, f3, f4, f5, f6⟩ := h.cells
  have hlt : ∀ x ∈ r.label, x < 256 := hr.2.2
  obtain ⟨A, c, rfl⟩ := own_form h.rowl
  have H := Lib.hid h
  have HLT := Lib.hid hlt
  have hcase : (r.bad = true ∧ (r.bad || decide (r.label.length = 0)) = true) ∨ (r.bad = false ∧ ((r.label.length : Int) == 0) = true ∧ (r.bad || decide (r.label.length = 0)) = true) ∨ (r.bad = false ∧ ((r.label.length : Int) == 0) = false ∧ (r.bad || decide (r.label.length = 0)) = false) := by
    cases hb : r.bad with
    | true => exact .inl ⟨rfl, rfl⟩
    | false =>
      by_cases h0 : r.label.length = 0
      · exact .inr (.inl ⟨rfl, by rw [h0]; rfl, by rw [decide_eq_true h0]; rfl⟩)
      · exact .inr (.inr ⟨rfl, by rw [beq_eq_false_iff_ne]; omega, by rw [decide_eq_false h0]; rfl⟩)
  clear h hlt
  obtain ⟨b, hbb⟩ : ∃ b, b = (r.bad || decide (r.label.length = 0)) := ⟨_, rfl⟩
  rw [← hbb] at hcase
  have HBB := Lib.hid hbb
  clear hbb
  rcases hcase with ⟨hb, rfl⟩ | ⟨hb, i0, rfl⟩ | ⟨hb, i0, rfl⟩
  all_goals
    rw [hb] at c5
    clear hb
    go_enter Try.func45, Try.ntmps45
    go_wp2_with fail
    first
      | refine at_world (P := Code.wp _ _ _ _) (fun w' => RdrV w' g B { r with bad := true } vL (.slice A r.label.length c) L ∧ Abv g B w w') ⟨H.out.stored 5 (.bool true) (r' := { r with bad := true }) rfl rfl rfl, abv_at (Mod.refl _ _) 5 _⟩ ?_
      | refine at_world (P := Code.wp _ _ _ _) (fun w' => RdrV w' g B { r with bad := false } vL (.slice A r.label.length c) L ∧ Abv g B w w') ⟨H.out.stored 5 (.bool false) (r' := { r with bad := false }) rfl rfl rfl, abv_at (Mod.refl _ _) 5 _⟩ ?_
    rintro w1 ⟨h1, m1⟩
    clear c0 c1 c2 c3 c4 c5 c6 f0 f1 f2 f3 f4 f5 f6
    obtain ⟨⟨c0, c1, c2, c3, c4, c5, c6⟩, f0, f1, f2, f3, f4, f5, f6⟩ := h1.cells
    have hcv : (convert 35 9 (.slice A r.label.length c)).run Try.prog w1.drew = .ok (.string (mkS r.label)) w1.drew := run_text_own (w := w1.drew) h1.rowl HLT.out
    have H1 := Lib.hid h1
    have M := Lib.hid m1
    have hll : L.length < 1000000000 := by
      have := congrArg List.length h1.labels
      rw [lbs_length] at this
      exact this ▸ hlen2
    have HLL := Lib.hid hll
    have HRD := Lib.hid (show Rd ((w1.alloc (.cells #[.string (mkS r.label)] 9)).drew) 1 (.slice (some ⟨w1.heap.size, 0, none⟩) 1 1) 1 [.string (mkS r.label)] from by
      refine ⟨rfl, _, _, rfl, fun _ => ⟨_, 0, rfl, by simp, fun j u hu => ?_⟩⟩
      rw [Nat.zero_add]
      have hb := (Blk.new w1 9 #[.string (mkS r.label)]).drew.cell j
      rw [hb, ← Array.getElem?_toList]
      exact hu)
    have HOW := Lib.hid (show ((w1.alloc (.cells #[.string (mkS r.label)] 9)).drew).ownsRow B 9 1 vL L.length (strVals L) from (World.ownsRow.alloc h1.rowL _))
    have HSZ := Lib.hid (show B ≤ ((w1.alloc (.cells #[.string (mkS r.label)] 9)).drew).heap.size from by have := h1.sz; simp; omega)
    have HMA := Lib.hid (show Kept w1 ((w1.alloc (.cells #[.string (mkS r.label)] 9)).drew) from ((Kept.refl _).alloc _).drew)
    have HON := Lib.hid (show ∀ u ∈ [Value.string (mkS r.label)], u.oneCell' = true from by intro u hu; simp at hu; subst hu; rfl)
    have z0 : (w1.alloc (.cells #[.string (mkS r.label)] 9)).cell? ⟨g, 0, none⟩ = some vL := (h1.blk.alloc _).cell 0
    have z1 : (w1.alloc (.cells #[.string (mkS r.label)] 9)).cell? ⟨g, 1, none⟩ = some (.slice A r.label.length c) := (h1.blk.alloc _).cell 1
    clear h1 m1 hll
    go_region_law (refine step_append_rd 25 9 1 16 elem_str (.tmp 22) (.tmp 28) rfl rfl B vL L.length (strVals L) rfl HOW.out (.slice (some ⟨w1.heap.size, 0, none⟩) 1 1) 1 [.string (mkS r.label)] rfl HRD.out HON.out (by unfold maxLen; have := HLL.out; omega) (by have := HLL.out; omega) HSZ.out (fun A2 c2 w2 hown2 hm2 hk2 => ?_); have HO2 := Lib.hid hown2; have HM2 := Lib.hid hm2; (have hb2 := (H1.out.blk.mod HMA.out (fun e => e)).mod hm2 (fun e => H1.out.offL e)); have q0 := hb2.cell 0; have q1 := hb2.cell 1; have p0 := hb2.frozen 0; have p1 := hb2.frozen 1; simp only [rdrCells, List.getElem?_toArray, List.getElem?_cons_succ, List.getElem?_cons_zero] at q0 q1; have HB2 := Lib.hid hb2; clear hown2 hm2 hk2 hb2)
    all_goals
      go_end0
      exact ⟨rfl, fin_close HBB.out HLT.out H1.out M.out HMA.out HM2.out HB2.out HO2.out⟩
end Go.Proofs.Ytafeepokcakmkaa
