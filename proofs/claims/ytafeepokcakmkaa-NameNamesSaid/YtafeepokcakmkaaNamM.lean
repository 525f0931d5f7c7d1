/- The reader reads a rune; Parse, walked. Conditions: fewer than 1000000 bytes. -/
import Derived.Test.YtafeepokcakmkaaNamE
import Derived.Lib.OthersKept
import Derived.Outline
namespace Go.Proofs.Ytafeepokcakmkaa
open Go.RowKit

theorem RdrV.dot {w : World} {g B : Nat} {r : RS} {vL vl : Value} {L : List ByteArray} (h : RdrV w g B r vL vl L) (b : Bool) : RdrV (w.setCell ⟨g, 6, none⟩ (.bool b)) g B { r with dotted := b } vL vl L := h.stored 6 (.bool b) (r' := { r with dotted := b }) rfl rfl rfl
set_option maxHeartbeats 1000000 in
set_option maxRecDepth 100000 in
theorem read_odd (g B : Nat) (r : RS) (x : Nat) (hx : x < 33 ∨ 126 < x) (hx2 : x ≤ 2147483647) (w : World) (h : Rdr w g B r) :
    Calls Try.prog 44 #[.pointer (some ⟨g, 0, none⟩), .int .i32 (x : Int)] w fun e w' => e = .returned (.tuple #[]) ∧ Rdr w' g B (r.read x) ∧ Abv g B w w' := by
  obtain ⟨vL, vl, L, h⟩ := h
  obtain ⟨⟨c0, c1, c2, c3, c4, c5, c6⟩, f0, f1, f2, f3, f4, f5, f6⟩ := h.cells
  have H := Lib.hid h
  have HE := Lib.hid (show r.read x = { r with dotted := false, bad := true } by unfold RS.read; rw [if_pos hx])
  have i0 : (x : Int) < 33 ∨ 33 ≤ (x : Int) ∧ 126 < (x : Int) := by omega
  clear h hx
  rcases i0 with i1 | ⟨i1, i2⟩
  all_goals
    go_enter Try.func44, Try.ntmps44
    go_wp2_with fail
    go_end0
    exact ⟨rfl, by rw [HE.out]; exact ⟨_, _, _, (H.out.dot false).stored 5 (.bool true) (r' := { r with dotted := false, bad := true }) rfl rfl rfl⟩, abv_at (abv_at (Mod.refl _ _) 6 _) 5 _⟩
set_option maxHeartbeats 1000000 in
set_option maxRecDepth 100000 in
theorem read_esc (g B : Nat) (r : RS) (hr : r.ok) (x : Nat) (h1 : 33 ≤ x) (h2 : x ≤ 126) (he : r.escape = true) (hlen : r.label.length < 1000000000) (w : World) (h : Rdr w g B r) :
    Calls Try.prog 44 #[.pointer (some ⟨g, 0, none⟩), .int .i32 (x : Int)] w fun e w' => e = .returned (.tuple #[]) ∧ Rdr w' g B (r.read x) ∧ Abv g B w w' := by
  obtain ⟨vL, vl, L, h⟩ := h
  obtain ⟨⟨c0, c1, c2, c3, c4, c5, c6⟩, f0, f1, f2, f3, f4, f5, f6⟩ := h.cells
  have H := Lib.hid h
  have HE := Lib.hid (show r.read x = ({ r with dotted := false } : RS).esc x by unfold RS.read; rw [if_neg (by omega), if_pos he])
  have i1 : (33 : Int) ≤ (x : Int) := by omega
  have i2 : (x : Int) ≤ 126 := by omega
  have HC := Lib.hid (fun w (h : Rdr w g B { r with dotted := false }) => escaped_any g B { r with dotted := false } hr x h2 w h hlen)
  rw [he] at c2
  clear h he hr hlen
  go_enter Try.func44, Try.ntmps44
  go_wp2_with fail
  refine (HC.out _ ⟨_, _, _, H.out.dot false⟩).mono ?_
  rintro e w2 ⟨rfl, hR, m2⟩
  go_wp2_with fail
  go_end0
  exact ⟨rfl, by rw [HE.out]; exact hR, (abv_at (Mod.refl _ _) 6 _).then m2⟩
set_option maxHeartbeats 1000000 in
set_option maxRecDepth 100000 in
theorem read_slash (g B : Nat) (r : RS) (he : r.escape = false) (w : World) (h : Rdr w g B r) :
    Calls Try.prog 44 #[.pointer (some ⟨g, 0, none⟩), .int .i32 92] w fun e w' => e = .returned (.tuple #[]) ∧ Rdr w' g B (r.read 92) ∧ Abv g B w w' := by
  obtain ⟨vL, vl, L, h⟩ := h
  obtain ⟨⟨c0, c1, c2, c3, c4, c5, c6⟩, f0, f1, f2, f3, f4, f5, f6⟩ := h.cells
  have H := Lib.hid h
  have HE := Lib.hid (show r.read 92 = { r with dotted := false, escape := true } by unfold RS.read; rw [if_neg (by omega), he]; rfl)
  rw [he] at c2
  clear h he
  go_enter Try.func44, Try.ntmps44
  go_wp2_with fail
  go_end0
  exact ⟨rfl, by rw [HE.out]; exact ⟨_, _, _, (H.out.dot false).stored 2 (.bool true) (r' := { r with dotted := false, escape := true }) rfl rfl rfl⟩, abv_at (abv_at (Mod.refl _ _) 6 _) 2 _⟩
set_option maxHeartbeats 1000000 in
set_option maxRecDepth 100000 in
theorem read_dot (g B : Nat) (r : RS) (hr : r.ok) (he : r.escape = false) (hlen : r.label.length < 1000000000) (hlen2 : r.labels.length < 1000000000) (w : World) (h : Rdr w g B r) :
    Calls Try.prog 44 #[.pointer (some ⟨g, 0, none⟩), .int .i32 46] w fun e w' => e = .returned (.tuple #[]) ∧ Rdr w' g B (r.read 46) ∧ Abv g B w w' := by
  obtain ⟨vL, vl, L, h⟩ := h
  obtain ⟨⟨c0, c1, c2, c3, c4, c5, c6⟩, f0, f1, f2, f3, f4, f5, f6⟩ := h.cells
  have H := Lib.hid h
  have HE := Lib.hid (show r.read 46 = ({ r with dotted := true } : RS).fin by unfold RS.read; rw [if_neg (by omega), he]; rfl)
  have HC := Lib.hid (fun w (h : Rdr w g B { r with dotted := true }) => fin_any g B { r with dotted := true } hr w h hlen hlen2)
  rw [he] at c2
  clear h he hr hlen hlen2
  go_enter Try.func44, Try.ntmps44
  go_wp2_with fail
  refine (HC.out _ ⟨_, _, _, (H.out.dot false).dot true⟩).mono ?_
  rintro e w2 ⟨rfl, hR, m2⟩
  go_wp2_with fail
  go_end0
  exact ⟨rfl, by rw [HE.out]; exact hR, (abv_at (abv_at (Mod.refl _ _) 6 _) 6 _).then m2⟩
set_option maxHeartbeats 1000000 in
set_option maxRecDepth 100000 in
theorem read_byte (g B : Nat) (r : RS) (x : Nat) (h1 : 33 ≤ x) (h2 : x ≤ 126) (h3 : x ≠ 46) (h4 : x ≠ 92) (he : r.escape = false) (hlen : r.label.length < 1000000000) (w : World) (h : Rdr w g B r) :
    Calls Try.prog 44 #[.pointer (some ⟨g, 0, none⟩), .int .i32 (x : Int)] w fun e w' => e = .returned (.tuple #[]) ∧ Rdr w' g B (r.read x) ∧ Abv g B w w' := by
  obtain ⟨vL, vl, L, h⟩ := h
  obtain ⟨⟨c0, c1, c2, c3, c4, c5, c6⟩, f0, f1, f2, f3, f4, f5, f6⟩ := h.cells
  have H := Lib.hid h
  have HE := Lib.hid (show r.read x = { r with dotted := false, label := r.label ++ [x] } by unfold RS.read; rw [if_neg (by omega), he, if_neg h4, if_neg h3]; rfl)
  have i1 : (33 : Int) ≤ (x : Int) := by omega
  have i2 : (x : Int) ≤ 126 := by omega
  have i3 : ((x : Int) == 46) = false := by rw [beq_eq_false_iff_ne]; omega
  have i4 : ((x : Int) == 92) = false := by rw [beq_eq_false_iff_ne]; omega
  have h6 := h.dot false
  rw [he] at c2
  have H6 := Lib.hid h6
  have hown : (w.setCell ⟨g, 6, none⟩ (.bool false)).ownsRow B 5 1 vl r.label.length (u8s r.label) := h6.rowl
  have hsz : B ≤ (w.setCell ⟨g, 6, none⟩ (.bool false)).heap.size := h6.sz
  have HLT := Lib.hid hown.lt
  clear h he h3 h4 h6
  go_enter Try.func44, Try.ntmps44
  go_wp2_with (refine wpList_pushS 35 5 1 1 14 elem_u8 (.tmp 13) (.tmp 11) rfl rfl rfl rfl rfl (by simp) (.int .u8 (x : Int)) rfl rfl (by simp [Value.cells, Value.oneCell']) B vl _ _ rfl hown (by unfold maxLen; omega) (by omega) hsz ?_; intro g2 cap w2 hown1 hm1 hg; have hb2 := H6.out.blk.mod hm1 (fun e => H6.out.offl e); clear c0 c1 c2 c3 c4 c5 c6 f0 f1 f2 f3 f4 f5 f6; have c1 := hb2.cell 1; have f1 := hb2.frozen 1; simp only [rdrCells, List.getElem?_toArray, List.getElem?_cons_succ, List.getElem?_cons_zero] at c1)
  go_end0
  have ho : w2.ownsRow B 5 1 (.slice (some ⟨g2, 0, none⟩) (r.label.length + 1) cap) (r.label ++ [x]).length (u8s (r.label ++ [x])) := by
    simpa [u8s, Value.cells] using hown1
  have hn : (Value.slice (some ⟨g2, 0, none⟩) (r.label.length + 1) cap).ownBlock ≠ some g := own_off ho hb2 (by decide)
  refine ⟨rfl, by rw [HE.out]; exact ⟨_, _, _, hb2.set_ 1 _, H6.out.labels, own_setc (own_mod H6.out.rowL hm1 (fun k hk e => H6.out.apart k hk e)) H6.out.offL _, by have := hm1.size; have := H6.out.sz; simp [World.setCell] at *; omega, own_setc ho hn _⟩, ?_⟩
  exact abv_at ((abv_at (Mod.refl _ _) 6 _).then (hm1.mono fun i _ e => .inr (HLT.out i e).1)) 1 _
theorem read_any (g B : Nat) (r : RS) (hr : r.ok) (x : Nat) (hx2 : x ≤ 2147483647) (hlen : r.label.length < 1000000000) (hlen2 : r.labels.length < 1000000000) (w : World) (h : Rdr w g B r) :
    Calls Try.prog 44 #[.pointer (some ⟨g, 0, none⟩), .int .i32 (x : Int)] w fun e w' => e = .returned (.tuple #[]) ∧ Rdr w' g B (r.read x) ∧ Abv g B w w' := by
  by_cases h1 : x < 33 ∨ 126 < x
  · exact read_odd g B r x h1 hx2 w h
  · cases he : r.escape with
    | true => exact read_esc g B r hr x (by omega) (by omega) he hlen w h
    | false =>
      by_cases h2 : x = 92
      · subst h2; exact read_slash g B r he w h
      · by_cases h3 : x = 46
        · subst h3; exact read_dot g B r hr he hlen hlen2 w h
        · exact read_byte g B r x (by omega) (by omega) h3 h2 he hlen w h
theorem RS.ok_put {r : RS} (h : ∀ x ∈ r.label, x < 256) {c : Nat} (hc : c < 256) : (r.put c).ok := by
  refine ⟨by simp [RS.put], by simp [RS.put], ?_⟩
  intro x hx
  rcases List.mem_append.1 hx with hx | hx
  · exact h x hx
  · simp at hx; omega
theorem RS.ok_read {r : RS} (h : r.ok) (c : Nat) : (r.read c).ok := by
  have ha := h
  obtain ⟨h1, h2, h3⟩ := h
  have hv := val_lt ha
  unfold RS.read
  split
  · exact ⟨h1, h2, h3⟩
  · rename_i hc
    split
    · unfold RS.esc
      split
      · rename_i hd
        obtain ⟨d1, d2⟩ := dig_true hd
        split
        · rename_i hlt
          simp only at hlt
          refine ⟨by simp only; omega, ?_, h3⟩
          simp only
          rw [Nat.pow_succ]
          omega
        · exact RS.ok_put h3 (by omega)
      · split
        · exact ⟨h1, h2, h3⟩
        · exact RS.ok_put h3 (by omega)
    · split
      · exact ⟨h1, h2, h3⟩
      · split
        · exact ⟨h1, h2, by simp [RS.fin]⟩
        · refine ⟨h1, h2, ?_⟩
          intro x hx
          rcases List.mem_append.1 hx with hx | hx
          · exact h3 x hx
          · simp at hx; omega
theorem RS.len_read (r : RS) (c : Nat) : (r.read c).label.length ≤ r.label.length + 1 ∧ (r.read c).labels.length ≤ r.labels.length + 1 := by
  unfold RS.read
  split
  · exact ⟨by simp, by simp⟩
  · split
    · unfold RS.esc
      split
      · split
        · exact ⟨by simp, by simp⟩
        · exact ⟨by simp [RS.put], by simp [RS.put]⟩
      · split
        · exact ⟨by simp, by simp⟩
        · exact ⟨by simp [RS.put], by simp [RS.put]⟩
    · split
      · exact ⟨by simp, by simp⟩
      · split
        · exact ⟨by simp [RS.fin], by simp [RS.fin]⟩
        · exact ⟨by simp, by simp⟩
end Go.Proofs.Ytafeepokcakmkaa
