/- The reader of texts, walked. Conditions: fewer than 1000000000 bytes. -/
import Derived.Test.YtafeepokcakmkaaNamK
import Derived.Outline
namespace Go.Proofs.Ytafeepokcakmkaa
open Go.RowKit

theorem own_off {w : World} {base e size n : Nat} {v : Value} {xs : List Value} (h : w.ownsRow base e size v n xs) {g T : Nat} {cs : Array Value} (hb : Blk w g T cs) (hT : T ≠ e) : v.ownBlock ≠ some g := by
  rcases h.2 with ⟨rfl, _⟩ | ⟨g', cap, cur, rfl, _, hg, _⟩
  · simp [Value.ownBlock]
  · intro h
    simp only [Value.ownBlock, Option.some.injEq] at h
    subst h
    unfold Blk at hb
    rw [hg] at hb
    simp only [Option.some.injEq, Obj.cells.injEq] at hb
    exact hT hb.2.1.symm
theorem own_off2 {w : World} {base base' e e' size size' n n' : Nat} {v v' : Value} {xs xs' : List Value} (h : w.ownsRow base e size v n xs) (h' : w.ownsRow base' e' size' v' n' xs') (he : e ≠ e') : ∀ k, v.ownBlock = some k → ¬ v'.ownBlock = some k := by
  intro k hk hk'
  rcases h.2 with ⟨rfl, _⟩ | ⟨g, cap, cur, rfl, _, hg, _⟩
  · simp [Value.ownBlock] at hk
  · rcases h'.2 with ⟨rfl, _⟩ | ⟨g', cap', cur', rfl, _, hg', _⟩
    · simp [Value.ownBlock] at hk'
    · simp only [Value.ownBlock, Option.some.injEq] at hk hk'
      subst hk hk'
      rw [hg] at hg'
      simp only [Option.some.injEq, Obj.cells.injEq] at hg'
      exact he hg'.2.1
/-- Only block g, and those from B on, may have turned. -/
abbrev Abv (g B : Nat) (w w' : World) : Prop := Mod (fun k => k = g ∨ B ≤ k) w w'
def rdrCells (vL vl : Value) (r : RS) : Array Value := #[vL, vl, .bool r.escape, .int .i64 (r.digits : Int), .int .i64 (r.value : Int), .bool r.bad, .bool r.dotted]
/-- What a reader's numbers may be. -/
def RS.ok (r : RS) : Prop := r.digits ≤ 2 ∧ r.value < 10 ^ r.digits ∧ ∀ x ∈ r.label, x < 256
structure RdrV (w : World) (g B : Nat) (r : RS) (vL vl : Value) (L : List ByteArray) : Prop where
  blk : Blk w g 50 (rdrCells vL vl r)
  labels : lbs L = r.labels
  rowL : Txs w B vL L
  sz : B ≤ w.heap.size
  rowl : w.ownsRow B 5 1 vl r.label.length (u8s r.label)
def Rdr (w : World) (g B : Nat) (r : RS) : Prop := ∃ vL vl L, RdrV w g B r vL vl L
theorem RdrV.offL {w : World} {g B : Nat} {r : RS} {vL vl : Value} {L : List ByteArray} (h : RdrV w g B r vL vl L) : vL.ownBlock ≠ some g := own_off h.rowL h.blk (by decide)
theorem RdrV.offl {w : World} {g B : Nat} {r : RS} {vL vl : Value} {L : List ByteArray} (h : RdrV w g B r vL vl L) : vl.ownBlock ≠ some g := own_off h.rowl h.blk (by decide)
theorem RdrV.apart {w : World} {g B : Nat} {r : RS} {vL vl : Value} {L : List ByteArray} (h : RdrV w g B r vL vl L) : ∀ k, vL.ownBlock = some k → ¬ vl.ownBlock = some k := own_off2 h.rowL h.rowl (by decide)
theorem RdrV.cells {w : World} {g B : Nat} {r : RS} {vL vl : Value} {L : List ByteArray} (h : RdrV w g B r vL vl L) :
    (w.cell? ⟨g, 0, none⟩ = some vL ∧ w.cell? ⟨g, 1, none⟩ = some vl ∧ w.cell? ⟨g, 2, none⟩ = some (.bool r.escape) ∧ w.cell? ⟨g, 3, none⟩ = some (.int .i64 (r.digits : Int)) ∧ w.cell? ⟨g, 4, none⟩ = some (.int .i64 (r.value : Int)) ∧ w.cell? ⟨g, 5, none⟩ = some (.bool r.bad) ∧ w.cell? ⟨g, 6, none⟩ = some (.bool r.dotted)) ∧
    w.frozen? ⟨g, 0, none⟩ = false ∧ w.frozen? ⟨g, 1, none⟩ = false ∧ w.frozen? ⟨g, 2, none⟩ = false ∧ w.frozen? ⟨g, 3, none⟩ = false ∧ w.frozen? ⟨g, 4, none⟩ = false ∧ w.frozen? ⟨g, 5, none⟩ = false ∧ w.frozen? ⟨g, 6, none⟩ = false :=
  ⟨⟨h.blk.cell 0, h.blk.cell 1, h.blk.cell 2, h.blk.cell 3, h.blk.cell 4, h.blk.cell 5, h.blk.cell 6⟩, h.blk.frozen 0, h.blk.frozen 1, h.blk.frozen 2, h.blk.frozen 3, h.blk.frozen 4, h.blk.frozen 5, h.blk.frozen 6⟩
/-- A store into the reader's own block leaves its rows. -/
theorem abv_at {g B : Nat} {w w' : World} (h : Mod (fun k => k = g ∨ B ≤ k) w w') (i : Nat) (u : Value) : Mod (fun k => k = g ∨ B ≤ k) w (w'.setCell ⟨g, i, none⟩ u) := h.setCell (p := ⟨g, i, none⟩) (fun _ => .inl rfl) u
theorem RdrV.stored {w : World} {g B : Nat} {r r' : RS} {vL vl : Value} {L : List ByteArray} (h : RdrV w g B r vL vl L) (i : Nat) (u : Value) (hc : (rdrCells vL vl r).setIfInBounds i u = rdrCells vL vl r') (h1 : r'.labels = r.labels) (h2 : r'.label = r.label) : RdrV (w.setCell ⟨g, i, none⟩ u) g B r' vL vl L :=
  ⟨by rw [← hc]; exact h.blk.set_ i u, by rw [h1]; exact h.labels, own_setc h.rowL h.offL u, by simpa [World.setCell] using h.sz, by rw [h2]; exact own_setc h.rowl h.offl u⟩
theorem RdrV.drew {w : World} {g B : Nat} {r : RS} {vL vl : Value} {L : List ByteArray} (h : RdrV w g B r vL vl L) : RdrV w.drew g B r vL vl L := ⟨h.blk, h.labels, h.rowL, h.sz, h.rowl⟩
theorem RdrV.lt {w : World} {g B : Nat} {r : RS} {vL vl : Value} {L : List ByteArray} (h : RdrV w g B r vL vl L) : g < w.heap.size := h.blk.lt
set_option maxHeartbeats 1000000 in
set_option maxRecDepth 100000 in
theorem put_any (g B : Nat) (r : RS) (c : Int) (x : Nat) (hx : c = x) (w : World) (h : Rdr w g B r) (hlen : r.label.length < 1000000000) :
    Calls Try.prog 64 #[.pointer (some ⟨g, 0, none⟩), .int .u8 c] w fun e w' => e = .returned (.tuple #[]) ∧ Rdr w' g B (r.put x) ∧ Abv g B w w' := by
  subst hx
  obtain ⟨vL, vl, L, h⟩ := h
  obtain ⟨⟨c0, c1, c2, c3, c4, c5, c6⟩, f0, f1, f2, f3, f4, f5, f6⟩ := h.cells
  have H := Lib.hid h
  have hown := h.rowl
  have hsz : B ≤ w.heap.size := h.sz
  have HLT := Lib.hid hown.lt
  clear h
  go_enter Try.func64, Try.ntmps64
  go_wp2_with (refine wpList_pushS 35 5 1 1 13 elem_u8 (.tmp 12) (.tmp 11) rfl rfl rfl rfl rfl (by simp) (.int .u8 (x : Int)) rfl rfl (by simp [Value.cells, Value.oneCell']) B vl _ _ rfl hown (by unfold maxLen; omega) (by omega) hsz ?_; intro g2 cap w2 hown1 hm1 hg; have hb2 := H.out.blk.mod hm1 (fun e => H.out.offl e); clear c0 c1 c2 c3 c4 c5 c6 f0 f1 f2 f3 f4 f5 f6; have c1 := hb2.cell 1; have c2 := hb2.cell 2; have c3 := hb2.cell 3; have c4 := hb2.cell 4; have f1 := hb2.frozen 1; have f2 := hb2.frozen 2; have f3 := hb2.frozen 3; have f4 := hb2.frozen 4; simp only [rdrCells, List.getElem?_toArray, List.getElem?_cons_succ, List.getElem?_cons_zero] at c1 c2 c3 c4)
  go_end0
  have hv : RdrV (w2.setCell ⟨g, 1, none⟩ (.slice (some ⟨g2, 0, none⟩) (r.label.length + 1) cap)) g B { r with label := r.label ++ [x] } vL (.slice (some ⟨g2, 0, none⟩) (r.label.length + 1) cap) L := by
    have ho : w2.ownsRow B 5 1 (.slice (some ⟨g2, 0, none⟩) (r.label.length + 1) cap) (r.label ++ [x]).length (u8s (r.label ++ [x])) := by
      simpa [u8s, Value.cells] using hown1
    have hn : (Value.slice (some ⟨g2, 0, none⟩) (r.label.length + 1) cap).ownBlock ≠ some g := own_off ho hb2 (by decide)
    refine ⟨hb2.set_ 1 _, H.out.labels, own_setc (own_mod H.out.rowL hm1 (fun k hk e => H.out.apart k hk e)) H.out.offL _, by have := hm1.size; have := H.out.sz; simp [World.setCell]; omega, own_setc ho hn _⟩
  refine ⟨rfl, ⟨_, _, _, ((hv.stored 2 (.bool false) (r' := { r with label := r.label ++ [x], escape := false }) rfl rfl rfl).stored 3 (.int .i64 0) (r' := { r with label := r.label ++ [x], escape := false, digits := 0 }) rfl rfl rfl).stored 4 (.int .i64 0) (r' := r.put x) rfl rfl rfl⟩, ?_⟩
  exact abv_at (abv_at (abv_at (abv_at (hm1.mono fun i _ e => .inr (HLT.out i e).1) 1 _) 2 _) 3 _) 4 _
end Go.Proofs.Ytafeepokcakmkaa
