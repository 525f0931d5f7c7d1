/- Bytes of a text in a block of their own, and back to a text. No conditions. -/
import Derived.Test.YtafeepokcakmkaaNamB
import Derived.Test.YtafeepokcakmkaaOwn
namespace Go.Proofs.Ytafeepokcakmkaa
open Go.RowKit

def u8s (l : List Nat) : List Value := l.map fun (x : Nat) => Value.int .u8 (x : Int)
theorem u8s_length (l : List Nat) : (u8s l).length = l.length := List.length_map _
theorem u8s_get {l : List Nat} {j x : Nat} (h : l[j]? = some x) : (u8s l)[j]? = some (.int .u8 (x : Int)) := by simp [u8s, h]
/-- Block g begins with the cells xs, none of them frozen. -/
def Byt (w : World) (g : Nat) (xs : List Value) : Prop :=
  ∃ cs t fz, w.heap[g]? = some (.cells cs t fz) ∧ (∀ (j : Nat) (u : Value), xs[j]? = some u → cs[j]? = some u) ∧ ∀ (j : Nat), j < xs.length → w.frozen? ⟨g, j, none⟩ = false
theorem Byt.cell {w : World} {g : Nat} {xs : List Value} (h : Byt w g xs) {j : Nat} {u : Value} (hj : xs[j]? = some u) : w.cell? ⟨g, j, none⟩ = some u := by
  obtain ⟨cs, t, fz, h1, h2, _⟩ := h
  rw [cell_of_row w g j cs t fz h1]
  exact h2 j u hj
theorem Byt.frozen {w : World} {g : Nat} {xs : List Value} (h : Byt w g xs) {j : Nat} (hj : j < xs.length) : w.frozen? ⟨g, j, none⟩ = false := by
  obtain ⟨cs, t, fz, h1, h2, h3⟩ := h
  exact h3 j hj
theorem Byt.lt {w : World} {g : Nat} {xs : List Value} (h : Byt w g xs) : g < w.heap.size := by
  obtain ⟨cs, t, fz, h1, _⟩ := h
  rcases Nat.lt_or_ge g w.heap.size with hlt | hge
  · exact hlt
  · rw [Array.getElem?_eq_none hge] at h1; cases h1
theorem Byt.mod {S : Nat → Prop} {w w' : World} {g : Nat} {xs : List Value} (h : Byt w g xs) (hm : Mod S w w') (hs : ¬ S g) : Byt w' g xs := by
  have hl := h.lt
  obtain ⟨cs, t, fz, h1, h2, h3⟩ := h
  refine ⟨cs, t, fz, (hm.block g hl hs).trans h1, h2, fun j hj => ?_⟩
  rw [hm.frozen (p := ⟨g, j, none⟩) hl hs]
  exact h3 j hj
theorem Byt.set {w : World} {g : Nat} {xs : List Value} (h : Byt w g xs) (i : Nat) (u : Value) : Byt (w.setCell ⟨g, i, none⟩ u) g (xs.set i u) := by
  have hl := h.lt
  obtain ⟨cs, t, fz, h1, h2, h3⟩ := h
  have hb : (w.setCell ⟨g, i, none⟩ u).heap[g]? = some (.cells (cs.setIfInBounds i u) t fz) := by
    simp [World.setCell, Array.getElem?_modify, h1]
  refine ⟨_, t, fz, hb, fun j v hv => ?_, fun j hj => ?_⟩
  · rw [List.getElem?_set] at hv
    split at hv
    · rename_i e
      subst e
      split at hv
      · rename_i hlt
        injection hv with hv
        subst hv
        have := h2 i _ (List.getElem?_eq_getElem hlt)
        have hs : i < cs.size := (Array.getElem?_eq_some_iff.1 this).1
        simp [hs]
      · cases hv
    · rename_i e
      rw [Array.getElem?_setIfInBounds_ne e]
      exact h2 j v hv
  · have h4 := h3 j (by simpa using hj)
    unfold World.frozen? at h4 ⊢
    rw [h1] at h4
    rw [hb]
    exact h4
theorem run_bytes (s : ByteArray) (w : World) : ∃ c w', (convert 9 35 (.string s)).run Try.prog w = .ok (.slice (some ⟨w.heap.size, 0, none⟩) s.size c) w' ∧ Byt w' w.heap.size (u8s (bys s)) ∧ Kept w w' := by
  have h := run_bytes_of_string (P := Try.prog) w 9 35 5 s (by kernel_rfl) (by kernel_rfl) (by kernel_rfl)
  have hb : (w.drew.alloc (.cells (bytesRow s (grownCap w s.size 0 5)) 5 ((bytesRow s (grownCap w s.size 0 5)).size, (bytesRow s (grownCap w s.size 0 5)).size + 1))).heap[w.heap.size]? = some (.cells (bytesRow s (grownCap w s.size 0 5)) 5 ((bytesRow s (grownCap w s.size 0 5)).size, (bytesRow s (grownCap w s.size 0 5)).size + 1)) := heap_alloc_new w.drew _
  refine ⟨_, _, h, ⟨_, _, _, hb, ?_, ?_⟩, (Kept.refl _).drew.alloc _⟩
  · intro j u hu
    have hj : j < s.data.size := by
      have := (List.getElem?_eq_some_iff.1 hu).1
      rw [u8s_length, bys_length] at this
      exact this
    rw [bytesRow_at s _ j hj]
    unfold u8s bys at hu
    simp only [List.getElem?_map, Array.getElem?_toList, Array.getElem?_eq_getElem hj, Option.map_some] at hu
    exact hu
  · intro j hj
    rw [u8s_length, bys_length] at hj
    have hsz : s.size ≤ (bytesRow s (grownCap w s.size 0 5)).size := by unfold bytesRow; simp
    unfold World.frozen?
    rw [hb]
    simp only
    simp
    omega
/-- string(b), where b's cells are the bytes l. -/
theorem run_text {w : World} {g : Nat} {l : List Nat} (c : Nat) (h : Byt w g (u8s l)) (hl : ∀ x ∈ l, x < 256) (n : Nat) (hn : n = l.length) : (convert 35 9 (.slice (some ⟨g, 0, none⟩) n c)).run Try.prog w = .ok (.string (mkS l)) w := by
  subst hn
  have h1 := run_convert_bytes_back (P := Try.prog) w 35 9 5 ⟨g, 0, none⟩ c (l.map UInt8.ofNat) (by kernel_rfl) (by kernel_rfl) (by kernel_rfl) (by
    intro j hj
    rw [add_at, Nat.zero_add]
    refine h.cell ?_
    have hj' : j < l.length := by simpa using hj
    rw [u8s_get (List.getElem?_eq_getElem hj')]
    have := hl _ (List.getElem_mem hj')
    simp only [List.getElem_map, UInt8.toNat_ofNat']
    rw [Nat.mod_eq_of_lt (by omega)])
  rw [List.length_map] at h1
  exact h1
/-- string(b), b a row of bytes of the call's own, nil let in. -/
theorem run_text_own {w : World} {base : Nat} {v : Value} {l : List Nat} (h : w.ownsRow base 5 1 v l.length (u8s l)) (hl : ∀ x ∈ l, x < 256) : (convert 35 9 v).run Try.prog w = .ok (.string (mkS l)) w := by
  rcases h.2 with ⟨rfl, h0⟩ | ⟨g, cap, cur, rfl, hb, hg, h1, h2, h3, h4⟩
  · obtain rfl := List.eq_nil_of_length_eq_zero h0
    have := run_convert_bytes_nil (P := Try.prog) w 35 5 (by kernel_rfl) (by kernel_rfl) 0 0 9 (by kernel_rfl)
    exact this
  · have hbl : Blk w g 5 cur := hg
    refine run_text cap ⟨cur, _, _, hg, fun j u hu => ?_, fun j _ => hbl.frozen j⟩ hl _ rfl
    rw [← h4, List.getElem?_take] at hu
    split at hu
    · simpa using hu
    · cases hu
end Go.Proofs.Ytafeepokcakmkaa
