/- A row of cells of the call's own: what stores of a run of cells come to, said of the block as a whole. No conditions. -/
import Derived.Test.YtgmnhjbejofnhaaApp
import Derived.Laws.IdiomCopy
namespace Go.Proofs.Ytgmnhjbejofnhaa
open Go.RowKit

theorem blk_setCells {g : Nat} {t : TypeId} : ∀ (vs : List Value) (o : Nat) (cs : Array Value) (w : World), Blk w g t cs → o + vs.length ≤ cs.size →
    ∃ cs' : Array Value, Blk (w.setCells g o vs) g t cs' ∧ cs'.toList = cs.toList.take o ++ vs ++ cs.toList.drop (o + vs.length)
  | [], o, cs, w, h, _ => ⟨cs, h, by simp⟩
  | v :: r, o, cs, w, h, hf => by
    simp only [List.length_cons] at hf
    obtain ⟨cs', h1, h2⟩ := blk_setCells r (o + 1) (cs.setIfInBounds o v) (w.setCell ⟨g, o, none⟩ v) (h.set_ o v) (by rw [Array.size_setIfInBounds]; omega)
    refine ⟨cs', h1, ?_⟩
    rw [h2]
    have hlt : o < cs.toList.length := by simp; omega
    rw [Array.toList_setIfInBounds, List.take_add_one, List.getElem?_set_self hlt, List.take_set_of_le (Nat.le_refl o), List.drop_set_of_lt (by omega)]
    simp only [List.length_cons, Option.toList_some, List.append_assoc, List.cons_append, List.nil_append]
    rw [show o + 1 + r.length = o + (r.length + 1) by omega]
theorem Blk.setCells {w : World} {g : Nat} {t : TypeId} {cs : Array Value} (h : Blk w g t cs) (o : Nat) (vs : List Value) (hf : o + vs.length ≤ cs.size) :
    ∃ cs' : Array Value, Blk (w.setCells g o vs) g t cs' ∧ cs'.toList = cs.toList.take o ++ vs ++ cs.toList.drop (o + vs.length) := blk_setCells vs o cs w h hf
theorem mod_setCells {S : Nat → Prop} {g : Nat} {a : World} : ∀ (vs : List Value) (o : Nat) (w : World), Mod S a w → (g < a.heap.size → S g) → Mod S a (w.setCells g o vs)
  | [], _, _, h, _ => h
  | v :: r, o, _, h, hg => mod_setCells r (o + 1) _ (h.setCell (p := ⟨g, o, none⟩) hg v) hg
theorem Blk.some {w : World} {g : Nat} {t : TypeId} {cs : Array Value} (h : Blk w g t cs) {j : Nat} (hj : j < cs.size) : (w.cell? ⟨g, j, none⟩).isSome = true := by
  rw [h.cell, Array.getElem?_eq_getElem hj]; rfl
/-- The parts of a row that is the call's own. -/
theorem own_blk {w : World} {base e size n g c o : Nat} {xs : List Value} {s : Option Nat} (h : w.ownsRow base e size (.slice (some ⟨g, o, s⟩) n c) n xs) :
    o = 0 ∧ s = none ∧ base ≤ g ∧ n ≤ c ∧ c ≤ maxLen ∧ xs.length = n * size ∧ ∃ cs : Array Value, Blk w g e cs ∧ cs.size = c * size ∧ cs.toList.take (n * size) = xs := by
  rcases h.2 with ⟨h2, _⟩ | ⟨g', cap, cur, h2, hb, hg, hn, hm, hc, ht⟩
  · cases h2
  · injection h2 with h2 _ h3
    injection h2 with h2
    injection h2 with h4 h5 h6
    subst h3 h4 h5 h6
    exact ⟨rfl, rfl, hb, hn, hm, h.1, cur, hg, hc, ht⟩
theorem blk_own {w : World} {base e size n g c : Nat} {cs : Array Value} (h : Blk w g e cs) (hb : base ≤ g) (hn : n ≤ c) (hm : c ≤ maxLen) (hs : cs.size = c * size) : w.ownsRow base e size (.slice (some ⟨g, 0, none⟩) n c) n (cs.toList.take (n * size)) := by
  refine ⟨?_, .inr ⟨g, c, cs, rfl, hb, h, hn, hm, hs, rfl⟩⟩
  rw [List.length_take, Array.length_toList, hs]
  exact Nat.min_eq_left (Nat.mul_le_mul_right _ hn)
theorem own_none {w : World} {base e size n m c : Nat} {xs : List Value} (h : w.ownsRow base e size (.slice none m c) n xs) : m = 0 ∧ c = 0 ∧ n = 0 ∧ xs = [] := by
  rcases h.2 with ⟨h2, h3⟩ | ⟨_, _, _, h2, _⟩
  · injection h2 with _ h4 h5
    subst h3
    exact ⟨h4, h5, rfl, List.eq_nil_of_length_eq_zero (by simpa using h.1)⟩
  · cases h2
section
variable {w w' : World} {base base' e size n : Nat} {v : Value} {xs : List Value}
theorem own_mod {S : Nat → Prop} (h : w.ownsRow base e size v n xs) (hm : Mod S w w') (hs : ∀ k, v.ownBlock = some k → ¬ S k) : w'.ownsRow base e size v n xs := by
  refine ⟨h.1, ?_⟩
  rcases h.2 with h2 | ⟨g, cap, cur, rfl, hb, hg, h3⟩
  · exact .inl h2
  · exact .inr ⟨g, cap, cur, rfl, hb, (hm.block g (Blk.lt hg) (hs g rfl)).trans hg, h3⟩
theorem own_kept (h : w.ownsRow base e size v n xs) (hm : Kept w w') : w'.ownsRow base e size v n xs := own_mod h hm fun _ _ e => e
theorem own_lower (h : w.ownsRow base e size v n xs) (hb : base' ≤ base) : w.ownsRow base' e size v n xs := by
  refine ⟨h.1, ?_⟩
  rcases h.2 with h2 | ⟨g, cap, cur, rfl, hb', h3⟩
  · exact .inl h2
  · exact .inr ⟨g, cap, cur, rfl, Nat.le_trans hb hb', h3⟩
theorem own_setc (h : w.ownsRow base e size v n xs) {p : Addr} (hp : v.ownBlock ≠ some p.block) (u : Value) : (w.setCell p u).ownsRow base e size v n xs := by
  refine own_mod (S := Only p.block) h ?_ (fun k hk e => hp (by rw [hk, e]))
  exact (Mod.refl (Only p.block) w).setCell (fun _ => rfl) u
end
/-- A world that is spelled out, traded for one of which only some facts are known. -/
theorem at_world {P : World → Prop} {w : World} (Q : World → Prop) (h : Q w) (k : ∀ w', Q w' → P w') : P w := k w h
end Go.Proofs.Ytgmnhjbejofnhaa
