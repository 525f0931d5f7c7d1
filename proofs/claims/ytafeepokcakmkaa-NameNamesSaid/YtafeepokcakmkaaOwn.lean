/- Rows of the call's own, kept over what turns other blocks; a row of texts. No conditions. -/
import Derived.Test.YtafeepokcakmkaaApp
import Derived.Test.YtafeepokcakmkaaStrs
namespace Go.Proofs.Ytafeepokcakmkaa
open Go.RowKit

section
variable {w w' : World} {base base' e size n : Nat} {v : Value} {xs : List Value}
theorem own_mod {S : Nat → Prop} (h : w.ownsRow base e size v n xs) (hm : Mod S w w') (hs : ∀ k, v.ownBlock = some k → ¬ S k) : w'.ownsRow base e size v n xs := by
  refine ⟨h.1, ?_⟩
  rcases h.2 with h2 | ⟨g, cap, cur, rfl, hb, hg, h3⟩
  · exact .inl h2
  · exact .inr ⟨g, cap, cur, rfl, hb, (hm.block g (Blk.lt hg) (hs g rfl)).trans hg, h3⟩
theorem own_kept (h : w.ownsRow base e size v n xs) (hm : Kept w w') : w'.ownsRow base e size v n xs := own_mod h hm fun _ _ e => e
theorem own_lower (h : w.ownsRow base e size v n xs) (hb : base' ≤ base) : w.ownsRow base' e size v n xs := by
  refine ⟨h.1, ?_⟩
  rcases h.2 with h2 | ⟨g, cap, cur, rfl, hb', h3⟩
  · exact .inl h2
  · exact .inr ⟨g, cap, cur, rfl, Nat.le_trans hb hb', h3⟩
theorem own_setc (h : w.ownsRow base e size v n xs) {p : Addr} (hp : v.ownBlock ≠ some p.block) (u : Value) : (w.setCell p u).ownsRow base e size v n xs := by
  refine own_mod (S := Only p.block) h ?_ (fun k hk e => hp (by rw [hk, e]))
  exact (Mod.refl (Only p.block) w).setCell (fun _ => rfl) u
/-- Of two rows of other types neither is the other one. -/
theorem own_apart (h : w.ownsRow base e size v n xs) {k : Nat} (hk : k < base) : ∀ i, v.ownBlock = some i → i ≠ k := fun i hi => by have := (h.lt i hi).1; omega
end
/-- A world that is spelled out, traded for one of which only some facts are known. -/
theorem at_world {P : World → Prop} {w : World} (Q : World → Prop) (h : Q w) (k : ∀ w', Q w' → P w') : P w := k w h
/-- A row of texts of the call's own. -/
def Txs (w : World) (base : Nat) (v : Value) (L : List ByteArray) : Prop := w.ownsRow base 9 1 v L.length (strVals L)
theorem Txs.nil (w : World) (base : Nat) : Txs w base (.slice none 0 0) [] := World.ownsRow_nil _ _ _ _
theorem Txs.kept {w w' : World} {base : Nat} {v : Value} {L : List ByteArray} (h : Txs w base v L) (hm : Kept w w') : Txs w' base v L := own_kept h hm
theorem Txs.rd {w : World} {base : Nat} {v : Value} {L : List ByteArray} (h : Txs w base v L) : Rd w 1 v L.length (strVals L) := Rd.of_own h
theorem Txs.form {w : World} {base : Nat} {v : Value} {L : List ByteArray} (h : Txs w base v L) : ∃ A c, v = .slice A L.length c := own_form h
theorem Txs.snoc {w : World} {base : Nat} {v : Value} {L : List ByteArray} {x : ByteArray} (h : w.ownsRow base 9 1 v (L.length + 1) (strVals L ++ (Value.string x).cells.toList)) : Txs w base v (L ++ [x]) := by
  unfold Txs
  simpa [strVals, Value.cells] using h
theorem elem_str : Elem Try.prog 25 9 1 16 := ⟨by kernel_rfl, by kernel_rfl, by decide, by decide⟩
end Go.Proofs.Ytafeepokcakmkaa
