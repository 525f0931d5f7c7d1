/- A table of zones in memory; how many labels a name has; Len. Conditions: texts that a memory may hold. -/
import Derived.Test.YtgibhcmdmdbpgaaZoR
import Derived.Test.YtgibhcmdmdbpgaaMp
namespace Go.Proofs.Ytgibhcmdmdbpgaa
open Go.RowKit

/-- How many labels. -/
def labK (n : ByteArray) : Nat := ((splitN (bys n)).getD []).length
/-- The zones of a table lie in a map of maps: block g the table, mo the outer map, oe its entries. -/
structure Zt (w : World) (base g mo : Nat) (oe : List (Nat × Nat)) (l : List Zn) (c : Int) : Prop where
  blk : Blk w g 43 #[.map (some mo), .int .i64 c]
  outer : Mpb w mo (oe.map fun p => (.int .i64 (p.1 : Int), .map (some p.2)))
  inner : ∀ p ∈ oe, Mpb w p.2 ((l.filter fun z => labK z.name == p.1).map fun z => (.string z.name, .agg (znC z)))
  every : ∀ z ∈ l, ∃ p ∈ oe, p.1 = labK z.name
  keys : (oe.map (·.1)).Nodup
  blks : (g :: mo :: oe.map (·.2)).Nodup
  lo : ∀ b ∈ g :: mo :: oe.map (·.2), base ≤ b ∧ b < w.heap.size
theorem Zt.mod {w w' : World} {S : Nat → Prop} {base g mo : Nat} {oe : List (Nat × Nat)} {l : List Zn} {c : Int} (h : Zt w base g mo oe l c) (hm : Mod S w w') (hs : ∀ b ∈ g :: mo :: oe.map (·.2), ¬ S b) : Zt w' base g mo oe l c := by
  refine ⟨h.blk.mod hm (hs g (by simp)), h.outer.mod hm (hs mo (by simp)), fun p hp => (h.inner p hp).mod hm (hs p.2 (List.mem_cons_of_mem _ (List.mem_cons_of_mem _ (List.mem_map.2 ⟨p, hp, rfl⟩)))), h.every, h.keys, h.blks, fun b hb => ⟨(h.lo b hb).1, Nat.lt_of_lt_of_le (h.lo b hb).2 hm.size⟩⟩
theorem Zt.kept {w w' : World} {base g mo : Nat} {oe : List (Nat × Nat)} {l : List Zn} {c : Int} (h : Zt w base g mo oe l c) (hm : Kept w w') : Zt w' base g mo oe l c := h.mod hm fun _ _ e => e

set_option maxHeartbeats 1000000 in
theorem len_nil (w : World) : Calls Try.prog 15 #[.pointer none] w fun e w' => e = .returned (.int .i64 0) ∧ w = w' := by
  go_enter Try.func15, Try.ntmps15
  go_wp2
  go_ret
  exact ⟨rfl, rfl⟩
set_option maxHeartbeats 1000000 in
theorem len_any (w : World) (base g mo : Nat) (oe : List (Nat × Nat)) (l : List Zn) (c : Int) (h : Zt w base g mo oe l c) : Calls Try.prog 15 #[.pointer (some ⟨g, 0, none⟩)] w fun e w' => e = .returned (.int .i64 c) ∧ w = w' := by
  have h1 : w.cell? ⟨g, 1, none⟩ = some (.int .i64 c) := h.blk.cell 1
  clear h
  go_enter Try.func15, Try.ntmps15
  go_wp2
  go_ret
  exact ⟨rfl, rfl⟩
end Go.Proofs.Ytgibhcmdmdbpgaa
