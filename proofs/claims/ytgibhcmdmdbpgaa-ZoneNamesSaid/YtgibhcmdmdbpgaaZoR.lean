/- What is told of a name without a zone: root, none. Conditions: none. -/
import Derived.Test.YtgibhcmdmdbpgaaZoS
import Derived.Laws.Rows
namespace Go.Proofs.Ytgibhcmdmdbpgaa
open Go.RowKit

/-- A zone: its name, its policy, its trust. -/
structure Zn where
  name : ByteArray
  pol : Int
  tr : Int
def znC (z : Zn) : Array Value := #[.string z.name, .int .u8 z.pol, .int .u16 z.tr]
def znRoot : Zn := ⟨⟨#[0]⟩, 1, 0⟩
/-- A function whose result is a zone that lies in a variable. -/
theorem results_zone {fn : Func} {p : Tmp} (h : fn.results = #[.cell p 35]) (tmps : Array Value) (w : World) (g : Nat) (t : TypeId) (a b c : Value) (hp : tmps.getD p undef = .pointer (some ⟨g, 0, none⟩)) (hg : Blk w g t #[a, b, c]) :
    (results fn tmps).run Try.prog w = .ok (.agg #[a, b, c]) w :=
  results_cell_row (P := Try.prog) h tmps w g t #[a, b, c] _ _ hp hg Try.underlying35 rfl (by kernel_rfl)
set_option maxHeartbeats 1000000 in
theorem root_any (w : World) : Calls Try.prog 24 #[] w fun e w' => e = .returned (.agg (znC znRoot)) ∧ Kept w w' := by
  go_enter Try.func24, Try.ntmps24
  go_wp2
  exact bodyPost_ret (results_zone rfl _ _ w.heap.size _ _ _ _ rfl (Blk.new _ _ _)) rfl ⟨rfl, (Mod.refl _ _).alloc _⟩
set_option maxHeartbeats 1000000 in
theorem none_any (w : World) : Calls Try.prog 16 #[] w fun e w' => e = .returned (.agg (znC znRoot)) ∧ Kept w w' := by
  go_enter Try.func16, Try.ntmps16
  go_wp2
  exact bodyPost_ret (results_zone rfl _ _ w.heap.size _ _ _ _ rfl (Blk.new _ _ _)) rfl ⟨rfl, (Mod.refl _ _).alloc _⟩
end Go.Proofs.Ytgibhcmdmdbpgaa
