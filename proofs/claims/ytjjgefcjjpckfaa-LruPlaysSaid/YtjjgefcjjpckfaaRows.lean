/-
  No cell of these rows narrows 'for every input' (looked for: loops, veiled, ifaces, maps, wideKeys, modest, calm, conditions, laid).
  DERIVED. THE GIVEN ROWS OF THIS SEAT. 6 by the template 'for every input the law returns true; each argument reads behind the call as it read before'; 0 by the template 'total and deterministic' (their statements: YtjjgefcjjpckfaaTotals.lean).
  GIVEN WITH THE SEED: the statements are not yours to turn. If you find one false, say at which input.
  Laid BY PROGRAM, IN A SANDBOX (cutbox-rows.mjs): the forced cells as the released guide's own fill.sh prints them over the translation fdf79ce5d27642d7… (all of the seat's roots in one cut). By AI agents, Wed Nov 11 2026. No macro, syntax, notation, axiom, sorry.
-/
import Derived.Test.YtjjgefcjjpckfaaChecked
import GoSem.Claim
import GoSem.ClaimJoined
import GoSem.ClaimMapViews
import Derived.JoinedTies
import Derived.KernelRfl
namespace Go.Proofs.Ytjjgefcjjpckfaa
/- THE CELL 'sum', in the pinned program and in every row, IS THE sha256 OF THE DUMP (.gsa) THAT YtjjgefcjjpckfaaProg.lean LOADS. Nothing in Lean hashes anything: it is a label: what it is worth is what the hold of that sum in a sandbox is worth. -/
noncomputable def Try.pinned : Pinned := { name := "ytjjgefcjjpckfaa", sum := "fdf79ce5d27642d7b719aad7f52d96219f3b785d85e002e7be7abf3cf4372376", checked := Try.checked }
namespace Rows
def none {H : Type} : Left H := { results := [], args := [] }

/-- 'hustingslaw15.LruRow': WHATEVER THE INPUT: true; the input reads as it did. -/
def lruRowSpec : ChangeSpec := { name := "lruRow", fn := fun _ => fun
  | [d1, d2] => { results := [.lit (.bool true)], args := [d1, d2] }
  | _ => none }
def lruRowRow : OpenClaim := { program := "ytjjgefcjjpckfaa", sum := "fdf79ce5d27642d7b719aad7f52d96219f3b785d85e002e7be7abf3cf4372376", func := "hustings/hustingslaw15.LruRow", spec := "lruRow", apart := false }
def LruRowSaid : Prop := lruRowRow.holds Try.pinned (OpenSpec.ofChange lruRowSpec)

/-- ITS FALSE NEIGHBOUR: 'it returns false'. Refute it at one input. -/
def lruRowWrong : ChangeSpec := { name := "lruRow", fn := fun _ => fun
  | [d1, d2] => { results := [.lit (.bool false)], args := [d1, d2] }
  | _ => none }
def LruRowWrongFalsely : Prop := lruRowRow.holds Try.pinned (OpenSpec.ofChange lruRowWrong)

/-- 'hustingslaw15.LruDropped': WHATEVER THE INPUT: true; the input reads as it did. -/
def lruDroppedSpec : ChangeSpec := { name := "lruDropped", fn := fun _ => fun
  | [d1, d2, d3] => { results := [.lit (.bool true)], args := [d1, d2, d3] }
  | _ => none }
def lruDroppedRow : OpenClaim := { program := "ytjjgefcjjpckfaa", sum := "fdf79ce5d27642d7b719aad7f52d96219f3b785d85e002e7be7abf3cf4372376", func := "hustings/hustingslaw15.LruDropped", spec := "lruDropped", apart := false }
def LruDroppedSaid : Prop := lruDroppedRow.holds Try.pinned (OpenSpec.ofChange lruDroppedSpec)

/-- ITS FALSE NEIGHBOUR: 'it returns false'. Refute it at one input. -/
def lruDroppedWrong : ChangeSpec := { name := "lruDropped", fn := fun _ => fun
  | [d1, d2, d3] => { results := [.lit (.bool false)], args := [d1, d2, d3] }
  | _ => none }
def LruDroppedWrongFalsely : Prop := lruDroppedRow.holds Try.pinned (OpenSpec.ofChange lruDroppedWrong)

/-- 'hustingslaw15.LruOnce': WHATEVER THE INPUT: true; the input reads as it did. -/
def lruOnceSpec : ChangeSpec := { name := "lruOnce", fn := fun _ => fun
  | [d1, d2, d3] => { results := [.lit (.bool true)], args := [d1, d2, d3] }
  | _ => none }
def lruOnceRow : OpenClaim := { program := "ytjjgefcjjpckfaa", sum := "fdf79ce5d27642d7b719aad7f52d96219f3b785d85e002e7be7abf3cf4372376", func := "hustings/hustingslaw15.LruOnce", spec := "lruOnce", apart := false }
def LruOnceSaid : Prop := lruOnceRow.holds Try.pinned (OpenSpec.ofChange lruOnceSpec)

/-- ITS FALSE NEIGHBOUR: 'it returns false'. Refute it at one input. -/
def lruOnceWrong : ChangeSpec := { name := "lruOnce", fn := fun _ => fun
  | [d1, d2, d3] => { results := [.lit (.bool false)], args := [d1, d2, d3] }
  | _ => none }
def LruOnceWrongFalsely : Prop := lruOnceRow.holds Try.pinned (OpenSpec.ofChange lruOnceWrong)

/-- 'hustingslaw15.LruApart': WHATEVER THE INPUT: true; the input reads as it did. -/
def lruApartSpec : ChangeSpec := { name := "lruApart", fn := fun _ => fun
  | [d1, d2, d3] => { results := [.lit (.bool true)], args := [d1, d2, d3] }
  | _ => none }
def lruApartRow : OpenClaim := { program := "ytjjgefcjjpckfaa", sum := "fdf79ce5d27642d7b719aad7f52d96219f3b785d85e002e7be7abf3cf4372376", func := "hustings/hustingslaw15.LruApart", spec := "lruApart", apart := false }
def LruApartSaid : Prop := lruApartRow.holds Try.pinned (OpenSpec.ofChange lruApartSpec)

/-- ITS FALSE NEIGHBOUR: 'it returns false'. Refute it at one input. -/
def lruApartWrong : ChangeSpec := { name := "lruApart", fn := fun _ => fun
  | [d1, d2, d3] => { results := [.lit (.bool false)], args := [d1, d2, d3] }
  | _ => none }
def LruApartWrongFalsely : Prop := lruApartRow.holds Try.pinned (OpenSpec.ofChange lruApartWrong)

/-- 'hustingslaw15.LruNames': WHATEVER THE INPUT: true; the input reads as it did. -/
def lruNamesSpec : ChangeSpec := { name := "lruNames", fn := fun _ => fun
  | [] => { results := [.lit (.bool true)], args := [] }
  | _ => none }
def lruNamesRow : OpenClaim := { program := "ytjjgefcjjpckfaa", sum := "fdf79ce5d27642d7b719aad7f52d96219f3b785d85e002e7be7abf3cf4372376", func := "hustings/hustingslaw15.LruNames", spec := "lruNames", apart := false }
def LruNamesSaid : Prop := lruNamesRow.holds Try.pinned (OpenSpec.ofChange lruNamesSpec)

/-- ITS FALSE NEIGHBOUR: 'it returns false'. Refute it at one input. -/
def lruNamesWrong : ChangeSpec := { name := "lruNames", fn := fun _ => fun
  | [] => { results := [.lit (.bool false)], args := [] }
  | _ => none }
def LruNamesWrongFalsely : Prop := lruNamesRow.holds Try.pinned (OpenSpec.ofChange lruNamesWrong)

/-- 'hustingslaw15.LruPlays': WHATEVER THE INPUT: true; the input reads as it did. -/
def lruPlaysSpec : ChangeSpec := { name := "lruPlays", fn := fun _ => fun
  | [d1, d2] => { results := [.lit (.bool true)], args := [d1, d2] }
  | _ => none }
def lruPlaysRow : OpenClaim := { program := "ytjjgefcjjpckfaa", sum := "fdf79ce5d27642d7b719aad7f52d96219f3b785d85e002e7be7abf3cf4372376", func := "hustings/hustingslaw15.LruPlays", spec := "lruPlays", apart := false }
def LruPlaysSaid : Prop := lruPlaysRow.holds Try.pinned (OpenSpec.ofChange lruPlaysSpec)

/-- ITS FALSE NEIGHBOUR: 'it returns false'. Refute it at one input. -/
def lruPlaysWrong : ChangeSpec := { name := "lruPlays", fn := fun _ => fun
  | [d1, d2] => { results := [.lit (.bool false)], args := [d1, d2] }
  | _ => none }
def LruPlaysWrongFalsely : Prop := lruPlaysRow.holds Try.pinned (OpenSpec.ofChange lruPlaysWrong)

/- THE SECOND FORM. 'bulk': how many values and letters a reading holds, each counted each time it is reached (what is shared counts as often as it is met; a slice's spare places count too). A statement '..UptoSaid' is the law's where the arguments, and the package variables that the reading takes, are together of bulk at most 1048576: NARROWER than '..Said'. Prove '..Said' where nothing that the law and all that it calls make is longer than what came in: it says more and counts as full. Else prove '..UptoSaid'. A law counts once. -/
mutual
def uptoBulk {H : Type} : DataW H → Nat
  | .lit (.string bytes) => bytes.length + 1
  | .lit _ => 1
  | .nil => 1
  | .ptr d => uptoBulk d + 1
  | .slice elems spare => uptoBulkAll elems + uptoBulkAll spare + 1
  | .agg parts => uptoBulkAll parts + 1
  | .iface _ d => uptoBulk d + 1
  | .map entries => uptoBulkEntries entries + 1
  | .held _ => 1
def uptoBulkAll {H : Type} : List (DataW H) → Nat
  | [] => 0
  | d :: r => uptoBulk d + uptoBulkAll r
def uptoBulkEntries {H : Type} : List (Lit × DataW H) → Nat
  | [] => 0
  | x :: r => uptoBulkEntry x + uptoBulkEntries r
def uptoBulkEntry {H : Type} : Lit × DataW H → Nat
  | (.string bytes, d) => bytes.length + uptoBulk d + 1
  | (_, d) => uptoBulk d + 1
 end
def uptoSmall : (H : Type) → List (DataW H) → Bool := fun _ ds => decide (uptoBulkAll ds ≤ 1048576)
def OpenSpec.upto (s : _root_.Go.ChangeSpec) : _root_.Go.OpenSpec := { _root_.Go.OpenSpec.ofChange s with cond := some uptoSmall }

/-- 'hustingslaw15.LruRow', WHERE WHAT IT READS IS OF BULK AT MOST 1048576: true; the input reads as it did. -/
def lruRowUptoRow : OpenClaim := { program := "ytjjgefcjjpckfaa", sum := "fdf79ce5d27642d7b719aad7f52d96219f3b785d85e002e7be7abf3cf4372376", func := "hustings/hustingslaw15.LruRow", spec := "lruRow", apart := false, narrowed := true }
def LruRowUptoSaid : Prop := lruRowUptoRow.holds Try.pinned (OpenSpec.upto lruRowSpec)

/-- 'hustingslaw15.LruDropped', WHERE WHAT IT READS IS OF BULK AT MOST 1048576: true; the input reads as it did. -/
def lruDroppedUptoRow : OpenClaim := { program := "ytjjgefcjjpckfaa", sum := "fdf79ce5d27642d7b719aad7f52d96219f3b785d85e002e7be7abf3cf4372376", func := "hustings/hustingslaw15.LruDropped", spec := "lruDropped", apart := false, narrowed := true }
def LruDroppedUptoSaid : Prop := lruDroppedUptoRow.holds Try.pinned (OpenSpec.upto lruDroppedSpec)

/-- 'hustingslaw15.LruOnce', WHERE WHAT IT READS IS OF BULK AT MOST 1048576: true; the input reads as it did. -/
def lruOnceUptoRow : OpenClaim := { program := "ytjjgefcjjpckfaa", sum := "fdf79ce5d27642d7b719aad7f52d96219f3b785d85e002e7be7abf3cf4372376", func := "hustings/hustingslaw15.LruOnce", spec := "lruOnce", apart := false, narrowed := true }
def LruOnceUptoSaid : Prop := lruOnceUptoRow.holds Try.pinned (OpenSpec.upto lruOnceSpec)

/-- 'hustingslaw15.LruApart', WHERE WHAT IT READS IS OF BULK AT MOST 1048576: true; the input reads as it did. -/
def lruApartUptoRow : OpenClaim := { program := "ytjjgefcjjpckfaa", sum := "fdf79ce5d27642d7b719aad7f52d96219f3b785d85e002e7be7abf3cf4372376", func := "hustings/hustingslaw15.LruApart", spec := "lruApart", apart := false, narrowed := true }
def LruApartUptoSaid : Prop := lruApartUptoRow.holds Try.pinned (OpenSpec.upto lruApartSpec)

/-- 'hustingslaw15.LruNames', WHERE WHAT IT READS IS OF BULK AT MOST 1048576: true; the input reads as it did. -/
def lruNamesUptoRow : OpenClaim := { program := "ytjjgefcjjpckfaa", sum := "fdf79ce5d27642d7b719aad7f52d96219f3b785d85e002e7be7abf3cf4372376", func := "hustings/hustingslaw15.LruNames", spec := "lruNames", apart := false, narrowed := true }
def LruNamesUptoSaid : Prop := lruNamesUptoRow.holds Try.pinned (OpenSpec.upto lruNamesSpec)

/-- 'hustingslaw15.LruPlays', WHERE WHAT IT READS IS OF BULK AT MOST 1048576: true; the input reads as it did. -/
def lruPlaysUptoRow : OpenClaim := { program := "ytjjgefcjjpckfaa", sum := "fdf79ce5d27642d7b719aad7f52d96219f3b785d85e002e7be7abf3cf4372376", func := "hustings/hustingslaw15.LruPlays", spec := "lruPlays", apart := false, narrowed := true }
def LruPlaysUptoSaid : Prop := lruPlaysUptoRow.holds Try.pinned (OpenSpec.upto lruPlaysSpec)

end Rows
end Go.Proofs.Ytjjgefcjjpckfaa
