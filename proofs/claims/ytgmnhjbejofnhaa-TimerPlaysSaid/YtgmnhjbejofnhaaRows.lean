/-
  No cell of these rows narrows 'for every input' (looked for: loops, veiled, ifaces, maps, wideKeys, modest, calm, conditions, laid).
  DERIVED. THE GIVEN ROWS OF THIS SEAT. 7 by the template 'for every input the law returns true; each argument reads behind the call as it read before'; 0 by the template 'total and deterministic' (their statements: YtgmnhjbejofnhaaTotals.lean).
  GIVEN WITH THE SEED: the statements are not yours to turn. If you find one false, say at which input.
  Laid BY PROGRAM, IN A SANDBOX (cutbox-rows.mjs): the forced cells as the released guide's own fill.sh prints them over the translation ac0cc98bccc33280… (all of the seat's roots in one cut). By AI agents, Wed Nov 11 2026. No macro, syntax, notation, axiom, sorry.
-/
import Derived.Test.YtgmnhjbejofnhaaChecked
import GoSem.Claim
import GoSem.ClaimJoined
import GoSem.ClaimMapViews
import Derived.JoinedTies
import Derived.KernelRfl
namespace Go.Proofs.Ytgmnhjbejofnhaa
/- THE CELL 'sum', in the pinned program and in every row, IS THE sha256 OF THE DUMP (.gsa) THAT YtgmnhjbejofnhaaProg.lean LOADS. Nothing in Lean hashes anything: it is a label: what it is worth is what the hold of that sum in a sandbox is worth. -/
noncomputable def Try.pinned : Pinned := { name := "ytgmnhjbejofnhaa", sum := "ac0cc98bccc332808b3aaa54ae1c440a507981b0656d7e05edaed4979b4fd9fb", checked := Try.checked }
namespace Rows
def none {H : Type} : Left H := { results := [], args := [] }

/-- 'hustingslaw14.TimerRow': WHATEVER THE INPUT: true; the input reads as it did. -/
def timerRowSpec : ChangeSpec := { name := "timerRow", fn := fun _ => fun
  | [d1, d2] => { results := [.lit (.bool true)], args := [d1, d2] }
  | _ => none }
def timerRowRow : OpenClaim := { program := "ytgmnhjbejofnhaa", sum := "ac0cc98bccc332808b3aaa54ae1c440a507981b0656d7e05edaed4979b4fd9fb", func := "hustings/hustingslaw14.TimerRow", spec := "timerRow", inPlace := ["slices.overlaps[hustings/timer.thing]"], unfollowed := true, recurses := true, apart := false }
def TimerRowSaid : Prop := timerRowRow.holds Try.pinned (OpenSpec.ofChange timerRowSpec)

/-- ITS FALSE NEIGHBOUR: 'it returns false'. Refute it at one input. -/
def timerRowWrong : ChangeSpec := { name := "timerRow", fn := fun _ => fun
  | [d1, d2] => { results := [.lit (.bool false)], args := [d1, d2] }
  | _ => none }
def TimerRowWrongFalsely : Prop := timerRowRow.holds Try.pinned (OpenSpec.ofChange timerRowWrong)

/-- 'hustingslaw14.TimerBy': WHATEVER THE INPUT: true; the input reads as it did. -/
def timerBySpec : ChangeSpec := { name := "timerBy", fn := fun _ => fun
  | [d1, d2] => { results := [.lit (.bool true)], args := [d1, d2] }
  | _ => none }
def timerByRow : OpenClaim := { program := "ytgmnhjbejofnhaa", sum := "ac0cc98bccc332808b3aaa54ae1c440a507981b0656d7e05edaed4979b4fd9fb", func := "hustings/hustingslaw14.TimerBy", spec := "timerBy", inPlace := ["slices.overlaps[hustings/timer.thing]"], unfollowed := true, recurses := true, apart := false }
def TimerBySaid : Prop := timerByRow.holds Try.pinned (OpenSpec.ofChange timerBySpec)

/-- ITS FALSE NEIGHBOUR: 'it returns false'. Refute it at one input. -/
def timerByWrong : ChangeSpec := { name := "timerBy", fn := fun _ => fun
  | [d1, d2] => { results := [.lit (.bool false)], args := [d1, d2] }
  | _ => none }
def TimerByWrongFalsely : Prop := timerByRow.holds Try.pinned (OpenSpec.ofChange timerByWrong)

/-- 'hustingslaw14.TimerAnew': WHATEVER THE INPUT: true; the input reads as it did. -/
def timerAnewSpec : ChangeSpec := { name := "timerAnew", fn := fun _ => fun
  | [d1, d2, d3, d4] => { results := [.lit (.bool true)], args := [d1, d2, d3, d4] }
  | _ => none }
def timerAnewRow : OpenClaim := { program := "ytgmnhjbejofnhaa", sum := "ac0cc98bccc332808b3aaa54ae1c440a507981b0656d7e05edaed4979b4fd9fb", func := "hustings/hustingslaw14.TimerAnew", spec := "timerAnew", inPlace := ["slices.overlaps[hustings/timer.thing]"], unfollowed := true, recurses := true, apart := false }
def TimerAnewSaid : Prop := timerAnewRow.holds Try.pinned (OpenSpec.ofChange timerAnewSpec)

/-- ITS FALSE NEIGHBOUR: 'it returns false'. Refute it at one input. -/
def timerAnewWrong : ChangeSpec := { name := "timerAnew", fn := fun _ => fun
  | [d1, d2, d3, d4] => { results := [.lit (.bool false)], args := [d1, d2, d3, d4] }
  | _ => none }
def TimerAnewWrongFalsely : Prop := timerAnewRow.holds Try.pinned (OpenSpec.ofChange timerAnewWrong)

/-- 'hustingslaw14.TimerApart': WHATEVER THE INPUT: true; the input reads as it did. -/
def timerApartSpec : ChangeSpec := { name := "timerApart", fn := fun _ => fun
  | [d1, d2, d3] => { results := [.lit (.bool true)], args := [d1, d2, d3] }
  | _ => none }
def timerApartRow : OpenClaim := { program := "ytgmnhjbejofnhaa", sum := "ac0cc98bccc332808b3aaa54ae1c440a507981b0656d7e05edaed4979b4fd9fb", func := "hustings/hustingslaw14.TimerApart", spec := "timerApart", inPlace := ["slices.overlaps[hustings/timer.thing]"], unfollowed := true, recurses := true, apart := false }
def TimerApartSaid : Prop := timerApartRow.holds Try.pinned (OpenSpec.ofChange timerApartSpec)

/-- ITS FALSE NEIGHBOUR: 'it returns false'. Refute it at one input. -/
def timerApartWrong : ChangeSpec := { name := "timerApart", fn := fun _ => fun
  | [d1, d2, d3] => { results := [.lit (.bool false)], args := [d1, d2, d3] }
  | _ => none }
def TimerApartWrongFalsely : Prop := timerApartRow.holds Try.pinned (OpenSpec.ofChange timerApartWrong)

/-- 'hustingslaw14.TimerPlays': WHATEVER THE INPUT: true; the input reads as it did. -/
def timerPlaysSpec : ChangeSpec := { name := "timerPlays", fn := fun _ => fun
  | [d] => { results := [.lit (.bool true)], args := [d] }
  | _ => none }
def timerPlaysRow : OpenClaim := { program := "ytgmnhjbejofnhaa", sum := "ac0cc98bccc332808b3aaa54ae1c440a507981b0656d7e05edaed4979b4fd9fb", func := "hustings/hustingslaw14.TimerPlays", spec := "timerPlays", inPlace := ["slices.overlaps[hustings/timer.thing]"], unfollowed := true, recurses := true, apart := false }
def TimerPlaysSaid : Prop := timerPlaysRow.holds Try.pinned (OpenSpec.ofChange timerPlaysSpec)

/-- ITS FALSE NEIGHBOUR: 'it returns false'. Refute it at one input. -/
def timerPlaysWrong : ChangeSpec := { name := "timerPlays", fn := fun _ => fun
  | [d] => { results := [.lit (.bool false)], args := [d] }
  | _ => none }
def TimerPlaysWrongFalsely : Prop := timerPlaysRow.holds Try.pinned (OpenSpec.ofChange timerPlaysWrong)

/-- 'hustingslaw14.TimerNames': WHATEVER THE INPUT: true; the input reads as it did. -/
def timerNamesSpec : ChangeSpec := { name := "timerNames", fn := fun _ => fun
  | [] => { results := [.lit (.bool true)], args := [] }
  | _ => none }
def timerNamesRow : OpenClaim := { program := "ytgmnhjbejofnhaa", sum := "ac0cc98bccc332808b3aaa54ae1c440a507981b0656d7e05edaed4979b4fd9fb", func := "hustings/hustingslaw14.TimerNames", spec := "timerNames", inPlace := ["slices.overlaps[hustings/timer.thing]"], unfollowed := true, recurses := true, apart := false }
def TimerNamesSaid : Prop := timerNamesRow.holds Try.pinned (OpenSpec.ofChange timerNamesSpec)

/-- ITS FALSE NEIGHBOUR: 'it returns false'. Refute it at one input. -/
def timerNamesWrong : ChangeSpec := { name := "timerNames", fn := fun _ => fun
  | [] => { results := [.lit (.bool false)], args := [] }
  | _ => none }
def TimerNamesWrongFalsely : Prop := timerNamesRow.holds Try.pinned (OpenSpec.ofChange timerNamesWrong)

/-- 'hustingslaw14.TimerFirst': WHATEVER THE INPUT: true; the input reads as it did. -/
def timerFirstSpec : ChangeSpec := { name := "timerFirst", fn := fun _ => fun
  | [d] => { results := [.lit (.bool true)], args := [d] }
  | _ => none }
def timerFirstRow : OpenClaim := { program := "ytgmnhjbejofnhaa", sum := "ac0cc98bccc332808b3aaa54ae1c440a507981b0656d7e05edaed4979b4fd9fb", func := "hustings/hustingslaw14.TimerFirst", spec := "timerFirst", inPlace := ["slices.overlaps[hustings/timer.thing]"], unfollowed := true, recurses := true, apart := false }
def TimerFirstSaid : Prop := timerFirstRow.holds Try.pinned (OpenSpec.ofChange timerFirstSpec)

/-- ITS FALSE NEIGHBOUR: 'it returns false'. Refute it at one input. -/
def timerFirstWrong : ChangeSpec := { name := "timerFirst", fn := fun _ => fun
  | [d] => { results := [.lit (.bool false)], args := [d] }
  | _ => none }
def TimerFirstWrongFalsely : Prop := timerFirstRow.holds Try.pinned (OpenSpec.ofChange timerFirstWrong)

/- THE SECOND FORM. 'bulk': how many values and letters a reading holds, each counted each time it is reached (what is shared counts as often as it is met; a slice's spare places count too). A statement '..UptoSaid' is the law's where the arguments, and the package variables that the reading takes, are together of bulk at most 1048576: NARROWER than '..Said'. Prove '..Said' where nothing that the law and all that it calls make is longer than what came in: it says more and counts as full. Else prove '..UptoSaid'. A law counts once. -/
mutual
def uptoBulk {H : Type} : DataW H → Nat
  | .lit (.string bytes) => bytes.length + 1
  | .lit _ => 1
  | .nil => 1
  | .ptr d => uptoBulk d + 1
  | .slice elems spare => uptoBulkAll elems + uptoBulkAll spare + 1
  | .agg parts => uptoBulkAll parts + 1
  | .iface _ d => uptoBulk d + 1
  | .map entries => uptoBulkEntries entries + 1
  | .held _ => 1
def uptoBulkAll {H : Type} : List (DataW H) → Nat
  | [] => 0
  | d :: r => uptoBulk d + uptoBulkAll r
def uptoBulkEntries {H : Type} : List (Lit × DataW H) → Nat
  | [] => 0
  | x :: r => uptoBulkEntry x + uptoBulkEntries r
def uptoBulkEntry {H : Type} : Lit × DataW H → Nat
  | (.string bytes, d) => bytes.length + uptoBulk d + 1
  | (_, d) => uptoBulk d + 1
 end
def uptoSmall : (H : Type) → List (DataW H) → Bool := fun _ ds => decide (uptoBulkAll ds ≤ 1048576)
def OpenSpec.upto (s : _root_.Go.ChangeSpec) : _root_.Go.OpenSpec := { _root_.Go.OpenSpec.ofChange s with cond := some uptoSmall }

/-- 'hustingslaw14.TimerRow', WHERE WHAT IT READS IS OF BULK AT MOST 1048576: true; the input reads as it did. -/
def timerRowUptoRow : OpenClaim := { program := "ytgmnhjbejofnhaa", sum := "ac0cc98bccc332808b3aaa54ae1c440a507981b0656d7e05edaed4979b4fd9fb", func := "hustings/hustingslaw14.TimerRow", spec := "timerRow", inPlace := ["slices.overlaps[hustings/timer.thing]"], unfollowed := true, recurses := true, apart := false, narrowed := true }
def TimerRowUptoSaid : Prop := timerRowUptoRow.holds Try.pinned (OpenSpec.upto timerRowSpec)

/-- 'hustingslaw14.TimerBy', WHERE WHAT IT READS IS OF BULK AT MOST 1048576: true; the input reads as it did. -/
def timerByUptoRow : OpenClaim := { program := "ytgmnhjbejofnhaa", sum := "ac0cc98bccc332808b3aaa54ae1c440a507981b0656d7e05edaed4979b4fd9fb", func := "hustings/hustingslaw14.TimerBy", spec := "timerBy", inPlace := ["slices.overlaps[hustings/timer.thing]"], unfollowed := true, recurses := true, apart := false, narrowed := true }
def TimerByUptoSaid : Prop := timerByUptoRow.holds Try.pinned (OpenSpec.upto timerBySpec)

/-- 'hustingslaw14.TimerAnew', WHERE WHAT IT READS IS OF BULK AT MOST 1048576: true; the input reads as it did. -/
def timerAnewUptoRow : OpenClaim := { program := "ytgmnhjbejofnhaa", sum := "ac0cc98bccc332808b3aaa54ae1c440a507981b0656d7e05edaed4979b4fd9fb", func := "hustings/hustingslaw14.TimerAnew", spec := "timerAnew", inPlace := ["slices.overlaps[hustings/timer.thing]"], unfollowed := true, recurses := true, apart := false, narrowed := true }
def TimerAnewUptoSaid : Prop := timerAnewUptoRow.holds Try.pinned (OpenSpec.upto timerAnewSpec)

/-- 'hustingslaw14.TimerApart', WHERE WHAT IT READS IS OF BULK AT MOST 1048576: true; the input reads as it did. -/
def timerApartUptoRow : OpenClaim := { program := "ytgmnhjbejofnhaa", sum := "ac0cc98bccc332808b3aaa54ae1c440a507981b0656d7e05edaed4979b4fd9fb", func := "hustings/hustingslaw14.TimerApart", spec := "timerApart", inPlace := ["slices.overlaps[hustings/timer.thing]"], unfollowed := true, recurses := true, apart := false, narrowed := true }
def TimerApartUptoSaid : Prop := timerApartUptoRow.holds Try.pinned (OpenSpec.upto timerApartSpec)

/-- 'hustingslaw14.TimerPlays', WHERE WHAT IT READS IS OF BULK AT MOST 1048576: true; the input reads as it did. -/
def timerPlaysUptoRow : OpenClaim := { program := "ytgmnhjbejofnhaa", sum := "ac0cc98bccc332808b3aaa54ae1c440a507981b0656d7e05edaed4979b4fd9fb", func := "hustings/hustingslaw14.TimerPlays", spec := "timerPlays", inPlace := ["slices.overlaps[hustings/timer.thing]"], unfollowed := true, recurses := true, apart := false, narrowed := true }
def TimerPlaysUptoSaid : Prop := timerPlaysUptoRow.holds Try.pinned (OpenSpec.upto timerPlaysSpec)

/-- 'hustingslaw14.TimerNames', WHERE WHAT IT READS IS OF BULK AT MOST 1048576: true; the input reads as it did. -/
def timerNamesUptoRow : OpenClaim := { program := "ytgmnhjbejofnhaa", sum := "ac0cc98bccc332808b3aaa54ae1c440a507981b0656d7e05edaed4979b4fd9fb", func := "hustings/hustingslaw14.TimerNames", spec := "timerNames", inPlace := ["slices.overlaps[hustings/timer.thing]"], unfollowed := true, recurses := true, apart := false, narrowed := true }
def TimerNamesUptoSaid : Prop := timerNamesUptoRow.holds Try.pinned (OpenSpec.upto timerNamesSpec)

/-- 'hustingslaw14.TimerFirst', WHERE WHAT IT READS IS OF BULK AT MOST 1048576: true; the input reads as it did. -/
def timerFirstUptoRow : OpenClaim := { program := "ytgmnhjbejofnhaa", sum := "ac0cc98bccc332808b3aaa54ae1c440a507981b0656d7e05edaed4979b4fd9fb", func := "hustings/hustingslaw14.TimerFirst", spec := "timerFirst", inPlace := ["slices.overlaps[hustings/timer.thing]"], unfollowed := true, recurses := true, apart := false, narrowed := true }
def TimerFirstUptoSaid : Prop := timerFirstUptoRow.holds Try.pinned (OpenSpec.upto timerFirstSpec)

end Rows
end Go.Proofs.Ytgmnhjbejofnhaa
