/-
  No cell of these rows narrows 'for every input' (looked for: loops, veiled, ifaces, maps, wideKeys, modest, calm, conditions, laid).
  DERIVED. THE GIVEN ROWS OF THIS SEAT. 6 by the template 'for every input the law returns true; each argument reads behind the call as it read before'; 0 by the template 'total and deterministic' (their statements: YtgibhcmdmdbpgaaTotals.lean).
  GIVEN WITH THE SEED: the statements are not yours to turn. If you find one false, say at which input.
  Laid BY PROGRAM, IN A SANDBOX (cutbox-rows.mjs): the forced cells as the released guide's own fill.sh prints them over the translation 099895b991653792… (all of the seat's roots in one cut). By AI agents, Wed Nov 11 2026. No macro, syntax, notation, axiom, sorry.
-/
import Derived.Test.YtgibhcmdmdbpgaaChecked
import GoSem.Claim
import GoSem.ClaimJoined
import GoSem.ClaimMapViews
import Derived.JoinedTies
import Derived.KernelRfl
namespace Go.Proofs.Ytgibhcmdmdbpgaa
/- THE CELL 'sum', in the pinned program and in every row, IS THE sha256 OF THE DUMP (.gsa) THAT YtgibhcmdmdbpgaaProg.lean LOADS. Nothing in Lean hashes anything: it is a label: what it is worth is what the hold of that sum in a sandbox is worth. -/
noncomputable def Try.pinned : Pinned := { name := "ytgibhcmdmdbpgaa", sum := "099895b9916537927449f4687b008411fd3ae02d05b2ab397b8aea00d50a38c2", checked := Try.checked }
namespace Rows
def none {H : Type} : Left H := { results := [], args := [] }

/-- 'hustingslaw18.ZoneFinds': WHATEVER THE INPUT: true; the input reads as it did. -/
def zoneFindsSpec : ChangeSpec := { name := "zoneFinds", fn := fun _ => fun
  | [d1, d2] => { results := [.lit (.bool true)], args := [d1, d2] }
  | _ => none }
def zoneFindsRow : OpenClaim := { program := "ytgibhcmdmdbpgaa", sum := "099895b9916537927449f4687b008411fd3ae02d05b2ab397b8aea00d50a38c2", func := "hustings/hustingslaw18.ZoneFinds", spec := "zoneFinds", inPlace := ["internal/abi.NoEscape"], apart := false }
def ZoneFindsSaid : Prop := zoneFindsRow.holds Try.pinned (OpenSpec.ofChange zoneFindsSpec)

/-- ITS FALSE NEIGHBOUR: 'it returns false'. Refute it at one input. -/
def zoneFindsWrong : ChangeSpec := { name := "zoneFinds", fn := fun _ => fun
  | [d1, d2] => { results := [.lit (.bool false)], args := [d1, d2] }
  | _ => none }
def ZoneFindsWrongFalsely : Prop := zoneFindsRow.holds Try.pinned (OpenSpec.ofChange zoneFindsWrong)

/-- 'hustingslaw18.ZoneNames': WHATEVER THE INPUT: true; the input reads as it did. -/
def zoneNamesSpec : ChangeSpec := { name := "zoneNames", fn := fun _ => fun
  | [] => { results := [.lit (.bool true)], args := [] }
  | _ => none }
def zoneNamesRow : OpenClaim := { program := "ytgibhcmdmdbpgaa", sum := "099895b9916537927449f4687b008411fd3ae02d05b2ab397b8aea00d50a38c2", func := "hustings/hustingslaw18.ZoneNames", spec := "zoneNames", inPlace := ["internal/abi.NoEscape"], apart := false }
def ZoneNamesSaid : Prop := zoneNamesRow.holds Try.pinned (OpenSpec.ofChange zoneNamesSpec)

/-- ITS FALSE NEIGHBOUR: 'it returns false'. Refute it at one input. -/
def zoneNamesWrong : ChangeSpec := { name := "zoneNames", fn := fun _ => fun
  | [] => { results := [.lit (.bool false)], args := [] }
  | _ => none }
def ZoneNamesWrongFalsely : Prop := zoneNamesRow.holds Try.pinned (OpenSpec.ofChange zoneNamesWrong)

/-- 'hustingslaw18.ZoneRow': WHATEVER THE INPUT: true; the input reads as it did. -/
def zoneRowSpec : ChangeSpec := { name := "zoneRow", fn := fun _ => fun
  | [d1, d2, d3] => { results := [.lit (.bool true)], args := [d1, d2, d3] }
  | _ => none }
def zoneRowRow : OpenClaim := { program := "ytgibhcmdmdbpgaa", sum := "099895b9916537927449f4687b008411fd3ae02d05b2ab397b8aea00d50a38c2", func := "hustings/hustingslaw18.ZoneRow", spec := "zoneRow", inPlace := ["internal/abi.NoEscape"], apart := false }
def ZoneRowSaid : Prop := zoneRowRow.holds Try.pinned (OpenSpec.ofChange zoneRowSpec)

/-- ITS FALSE NEIGHBOUR: 'it returns false'. Refute it at one input. -/
def zoneRowWrong : ChangeSpec := { name := "zoneRow", fn := fun _ => fun
  | [d1, d2, d3] => { results := [.lit (.bool false)], args := [d1, d2, d3] }
  | _ => none }
def ZoneRowWrongFalsely : Prop := zoneRowRow.holds Try.pinned (OpenSpec.ofChange zoneRowWrong)

/-- 'hustingslaw18.ZoneInner': WHATEVER THE INPUT: true; the input reads as it did. -/
def zoneInnerSpec : ChangeSpec := { name := "zoneInner", fn := fun _ => fun
  | [d1, d2] => { results := [.lit (.bool true)], args := [d1, d2] }
  | _ => none }
def zoneInnerRow : OpenClaim := { program := "ytgibhcmdmdbpgaa", sum := "099895b9916537927449f4687b008411fd3ae02d05b2ab397b8aea00d50a38c2", func := "hustings/hustingslaw18.ZoneInner", spec := "zoneInner", inPlace := ["internal/abi.NoEscape"], apart := false }
def ZoneInnerSaid : Prop := zoneInnerRow.holds Try.pinned (OpenSpec.ofChange zoneInnerSpec)

/-- ITS FALSE NEIGHBOUR: 'it returns false'. Refute it at one input. -/
def zoneInnerWrong : ChangeSpec := { name := "zoneInner", fn := fun _ => fun
  | [d1, d2] => { results := [.lit (.bool false)], args := [d1, d2] }
  | _ => none }
def ZoneInnerWrongFalsely : Prop := zoneInnerRow.holds Try.pinned (OpenSpec.ofChange zoneInnerWrong)

/-- 'hustingslaw18.ZoneMore': WHATEVER THE INPUT: true; the input reads as it did. -/
def zoneMoreSpec : ChangeSpec := { name := "zoneMore", fn := fun _ => fun
  | [d1, d2, d3] => { results := [.lit (.bool true)], args := [d1, d2, d3] }
  | _ => none }
def zoneMoreRow : OpenClaim := { program := "ytgibhcmdmdbpgaa", sum := "099895b9916537927449f4687b008411fd3ae02d05b2ab397b8aea00d50a38c2", func := "hustings/hustingslaw18.ZoneMore", spec := "zoneMore", inPlace := ["internal/abi.NoEscape"], apart := false }
def ZoneMoreSaid : Prop := zoneMoreRow.holds Try.pinned (OpenSpec.ofChange zoneMoreSpec)

/-- ITS FALSE NEIGHBOUR: 'it returns false'. Refute it at one input. -/
def zoneMoreWrong : ChangeSpec := { name := "zoneMore", fn := fun _ => fun
  | [d1, d2, d3] => { results := [.lit (.bool false)], args := [d1, d2, d3] }
  | _ => none }
def ZoneMoreWrongFalsely : Prop := zoneMoreRow.holds Try.pinned (OpenSpec.ofChange zoneMoreWrong)

/-- 'hustingslaw18.ZoneLetters': WHATEVER THE INPUT: true; the input reads as it did. -/
def zoneLettersSpec : ChangeSpec := { name := "zoneLetters", fn := fun _ => fun
  | [d1, d2, d3] => { results := [.lit (.bool true)], args := [d1, d2, d3] }
  | _ => none }
def zoneLettersRow : OpenClaim := { program := "ytgibhcmdmdbpgaa", sum := "099895b9916537927449f4687b008411fd3ae02d05b2ab397b8aea00d50a38c2", func := "hustings/hustingslaw18.ZoneLetters", spec := "zoneLetters", inPlace := ["internal/abi.NoEscape"], apart := false }
def ZoneLettersSaid : Prop := zoneLettersRow.holds Try.pinned (OpenSpec.ofChange zoneLettersSpec)

/-- ITS FALSE NEIGHBOUR: 'it returns false'. Refute it at one input. -/
def zoneLettersWrong : ChangeSpec := { name := "zoneLetters", fn := fun _ => fun
  | [d1, d2, d3] => { results := [.lit (.bool false)], args := [d1, d2, d3] }
  | _ => none }
def ZoneLettersWrongFalsely : Prop := zoneLettersRow.holds Try.pinned (OpenSpec.ofChange zoneLettersWrong)

/- THE SECOND FORM. 'bulk': how many values and letters a reading holds, each counted each time it is reached (what is shared counts as often as it is met; a slice's spare places count too). A statement '..UptoSaid' is the law's where the arguments, and the package variables that the reading takes, are together of bulk at most 1048576: NARROWER than '..Said'. Prove '..Said' where nothing that the law and all that it calls make is longer than what came in: it says more and counts as full. Else prove '..UptoSaid'. A law counts once. -/
mutual
def uptoBulk {H : Type} : DataW H → Nat
  | .lit (.string bytes) => bytes.length + 1
  | .lit _ => 1
  | .nil => 1
  | .ptr d => uptoBulk d + 1
  | .slice elems spare => uptoBulkAll elems + uptoBulkAll spare + 1
  | .agg parts => uptoBulkAll parts + 1
  | .iface _ d => uptoBulk d + 1
  | .map entries => uptoBulkEntries entries + 1
  | .held _ => 1
def uptoBulkAll {H : Type} : List (DataW H) → Nat
  | [] => 0
  | d :: r => uptoBulk d + uptoBulkAll r
def uptoBulkEntries {H : Type} : List (Lit × DataW H) → Nat
  | [] => 0
  | x :: r => uptoBulkEntry x + uptoBulkEntries r
def uptoBulkEntry {H : Type} : Lit × DataW H → Nat
  | (.string bytes, d) => bytes.length + uptoBulk d + 1
  | (_, d) => uptoBulk d + 1
 end
def uptoSmall : (H : Type) → List (DataW H) → Bool := fun _ ds => decide (uptoBulkAll ds ≤ 1048576)
def OpenSpec.upto (s : _root_.Go.ChangeSpec) : _root_.Go.OpenSpec := { _root_.Go.OpenSpec.ofChange s with cond := some uptoSmall }

/-- 'hustingslaw18.ZoneFinds', WHERE WHAT IT READS IS OF BULK AT MOST 1048576: true; the input reads as it did. -/
def zoneFindsUptoRow : OpenClaim := { program := "ytgibhcmdmdbpgaa", sum := "099895b9916537927449f4687b008411fd3ae02d05b2ab397b8aea00d50a38c2", func := "hustings/hustingslaw18.ZoneFinds", spec := "zoneFinds", inPlace := ["internal/abi.NoEscape"], apart := false, narrowed := true }
def ZoneFindsUptoSaid : Prop := zoneFindsUptoRow.holds Try.pinned (OpenSpec.upto zoneFindsSpec)

/-- 'hustingslaw18.ZoneNames', WHERE WHAT IT READS IS OF BULK AT MOST 1048576: true; the input reads as it did. -/
def zoneNamesUptoRow : OpenClaim := { program := "ytgibhcmdmdbpgaa", sum := "099895b9916537927449f4687b008411fd3ae02d05b2ab397b8aea00d50a38c2", func := "hustings/hustingslaw18.ZoneNames", spec := "zoneNames", inPlace := ["internal/abi.NoEscape"], apart := false, narrowed := true }
def ZoneNamesUptoSaid : Prop := zoneNamesUptoRow.holds Try.pinned (OpenSpec.upto zoneNamesSpec)

/-- 'hustingslaw18.ZoneRow', WHERE WHAT IT READS IS OF BULK AT MOST 1048576: true; the input reads as it did. -/
def zoneRowUptoRow : OpenClaim := { program := "ytgibhcmdmdbpgaa", sum := "099895b9916537927449f4687b008411fd3ae02d05b2ab397b8aea00d50a38c2", func := "hustings/hustingslaw18.ZoneRow", spec := "zoneRow", inPlace := ["internal/abi.NoEscape"], apart := false, narrowed := true }
def ZoneRowUptoSaid : Prop := zoneRowUptoRow.holds Try.pinned (OpenSpec.upto zoneRowSpec)

/-- 'hustingslaw18.ZoneInner', WHERE WHAT IT READS IS OF BULK AT MOST 1048576: true; the input reads as it did. -/
def zoneInnerUptoRow : OpenClaim := { program := "ytgibhcmdmdbpgaa", sum := "099895b9916537927449f4687b008411fd3ae02d05b2ab397b8aea00d50a38c2", func := "hustings/hustingslaw18.ZoneInner", spec := "zoneInner", inPlace := ["internal/abi.NoEscape"], apart := false, narrowed := true }
def ZoneInnerUptoSaid : Prop := zoneInnerUptoRow.holds Try.pinned (OpenSpec.upto zoneInnerSpec)

/-- 'hustingslaw18.ZoneMore', WHERE WHAT IT READS IS OF BULK AT MOST 1048576: true; the input reads as it did. -/
def zoneMoreUptoRow : OpenClaim := { program := "ytgibhcmdmdbpgaa", sum := "099895b9916537927449f4687b008411fd3ae02d05b2ab397b8aea00d50a38c2", func := "hustings/hustingslaw18.ZoneMore", spec := "zoneMore", inPlace := ["internal/abi.NoEscape"], apart := false, narrowed := true }
def ZoneMoreUptoSaid : Prop := zoneMoreUptoRow.holds Try.pinned (OpenSpec.upto zoneMoreSpec)

/-- 'hustingslaw18.ZoneLetters', WHERE WHAT IT READS IS OF BULK AT MOST 1048576: true; the input reads as it did. -/
def zoneLettersUptoRow : OpenClaim := { program := "ytgibhcmdmdbpgaa", sum := "099895b9916537927449f4687b008411fd3ae02d05b2ab397b8aea00d50a38c2", func := "hustings/hustingslaw18.ZoneLetters", spec := "zoneLetters", inPlace := ["internal/abi.NoEscape"], apart := false, narrowed := true }
def ZoneLettersUptoSaid : Prop := zoneLettersUptoRow.holds Try.pinned (OpenSpec.upto zoneLettersSpec)

end Rows
end Go.Proofs.Ytgibhcmdmdbpgaa
