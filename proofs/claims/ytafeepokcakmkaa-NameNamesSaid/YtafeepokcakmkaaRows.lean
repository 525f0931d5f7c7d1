/-
  No cell of these rows narrows 'for every input' (looked for: loops, veiled, ifaces, maps, wideKeys, modest, calm, conditions, laid).
  DERIVED. THE GIVEN ROWS OF THIS SEAT. 9 by the template 'for every input the law returns true; each argument reads behind the call as it read before'; 0 by the template 'total and deterministic' (their statements: YtafeepokcakmkaaTotals.lean).
  GIVEN WITH THE SEED: the statements are not yours to turn. If you find one false, say at which input.
  Laid BY PROGRAM, IN A SANDBOX (cutbox-rows.mjs): the forced cells as the released guide's own fill.sh prints them over the translation f3124a6729d036fa… (all of the seat's roots in one cut). By AI agents, Wed Nov 11 2026. No macro, syntax, notation, axiom, sorry.
-/
import Derived.Test.YtafeepokcakmkaaChecked
import GoSem.Claim
import GoSem.ClaimJoined
import GoSem.ClaimMapViews
import Derived.JoinedTies
import Derived.KernelRfl
namespace Go.Proofs.Ytafeepokcakmkaa
/- THE CELL 'sum', in the pinned program and in every row, IS THE sha256 OF THE DUMP (.gsa) THAT YtafeepokcakmkaaProg.lean LOADS. Nothing in Lean hashes anything: it is a label: what it is worth is what the hold of that sum in a sandbox is worth. -/
noncomputable def Try.pinned : Pinned := { name := "ytafeepokcakmkaa", sum := "f3124a6729d036fa098c3de42d5dec6fad0caa375713d1dff62a35e9e2666edc", checked := Try.checked }
namespace Rows
def none {H : Type} : Left H := { results := [], args := [] }

/-- 'hustingslaw01.NameTwo': WHATEVER THE INPUT: true; the input reads as it did. -/
def nameTwoSpec : ChangeSpec := { name := "nameTwo", fn := fun _ => fun
  | [d1, d2] => { results := [.lit (.bool true)], args := [d1, d2] }
  | _ => none }
def nameTwoRow : OpenClaim := { program := "ytafeepokcakmkaa", sum := "f3124a6729d036fa098c3de42d5dec6fad0caa375713d1dff62a35e9e2666edc", func := "hustings/hustingslaw01.NameTwo", spec := "nameTwo", inPlace := ["internal/abi.NoEscape"], apart := false }
def NameTwoSaid : Prop := nameTwoRow.holds Try.pinned (OpenSpec.ofChange nameTwoSpec)

/-- ITS FALSE NEIGHBOUR: 'it returns false'. Refute it at one input. -/
def nameTwoWrong : ChangeSpec := { name := "nameTwo", fn := fun _ => fun
  | [d1, d2] => { results := [.lit (.bool false)], args := [d1, d2] }
  | _ => none }
def NameTwoWrongFalsely : Prop := nameTwoRow.holds Try.pinned (OpenSpec.ofChange nameTwoWrong)

/-- 'hustingslaw01.NameReads': WHATEVER THE INPUT: true; the input reads as it did. -/
def nameReadsSpec : ChangeSpec := { name := "nameReads", fn := fun _ => fun
  | [d1, d2] => { results := [.lit (.bool true)], args := [d1, d2] }
  | _ => none }
def nameReadsRow : OpenClaim := { program := "ytafeepokcakmkaa", sum := "f3124a6729d036fa098c3de42d5dec6fad0caa375713d1dff62a35e9e2666edc", func := "hustings/hustingslaw01.NameReads", spec := "nameReads", inPlace := ["internal/abi.NoEscape"], apart := false }
def NameReadsSaid : Prop := nameReadsRow.holds Try.pinned (OpenSpec.ofChange nameReadsSpec)

/-- ITS FALSE NEIGHBOUR: 'it returns false'. Refute it at one input. -/
def nameReadsWrong : ChangeSpec := { name := "nameReads", fn := fun _ => fun
  | [d1, d2] => { results := [.lit (.bool false)], args := [d1, d2] }
  | _ => none }
def NameReadsWrongFalsely : Prop := nameReadsRow.holds Try.pinned (OpenSpec.ofChange nameReadsWrong)

/-- 'hustingslaw01.NameRow': WHATEVER THE INPUT: true; the input reads as it did. -/
def nameRowSpec : ChangeSpec := { name := "nameRow", fn := fun _ => fun
  | [d1, d2, d3] => { results := [.lit (.bool true)], args := [d1, d2, d3] }
  | _ => none }
def nameRowRow : OpenClaim := { program := "ytafeepokcakmkaa", sum := "f3124a6729d036fa098c3de42d5dec6fad0caa375713d1dff62a35e9e2666edc", func := "hustings/hustingslaw01.NameRow", spec := "nameRow", inPlace := ["internal/abi.NoEscape"], apart := false }
def NameRowSaid : Prop := nameRowRow.holds Try.pinned (OpenSpec.ofChange nameRowSpec)

/-- ITS FALSE NEIGHBOUR: 'it returns false'. Refute it at one input. -/
def nameRowWrong : ChangeSpec := { name := "nameRow", fn := fun _ => fun
  | [d1, d2, d3] => { results := [.lit (.bool false)], args := [d1, d2, d3] }
  | _ => none }
def NameRowWrongFalsely : Prop := nameRowRow.holds Try.pinned (OpenSpec.ofChange nameRowWrong)

/-- 'hustingslaw01.NameTogether': WHATEVER THE INPUT: true; the input reads as it did. -/
def nameTogetherSpec : ChangeSpec := { name := "nameTogether", fn := fun _ => fun
  | [d1, d2, d3, d4] => { results := [.lit (.bool true)], args := [d1, d2, d3, d4] }
  | _ => none }
def nameTogetherRow : OpenClaim := { program := "ytafeepokcakmkaa", sum := "f3124a6729d036fa098c3de42d5dec6fad0caa375713d1dff62a35e9e2666edc", func := "hustings/hustingslaw01.NameTogether", spec := "nameTogether", inPlace := ["internal/abi.NoEscape"], apart := false }
def NameTogetherSaid : Prop := nameTogetherRow.holds Try.pinned (OpenSpec.ofChange nameTogetherSpec)

/-- ITS FALSE NEIGHBOUR: 'it returns false'. Refute it at one input. -/
def nameTogetherWrong : ChangeSpec := { name := "nameTogether", fn := fun _ => fun
  | [d1, d2, d3, d4] => { results := [.lit (.bool false)], args := [d1, d2, d3, d4] }
  | _ => none }
def NameTogetherWrongFalsely : Prop := nameTogetherRow.holds Try.pinned (OpenSpec.ofChange nameTogetherWrong)

/-- 'hustingslaw01.NameLetters': WHATEVER THE INPUT: true; the input reads as it did. -/
def nameLettersSpec : ChangeSpec := { name := "nameLetters", fn := fun _ => fun
  | [d1, d2, d3] => { results := [.lit (.bool true)], args := [d1, d2, d3] }
  | _ => none }
def nameLettersRow : OpenClaim := { program := "ytafeepokcakmkaa", sum := "f3124a6729d036fa098c3de42d5dec6fad0caa375713d1dff62a35e9e2666edc", func := "hustings/hustingslaw01.NameLetters", spec := "nameLetters", inPlace := ["internal/abi.NoEscape"], apart := false }
def NameLettersSaid : Prop := nameLettersRow.holds Try.pinned (OpenSpec.ofChange nameLettersSpec)

/-- ITS FALSE NEIGHBOUR: 'it returns false'. Refute it at one input. -/
def nameLettersWrong : ChangeSpec := { name := "nameLetters", fn := fun _ => fun
  | [d1, d2, d3] => { results := [.lit (.bool false)], args := [d1, d2, d3] }
  | _ => none }
def NameLettersWrongFalsely : Prop := nameLettersRow.holds Try.pinned (OpenSpec.ofChange nameLettersWrong)

/-- 'hustingslaw01.NameNames': WHATEVER THE INPUT: true; the input reads as it did. -/
def nameNamesSpec : ChangeSpec := { name := "nameNames", fn := fun _ => fun
  | [] => { results := [.lit (.bool true)], args := [] }
  | _ => none }
def nameNamesRow : OpenClaim := { program := "ytafeepokcakmkaa", sum := "f3124a6729d036fa098c3de42d5dec6fad0caa375713d1dff62a35e9e2666edc", func := "hustings/hustingslaw01.NameNames", spec := "nameNames", inPlace := ["internal/abi.NoEscape"], apart := false }
def NameNamesSaid : Prop := nameNamesRow.holds Try.pinned (OpenSpec.ofChange nameNamesSpec)

/-- ITS FALSE NEIGHBOUR: 'it returns false'. Refute it at one input. -/
def nameNamesWrong : ChangeSpec := { name := "nameNames", fn := fun _ => fun
  | [] => { results := [.lit (.bool false)], args := [] }
  | _ => none }
def NameNamesWrongFalsely : Prop := nameNamesRow.holds Try.pinned (OpenSpec.ofChange nameNamesWrong)

/-- 'hustingslaw01.NameTells': WHATEVER THE INPUT: true; the input reads as it did. -/
def nameTellsSpec : ChangeSpec := { name := "nameTells", fn := fun _ => fun
  | [d] => { results := [.lit (.bool true)], args := [d] }
  | _ => none }
def nameTellsRow : OpenClaim := { program := "ytafeepokcakmkaa", sum := "f3124a6729d036fa098c3de42d5dec6fad0caa375713d1dff62a35e9e2666edc", func := "hustings/hustingslaw01.NameTells", spec := "nameTells", inPlace := ["internal/abi.NoEscape"], apart := false }
def NameTellsSaid : Prop := nameTellsRow.holds Try.pinned (OpenSpec.ofChange nameTellsSpec)

/-- ITS FALSE NEIGHBOUR: 'it returns false'. Refute it at one input. -/
def nameTellsWrong : ChangeSpec := { name := "nameTells", fn := fun _ => fun
  | [d] => { results := [.lit (.bool false)], args := [d] }
  | _ => none }
def NameTellsWrongFalsely : Prop := nameTellsRow.holds Try.pinned (OpenSpec.ofChange nameTellsWrong)

/-- 'hustingslaw01.NameBack': WHATEVER THE INPUT: true; the input reads as it did. -/
def nameBackSpec : ChangeSpec := { name := "nameBack", fn := fun _ => fun
  | [d1, d2] => { results := [.lit (.bool true)], args := [d1, d2] }
  | _ => none }
def nameBackRow : OpenClaim := { program := "ytafeepokcakmkaa", sum := "f3124a6729d036fa098c3de42d5dec6fad0caa375713d1dff62a35e9e2666edc", func := "hustings/hustingslaw01.NameBack", spec := "nameBack", inPlace := ["internal/abi.NoEscape"], apart := false }
def NameBackSaid : Prop := nameBackRow.holds Try.pinned (OpenSpec.ofChange nameBackSpec)

/-- ITS FALSE NEIGHBOUR: 'it returns false'. Refute it at one input. -/
def nameBackWrong : ChangeSpec := { name := "nameBack", fn := fun _ => fun
  | [d1, d2] => { results := [.lit (.bool false)], args := [d1, d2] }
  | _ => none }
def NameBackWrongFalsely : Prop := nameBackRow.holds Try.pinned (OpenSpec.ofChange nameBackWrong)

/-- 'hustingslaw01.NameOut': WHATEVER THE INPUT: true; the input reads as it did. -/
def nameOutSpec : ChangeSpec := { name := "nameOut", fn := fun _ => fun
  | [d1, d2] => { results := [.lit (.bool true)], args := [d1, d2] }
  | _ => none }
def nameOutRow : OpenClaim := { program := "ytafeepokcakmkaa", sum := "f3124a6729d036fa098c3de42d5dec6fad0caa375713d1dff62a35e9e2666edc", func := "hustings/hustingslaw01.NameOut", spec := "nameOut", inPlace := ["internal/abi.NoEscape"], apart := false }
def NameOutSaid : Prop := nameOutRow.holds Try.pinned (OpenSpec.ofChange nameOutSpec)

/-- ITS FALSE NEIGHBOUR: 'it returns false'. Refute it at one input. -/
def nameOutWrong : ChangeSpec := { name := "nameOut", fn := fun _ => fun
  | [d1, d2] => { results := [.lit (.bool false)], args := [d1, d2] }
  | _ => none }
def NameOutWrongFalsely : Prop := nameOutRow.holds Try.pinned (OpenSpec.ofChange nameOutWrong)

/- THE SECOND FORM. 'bulk': how many values and letters a reading holds, each counted each time it is reached (what is shared counts as often as it is met; a slice's spare places count too). A statement '..UptoSaid' is the law's where the arguments, and the package variables that the reading takes, are together of bulk at most 1048576: NARROWER than '..Said'. Prove '..Said' where nothing that the law and all that it calls make is longer than what came in: it says more and counts as full. Else prove '..UptoSaid'. A law counts once. -/
mutual
def uptoBulk {H : Type} : DataW H → Nat
  | .lit (.string bytes) => bytes.length + 1
  | .lit _ => 1
  | .nil => 1
  | .ptr d => uptoBulk d + 1
  | .slice elems spare => uptoBulkAll elems + uptoBulkAll spare + 1
  | .agg parts => uptoBulkAll parts + 1
  | .iface _ d => uptoBulk d + 1
  | .map entries => uptoBulkEntries entries + 1
  | .held _ => 1
def uptoBulkAll {H : Type} : List (DataW H) → Nat
  | [] => 0
  | d :: r => uptoBulk d + uptoBulkAll r
def uptoBulkEntries {H : Type} : List (Lit × DataW H) → Nat
  | [] => 0
  | x :: r => uptoBulkEntry x + uptoBulkEntries r
def uptoBulkEntry {H : Type} : Lit × DataW H → Nat
  | (.string bytes, d) => bytes.length + uptoBulk d + 1
  | (_, d) => uptoBulk d + 1
 end
def uptoSmall : (H : Type) → List (DataW H) → Bool := fun _ ds => decide (uptoBulkAll ds ≤ 1048576)
def OpenSpec.upto (s : _root_.Go.ChangeSpec) : _root_.Go.OpenSpec := { _root_.Go.OpenSpec.ofChange s with cond := some uptoSmall }

/-- 'hustingslaw01.NameTwo', WHERE WHAT IT READS IS OF BULK AT MOST 1048576: true; the input reads as it did. -/
def nameTwoUptoRow : OpenClaim := { program := "ytafeepokcakmkaa", sum := "f3124a6729d036fa098c3de42d5dec6fad0caa375713d1dff62a35e9e2666edc", func := "hustings/hustingslaw01.NameTwo", spec := "nameTwo", inPlace := ["internal/abi.NoEscape"], apart := false, narrowed := true }
def NameTwoUptoSaid : Prop := nameTwoUptoRow.holds Try.pinned (OpenSpec.upto nameTwoSpec)

/-- 'hustingslaw01.NameReads', WHERE WHAT IT READS IS OF BULK AT MOST 1048576: true; the input reads as it did. -/
def nameReadsUptoRow : OpenClaim := { program := "ytafeepokcakmkaa", sum := "f3124a6729d036fa098c3de42d5dec6fad0caa375713d1dff62a35e9e2666edc", func := "hustings/hustingslaw01.NameReads", spec := "nameReads", inPlace := ["internal/abi.NoEscape"], apart := false, narrowed := true }
def NameReadsUptoSaid : Prop := nameReadsUptoRow.holds Try.pinned (OpenSpec.upto nameReadsSpec)

/-- 'hustingslaw01.NameRow', WHERE WHAT IT READS IS OF BULK AT MOST 1048576: true; the input reads as it did. -/
def nameRowUptoRow : OpenClaim := { program := "ytafeepokcakmkaa", sum := "f3124a6729d036fa098c3de42d5dec6fad0caa375713d1dff62a35e9e2666edc", func := "hustings/hustingslaw01.NameRow", spec := "nameRow", inPlace := ["internal/abi.NoEscape"], apart := false, narrowed := true }
def NameRowUptoSaid : Prop := nameRowUptoRow.holds Try.pinned (OpenSpec.upto nameRowSpec)

/-- 'hustingslaw01.NameTogether', WHERE WHAT IT READS IS OF BULK AT MOST 1048576: true; the input reads as it did. -/
def nameTogetherUptoRow : OpenClaim := { program := "ytafeepokcakmkaa", sum := "f3124a6729d036fa098c3de42d5dec6fad0caa375713d1dff62a35e9e2666edc", func := "hustings/hustingslaw01.NameTogether", spec := "nameTogether", inPlace := ["internal/abi.NoEscape"], apart := false, narrowed := true }
def NameTogetherUptoSaid : Prop := nameTogetherUptoRow.holds Try.pinned (OpenSpec.upto nameTogetherSpec)

/-- 'hustingslaw01.NameLetters', WHERE WHAT IT READS IS OF BULK AT MOST 1048576: true; the input reads as it did. -/
def nameLettersUptoRow : OpenClaim := { program := "ytafeepokcakmkaa", sum := "f3124a6729d036fa098c3de42d5dec6fad0caa375713d1dff62a35e9e2666edc", func := "hustings/hustingslaw01.NameLetters", spec := "nameLetters", inPlace := ["internal/abi.NoEscape"], apart := false, narrowed := true }
def NameLettersUptoSaid : Prop := nameLettersUptoRow.holds Try.pinned (OpenSpec.upto nameLettersSpec)

/-- 'hustingslaw01.NameNames', WHERE WHAT IT READS IS OF BULK AT MOST 1048576: true; the input reads as it did. -/
def nameNamesUptoRow : OpenClaim := { program := "ytafeepokcakmkaa", sum := "f3124a6729d036fa098c3de42d5dec6fad0caa375713d1dff62a35e9e2666edc", func := "hustings/hustingslaw01.NameNames", spec := "nameNames", inPlace := ["internal/abi.NoEscape"], apart := false, narrowed := true }
def NameNamesUptoSaid : Prop := nameNamesUptoRow.holds Try.pinned (OpenSpec.upto nameNamesSpec)

/-- 'hustingslaw01.NameTells', WHERE WHAT IT READS IS OF BULK AT MOST 1048576: true; the input reads as it did. -/
def nameTellsUptoRow : OpenClaim := { program := "ytafeepokcakmkaa", sum := "f3124a6729d036fa098c3de42d5dec6fad0caa375713d1dff62a35e9e2666edc", func := "hustings/hustingslaw01.NameTells", spec := "nameTells", inPlace := ["internal/abi.NoEscape"], apart := false, narrowed := true }
def NameTellsUptoSaid : Prop := nameTellsUptoRow.holds Try.pinned (OpenSpec.upto nameTellsSpec)

/-- 'hustingslaw01.NameBack', WHERE WHAT IT READS IS OF BULK AT MOST 1048576: true; the input reads as it did. -/
def nameBackUptoRow : OpenClaim := { program := "ytafeepokcakmkaa", sum := "f3124a6729d036fa098c3de42d5dec6fad0caa375713d1dff62a35e9e2666edc", func := "hustings/hustingslaw01.NameBack", spec := "nameBack", inPlace := ["internal/abi.NoEscape"], apart := false, narrowed := true }
def NameBackUptoSaid : Prop := nameBackUptoRow.holds Try.pinned (OpenSpec.upto nameBackSpec)

/-- 'hustingslaw01.NameOut', WHERE WHAT IT READS IS OF BULK AT MOST 1048576: true; the input reads as it did. -/
def nameOutUptoRow : OpenClaim := { program := "ytafeepokcakmkaa", sum := "f3124a6729d036fa098c3de42d5dec6fad0caa375713d1dff62a35e9e2666edc", func := "hustings/hustingslaw01.NameOut", spec := "nameOut", inPlace := ["internal/abi.NoEscape"], apart := false, narrowed := true }
def NameOutUptoSaid : Prop := nameOutUptoRow.holds Try.pinned (OpenSpec.upto nameOutSpec)

end Rows
end Go.Proofs.Ytafeepokcakmkaa
