/- NameLetters answers true for every input, and its arguments read as they did. Conditions: none. -/
import Derived.Test.YtafeepokcakmkaaNamLt
import Derived.Test.YtafeepokcakmkaaLaw
import Derived.Test.YtafeepokcakmkaaNums
namespace Go.Proofs.Ytafeepokcakmkaa
open Go.ChangeShapes Go.WideShapes Go.ChangeAt Go.RowKit
open Go.ChangeMaps (open_string shut_string)

set_option maxRecDepth 100000 in
theorem nameLetters_lifted (os : Os) (started : os.Started) (H : Type) (enc : TypeId × Value → H) :
    ReturnsInHanded {} Try.checked os 7 .any (Rows.nameLettersSpec.pre6 enc Try.prog Try.f7 Rows.nameLettersRow.domain false) (Rows.nameLettersSpec.post enc Try.prog Try.f7 false true false false) := by
  refine law_lifted (C := Try.checked) own_knob laid_out started (by kernel_rfl) Try.func7 rfl 4 rfl Try.underlying4 (by kernel_rfl) (fun ds hd => by match ds, hd with | [d0, d1, d2], _ => rfl)
    (ChangeSpec.witness6 (enc := enc) (C := Try.checked) false ⟨#[], #[.string ⟨#[]⟩, .string ⟨#[]⟩, .slice none 0 0], []⟩ 8 (by kernel_rfl) (by kernel_rfl) (by kernel_rfl) (by kernel_rfl)) ?_
  intro W base args ds ps hval hA hlt hsz
  replace hval : ∀ (j : Nat) t v, Try.f7.params[j]? = some t → args[j]? = some v → Value.okWide Try.prog W .any base t v := hval
  replace hA : DataW.TrodAll enc Try.prog W 0 (fun _ => true) true Try.f7.params.toList args.toList ds ps := hA
  rw [Try.params7] at hA hval
  obtain ⟨v0, v1, v2, d0, d1, d2, p0, p1, p2, rfl, rfl, rfl, h0, h1, h2⟩ := trodAll_three hA
  obtain ⟨a, rfl, rfl, rfl, wa⟩ := open_string Try.underlying9 (hval 0 9 v0 rfl rfl) h0
  obtain ⟨b, rfl, rfl, rfl, wb⟩ := open_string Try.underlying9 (hval 1 9 v1 rfl rfl) h1
  obtain ⟨a2, len2, cap2, rfl⟩ := okWide_slice Try.underlying35 (hval 2 35 v2 rfl rfl)
  obtain ⟨zs, hl2, hr2, hw2⟩ := open_nums Try.underlying35 Try.underlying5 (by kernel_rfl) h2
  subst hl2
  obtain ⟨ds, rfl, hds⟩ := nat_of_u8 zs (fun z hz => wf_u8 (hw2.2 z hz))
  have hlen : (ds.map (fun n : Nat => (n : Int))).length = ds.length := List.length_map _
  have hr3 : Rd W 1 (.slice a2 (ds.map (fun n : Nat => (n : Int))).length cap2) ds.length (u8s ds) := by
    have h := hr2
    rw [List.map_map] at h
    exact hlen ▸ h
  exact letters_any a b _ ds hds (by unfold maxLen at wa; omega) (by unfold maxLen at wb; omega) (by have := hw2.1; rw [hlen] at this; unfold maxLen at this; omega) W hr3

theorem nameLetters_holds : Rows.NameLettersSaid :=
  OpenClaim.holds_of_wide 7 Try.f7 rfl rfl rfl rfl rfl rfl rfl ⟨rfl, rfl, rfl, rfl, rfl⟩ rfl rfl rfl rfl rfl (by kernel_rfl) Try.func7 (by kernel_rfl)
    (of_decide_eq_true (by kernel_rfl)) (by unfold Func.isWrapper; rw [if_neg (of_decide_eq_false (by kernel_rfl))]; exact ⟨rfl, rfl⟩)
    (fun os started H enc _ => nameLetters_lifted os started H enc)
end Go.Proofs.Ytafeepokcakmkaa
