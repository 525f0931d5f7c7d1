/- TimerBy answers true for every input, and its arguments read as they did. Conditions: none. -/
import Derived.Test.YtgmnhjbejofnhaaTmO
import Derived.Test.YtgmnhjbejofnhaaNums
import Derived.Test.YtgmnhjbejofnhaaTmBy
namespace Go.Proofs.Ytgmnhjbejofnhaa
open Go.ChangeShapes Go.WideShapes Go.ChangeAt Go.RowKit
open Go.ChangeMaps (open_string shut_string)

set_option maxRecDepth 100000 in
theorem timerBy_lifted (os : Os) (started : os.Started) (H : Type) (enc : TypeId × Value → H) :
    ReturnsInHanded {} Try.checked os 4 .any (Rows.timerBySpec.pre6 enc Try.prog Try.f4 Rows.timerByRow.domain false) (Rows.timerBySpec.post enc Try.prog Try.f4 false true false false) := by
  refine law_lifted (C := Try.checked) own_knob laid_out started (by kernel_rfl) Try.func4 rfl 4 rfl Try.underlying4 (by kernel_rfl) (fun ds hd => by match ds, hd with | [d0, d1], _ => rfl)
    (ChangeSpec.witness6 (enc := enc) (C := Try.checked) false ⟨#[], #[.slice none 0 0, .slice none 0 0], []⟩ 8 (by kernel_rfl) (by kernel_rfl) (by kernel_rfl) (by kernel_rfl)) ?_
  intro W base args ds ps hval hA hlt hsz
  replace hval : ∀ (j : Nat) t v, Try.f4.params[j]? = some t → args[j]? = some v → Value.okWide Try.prog W .any base t v := hval
  replace hA : DataW.TrodAll enc Try.prog W 0 (fun _ => true) true Try.f4.params.toList args.toList ds ps := hA
  rw [Try.params4] at hA hval
  obtain ⟨v0, v1, d0, d1, p0, p1, rfl, rfl, rfl, h0, h1⟩ := trodAll_two hA
  obtain ⟨a0, len0, cap0, rfl⟩ := okWide_slice Try.underlying22 (hval 0 22 v0 rfl rfl)
  obtain ⟨l, hl0, hr0, hw0⟩ := open_sets h0
  obtain ⟨a1, len1, cap1, rfl⟩ := okWide_slice Try.underlying33 (hval 1 33 v1 rfl rfl)
  obtain ⟨rs, hl1, hr1, hw1, _⟩ := open_nums Try.underlying33 Try.underlying2 (by kernel_rfl) h1
  subst hl1
  by_cases hc : l.length ≤ 150
  · by_cases hc2 : rs.length ≤ 150
    · exact by_small _ _ l rs hc hc2 W hr0 hr1
    · exact by_big2 _ _ l rs hc (by omega) W hr0 hr1
  · exact by_big1 _ _ l rs (by omega) W hr0 hr1

theorem timerBy_holds : Rows.TimerBySaid :=
  OpenClaim.holds_of_wide 4 Try.f4 rfl rfl rfl rfl rfl rfl rfl ⟨rfl, rfl, rfl, rfl, rfl⟩ rfl rfl rfl rfl rfl (by kernel_rfl) Try.func4 (by kernel_rfl)
    (of_decide_eq_true (by kernel_rfl)) (by unfold Func.isWrapper; rw [if_neg (of_decide_eq_false (by kernel_rfl))]; exact ⟨rfl, rfl⟩)
    (fun os started H enc _ => timerBy_lifted os started H enc)
end Go.Proofs.Ytgmnhjbejofnhaa
