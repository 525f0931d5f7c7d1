/- TimerApart answers true for every input, and its arguments read as they did. Conditions: none. -/
import Derived.Test.YtgmnhjbejofnhaaTmO
import Derived.Test.YtgmnhjbejofnhaaTmApt
namespace Go.Proofs.Ytgmnhjbejofnhaa
open Go.ChangeShapes Go.WideShapes Go.ChangeAt Go.RowKit
open Go.ChangeMaps (open_string shut_string)

set_option maxRecDepth 100000 in
theorem timerApart_lifted (os : Os) (started : os.Started) (H : Type) (enc : TypeId × Value → H) :
    ReturnsInHanded {} Try.checked os 6 .any (Rows.timerApartSpec.pre6 enc Try.prog Try.f6 Rows.timerApartRow.domain false) (Rows.timerApartSpec.post enc Try.prog Try.f6 false true false false) := by
  refine law_lifted (C := Try.checked) own_knob laid_out started (by kernel_rfl) Try.func6 rfl 4 rfl Try.underlying4 (by kernel_rfl) (fun ds hd => by match ds, hd with | [d0, d1, d2], _ => rfl)
    (ChangeSpec.witness6 (enc := enc) (C := Try.checked) false ⟨#[], #[.slice none 0 0, .slice none 0 0, .int .i64 0], []⟩ 8 (by kernel_rfl) (by kernel_rfl) (by kernel_rfl) (by kernel_rfl)) ?_
  intro W base args ds ps hval hA hlt hsz
  replace hval : ∀ (j : Nat) t v, Try.f6.params[j]? = some t → args[j]? = some v → Value.okWide Try.prog W .any base t v := hval
  replace hA : DataW.TrodAll enc Try.prog W 0 (fun _ => true) true Try.f6.params.toList args.toList ds ps := hA
  rw [Try.params6] at hA hval
  obtain ⟨v0, v1, v2, d0, d1, d2, p0, p1, p2, rfl, rfl, rfl, h0, h1, h2⟩ := trodAll_three hA
  obtain ⟨a0, len0, cap0, rfl⟩ := okWide_slice Try.underlying22 (hval 0 22 v0 rfl rfl)
  obtain ⟨l, hl0, hr0, hw0⟩ := open_sets h0
  obtain ⟨a1, len1, cap1, rfl⟩ := okWide_slice Try.underlying22 (hval 1 22 v1 rfl rfl)
  obtain ⟨more, hl1, hr1, hw1⟩ := open_sets h1
  obtain ⟨now, rfl, rfl, rfl, wnow⟩ := open_int Try.underlying2 (hval 2 2 v2 rfl rfl) h2
  by_cases hc : l.length ≤ 150
  · by_cases hc2 : more.length ≤ 150
    · exact apart_small _ _ now l more hc hc2 W hr0 hr1
    · exact apart_big2 _ _ now l more hc (by omega) W hr0 hr1
  · exact apart_big1 _ _ now l more (by omega) W hr0 hr1

theorem timerApart_holds : Rows.TimerApartSaid :=
  OpenClaim.holds_of_wide 6 Try.f6 rfl rfl rfl rfl rfl rfl rfl ⟨rfl, rfl, rfl, rfl, rfl⟩ rfl rfl rfl rfl rfl (by kernel_rfl) Try.func6 (by kernel_rfl)
    (of_decide_eq_true (by kernel_rfl)) (by unfold Func.isWrapper; rw [if_neg (of_decide_eq_false (by kernel_rfl))]; exact ⟨rfl, rfl⟩)
    (fun os started H enc _ => timerApart_lifted os started H enc)
end Go.Proofs.Ytgmnhjbejofnhaa
