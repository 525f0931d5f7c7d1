/- ZoneFinds answers true for every input, and its arguments read as they did. Conditions: none. -/
import Derived.Test.YtgibhcmdmdbpgaaZoFnd
import Derived.Test.YtgibhcmdmdbpgaaZoO
import Derived.Test.YtgibhcmdmdbpgaaLaw
import Derived.Test.YtgibhcmdmdbpgaaNums
import Derived.Test.YtgibhcmdmdbpgaaStrs
namespace Go.Proofs.Ytgibhcmdmdbpgaa
open Go.ChangeShapes Go.WideShapes Go.ChangeAt Go.RowKit
open Go.ChangeMaps (open_string shut_string)

set_option maxRecDepth 100000 in
theorem zoneFinds_lifted (os : Os) (started : os.Started) (H : Type) (enc : TypeId × Value → H) :
    ReturnsInHanded {} Try.checked os 3 .any (Rows.zoneFindsSpec.pre6 enc Try.prog Try.f3 Rows.zoneFindsRow.domain false) (Rows.zoneFindsSpec.post enc Try.prog Try.f3 false true false false) := by
  refine law_lifted (C := Try.checked) own_knob laid_out started (by kernel_rfl) Try.func3 rfl 4 rfl Try.underlying4 (by kernel_rfl) (fun ds hd => by match ds, hd with | [d0, d1], _ => rfl)
    (ChangeSpec.witness6 (enc := enc) (C := Try.checked) false ⟨#[], #[.slice none 0 0, .slice none 0 0], []⟩ 8 (by kernel_rfl) (by kernel_rfl) (by kernel_rfl) (by kernel_rfl)) ?_
  intro W base args ds ps hval hA hlt hsz
  replace hval : ∀ (j : Nat) t v, Try.f3.params[j]? = some t → args[j]? = some v → Value.okWide Try.prog W .any base t v := hval
  replace hA : DataW.TrodAll enc Try.prog W 0 (fun _ => true) true Try.f3.params.toList args.toList ds ps := hA
  rw [Try.params3] at hA hval
  obtain ⟨v0, v1, d0, d1, p0, p1, rfl, rfl, rfl, h0, h1⟩ := trodAll_two hA
  obtain ⟨a0, len0, cap0, rfl⟩ := okWide_slice Try.underlying22 (hval 0 22 v0 rfl rfl)
  obtain ⟨l, hl0, hr0, hw0⟩ := open_zones h0
  obtain ⟨a1, len1, cap1, rfl⟩ := okWide_slice Try.underlying23 (hval 1 23 v1 rfl rfl)
  obtain ⟨ns, hl1, hr1, hw1⟩ := open_strs Try.underlying23 Try.underlying9 (by kernel_rfl) h1
  subst hl0 hl1
  exact finds_any _ _ l ns hw0.1 hw0.2 (fun x hx => by have := hw1.2 x hx; unfold maxLen at this; omega) (by have := hw1.1; unfold maxLen at this; omega) W hr0 hr1

theorem zoneFinds_holds : Rows.ZoneFindsSaid :=
  OpenClaim.holds_of_wide 3 Try.f3 rfl rfl rfl rfl rfl rfl rfl ⟨rfl, rfl, rfl, rfl, rfl⟩ rfl rfl rfl rfl rfl (by kernel_rfl) Try.func3 (by kernel_rfl)
    (of_decide_eq_true (by kernel_rfl)) (by unfold Func.isWrapper; rw [if_neg (of_decide_eq_false (by kernel_rfl))]; exact ⟨rfl, rfl⟩)
    (fun os started H enc _ => zoneFinds_lifted os started H enc)
end Go.Proofs.Ytgibhcmdmdbpgaa
