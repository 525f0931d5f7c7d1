/- ZoneMore answers true for every input, and its arguments read as they did. Conditions: none. -/
import Derived.Test.YtgibhcmdmdbpgaaZoMor
import Derived.Test.YtgibhcmdmdbpgaaZoO
import Derived.Test.YtgibhcmdmdbpgaaLaw
import Derived.Test.YtgibhcmdmdbpgaaNums
namespace Go.Proofs.Ytgibhcmdmdbpgaa
open Go.ChangeShapes Go.WideShapes Go.ChangeAt Go.RowKit
open Go.ChangeMaps (open_string shut_string)

set_option maxRecDepth 100000 in
theorem zoneMore_lifted (os : Os) (started : os.Started) (H : Type) (enc : TypeId × Value → H) :
    ReturnsInHanded {} Try.checked os 7 .any (Rows.zoneMoreSpec.pre6 enc Try.prog Try.f7 Rows.zoneMoreRow.domain false) (Rows.zoneMoreSpec.post enc Try.prog Try.f7 false true false false) := by
  refine law_lifted (C := Try.checked) own_knob laid_out started (by kernel_rfl) Try.func7 rfl 4 rfl Try.underlying4 (by kernel_rfl) (fun ds hd => by match ds, hd with | [d0, d1, d2], _ => rfl)
    (ChangeSpec.witness6 (enc := enc) (C := Try.checked) false ⟨#[], #[.slice none 0 0, .agg #[.string ⟨#[]⟩, .int .u8 0, .int .u16 0], .string ⟨#[]⟩], []⟩ 8 (by kernel_rfl) (by kernel_rfl) (by kernel_rfl) (by kernel_rfl)) ?_
  intro W base args ds ps hval hA hlt hsz
  replace hval : ∀ (j : Nat) t v, Try.f7.params[j]? = some t → args[j]? = some v → Value.okWide Try.prog W .any base t v := hval
  replace hA : DataW.TrodAll enc Try.prog W 0 (fun _ => true) true Try.f7.params.toList args.toList ds ps := hA
  rw [Try.params7] at hA hval
  obtain ⟨v0, v1, v2, d0, d1, d2, p0, p1, p2, rfl, rfl, rfl, h0, h1, h2⟩ := trodAll_three hA
  obtain ⟨a0, len0, cap0, rfl⟩ := okWide_slice Try.underlying22 (hval 0 22 v0 rfl rfl)
  obtain ⟨l, hl0, hr0, hw0⟩ := open_zones h0
  obtain ⟨z, rfl, wz⟩ := open_zone (hval 1 35 v1 rfl rfl) h1
  obtain ⟨n, rfl, rfl, rfl, wn⟩ := open_string Try.underlying9 (hval 2 9 v2 rfl rfl) h2
  subst hl0
  exact more_any _ l z n hw0.1 hw0.2 wz (by unfold maxLen at wn; omega) W hr0

theorem zoneMore_holds : Rows.ZoneMoreSaid :=
  OpenClaim.holds_of_wide 7 Try.f7 rfl rfl rfl rfl rfl rfl rfl ⟨rfl, rfl, rfl, rfl, rfl⟩ rfl rfl rfl rfl rfl (by kernel_rfl) Try.func7 (by kernel_rfl)
    (of_decide_eq_true (by kernel_rfl)) (by unfold Func.isWrapper; rw [if_neg (of_decide_eq_false (by kernel_rfl))]; exact ⟨rfl, rfl⟩)
    (fun os started H enc _ => zoneMore_lifted os started H enc)
end Go.Proofs.Ytgibhcmdmdbpgaa
