/- ZoneRow answers true for every input, and its arguments read as they did. Conditions: none. -/
import Derived.Test.YtgibhcmdmdbpgaaZoRow
import Derived.Test.YtgibhcmdmdbpgaaZoO
import Derived.Test.YtgibhcmdmdbpgaaLaw
import Derived.Test.YtgibhcmdmdbpgaaNums
namespace Go.Proofs.Ytgibhcmdmdbpgaa
open Go.ChangeShapes Go.WideShapes Go.ChangeAt Go.RowKit
open Go.ChangeMaps (open_string shut_string)

set_option maxRecDepth 100000 in
theorem zoneRow_lifted (os : Os) (started : os.Started) (H : Type) (enc : TypeId × Value → H) :
    ReturnsInHanded {} Try.checked os 5 .any (Rows.zoneRowSpec.pre6 enc Try.prog Try.f5 Rows.zoneRowRow.domain false) (Rows.zoneRowSpec.post enc Try.prog Try.f5 false true false false) := by
  refine law_lifted (C := Try.checked) own_knob laid_out started (by kernel_rfl) Try.func5 rfl 4 rfl Try.underlying4 (by kernel_rfl) (fun ds hd => by match ds, hd with | [d0, d1, d2], _ => rfl)
    (ChangeSpec.witness6 (enc := enc) (C := Try.checked) false ⟨#[], #[.slice none 0 0, .int .i64 0, .string ⟨#[]⟩], []⟩ 8 (by kernel_rfl) (by kernel_rfl) (by kernel_rfl) (by kernel_rfl)) ?_
  intro W base args ds ps hval hA hlt hsz
  replace hval : ∀ (j : Nat) t v, Try.f5.params[j]? = some t → args[j]? = some v → Value.okWide Try.prog W .any base t v := hval
  replace hA : DataW.TrodAll enc Try.prog W 0 (fun _ => true) true Try.f5.params.toList args.toList ds ps := hA
  rw [Try.params5] at hA hval
  obtain ⟨v0, v1, v2, d0, d1, d2, p0, p1, p2, rfl, rfl, rfl, h0, h1, h2⟩ := trodAll_three hA
  obtain ⟨a0, len0, cap0, rfl⟩ := okWide_slice Try.underlying22 (hval 0 22 v0 rfl rfl)
  obtain ⟨l, hl0, hr0, hw0⟩ := open_zones h0
  obtain ⟨by_, rfl, rfl, rfl, wby_⟩ := open_int Try.underlying3 (hval 1 3 v1 rfl rfl) h1
  obtain ⟨n, rfl, rfl, rfl, wn⟩ := open_string Try.underlying9 (hval 2 9 v2 rfl rfl) h2
  subst hl0
  exact row_any _ l by_ n hw0.1 hw0.2 (by unfold maxLen at wn; omega) W hr0

theorem zoneRow_holds : Rows.ZoneRowSaid :=
  OpenClaim.holds_of_wide 5 Try.f5 rfl rfl rfl rfl rfl rfl rfl ⟨rfl, rfl, rfl, rfl, rfl⟩ rfl rfl rfl rfl rfl (by kernel_rfl) Try.func5 (by kernel_rfl)
    (of_decide_eq_true (by kernel_rfl)) (by unfold Func.isWrapper; rw [if_neg (of_decide_eq_false (by kernel_rfl))]; exact ⟨rfl, rfl⟩)
    (fun os started H enc _ => zoneRow_lifted os started H enc)
end Go.Proofs.Ytgibhcmdmdbpgaa
