/- SipOn answers true for every input, and its arguments read as they did. Conditions: none. -/
import Derived.Test.YtjabpekndgnhmaaSipOnW
import Derived.Test.YtjabpekndgnhmaaLaw
namespace Go.Proofs.Ytjabpekndgnhmaa
open Go.ChangeShapes Go.WideShapes Go.ChangeAt Go.RowKit
open Go.ChangeMaps (open_string shut_string)

set_option maxRecDepth 100000 in
theorem sipOn_lifted (os : Os) (started : os.Started) (H : Type) (enc : TypeId × Value → H) :
    ReturnsInHanded {} Try.checked os 7 .any (Rows.sipOnSpec.pre6 enc Try.prog Try.f7 Rows.sipOnRow.domain false) (Rows.sipOnSpec.post enc Try.prog Try.f7 false true false false) := by
  refine law_lifted (C := Try.checked) own_knob laid_out started (by kernel_rfl) Try.func7 rfl 4 rfl Try.underlying4 (by kernel_rfl) (fun ds hd => by match ds, hd with | [d0, d1, d2, d3], _ => rfl)
    (ChangeSpec.witness6 (enc := enc) (C := Try.checked) false ⟨#[], #[.int .u64 0, .int .u64 0, .string ⟨#[]⟩, .string ⟨#[]⟩], []⟩ 8 (by kernel_rfl) (by kernel_rfl) (by kernel_rfl) (by kernel_rfl)) ?_
  intro W base args ds ps hval hA hlt hsz
  replace hval : ∀ (j : Nat) t v, Try.f7.params[j]? = some t → args[j]? = some v → Value.okWide Try.prog W .any base t v := hval
  replace hA : DataW.TrodAll enc Try.prog W 0 (fun _ => true) true Try.f7.params.toList args.toList ds ps := hA
  rw [Try.params7] at hA hval
  obtain ⟨v0, v1, v2, v3, d0, d1, d2, d3, p0, p1, p2, p3, rfl, rfl, rfl, h0, h1, h2, h3⟩ := trodAll_four hA
  obtain ⟨k0, rfl, rfl, rfl, wk0⟩ := open_int Try.underlying22 (hval 0 22 v0 rfl rfl) h0
  obtain ⟨k1, rfl, rfl, rfl, wk1⟩ := open_int Try.underlying22 (hval 1 22 v1 rfl rfl) h1
  obtain ⟨s, rfl, rfl, rfl, ws⟩ := open_string Try.underlying9 (hval 2 9 v2 rfl rfl) h2
  obtain ⟨t, rfl, rfl, rfl, wt⟩ := open_string Try.underlying9 (hval 3 9 v3 rfl rfl) h3
  obtain ⟨a, rfl, ha⟩ := wf_u64 wk0
  obtain ⟨b, rfl, hb⟩ := wf_u64 wk1
  exact on_any a b s t ha hb (by unfold maxLen at ws; omega) (by unfold maxLen at wt; omega) W

theorem sipOn_holds : Rows.SipOnSaid :=
  OpenClaim.holds_of_wide 7 Try.f7 rfl rfl rfl rfl rfl rfl rfl ⟨rfl, rfl, rfl, rfl, rfl⟩ rfl rfl rfl rfl rfl (by kernel_rfl) Try.func7 (by kernel_rfl)
    (of_decide_eq_true (by kernel_rfl)) (by unfold Func.isWrapper; rw [if_neg (of_decide_eq_false (by kernel_rfl))]; exact ⟨rfl, rfl⟩)
    (fun os started H enc _ => sipOn_lifted os started H enc)
end Go.Proofs.Ytjabpekndgnhmaa
