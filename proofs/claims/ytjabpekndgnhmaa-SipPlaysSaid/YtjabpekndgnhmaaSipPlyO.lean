/- The acts of SipPlays, opened. No conditions. -/
import Derived.Test.YtjabpekndgnhmaaSipPlyB
namespace Go.Proofs.Ytjabpekndgnhmaa
open Go.ChangeShapes Go.WideShapes Go.ChangeAt Go.RowKit Go.Deep

section
variable {H : Type} {enc : TypeId × Value → H}
theorem open_sacts {W : World} {a0 : Option Addr} {l0 c0 : Nat} {d : DataW H} {ps : List MemPlace} (h : DataW.Trod enc Try.prog W 0 (fun _ => true) true 40 (.slice a0 l0 c0) d ps) :
    ∃ acts : List (Int × ByteArray), acts.length = l0 ∧ Rd W 2 (.slice a0 l0 c0) l0 (actVals acts) ∧ l0 ≤ maxLen := by
  obtain ⟨cs, hr, hm, hf⟩ := open_rows Try.underlying40 Try.underlying43 (by kernel_rfl) (by kernel_rfl) (by decide) h
  obtain ⟨acts, hl, ha⟩ := list_of_forall l0 (fun i (a : Int × ByteArray) => cs[i * 2]? = some (.int .u8 a.1) ∧ cs[i * 2 + 1]? = some (.string a.2)) (fun i hi => by
    obtain ⟨u, y, N, h1, h2⟩ := hf i hi 0 _ rfl
    obtain ⟨u', y', N', h3, h4⟩ := hf i hi 1 _ rfl
    obtain ⟨n1, e1, _, w1⟩ := DataW.trod_int Try.underlying5 h2
    obtain ⟨n2, e2, _, _⟩ := DataW.trod_string Try.underlying9 h4
    simp only [List.cons.injEq, and_true] at e1 e2
    subst e1 e2
    exact ⟨(n1, n2), h1, h3⟩)
  subst hl
  have e : cs = actVals acts := by
    apply List.ext_getElem?
    intro q
    have hcl : cs.length = acts.length * 2 := hr.1
    by_cases hq : q < acts.length * 2
    · have hk : q / 2 < acts.length := by omega
      have g1 := actVals_0 acts (List.getElem?_eq_getElem hk)
      have g2 := actVals_1 acts (List.getElem?_eq_getElem hk)
      obtain ⟨a1, a2⟩ := ha (q / 2) _ (List.getElem?_eq_getElem hk)
      rcases Nat.mod_two_eq_zero_or_one q with h0 | h0
      · have : q / 2 * 2 = q := by omega
        rw [this] at g1 a1
        rw [g1, a1]
      · have : q / 2 * 2 + 1 = q := by omega
        rw [this] at g2 a2
        rw [g2, a2]
    · rw [List.getElem?_eq_none (by omega), List.getElem?_eq_none (by rw [actVals_len]; omega)]
  rw [e] at hr
  exact ⟨acts, rfl, hr, hm⟩
end
end Go.Proofs.Ytjabpekndgnhmaa
