/- An argument that is a slice of acts, opened. No conditions. -/
import Derived.Test.YtjjgefcjjpckfaaLaw
import Derived.Test.YtjjgefcjjpckfaaLruM
namespace Go.Proofs.Ytjjgefcjjpckfaa
open Go.ChangeShapes Go.WideShapes Go.ChangeAt Go.RowKit Go.Deep

section
variable {H : Type} {enc : TypeId × Value → H}
theorem wf_u8 {n : Int} (h : (Lit.int .u8 n).wf = true) : 0 ≤ n ∧ n ≤ 255 := by
  have e1 : IntKind.u8.min = 0 := by decide
  have e2 : IntKind.u8.max = 255 := by decide
  simp only [Lit.wf, Bool.and_eq_true, decide_eq_true_eq, e1, e2] at h
  exact h
theorem open_acts {W : World} {a0 : Option Addr} {l0 c0 : Nat} {d : DataW H} {ps : List MemPlace} (h : DataW.Trod enc Try.prog W 0 (fun _ => true) true 22 (.slice a0 l0 c0) d ps) :
    ∃ acts : List (Int × Int), acts.length = l0 ∧ RdA W (.slice a0 l0 c0) acts ∧ ∀ a ∈ acts, 0 ≤ a.1 := by
  obtain ⟨cs, hr, _, hf⟩ := open_rows Try.underlying22 Try.underlying31 (by kernel_rfl) (by kernel_rfl) (by decide) h
  obtain ⟨acts, hl, ha⟩ := list_of_forall l0 (fun i (a : Int × Int) => cs[i * 2]? = some (.int .u8 a.1) ∧ cs[i * 2 + 1]? = some (.int .i64 a.2) ∧ 0 ≤ a.1) (fun i hi => by
    obtain ⟨u, y, N, h1, h2⟩ := hf i hi 0 _ rfl
    obtain ⟨u', y', N', h3, h4⟩ := hf i hi 1 _ rfl
    obtain ⟨n1, e1, _, w1⟩ := DataW.trod_int Try.underlying5 h2
    obtain ⟨n2, e2, _, _⟩ := DataW.trod_int Try.underlying3 h4
    simp only [List.cons.injEq, and_true] at e1 e2
    subst e1 e2
    exact ⟨(n1, n2), h1, h3, (wf_u8 w1).1⟩)
  subst hl
  have e : cs = actCells acts := by
    apply List.ext_getElem?
    intro q
    have hcl : cs.length = acts.length * 2 := hr.1
    by_cases hq : q < acts.length * 2
    · have hk : q / 2 < acts.length := by omega
      obtain ⟨g1, g2⟩ := actCells_get acts (q / 2) hk
      obtain ⟨a1, a2, _⟩ := ha (q / 2) _ (List.getElem?_eq_getElem hk)
      rcases Nat.mod_two_eq_zero_or_one q with h0 | h0
      · have : q / 2 * 2 = q := by omega
        rw [this] at g1 a1
        rw [g1, a1]
      · have : q / 2 * 2 + 1 = q := by omega
        rw [this] at g2 a2
        rw [g2, a2]
    · rw [List.getElem?_eq_none (by omega), List.getElem?_eq_none (by rw [actCells_len]; omega)]
  rw [e] at hr
  exact ⟨acts, rfl, hr, fun a hm => by
    obtain ⟨i, hi, rfl⟩ := List.mem_iff_getElem.1 hm
    exact (ha i _ (List.getElem?_eq_getElem hi)).2.2⟩
end
theorem own_knob : ownKnob Try.prog.godebug = none := by kernel_rfl
theorem laid_out : laidOutB Try.prog = true := by kernel_rfl
end Go.Proofs.Ytjjgefcjjpckfaa
