/- An argument that is a slice of things to be put, opened. No conditions. -/
import Derived.Test.YtgmnhjbejofnhaaLaw
import Derived.Test.YtgmnhjbejofnhaaTmM
namespace Go.Proofs.Ytgmnhjbejofnhaa
open Go.ChangeShapes Go.WideShapes Go.ChangeAt Go.RowKit Go.Deep

section
variable {H : Type} {enc : TypeId × Value → H}
theorem open_sets {W : World} {a0 : Option Addr} {l0 c0 : Nat} {d : DataW H} {ps : List MemPlace} (h : DataW.Trod enc Try.prog W 0 (fun _ => true) true 22 (.slice a0 l0 c0) d ps) :
    ∃ sets : List (Int × Int), sets.length = l0 ∧ RdS W (.slice a0 l0 c0) sets ∧ True := by
  obtain ⟨cs, hr, _, hf⟩ := open_rows Try.underlying22 Try.underlying29 (by kernel_rfl) (by kernel_rfl) (by decide) h
  obtain ⟨sets, hl, ha⟩ := list_of_forall l0 (fun i (a : Int × Int) => cs[i * 2]? = some (.int .i64 a.1) ∧ cs[i * 2 + 1]? = some (.int .i64 a.2)) (fun i hi => by
    obtain ⟨u, y, N, h1, h2⟩ := hf i hi 0 _ rfl
    obtain ⟨u', y', N', h3, h4⟩ := hf i hi 1 _ rfl
    obtain ⟨n1, e1, _, _⟩ := DataW.trod_int Try.underlying3 h2
    obtain ⟨n2, e2, _, _⟩ := DataW.trod_int Try.underlying2 h4
    simp only [List.cons.injEq, and_true] at e1 e2
    subst e1 e2
    exact ⟨(n1, n2), h1, h3⟩)
  subst hl
  have e : cs = setC sets := by
    apply List.ext_getElem?
    intro q
    have hcl : cs.length = sets.length * 2 := hr.1
    by_cases hq : q < sets.length * 2
    · have hk : q / 2 < sets.length := by omega
      obtain ⟨g1, g2⟩ := setC_get sets (q / 2) hk
      obtain ⟨a1, a2⟩ := ha (q / 2) _ (List.getElem?_eq_getElem hk)
      rcases Nat.mod_two_eq_zero_or_one q with h0 | h0
      · have : q / 2 * 2 = q := by omega
        rw [this] at g1 a1
        rw [g1, a1]
      · have : q / 2 * 2 + 1 = q := by omega
        rw [this] at g2 a2
        rw [g2, a2]
    · rw [List.getElem?_eq_none (by omega), List.getElem?_eq_none (by rw [setC_len]; omega)]
  rw [e] at hr
  exact ⟨sets, rfl, hr, trivial⟩
end
theorem own_knob : ownKnob Try.prog.godebug = none := by kernel_rfl
theorem laid_out : laidOutB Try.prog = true := by kernel_rfl
end Go.Proofs.Ytgmnhjbejofnhaa
