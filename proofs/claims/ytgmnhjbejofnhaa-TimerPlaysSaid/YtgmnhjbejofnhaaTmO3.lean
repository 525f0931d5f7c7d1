/- An argument that is a slice of acts, opened. No conditions. -/
import Derived.Test.YtgmnhjbejofnhaaTmO
import Derived.Test.YtgmnhjbejofnhaaTmPly
namespace Go.Proofs.Ytgmnhjbejofnhaa
open Go.ChangeShapes Go.WideShapes Go.ChangeAt Go.RowKit Go.Deep

section
variable {H : Type} {enc : TypeId × Value → H}
theorem open_acts {W : World} {a0 : Option Addr} {l0 c0 : Nat} {d : DataW H} {ps : List MemPlace} (h : DataW.Trod enc Try.prog W 0 (fun _ => true) true 45 (.slice a0 l0 c0) d ps) :
    ∃ acts : List Act3, acts.length = l0 ∧ RdAc W (.slice a0 l0 c0) acts ∧ True := by
  obtain ⟨cs, hr, _, hf⟩ := open_rows Try.underlying45 Try.underlying51 (by kernel_rfl) (by kernel_rfl) (by decide) h
  obtain ⟨acts, hl, ha⟩ := list_of_forall l0 (fun i (a : Act3) => cs[i * 3]? = some (.int .u8 a.1) ∧ cs[i * 3 + 1]? = some (.int .i64 a.2.1) ∧ cs[i * 3 + 2]? = some (.int .i64 a.2.2)) (fun i hi => by
    obtain ⟨u, y, N, h1, h2⟩ := hf i hi 0 _ rfl
    obtain ⟨u', y', N', h3, h4⟩ := hf i hi 1 _ rfl
    obtain ⟨u'', y'', N'', h5, h6⟩ := hf i hi 2 _ rfl
    obtain ⟨n1, e1, _, _⟩ := DataW.trod_int Try.underlying5 h2
    obtain ⟨n2, e2, _, _⟩ := DataW.trod_int Try.underlying3 h4
    obtain ⟨n3, e3, _, _⟩ := DataW.trod_int Try.underlying2 h6
    simp only [List.cons.injEq, and_true] at e1 e2 e3
    subst e1 e2 e3
    exact ⟨(n1, n2, n3), h1, h3, h5⟩)
  subst hl
  have e : cs = actC acts := by
    apply List.ext_getElem?
    intro q
    have hcl : cs.length = acts.length * 3 := hr.1
    by_cases hq : q < acts.length * 3
    · have hk : q / 3 < acts.length := by omega
      obtain ⟨g1, g2, g3⟩ := actC_get acts (q / 3) hk
      obtain ⟨a1, a2, a3⟩ := ha (q / 3) _ (List.getElem?_eq_getElem hk)
      have hm : q % 3 = 0 ∨ q % 3 = 1 ∨ q % 3 = 2 := by omega
      rcases hm with h0 | h0 | h0
      · have : q / 3 * 3 = q := by omega
        rw [this] at g1 a1
        rw [g1, a1]
      · have : q / 3 * 3 + 1 = q := by omega
        rw [this] at g2 a2
        rw [g2, a2]
      · have : q / 3 * 3 + 2 = q := by omega
        rw [this] at g3 a3
        rw [g3, a3]
    · rw [List.getElem?_eq_none (by omega), List.getElem?_eq_none (by rw [actC_len]; omega)]
  rw [e] at hr
  exact ⟨acts, rfl, hr, trivial⟩
end
end Go.Proofs.Ytgmnhjbejofnhaa
