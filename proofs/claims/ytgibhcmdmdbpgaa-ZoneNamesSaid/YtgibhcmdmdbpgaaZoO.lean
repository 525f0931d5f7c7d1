/- An argument that is a slice of zones, opened; one that is a zone. No conditions. -/
import Derived.Test.YtgibhcmdmdbpgaaLaw
import Derived.Test.YtgibhcmdmdbpgaaZoN
namespace Go.Proofs.Ytgibhcmdmdbpgaa
open Go.ChangeShapes Go.WideShapes Go.ChangeAt Go.RowKit Go.Deep

section
variable {H : Type} {enc : TypeId × Value → H}
theorem open_zones {W : World} {a0 : Option Addr} {l0 c0 : Nat} {d : DataW H} {ps : List MemPlace} (h : DataW.Trod enc Try.prog W 0 (fun _ => true) true 22 (.slice a0 l0 c0) d ps) :
    ∃ l : List Zn, l.length = l0 ∧ RdZ W (.slice a0 l0 c0) l ∧ (∀ z ∈ l, z.name.size < 2 ^ 63) ∧ l.length < 2 ^ 63 := by
  obtain ⟨cs, hr, hml, hf⟩ := open_rows Try.underlying22 Try.underlying35 (by kernel_rfl) (by kernel_rfl) (by decide) h
  obtain ⟨l, hl, ha⟩ := list_of_forall l0 (fun i (a : Zn) => cs[i * 3]? = some (.string a.name) ∧ cs[i * 3 + 1]? = some (.int .u8 a.pol) ∧ cs[i * 3 + 2]? = some (.int .u16 a.tr) ∧ a.name.size ≤ maxLen) (fun i hi => by
    obtain ⟨u, y, N, h1, h2⟩ := hf i hi 0 _ rfl
    obtain ⟨u', y', N', h3, h4⟩ := hf i hi 1 _ rfl
    obtain ⟨u'', y'', N'', h5, h6⟩ := hf i hi 2 _ rfl
    obtain ⟨n1, e1, _, hs⟩ := DataW.trod_string Try.underlying9 h2
    obtain ⟨n2, e2, _, _⟩ := DataW.trod_int Try.underlying5 h4
    obtain ⟨n3, e3, _, _⟩ := DataW.trod_int Try.underlying33 h6
    simp only [List.cons.injEq, and_true] at e1 e2 e3
    subst e1 e2 e3
    exact ⟨⟨n1, n2, n3⟩, h1, h3, h5, hs⟩)
  subst hl
  have e : cs = zC l := by
    apply List.ext_getElem?
    intro q
    have hcl : cs.length = l.length * 3 := hr.1
    by_cases hq : q < l.length * 3
    · have hk : q / 3 < l.length := by omega
      obtain ⟨g1, g2, g3⟩ := zC_get l (q / 3) hk
      obtain ⟨a1, a2, a3, _⟩ := ha (q / 3) _ (List.getElem?_eq_getElem hk)
      have h3 : q % 3 = 0 ∨ q % 3 = 1 ∨ q % 3 = 2 := by omega
      rcases h3 with h0 | h0 | h0
      · have : q / 3 * 3 = q := by omega
        rw [this] at g1 a1
        rw [g1, a1]
      · have : q / 3 * 3 + 1 = q := by omega
        rw [this] at g2 a2
        rw [g2, a2]
      · have : q / 3 * 3 + 2 = q := by omega
        rw [this] at g3 a3
        rw [g3, a3]
    · rw [List.getElem?_eq_none (by omega), List.getElem?_eq_none (by rw [zC_len]; omega)]
  rw [e] at hr
  exact ⟨l, rfl, hr, fun z hm => by
    obtain ⟨i, hi, rfl⟩ := List.mem_iff_getElem.1 hm
    have := (ha i _ (List.getElem?_eq_getElem hi)).2.2.2
    unfold maxLen at this
    omega, by unfold maxLen at hml; omega⟩
theorem open_zone {W : World} {base : Nat} {v : Value} {d : DataW H} {ps : List MemPlace} (hv : Value.okWide Try.prog W .any base 35 v) (h : DataW.Trod enc Try.prog W 0 (fun _ => true) true 35 v d ps) :
    ∃ z : Zn, v = .agg #[.string z.name, .int .u8 z.pol, .int .u16 z.tr] ∧ z.name.size < 2 ^ 63 := by
  obtain ⟨cs, rfl, hsz⟩ := okWide_struct Try.underlying35 hv
  obtain ⟨fuel, hf⟩ := h
  obtain ⟨ys, n', hn', hy, hlen, hyl, hfd⟩ := DataW.trod_struct Try.underlying35 hf
  have h3 : Try.prog.cellsOf 35 = 3 := by kernel_rfl
  have hone : Try.prog.cellsOf 9 = 1 ∧ Try.prog.cellsOf 5 = 1 ∧ Try.prog.cellsOf 33 = 1 := by refine ⟨?_, ?_, ?_⟩ <;> kernel_rfl
  rw [h3] at hsz
  obtain ⟨l⟩ := cs
  match l, hsz with
  | [a, b, c], _ =>
    have g0 : DataW.trod enc Try.prog W 0 (fun _ => true) true _ 9 (([a, b, c].drop 0).take (Try.prog.cellsOf 9)) = ys[0]? := hfd 0 _ rfl
    have g1 : DataW.trod enc Try.prog W 0 (fun _ => true) true _ 5 (([a, b, c].drop 1).take (Try.prog.cellsOf 5)) = ys[1]? := hfd 1 _ rfl
    have g2 : DataW.trod enc Try.prog W 0 (fun _ => true) true _ 33 (([a, b, c].drop 2).take (Try.prog.cellsOf 33)) = ys[2]? := hfd 2 _ rfl
    rw [hone.1] at g0
    rw [hone.2.1] at g1
    rw [hone.2.2] at g2
    have hl3 : ys.length = 3 := by simpa using hyl
    rw [List.getElem?_eq_getElem (by omega)] at g0
    rw [List.getElem?_eq_getElem (by omega)] at g1
    rw [List.getElem?_eq_getElem (by omega)] at g2
    obtain ⟨n1, e1, _, hs⟩ := DataW.trod_string Try.underlying9 g0
    obtain ⟨n2, e2, _, _⟩ := DataW.trod_int Try.underlying5 g1
    obtain ⟨n3, e3, _, _⟩ := DataW.trod_int Try.underlying33 g2
    have k1 : a = Value.string n1 := (List.cons.inj (show [a] = [Value.string n1] from e1)).1
    have k2 : b = Value.int .u8 n2 := (List.cons.inj (show [b] = [Value.int .u8 n2] from e2)).1
    have k3 : c = Value.int .u16 n3 := (List.cons.inj (show [c] = [Value.int .u16 n3] from e3)).1
    rw [k1, k2, k3]
    exact ⟨⟨n1, n2, n3⟩, rfl, by unfold maxLen at hs; show n1.size < _; omega⟩
end
theorem own_knob : ownKnob Try.prog.godebug = none := by kernel_rfl
theorem laid_out : laidOutB Try.prog = true := by kernel_rfl
end Go.Proofs.Ytgibhcmdmdbpgaa
