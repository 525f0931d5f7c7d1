/- An argument that is a slice of integers. No conditions. -/
import Derived.Test.YtgibhcmdmdbpgaaLaw
import Derived.ChangeSlices
namespace Go.Proofs.Ytgibhcmdmdbpgaa
open Go.ChangeShapes Go.WideShapes Go.ChangeAt Go.RowKit Go.Deep

section
variable {H : Type} {enc : TypeId × Value → H} {P : Program}
theorem open_nums {W : World} {t e : TypeId} {k : IntKind} {a0 : Option Addr} {l0 c0 : Nat} {d : DataW H} {ps : List MemPlace} (ht : P.underlying t = some (.slice e)) (he : P.underlying e = some (.int k)) (hc : P.cellsOf e = 1)
    (h : DataW.Trod enc P W 0 (fun _ => true) true t (.slice a0 l0 c0) d ps) :
    ∃ zs : List Int, zs.length = l0 ∧ Rd W 1 (.slice a0 l0 c0) l0 (zs.map (Value.int k)) ∧ l0 ≤ maxLen ∧ ∀ z ∈ zs, (Lit.int k z).wf = true := by
  obtain ⟨fuel, hf⟩ := h
  rcases ChangeShapes.open_ints ht he hc hf with ⟨hcs, -⟩ | ⟨a, len, cap, zs, hcs, hb, hl, hm, hz, -, hcell, hwf⟩
  · have e1 : Value.slice a0 l0 c0 = .slice none 0 0 := by simpa [Value.cells] using hcs
    injection e1 with e1 e2 e3
    subst e1 e2 e3
    exact ⟨[], rfl, Rd.nil _ _ _ _, Nat.zero_le _, fun s hs => by cases hs⟩
  · have e1 : Value.slice a0 l0 c0 = .slice (some a) len cap := by simpa [Value.cells] using hcs
    injection e1 with e1 e2 e3
    subst e1 e2 e3
    have hz' : zs.length = c0 := by simpa using hz
    have hlen : (zs.take l0).length = l0 := by rw [List.length_take]; omega
    refine ⟨zs.take l0, hlen, ⟨by simp; omega, _, _, rfl, fun hp => ?_⟩, by omega, fun s hs => hwf s (List.mem_of_mem_take hs)⟩
    have h0 := hcell 0 (by omega)
    have hsp : a.spot = none := by
      rw [Addr.add_zero'] at h0
      unfold World.cell? at h0
      split at h0
      · cases hs : a.spot with
        | none => rfl
        | some x => rw [hs] at h0; simp at h0
      · cases h0
    obtain ⟨b, o, s⟩ := a
    simp only at hsp
    subst hsp
    refine ⟨b, o, rfl, ?_, fun j u hu => ?_⟩
    · rw [add_at] at h0
      exact block_lt_of_cell h0
    · have hj : j < l0 := by
        have := (List.getElem?_eq_some_iff.1 hu).1
        simp only [List.length_map, hlen] at this
        exact this
      rw [← add_at, hcell j (by omega)]
      simp only [List.getElem?_map, List.getElem?_take, if_pos hj] at hu
      rw [List.getElem?_eq_getElem (by omega)] at hu
      simp only [Option.map_some, Option.some.injEq] at hu
      rw [← hu, List.getD_eq_getElem?_getD, List.getElem?_eq_getElem (by omega)]
      rfl
end
/-- Bytes as numbers. -/
theorem nat_of_u8 : ∀ (zs : List Int), (∀ z ∈ zs, 0 ≤ z ∧ z ≤ 255) → ∃ ds : List Nat, zs = ds.map (fun n : Nat => (n : Int)) ∧ ∀ x ∈ ds, x < 256
  | [], _ => ⟨[], rfl, by simp⟩
  | z :: zs, h => by
    obtain ⟨ds, h1, h2⟩ := nat_of_u8 zs (fun x hx => h x (List.mem_cons_of_mem _ hx))
    have h3 := h z (by simp)
    refine ⟨z.toNat :: ds, ?_, ?_⟩
    · rw [List.map_cons, h1]
      congr 1
      omega
    · intro x hx
      rcases List.mem_cons.1 hx with rfl | hx
      · omega
      · exact h2 x hx
theorem wf_u8 {n : Int} (h : (Lit.int .u8 n).wf = true) : 0 ≤ n ∧ n ≤ 255 := by
  have e1 : IntKind.u8.min = 0 := by decide
  have e2 : IntKind.u8.max = 255 := by decide
  simp only [Lit.wf, Bool.and_eq_true, decide_eq_true_eq, e1, e2] at h
  exact h
end Go.Proofs.Ytgibhcmdmdbpgaa
