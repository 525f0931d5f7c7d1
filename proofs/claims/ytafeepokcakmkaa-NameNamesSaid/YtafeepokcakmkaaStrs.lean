/- An argument that is a slice of strings. No conditions. -/
import Derived.Test.YtafeepokcakmkaaLaw
import Derived.SliceStrings
namespace Go.Proofs.Ytafeepokcakmkaa
open Go.ChangeShapes Go.WideShapes Go.ChangeAt Go.RowKit Go.Deep

section
variable {H : Type} {enc : TypeId × Value → H} {P : Program}
def strVals (l : List ByteArray) : List Value := l.map Value.string
theorem strVals_get {l : List ByteArray} {j : Nat} {x : ByteArray} (h : l[j]? = some x) : (strVals l)[j]? = some (.string x) := by simp [strVals, h]
theorem open_strs {W : World} {t e : TypeId} {a0 : Option Addr} {l0 c0 : Nat} {d : DataW H} {ps : List MemPlace} (ht : P.underlying t = some (.slice e)) (he : P.underlying e = some .string) (hc : P.cellsOf e = 1)
    (h : DataW.Trod enc P W 0 (fun _ => true) true t (.slice a0 l0 c0) d ps) :
    ∃ ss : List ByteArray, ss.length = l0 ∧ Rd W 1 (.slice a0 l0 c0) l0 (strVals ss) ∧ l0 ≤ maxLen ∧ ∀ s ∈ ss, s.size ≤ maxLen := by
  obtain ⟨fuel, hf⟩ := h
  rcases open_strings ht he hc hf with ⟨hcs, -⟩ | ⟨a, len, cap, ss, hcs, hb, hl, hm, hz, -, hcell, hsz⟩
  · have e1 : Value.slice a0 l0 c0 = .slice none 0 0 := by simpa [Value.cells] using hcs
    injection e1 with e1 e2 e3
    subst e1 e2 e3
    exact ⟨[], rfl, Rd.nil _ _ _ _, Nat.zero_le _, fun s hs => by cases hs⟩
  · have e1 : Value.slice a0 l0 c0 = .slice (some a) len cap := by simpa [Value.cells] using hcs
    injection e1 with e1 e2 e3
    subst e1 e2 e3
    have hz' : ss.length = c0 := by simpa using hz
    have hlen : (ss.take l0).length = l0 := by rw [List.length_take]; omega
    refine ⟨ss.take l0, hlen, ⟨by simp [strVals]; omega, _, _, rfl, fun hp => ?_⟩, by omega, fun s hs => hsz s (List.mem_of_mem_take hs)⟩
    have h0 := hcell 0 (by omega)
    have hsp : a.spot = none := by
      rw [Addr.add_zero'] at h0
      unfold World.cell? at h0
      split at h0
      · cases hs : a.spot with
        | none => rfl
        | some x => rw [hs] at h0; simp at h0
      · cases h0
    obtain ⟨b, o, s⟩ := a
    simp only at hsp
    subst hsp
    refine ⟨b, o, rfl, ?_, fun j u hu => ?_⟩
    · rw [add_at] at h0
      exact block_lt_of_cell h0
    · have hj : j < l0 := by
        have := (List.getElem?_eq_some_iff.1 hu).1
        simp only [strVals, List.length_map, hlen] at this
        exact this
      rw [← add_at, hcell j (by omega)]
      simp only [strVals, List.getElem?_map, List.getElem?_take, if_pos hj] at hu
      rw [List.getElem?_eq_getElem (by omega)] at hu
      simp only [Option.map_some, Option.some.injEq] at hu
      rw [← hu, List.getD_eq_getElem?_getD, List.getElem?_eq_getElem (by omega)]
      rfl
end
end Go.Proofs.Ytafeepokcakmkaa
