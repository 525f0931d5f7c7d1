/- Bytes of texts as lists of numbers, there and back. No conditions. -/
import Derived.Test.YtafeepokcakmkaaNamQ
namespace Go.Proofs.Ytafeepokcakmkaa
open Go.RowKit

def bys (s : ByteArray) : List Nat := s.data.toList.map (·.toNat)
theorem bys_length (s : ByteArray) : (bys s).length = s.size := by simp [bys]
theorem bys_lt (s : ByteArray) : ∀ x ∈ bys s, x < 256 := by
  intro x hx
  simp only [bys, List.mem_map] at hx
  obtain ⟨b, _, rfl⟩ := hx
  exact b.toNat_lt
theorem bys_get (s : ByteArray) {j : Nat} (hj : j < s.size) : (bys s)[j]? = some (s[j]'hj).toNat := by
  simp only [bys, List.getElem?_map, Array.getElem?_toList]
  rw [Array.getElem?_eq_getElem (show j < s.data.size from hj)]
  rfl
theorem bys_append (a b : ByteArray) : bys (a ++ b) = bys a ++ bys b := by
  simp [bys, ByteArray.data_append]
theorem bys_extract (t : ByteArray) (i j : Nat) : bys (t.extract i j) = ((bys t).drop i).take (j - i) := by
  unfold bys
  rw [ByteArray.data_extract, Array.toList_extract, List.extract_eq_take_drop, List.map_take, List.map_drop]
theorem bys_inj {a b : ByteArray} (h : bys a = bys b) : a = b := by
  have h1 : a.data.toList = b.data.toList := by
    unfold bys at h
    exact (List.map_inj_right (fun x y e => UInt8.toNat_inj.1 e)).1 h
  cases a; cases b
  simp only [ByteArray.mk.injEq]
  exact Array.toList_inj.1 h1

theorem isEmpty_of_pos {n : ByteArray} (h : 0 < n.size) : n.toList.isEmpty = false := by
  rw [ByteArray.toList_eq]
  cases hl : n.data.toList with
  | nil => have : n.size = 0 := by rw [← bys_length]; unfold bys; rw [hl]; rfl
           omega
  | cons _ _ => rfl
theorem eq_bys (a b : ByteArray) : (a.toList == b.toList) = decide (bys a = bys b) := by
  rw [ByteArray.toList_eq, ByteArray.toList_eq]
  by_cases h : bys a = bys b
  · have := bys_inj h
    subst this
    simp
  · have : a.data.toList ≠ b.data.toList := fun e => h (by unfold bys; rw [e])
    have h2 : ¬ a.data = b.data := fun e => this (by rw [e])
    simp [h, h2]
/-- A text against one that is written out. -/
theorem eq_lit (a : ByteArray) (l : List UInt8) : (a.toList == l) = decide (bys a = l.map (·.toNat)) := by
  have h := eq_bys a ⟨l.toArray⟩
  have e : bys ⟨l.toArray⟩ = l.map (·.toNat) := by simp [bys]
  have e2 : (ByteArray.mk l.toArray).toList = l := by rw [ByteArray.toList_eq]
  rw [e2, e] at h
  exact h
/-- The text of numbers. -/
def mkS (l : List Nat) : ByteArray := ⟨(l.map UInt8.ofNat).toArray⟩
theorem bys_mkS {l : List Nat} (h : ∀ x ∈ l, x < 256) : bys (mkS l) = l := by
  unfold bys mkS
  simp only [List.map_map]
  conv => rhs; rw [← List.map_id l]
  apply List.map_congr_left
  intro x hx
  have := h x hx
  simp only [Function.comp, UInt8.toNat_ofNat', id]
  omega
theorem mkS_bys (s : ByteArray) : mkS (bys s) = s := bys_inj (bys_mkS (bys_lt s))
theorem mkS_of {s : ByteArray} {l : List Nat} (h : bys s = l) : mkS l = s := by rw [← h, mkS_bys]
theorem mkS_size (l : List Nat) : (mkS l).size = l.length := by show (mkS l).data.size = _; simp [mkS]
theorem mkS_append (a b : List Nat) : mkS (a ++ b) = mkS a ++ mkS b := by
  apply congrArg ByteArray.mk
  simp [mkS]
theorem eq_of_bys {a : ByteArray} {l : List Nat} (h : bys a = l) : a = mkS l := (mkS_of h).symm
def lbs (L : List ByteArray) : List (List Nat) := L.map bys
theorem lbs_length (L : List ByteArray) : (lbs L).length = L.length := List.length_map _
theorem lbs_inj {a b : List ByteArray} (h : lbs a = lbs b) : a = b := (List.map_inj_right (fun _ _ e => bys_inj e)).1 h
theorem lbs_lt (L : List ByteArray) : ∀ l ∈ lbs L, ∀ x ∈ l, x < 256 := by
  intro l hl
  obtain ⟨s, _, rfl⟩ := List.mem_map.1 hl
  exact bys_lt s
theorem low_lt {l : List Nat} (h : ∀ x ∈ l, x < 256) : ∀ x ∈ lowL l, x < 256 := by
  intro x hx
  obtain ⟨y, hy, rfl⟩ := List.mem_map.1 hx
  exact lowN_lt (h y hy)
theorem join_lt {ls : List (List Nat)} (h : ∀ l ∈ ls, l.length < 256) (k : ∀ l ∈ ls, ∀ x ∈ l, x < 256) : ∀ x ∈ joinN ls, x < 256 := by
  induction ls with
  | nil => simp [joinN]
  | cons l ls ih =>
    intro x hx
    simp only [joinN, List.mem_cons, List.mem_append] at hx
    rcases hx with rfl | hx | hx
    · exact h l (by simp)
    · exact k l (by simp) x hx
    · exact ih (fun l hl => h l (List.mem_cons_of_mem _ hl)) (fun l hl => k l (List.mem_cons_of_mem _ hl)) x hx
theorem mem_join {ls : List (List Nat)} {l : List Nat} (h : l ∈ ls) {x : Nat} (hx : x ∈ l) : x ∈ joinN ls := by
  induction ls with
  | nil => cases h
  | cons a ls ih =>
    simp only [joinN, List.mem_cons, List.mem_append]
    rcases List.mem_cons.1 h with rfl | h
    · exact .inr (.inl hx)
    · exact .inr (.inr (ih h))
theorem split_lt {s : ByteArray} {ls : List (List Nat)} (h : splitN (bys s) = some ls) : ∀ l ∈ ls, ∀ x ∈ l, x < 256 := by
  obtain ⟨h1, _, _⟩ := (splitN_iff _ _).1 h
  intro l hl x hx
  exact bys_lt s x (by rw [h1]; exact mem_join hl hx)
theorem fold_lt (s : ByteArray) : ∀ x ∈ foldN (bys s), x < 256 := by
  cases h : splitN (bys s) with
  | none => rw [fold_none h]; simp
  | some ls =>
    rw [fold_some h]
    obtain ⟨_, h2, _⟩ := (splitN_iff _ _).1 h
    refine join_lt (fun l hl => ?_) (fun l hl => ?_)
    · obtain ⟨y, hy, rfl⟩ := List.mem_map.1 hl
      have := h2 y hy
      unfold LabOk at this
      rw [lowL_length]; omega
    · obtain ⟨y, hy, rfl⟩ := List.mem_map.1 hl
      exact low_lt (split_lt h y hy)
def foldS (s : ByteArray) : ByteArray := mkS (foldN (bys s))
theorem bys_foldS (s : ByteArray) : bys (foldS s) = foldN (bys s) := bys_mkS (fold_lt s)
end Go.Proofs.Ytafeepokcakmkaa
