/- A name's labels one by one. No program in sight. -/
import Derived.Test.YtafeepokcakmkaaNamB
namespace Go.Proofs.Ytafeepokcakmkaa
open Go.RowKit

/-- The first label, and the rest. -/
def firstN : List Nat → Option (List Nat × List Nat)
  | [] => none
  | c :: t => if c = 0 ∨ 63 < c ∨ t.length < c + 1 then none else some (t.take c, t.drop c)
def goA (x : List Nat) : Option (List (List Nat)) := goN x.length x
theorem splitN_goA {n : List Nat} (h : n.length ≤ 255) : splitN n = goA n := by unfold splitN goA; rw [if_neg (by omega)]
theorem splitN_long {n : List Nat} (h : 255 < n.length) : splitN n = none := by unfold splitN; rw [if_pos h]
theorem goA_nil : goA [] = none := rfl
theorem goA_root : goA [0] = some [] := rfl
theorem goA_zero (t : List Nat) : goA (0 :: t) = if t = [] then some [] else none := by
  simp only [goA, goN, List.length_cons, if_true]
theorem goA_odd {c : Nat} {t : List Nat} (h0 : c ≠ 0) (h : 63 < c ∨ t.length < c) : goA (c :: t) = none := by
  simp only [goA, goN, List.length_cons]
  rw [if_neg h0, if_pos (by omega)]
theorem goA_cons {c : Nat} {t : List Nat} (h0 : c ≠ 0) (h1 : c ≤ 63) (h2 : c ≤ t.length) : goA (c :: t) = (goA (t.drop c)).map (t.take c :: ·) := by
  simp only [goA, goN, List.length_cons]
  rw [if_neg h0]
  by_cases h : t.length = c
  · rw [if_pos (by omega)]
    have : t.drop c = [] := List.drop_eq_nil_of_le (by omega)
    rw [this]; rfl
  · rw [if_neg (by omega), goN_more t.length (t.drop c).length (t.drop c) (by simp) (Nat.le_refl _)]
theorem goA_first_none {x : List Nat} (h : firstN x = none) (h0 : x ≠ [0]) : goA x = none := by
  cases x with
  | nil => rfl
  | cons c t =>
    simp only [firstN] at h
    split at h
    · rename_i hc
      by_cases hz : c = 0
      · subst hz
        rw [goA_zero, if_neg (fun e => h0 (by rw [e]))]
      · simp only [goA, goN, List.length_cons]
        rw [if_neg hz, if_pos (by omega)]
    · cases h
theorem goA_first_some {x a r : List Nat} (h : firstN x = some (a, r)) : goA x = (goA r).map (a :: ·) ∧ r.length < x.length ∧ x ≠ [0] := by
  cases x with
  | nil => cases h
  | cons c t =>
    simp only [firstN] at h
    split at h
    · cases h
    · rename_i hc
      injection h with h
      injection h with h1 h2
      subst h1 h2
      refine ⟨goA_cons (by omega) (by omega) (by omega), by simp only [List.length_drop, List.length_cons]; omega, ?_⟩
      intro e
      injection e with e _
      omega
/-- What a walk over the labels knows: those that it has, and what is left. -/
def Left (n : List Nat) (L : List (List Nat)) (rest : List Nat) : Prop := goA n = (goA rest).map (L ++ ·)
theorem Left.start (n : List Nat) : Left n [] n := by unfold Left; cases goA n <;> simp
theorem Left.step {n : List Nat} {L : List (List Nat)} {r a r' : List Nat} (h : Left n L r) (k : goA r = (goA r').map (a :: ·)) : Left n (L ++ [a]) r' := by
  unfold Left at h ⊢
  rw [h, k]
  cases goA r' <;> simp
theorem Left.none {n : List Nat} {L : List (List Nat)} {r : List Nat} (h : Left n L r) (k : goA r = Option.none) : goA n = Option.none := by unfold Left at h; rw [h, k]; rfl
theorem Left.root {n : List Nat} {L : List (List Nat)} (h : Left n L [0]) : goA n = some L := by unfold Left at h; rw [h, goA_root]; simp
theorem Left.zero {n : List Nat} {L : List (List Nat)} {t : List Nat} (h : Left n L (0 :: t)) (ht : t ≠ []) : goA n = Option.none := h.none (by rw [goA_zero, if_neg ht])
theorem mayN_of {n : List Nat} (h : n.length ≤ 255) : mayN n = (goA n).isSome := by unfold mayN; rw [splitN_goA h]
theorem mayN_long {n : List Nat} (h : 255 < n.length) : mayN n = false := by unfold mayN; rw [splitN_long h]; rfl
end Go.Proofs.Ytafeepokcakmkaa
