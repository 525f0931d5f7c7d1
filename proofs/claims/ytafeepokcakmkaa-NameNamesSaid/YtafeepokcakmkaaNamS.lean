/- Names as plain lists of bytes: labels, one behind the other. No program in sight. -/
import Derived.Test.YtafeepokcakmkaaLaw
namespace Go.Proofs.Ytafeepokcakmkaa
open Go.RowKit

/-- The name of labels. -/
def joinN : List (List Nat) → List Nat
  | [] => [0]
  | l :: ls => l.length :: (l ++ joinN ls)
/-- A name's labels; none: it is none. (The first number bounds the steps.) -/
def goN : Nat → List Nat → Option (List (List Nat))
  | 0, _ => none
  | _ + 1, [] => none
  | f + 1, c :: t => if c = 0 then (if t = [] then some [] else none) else if 63 < c ∨ t.length < c + 1 then none else (goN f (t.drop c)).map (t.take c :: ·)
def splitN (n : List Nat) : Option (List (List Nat)) := if 255 < n.length then none else goN n.length n
def LabOk (l : List Nat) : Prop := 1 ≤ l.length ∧ l.length ≤ 63
theorem joinN_ne (ls : List (List Nat)) : joinN ls ≠ [] := by cases ls <;> simp [joinN]
theorem joinN_pos (ls : List (List Nat)) : 0 < (joinN ls).length := List.length_pos_iff.2 (joinN_ne ls)
theorem goN_some : ∀ (f : Nat) (n : List Nat) (ls : List (List Nat)), goN f n = some ls → n = joinN ls ∧ ∀ l ∈ ls, LabOk l
  | 0, _, _, h => by simp [goN] at h
  | _ + 1, [], _, h => by simp [goN] at h
  | f + 1, c :: t, ls, h => by
    simp only [goN] at h
    split at h
    · rename_i hc
      split at h
      · rename_i ht
        injection h with h
        subst hc ht h
        exact ⟨rfl, by simp⟩
      · cases h
    · rename_i hc
      split at h
      · cases h
      · rename_i hx
        rw [Option.map_eq_some_iff] at h
        obtain ⟨ls', h1, rfl⟩ := h
        obtain ⟨h2, h3⟩ := goN_some f _ _ h1
        have hl : (t.take c).length = c := by rw [List.length_take]; omega
        refine ⟨?_, ?_⟩
        · simp only [joinN, hl]
          rw [← h2, List.take_append_drop]
        · intro l hm
          rcases List.mem_cons.1 hm with rfl | hm
          · unfold LabOk; omega
          · exact h3 l hm
theorem goN_join : ∀ (ls : List (List Nat)) (f : Nat), (joinN ls).length ≤ f → (∀ l ∈ ls, LabOk l) → goN f (joinN ls) = some ls
  | [], 0, h, _ => by simp [joinN] at h
  | [], _ + 1, _, _ => by simp [joinN, goN]
  | l :: ls, 0, h, _ => by simp [joinN] at h
  | l :: ls, f + 1, h, hl => by
    have h1 := hl l (by simp)
    unfold LabOk at h1
    have hp := joinN_pos ls
    simp only [joinN, goN]
    rw [if_neg (by omega), if_neg (by simp only [List.length_append]; omega), List.drop_left, List.take_left]
    rw [goN_join ls f (by simp only [joinN, List.length_cons, List.length_append] at h; omega) (fun x hx => hl x (List.mem_cons_of_mem _ hx))]
    rfl
/-- What the labels of a name are. -/
theorem splitN_iff (n : List Nat) (ls : List (List Nat)) : splitN n = some ls ↔ n = joinN ls ∧ (∀ l ∈ ls, LabOk l) ∧ n.length ≤ 255 := by
  unfold splitN
  constructor
  · intro h
    split at h
    · cases h
    · have := goN_some _ _ _ h
      exact ⟨this.1, this.2, by omega⟩
  · rintro ⟨h1, h2, h3⟩
    rw [if_neg (by omega), h1]
    exact goN_join ls _ (Nat.le_refl _) h2
theorem goN_more : ∀ (f g : Nat) (n : List Nat), n.length ≤ f → n.length ≤ g → goN f n = goN g n
  | 0, 0, _, _, _ => rfl
  | 0, g + 1, [], _, _ => rfl
  | f + 1, 0, [], _, _ => rfl
  | f + 1, g + 1, [], _, _ => rfl
  | f + 1, g + 1, c :: t, h1, h2 => by
    simp only [goN]
    split
    · rfl
    · split
      · rfl
      · rw [goN_more f g (t.drop c) (by simp at h1 ⊢; omega) (by simp at h2 ⊢; omega)]
  | 0, _ + 1, _ :: _, h, _ => by simp at h
  | _ + 1, 0, _ :: _, _, h => by simp at h
end Go.Proofs.Ytafeepokcakmkaa
