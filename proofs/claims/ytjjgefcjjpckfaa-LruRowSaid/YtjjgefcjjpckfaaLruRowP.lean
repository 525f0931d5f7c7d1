/- The plain law of LruRow: the row, read from behind. No program in sight. Conditions: none. -/
import Derived.Test.YtjjgefcjjpckfaaLruM
namespace Go.Proofs.Ytjjgefcjjpckfaa

def okAct (n : Int) (a : Int × Int) : Bool := decide (a.1 ≤ 1) && isIn n a.2
def touched (n : Int) (s : List (Int × Int)) (p : Nat) : Bool := s.any fun a => okAct n a && decide (a.2.toNat = p)
def tl (n : Int) (s : List (Int × Int)) : List Nat := s.foldl (mAct n) []

theorem filter_true (l : List Nat) : (l.filter fun _ => true) = l := List.filter_eq_self.2 fun _ _ => rfl
theorem mAct_nonneg {n : Int} {a : Int × Int} (h : 0 ≤ a.1) (ps : List Nat) : mAct n ps a = ps.filter (fun p => !(okAct n a && decide (a.2.toNat = p))) ++ mAct n [] a := by
  have key : ∀ k : Nat, ps.filter (fun p => !(decide (k = p))) = ps.filter (· ≠ k) := fun k => by
    apply List.filter_congr
    intro x _
    by_cases h : k = x
    · subst h; simp
    · have h' : x ≠ k := fun e => h e.symm
      simp [h, h']
  unfold mAct okAct lUse lDrop
  by_cases h0 : a.1 = 0
  · rw [if_pos h0, if_pos h0]
    by_cases hi : isIn n a.2 = true
    · rw [if_pos hi, if_pos hi, hi]
      simp only [h0, Int.zero_le_ofNat, decide_true, Bool.true_and]
      rw [← key a.2.toNat]
      simp [h0]
    · rw [if_neg hi, if_neg hi]
      simp only [Bool.not_eq_true] at hi
      simp [hi, filter_true]
  · rw [if_neg h0, if_neg h0]
    by_cases h1 : a.1 = 1
    · rw [if_pos h1, if_pos h1]
      by_cases hi : isIn n a.2 = true
      · rw [if_pos hi, if_pos hi, hi]
        rw [← key a.2.toNat]
        simp [h1]
      · rw [if_neg hi, if_neg hi]
        simp only [Bool.not_eq_true] at hi
        simp [hi, filter_true]
    · rw [if_neg h1, if_neg h1]
      have : decide (a.1 ≤ 1) = false := by simp; omega
      simp [this, filter_true]

theorem fold_tl {n : Int} : ∀ (s : List (Int × Int)) (_ : ∀ a ∈ s, 0 ≤ a.1) (ps : List Nat), s.foldl (mAct n) ps = ps.filter (fun p => !touched n s p) ++ tl n s
  | [], _, ps => by simp [tl, touched, filter_true]
  | a :: s, h, ps => by
    have ha := h a (by simp)
    have hs : ∀ b ∈ s, 0 ≤ b.1 := fun b hb => h b (List.mem_cons_of_mem _ hb)
    have e1 : tl n (a :: s) = (mAct n [] a).filter (fun p => !touched n s p) ++ tl n s := fold_tl s hs (mAct n [] a)
    rw [e1, List.foldl_cons, fold_tl s hs, mAct_nonneg ha ps, List.filter_append, List.append_assoc, List.filter_filter]
    congr 1
    apply List.filter_congr
    intro x _
    simp only [touched, List.any_cons, Bool.not_or]
    rw [Bool.and_comm]

theorem tl_cons {n : Int} (a : Int × Int) (s : List (Int × Int)) (hs : ∀ b ∈ s, 0 ≤ b.1) : tl n (a :: s) = (mAct n [] a).filter (fun p => !touched n s p) ++ tl n s := fold_tl s hs (mAct n [] a)
theorem touched_cons (n : Int) (a : Int × Int) (s : List (Int × Int)) (p : Nat) : touched n (a :: s) p = ((okAct n a && decide (a.2.toNat = p)) || touched n s p) := by simp [touched]

theorem drop_cons {α : Type} (l : List α) (m : Nat) (h : m < l.length) : l.drop m = l[m] :: l.drop (m + 1) := List.drop_eq_getElem_cons h

/-- Nothing that counts: out of range, or another act. -/
theorem tl_idle {n : Int} {a : Int × Int} {s : List (Int × Int)} (hs : ∀ b ∈ s, 0 ≤ b.1) (ha : 0 ≤ a.1) (h : okAct n a = false) : tl n (a :: s) = tl n s ∧ touched n (a :: s) = touched n s := by
  refine ⟨?_, funext fun p => by rw [touched_cons, h]; simp⟩
  rw [tl_cons a s hs]
  have e : mAct n [] a = [] := by
    unfold mAct lUse lDrop
    unfold okAct at h
    by_cases h0 : a.1 = 0
    · rw [if_pos h0]
      have : isIn n a.2 = false := by simpa [h0] using h
      rw [this]; rfl
    · rw [if_neg h0]
      by_cases h1 : a.1 = 1
      · rw [if_pos h1]; split <;> rfl
      · rw [if_neg h1]
  rw [e]; rfl
/-- A place that is told already. -/
theorem tl_told {n : Int} {a : Int × Int} {s : List (Int × Int)} (hs : ∀ b ∈ s, 0 ≤ b.1) (h : touched n s a.2.toNat = true) : tl n (a :: s) = tl n s ∧ touched n (a :: s) = touched n s := by
  refine ⟨?_, funext fun p => ?_⟩
  · rw [tl_cons a s hs]
    have e : (mAct n [] a).filter (fun p => !touched n s p) = [] := by
      unfold mAct lUse lDrop
      split
      · split
        · simp [h]
        · rfl
      · split
        · split <;> rfl
        · rfl
    rw [e]; rfl
  · rw [touched_cons]
    by_cases hp : a.2.toNat = p
    · rw [← hp, h]; simp
    · simp [hp]
theorem tl_drop {n : Int} {a : Int × Int} {s : List (Int × Int)} (hs : ∀ b ∈ s, 0 ≤ b.1) (ha : a.1 = 1) (h : isIn n a.2 = true) : tl n (a :: s) = tl n s ∧ touched n (a :: s) = upd (touched n s) a.2.toNat true := by
  refine ⟨?_, funext fun p => ?_⟩
  · rw [tl_cons a s hs]
    have e : mAct n [] a = [] := by
      unfold mAct lUse lDrop
      rw [if_neg (by omega), if_pos ha]; split <;> rfl
    rw [e]; rfl
  · rw [touched_cons]
    have : okAct n a = true := by simp [okAct, ha, h]
    rw [this]
    unfold upd
    by_cases hp : p = a.2.toNat
    · subst hp; simp
    · have hp' : ¬ a.2.toNat = p := fun e => hp e.symm
      simp [hp, hp']
theorem tl_use {n : Int} {a : Int × Int} {s : List (Int × Int)} (hs : ∀ b ∈ s, 0 ≤ b.1) (ha : a.1 = 0) (h : isIn n a.2 = true) (ht : touched n s a.2.toNat = false) : tl n (a :: s) = a.2.toNat :: tl n s ∧ touched n (a :: s) = upd (touched n s) a.2.toNat true := by
  refine ⟨?_, funext fun p => ?_⟩
  · rw [tl_cons a s hs]
    have e : mAct n [] a = [a.2.toNat] := by
      unfold mAct lUse
      rw [if_pos ha, if_pos h]; rfl
    rw [e]
    simp [ht]
  · rw [touched_cons]
    have : okAct n a = true := by simp [okAct, ha, h]
    rw [this]
    unfold upd
    by_cases hp : p = a.2.toNat
    · subst hp; simp
    · have hp' : ¬ a.2.toNat = p := fun e => hp e.symm
      simp [hp, hp']

/-- The row ends in what is told of its last acts. -/
theorem row_tail (n : Int) (acts : List (Int × Int)) (h : ∀ a ∈ acts, 0 ≤ a.1) (m : Nat) : ∃ P, mRow n acts = P ++ tl n (acts.drop m) := by
  have e : mRow n acts = (acts.drop m).foldl (mAct n) (mRow n (acts.take m)) := by
    unfold mRow
    rw [← List.foldl_append, List.take_append_drop]
  exact ⟨_, e.trans (fold_tl _ (fun a ha => h a (List.mem_of_mem_drop ha)) _)⟩
end Go.Proofs.Ytjjgefcjjpckfaa
