/- What a stream of bytes makes of the hash, in plain words. -/
import Derived.Test.YtjabpekndgnhmaaSipY
namespace Go.Proofs.Ytjabpekndgnhmaa
open Go.RowKit

/-- The hash h has taken the bytes l, by the key. -/
structure Str (h : HH) (k0 k1 : Nat) (l : List Nat) : Prop where
  made : h.made = true
  v : h.v = stateOf k0 k1 l
  n : h.n = l.length
  left : ∀ i, i < l.length % 8 → l[8 * (l.length / 8) + i]? = some (h.left i)
  ok : h.Ok
theorem absorb_succ {α : Type} (f : α → Nat → α) : ∀ (n : Nat) (v : α) (l : List Nat), absorbW f (n + 1) v l = f (absorbW f n v l) (num ((l.drop (8 * n)).take 8))
  | 0, v, l => by simp [absorbW]
  | n + 1, v, l => by
    show absorbW f (n + 1) _ _ = _
    rw [absorb_succ f n]
    show f (absorbW f n (f v (num (l.take 8))) (l.drop 8)) _ = f (absorbW f n (f v (num (l.take 8))) (l.drop 8)) _
    rw [List.drop_drop, show 8 + 8 * n = 8 * (n + 1) by omega]
theorem absorb_append {α : Type} (f : α → Nat → α) : ∀ (n : Nat) (v : α) (l m : List Nat), 8 * n ≤ l.length → absorbW f n v (l ++ m) = absorbW f n v l
  | 0, _, _, _, _ => rfl
  | n + 1, v, l, m, h => by
    show absorbW f n _ _ = absorbW f n _ _
    rw [List.drop_append_of_le_length (by omega), absorb_append f n _ _ _ (by simp; omega), List.take_append_of_le_length (by omega)]
theorem str_new {k0 k1 : Nat} (h0 : k0 < M64) (h1 : k1 < M64) : Str (newH k0 k1) k0 k1 [] :=
  ⟨rfl, rfl, rfl, by simp, start_ok h0 h1, fun _ => by show 0 < 256; omega⟩
theorem str_push {h : HH} {k0 k1 : Nat} {l : List Nat} (s : Str h k0 k1 l) {x : Nat} (hx : x < 256) : Str (pushB h x) k0 k1 (l ++ [x]) := by
  have hn := s.n
  have hl : (l ++ [x]).length = l.length + 1 := by simp
  have ok := pushB_ok s.ok hx
  by_cases h7 : h.n % 8 = 7
  · have e : pushB h x = { h with left := upd h.left (h.n % 8) x, n := h.n + 1, v := blk h.v (num (lst8 (upd h.left (h.n % 8) x))) } := by unfold pushB; rw [if_pos h7]
    rw [e] at ok ⊢
    refine ⟨s.made, ?_, by show h.n + 1 = _; omega, ?_, ok⟩
    · show blk h.v _ = _
      rw [s.v]
      show _ = absorbW blk ((l ++ [x]).length / 8) (start k0 k1) (l ++ [x])
      have hq : (l ++ [x]).length / 8 = l.length / 8 + 1 := by omega
      rw [hq, absorb_succ, absorb_append _ _ _ _ _ (by omega)]
      show blk (stateOf k0 k1 l) _ = blk (stateOf k0 k1 l) _
      congr 2
      apply List.ext_getElem?
      intro i
      have hd8 : (l ++ [x]).length = 8 * (l.length / 8) + 8 := by omega
      by_cases hi : i < 8
      · rw [lst8_get _ hi, List.getElem?_take, if_pos hi, List.getElem?_drop]
        by_cases hi7 : i = 7
        · subst hi7
          have e7 : 8 * (l.length / 8) + 7 = l.length := by omega
          rw [e7, List.getElem?_concat_length]
          simp [upd, h7]
        · rw [List.getElem?_append_left (by omega), s.left i (by omega)]
          simp [upd, h7, hi7]
      · rw [List.getElem?_eq_none (by simp [lst8]; omega), List.getElem?_eq_none (by simp; omega)]
    · intro i hi
      omega
  · have e : pushB h x = { h with left := upd h.left (h.n % 8) x, n := h.n + 1 } := by unfold pushB; rw [if_neg h7]
    rw [e] at ok ⊢
    have hq : (l ++ [x]).length / 8 = l.length / 8 := by omega
    refine ⟨s.made, ?_, by show h.n + 1 = _; omega, ?_, ok⟩
    · show h.v = _
      rw [s.v]
      show _ = absorbW blk ((l ++ [x]).length / 8) (start k0 k1) (l ++ [x])
      rw [hq, absorb_append _ _ _ _ _ (by omega)]
      rfl
    · intro i hi
      show _ = some (upd h.left (h.n % 8) x i)
      rw [hq]
      by_cases hi7 : i = h.n % 8
      · have e7 : 8 * (l.length / 8) + i = l.length := by omega
        rw [e7, List.getElem?_concat_length]
        simp [upd, hi7]
      · rw [List.getElem?_append_left (by omega), s.left i (by omega)]
        simp [upd, hi7]
theorem str_write : ∀ (m : List Nat) {h : HH} {k0 k1 : Nat} {l : List Nat}, Str h k0 k1 l → (∀ x ∈ m, x < 256) → Str (writeH h m) k0 k1 (l ++ m)
  | [], h, _, _, l, s, _ => by rw [List.append_nil]; exact s
  | x :: m, h, k0, k1, l, s, hm => by
    have := str_write m (str_push s (hm x (by simp))) (fun y hy => hm y (List.mem_cons_of_mem _ hy))
    rw [List.append_assoc] at this
    exact this
theorem Str.ready {h : HH} {k0 k1 : Nat} {l : List Nat} (s : Str h k0 k1 l) : readyH h = h := by unfold readyH; rw [if_pos s.made]
theorem str_last {h : HH} {k0 k1 : Nat} {l : List Nat} (s : Str h k0 k1 l) : lst8 (lastH h) = lastOf l := by
  have hn := s.n
  have hr : l.length % 8 < 8 := Nat.mod_lt _ (by omega)
  have ht : (tailOf l).length = l.length % 8 := by simp [tailOf]; omega
  apply List.ext_getElem?
  intro i
  by_cases hi : i < 8
  · rw [lst8_get _ hi]
    unfold lastOf
    by_cases h7 : i = 7
    · subst h7
      rw [List.getElem?_append_right (by simp; omega)]
      simp only [List.length_append, List.length_replicate, ht]
      rw [show 7 - (l.length % 8 + (7 - l.length % 8)) = 0 by omega]
      simp [lastH, hn]
    · rw [List.getElem?_append_left (by simp; omega)]
      by_cases hl : i < l.length % 8
      · rw [List.getElem?_append_left (by omega)]
        unfold tailOf
        rw [List.getElem?_drop, s.left i hl]
        simp [lastH, h7, hn, hl]
      · rw [List.getElem?_append_right (by omega), List.getElem?_replicate, if_pos (by omega)]
        simp [lastH, h7, hn, hl]
  · rw [List.getElem?_eq_none (by simp [lst8]; omega), List.getElem?_eq_none (by simp [lastOf]; omega)]
theorem str_sum {h : HH} {k0 k1 : Nat} {l : List Nat} (s : Str h k0 k1 l) : sumH h = sipOf k0 k1 l := by
  unfold sumH
  rw [s.ready, str_last s, s.v]
  rfl
end Go.Proofs.Ytjabpekndgnhmaa
