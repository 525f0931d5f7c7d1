/- The plain law of timers: which things are in the row, and in which row. No program in sight. No conditions. -/
import Derived.Test.YtgmnhjbejofnhaaTmBy
namespace Go.Proofs.Ytgmnhjbejofnhaa

def lessT (a b : Th) : Prop := a.rd < b.rd ∨ (a.rd = b.rd ∧ a.no < b.no)
def SortT (l : List Th) : Prop := l.Pairwise lessT

theorem mem_insT (x y : Th) (l : List Th) : y ∈ insT x l ↔ y = x ∨ y ∈ l := by
  unfold insT
  generalize posT x l l.length = p
  have h : y ∈ l ↔ y ∈ l.take p ∨ y ∈ l.drop p := by rw [← List.mem_append, List.take_append_drop]
  rw [List.mem_append, List.mem_cons, h]
  constructor
  · rintro (h | h | h)
    · exact .inr (.inl h)
    · exact .inl h
    · exact .inr (.inr h)
  · rintro (h | h | h)
    · exact .inr (.inl h)
    · exact .inl h
    · exact .inr (.inr h)
theorem mem_dropT (y : Th) (l : List Th) (id : Int) : y ∈ dropT l id ↔ y ∈ l ∧ y.id ≠ id := by
  unfold dropT
  rw [List.mem_filter]
  simp
theorem mem_putT (y : Th) (l : List Th) (n id rd : Int) : y ∈ putT l n id rd ↔ y = ⟨id, n + 1, rd⟩ ∨ (y ∈ l ∧ y.id ≠ id) := by
  unfold putT
  rw [mem_insT, mem_dropT]
theorem posT_behind (x : Th) (l : List Th) : ∀ i, i ≤ l.length → ∀ k (h : k < l.length), posT x l i ≤ k → k < i → aheadT x l[k] = true
  | 0, _, k, _, _, hk => absurd hk (Nat.not_lt_zero _)
  | i + 1, hi, k, h, hp, hk => by
    have hlt : i < l.length := by omega
    cases ha : aheadT x l[i] with
    | true =>
      rw [posT_ahead hlt ha] at hp
      by_cases e : k = i
      · subst e; exact ha
      · exact posT_behind x l i (by omega) k h hp (by omega)
    | false =>
      rw [posT_stay hlt ha] at hp
      omega
theorem posT_before (x : Th) (l : List Th) : ∀ i, i ≤ l.length → ∀ p, posT x l i = p + 1 → ∃ h : p < l.length, aheadT x l[p] = false
  | 0, _, p, h => by simp [posT] at h
  | i + 1, hi, p, hp => by
    have hlt : i < l.length := by omega
    cases ha : aheadT x l[i] with
    | true =>
      rw [posT_ahead hlt ha] at hp
      exact posT_before x l i (by omega) p hp
    | false =>
      rw [posT_stay hlt ha] at hp
      obtain rfl : i = p := by omega
      exact ⟨hlt, ha⟩
theorem sort_insT {x : Th} {l : List Th} (hs : SortT l) (hn : ∀ y ∈ l, y.no < x.no) : SortT (insT x l) := by
  have hb := posT_behind x l l.length (Nat.le_refl _)
  have hf := posT_before x l l.length (Nat.le_refl _)
  have hp := posT_le x l l.length
  unfold insT
  generalize posT x l l.length = p at *
  have hs' := hs
  unfold SortT at hs ⊢
  rw [List.pairwise_append, List.pairwise_cons]
  have h1 : (l.take p).Pairwise lessT := hs.sublist (List.take_sublist _ _)
  have h2 : (l.drop p).Pairwise lessT := hs.sublist (List.drop_sublist _ _)
  have hx : ∀ y ∈ l.drop p, lessT x y := by
    intro y hy
    obtain ⟨i, hi, rfl⟩ := List.mem_iff_getElem.1 hy
    rw [List.length_drop] at hi
    rw [List.getElem_drop]
    have ha := hb (p + i) (by omega) (by omega) (by omega)
    have hno := hn l[p + i] (List.getElem_mem _)
    unfold aheadT at ha
    simp at ha
    rcases ha with ha | ⟨_, ha⟩
    · exact .inl ha
    · omega
  have hy : ∀ y ∈ l.take p, lessT y x := by
    intro y hy
    obtain ⟨i, hi, rfl⟩ := List.mem_iff_getElem.1 hy
    rw [List.length_take] at hi
    rw [List.getElem_take]
    obtain ⟨hlt, ha⟩ := hf (p - 1) (by omega)
    have hle : l[i].rd ≤ l[p - 1].rd := by
      rcases Nat.lt_or_ge i (p - 1) with h | h
      · have := List.pairwise_iff_getElem.1 hs i (p - 1) (by omega) hlt h
        rcases this with h | ⟨h, _⟩ <;> omega
      · have : i = p - 1 := by omega
        subst this
        exact Int.le_refl _
    have hno := hn l[i] (List.getElem_mem _)
    unfold aheadT at ha
    simp at ha
    have h1 := ha.1
    unfold lessT
    omega
  refine ⟨h1, ⟨hx, h2⟩, fun a ha b hb => ?_⟩
  rcases List.mem_cons.1 hb with rfl | hb
  · exact hy a ha
  · have e1 := hy a ha
    have e2 := hx b hb
    unfold lessT at *
    omega

/-- Is that the last one of its number? -/
def lastB (l : List (Int × Int)) (i : Nat) : Bool := (List.range l.length).all fun k => !(decide (i < k) && (l[k]?.map (·.1)) == (l[i]?.map (·.1)))
theorem lastB_iff {l : List (Int × Int)} {i : Nat} (hi : i < l.length) : lastB l i = true ↔ ∀ k (h : k < l.length), i < k → l[k].1 ≠ l[i].1 := by
  unfold lastB
  rw [List.all_eq_true]
  constructor
  · intro h k hk hik e
    have := h k (List.mem_range.2 hk)
    simp [hik, List.getElem?_eq_getElem hk, List.getElem?_eq_getElem hi, e] at this
  · intro h k hk
    have hk := List.mem_range.1 hk
    by_cases hik : i < k
    · have := h k hk hik
      simp [List.getElem?_eq_getElem hk, List.getElem?_eq_getElem hi, this]
    · simp [hik]

structure InvT (l : List (Int × Int)) (L : List Th) : Prop where
  mem : ∀ x, x ∈ L ↔ ∃ k, ∃ h : k < l.length, x = ⟨l[k].1, (k : Int) + 1, l[k].2⟩ ∧ lastB l k = true
  sort : SortT L
theorem last_snoc {l : List (Int × Int)} {a : Int × Int} {k : Nat} (h : k < l.length) : lastB (l ++ [a]) k = true ↔ lastB l k = true ∧ l[k].1 ≠ a.1 := by
  have h' : k < (l ++ [a]).length := by simp; omega
  rw [lastB_iff h', lastB_iff h]
  have ek : (l ++ [a])[k] = l[k] := List.getElem_append_left h
  rw [ek]
  constructor
  · intro hh
    refine ⟨fun j hj hkj => ?_, ?_⟩
    · have := hh j (by simp; omega) hkj
      rwa [List.getElem_append_left hj] at this
    · have := hh l.length (by simp) h
      simpa using this.symm
  · rintro ⟨h1, h2⟩ j hj hkj
    rcases Nat.lt_or_ge j l.length with h3 | h3
    · rw [List.getElem_append_left h3]; exact h1 j h3 hkj
    · have : j = l.length := by simp at hj; omega
      subst this
      simpa using h2.symm
theorem inv_snoc {l : List (Int × Int)} {L : List Th} (h : InvT l L) (a : Int × Int) : InvT (l ++ [a]) (putT L l.length a.1 a.2) := by
  refine ⟨fun x => ?_, ?_⟩
  · rw [mem_putT]
    constructor
    · rintro (rfl | ⟨hx, hne⟩)
      · refine ⟨l.length, by simp, by simp, ?_⟩
        rw [lastB_iff (by simp)]
        intro k hk hlk
        simp at hk
        omega
      · obtain ⟨k, hk, rfl, hl⟩ := (h.mem x).1 hx
        refine ⟨k, by simp; omega, by rw [List.getElem_append_left hk], ?_⟩
        rw [last_snoc hk]
        exact ⟨hl, hne⟩
    · rintro ⟨k, hk, rfl, hl⟩
      rcases Nat.lt_or_ge k l.length with h3 | h3
      · rw [last_snoc h3] at hl
        have e : (l ++ [a])[k] = l[k] := List.getElem_append_left h3
        rw [e]
        exact .inr ⟨(h.mem _).2 ⟨k, h3, rfl, hl.1⟩, hl.2⟩
      · have : k = l.length := by simp at hk; omega
        subst this
        left
        simp
  · unfold putT
    refine sort_insT ?_ fun y hy => ?_
    · unfold dropT SortT
      exact h.sort.sublist List.filter_sublist
    · rw [mem_dropT] at hy
      obtain ⟨k, hk, rfl, _⟩ := (h.mem y).1 hy.1
      simp only
      omega
theorem inv_puts (l : List (Int × Int)) : InvT l (putsT l ([], 0)).1 := by
  have key : ∀ j, j ≤ l.length → InvT (l.take j) (putsT (l.take j) ([], 0)).1 := by
    intro j
    induction j with
    | zero => exact fun _ => ⟨fun x => by simp [putsT], by simp [putsT, SortT]⟩
    | succ j ih =>
      intro hj
      have h := inv_snoc (ih (by omega)) (l[j]'(by omega))
      have hn := puts_n (l.take j) ([], 0)
      rw [puts_snoc l ([], 0) j (by omega), hn]
      have e : l.take (j + 1) = l.take j ++ [l[j]'(by omega)] := by rw [List.take_add_one, List.getElem?_eq_getElem (by omega)]; rfl
      rw [e]
      simpa using h
  have h := key l.length (Nat.le_refl _)
  rwa [List.take_length] at h
theorem nodup_sub_len : ∀ {a b : List Nat}, a.Nodup → (∀ x ∈ a, x ∈ b) → a.length ≤ b.length
  | [], _, _, _ => Nat.zero_le _
  | x :: a, b, hn, hs => by
    rw [List.nodup_cons] at hn
    have hx := hs x (by simp)
    have := nodup_sub_len (a := a) (b := b.erase x) hn.2 (fun y hy => by
      have hne : y ≠ x := by rintro rfl; exact hn.1 hy
      exact (List.mem_erase_of_ne hne).2 (hs y (List.mem_cons_of_mem _ hy)))
    have hl := List.length_erase_of_mem hx
    have hp := List.length_pos_of_mem hx
    rw [List.length_cons]
    omega
theorem sort_nodup {L : List Th} (h : SortT L) : L.Nodup := by
  refine List.Pairwise.imp ?_ h
  intro a b hab e
  subst e
  unfold lessT at hab
  omega
theorem inv_len {l : List (Int × Int)} {L : List Th} (h : InvT l L) : L.length = ((List.range l.length).filter (lastB l)).length := by
  have hno : ∀ x ∈ L, ∃ k : Nat, k < l.length ∧ x.no = (k : Int) + 1 := fun x hx => by
    obtain ⟨k, hk, rfl, _⟩ := (h.mem x).1 hx
    exact ⟨k, hk, rfl⟩
  have hinj : ∀ x ∈ L, ∀ y ∈ L, x.no.toNat - 1 = y.no.toNat - 1 → x = y := by
    intro x hx y hy e
    obtain ⟨k, hk, rfl, _⟩ := (h.mem x).1 hx
    obtain ⟨k', hk', rfl, _⟩ := (h.mem y).1 hy
    have : k = k' := by simp only at e; omega
    subst this
    rfl
  have hnd : (L.map (fun x => x.no.toNat - 1)).Nodup := by
    have hp := sort_nodup h.sort
    unfold List.Nodup at hp ⊢
    rw [List.pairwise_map]
    exact List.Pairwise.imp_of_mem (fun {a b} ha hb hab e => hab (hinj a ha b hb e)) hp
  have hr : ((List.range l.length).filter (lastB l)).Nodup := List.nodup_range.filter _
  have h1 := nodup_sub_len hnd (b := (List.range l.length).filter (lastB l)) (fun k hk => by
    obtain ⟨x, hx, rfl⟩ := List.mem_map.1 hk
    obtain ⟨k, hk2, rfl, hl⟩ := (h.mem x).1 hx
    have : ((k : Int) + 1).toNat - 1 = k := by omega
    simp only [this]
    exact List.mem_filter.2 ⟨List.mem_range.2 hk2, hl⟩)
  have h2 := nodup_sub_len hr (b := L.map (fun x => x.no.toNat - 1)) (fun k hk => by
    obtain ⟨hk, hl⟩ := List.mem_filter.1 hk
    have hk := List.mem_range.1 hk
    refine List.mem_map.2 ⟨_, (h.mem _).2 ⟨k, hk, rfl, hl⟩, ?_⟩
    simp only
    omega)
  rw [List.length_map] at h1 h2
  omega
end Go.Proofs.Ytgmnhjbejofnhaa
