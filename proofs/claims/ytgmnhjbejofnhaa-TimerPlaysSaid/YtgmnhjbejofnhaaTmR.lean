/- The plain law: the document's timers, in the row in which they were put, and the program's, in the row in which they are due, tell the same. No program in sight. No conditions. -/
import Derived.Test.YtgmnhjbejofnhaaTmZ
import Derived.Test.YtgmnhjbejofnhaaTmFst
namespace Go.Proofs.Ytgmnhjbejofnhaa

def pair (x : Th) : Int × Int := (x.id, x.rd)
structure Plv (M : List Th) (n : Nat) (D : List (Int × Int)) (T : List Th) : Prop where
  eq : D = T.map pair
  mem : ∀ x, x ∈ M ↔ x ∈ T
  ord : T.Pairwise fun a b => a.no < b.no
  top : ∀ x ∈ T, x.no ≤ n
  sort : SortT M
  uni : Uni M
def Pl (M : List Th) (n : Nat) (D : List (Int × Int)) : Prop := ∃ T, Plv M n D T

theorem uni_eq {M : List Th} (hu : Uni M) {x y : Th} (hx : x ∈ M) (hy : y ∈ M) (h : x.id = y.id) : x = y := by
  obtain ⟨i, hi, rfl⟩ := List.mem_iff_getElem.1 hx
  obtain ⟨j, hj, rfl⟩ := List.mem_iff_getElem.1 hy
  by_cases e : i = j
  · subst e; rfl
  · exact absurd h (uni_ne hu hi hj e)
theorem sub_len : ∀ {a b : List Th}, a.Nodup → (∀ x ∈ a, x ∈ b) → a.length ≤ b.length
  | [], _, _, _ => Nat.zero_le _
  | x :: a, b, hn, hs => by
    rw [List.nodup_cons] at hn
    have hx := hs x (by simp)
    have := sub_len (a := a) (b := b.erase x) hn.2 (fun y hy => by
      have hne : y ≠ x := by rintro rfl; exact hn.1 hy
      exact (List.mem_erase_of_ne hne).2 (hs y (List.mem_cons_of_mem _ hy)))
    have hl := List.length_erase_of_mem hx
    have hp := List.length_pos_of_mem hx
    rw [List.length_cons]
    omega
section
variable {M T : List Th} {n : Nat} {D : List (Int × Int)}
theorem Plv.len (h : Plv M n D T) : M.length = D.length := by
  have h1 := sub_len (sort_nodup h.sort) (fun x hx => (h.mem x).1 hx)
  have hT : T.Nodup := List.Pairwise.imp (fun {a b} hab e => by subst e; omega) h.ord
  have h2 := sub_len hT (fun x hx => (h.mem x).2 hx)
  rw [h.eq, List.length_map]
  omega
theorem pl_nil : Pl [] 0 [] := ⟨[], ⟨rfl, fun _ => Iff.rfl, List.Pairwise.nil, fun _ h => (by cases h), List.Pairwise.nil, (by simp [Uni, idsT])⟩⟩
theorem dropD_map (T : List Th) (id : Int) : dropD (T.map pair) id = (dropT T id).map pair := by
  unfold dropD dropT
  rw [List.filter_map]
  rfl
theorem Plv.drop (h : Plv M n D T) (id : Int) : Plv (dropT M id) n (dropD D id) (dropT T id) := by
  refine ⟨by rw [h.eq, dropD_map], fun x => by rw [mem_dropT, mem_dropT, h.mem], h.ord.sublist List.filter_sublist, fun x hx => h.top x ((mem_dropT x T id).1 hx).1, h.sort.sublist List.filter_sublist, uni_dropT h.uni id⟩
theorem Plv.put (h : Plv M n D T) (id rd : Int) : Plv (putT M n id rd) (n + 1) (dropD D id ++ [(id, rd)]) (dropT T id ++ [⟨id, (n : Int) + 1, rd⟩]) := by
  have hd := h.drop id
  refine ⟨by rw [hd.eq, List.map_append]; rfl, fun x => ?_, ?_, fun x hx => ?_, ?_, uni_putT h.uni _ _ _⟩
  · rw [mem_putT, List.mem_append, mem_dropT, h.mem]
    simp only [List.mem_cons, List.not_mem_nil, or_false]
    exact or_comm
  · rw [List.pairwise_append]
    refine ⟨hd.ord, List.pairwise_singleton _ _, fun a ha b hb => ?_⟩
    have := hd.top a ha
    rw [List.mem_singleton.1 hb]
    simp only
    omega
  · rcases List.mem_append.1 hx with hx | hx
    · have := hd.top x hx
      omega
    · rw [List.mem_singleton.1 hx]
      simp
  · unfold putT
    refine sort_insT hd.sort fun y hy => ?_
    have := hd.top y ((hd.mem y).1 hy)
    simp only
    omega
theorem Plv.has (h : Plv M n D T) (id : Int) : (findT M id).isSome = decide ((dropD D id).length < D.length) := by
  have e1 : (findT M id).isSome = true ↔ ∃ x ∈ M, x.id = id := by
    unfold findT
    rw [List.findIdx?_isSome, List.any_eq_true]
    simp
  have e2 : (dropD D id).length < D.length ↔ ∃ x ∈ M, x.id = id := by
    unfold dropD
    rw [List.length_filter_lt_length_iff_exists, h.eq]
    constructor
    · rintro ⟨a, ha, hne⟩
      obtain ⟨x, hx, rfl⟩ := List.mem_map.1 ha
      exact ⟨x, (h.mem x).2 hx, by simpa [pair] using hne⟩
    · rintro ⟨x, hx, e⟩
      exact ⟨pair x, List.mem_map.2 ⟨x, (h.mem x).1 hx, rfl⟩, by simp [pair, e]⟩
  cases hf : (findT M id).isSome with
  | true => exact (decide_eq_true (e2.2 (e1.1 hf))).symm
  | false =>
    symm
    refine decide_eq_false fun hlt => ?_
    rw [e1.2 (e2.1 hlt)] at hf
    cases hf
theorem Plv.at_ (h : Plv M n D T) (id : Int) : atT M id = atD D id := by
  unfold atT atD
  cases hf : M.find? (fun x => x.id == id) with
  | none =>
    have hn := List.find?_eq_none.1 hf
    have : D.find? (fun a => a.1 == id) = none := by
      rw [List.find?_eq_none, h.eq]
      intro a ha
      obtain ⟨x, hx, rfl⟩ := List.mem_map.1 ha
      exact hn x ((h.mem x).2 hx)
    rw [this]
    rfl
  | some x =>
    have hx := List.mem_of_find?_eq_some hf
    have hid : x.id = id := by simpa using List.find?_some hf
    cases hg : D.find? (fun a => a.1 == id) with
    | none =>
      have hn := List.find?_eq_none.1 hg (pair x) (by rw [h.eq]; exact List.mem_map.2 ⟨x, (h.mem x).1 hx, rfl⟩)
      simp [pair, hid] at hn
    | some a =>
      have ha := List.mem_of_find?_eq_some hg
      have hia : a.1 = id := by simpa using List.find?_some hg
      rw [h.eq] at ha
      obtain ⟨y, hy, rfl⟩ := List.mem_map.1 ha
      have : x = y := uni_eq h.uni hx ((h.mem y).2 hy) (by rw [hid]; exact hia.symm)
      subst this
      rfl
theorem bestO_least {D : List (Int × Int)} : ∀ {j b : Nat}, bestO D j = some b → ∀ i, i < j → rdD D b ≤ rdD D i ∧ (i < b → rdD D b < rdD D i)
  | 0, _, h, i, hi => absurd hi (Nat.not_lt_zero _)
  | j + 1, b, h, i, hi => by
    unfold bestO at h
    cases hb : bestO D j with
    | none =>
      rw [hb] at h
      simp only [Option.some.injEq] at h
      subst h
      cases j with
      | zero =>
        have : i = 0 := by omega
        subst this
        exact ⟨Int.le_refl _, fun h => absurd h (Nat.lt_irrefl _)⟩
      | succ j =>
        unfold bestO at hb
        split at hb
        · cases hb
        · split at hb <;> cases hb
    | some c =>
      rw [hb] at h
      have ih := bestO_least hb
      have hc := bestO_lt hb
      simp only at h
      split at h
      · rename_i hlt
        injection h with h
        subst h
        rcases Nat.lt_or_ge i j with h1 | h1
        · have := ih i h1
          exact ⟨by omega, fun _ => by omega⟩
        · have : i = j := by omega
          subst this
          exact ⟨Int.le_refl _, fun h => absurd h (Nat.lt_irrefl _)⟩
      · rename_i hlt
        injection h with h
        subst h
        rcases Nat.lt_or_ge i j with h1 | h1
        · exact ih i h1
        · have : i = j := by omega
          subst this
          exact ⟨by omega, fun h => by omega⟩
theorem bestO_some {D : List (Int × Int)} : ∀ j, 0 < j → ∃ b, bestO D j = some b
  | 0, h => absurd h (Nat.lt_irrefl _)
  | j + 1, _ => by
    unfold bestO
    split
    · exact ⟨_, rfl⟩
    · split <;> exact ⟨_, rfl⟩
theorem Plv.best {m : Th} {M : List Th} (h : Plv (m :: M) n D T) : ∃ b, bestO D D.length = some b ∧ rdD D b = m.rd ∧ (((D[b]?).map (·.1)).getD 0) = m.id := by
  have hlen := h.len
  rw [List.length_cons] at hlen
  obtain ⟨b, hb⟩ := bestO_some (D := D) D.length (by omega)
  have hbl := bestO_lt hb
  have hle := bestO_least hb
  have hTl : T.length = D.length := by rw [h.eq, List.length_map]
  have hbT : b < T.length := by omega
  have hget : ∀ i (hi : i < T.length), rdD D i = T[i].rd ∧ (((D[i]?).map (·.1)).getD 0) = T[i].id := by
    intro i hi
    unfold rdD
    rw [h.eq, List.getElem?_map, List.getElem?_eq_getElem hi]
    exact ⟨rfl, rfl⟩
  have hm : T[b] = m := by
    have hbM := (h.mem _).2 (List.getElem_mem hbT)
    rcases List.mem_cons.1 hbM with e | hbM
    · exact e
    · exfalso
      have hls := (List.pairwise_cons.1 h.sort).1 _ hbM
      obtain ⟨i, hi, hie⟩ := List.mem_iff_getElem.1 ((h.mem m).1 (by simp))
      have h1 := hle i (by omega)
      rw [(hget i hi).1, (hget b hbT).1, hie] at h1
      rcases hls with h2 | ⟨h2, h3⟩
      · omega
      · have hib : i < b := by
          rcases Nat.lt_trichotomy i b with h4 | h4 | h4
          · exact h4
          · subst h4
            rw [hie] at h3
            omega
          · have := List.pairwise_iff_getElem.1 h.ord b i hbT hi h4
            rw [hie] at this
            omega
        have := h1.2 hib
        omega
  refine ⟨b, hb, ?_, ?_⟩
  · rw [(hget b hbT).1, hm]
  · rw [(hget b hbT).2, hm]
theorem Plv.next (h : Plv M n D T) : nextV M = nextD D := by
  cases M with
  | nil =>
    have hlen := h.len
    have hz : D = [] := List.eq_nil_of_length_eq_zero (by rw [← hlen]; rfl)
    rw [hz]
    rfl
  | cons m M =>
    obtain ⟨b, hb, h1, h2⟩ := h.best
    unfold nextD nextV
    rw [hb]
    simp only
    rw [h1, h2]
theorem pl_due {now : Int} {D D' : List (Int × Int)} {o : List Int} (hx : DueX now D o D') : ∀ {M T : List Th}, Plv M n D T → o = idsT (M.take (dueN M now)) ∧ ∃ T', Plv (M.drop (dueN M now)) n D' T' := by
  induction hx with
  | @none D hb =>
    intro M T h
    have hlen := h.len
    have hz : D.length = 0 := by
      rcases Nat.eq_zero_or_pos D.length with h0 | h0
      · exact h0
      · obtain ⟨b, hb'⟩ := bestO_some (D := D) D.length h0
        rw [hb] at hb'
        cases hb'
    have hM : M = [] := List.eq_nil_of_length_eq_zero (by omega)
    subst hM
    exact ⟨rfl, T, h⟩
  | @late D b hb hn =>
    intro M T h
    cases M with
    | nil =>
      have hlen := h.len
      have := bestO_lt hb
      simp at hlen
      omega
    | cons m M =>
      obtain ⟨b', hb', h1, _⟩ := h.best
      rw [hb] at hb'
      injection hb' with hb'
      subst hb'
      have hz := due_zero m M now (by omega)
      rw [hz]
      exact ⟨rfl, T, h⟩
  | @step D D' b o hb hn _ ih =>
    intro M T h
    cases M with
    | nil =>
      have hlen := h.len
      have := bestO_lt hb
      simp at hlen
      omega
    | cons m M =>
      obtain ⟨b', hb', h1, h2⟩ := h.best
      rw [hb] at hb'
      injection hb' with hb'
      subst hb'
      have hd := h.drop m.id
      rw [drop_head h.uni] at hd
      rw [h2] at ih ⊢
      obtain ⟨i1, T', i2⟩ := ih hd
      have hk : dueN (m :: M) now = dueN M now + 1 := by
        unfold dueN
        rw [List.takeWhile_cons_of_pos (by simp; omega), List.length_cons]
      rw [hk, List.take_succ_cons, List.drop_succ_cons, i1]
      exact ⟨rfl, T', i2⟩
end
end Go.Proofs.Ytgmnhjbejofnhaa
