/- Timers in plain words: a row of things (number, turn, reading), what putting, dropping and asking come to. No program in sight. No conditions. -/
import Derived.Test.YtgmnhjbejofnhaaBase
namespace Go.Proofs.Ytgmnhjbejofnhaa

structure Th where
  id : Int
  no : Int
  rd : Int
deriving DecidableEq

/-- The first place at which a thing of that number stands. -/
def findT (l : List Th) (id : Int) : Option Nat := l.findIdx? (fun x => x.id == id)
def dropT (l : List Th) (id : Int) : List Th := l.filter (fun x => !(x.id == id))
def aheadT (a b : Th) : Bool := decide (a.rd < b.rd) || (a.rd == b.rd && decide (a.no < b.no))
/-- Where a thing goes, from place i on towards the front. -/
def posT (x : Th) (l : List Th) : Nat → Nat
  | 0 => 0
  | i + 1 => match l[i]? with
    | some y => if aheadT x y then posT x l i else i + 1
    | none => i + 1
def insT (x : Th) (l : List Th) : List Th := l.take (posT x l l.length) ++ x :: l.drop (posT x l l.length)
def putT (l : List Th) (n id rd : Int) : List Th := insT ⟨id, n + 1, rd⟩ (dropT l id)
def atT (l : List Th) (id : Int) : Option Int := (l.find? (fun x => x.id == id)).map (·.rd)
def dueN (l : List Th) (now : Int) : Nat := (l.takeWhile (fun x => decide (x.rd ≤ now))).length
def idsT (l : List Th) : List Int := l.map (·.id)
/-- Each number once. -/
def Uni (l : List Th) : Prop := (idsT l).Nodup
def thc (l : List Th) : List Value := l.flatMap fun x => [.int .i64 x.id, .int .i64 x.no, .int .i64 x.rd]

theorem thc_len (l : List Th) : (thc l).length = l.length * 3 := by
  induction l with
  | nil => rfl
  | cons x l ih => simp only [thc, List.flatMap_cons, List.length_append, List.length_cons, List.length_nil] at ih ⊢; omega
theorem thc_app (a b : List Th) : thc (a ++ b) = thc a ++ thc b := by simp [thc]
theorem thc_cons (x : Th) (l : List Th) : thc (x :: l) = [.int .i64 x.id, .int .i64 x.no, .int .i64 x.rd] ++ thc l := by simp [thc]
theorem thc_get (l : List Th) (k : Nat) (h : k < l.length) : (thc l)[k * 3]? = some (.int .i64 l[k].id) ∧ (thc l)[k * 3 + 1]? = some (.int .i64 l[k].no) ∧ (thc l)[k * 3 + 2]? = some (.int .i64 l[k].rd) := by
  induction l generalizing k with
  | nil => simp at h
  | cons x l ih =>
    cases k with
    | zero => simp [thc_cons]
    | succ k =>
      obtain ⟨h1, h2, h3⟩ := ih k (by simpa using h)
      have e : (k + 1) * 3 = k * 3 + 3 := by omega
      rw [thc_cons, e]
      refine ⟨?_, ?_, ?_⟩
      · rw [List.getElem?_append_right (by simp)]; simpa using h1
      · rw [List.getElem?_append_right (by simp)]; simpa using h2
      · rw [List.getElem?_append_right (by simp)]; simpa using h3
theorem thc_take (l : List Th) : ∀ k, (thc l).take (k * 3) = thc (l.take k) := by
  induction l with
  | nil => intro k; simp [thc]
  | cons x l ih =>
    intro k
    cases k with
    | zero => simp [thc]
    | succ k =>
      have e : (k + 1) * 3 = k * 3 + 1 + 1 + 1 := by omega
      rw [List.take_succ_cons, thc_cons, thc_cons, ← ih k, e]
      rfl
theorem thc_drop (l : List Th) : ∀ k, (thc l).drop (k * 3) = thc (l.drop k) := by
  induction l with
  | nil => intro k; simp [thc]
  | cons x l ih =>
    intro k
    cases k with
    | zero => simp
    | succ k =>
      have e : (k + 1) * 3 = k * 3 + 1 + 1 + 1 := by omega
      rw [List.drop_succ_cons, thc_cons, ← ih k, e]
      rfl
theorem thc_one (l : List Th) : ∀ v ∈ thc l, v.oneCell' = true := by
  intro v hv
  unfold thc at hv
  rw [List.mem_flatMap] at hv
  obtain ⟨x, _, hx⟩ := hv
  simp at hx
  rcases hx with rfl | rfl | rfl <;> rfl

theorem findT_lt {l : List Th} {id : Int} {k : Nat} (h : findT l id = some k) : k < l.length := by
  unfold findT at h
  have := List.findIdx?_eq_some_iff_getElem.1 h
  exact this.1
theorem findT_id {l : List Th} {id : Int} {k : Nat} (h : findT l id = some k) : (l[k]'(findT_lt h)).id = id := by
  have h' := h
  unfold findT at h'
  obtain ⟨_, h2, _⟩ := List.findIdx?_eq_some_iff_getElem.1 h'
  simpa using h2
theorem findT_none {l : List Th} {id : Int} (h : findT l id = none) : ∀ x ∈ l, x.id ≠ id := by
  unfold findT at h
  simpa using h
theorem dropT_none {l : List Th} {id : Int} (h : findT l id = none) : dropT l id = l := by
  unfold dropT
  rw [List.filter_eq_self]
  intro x hx
  simpa using findT_none h x hx
theorem uni_ne {l : List Th} (hu : Uni l) {i j : Nat} (hi : i < l.length) (hj : j < l.length) (h : i ≠ j) : l[i].id ≠ l[j].id := by
  have hp := List.pairwise_iff_getElem.1 hu
  simp only [idsT, List.length_map, List.getElem_map] at hp
  rcases Nat.lt_or_gt_of_ne h with h | h
  · exact hp i j hi hj h
  · exact (hp j i hj hi h).symm
theorem dropT_some {l : List Th} {id : Int} {k : Nat} (hu : Uni l) (h : findT l id = some k) : dropT l id = l.take k ++ l.drop (k + 1) := by
  have hk := findT_lt h
  have hid := findT_id h
  have hs : l = l.take k ++ l[k] :: l.drop (k + 1) := by
    rw [← List.drop_eq_getElem_cons hk, List.take_append_drop]
  unfold dropT
  conv => lhs; rw [hs]
  rw [List.filter_append, List.filter_cons]
  simp only [hid, beq_self_eq_true, Bool.not_true, Bool.false_eq_true, if_false]
  congr 1
  · rw [List.filter_eq_self]
    intro x hx
    obtain ⟨i, hi, rfl⟩ := List.mem_iff_getElem.1 hx
    rw [List.length_take] at hi
    rw [List.getElem_take]
    have := uni_ne hu (i := i) (j := k) (by omega) hk (by omega)
    rw [hid] at this
    simpa using this
  · rw [List.filter_eq_self]
    intro x hx
    obtain ⟨i, hi, rfl⟩ := List.mem_iff_getElem.1 hx
    rw [List.length_drop] at hi
    rw [List.getElem_drop]
    have := uni_ne hu (i := k + 1 + i) (j := k) (by omega) hk (by omega)
    rw [hid] at this
    simpa using this
theorem uni_dropT {l : List Th} (hu : Uni l) (id : Int) : Uni (dropT l id) := by
  unfold Uni idsT dropT at *
  exact (List.filter_sublist.map _).nodup hu
theorem uni_insT {l : List Th} {x : Th} (hu : Uni l) (hx : ∀ y ∈ l, y.id ≠ x.id) : Uni (insT x l) := by
  unfold Uni idsT insT at *
  generalize posT x l l.length = p
  have h1 : l.map (·.id) = (l.take p).map (·.id) ++ (l.drop p).map (·.id) := by rw [← List.map_append, List.take_append_drop]
  rw [h1] at hu
  rw [List.map_append, List.map_cons]
  rw [List.nodup_append] at hu ⊢
  obtain ⟨a1, a2, a3⟩ := hu
  refine ⟨a1, List.nodup_cons.2 ⟨fun hm => ?_, a2⟩, fun a ha b hb => ?_⟩
  · obtain ⟨y, hy, e⟩ := List.mem_map.1 hm
    exact hx y (List.mem_of_mem_drop hy) e
  · rcases List.mem_cons.1 hb with rfl | hb
    · obtain ⟨y, hy, rfl⟩ := List.mem_map.1 ha
      exact hx y (List.mem_of_mem_take hy)
    · exact a3 a ha b hb
theorem uni_putT {l : List Th} (hu : Uni l) (n id rd : Int) : Uni (putT l n id rd) := by
  refine uni_insT (uni_dropT hu id) fun y hy => ?_
  unfold dropT at hy
  have := (List.mem_filter.1 hy).2
  simpa using this
theorem posT_le (x : Th) (l : List Th) : ∀ i, posT x l i ≤ i
  | 0 => Nat.le_refl _
  | i + 1 => by
    unfold posT
    split
    · split
      · exact Nat.le_succ_of_le (posT_le x l i)
      · exact Nat.le_refl _
    · exact Nat.le_refl _
theorem insT_len (x : Th) (l : List Th) : (insT x l).length = l.length + 1 := by
  have := posT_le x l l.length
  unfold insT
  simp [List.length_take, List.length_drop]
  omega
theorem dropT_len (l : List Th) (id : Int) : (dropT l id).length ≤ l.length := List.length_filter_le _ _
theorem putT_len (l : List Th) (n id rd : Int) : (putT l n id rd).length ≤ l.length + 1 := by
  unfold putT
  rw [insT_len]
  have := dropT_len l id
  omega
end Go.Proofs.Ytgmnhjbejofnhaa
