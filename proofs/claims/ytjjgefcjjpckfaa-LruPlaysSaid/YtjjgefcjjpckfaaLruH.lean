/- The list of places by its row: each exported function, for every place, in range or not. Conditions: none. -/
import Derived.Test.YtjjgefcjjpckfaaLruP
import Derived.Test.YtjjgefcjjpckfaaSl
namespace Go.Proofs.Ytjjgefcjjpckfaa
open Go.RowKit

/-- At block b stands a list of n places whose row is ps. -/
def Lru (w : World) (b : Nat) (n : Int) (ps : List Nat) : Prop := ∃ L, IsL w b L ∧ LInv L (ps.map (· + 1)) ∧ L.n = n
def isIn (n i : Int) : Bool := decide (0 ≤ i ∧ i < n)
def useRes (n i : Int) : Int := if isIn n i then 0 else 1
def lUse (n : Int) (ps : List Nat) (i : Int) : List Nat := if isIn n i then ps.filter (· ≠ i.toNat) ++ [i.toNat] else ps
def lDrop (n : Int) (ps : List Nat) (i : Int) : List Nat := if isIn n i then ps.filter (· ≠ i.toNat) else ps
def lHas (n : Int) (ps : List Nat) (i : Int) : Bool := isIn n i && decide (i.toNat ∈ ps)
def pInts (ps : List Nat) : List Int := ps.map fun (p : Nat) => (p : Int)

theorem filter_succ (ps : List Nat) (k : Nat) : (ps.map (· + 1)).filter (· ≠ k + 1) = (ps.filter (· ≠ k)).map (· + 1) := by
  induction ps with
  | nil => rfl
  | cons a l ih =>
    simp only [List.map_cons, List.filter_cons]
    by_cases h : a = k
    · subst h; simpa using ih
    · have h' : ¬ (a + 1 = k + 1) := by omega
      simp only [ne_eq, h, h', not_false_eq_true, decide_true, if_true, List.map_cons]
      rw [← ih]
theorem places_succ (ps : List Nat) : places (ps.map (· + 1)) = ints (pInts ps) := by
  simp only [places, ints, pInts, List.map_map]
  apply List.map_congr_left
  intro a _
  simp only [Function.comp]
  congr 1
  omega

section
variable {w w' : World} {b : Nat} {n : Int} {ps : List Nat}
theorem Lru.lt (h : Lru w b n ps) : b < w.heap.size := by obtain ⟨L, h, _⟩ := h; exact Blk.lt h
theorem Lru.mod {S : Nat → Prop} (h : Lru w b n ps) (hm : Mod S w w') (hn : ¬ S b) : Lru w' b n ps := by
  obtain ⟨L, h1, h2⟩ := h
  exact ⟨L, h1.mod hm hn, h2⟩
theorem Lru.mem (h : Lru w b n ps) : ∀ p ∈ ps, (p : Int) < n := fun p hp => by
  obtain ⟨L, _, h2, rfl⟩ := h
  have := (h2.rng (p + 1) (List.mem_map.2 ⟨p, hp, rfl⟩)).2
  omega
theorem Lru.nodup (h : Lru w b n ps) : ps.Nodup := by
  obtain ⟨L, _, h2, rfl⟩ := h
  have := h2.nd
  rw [List.Nodup, List.pairwise_map] at this
  exact this.imp fun hne e => hne (by rw [e])
theorem Lru.range (h : Lru w b n ps) : 0 ≤ n ∧ n ≤ 256 := by obtain ⟨L, _, h2, rfl⟩ := h; exact ⟨h2.n0, h2.n1⟩
theorem Lru.length (h : Lru w b n ps) : (ps.length : Int) ≤ n := by
  obtain ⟨L, _, h2, rfl⟩ := h
  have := h2.count
  simpa using this
end

theorem lru_new_bad (n : Int) (hn : ¬ (0 ≤ n ∧ n ≤ 256)) (w : World) :
    Calls Try.prog 20 #[.int .i64 n] w fun e w' => e = .returned (.tuple #[.pointer none, .int .i64 1]) ∧ w = w' := new_bad n hn w
theorem lru_new (n : Int) (h0 : 0 ≤ n) (h1 : n ≤ 256) (w : World) :
    Calls Try.prog 20 #[.int .i64 n] w fun e w' => e = .returned (.tuple #[At w.heap.size, .int .i64 0]) ∧ Lru w' w.heap.size n [] ∧ Kept w w' := by
  refine (new_ok n h0 h1 w).mono ?_
  rintro e w' ⟨rfl, rfl⟩
  refine ⟨rfl, ⟨LL.fresh n, Blk.new _ _ _, ?_, rfl⟩, (Mod.refl _ _).alloc _⟩
  exact ⟨h0, h1, List.nodup_nil, fun s hs => by simp at hs, rfl, fun s _ => by simp [LL.fresh], ⟨rfl, rfl⟩, fun i _ => by simp [LL.fresh], fun i _ => by simp [LL.fresh]⟩

theorem lru_use (b : Nat) (n : Int) (ps : List Nat) (i : Int) (w : World) (hL : Lru w b n ps) :
    Calls Try.prog 16 #[At b, .int .i64 i] w fun e w' => e = .returned (.int .i64 (useRes n i)) ∧ Lru w' b n (lUse n ps i) ∧ Mod (Only b) w w' := by
  obtain ⟨L, h1, h2, h3⟩ := hL
  by_cases hi : 0 ≤ i ∧ i < n
  · obtain ⟨k, rfl⟩ := Int.eq_ofNat_of_zero_le hi.1
    have hk : (k : Int) < L.n := by rw [h3]; exact hi.2
    have hn := h2.n1
    have ho := h2.out (k + 1) (by omega)
    have hc := ho.count
    have hu := h2.use (k + 1) (by omega) (by omega)
    have hlen : (L.out (k + 1)).len ≤ 255 := by
      have hlt := nodup_len (n := L.n.toNat - 1) (l := ((ps.map (· + 1)).filter (· ≠ k + 1)).map fun x => if x < k + 1 then x else x - 1) ?_ ?_
      · rw [ho.len]
        rw [List.length_map] at hlt
        have := h2.n0
        omega
      · rw [List.Nodup, List.pairwise_map]
        refine List.Pairwise.imp_of_mem ?_ ho.nd
        intro a b ha hb hne e
        have ha' := (List.mem_filter.1 ha).2
        have hb' := (List.mem_filter.1 hb).2
        simp at ha' hb'
        split at e <;> split at e <;> omega
      · intro s hs
        obtain ⟨x, hx, rfl⟩ := List.mem_map.1 hs
        have hx' := (List.mem_filter.1 hx).2
        have hr := ho.rng x hx
        rw [LL.out_n] at hr
        simp at hx'
        split <;> omega
    refine (use_ok b L h2.ok k (ho.prev 0 (by omega)) hk hlen (by rw [ho.len]; omega) w h1).mono ?_
    rintro e w' ⟨rfl, h4, h5⟩
    have hd : isIn n (k : Int) = true := decide_eq_true hi
    refine ⟨ret_int (by unfold useRes; rw [hd]; rfl), ⟨_, h4, ?_, by rw [LL.use_n]; exact h3⟩, h5⟩
    unfold lUse
    rw [hd, if_pos rfl, List.map_append, ← filter_succ]
    exact hu
  · refine (use_bad b L i (by rw [h3]; exact hi) w h1).mono ?_
    rintro e w' ⟨rfl, rfl⟩
    have hd : isIn n i = false := decide_eq_false hi
    refine ⟨ret_int (by unfold useRes; rw [hd]; rfl), ⟨L, h1, ?_, h3⟩, Mod.refl _ _⟩
    unfold lUse
    rw [hd]
    exact h2

theorem lru_drop (b : Nat) (n : Int) (ps : List Nat) (i : Int) (w : World) (hL : Lru w b n ps) :
    Calls Try.prog 14 #[At b, .int .i64 i] w fun e w' => e = .returned (.bool (lHas n ps i)) ∧ Lru w' b n (lDrop n ps i) ∧ Mod (Only b) w w' := by
  obtain ⟨L, h1, h2, h3⟩ := hL
  by_cases hi : 0 ≤ i ∧ i < n
  · obtain ⟨k, rfl⟩ := Int.eq_ofNat_of_zero_le hi.1
    have hk : (k : Int) < L.n := by rw [h3]; exact hi.2
    have hn := h2.n1
    have ho := h2.out (k + 1) (by omega)
    refine (drop_ok b L h2.ok k hk (!L.inn (k + 1)) (h2.turned (k + 1) (by omega) (by omega)) w h1).mono ?_
    rintro e w' ⟨rfl, h4, h5⟩
    have hd : isIn n (k : Int) = true := decide_eq_true hi
    refine ⟨?_, ⟨_, h4, ?_, by rw [LL.out_n]; exact h3⟩, h5⟩
    · refine ret_bool ?_
      unfold lHas
      rw [hd, Bool.not_not, Bool.true_and, Int.toNat_natCast, Bool.eq_iff_iff, h2.inn (k + 1) (by omega)]
      simp
    · unfold lDrop
      rw [hd, if_pos rfl, Int.toNat_natCast, ← filter_succ]
      exact ho
  · refine (drop_bad b L i (by rw [h3]; exact hi) w h1).mono ?_
    rintro e w' ⟨rfl, rfl⟩
    have hd : isIn n i = false := decide_eq_false hi
    refine ⟨ret_bool (by unfold lHas; rw [hd]; rfl), ⟨L, h1, ?_, h3⟩, Mod.refl _ _⟩
    unfold lDrop
    rw [hd]
    exact h2

theorem lru_has (b : Nat) (n : Int) (ps : List Nat) (i : Int) (w : World) (hL : Lru w b n ps) :
    Calls Try.prog 12 #[At b, .int .i64 i] w fun e w' => e = .returned (.bool (lHas n ps i)) ∧ w = w' := by
  obtain ⟨L, h1, h2, h3⟩ := hL
  by_cases hi : 0 ≤ i ∧ i < n
  · obtain ⟨k, rfl⟩ := Int.eq_ofNat_of_zero_le hi.1
    have hk : (k : Int) < L.n := by rw [h3]; exact hi.2
    have hn := h2.n1
    refine (has_ok b L k hk hn w h1).mono ?_
    rintro e w' ⟨rfl, rfl⟩
    have hd : isIn n (k : Int) = true := decide_eq_true hi
    refine ⟨ret_bool ?_, rfl⟩
    unfold lHas
    rw [hd, Bool.true_and, Int.toNat_natCast, Bool.eq_iff_iff, h2.inn (k + 1) (by omega)]
    simp
  · refine (has_bad b L i (by rw [h3]; exact hi) w h1).mono ?_
    rintro e w' ⟨rfl, rfl⟩
    have hd : isIn n i = false := decide_eq_false hi
    exact ⟨ret_bool (by unfold lHas; rw [hd]; rfl), rfl⟩

theorem lru_len (b : Nat) (n : Int) (ps : List Nat) (w : World) (hL : Lru w b n ps) :
    Calls Try.prog 19 #[At b] w fun e w' => e = .returned (.int .i64 ps.length) ∧ w = w' := by
  obtain ⟨L, h1, h2, h3⟩ := hL
  refine (len_ok b L w h1).mono ?_
  rintro e w' ⟨rfl, rfl⟩
  exact ⟨ret_int (by rw [h2.len]; simp), rfl⟩

theorem lru_copy (b : Nat) (n : Int) (ps : List Nat) (w : World) (hL : Lru w b n ps) :
    Calls Try.prog 13 #[At b] w fun e w' => e = .returned (At w.heap.size) ∧ Lru w' w.heap.size n ps ∧ Kept w w' := by
  obtain ⟨L, h1, h2, h3⟩ := hL
  refine (copy_ok b L w h1).mono ?_
  rintro e w' ⟨rfl, rfl⟩
  exact ⟨rfl, ⟨L, Blk.new _ _ _, h2, h3⟩, (Mod.refl _ _).alloc _⟩

theorem lru_row (b : Nat) (n : Int) (ps : List Nat) (w : World) (hL : Lru w b n ps) :
    Calls Try.prog 11 #[At b] w fun e w' => ∃ v, e = .returned v ∧ w'.ownsRow w.heap.size 3 1 v ps.length (ints (pInts ps)) ∧ Kept w w' := by
  have hlen := hL.length
  have hr := hL.range
  obtain ⟨L, h1, h2, h3⟩ := hL
  refine (row_ok b L _ h2.path (by rw [List.length_map]; omega) w h1).mono ?_
  rintro e w' ⟨v, rfl, h4, h5⟩
  rw [places_succ, List.length_map] at h4
  exact ⟨v, rfl, h4, h5⟩

theorem lru_oldest (b : Nat) (n : Int) (ps : List Nat) (w : World) (hL : Lru w b n ps) :
    Calls Try.prog 17 #[At b] w fun e w' => e = .returned (.tuple #[.int .i64 (ps.headD 0 : Nat), .bool (!ps.isEmpty)]) ∧ w = w' := by
  obtain ⟨L, h1, h2, h3⟩ := hL
  refine (oldest_ok b L (h2.next 0 (by omega)) w h1).mono ?_
  rintro e w' ⟨rfl, rfl⟩
  refine ⟨?_, rfl⟩
  have hh := h2.seg.head
  cases ps with
  | nil => rw [hh]; rfl
  | cons p ps => rw [hh]; simp

theorem lru_newest (b : Nat) (n : Int) (ps : List Nat) (w : World) (hL : Lru w b n ps) :
    Calls Try.prog 18 #[At b] w fun e w' => e = .returned (.tuple #[.int .i64 (ps.getLastD 0 : Nat), .bool (!ps.isEmpty)]) ∧ w = w' := by
  obtain ⟨L, h1, h2, h3⟩ := hL
  refine (newest_ok b L (h2.prev 0 (by omega)) w h1).mono ?_
  rintro e w' ⟨rfl, rfl⟩
  refine ⟨?_, rfl⟩
  have hh := h2.seg.last
  rcases List.eq_nil_or_concat ps with rfl | ⟨r, p, rfl⟩
  · rw [hh]; rfl
  · rw [hh]; simp
end Go.Proofs.Ytjjgefcjjpckfaa
