/- The document's list of places: each function. Conditions: at most 256 places in the row. -/
import Derived.Test.YtjjgefcjjpckfaaLruApt
import Derived.Deep.RegionLaw
namespace Go.Proofs.Ytjjgefcjjpckfaa
open Go.RowKit

/-- At block b stands the document's list of n places, its row in the slice v. -/
def RefL (w : World) (b : Nat) (n : Int) (ps : List Nat) (v : Value) : Prop :=
  Blk w b 60 #[.int .i64 n, v] ∧ w.ownsRow 0 3 1 v ps.length (ints (pInts ps)) ∧ ps.length ≤ 256
def foot (b : Nat) (v : Value) : Nat → Prop := fun k => k = b ∨ v.ownBlock = some k
/-- The blocks of an object that has moved: its own, or new ones. -/
def Newer (b : Nat) (v v' : Value) (w : World) : Prop := ∀ k, v'.ownBlock = some k → foot b v k ∨ w.heap.size ≤ k

section
variable {w w' : World} {b : Nat} {n : Int} {ps : List Nat} {v : Value}
theorem RefL.form (h : RefL w b n ps v) : ∃ A c, v = .slice A ps.length c := own_form h.2.1
theorem RefL.rd (h : RefL w b n ps v) : RdI w v (pInts ps) := (Rd.of_own h.2.1).asInts
theorem RefL.mod {S : Nat → Prop} (h : RefL w b n ps v) (hm : Mod S w w') (hS : ∀ k, foot b v k → ¬ S k) : RefL w' b n ps v := by
  refine ⟨h.1.mod hm (hS b (.inl rfl)), ?_, h.2.2⟩
  obtain ⟨h1, h2⟩ := h.2.1
  refine ⟨h1, ?_⟩
  rcases h2 with h2 | ⟨g, cap, cur, rfl, hb, hg, r⟩
  · exact .inl h2
  · exact .inr ⟨g, cap, cur, rfl, hb, Blk.mod hg hm (hS g (.inr rfl)), r⟩
theorem RefL.ne (h : RefL w b n ps v) : v.ownBlock ≠ some b := by
  intro e
  rcases h.2.1.2 with ⟨rfl, _⟩ | ⟨g, cap, cur, rfl, _, hg, _⟩
  · cases e
  · have : g = b := by simpa [Value.ownBlock] using e
    subst this
    have h1 := h.1
    unfold Blk at h1
    rw [hg] at h1
    injection h1 with h1
    injection h1 with _ h1
    exact absurd h1 (by decide)
theorem RefL.n_ (h : RefL w b n ps v) : w.cell? ⟨b, 0, none⟩ = some (.int .i64 n) := h.1.cell 0
theorem RefL.row (h : RefL w b n ps v) : w.cell? ⟨b, 1, none⟩ = some v := h.1.cell 1
theorem RefL.lt (h : RefL w b n ps v) : b < w.heap.size := h.1.lt
end

set_option maxHeartbeats 400000 in
theorem ref_new (n : Int) (h0 : 0 ≤ n) (h1 : n ≤ 256) (w : World) :
    Calls Try.prog 21 #[.int .i64 n] w fun e w' => e = .returned (.tuple #[At w.heap.size, .int .i64 0]) ∧ RefL w' w.heap.size n [] (.slice none 0 0) ∧ Kept w w' := by
  go_enter Try.func21, Try.ntmps21
  go_wp2
  go_ret2
  exact ⟨rfl, ⟨Blk.new _ _ _, World.ownsRow_nil _ _ _ _, by simp⟩, (Kept.refl _).alloc _⟩
set_option maxHeartbeats 400000 in
theorem ref_new_bad (n : Int) (hn : ¬ (0 ≤ n ∧ n ≤ 256)) (w : World) :
    Calls Try.prog 21 #[.int .i64 n] w fun e w' => e = .returned (.tuple #[.pointer none, .int .i64 1]) ∧ w = w' := by
  by_cases h : n < 0
  · go_enter Try.func21, Try.ntmps21
    go_wp2
    go_ret2
    exact ⟨rfl, rfl⟩
  · have h2 : 256 < n := by omega
    clear hn
    go_enter Try.func21, Try.ntmps21
    go_wp2
    go_ret2
    exact ⟨rfl, rfl⟩

set_option maxHeartbeats 400000 in
theorem ref_oldest (b : Nat) (n : Int) (ps : List Nat) (v : Value) (w : World) (h : RefL w b n ps v) :
    Calls Try.prog 31 #[At b] w fun e w' => e = .returned (.tuple #[.int .i64 (ps.headD 0 : Nat), .bool (!ps.isEmpty)]) ∧ w = w' := by
  have h1 := h.row
  have hl := h.2.2
  have hr := h.rd
  obtain ⟨A, c, rfl⟩ := h.form
  cases ps with
  | nil =>
    clear hr
    go_enter Try.func31, Try.ntmps31
    go_wp2
    go_ret2
    exact ⟨rfl, rfl⟩
  | cons p ps =>
    obtain ⟨b2, o2, c2, e2, _, g2⟩ := hr.at (k := 0) (by simp [pInts])
    injection e2 with e2 el e3
    subst e2 e3
    have f1 : w.cell? ⟨b2, o2, none⟩ = some (.int .i64 (p : Int)) := g2 0 _ rfl
    have t1 : ((((p :: ps).length : Nat) : Int) == 0) = false := by simp <;> omega
    have i1 : (0 : Int) < ((p :: ps).length : Nat) := by simp <;> omega
    clear g2 el hr
    generalize (p :: ps).length = m at *
    go_enter Try.func31, Try.ntmps31
    go_wp2
    go_ret2
    exact ⟨rfl, rfl⟩
set_option maxHeartbeats 400000 in
set_option maxRecDepth 100000 in
theorem ref_newest (b : Nat) (n : Int) (ps : List Nat) (v : Value) (w : World) (h : RefL w b n ps v) :
    Calls Try.prog 32 #[At b] w fun e w' => e = .returned (.tuple #[.int .i64 (ps.getLastD 0 : Nat), .bool (!ps.isEmpty)]) ∧ ∃ q, w' = w.drewN q := by
  have h1 := h.row
  have hl := h.2.2
  have hr := h.rd
  obtain ⟨A, c, rfl⟩ := h.form
  by_cases hR : ps = []
  · subst hR
    clear hr
    go_enter Try.func32, Try.ntmps32
    go_wp2
    go_ret2
    exact ⟨rfl, 0, rfl⟩
  · have hpos : 0 < ps.length := List.length_pos_iff.2 hR
    obtain ⟨b2, o2, c2, e2, _, g2⟩ := hr.at (k := 0) (by simpa [pInts] using hpos)
    injection e2 with e2 el e3
    subst e2 e3
    have f2 : w.cell? ⟨b2, o2 + (ps.length - 1), none⟩ = some (.int .i64 ((ps.getLastD 0 : Nat) : Int)) := by
      refine g2 (ps.length - 1) _ ?_
      simp only [ints, pInts, List.map_map, List.getElem?_map]
      rw [List.getElem?_eq_getElem (by omega), ← List.getLast_eq_getElem hR, List.getLastD_eq_getLast?, List.getLast?_eq_some_getLast hR]
      rfl
    have he : (!ps.isEmpty) = true := by simp [hR]
    have HE := Lib.hid he
    have t1 : (((ps.length : Nat) : Int) == 0) = false := by simp <;> omega
    have i1 : (0 : Int) < (ps.length : Nat) := by omega
    clear g2 el hr he hR
    generalize ps.getLastD 0 = x at *
    go_enter Try.func32, Try.ntmps32
    go_wp2
    go_quiet (fail)
    go_wp2
    go_ret2
    exact ⟨by rw [HE.out]; rfl, _, rfl⟩

def refHas (ps : List Nat) (i : Int) : Bool := ps.any fun (p : Nat) => decide ((p : Int) = i)
def refDrop (ps : List Nat) (i : Int) : List Nat := ps.filter fun (p : Nat) => decide ((p : Int) ≠ i)
theorem refDrop_snoc (R : List Nat) (i : Int) (j : Nat) (h : j < R.length) : refDrop (R.take (j + 1)) i = refDrop (R.take j) i ++ if (R[j] : Int) = i then [] else [R[j]] := by
  unfold refDrop
  rw [List.take_add_one, List.getElem?_eq_getElem h, List.filter_append]
  congr 1
  by_cases e : (R[j] : Int) = i <;> simp [e]
theorem refDrop_len (R : List Nat) (i : Int) : (refDrop R i).length ≤ R.length := List.length_filter_le _ _

def HasRel (ps : List Nat) (i : Int) (w : World) (k : Nat) (s : Value) (wr : World) : Prop := ∃ j : Nat, s = .int .i64 j ∧ j + k = ps.length ∧ refHas (ps.take j) i = false ∧ w = wr
set_option maxHeartbeats 400000 in
theorem ref_has (b : Nat) (n : Int) (ps : List Nat) (v : Value) (i : Int) (w : World) (h : RefL w b n ps v) :
    Calls Try.prog 25 #[At b, .int .i64 i] w fun e w' => e = .returned (.bool (refHas ps i)) ∧ w = w' := by
  have h1 := h.row
  have hl := h.2.2
  have HR := Lib.hid h.rd
  obtain ⟨A, c, rfl⟩ := h.form
  clear h
  go_enter Try.func25, Try.ntmps25
  go_wp2
  go_loopg [5] ps.length (fun k s wr => HasRel ps i w k s wr)
  case atStart => exact ⟨0, rfl, by omega, rfl, rfl⟩
  case round =>
    obtain ⟨j, rfl, hj, hno, rfl⟩ := hrel
    have HJ := Lib.hid hj
    have HN := Lib.hid hno
    have hjl : j ≤ ps.length := by omega
    clear hj hno
    by_cases hlt : j < ps.length
    · obtain ⟨b2, o2, c2, e2, _, g2⟩ := HR.out.at (k := j) (by simpa [pInts] using hlt)
      injection e2 with e2 el e3
      subst e2 e3
      have f1 : w.cell? ⟨b2, o2 + j, none⟩ = some (.int .i64 (ps[j] : Int)) := by
        have := g2 j _ (ints_get (pInts ps) j (by simpa [pInts] using hlt))
        simpa [pInts] using this
      have i1 : (j : Int) < ps.length := by omega
      have hs : refHas (ps.take (j + 1)) i = (refHas (ps.take j) i || decide ((ps[j] : Int) = i)) := by
        unfold refHas
        rw [List.take_add_one, List.getElem?_eq_getElem hlt, List.any_append]
        simp
      have HS := Lib.hid hs
      have hmem : ps[j] ∈ ps := List.getElem_mem hlt
      have HM := Lib.hid hmem
      clear g2 el hs hmem
      generalize ps[j] = x at *
      by_cases he : (x : Int) = i
      · have t1 : ((x : Int) == i) = true := by simp [he]
        have hh : refHas ps i = true := List.any_eq_true.2 ⟨x, HM.out, by simp [he]⟩
        have HH := Lib.hid hh
        clear he hh
        go_wp2
        go_ret
        exact ⟨ret_bool HH.out.symm, rfl⟩
      · have t1 : ((x : Int) == i) = false := by simp [he]
        have hn : refHas (ps.take (j + 1)) i = false := by rw [HS.out, HN.out]; simp [he]
        have HH := Lib.hid hn
        clear he hn
        go_wp2
        go_roundg (ps.length - (j + 1))
        case measure => have := HJ.out; omega
        case rel => exact ⟨j + 1, by go_num, by omega, HH.out, rfl⟩
    · obtain rfl : j = ps.length := by omega
      have hn := HN.out
      rw [List.take_length] at hn
      have HH := Lib.hid hn
      clear hn
      go_wp2
      go_ret
      exact ⟨ret_bool HH.out.symm, rfl⟩

theorem own_low {w : World} {base base' e size n : Nat} {v : Value} {xs : List Value} (h : w.ownsRow base e size v n xs) (hb : base' ≤ base) : w.ownsRow base' e size v n xs := by
  obtain ⟨h1, h2⟩ := h
  refine ⟨h1, ?_⟩
  rcases h2 with h2 | ⟨g, cap, cur, hv, hg, r⟩
  · exact .inl h2
  · exact .inr ⟨g, cap, cur, hv, by omega, r⟩
theorem own_set {w : World} {base e size n : Nat} {v : Value} {xs : List Value} (h : w.ownsRow base e size v n xs) {p : Addr} (hp : v.ownBlock ≠ some p.block) (u : Value) : (w.setCell p u).ownsRow base e size v n xs := by
  obtain ⟨h1, h2⟩ := h
  refine ⟨h1, ?_⟩
  rcases h2 with h2 | ⟨g, cap, cur, rfl, hb, hg, r⟩
  · exact .inl h2
  · exact .inr ⟨g, cap, cur, rfl, hb, Blk.far hg (fun e => hp (by rw [← e]; rfl)) u, r⟩

def DropRel (ps : List Nat) (i : Int) (w : World) (k : Nat) (out s : Value) (wr : World) : Prop :=
  ∃ (j : Nat) (A : Option Addr) (c : Nat), s = .int .i64 j ∧ j + k = ps.length ∧ out = .slice A (refDrop (ps.take j) i).length c ∧
    wr.ownsRow w.heap.size 3 1 (.slice A (refDrop (ps.take j) i).length c) (refDrop (ps.take j) i).length (ints (pInts (refDrop (ps.take j) i))) ∧ Kept w wr
set_option maxHeartbeats 1000000 in
set_option maxRecDepth 100000 in
theorem ref_drop (b : Nat) (n : Int) (ps : List Nat) (v : Value) (i : Int) (w : World) (h : RefL w b n ps v) :
    Calls Try.prog 23 #[At b, .int .i64 i] w fun e w' => e = .returned (.bool (decide ((refDrop ps i).length < ps.length))) ∧
      ∃ v', RefL w' b n (refDrop ps i) v' ∧ Mod (Only b) w w' ∧ (∀ k, v'.ownBlock = some k → w.heap.size ≤ k) := by
  have h1 := h.row
  have hb := h.lt
  have hl := h.2.2
  have HR := Lib.hid h.rd
  have HB := Lib.hid h.1
  obtain ⟨A, c, rfl⟩ := h.form
  clear h
  go_enter Try.func23, Try.ntmps23
  go_wp2
  go_loopg [5, 6] ps.length (fun k out s wr => DropRel ps i w k out s wr)
  case atStart => exact ⟨0, none, 0, rfl, by omega, rfl, by simpa [refDrop, pInts, ints] using World.ownsRow_nil w _ _ _, Kept.refl _⟩
  case round =>
    obtain ⟨j, A2, cc, rfl, hj, rfl, hown, hm⟩ := hrel
    have HJ := Lib.hid hj
    have hjl : j ≤ ps.length := by omega
    have hFl := refDrop_len (ps.take j) i
    rw [List.length_take] at hFl
    have hFl2 : (refDrop (ps.take j) i).length ≤ 256 := by omega
    have f0 : wr.cell? ⟨b, 1, none⟩ = some (.slice A ps.length c) := (hm.cell (p := ⟨b, 1, none⟩) hb (fun e => e)).trans h1
    clear hj hFl
    by_cases hlt : j < ps.length
    · obtain ⟨b2, o2, c2, e2, hb2, g2⟩ := HR.out.at (k := j) (by simpa [pInts] using hlt)
      injection e2 with e2 el e3
      subst e2 e3
      have f1 : wr.cell? ⟨b2, o2 + j, none⟩ = some (.int .i64 (ps[j] : Int)) := by
        have := g2 j _ (ints_get (pInts ps) j (by simpa [pInts] using hlt))
        rw [hm.cell (p := ⟨b2, o2 + j, none⟩) hb2 (fun e => e)]
        simpa [pInts] using this
      have i1 : (j : Int) < ps.length := by omega
      have HS := Lib.hid (refDrop_snoc ps i j hlt)
      have HM := Lib.hid hm
      clear g2 el
      generalize ps[j] = x at *
      by_cases he : (x : Int) = i
      · have t1 : ((x : Int) != i) = false := by simp [he]
        have hn : refDrop (ps.take (j + 1)) i = refDrop (ps.take j) i := by rw [HS.out, if_pos he]; simp
        have HH := Lib.hid hn
        clear he hn hm
        go_wp2
        go_roundg (ps.length - (j + 1))
        case measure => have := HJ.out; omega
        case rel => exact ⟨j + 1, A2, cc, by go_num, by omega, by rw [HH.out], by rw [HH.out]; exact hown, HM.out⟩
      · have t1 : ((x : Int) != i) = true := by simp [he]
        have hn : refDrop (ps.take (j + 1)) i = refDrop (ps.take j) i ++ [x] := by rw [HS.out, if_neg he]
        have HH := Lib.hid hn
        have HLT := Lib.hid hown.lt
        clear he hn
        go_wp2_with (refine wpList_pushS 27 3 1 8 34 elem_int (.tmp 33) (.tmp 26) rfl rfl rfl rfl rfl (by simp) (.int .i64 (x : Int)) rfl rfl (by simp [Value.cells, Value.oneCell']) w.heap.size (.slice A2 (refDrop (ps.take j) i).length cc) _ _ rfl hown (by unfold maxLen; omega) (by omega) hm.size ?_; intro g4 c4 w4 hown1 hm1 _; have hm2 : Kept w w4 := Mod.trans hm hm1 (fun k hk e => by have := (HLT.out k e).1; omega); clear hm1 hown hm)
        go_roundg (ps.length - (j + 1))
        case measure => have := HJ.out; omega
        case rel => exact ⟨j + 1, _, c4, by go_num, by omega, by rw [HH.out, List.length_append]; rfl, by rw [HH.out]; simpa [ints, pInts, Value.cells] using hown1, hm2⟩
    · obtain rfl : j = ps.length := by omega
      rw [List.take_length] at *
      have k0 : wr.frozen? ⟨b, 1, none⟩ = false := (HB.out.mod hm (fun e => e)).frozen 1
      clear hjl hlt
      go_wp2
      go_ret
      have hB := (HB.out.mod hm (fun e => e)).set_ 1 (.slice A2 (refDrop ps i).length cc)
      refine ⟨ret_bool ?_, _, ⟨hB, own_set (own_low hown (Nat.zero_le _)) (p := ⟨b, 1, none⟩) ?_ _, by omega⟩, ?_, ?_⟩
      · simp
      · intro e
        have := (hown.lt b e).1
        omega
      · exact (Mod.mono hm (fun _ _ e => e.elim)).at _ _
      · intro k hk
        exact (hown.lt k hk).1

set_option maxHeartbeats 400000 in
theorem ref_use_bad (b : Nat) (n : Int) (ps : List Nat) (v : Value) (i : Int) (hi : ¬ (0 ≤ i ∧ i < n)) (w : World) (h : RefL w b n ps v) :
    Calls Try.prog 22 #[At b, .int .i64 i] w fun e w' => e = .returned (.int .i64 1) ∧ w = w' := by
  have h0 := h.n_
  by_cases h1 : i < 0
  · go_enter Try.func22, Try.ntmps22
    go_wp2_with fail
    go_ret
    exact ⟨rfl, rfl⟩
  · have h2 : n ≤ i := by omega
    clear hi
    go_enter Try.func22, Try.ntmps22
    go_wp2_with fail
    go_ret
    exact ⟨rfl, rfl⟩
set_option maxHeartbeats 400000 in
set_option maxRecDepth 100000 in
theorem ref_use (b : Nat) (n : Int) (ps : List Nat) (v : Value) (x : Nat) (hi : (x : Int) < n) (hlen : (refDrop ps x).length < 256) (w : World) (h : RefL w b n ps v) :
    Calls Try.prog 22 #[At b, .int .i64 x] w fun e w' => e = .returned (.int .i64 0) ∧
      ∃ v', RefL w' b n (refDrop ps x ++ [x]) v' ∧ Mod (Only b) w w' ∧ (∀ k, v'.ownBlock = some k → w.heap.size ≤ k) := by
  have h0 := h.n_
  have hb := h.lt
  go_enter Try.func22, Try.ntmps22
  go_wp2_with fail
  refine (ref_drop b n ps v x _ h).mono ?_
  rintro e w1 ⟨rfl, v1, h1, hm1, hk1⟩
  have g1 := h1.row
  have g2 := h1.1.frozen 1
  have hne := h1.ne
  have hlt1 := h1.lt
  obtain ⟨A1, c1, rfl⟩ := h1.form
  have HO := Lib.hid h1.2.1
  have HB := Lib.hid h1.1
  have HK := Lib.hid hk1
  have HN := Lib.hid hne
  have hsz := hm1.size
  clear h h0 h1 hk1 hne
  go_wp2_with (refine wpList_pushS 27 3 1 8 24 elem_int (.tmp 23) (.tmp 22) rfl rfl rfl rfl rfl (by simp) (.int .i64 (x : Int)) rfl rfl (by simp [Value.cells, Value.oneCell']) 0 (.slice A1 (refDrop ps x).length c1) _ _ rfl HO.out (by unfold maxLen; omega) (by omega) (Nat.zero_le _) ?_; intro g4 c4 w4 hown1 hm2 hg4; have hB4 := HB.out.mod hm2 (fun e => HN.out e); have k4 := hB4.cell 1; have k5 := hB4.frozen 1; simp only [List.getElem?_toArray, List.getElem?_cons_succ, List.getElem?_cons_zero] at k4)
  go_ret
  have hne4 : (Value.slice (some ⟨g4, 0, none⟩) ((refDrop ps x).length + 1) c4).ownBlock ≠ some b := by
    intro e
    have e : some g4 = some b := e
    injection e with e
    subst e
    rcases hg4 with hg4 | hg4
    · exact HN.out hg4
    · omega
  refine ⟨rfl, _, ⟨hB4.set_ 1 _, ?_, by simp; omega⟩, ?_, ?_⟩
  · have := own_set hown1 (p := ⟨b, 1, none⟩) hne4 (.slice (some ⟨g4, 0, none⟩) ((refDrop ps x).length + 1) c4)
    simpa [ints, pInts, Value.cells] using this
  · exact (Mod.trans hm1 hm2 (fun k hk e => by have := HK.out k e; omega)).at _ _
  · intro k hk
    have e : some g4 = some k := hk
    injection e with e
    subst e
    rcases hg4 with hg4 | hg4
    · exact HK.out _ hg4
    · omega
set_option maxHeartbeats 1000000 in
set_option maxRecDepth 100000 in
theorem ref_copy (b : Nat) (n : Int) (ps : List Nat) (v : Value) (w : World) (h : RefL w b n ps v) :
    Calls Try.prog 24 #[At b] w fun e w' => ∃ g v', e = .returned (At g) ∧ RefL w' g n ps v' ∧ Kept w w' ∧ w.heap.size ≤ g ∧ (∀ k, v'.ownBlock = some k → w.heap.size ≤ k) := by
  have h0 := h.n_
  have h1 := h.row
  have hb := h.lt
  have hl := h.2.2
  have HR := Lib.hid (Rd.of_own h.2.1)
  obtain ⟨A, c, rfl⟩ := h.form
  clear h
  have hone : ∀ u ∈ ints (pInts ps), u.oneCell' = true := by
    intro u hu
    obtain ⟨x, _, rfl⟩ := List.mem_map.1 hu
    rfl
  have HONE := Lib.hid hone
  have hoi : ((w.alloc (.cells #[] 3)).drew).ownsRow w.heap.size 3 1 (.slice (some ⟨w.heap.size, 0, none⟩) 0 0) 0 [] := World.ownsRow_made w #[] 0 (Nat.le_refl _) (by unfold maxLen; omega) (by simp)
  have hmi : Kept w ((w.alloc (.cells #[] 3)).drew) := ((Kept.refl _).alloc _).drew
  have hri := HR.out.kept hmi (fun _ _ e => e)
  have HOI := Lib.hid hoi
  have HMI := Lib.hid hmi
  have HRI := Lib.hid hri
  clear hone hoi hmi hri
  go_enter Try.func24, Try.ntmps24
  go_wp2
  go_region_law (refine step_append_rd 27 3 1 8 elem_int (.tmp 7) (.tmp 11) rfl rfl w.heap.size (.slice (some ⟨w.heap.size, 0, none⟩) 0 0) 0 [] rfl HOI.out (.slice A ps.length c) ps.length (ints (pInts ps)) rfl HRI.out HONE.out (by unfold maxLen; omega) (by omega) HMI.out.size (fun A2 c2 w2 hown2 hm2 hk2 => ?_); have hkk : Kept w w2 := Mod.trans HMI.out hm2 (fun i hi e => by injection e with e; (have e : w.heap.size = i := e); omega); have q0 : w2.cell? ⟨b, 0, none⟩ = some (.int .i64 n) := (hkk.cell (p := ⟨b, 0, none⟩) hb (fun e => e)).trans h0; have HO2 := Lib.hid hown2; have HM2 := Lib.hid hkk; clear hown2 hm2 hk2 hkk)
  all_goals go_wp2
  all_goals go_ret
  all_goals exact ⟨w2.heap.size, .slice A2 ps.length c2, rfl, ⟨(Blk.new _ _ _).drew, by simpa using own_low (HO2.out.alloc _) (Nat.zero_le _), hl⟩, (HM2.out.alloc _), HM2.out.size, fun k hk => ((by simpa using HO2.out : w2.ownsRow w.heap.size 3 1 (.slice A2 ps.length c2) ps.length (ints (pInts ps))).lt k hk).1⟩
end Go.Proofs.Ytjjgefcjjpckfaa
