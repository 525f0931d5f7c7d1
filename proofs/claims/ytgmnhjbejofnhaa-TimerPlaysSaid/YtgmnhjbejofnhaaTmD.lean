/- slices.Delete at a row of things of the call's own. Condition: the part that is deleted is one of the row. -/
import Derived.Test.YtgmnhjbejofnhaaTmI
import Derived.Test.YtgmnhjbejofnhaaRow
import Derived.Lib.SliceRun
import Derived.Lib.Walk
import Derived.Shelf.RegionOpenPlain
import Derived.Deep.LoopGhost
import Derived.Deep.RegionLaw
namespace Go.Proofs.Ytgmnhjbejofnhaa
open Go.RowKit Go.Lib

theorem elem_th : Elem Try.prog 57 62 3 24 := ⟨by kernel_rfl, by kernel_rfl, by decide, by decide⟩
theorem run_clear_things (w : World) (ty b o n c : Nat) (hn : 0 < n) (hc : ∀ j, j < n * 3 → (w.cell? ⟨b, o + j, none⟩).isSome = true) (hf : ∀ j, j < n * 3 → w.frozen? ⟨b, o + j, none⟩ = false) :
    (Builtin.clear_ #[57] ty #[.slice (some ⟨b, o, none⟩) n c]).run Try.prog w = .ok (.tuple #[]) (w.setCells b o (Builtin.zeroCells #[.int .i64 0, .int .i64 0, .int .i64 0] n).toList) := by
  have hl : (Builtin.zeroCells #[.int .i64 0, .int .i64 0, .int .i64 0] n).toList.length = n * 3 := by simp [Builtin.zeroCells]
  have hst := run_storeCells_cells (P := Try.prog) b o (Builtin.zeroCells #[.int .i64 0, .int .i64 0, .int .i64 0] n).toList 0 w (by rw [hl]; simpa using hc) (by rw [hl]; simpa using hf) (by
    intro v hv'
    rw [Array.mem_toList_iff] at hv'
    unfold Builtin.zeroCells at hv'
    obtain ⟨i, _, rfl⟩ := Array.mem_map.1 hv'
    have h3 : i % 3 < 3 := Nat.mod_lt _ (by decide)
    have : i % 3 = 0 ∨ i % 3 = 1 ∨ i % 3 = 2 := by omega
    show (#[Value.int .i64 0, Value.int .i64 0, Value.int .i64 0][i % 3]!).oneCell' = true
    rcases this with h | h | h <;> rw [h] <;> rfl)
  simp only [Nat.add_zero] at hst
  obtain ⟨m, rfl⟩ : ∃ m, n = m + 1 := ⟨n - 1, by omega⟩
  have hz : (Value.agg #[Value.int .i64 0, Value.int .i64 0, Value.int .i64 0]).cells = #[Value.int .i64 0, Value.int .i64 0, Value.int .i64 0] := rfl
  simp [Builtin.clear_, run_underlying Try.underlying57, hz, hst]

set_option maxHeartbeats 4000000 in
set_option maxRecDepth 1000000 in
theorem delete_at (g off cap i j : Nat) (l : List Th) (cs : Array Value) (w : World) (hB : Blk w g 62 cs) (hoff : off = 0) (hcs : cs.size = cap * 3) (hnc : l.length ≤ cap) (hm : cap ≤ maxLen) (htk : cs.toList.take (l.length * 3) = thc l) (hij : i < j) (hj : j ≤ l.length) :
    Calls Try.prog 28 #[.slice (some ⟨g, off, none⟩) l.length cap, .int .i64 i, .int .i64 j] w fun e w' => e = .returned (.slice (some ⟨g, off, none⟩) (l.length - (j - i)) cap) ∧
      ∃ cs' : Array Value, Blk w' g 62 cs' ∧ cs'.size = cs.size ∧ cs'.toList.take ((l.length - (j - i)) * 3) = thc (l.take i ++ l.drop j) ∧ Mod (Only g) w w' := by
  obtain ⟨i0, z0, hi0, hz0, hz1, _, _⟩ := elem_th.parts
  simp only [maxLen] at hm
  obtain ⟨news, hnews⟩ : ∃ news, news = thc (l.drop j) := ⟨_, rfl⟩
  have hlen : news.length = (l.length - j) * 3 := by rw [hnews, thc_len, List.length_drop]
  have hget : ∀ t u, news[t]? = some u → w.cell? ⟨g, j * 3 + t, none⟩ = some u := by
    intro t u hu
    rw [hnews, ← thc_drop, ← htk, List.getElem?_drop, List.getElem?_take] at hu
    split at hu
    · rw [hB.cell]; simpa using hu
    · cases hu
  obtain ⟨A, hA, hsrc⟩ : ∃ A : Addr, (if cap = j then some (⟨g, off, none⟩ : Addr) else some ⟨g, off + j * 3, none⟩) = some A ∧ Hid (∀ t u, news[t]? = some u → w.drew.cell? (A.add t) = some u) := by
    by_cases h : cap = j
    · refine ⟨⟨g, off, none⟩, by simp [h], fun t u hu => ?_⟩
      have h0 : news.length = 0 := by rw [hlen]; omega
      rw [List.length_eq_zero_iff.1 h0] at hu
      simp at hu
    · refine ⟨⟨g, off + j * 3, none⟩, by simp [h], fun t u hu => ?_⟩
      rw [Addr.add_lit, hoff, Nat.zero_add]
      exact hget t u hu
  have s1 : Hid (news.length = (l.length - j) * 3) := hlen
  have s2 : Hid (∀ u ∈ news, u.oneCell' = true) := by rw [hnews]; exact thc_one _
  have s3 : Hid (∀ t, t < news.length → (w.drew.cell? ⟨g, off + i * 3 + t, none⟩).isSome = true ∧ w.drew.frozen? ⟨g, off + i * 3 + t, none⟩ = false) := by
    intro t ht
    rw [hlen] at ht
    exact ⟨hB.some (by rw [hcs, hoff]; omega), hB.frozen _⟩
  obtain ⟨W1, hW1⟩ : ∃ W1, W1 = w.drew.setCells g (off + i * 3) news := ⟨_, rfl⟩
  obtain ⟨cs1, hB1, hc1⟩ := (Blk.drew hB).setCells (off + i * 3) news (by rw [hlen, hcs, hoff]; omega)
  have hm1 : Mod (Only g) w W1 := by rw [hW1]; exact mod_setCells _ _ _ (Mod.drew (Mod.refl _ _)) (fun _ => rfl)
  rw [← hW1] at hB1
  have hs1 : cs1.size = cs.size := by
    have := congrArg List.length hc1
    simp only [Array.length_toList, List.length_append, List.length_take, List.length_drop] at this
    rw [hlen, hcs, hoff] at this
    rw [hcs]
    omega
  have hcl : ∀ ty, (Builtin.clear_ #[57] ty #[.slice (some ⟨g, off + (i + (l.length - j)) * 3, none⟩) (l.length - (i + (l.length - j))) (cap - (i + (l.length - j)))]).run Try.prog W1 = .ok (.tuple #[]) (W1.setCells g (off + (i + (l.length - j)) * 3) (Builtin.zeroCells #[.int .i64 0, .int .i64 0, .int .i64 0] (l.length - (i + (l.length - j)))).toList) :=
    fun ty => run_clear_things W1 ty g _ _ _ (by omega) (fun t ht => hB1.some (by rw [hs1, hcs, hoff]; omega)) (fun t ht => hB1.frozen _)
  have hz : (Builtin.zeroCells #[Value.int .i64 0, Value.int .i64 0, Value.int .i64 0] (l.length - (i + (l.length - j)))).toList.length = (l.length - (i + (l.length - j))) * 3 := by simp [Builtin.zeroCells]
  obtain ⟨cs2, hB2, hc2⟩ := hB1.setCells (off + (i + (l.length - j)) * 3) (Builtin.zeroCells #[.int .i64 0, .int .i64 0, .int .i64 0] (l.length - (i + (l.length - j)))).toList (by rw [hz, hs1, hcs, hoff]; omega)
  have hm2 : Mod (Only g) w (W1.setCells g (off + (i + (l.length - j)) * 3) (Builtin.zeroCells #[.int .i64 0, .int .i64 0, .int .i64 0] (l.length - (i + (l.length - j)))).toList) := mod_setCells _ _ _ hm1 (fun _ => rfl)
  have hs2 : cs2.size = cs.size := by
    have := congrArg List.length hc2
    simp only [Array.length_toList, List.length_append, List.length_take, List.length_drop, hz] at this
    rw [hs1, hcs, hoff] at this
    rw [hcs]
    omega
  have ht2 : cs2.toList.take ((l.length - (j - i)) * 3) = thc (l.take i ++ l.drop j) := by
    rw [hc2, hc1, hoff]
    have e1 : (cs.toList.take (0 + i * 3)) = thc (l.take i) := by
      rw [Nat.zero_add, ← thc_take, ← htk, List.take_take, Nat.min_eq_left (by omega)]
    have e2 : (thc (l.take i ++ l.drop j)).length = (l.length - (j - i)) * 3 := by
      rw [thc_len, List.length_append, List.length_take, List.length_drop]
      congr 1
      omega
    have e3 : 0 + (i + (l.length - j)) * 3 = (thc (l.take i ++ l.drop j)).length := by rw [e2]; omega
    rw [e1, hnews, ← thc_app, ← e2, e3, List.take_left, List.append_assoc, List.take_left]
  have F : Aside (∃ cs' : Array Value, Blk (W1.setCells g (off + (i + (l.length - j)) * 3) (Builtin.zeroCells #[.int .i64 0, .int .i64 0, .int .i64 0] (l.length - (i + (l.length - j)))).toList) g 62 cs' ∧ cs'.size = cs.size ∧ cs'.toList.take ((l.length - (j - i)) * 3) = thc (l.take i ++ l.drop j) ∧ Mod (Only g) w (W1.setCells g (off + (i + (l.length - j)) * 3) (Builtin.zeroCells #[.int .i64 0, .int .i64 0, .int .i64 0] (l.length - (i + (l.length - j)))).toList)) := ⟨cs2, hB2, hs2, ht2, hm2⟩
  have hW : Hid (W1 = w.drew.setCells g (off + i * 3) news) := hW1
  have hic : i ≤ cap := by omega
  have hjc : j ≤ cap := by omega
  have hl9 : l.length ≤ 9223372036854775807 := by omega
  have hc9 : cap ≤ 9223372036854775807 := by omega
  clear hW1 hm1 hm2 hB1 hB2 hc1 hc2 hs1 hs2 ht2 hz hB htk hcs hget hnews hlen hm hoff
  generalize l.length = n at *
  go_enter Try.func28, Try.ntmps28
  go_wp2_with fail
  go_region_law (refine step_append_room rfl (.tmp 22) (.tmp 25) 57 rfl 62 i0 3 Try.underlying57 hi0 hz1 g off i cap (by simp [Act.eval, Act.put]) A (n - j) (cap - j) news (by simp [Act.eval, Act.put]) s1.out hsrc.out s2.out (by omega) s3.out ?_; rw [← hW.out])
  go_wp2
  go_ret
  exact ⟨by rw [show n - (j - i) = i + (n - j) by omega]; rfl, F⟩

set_option maxHeartbeats 1000000 in
theorem delete_same (A : Option Addr) (n c i : Nat) (w : World) (hA : A = none ∨ ∃ g, A = some ⟨g, 0, none⟩) (hi : i ≤ n) (hn : n ≤ c) (hm : c ≤ maxLen) :
    Calls Try.prog 28 #[.slice A n c, .int .i64 i, .int .i64 i] w fun e w' => e = .returned (.slice A n c) ∧ w' = w := by
  simp only [maxLen] at hm
  have h1 : i ≤ c := by omega
  have h2 : c ≤ 9223372036854775807 := by omega
  clear hm
  rcases hA with rfl | ⟨g, rfl⟩
  · go_enter Try.func28, Try.ntmps28
    go_wp2
    all_goals (go_ret; exact ⟨rfl, rfl⟩)
  · go_enter Try.func28, Try.ntmps28
    go_wp2
    all_goals (go_ret; exact ⟨rfl, rfl⟩)

theorem delete_c (base : Nat) (v : Value) (l : List Th) (i j : Nat) (w : World) (h : w.ownsRow base 62 3 v l.length (thc l)) (hij : i ≤ j) (hj : j ≤ l.length) :
    Calls Try.prog 28 #[v, .int .i64 i, .int .i64 j] w fun e w' => ∃ v', e = .returned v' ∧ w'.ownsRow base 62 3 v' (l.take i ++ l.drop j).length (thc (l.take i ++ l.drop j)) ∧
      Mod (fun k => v.ownBlock = some k) w w' ∧ v'.ownBlock = v.ownBlock := by
  obtain ⟨A, c, rfl⟩ := own_form h
  rcases Nat.lt_or_ge i j with hlt | hge
  · cases A with
    | none =>
      obtain ⟨h0, _⟩ := own_none h
      omega
    | some a =>
      obtain ⟨g, o, s⟩ := a
      obtain ⟨rfl, rfl, hb, hn, hm, hx, cs, hB, hcs, htk⟩ := own_blk h
      refine (delete_at g 0 c i j l cs w hB rfl hcs hn hm htk hlt hj).mono ?_
      rintro e w' ⟨rfl, cs', hB', hs', ht', hm'⟩
      refine ⟨_, rfl, ?_, hm'.mono (fun k _ hk => by have hk : k = g := hk; rw [hk]; rfl), rfl⟩
      have hl : (l.take i ++ l.drop j).length = l.length - (j - i) := by rw [List.length_append, List.length_take, List.length_drop]; omega
      rw [hl, ← ht']
      exact blk_own hB' hb (by omega) hm (by rw [hs', hcs])
  · obtain rfl : i = j := by omega
    have hform : (A = none ∨ ∃ g, A = some ⟨g, 0, none⟩) ∧ l.length ≤ c ∧ c ≤ maxLen := by
      cases A with
      | none => obtain ⟨h0, h1, _⟩ := own_none h; exact ⟨.inl rfl, by omega, by rw [h1]; exact Nat.zero_le _⟩
      | some a =>
        obtain ⟨g, o, s⟩ := a
        obtain ⟨rfl, rfl, _, hn, hm, _⟩ := own_blk h
        exact ⟨.inr ⟨g, rfl⟩, hn, hm⟩
    refine (delete_same A l.length c i w hform.1 hj hform.2.1 hform.2.2).mono ?_
    rintro e w' ⟨rfl, rfl⟩
    exact ⟨_, rfl, by rw [List.take_append_drop]; exact h, Mod.refl _ _, rfl⟩
end Go.Proofs.Ytgmnhjbejofnhaa
