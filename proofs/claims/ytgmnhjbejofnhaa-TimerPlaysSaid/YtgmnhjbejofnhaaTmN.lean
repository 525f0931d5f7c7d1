/- slices.Insert of one thing at a row of things of the call's own. Conditions: the place is one of the row; the row is short. -/
import Derived.Test.YtgmnhjbejofnhaaTmC
import Derived.Shelf.Spec.SlicesInsertGrow
namespace Go.Proofs.Ytgmnhjbejofnhaa
open Go.RowKit Go.Lib

theorem run_copy_big {P : Program} (w : World) (dT sT ty elem : TypeId) (b o dLen dCap : Nat) (a : Addr) (sLen sCap : Nat) (cs : List Value) (size m : Nat)
    (hu : P.underlying dT = some (.slice elem)) (hs : (P.info? elem).map (·.size) = some size) (hm : m = Nat.min sLen dLen) (hn : cs.length = m * size)
    (hsrc : ∀ j v, cs[j]? = some v → w.cell? (a.add j) = some v) (hc : ∀ j, j < cs.length → (w.cell? ⟨b, o + j, none⟩).isSome = true) (hf : ∀ j, j < cs.length → w.frozen? ⟨b, o + j, none⟩ = false) (h1 : ∀ v ∈ cs, v.oneCell' = true) :
    (Builtin.copy_ #[dT, sT] ty #[.slice (some ⟨b, o, none⟩) dLen dCap, .slice (some a) sLen sCap]).run P w = .ok (goInt m) (w.setCells b o cs) := by
  have hl := run_loadCells_list (P := P) w a cs hsrc
  have hst := run_storeCells_cells (P := P) b o cs 0 w (by simpa using hc) (by simpa using hf) h1
  cases hq : P.info? elem with
  | none => simp [hq] at hs
  | some i =>
    have hi : i.size = size := by simpa [hq] using hs
    subst hm
    rw [hn] at hl
    simp [Builtin.copy_, run_underlying hu, Builtin.lenOf, Builtin.firstCells, sizeOf, typeInfo, hq, hi, hl, hst]

def oneC (x : Th) : List Value := [.int .i64 x.id, .int .i64 x.no, .int .i64 x.rd]
theorem thc_single (x : Th) : thc [x] = oneC x := by simp [thc, oneC]

/-- At the end. -/
theorem insert_end (base : Nat) (A : Option Addr) (c : Nat) (l : List Th) (x : Th) (vb : Nat) (w : World) (h : w.ownsRow base 62 3 (.slice A l.length c) l.length (thc l)) (hx : Rd w 3 (.slice (some ⟨vb, 0, none⟩) 1 1) 1 (oneC x)) (hl : l.length ≤ 100000) (hb : base ≤ w.heap.size) (hA : A = none ∨ ∃ g, A = some ⟨g, 0, none⟩) :
    Calls Try.prog 31 #[.slice A l.length c, .int .i64 l.length, .slice (some ⟨vb, 0, none⟩) 1 1] w fun e w' => ∃ v', e = .returned v' ∧ w'.ownsRow base 62 3 v' (l.length + 1) (thc l ++ oneC x) ∧
      Mod (fun k => (Value.slice A l.length c).ownBlock = some k) w w' ∧ (∀ k, v'.ownBlock = some k → (Value.slice A l.length c).ownBlock = some k ∨ w.heap.size ≤ k) := by
  have HO := Lib.hid h
  have HX := Lib.hid hx
  have h1 : ∀ u ∈ oneC x, u.oneCell' = true := by rw [← thc_single]; exact thc_one _
  have H1 := Lib.hid h1
  have hb1 : l.length + 1 ≤ maxLen := by simp only [maxLen]; omega
  have hb2 : (l.length + 1) * 24 ≤ 140737488355328 := by omega
  have HB := Lib.hid (And.intro hb1 (And.intro hb2 hb))
  clear h hx h1 hb1 hb2 hb
  rcases hA with rfl | ⟨g, rfl⟩
  · go_enter Try.func31, Try.ntmps31
    go_wp2_with (at_builtin; refine wpList_append_rd 57 62 3 24 elem_th (.tmp 23) (.tmp 24) rfl rfl base _ l.length (thc l) rfl HO.out _ 1 (oneC x) rfl HX.out H1.out HB.out.1 HB.out.2.1 HB.out.2.2 ?_; intro v' w1 hown hm hat)
    all_goals (go_ret; exact ⟨v', rfl, hown, hm, hat⟩)
  · go_enter Try.func31, Try.ntmps31
    go_wp2_with (at_builtin; refine wpList_append_rd 57 62 3 24 elem_th (.tmp 23) (.tmp 24) rfl rfl base _ l.length (thc l) rfl HO.out _ 1 (oneC x) rfl HX.out H1.out HB.out.1 HB.out.2.1 HB.out.2.2 ?_; intro v' w1 hown hm hat)
    all_goals (go_ret; exact ⟨v', rfl, hown, hm, hat⟩)

set_option maxHeartbeats 4000000 in
set_option maxRecDepth 100000 in
/-- In the midst, where there is room. -/
theorem insert_shift (g off c i vb : Nat) (l : List Th) (x : Th) (cs : Array Value) (w : World) (hB : Blk w g 62 cs) (hoff : off = 0) (hcs : cs.size = c * 3) (hroom : l.length + 1 ≤ c) (hc63 : c ≤ 9223372036854775807) (htk : cs.toList.take (l.length * 3) = thc l) (hi : i < l.length)
    (hV : Blk w vb 62 #[.int .i64 x.id, .int .i64 x.no, .int .i64 x.rd]) (hvb : vb ≠ g) :
    Calls Try.prog 31 #[.slice (some ⟨g, off, none⟩) l.length c, .int .i64 i, .slice (some ⟨vb, 0, none⟩) 1 1] w fun e w' => e = .returned (.slice (some ⟨g, off, none⟩) (l.length + 1) c) ∧
      ∃ cs' : Array Value, Blk w' g 62 cs' ∧ cs'.size = cs.size ∧ cs'.toList.take ((l.length + 1) * 3) = thc (l.take i ++ x :: l.drop i) ∧ Mod (Only g) w w' := by
  have hsz : (Try.prog.info? 62).map (·.size) = some 3 := by kernel_rfl
  obtain ⟨news, hnews⟩ : ∃ news, news = thc (l.drop i) := ⟨_, rfl⟩
  have hlen : news.length = (l.length - i) * 3 := by rw [hnews, thc_len, List.length_drop]
  have hget : ∀ t u, news[t]? = some u → w.cell? ⟨g, i * 3 + t, none⟩ = some u := by
    intro t u hu
    rw [hnews, ← thc_drop, ← htk, List.getElem?_drop, List.getElem?_take] at hu
    split at hu
    · rw [hB.cell]; simpa using hu
    · cases hu
  have h1c : ∀ u ∈ news, u.oneCell' = true := by rw [hnews]; exact thc_one _
  have h1v : ∀ u ∈ oneC x, u.oneCell' = true := by rw [← thc_single]; exact thc_one _
  have hov : ∀ lb cb, (callFunc 37 #[.slice (some ⟨vb, 0, none⟩) 1 1, .slice (some ⟨g, off + (i + 1) * 3, none⟩) lb cb]).run Try.prog w = .ok (.value (.bool false)) w := fun lb cb => by
    rw [run_callFunc_extern Try.func37 (by kernel_rfl) (by kernel_rfl) (by kernel_rfl) (e := Extern.SlicesOverlaps.overlaps #[57, 57] #[4]) (by kernel_rfl),
      Lib.run_overlaps_apart w 57 4 62 Try.underlying57 3 (fun w => by kernel_rfl) ⟨vb, 0, none⟩ ⟨g, off + (i + 1) * 3, none⟩ 1 1 lb cb hvb 62 62 3 cs.size (by unfold Blk at hV; simp [World.shape?, hV]) (by unfold Blk at hB; simp [World.shape?, hB]) (by omega) (hV.frozen 0) (hV.frozen 3)]
    rfl
  have hcp1 : ∀ ty dc sc, (Builtin.copy_ #[57, 57] ty #[.slice (some ⟨g, off + (i + 1) * 3, none⟩) (l.length - i) dc, .slice (some ⟨g, off + i * 3, none⟩) (l.length + 1 - i) sc]).run Try.prog w.drew = .ok (goInt (l.length - i : Nat)) (w.drew.setCells g (off + (i + 1) * 3) news) := fun ty dc sc =>
    run_copy_big w.drew _ _ ty 62 g (off + (i + 1) * 3) (l.length - i) dc ⟨g, off + i * 3, none⟩ (l.length + 1 - i) sc news 3 (l.length - i) Try.underlying57 hsz (by simp only [Nat.min_def]; split <;> omega) hlen
      (fun j v hj => by rw [Addr.add_lit, hoff, Nat.zero_add]; exact hget j v hj)
      (fun j hj => hB.drew.some (by rw [hcs, hoff]; omega)) (fun j hj => hB.drew.frozen _) h1c
  obtain ⟨W1, hW1⟩ : ∃ W1, W1 = w.drew.setCells g (off + (i + 1) * 3) news := ⟨_, rfl⟩
  obtain ⟨cs1, hB1, hc1⟩ := (Blk.drew hB).setCells (off + (i + 1) * 3) news (by rw [hlen, hcs, hoff]; omega)
  have hm1 : Mod (Only g) w W1 := by rw [hW1]; exact mod_setCells _ _ _ (Mod.drew (Mod.refl _ _)) (fun _ => rfl)
  rw [← hW1] at hB1
  have hs1 : cs1.size = cs.size := by
    have := congrArg List.length hc1
    simp only [Array.length_toList, List.length_append, List.length_take, List.length_drop] at this
    rw [hlen, hcs, hoff] at this
    rw [hcs]
    omega
  have hV1 : Blk W1 vb 62 #[.int .i64 x.id, .int .i64 x.no, .int .i64 x.rd] := hV.mod hm1 hvb
  have hol : (oneC x).length = 1 * 3 := rfl
  have hcp2 : ∀ (W : World), (∀ p, W.cell? p = W1.cell? p) → (∀ p, W.frozen? p = W1.frozen? p) → ∀ ty dc, (Builtin.copy_ #[57, 57] ty #[.slice (some ⟨g, off + i * 3, none⟩) (l.length + 1 - i) dc, .slice (some ⟨vb, 0, none⟩) 1 1]).run Try.prog W = .ok (goInt (1 : Nat)) (W.setCells g (off + i * 3) (oneC x)) := fun W hWc hWf ty dc =>
    run_copy_big W _ _ ty 62 g (off + i * 3) (l.length + 1 - i) dc ⟨vb, 0, none⟩ 1 1 (oneC x) 3 1 Try.underlying57 hsz (by simp only [Nat.min_def]; split <;> omega) hol
      (fun j v hj => by
        rw [Addr.add_lit, hWc, Nat.zero_add, hV1.cell, ← Array.getElem?_toList]
        exact hj)
      (fun j hj => by rw [hWc]; exact hB1.some (by rw [hs1, hcs, hoff]; rw [hol] at hj; omega)) (fun j hj => by rw [hWf]; exact hB1.frozen _) h1v
  obtain ⟨cs2, hB2, hc2⟩ := hB1.setCells (off + i * 3) (oneC x) (by rw [hol, hs1, hcs, hoff]; omega)
  have hm2 : Mod (Only g) w (W1.setCells g (off + i * 3) (oneC x)) := mod_setCells _ _ _ hm1 (fun _ => rfl)
  have hs2 : cs2.size = cs.size := by
    have := congrArg List.length hc2
    simp only [Array.length_toList, List.length_append, List.length_take, List.length_drop, hol] at this
    rw [hs1, hcs, hoff] at this
    rw [hcs]
    omega
  have ht2 : cs2.toList.take ((l.length + 1) * 3) = thc (l.take i ++ x :: l.drop i) := by
    rw [hc2, hc1, hoff]
    have e1 : cs.toList.take (i * 3) = thc (l.take i) := by
      rw [← thc_take, ← htk, List.take_take, Nat.min_eq_left (by omega)]
    have e0 : (cs.toList.take (0 + (i + 1) * 3)).length = (i + 1) * 3 := by rw [List.length_take, Array.length_toList, hcs]; omega
    have e2 : (List.take (0 + (i + 1) * 3) cs.toList ++ news ++ List.drop (0 + (i + 1) * 3 + news.length) cs.toList).take (0 + i * 3) = thc (l.take i) := by
      rw [List.append_assoc, List.take_append_of_le_length (by rw [e0]; omega), List.take_take, Nat.zero_add, Nat.min_eq_left (by omega), e1]
    have e3 : (List.take (0 + (i + 1) * 3) cs.toList ++ news ++ List.drop (0 + (i + 1) * 3 + news.length) cs.toList).drop (0 + i * 3 + (oneC x).length) = news ++ List.drop (0 + (i + 1) * 3 + news.length) cs.toList := by
      rw [hol, List.append_assoc]
      have : 0 + i * 3 + 1 * 3 = (cs.toList.take (0 + (i + 1) * 3)).length := by rw [e0]; omega
      rw [this, List.drop_left]
    rw [e2, e3, hnews]
    have e4 : thc (l.take i ++ x :: l.drop i) = thc (l.take i) ++ oneC x ++ thc (l.drop i) := by rw [thc_app, thc_cons]; simp [oneC]
    have e5 : (thc (l.take i ++ x :: l.drop i)).length = (l.length + 1) * 3 := by
      rw [thc_len, List.length_append, List.length_cons, List.length_take, List.length_drop]
      congr 1
      omega
    rw [← List.append_assoc, ← e4, ← e5, List.take_left]
  have F : Aside (∃ cs' : Array Value, Blk (W1.setCells g (off + i * 3) (oneC x)) g 62 cs' ∧ cs'.size = cs.size ∧ cs'.toList.take ((l.length + 1) * 3) = thc (l.take i ++ x :: l.drop i) ∧ Mod (Only g) w (W1.setCells g (off + i * 3) (oneC x))) := ⟨cs2, hB2, hs2, ht2, hm2⟩
  rw [← hW1] at hcp1
  have hz2 : ¬ ((i : Int) = (l.length : Int)) := by omega
  have hin : i ≤ l.length := by omega
  have hb2 : ¬ (c = i + 1) := by omega
  have hb4 : ¬ (c = i) := by omega
  have hw1 : IntKind.i64.wrap ((i : Int) + 1) = (i : Int) + 1 := by rw [IntKind.wrap_i64]; omega
  have htn : ((i : Int) + 1).toNat = i + 1 := by omega
  have hb1 : (0 : Int) ≤ (i : Int) + 1 := by omega
  have hb3 : (i : Int) ≤ (l.length : Int) + 1 := by omega
  clear hV1 hB1 hB2 hc1 hc2 hs1 hs2 hm1 hm2 ht2 hV hvb hget hnews hlen h1c h1v hol htk hcs hB hoff hsz hW1
  generalize l.length = n at *
  go_enter Try.func31, Try.ntmps31
  go_wp2_with (simp only [hov])
  go_region_law (refine step_copy_runI rfl _ _ 57 57 rfl _ _ (by simp [Act.eval, Act.put]) (by simp [Act.eval, Act.put]) (hcp1 _ _ _) ?_)
  go_wp2_with (at_builtin; refine wpList_copy_runI _ rfl _ _ 57 57 rfl _ _ rfl rfl (hcp2 _ (fun _ => rfl) (fun _ => rfl) _ _) ?_)
  go_ret
  exact ⟨rfl, F⟩
end Go.Proofs.Ytgmnhjbejofnhaa
