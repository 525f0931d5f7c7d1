/- slices.Insert of one thing in the midst of a row of things, where there is no room; and Insert as a whole. Conditions: the place is one of the row; the row is short. -/
import Derived.Test.YtgmnhjbejofnhaaTmN
namespace Go.Proofs.Ytgmnhjbejofnhaa
open Go.RowKit Go.Lib

set_option maxHeartbeats 4000000 in
set_option maxRecDepth 100000 in
theorem insert_grow (g off c i vb : Nat) (l : List Th) (x : Th) (cs : Array Value) (w : World) (hB : Blk w g 62 cs) (hoff : off = 0) (hnc : l.length ≤ c) (hroom : c < l.length + 1) (htk : cs.toList.take (l.length * 3) = thc l) (hi : i < l.length)
    (hV : Blk w vb 62 #[.int .i64 x.id, .int .i64 x.no, .int .i64 x.rd]) (hll : l.length ≤ 100000) :
    Calls Try.prog 31 #[.slice (some ⟨g, off, none⟩) l.length c, .int .i64 i, .slice (some ⟨vb, 0, none⟩) 1 1] w fun e w' => ∃ G, e = .returned (.slice (some ⟨w.heap.size, 0, none⟩) (l.length + 1) G) ∧ l.length + 1 ≤ G ∧ G ≤ maxLen ∧
      ∃ cs' : Array Value, Blk w' w.heap.size 62 cs' ∧ cs'.size = G * 3 ∧ cs'.toList.take ((l.length + 1) * 3) = thc (l.take i ++ x :: l.drop i) ∧ Kept w w' := by
  have hsz : (Try.prog.info? 62).map (·.size) = some 3 := by kernel_rfl
  obtain ⟨i0, z0, hi0, hz0, hz1, hzb, hzc⟩ := elem_th.parts
  obtain ⟨news, hnews⟩ : ∃ news, news = thc (l.drop i) := ⟨_, rfl⟩
  have hlen : news.length = (l.length - i) * 3 := by rw [hnews, thc_len, List.length_drop]
  have hcell : ∀ t u, (thc l)[t]? = some u → w.cell? ⟨g, t, none⟩ = some u := by
    intro t u hu
    rw [← htk, List.getElem?_take] at hu
    split at hu
    · rw [hB.cell]; simpa using hu
    · cases hu
  have hget : ∀ t u, news[t]? = some u → w.cell? ⟨g, i * 3 + t, none⟩ = some u := by
    intro t u hu
    rw [hnews, ← thc_drop, List.getElem?_drop] at hu
    exact hcell _ u hu
  have h1c : ∀ u ∈ news, u.oneCell' = true := by rw [hnews]; exact thc_one _
  have h1v : ∀ u ∈ oneC x, u.oneCell' = true := by rw [← thc_single]; exact thc_one _
  have hgw := hB.lt
  have hvw := hV.lt
  have hfl : (thc (l.take i)).length = i * 3 := by rw [thc_len, List.length_take]; omega
  have hold : (Builtin.firstCells i0.size i (.slice (some ⟨g, off, none⟩) i c)).run Try.prog w.drew = .ok (thc (l.take i)).toArray w.drew := by
    rw [hz1]
    exact run_firstCells_some w.drew 3 i ⟨g, off, none⟩ i c (thc (l.take i)) hfl (fun j v hj => by
      rw [Addr.add_lit, hoff, Nat.zero_add]
      rw [← thc_take, List.getElem?_take] at hj
      split at hj
      · exact hcell j v hj
      · cases hj)
  have hik : i + (l.length + 1 - i) = l.length + 1 := by omega
  have hkk : (l.length : Int) + 1 - (i : Int) = ((l.length + 1 - i : Nat) : Int) := by omega
  have hrz : ∀ ty, (Builtin.append_ #[57, 3] ty #[.slice (some ⟨g, off, none⟩) i c, .int .i64 ((l.length : Int) + 1 - (i : Int))]).run Try.prog w =
      .ok (.slice (some ⟨w.heap.size, 0, none⟩) (l.length + 1) (grownCap w (l.length + 1) c 62)) (w.drew.alloc (.cells ((thc (l.take i)).toArray ++ Builtin.zeroCells z0.cells (l.length + 1 - i) ++ Builtin.zeroCells z0.cells (grownCap w (l.length + 1) c 62 - (l.length + 1))) 62)) := fun ty => by
    have h := Lib.run_append_grow_zeros w 57 3 ty 62 i0 z0 .i64 .i64 Try.underlying57 Try.underlying3 hi0 hz0 (some ⟨g, off, none⟩) i c (thc (l.take i)) hold (l.length + 1 - i) (by omega) (by omega) (by omega) (by omega) (by rw [hzb]; omega) (by rw [hzb, hik]; exact growslice_fits hroom (by omega))
    rw [hik] at h
    rw [hkk]
    exact h
  have hGn : l.length + 1 ≤ grownCap w (l.length + 1) c 62 := grownCap_ge w _ _ _
  have hGm : grownCap w (l.length + 1) c 62 ≤ maxLen := grownCap_le_maxLen w (l.length + 1) c 62 (by unfold maxLen; omega)
  obtain ⟨G, hG⟩ : ∃ G, G = grownCap w (l.length + 1) c 62 := ⟨_, rfl⟩
  obtain ⟨ROW, hROW⟩ : ∃ ROW : Array Value, ROW = (thc (l.take i)).toArray ++ Builtin.zeroCells z0.cells (l.length + 1 - i) ++ Builtin.zeroCells z0.cells (G - (l.length + 1)) := ⟨_, rfl⟩
  rw [← hG] at hrz hGn hGm
  rw [← hROW] at hrz
  have hRs : ROW.size = G * 3 := by
    rw [hROW]
    simp only [Array.size_append, List.size_toArray, hfl, size_zeroCells, hzc]
    omega
  have hRt : ROW.toList.take (i * 3) = thc (l.take i) := by
    rw [hROW, Array.toList_append, Array.toList_append, List.append_assoc, ← hfl, List.take_left]
  obtain ⟨W1, hW1⟩ : ∃ W1, W1 = w.drew.alloc (.cells ROW 62) := ⟨_, rfl⟩
  rw [← hW1] at hrz
  have hB1 : Blk W1 w.heap.size 62 ROW := by rw [hW1]; exact Blk.new w.drew _ _
  have hk1 : Kept w W1 := by rw [hW1]; exact ((Mod.refl _ _).drew).alloc _
  have hV1 : Blk W1 vb 62 #[.int .i64 x.id, .int .i64 x.no, .int .i64 x.rd] := hV.mod hk1 (fun e => e)
  have hol : (oneC x).length = 1 * 3 := rfl
  have hcpA : ∀ (W : World), (∀ p, W.cell? p = W1.cell? p) → (∀ p, W.frozen? p = W1.frozen? p) → ∀ ty dc, (Builtin.copy_ #[57, 57] ty #[.slice (some ⟨w.heap.size, i * 3, none⟩) (l.length + 1 - i) dc, .slice (some ⟨vb, 0, none⟩) 1 1]).run Try.prog W = .ok (goInt (1 : Nat)) (W.setCells w.heap.size (i * 3) (oneC x)) := fun W hWc hWf ty dc =>
    run_copy_big W _ _ ty 62 w.heap.size (i * 3) (l.length + 1 - i) dc ⟨vb, 0, none⟩ 1 1 (oneC x) 3 1 Try.underlying57 hsz (by simp only [Nat.min_def]; split <;> omega) hol
      (fun j v hj => by
        rw [Addr.add_lit, hWc, Nat.zero_add, hV1.cell, ← Array.getElem?_toList]
        exact hj)
      (fun j hj => by rw [hWc]; exact hB1.some (by rw [hRs]; rw [hol] at hj; omega)) (fun j hj => by rw [hWf]; exact hB1.frozen _) h1v
  obtain ⟨cs2, hB2, hc2⟩ := hB1.setCells (i * 3) (oneC x) (by rw [hol, hRs]; omega)
  have hs2 : cs2.size = G * 3 := by
    have := congrArg List.length hc2
    simp only [Array.length_toList, List.length_append, List.length_take, List.length_drop, hol] at this
    rw [hRs] at this
    omega
  have hgN : ¬ Only w.heap.size g := fun e => by have e : g = w.heap.size := e; omega
  have hm2 : Mod (Only w.heap.size) W1 (W1.setCells w.heap.size (i * 3) (oneC x)) := mod_setCells _ _ _ (Mod.refl _ _) (fun _ => rfl)
  have hcpB : ∀ (W : World), (∀ p, W.cell? p = (W1.setCells w.heap.size (i * 3) (oneC x)).cell? p) → (∀ p, W.frozen? p = (W1.setCells w.heap.size (i * 3) (oneC x)).frozen? p) → ∀ ty dc sc, (Builtin.copy_ #[57, 57] ty #[.slice (some ⟨w.heap.size, (i + 1) * 3, none⟩) (l.length - i) dc, .slice (some ⟨g, off + i * 3, none⟩) (l.length - i) sc]).run Try.prog W = .ok (goInt (l.length - i : Nat)) (W.setCells w.heap.size ((i + 1) * 3) news) := fun W hWc hWf ty dc sc =>
    run_copy_big W _ _ ty 62 w.heap.size ((i + 1) * 3) (l.length - i) dc ⟨g, off + i * 3, none⟩ (l.length - i) sc news 3 (l.length - i) Try.underlying57 hsz (by simp only [Nat.min_def]; split <;> omega) hlen
      (fun j v hj => by
        rw [Addr.add_lit, hWc, hoff, Nat.zero_add, hm2.cell (p := ⟨g, i * 3 + j, none⟩) (Nat.lt_of_lt_of_le hgw hk1.size) hgN, hk1.cell (p := ⟨g, i * 3 + j, none⟩) hgw (fun e => e)]
        exact hget j v hj)
      (fun j hj => by rw [hWc]; exact hB2.some (by rw [hs2]; rw [hlen] at hj; omega)) (fun j hj => by rw [hWf]; exact hB2.frozen _) h1c
  have hB1' : Blk ((w.alloc (.cells ROW 62)).drew) w.heap.size 62 ROW := Blk.new w _ _
  obtain ⟨cs3, hB3, hc3⟩ := hB1'.setCells (i * 3) (oneC x) (by rw [hol, hRs]; omega)
  have hs3 : cs3.size = G * 3 := by
    have := congrArg List.length hc3
    simp only [Array.length_toList, List.length_append, List.length_take, List.length_drop, hol] at this
    rw [hRs] at this
    omega
  obtain ⟨cs4, hB4, hc4⟩ := (Blk.drew hB3).setCells ((i + 1) * 3) news (by rw [hlen, hs3]; omega)
  have hs4 : cs4.size = G * 3 := by
    have := congrArg List.length hc4
    simp only [Array.length_toList, List.length_append, List.length_take, List.length_drop, hlen] at this
    rw [hs3] at this
    omega
  have hk4 : Kept w ((((w.alloc (.cells ROW 62)).drew.setCells w.heap.size (i * 3) (oneC x)).drew).setCells w.heap.size ((i + 1) * 3) news) :=
    mod_setCells _ _ _ (Mod.drew (mod_setCells _ _ _ (Mod.drew ((Mod.refl _ _).alloc _)) (fun h => absurd h (Nat.lt_irrefl _)))) (fun h => absurd h (Nat.lt_irrefl _))
  have ht4 : cs4.toList.take ((l.length + 1) * 3) = thc (l.take i ++ x :: l.drop i) := by
    have e2 : cs3.toList.take ((i + 1) * 3) = thc (l.take i) ++ oneC x := by
      rw [hc3, hRt]
      have : (i + 1) * 3 = (thc (l.take i) ++ oneC x).length := by rw [List.length_append, hfl, hol]; omega
      rw [this, List.take_left]
    have e4 : thc (l.take i ++ x :: l.drop i) = thc (l.take i) ++ oneC x ++ thc (l.drop i) := by rw [thc_app, thc_cons]; simp [oneC]
    have e5 : (thc (l.take i ++ x :: l.drop i)).length = (l.length + 1) * 3 := by
      rw [thc_len, List.length_append, List.length_cons, List.length_take, List.length_drop]
      congr 1
      omega
    rw [hc4, e2, hnews, ← e4, ← e5, List.take_left]
  have F : Aside (l.length + 1 ≤ G ∧ G ≤ maxLen ∧ ∃ cs' : Array Value, Blk ((((w.alloc (.cells ROW 62)).drew.setCells w.heap.size (i * 3) (oneC x)).drew).setCells w.heap.size ((i + 1) * 3) news) w.heap.size 62 cs' ∧ cs'.size = G * 3 ∧ cs'.toList.take ((l.length + 1) * 3) = thc (l.take i ++ x :: l.drop i) ∧ Kept w ((((w.alloc (.cells ROW 62)).drew.setCells w.heap.size (i * 3) (oneC x)).drew).setCells w.heap.size ((i + 1) * 3) news)) := ⟨hGn, hGm, cs4, hB4, hs4, ht4, hk4⟩
  subst hW1
  have hE1 : ∀ p, ((w.alloc (.cells ROW 62)).drew).cell? p = (w.drew.alloc (.cells ROW 62)).cell? p := fun _ => rfl
  have hE2 : ∀ p, ((w.alloc (.cells ROW 62)).drew).frozen? p = (w.drew.alloc (.cells ROW 62)).frozen? p := fun _ => rfl
  have hF1 : ∀ p, (((w.alloc (.cells ROW 62)).drew.setCells w.heap.size (i * 3) (oneC x)).drew).cell? p = ((w.drew.alloc (.cells ROW 62)).setCells w.heap.size (i * 3) (oneC x)).cell? p := fun _ => rfl
  have hF2 : ∀ p, (((w.alloc (.cells ROW 62)).drew.setCells w.heap.size (i * 3) (oneC x)).drew).frozen? p = ((w.drew.alloc (.cells ROW 62)).setCells w.heap.size (i * 3) (oneC x)).frozen? p := fun _ => rfl
  have hz2 : ¬ ((i : Int) = (l.length : Int)) := by omega
  have hz3 : (c : Int) < (l.length : Int) + 1 := by omega
  have hin : i ≤ l.length := by omega
  have hG63 : G ≤ 9223372036854775807 := by unfold maxLen at hGm; omega
  have hGi : ¬ (G = i) := by omega
  have hGim : ¬ (G = i + 1) := by omega
  have hci : ¬ (c = i) := by omega
  have hw1 : IntKind.i64.wrap ((i : Int) + 1) = (i : Int) + 1 := by rw [IntKind.wrap_i64]; omega
  have htn : ((i : Int) + 1).toNat = i + 1 := by omega
  have hb1 : (0 : Int) ≤ (i : Int) + 1 := by omega
  have hc63 : c ≤ 9223372036854775807 := by omega
  clear hV1 hB1 hB2 hB3 hB4 hB1' hc2 hc3 hc4 hs2 hs3 hs4 hk1 hk4 hm2 ht4 hV hget hcell hnews hlen h1c h1v hol htk hB hoff hsz hG hROW hRs hRt hfl hold hkk hik hGm hgN
  generalize l.length = n at *
  go_enter Try.func31, Try.ntmps31
  go_wp2_with (first
    | (at_builtin; refine Lib.wpList_append_run _ rfl _ _ _ _ rfl _ _ rfl rfl _ _ (hrz _) ?_)
    | (at_builtin; refine wpList_copy_runI _ rfl _ _ 57 57 rfl _ _ rfl rfl (hcpA _ hE1 hE2 _ _) ?_)
    | fail)
  go_region_law (refine step_copy_runI rfl _ _ 57 57 rfl (.slice (some ⟨w.heap.size, (i + 1) * 3, none⟩) (n - i) (G - (i + 1))) (.slice (some ⟨g, off + i * 3, none⟩) (n - i) (c - i)) (by simp [Act.eval, Act.put]) (by simp [Act.eval, Act.put]) (hcpB _ hF1 hF2 3 (G - (i + 1)) (c - i)) ?_)
  go_wp2
  go_ret
  exact ⟨G, rfl, F⟩

theorem insert_c (base : Nat) (v : Value) (l : List Th) (x : Th) (i vb : Nat) (w : World) (h : w.ownsRow base 62 3 v l.length (thc l)) (hi : i ≤ l.length) (hV : Blk w vb 62 #[.int .i64 x.id, .int .i64 x.no, .int .i64 x.rd]) (hvb : v.ownBlock ≠ some vb) (hl : l.length ≤ 100000) (hb : base ≤ w.heap.size) :
    Calls Try.prog 31 #[v, .int .i64 i, .slice (some ⟨vb, 0, none⟩) 1 1] w fun e w' => ∃ v', e = .returned v' ∧ w'.ownsRow base 62 3 v' (l.take i ++ x :: l.drop i).length (thc (l.take i ++ x :: l.drop i)) ∧
      Mod (fun k => v.ownBlock = some k) w w' ∧ (∀ k, v'.ownBlock = some k → v.ownBlock = some k ∨ w.heap.size ≤ k) := by
  obtain ⟨A, c, rfl⟩ := own_form h
  have hlen : (l.take i ++ x :: l.drop i).length = l.length + 1 := by rw [List.length_append, List.length_cons, List.length_take, List.length_drop]; omega
  have hform : (A = none ∨ ∃ g, A = some ⟨g, 0, none⟩) ∧ l.length ≤ c ∧ c ≤ maxLen := by
    cases A with
    | none => obtain ⟨h0, h1, _⟩ := own_none h; exact ⟨.inl rfl, by omega, by rw [h1]; exact Nat.zero_le _⟩
    | some a =>
      obtain ⟨g, o, s⟩ := a
      obtain ⟨rfl, rfl, _, hn, hm, _⟩ := own_blk h
      exact ⟨.inr ⟨g, rfl⟩, hn, hm⟩
  have hc63 : c ≤ 9223372036854775807 := by have := hform.2.2; simp only [maxLen] at this; omega
  rcases Nat.lt_or_ge i l.length with hlt | hge
  · cases A with
    | none =>
      obtain ⟨h0, _⟩ := own_none h
      omega
    | some a =>
      obtain ⟨g, o, s⟩ := a
      obtain ⟨rfl, rfl, hbg, hn, hm, hx, cs, hB, hcs, htk⟩ := own_blk h
      have hne : vb ≠ g := fun e => hvb (by rw [e]; rfl)
      rcases Nat.lt_or_ge c (l.length + 1) with hroom | hroom
      · refine (insert_grow g 0 c i vb l x cs w hB rfl hn hroom htk hlt hV hl).mono ?_
        rintro e w' ⟨G, rfl, h1, h2, cs', hB', hs', ht', hk⟩
        refine ⟨_, rfl, ?_, hk.mono (fun _ _ e => e.elim), fun k hk => .inr ?_⟩
        · rw [hlen, ← ht']
          exact blk_own hB' hb h1 h2 hs'
        · have hk : some w.heap.size = some k := hk
          injection hk with hk
          omega
      · refine (insert_shift g 0 c i vb l x cs w hB rfl hcs hroom hc63 htk hlt hV hne).mono ?_
        rintro e w' ⟨rfl, cs', hB', hs', ht', hm'⟩
        refine ⟨_, rfl, ?_, hm'.mono (fun k _ hk => by have hk : k = g := hk; rw [hk]; rfl), fun k hk => .inl hk⟩
        rw [hlen, ← ht']
        exact blk_own hB' hbg hroom hm (by rw [hs', hcs])
  · obtain rfl : i = l.length := by omega
    have hX : Rd w 3 (.slice (some ⟨vb, 0, none⟩) 1 1) 1 (oneC x) := ⟨rfl, _, _, rfl, fun _ => ⟨vb, 0, rfl, hV.lt, fun j u hu => by
      rw [hV.cell, Nat.zero_add, ← Array.getElem?_toList]
      exact hu⟩⟩
    refine (insert_end base A c l x vb w h hX hl hb hform.1).mono ?_
    rintro e w' ⟨v', rfl, ho, hm, hat⟩
    refine ⟨v', rfl, ?_, hm, hat⟩
    rw [hlen, List.take_length, List.drop_length, thc_app, thc_single]
    exact ho
end Go.Proofs.Ytgmnhjbejofnhaa
