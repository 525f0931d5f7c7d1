/- The document's timers in memory: Put, Copy, Due. Conditions: few things. -/
import Derived.Test.YtgmnhjbejofnhaaTmY
namespace Go.Proofs.Ytgmnhjbejofnhaa
open Go.RowKit Go.Lib

theorem setC_one (l : List (Int × Int)) : ∀ u ∈ setC l, u.oneCell' = true := by
  intro u hu
  unfold setC at hu
  rw [List.mem_flatMap] at hu
  obtain ⟨a, _, ha⟩ := hu
  simp at ha
  rcases ha with rfl | rfl <;> rfl

set_option maxHeartbeats 2000000 in
set_option maxRecDepth 100000 in
theorem copy_x (base x : Nat) (v : Value) (D : List (Int × Int)) (w : World) (h : Rx w base x v D) (hl : D.length ≤ 1000) :
    Calls Try.prog 23 #[At x] w fun e w' => ∃ x' v', e = .returned (At x') ∧ Rx w' w.heap.size x' v' D ∧ Kept w w' := by
  have HX := Lib.hid h
  have h0 := h.cell0
  obtain ⟨A, c, rfl⟩ := h.form
  have hr := Rd.of_own h.row
  have HRD := Lib.hid hr
  have ha0 : (w.alloc (.cells #[] 68)).cell? ⟨x, 0, none⟩ = some (.slice A D.length c) := (h.kept ((Mod.refl _ _).alloc _)).cell0
  have HONE := Lib.hid (setC_one D)
  have hb1 : 0 + D.length ≤ maxLen := by simp only [maxLen]; omega
  have hb2 : (0 + D.length) * 16 ≤ 140737488355328 := by omega
  have HB := Lib.hid (And.intro hb1 hb2)
  clear h hr hb1 hb2
  go_enter Try.func23, Try.ntmps23
  go_wp2_with (at_builtin; refine wpList_append_rd 47 68 2 16 elem_px (.tmp 3) (.tmp 7) rfl rfl w.heap.size _ 0 [] rfl (World.ownsRow_made w #[] 0 (Nat.le_refl _) (Nat.zero_le _) rfl) _ D.length (setC D) rfl (HRD.out.kept ((Mod.refl _ _).alloc _) (fun _ _ e => e)) HONE.out HB.out.1 HB.out.2 (by simp) ?_; intro v1 w1 ho1 hm1 _; obtain ⟨A1, m1, c1, rfl⟩ := own_form3 ho1)
  go_ret
  have hkk : Kept w w1 := Mod.trans ((Mod.refl _ w).alloc _) hm1 (fun k hk e => by have e : some w.heap.size = some k := e; injection e with e; omega)
  refine ⟨w1.heap.size, _, rfl, ⟨Blk.new _ _ _, own_kept (by simpa using ho1) ((Mod.refl _ _).alloc _), fun e => by have := (ho1.lt _ e).2; omega, hkk.size⟩, hkk.alloc _⟩

set_option maxHeartbeats 2000000 in
set_option maxRecDepth 100000 in
theorem put_x (base x : Nat) (v : Value) (D : List (Int × Int)) (id rd : Int) (w : World) (h : Rx w base x v D) (hl : D.length ≤ 1000) :
    Calls Try.prog 24 #[At x, .int .i64 id, .int .i64 rd] w fun e w' => e = .returned (.tuple #[]) ∧ ∃ v', Rx w' base x v' (dropD D id ++ [(id, rd)]) ∧ Mod (Only x) w w' ∧ (∀ k, v'.ownBlock = some k → w.heap.size ≤ k) := by
  have HD := Lib.hid (drop_x base x v D id w h hl)
  have HX := Lib.hid h
  have hfl : (dropD D id).length ≤ D.length := List.length_filter_le _ _
  clear h
  obtain ⟨E, hE⟩ : ∃ E, dropD D id = E := ⟨_, rfl⟩
  rw [hE] at HD hfl ⊢
  go_enter Try.func24, Try.ntmps24
  go_wp2_with fail
  refine HD.out.mono ?_
  rintro e w1 ⟨rfl, v1, h1, hm1, hf1⟩
  obtain ⟨A, c, rfl⟩ := h1.form
  have h0 := h1.cell0
  have hr := Rd.of_own h1.row
  have HRD := Lib.hid hr
  have ha0 : (w1.alloc (.cells #[] 68)).cell? ⟨x, 0, none⟩ = some (.slice A E.length c) := (h1.kept ((Mod.refl _ _).alloc _)).cell0
  have HONE := Lib.hid (setC_one E)
  have hb1 : 0 + E.length ≤ maxLen ∧ 0 + E.length + 1 ≤ maxLen := by simp only [maxLen]; omega
  have hb2 : (0 + E.length) * 16 ≤ 140737488355328 ∧ (0 + E.length + 1) * 16 ≤ 140737488355328 := by omega
  have HB := Lib.hid (And.intro hb1 hb2)
  have H1 := Lib.hid h1
  have HM1 := Lib.hid hm1
  clear h1 hr hb1 hb2 hm1 HD hE
  go_wp2_with (first
    | (at_builtin; refine wpList_append_rd 47 68 2 16 elem_px (.tmp 10) (.tmp 14) rfl rfl w1.heap.size _ 0 [] rfl (World.ownsRow_made w1 #[] 0 (Nat.le_refl _) (Nat.zero_le _) rfl) _ E.length (setC E) rfl (HRD.out.kept ((Mod.refl _ _).alloc _) (fun _ _ e => e)) HONE.out HB.out.1.1 HB.out.2.1 (by simp) ?_; intro v2 w2 ho2 hm2 _; obtain ⟨A2, m2, c2, rfl⟩ := own_form3 ho2; have hk2 : Kept w1 w2 := Mod.trans ((Mod.refl _ w1).alloc _) hm2 (fun k hk e => by have e : some w1.heap.size = some k := e; injection e with e; omega); clear hm2)
    | (refine wpList_pushS 47 68 2 16 19 elem_px (.tmp 18) (.tmp 15) rfl rfl rfl rfl rfl (by simp) (.agg #[.int .i64 id, .int .i64 rd]) rfl rfl (by simp [Value.cells, Value.oneCell']) w1.heap.size _ _ _ rfl ho2 HB.out.1.2 HB.out.2.2 hk2.size ?_; intro g4 c4 w4 ho4 hm4 _; have hk4 : Kept w1 w4 := Mod.trans hk2 hm4 (fun k hk e => by have := (ho2.lt k e).1; omega); have hB4 := (H1.out.kept hk4).blk; have k0 : w4.cell? ⟨x, 0, none⟩ = some _ := hB4.cell 0; have k1 := hB4.frozen 0; clear hk2 hm4 ho2)
    | fail)
  go_end0
  have ho5 : w4.ownsRow w1.heap.size 68 2 (.slice (some ⟨g4, 0, none⟩) (E.length + 1) c4) (E ++ [(id, rd)]).length (setC (E ++ [(id, rd)])) := by
    rw [setC_snoc, List.length_append]
    rw [Nat.zero_add, List.nil_append] at ho4
    exact ho4
  have hxl := HX.out.blk.lt
  have hs1 := HM1.out.size
  have hne : (Value.slice (some ⟨g4, 0, none⟩) (E.length + 1) c4).ownBlock ≠ some x := fun e => by have := (ho5.lt x e).1; omega
  refine ⟨rfl, _, ⟨by simpa using hB4.set_ 0 _, own_setc (own_lower ho5 (Nat.le_trans HX.out.lo (Nat.le_trans (Nat.le_of_lt hxl) hs1))) (p := ⟨x, 0, none⟩) hne _, hne, HX.out.lo⟩, (HM1.out.then (hk4.mono (S' := Only x) fun _ _ e => e.elim)).setCell (p := ⟨x, 0, none⟩) (fun _ => rfl) _, fun k hk => Nat.le_trans hs1 (ho5.lt k hk).1⟩

/-- What the document's Due comes to. -/
inductive DueX (now : Int) : List (Int × Int) → List Int → List (Int × Int) → Prop
  | none {D : List (Int × Int)} : bestO D D.length = none → DueX now D [] D
  | late {D : List (Int × Int)} {b : Nat} : bestO D D.length = some b → now < rdD D b → DueX now D [] D
  | step {D D' : List (Int × Int)} {b : Nat} {o : List Int} : bestO D D.length = some b → rdD D b ≤ now → DueX now (dropD D (((D[b]?).map (·.1)).getD 0)) o D' → DueX now D ((((D[b]?).map (·.1)).getD 0) :: o) D'

def DueXRel (now : Int) (D : List (Int × Int)) (base x : Nat) (v : Value) (w : World) (k : Nat) (s5 : Value) (wr : World) : Prop :=
  ∃ (acc : List Int) (Dc : List (Int × Int)) (vx : Value), Dc.length ≤ k ∧ acc.length + Dc.length ≤ D.length ∧ Rx wr base x vx Dc ∧ wr.ownsRow w.heap.size 3 1 s5 acc.length (ints acc) ∧
    (∀ k, s5.ownBlock = some k → vx.ownBlock ≠ some k) ∧ Mod (Only x) w wr ∧ (∀ k, vx.ownBlock = some k → v.ownBlock = some k ∨ w.heap.size ≤ k) ∧ (∀ o D', DueX now Dc o D' → DueX now D (acc ++ o) D')

set_option maxHeartbeats 2000000 in
set_option maxRecDepth 100000 in
theorem due_x (base x : Nat) (v : Value) (D : List (Int × Int)) (now : Int) (w : World) (h : Rx w base x v D) (hl : D.length ≤ 1000) :
    Calls Try.prog 22 #[At x, .int .i64 now] w fun e w' => ∃ vo o D', e = .returned vo ∧ DueX now D o D' ∧ o.length + D'.length ≤ D.length ∧ w'.ownsRow w.heap.size 3 1 vo o.length (ints o) ∧ ∃ v', Rx w' base x v' D' ∧ Mod (Only x) w w' ∧ (∀ k, v'.ownBlock = some k → v.ownBlock = some k ∨ w.heap.size ≤ k) := by
  have HX := Lib.hid h
  clear h
  go_enter Try.func22, Try.ntmps22
  go_wp2_with fail
  go_loopg [5] D.length (fun k s5 wr => DueXRel now D base x v w k s5 wr)
  case atStart => exact ⟨[], D, v, Nat.le_refl _, by simp, HX.out, World.ownsRow_nil _ _ _ _, fun k e => by simp [Value.ownBlock] at e, Mod.refl _ _, fun k e => .inl e, fun o D' h => h⟩
  case round =>
    obtain ⟨acc, Dc, vx, hk, hlen, hR, ho, hd, hm, hfo, hdx⟩ := hrel
    have HFO := Lib.hid hfo
    clear hfo
    have HR := Lib.hid hR
    have HO := Lib.hid ho
    have HD := Lib.hid hd
    have HM := Lib.hid hm
    have HDX := Lib.hid hdx
    have HN := Lib.hid (next_x base x vx Dc wr hR (by omega))
    have hxl := HX.out.blk.lt
    clear hR ho hd hm hdx
    cases hb : bestO Dc Dc.length with
    | none =>
      have e1 : nextD Dc = .tuple #[.int .i64 0, .int .i64 0, .bool false] := by unfold nextD; rw [hb]
      rw [e1] at HN
      have hfin := HDX.out _ _ (.none hb)
      rw [List.append_nil] at hfin
      have HF := Lib.hid hfin
      clear e1 hb hfin
      go_wp2_with (go_at_call 26; refine HN.out.mono ?_; rintro e w1 ⟨rfl, hm1⟩)
      go_ret
      exact ⟨_, acc, Dc, rfl, HF.out, hlen, own_kept HO.out hm1, vx, HR.out.kept hm1, HM.out.then (hm1.mono fun _ _ e => e.elim), HFO.out⟩
    | some b =>
      have hbl := bestO_lt hb
      obtain ⟨y, hy⟩ : ∃ y, (Dc[b]'hbl) = y := ⟨_, rfl⟩
      have hrd : rdD Dc b = y.2 := by rw [rdD_at hbl, hy]
      have hid : (((Dc[b]?).map (·.1)).getD 0) = y.1 := by rw [List.getElem?_eq_getElem hbl, hy]; rfl
      have e1 : nextD Dc = .tuple #[.int .i64 y.1, .int .i64 y.2, .bool true] := by
        unfold nextD
        rw [hb]
        simp only
        rw [hid, hrd]
      rw [e1] at HN
      by_cases hn : now < y.2
      · have d1 : decide (now < y.2) = true := decide_eq_true hn
        have hfin := HDX.out _ _ (.late hb (by rw [hrd]; exact hn))
        rw [List.append_nil] at hfin
        have HF := Lib.hid hfin
        clear e1 hb hfin hrd hid hy
        go_wp2_with (go_at_call 26; refine HN.out.mono ?_; rintro e w1 ⟨rfl, hm1⟩)
        go_ret
        exact ⟨_, acc, Dc, rfl, HF.out, hlen, own_kept HO.out hm1, vx, HR.out.kept hm1, HM.out.then (hm1.mono fun _ _ e => e.elim), HFO.out⟩
      · have d1 : decide (now < y.2) = false := decide_eq_false hn
        have hst : ∀ o D', DueX now (dropD Dc y.1) o D' → DueX now D (acc ++ [y.1] ++ o) D' := fun o D' h => by
          rw [List.append_assoc]
          refine HDX.out _ _ ?_
          have := DueX.step (now := now) hb (by rw [hrd]; omega) (o := o) (D' := D') (by rw [hid]; exact h)
          rw [hid] at this
          exact this
        have hsh : (dropD Dc y.1).length < Dc.length := by
          unfold dropD
          rw [List.length_filter_lt_length_iff_exists]
          exact ⟨y, by rw [← hy]; exact List.getElem_mem hbl, by simp⟩
        have HST := Lib.hid (And.intro hst hsh)
        clear e1 hb hrd hid hy hst hsh hn
        go_wp2_with (first
          | (go_at_call 26; refine HN.out.mono ?_; rintro e w1 ⟨rfl, hm1⟩; have ho1 := own_kept HO.out hm1; have hR1 := HR.out.kept hm1; have hM1 : Mod (Only x) w w1 := HM.out.then (hm1.mono fun _ _ e => e.elim); have hsz1 := hM1.size)
          | (refine wpList_pushS 26 3 1 8 25 elem_int (.tmp 24) (.tmp 23) rfl rfl rfl rfl rfl (by simp) (.int .i64 y.1) rfl rfl (by simp [Value.cells, Value.oneCell']) w.heap.size _ _ _ rfl ho1 (by unfold maxLen; omega) (by omega) hsz1 ?_; intro g4 c4 w4 ho4 hm4 hg4; have hR4 := hR1.mod hm4 (fun k hk e => hk.elim (fun h => by have := (ho1.lt _ e).1; omega) (fun h => HD.out k e h)); have hM4 : Mod (Only x) w w4 := Mod.trans hM1 hm4 (fun i hi e => by have := (ho1.lt i e).1; omega))
          | (go_at_call 21; refine (drop_x base x vx Dc y.1 _ hR4 (by omega)).mono ?_; rintro e w5 ⟨rfl, v5, hR5, hm5, hf5⟩)
          | fail)
        have ho5 : w5.ownsRow w.heap.size 3 1 (.slice (some ⟨g4, 0, none⟩) (acc.length + 1) c4) (acc ++ [y.1]).length (ints (acc ++ [y.1])) := by
          have h5 := own_mod ho4 hm5 (fun k hk e => by have h1 := (ho4.lt k hk).1; have e : k = x := e; omega)
          have e2 : ints (acc ++ [y.1]) = ints acc ++ [.int .i64 y.1] := by simp [ints]
          rw [e2, List.length_append]
          exact h5
        have hlt4 := fun k hk => (ho4.lt k hk).2
        go_roundg (gk - 1)
        case measure => have := HST.out.2; omega
        case rel =>
          refine ⟨acc ++ [y.1], dropD Dc y.1, v5, by have := HST.out.2; omega, by have := HST.out.2; rw [List.length_append]; simp only [List.length_cons, List.length_nil]; omega, hR5, ho5, fun k hk e => ?_, hM4.then hm5, fun k hk => .inr (Nat.le_trans hM4.size (hf5 k hk)), HST.out.1⟩
          have h1 := hlt4 k hk
          have h2 := hf5 k e
          omega
end Go.Proofs.Ytgmnhjbejofnhaa
