/- Put: a thing goes in behind all that are due no later. Conditions: few things; each number once. -/
import Derived.Test.YtgmnhjbejofnhaaTmT
import Derived.Deep.RegionHeld3
namespace Go.Proofs.Ytgmnhjbejofnhaa
open Go.RowKit Go.Lib

theorem drop_c (base g : Nat) (v : Value) (l : List Th) (n id : Int) (w : World) (h : Tm w base g v l n) (hu : Uni l) :
    Calls Try.prog 18 #[At g, .int .i64 id] w fun e w' => e = .returned (.bool (findT l id).isSome) ∧ ∃ v', Tm w' base g v' (dropT l id) n ∧ Mod (Fp g v) w w' ∧ v'.ownBlock = v.ownBlock := by
  cases hf : findT l id with
  | none =>
    refine (drop_none base g v l n id w h hf).mono ?_
    rintro e w' ⟨rfl, hm⟩
    exact ⟨rfl, v, by rw [dropT_none hf]; exact h.kept hm, hm.mono fun _ _ e => e.elim, rfl⟩
  | some k =>
    refine (drop_some base g v l n id w h hu k hf).mono ?_
    rintro e w' ⟨rfl, h'⟩
    exact ⟨rfl, h'⟩

def Thg (w : World) (q : Nat) (x : Th) : Prop := Blk w q 62 #[.int .i64 x.id, .int .i64 x.no, .int .i64 x.rd]

set_option maxHeartbeats 1000000 in
theorem put_nil (id rd : Int) (w : World) :
    Calls Try.prog 17 #[.pointer none, .int .i64 id, .int .i64 rd] w fun e w' => e = .returned (.int .i64 2) ∧ w = w' := by
  go_enter Try.func17, Try.ntmps17
  go_wp2
  go_ret
  exact ⟨rfl, rfl⟩

theorem posT_ahead {x : Th} {l : List Th} {j : Nat} (h : j < l.length) (ha : aheadT x l[j] = true) : posT x l (j + 1) = posT x l j := by
  unfold posT
  rw [List.getElem?_eq_getElem h]
  simp only [ha, if_true]
  cases j <;> rfl
theorem posT_stay {x : Th} {l : List Th} {j : Nat} (h : j < l.length) (ha : aheadT x l[j] = false) : posT x l (j + 1) = j + 1 := by
  conv => lhs; unfold posT
  rw [List.getElem?_eq_getElem h]
  simp [ha]

theorem own_form3 {w : World} {base e size n : Nat} {v : Value} {xs : List Value} (h : w.ownsRow base e size v n xs) : ∃ A m c, v = .slice A m c := by
  obtain ⟨A, c, h⟩ := own_form h
  exact ⟨A, _, c, h⟩
theorem ins_at {base g : Nat} {v1 : Value} {l1 : List Th} {m : Int} {w3 : World} (hT : Tm w3 base g v1 l1 m) (x : Th) (hl : l1.length ≤ 100000) (p : Nat) (hp : p ≤ l1.length) (wr : World) (hk : Kept w3 wr) :
    ∀ nq, Calls Try.prog 31 #[v1, .int .i64 p, .slice (some ⟨wr.heap.size, 0, none⟩) 1 1] ((wr.drewN nq).alloc (.cells #[.int .i64 x.id, .int .i64 x.no, .int .i64 x.rd] 62)) fun e w' =>
      ∃ v', e = .returned v' ∧ w'.ownsRow base 62 3 v' (l1.take p ++ x :: l1.drop p).length (thc (l1.take p ++ x :: l1.drop p)) ∧ (Blk w' g 59 #[v1, .int .i64 m]) ∧ v'.ownBlock ≠ some g ∧ Mod (fun k => v1.ownBlock = some k) w3 w' ∧ (∀ k, v'.ownBlock = some k → v1.ownBlock = some k ∨ w3.heap.size ≤ k) := by
  intro nq
  have hkr : Kept w3 ((wr.drewN nq).alloc (.cells #[.int .i64 x.id, .int .i64 x.no, .int .i64 x.rd] 62)) := (hk.drewN nq).alloc _
  have hT' := hT.kept hkr
  have hlo := hT.lo
  have hg := hT.blk.lt
  have hsz := hk.size
  refine (insert_c base v1 l1 x p wr.heap.size _ hT'.row hp (Blk.new (wr.drewN nq) _ _) (fun e => ?_) hl (Nat.le_trans hlo (Nat.le_of_lt hT'.blk.lt))).mono ?_
  · have := (hT.lt wr.heap.size (.inr e)).2
    omega
  · rintro e w' ⟨v', rfl, ho, hm, hf⟩
    have hm3 : Mod (fun k => v1.ownBlock = some k) w3 w' := (hkr.mono (S' := fun k => v1.ownBlock = some k) fun _ _ e => e.elim).then hm
    have hf3 : ∀ k, v'.ownBlock = some k → v1.ownBlock = some k ∨ w3.heap.size ≤ k := fun k hk' => (hf k hk').imp id fun h => Nat.le_trans hkr.size h
    refine ⟨v', rfl, ho, hT.blk.mod hm3 hT.ne, fun e => ?_, hm3, hf3⟩
    rcases hf3 g e with h | h
    · exact hT.ne h
    · omega
theorem put_end {base g : Nat} {v v1 v5 : Value} {l1 l5 : List Th} {m : Int} {w w3 w5 : World} (hT : Tm w3 base g v1 l1 m) (hm : Mod (Fp g v) w w3) (hv : v1.ownBlock = v.ownBlock)
    (ho : w5.ownsRow base 62 3 v5 l5.length (thc l5)) (hB : Blk w5 g 59 #[v1, .int .i64 m]) (hne : v5.ownBlock ≠ some g) (hm5 : Mod (fun k => v1.ownBlock = some k) w3 w5) (hf : ∀ k, v5.ownBlock = some k → v1.ownBlock = some k ∨ w3.heap.size ≤ k) :
    ∃ v', Tm (w5.setCell ⟨g, 0, none⟩ v5) base g v' l5 m ∧ Mod (Fp g v) w (w5.setCell ⟨g, 0, none⟩ v5) ∧ (∀ k, Fp g v' k → Fp g v k ∨ w.heap.size ≤ k) := by
  refine ⟨v5, ⟨by simpa using hB.set_ 0 v5, own_setc ho (p := ⟨g, 0, none⟩) hne _, hne, hT.lo⟩, (hm.then (hm5.mono fun k _ hk => .inr (by rw [← hv]; exact hk))).setCell (p := ⟨g, 0, none⟩) (fun _ => .inl rfl) _, fun k hk => ?_⟩
  rcases hk with rfl | hk
  · exact .inl (.inl rfl)
  · rcases hf k hk with h | h
    · exact .inl (.inr (by rw [← hv]; exact h))
    · exact .inr (Nat.le_trans hm.size h)

set_option maxHeartbeats 4000000 in
set_option maxRecDepth 100000 in
theorem put_c (base g : Nat) (v : Value) (l : List Th) (n id rd : Int) (w : World) (h : Tm w base g v l n) (hu : Uni l) (hn : 0 ≤ n ∧ n ≤ 1000000) (hl : l.length ≤ 90000) :
    Calls Try.prog 17 #[At g, .int .i64 id, .int .i64 rd] w fun e w' => e = .returned (.int .i64 0) ∧ ∃ v', Tm w' base g v' (putT l n id rd) (n + 1) ∧ Mod (Fp g v) w w' ∧ (∀ k, Fp g v' k → Fp g v k ∨ w.heap.size ≤ k) := by
  have HD := Lib.hid (drop_c base g v l n id w h hu)
  have hw1 : IntKind.i64.wrap (n + 1) = n + 1 := by rw [IntKind.wrap_i64]; omega
  have hbs : base ≤ w.heap.size := Nat.le_trans h.lo (Nat.le_of_lt h.blk.lt)
  have HBS := Lib.hid hbs
  have hdl := dropT_len l id
  have hgl := h.blk.lt
  have HGL := Lib.hid hgl
  have HFW := Lib.hid h.lt
  obtain ⟨l1, hl1⟩ : ∃ l1, l1 = dropT l id := ⟨_, rfl⟩
  have HL1 := Lib.hid hl1
  rw [← hl1] at hdl
  clear h hu hbs hgl hl1
  go_enter Try.func17, Try.ntmps17
  go_wp2_with fail
  refine HD.out.mono ?_
  rintro e w1 ⟨rfl, v1, hT1, hm1, hv1⟩
  rw [← HL1.out] at hT1
  obtain ⟨A1, c1, rfl⟩ := hT1.form
  have h0 := hT1.cell0
  have h1 := hT1.cell1
  have h2 := hT1.blk.frozen 1
  have HT1 := Lib.hid hT1
  have HM1 := Lib.hid hm1
  have HV1 := Lib.hid hv1
  have hT2 : Tm (w1.setCell ⟨g, 1, none⟩ (.int .i64 (n + 1))) base g (.slice A1 l1.length c1) l1 (n + 1) :=
    ⟨by simpa using hT1.blk.set_ 1 (.int .i64 (n + 1)), own_setc hT1.row (p := ⟨g, 1, none⟩) hT1.ne _, hT1.ne, hT1.lo⟩
  have hT3 := hT2.kept ((Mod.refl _ _).alloc (.cells #[.int .i64 id, .int .i64 (n + 1), .int .i64 rd] 62))
  have h3 := hT3.cell0
  have hG3 : Thg ((w1.setCell ⟨g, 1, none⟩ (.int .i64 (n + 1))).alloc (.cells #[.int .i64 id, .int .i64 (n + 1), .int .i64 rd] 62)) w1.heap.size ⟨id, n + 1, rd⟩ := by
    have hs : (w1.setCell ⟨g, 1, none⟩ (.int .i64 (n + 1))).heap.size = w1.heap.size := by simp [World.setCell]
    rw [← hs]
    exact Blk.new _ _ _
  have hM3 : Mod (Fp g v) w ((w1.setCell ⟨g, 1, none⟩ (.int .i64 (n + 1))).alloc (.cells #[.int .i64 id, .int .i64 (n + 1), .int .i64 rd] 62)) := (hm1.setCell (p := ⟨g, 1, none⟩) (fun _ => .inl rfl) _).alloc _
  have HT3 := Lib.hid hT3
  have HG3 := Lib.hid hG3
  have HM3 := Lib.hid hM3
  have hs1 := hm1.size
  have HS1 := Lib.hid hs1
  clear hT1 hm1 hv1 HD hT2 hT3 hG3 hM3 hs1
  go_wp2_with fail
  refine at_world (P := Code.wp _ _ _ _) (fun w' => Tm w' base g (.slice A1 l1.length c1) l1 (n + 1) ∧ Thg w' w1.heap.size ⟨id, n + 1, rd⟩ ∧ Mod (Fp g v) w w') ⟨HT3.out, HG3.out, HM3.out⟩ ?_
  rintro w3 ⟨hT, hG, hM⟩
  have hq1 : w.heap.size ≤ w1.heap.size := HS1.out
  clear HT3 HG3 HM3 h0 h1 h2 h3 HT1 HM1 HS1
  generalize w1.heap.size = q at *
  have HT := Lib.hid hT
  have HG := Lib.hid hG
  have HM := Lib.hid hM
  clear hT hG hM
  go_loopg [8] l1.length (fun gk s8 wr => ∃ j : Nat, s8 = .int .i64 j ∧ j ≤ gk ∧ j ≤ l1.length ∧ Aside (posT ⟨id, n + 1, rd⟩ l1 l1.length = posT ⟨id, n + 1, rd⟩ l1 j) ∧ Aside (Kept w3 wr))
  case atStart => exact ⟨l1.length, rfl, Nat.le_refl _, Nat.le_refl _, rfl, Mod.refl _ _⟩
  case round =>
    obtain ⟨j, rfl, hj1, hj2, PO, KW⟩ := hrel
    cases j with
    | zero =>
      have d0 : decide ((0 : Int) < ((0 : Nat) : Int)) = false := by simp
      have hE : putT l n id rd = l1.take 0 ++ ⟨id, n + 1, rd⟩ :: l1.drop 0 := by unfold putT insT; rw [← HL1.out, PO.out]; rfl
      have HE := Lib.hid hE
      clear hE
      go_wp2_with fail
      go_quiet (fail)
      go_wp2_with fail
      have hKT := HT.out.kept KW.out
      have h0 := hKT.cell0
      have g0 := HG.out.mod KW.out (fun e => e)
      obtain ⟨e1, e2, e3⟩ : wr.cell? ⟨q, 0, none⟩ = some (.int .i64 id) ∧ wr.cell? ⟨q, 1, none⟩ = some (.int .i64 (n + 1)) ∧ wr.cell? ⟨q, 2, none⟩ = some (.int .i64 rd) := ⟨g0.cell 0, g0.cell 1, g0.cell 2⟩
      have ha : ∀ nq, ((wr.drewN nq).alloc (.cells #[.int .i64 id, .int .i64 (n + 1), .int .i64 rd] 62)).cell? ⟨g, 0, none⟩ = some (.slice A1 l1.length c1) := fun nq => (HT.out.kept ((KW.out.drewN nq).alloc _)).cell0
      have hI := ins_at HT.out ⟨id, n + 1, rd⟩ (by omega) (0) (by omega) wr KW.out
      have HI := Lib.hid hI
      clear hKT g0 hI
      go_region_with (go_at_call 31; refine (HI.out _).mono ?_; rintro e w5 ⟨v5, rfl, ho5, hB5, hne5, hm5, hf5⟩; obtain ⟨A5, m5, c5, rfl⟩ := own_form3 ho5; have k0 : w5.cell? ⟨g, 0, none⟩ = some _ := hB5.cell 0; have k1 := hB5.frozen 0)
      all_goals (go_wp2; go_ret; refine ⟨rfl, ?_⟩; have hz := put_end HT.out HM.out HV1.out ho5 hB5 hne5 hm5 hf5; rw [← HE.out] at hz; exact hz)
    | succ j =>
      obtain ⟨b, c, e0, hb, f1, f2, f3⟩ := (HT.out.kept KW.out).thing (k := j) (by omega)
      injection e0 with e0 _ e0'
      subst e0 e0'
      have hKT := HT.out.kept KW.out
      have h0 := hKT.cell0
      have g0 := HG.out.mod KW.out (fun e => e)
      obtain ⟨e1, e2, e3⟩ : wr.cell? ⟨q, 0, none⟩ = some (.int .i64 id) ∧ wr.cell? ⟨q, 1, none⟩ = some (.int .i64 (n + 1)) ∧ wr.cell? ⟨q, 2, none⟩ = some (.int .i64 rd) := ⟨g0.cell 0, g0.cell 1, g0.cell 2⟩
      have d0 : decide ((0 : Int) < ((j + 1 : Nat) : Int)) = true := by simp
      have i1 : IntKind.i64.wrap (((j + 1 : Nat) : Int) - 1) = (j : Int) := by rw [IntKind.wrap_i64]; omega
      have i2 : (j : Int) < (l1.length : Int) := by omega
      have i3 : (0 : Int) ≤ (j : Int) := by omega
      have i4 : ¬ ((j : Int) < 0) := by omega
      have i5 : IntKind.i64.wrap (j : Int) = (j : Int) := by rw [IntKind.wrap_i64]; omega
      have i6 : IntKind.i64.wrap ((j : Int) + 1 - 1) = (j : Int) := by rw [IntKind.wrap_i64]; omega
      have d1 : decide ((0 : Int) < (j : Int) + 1) = true := decide_eq_true (by omega)
      have i7 : (0 : Int) < (j : Int) + 1 := by omega
      have HF := Lib.hid (And.intro h0 (And.intro e1 (And.intro e2 (And.intro e3 (And.intro f1 (And.intro f2 f3))))))
      have hjl : j < l1.length := by omega
      generalize hy : l1[j]'hjl = y at *
      have HY := Lib.hid hy
      have keep9 : ∀ w9, Kept w3 w9 → w9.cell? ⟨g, 0, none⟩ = some (.slice (some ⟨b, 0, none⟩) l1.length c1) ∧ w9.cell? ⟨q, 0, none⟩ = some (.int .i64 id) ∧ w9.cell? ⟨q, 1, none⟩ = some (.int .i64 (n + 1)) ∧ w9.cell? ⟨q, 2, none⟩ = some (.int .i64 rd) ∧ w9.cell? ⟨b, j * 3, none⟩ = some (.int .i64 y.id) ∧ w9.cell? ⟨b, j * 3 + 1, none⟩ = some (.int .i64 y.no) ∧ w9.cell? ⟨b, j * 3 + 2, none⟩ = some (.int .i64 y.rd) := by
        intro w9 hk9
        have g9 := HG.out.mod hk9 (fun e => e)
        obtain ⟨b', c', e0, _, f1, f2, f3⟩ := (HT.out.kept hk9).thing (k := j) hjl
        injection e0 with e0 _ e0'
        injection e0 with e0
        injection e0 with e0
        subst e0 e0'
        rw [HY.out] at f1 f2 f3
        exact ⟨(HT.out.kept hk9).cell0, g9.cell 0, g9.cell 1, g9.cell 2, f1, f2, f3⟩
      clear hKT g0 hy
      go_wp2_with fail
      go_region_held3 (fun w' => w'.cell? ⟨g, 0, none⟩ = some (.slice (some ⟨b, 0, none⟩) l1.length c1) ∧ w'.cell? ⟨q, 0, none⟩ = some (.int .i64 id) ∧ w'.cell? ⟨q, 1, none⟩ = some (.int .i64 (n + 1)) ∧ w'.cell? ⟨q, 2, none⟩ = some (.int .i64 rd) ∧ w'.cell? ⟨b, j * 3, none⟩ = some (.int .i64 y.id) ∧ w'.cell? ⟨b, j * 3 + 1, none⟩ = some (.int .i64 y.no) ∧ w'.cell? ⟨b, j * 3 + 2, none⟩ = some (.int .i64 y.rd)) (first | exact HF.out | exact hq9) (first | (go_at_call 30; refine (ahead_c ⟨id, n + 1, rd⟩ y _).mono ?_; rintro e w9 ⟨rfl, hm9⟩; have hk9 := KW.out.drew.then hm9; have hq9 := keep9 _ hk9) | fail)
      clear h0 e1 e2 e3 f1 f2 f3 HF keep9 hq9 d0 d1
      generalize hA : aheadT ⟨id, n + 1, rd⟩ y = av
      cases av with
      | true =>
        have hP : posT ⟨id, n + 1, rd⟩ l1 l1.length = posT ⟨id, n + 1, rd⟩ l1 j := PO.out.trans (posT_ahead hjl (by rw [HY.out]; exact hA))
        have HP := Lib.hid hP
        clear hP hA
        go_wp2_with fail
        go_roundg j
        case measure => omega
        case rel => exact ⟨j, by go_num, by omega, by omega, HP.out, hk9⟩
      | false =>
        have hP : posT ⟨id, n + 1, rd⟩ l1 l1.length = j + 1 := PO.out.trans (posT_stay hjl (by rw [HY.out]; exact hA))
        have hE : putT l n id rd = l1.take (j + 1) ++ ⟨id, n + 1, rd⟩ :: l1.drop (j + 1) := by unfold putT insT; rw [← HL1.out, hP]
        have HE := Lib.hid hE
        clear hP hA hE
        go_wp2_with fail
        have hKT := HT.out.kept hk9
        have h0 := hKT.cell0
        have g0 := HG.out.mod hk9 (fun e => e)
        obtain ⟨e1, e2, e3⟩ : w9.cell? ⟨q, 0, none⟩ = some (.int .i64 id) ∧ w9.cell? ⟨q, 1, none⟩ = some (.int .i64 (n + 1)) ∧ w9.cell? ⟨q, 2, none⟩ = some (.int .i64 rd) := ⟨g0.cell 0, g0.cell 1, g0.cell 2⟩
        have ha : ∀ nq, ((w9.drewN nq).alloc (.cells #[.int .i64 id, .int .i64 (n + 1), .int .i64 rd] 62)).cell? ⟨g, 0, none⟩ = some (.slice (some ⟨b, 0, none⟩) l1.length c1) := fun nq => (HT.out.kept ((hk9.drewN nq).alloc _)).cell0
        have ha2 : (w9.alloc (.cells #[.int .i64 id, .int .i64 (n + 1), .int .i64 rd] 62)).cell? ⟨g, 0, none⟩ = some (.slice (some ⟨b, 0, none⟩) l1.length c1) := (HT.out.kept (hk9.alloc _)).cell0
        have ha3 : (w9.drew.alloc (.cells #[.int .i64 id, .int .i64 (n + 1), .int .i64 rd] 62)).cell? ⟨g, 0, none⟩ = some (.slice (some ⟨b, 0, none⟩) l1.length c1) := (HT.out.kept (hk9.drew.alloc _)).cell0
        have hI := ins_at HT.out ⟨id, n + 1, rd⟩ (by omega) (j + 1) (by omega) w9 hk9
        have HI := Lib.hid hI
        clear hKT g0 hI
        go_region_with (go_at_call 31; refine (HI.out _).mono ?_; rintro e w5 ⟨v5, rfl, ho5, hB5, hne5, hm5, hf5⟩; obtain ⟨A5, m5, c5, rfl⟩ := own_form3 ho5; have k0 : w5.cell? ⟨g, 0, none⟩ = some _ := hB5.cell 0; have k1 := hB5.frozen 0)
        all_goals (go_wp2; go_ret; refine ⟨rfl, ?_⟩; have hz := put_end HT.out HM.out HV1.out ho5 hB5 hne5 hm5 hf5; rw [← HE.out] at hz; exact hz)

end Go.Proofs.Ytgmnhjbejofnhaa
