/- Due, Copy. Conditions: few things. -/
import Derived.Test.YtgmnhjbejofnhaaTmP
namespace Go.Proofs.Ytgmnhjbejofnhaa
open Go.RowKit Go.Lib

theorem elem_int : Elem Try.prog 26 3 1 8 := ⟨by kernel_rfl, by kernel_rfl, by decide, by decide⟩
theorem dueN_at {l : List Th} {now : Int} : ∀ {j : Nat}, (∀ i (h : i < l.length), i < j → l[i].rd ≤ now) → j ≤ l.length → (∀ h : j < l.length, ¬ l[j].rd ≤ now) → dueN l now = j := by
  induction l with
  | nil => intro j _ h2 _; simp at h2; subst h2; rfl
  | cons x l ih =>
    intro j h1 h2 h3
    cases j with
    | zero =>
      have := h3 (by simp)
      simp only [List.getElem_cons_zero] at this
      unfold dueN
      rw [List.takeWhile_cons_of_neg (by simpa using this)]
      rfl
    | succ j =>
      have h0 := h1 0 (by simp) (by omega)
      simp only [List.getElem_cons_zero] at h0
      have := ih (j := j) (fun i h hi => h1 (i + 1) (by simpa using h) (by omega)) (by simpa using h2) (fun h => h3 (by simpa using h))
      unfold dueN at this ⊢
      rw [List.takeWhile_cons_of_pos (by simpa using h0), List.length_cons, this]

def DueRel (l : List Th) (now : Int) (w : World) (gk : Nat) (s5 s15 : Value) (wr : World) : Prop :=
  ∃ j : Nat, s15 = .int .i64 j ∧ j + gk = l.length ∧ wr.ownsRow w.heap.size 3 1 s5 j (ints (idsT (l.take j))) ∧ Kept w wr ∧ (∀ i (h : i < l.length), i < j → l[i].rd ≤ now)

set_option maxHeartbeats 1000000 in
theorem due_nil (now : Int) (w : World) :
    Calls Try.prog 12 #[.pointer none, .int .i64 now] w fun e w' => e = .returned (.slice none 0 0) ∧ w = w' := by
  go_enter Try.func12, Try.ntmps12
  go_wp2
  go_ret
  exact ⟨rfl, rfl⟩

theorem due_end {base g : Nat} {v vo v' : Value} {l : List Th} {n now : Int} {k : Nat} {w W w2 : World} (hT : Tm w base g v l n) (hk : Kept w W) (hd : dueN l now = k) (ho : W.ownsRow w.heap.size 3 1 vo k (ints (idsT (l.take k))))
    (ho2 : w2.ownsRow base 62 3 v' (l.take 0 ++ l.drop k).length (thc (l.take 0 ++ l.drop k))) (hm2 : Mod (fun k => v.ownBlock = some k) W w2) (hv2 : v'.ownBlock = v.ownBlock) :
    (w2.setCell ⟨g, 0, none⟩ v').ownsRow w.heap.size 3 1 vo (dueN l now) (ints (idsT (l.take (dueN l now)))) ∧
      ∃ v9, Tm (w2.setCell ⟨g, 0, none⟩ v') base g v9 (l.drop (dueN l now)) n ∧ Mod (Fp g v) w (w2.setCell ⟨g, 0, none⟩ v') ∧ v9.ownBlock = v.ownBlock := by
  subst hd
  have hB2 := (hT.kept hk).blk.mod hm2 hT.ne
  have hgl := hT.blk.lt
  refine ⟨own_setc (own_mod ho hm2 fun k hk e => ?_) (p := ⟨g, 0, none⟩) (fun e => ?_) _, v', ⟨by simpa using hB2.set_ 0 _, own_setc ho2 (p := ⟨g, 0, none⟩) (by rw [hv2]; exact hT.ne) _, by rw [hv2]; exact hT.ne, hT.lo⟩, ?_, hv2⟩
  · have h1 := (ho.lt k hk).1
    have h2 := (hT.row.lt k e).2
    omega
  · have := (ho.lt g e).1
    omega
  · exact ((hk.mono (S' := Fp g v) fun _ _ e => e.elim).then (hm2.mono fun k _ hk => .inr hk)).setCell (p := ⟨g, 0, none⟩) (fun _ => .inl rfl) _

set_option maxHeartbeats 2000000 in
set_option maxRecDepth 100000 in
theorem due_c (base g : Nat) (v : Value) (l : List Th) (n now : Int) (w : World) (h : Tm w base g v l n) (hl : l.length ≤ 90000) :
    Calls Try.prog 12 #[At g, .int .i64 now] w fun e w' => ∃ vo, e = .returned vo ∧ w'.ownsRow w.heap.size 3 1 vo (dueN l now) (ints (idsT (l.take (dueN l now)))) ∧
      ∃ v', Tm w' base g v' (l.drop (dueN l now)) n ∧ Mod (Fp g v) w w' ∧ v'.ownBlock = v.ownBlock := by
  have HT := Lib.hid h
  obtain ⟨A, c, rfl⟩ := h.form
  have h0 := h.cell0
  have hdel : ∀ (j : Nat) w1, Kept w w1 → j ≤ l.length → Calls Try.prog 28 #[.slice A l.length c, .int .i64 0, .int .i64 j] w1 fun e w' => ∃ v', e = .returned v' ∧ w'.ownsRow base 62 3 v' (l.take 0 ++ l.drop j).length (thc (l.take 0 ++ l.drop j)) ∧ Mod (fun k => (Value.slice A l.length c).ownBlock = some k) w1 w' ∧ v'.ownBlock = (Value.slice A l.length c).ownBlock :=
    fun j w1 hw hj => delete_c base _ l 0 j w1 (h.kept hw).row (by omega) hj
  have HDEL := Lib.hid hdel
  clear h hdel
  go_enter Try.func12, Try.ntmps12
  go_wp2_with fail
  go_loopg [5, 15] l.length (fun gk s5 s15 wr => DueRel l now w gk s5 s15 wr)
  case atStart => exact ⟨0, rfl, by omega, World.ownsRow_nil _ _ _ _, Mod.refl _ _, fun i h hi => absurd hi (Nat.not_lt_zero _)⟩
  case round =>
    obtain ⟨j, rfl, hj, hown, hk, hdue⟩ := hrel
    have hjl : j ≤ l.length := by omega
    have HJ := Lib.hid hj
    have HD := Lib.hid hdue
    have HO := Lib.hid hown
    have HK := Lib.hid hk
    clear hj hdue hown hk
    by_cases hlt : j < l.length
    · obtain ⟨b, c', e0, hb, f1, f2, f3⟩ := (HT.out.kept HK.out).thing (k := j) hlt
      injection e0 with e0 _ e0'
      subst e0 e0'
      have i2 : (j : Int) < (l.length : Int) := by omega
      have hsz := HK.out.size
      by_cases hd : l[j].rd ≤ now
      · have d1 : ¬ now < l[j].rd := by omega
        have hown1 := own_kept HO.out ((Mod.refl _ _).alloc (.cells #[.int .i64 l[j].id, .int .i64 l[j].no, .int .i64 l[j].rd] 62))
        have HDD := Lib.hid hd
        have hs : ints (idsT (l.take (j + 1))) = ints (idsT (l.take j)) ++ [.int .i64 l[j].id] := by
          rw [List.take_add_one, List.getElem?_eq_getElem hlt]
          unfold ints idsT
          rw [List.map_append, List.map_append]
          rfl
        have HS := Lib.hid hs
        clear hd hs
        go_wp2_with (refine wpList_pushS 26 3 1 8 26 elem_int (.tmp 25) (.tmp 23) rfl rfl rfl rfl rfl (by simp) (.int .i64 l[j].id) rfl rfl (by simp [Value.cells, Value.oneCell']) w.heap.size _ _ _ rfl hown1 (by unfold maxLen; omega) (by omega) (by simp; omega) ?_; intro g4 c4 w4 hown2 hm2 _)
        have hk4 : Kept w w4 := Mod.trans (HK.out.alloc (.cells #[.int .i64 l[j].id, .int .i64 l[j].no, .int .i64 l[j].rd] 62)) hm2 (fun k hk e => by have := (HO.out.lt k e).1; omega)
        go_roundg (l.length - (j + 1))
        case measure => have := HJ.out; omega
        case rel =>
          refine ⟨j + 1, by go_num, by omega, by rw [HS.out]; exact hown2, hk4, fun i h hi => ?_⟩
          rcases Nat.lt_or_ge i j with h' | h'
          · exact HD.out i h h'
          · obtain rfl : i = j := by omega
            exact HDD.out
      · have d1 : now < l[j].rd := by omega
        have hdn : dueN l now = j := dueN_at HD.out hjl (fun _ => hd)
        obtain ⟨A5, c5, rfl⟩ := own_form HO.out
        have hKW : Kept w (wr.alloc (.cells #[.int .i64 l[j].id, .int .i64 l[j].no, .int .i64 l[j].rd] 62)) := HK.out.alloc _
        have hgc : (wr.alloc (.cells #[.int .i64 l[j].id, .int .i64 l[j].no, .int .i64 l[j].rd] 62)).cell? ⟨g, 0, none⟩ = some (.slice (some ⟨b, 0, none⟩) l.length c) := (HT.out.kept hKW).cell0
        have HW := Lib.hid hKW
        have HN := Lib.hid hdn
        have HOW := Lib.hid (own_kept HO.out ((Mod.refl _ _).alloc (.cells #[.int .i64 l[j].id, .int .i64 l[j].no, .int .i64 l[j].rd] 62)))
        clear hKW hdn
        go_wp2_with (go_at_call 28; refine (HDEL.out j _ HW.out hjl).mono ?_; rintro e w2 ⟨v', rfl, ho2, hm2, hv2⟩; obtain ⟨A2, m2, c2, rfl⟩ := own_form3 ho2; have hB2 := ((HT.out.kept HW.out).blk).mod hm2 HT.out.ne; have h2 : w2.cell? ⟨g, 0, none⟩ = some _ := hB2.cell 0; have h3 := hB2.frozen 0)
        go_ret
        have hz := due_end HT.out HW.out HN.out HOW.out ho2 hm2 hv2
        exact ⟨_, rfl, hz.1, hz.2⟩
    · obtain rfl : j = l.length := by omega
      have hdn : dueN l now = l.length := dueN_at HD.out hjl (fun h => absurd h hlt)
      obtain ⟨A5, c5, rfl⟩ := own_form HO.out
      have hKW : Kept w wr := HK.out
      have hgc : wr.cell? ⟨g, 0, none⟩ = some (.slice A l.length c) := (HT.out.kept hKW).cell0
      have HW := Lib.hid hKW
      have HN := Lib.hid hdn
      have HOW := Lib.hid HO.out
      clear hKW hdn
      go_wp2_with (go_at_call 28; refine (HDEL.out _ _ HW.out hjl).mono ?_; rintro e w2 ⟨v', rfl, ho2, hm2, hv2⟩; obtain ⟨A2, m2, c2, rfl⟩ := own_form3 ho2; have hB2 := ((HT.out.kept HW.out).blk).mod hm2 HT.out.ne; have h2 : w2.cell? ⟨g, 0, none⟩ = some _ := hB2.cell 0; have h3 := hB2.frozen 0)
      go_ret
      have hz := due_end HT.out HW.out HN.out HOW.out ho2 hm2 hv2
      exact ⟨_, rfl, hz.1, hz.2⟩

set_option maxHeartbeats 1000000 in
theorem copy_nil (w : World) :
    Calls Try.prog 19 #[.pointer none] w fun e w' => e = .returned (.pointer none) ∧ w = w' := by
  go_enter Try.func19, Try.ntmps19
  go_wp2
  go_ret
  exact ⟨rfl, rfl⟩
set_option maxHeartbeats 2000000 in
theorem copy_c (base g : Nat) (v : Value) (l : List Th) (n : Int) (w : World) (h : Tm w base g v l n) (hl : l.length ≤ 90000) :
    Calls Try.prog 19 #[At g] w fun e w' => ∃ g' v', e = .returned (At g') ∧ Tm w' w.heap.size g' v' l n ∧ Kept w w' := by
  have HT := Lib.hid h
  have h0 := h.cell0
  have h1 := h.cell1
  have hC : ∀ W, Kept w W → Calls Try.prog 32 #[v] W fun e w' => ∃ v', e = .returned v' ∧ w'.ownsRow W.heap.size 62 3 v' l.length (thc l) ∧ Kept W w' :=
    fun W hW => clone_c base v l W (h.kept hW).row (by omega)
  have HC := Lib.hid hC
  clear h hC
  go_enter Try.func19, Try.ntmps19
  go_wp2_with fail
  go_region_with (go_at_call 32; refine (HC.out _ ((Mod.refl _ _).drew)).mono ?_; rintro e w1 ⟨v1, rfl, ho1, hm1⟩; obtain ⟨A1, m1, c1, rfl⟩ := own_form3 ho1; have k1 : w1.cell? ⟨g, 1, none⟩ = some _ := (HT.out.kept (((Mod.refl _ w).drew).then hm1)).cell1)
  all_goals (go_wp2; go_ret)
  all_goals
    have hkk : Kept w w1 := ((Mod.refl _ w).drew).then hm1
    exact ⟨w1.heap.size, _, rfl, ⟨Blk.new _ _ _, own_kept ho1 ((Mod.refl _ _).alloc _), fun e => by have := (ho1.lt _ e).2; omega, hkk.size⟩, hkk.alloc _⟩
end Go.Proofs.Ytgmnhjbejofnhaa
