/- The document's timers in memory: At, Drop. Conditions: few things. -/
import Derived.Test.YtgmnhjbejofnhaaTmM
namespace Go.Proofs.Ytgmnhjbejofnhaa
open Go.RowKit Go.Lib

structure Rx (w : World) (base x : Nat) (v : Value) (D : List (Int × Int)) : Prop where
  blk : Blk w x 49 #[v]
  row : w.ownsRow base 68 2 v D.length (setC D)
  ne : v.ownBlock ≠ some x
  lo : base ≤ x
theorem elem_px : Elem Try.prog 47 68 2 16 := ⟨by kernel_rfl, by kernel_rfl, by decide, by decide⟩
section
variable {w w' : World} {base x : Nat} {v : Value} {D : List (Int × Int)}
theorem Rx.mod {S : Nat → Prop} (h : Rx w base x v D) (hm : Mod S w w') (hs : ∀ k, Fp x v k → ¬ S k) : Rx w' base x v D :=
  ⟨h.blk.mod hm (hs x (.inl rfl)), own_mod h.row hm fun k hk => hs k (.inr hk), h.ne, h.lo⟩
theorem Rx.kept (h : Rx w base x v D) (hm : Kept w w') : Rx w' base x v D := h.mod hm fun _ _ e => e
theorem Rx.lt (h : Rx w base x v D) : ∀ k, Fp x v k → base ≤ k ∧ k < w.heap.size := by
  intro k hk
  rcases hk with rfl | hk
  · exact ⟨h.lo, h.blk.lt⟩
  · exact h.row.lt k hk
theorem Rx.cell0 (h : Rx w base x v D) : w.cell? ⟨x, 0, none⟩ = some v := h.blk.cell 0
theorem Rx.form (h : Rx w base x v D) : ∃ A c, v = .slice A D.length c := own_form h.row
theorem Rx.thing (h : Rx w base x v D) {k : Nat} (hk : k < D.length) : ∃ b c, v = .slice (some ⟨b, 0, none⟩) D.length c ∧ b < w.heap.size ∧
    w.cell? ⟨b, k * 2, none⟩ = some (.int .i64 D[k].1) ∧ w.cell? ⟨b, k * 2 + 1, none⟩ = some (.int .i64 D[k].2) := by
  obtain ⟨A, c, rfl⟩ := h.form
  cases A with
  | none => obtain ⟨h0, _⟩ := own_none h.row; omega
  | some a =>
    obtain ⟨b, o, s⟩ := a
    have hr := h.row
    obtain ⟨rfl, rfl, _, _, _, _, cs, hB, _, htk⟩ := own_blk hr
    have hc : ∀ j u, (setC D)[j]? = some u → w.cell? ⟨b, j, none⟩ = some u := by
      intro j u hu
      rw [← htk, List.getElem?_take] at hu
      split at hu
      · rw [hB.cell]; simpa using hu
      · cases hu
    obtain ⟨q1, q2⟩ := setC_get D k hk
    exact ⟨b, c, rfl, hB.lt, hc _ _ q1, hc _ _ q2⟩
end

/-- What At tells of the document's row. -/
def atD (D : List (Int × Int)) (id : Int) : Option Int := (D.find? (fun a => a.1 == id)).map (·.2)
def dropD (D : List (Int × Int)) (id : Int) : List (Int × Int) := D.filter (fun a => a.1 != id)
def AtXRel (D : List (Int × Int)) (id : Int) (w : World) (k : Nat) (s6 : Value) (wr : World) : Prop :=
  ∃ j : Nat, s6 = .int .i64 j ∧ j + k = D.length ∧ (∀ m (h : m < D.length), m < j → (D[m].1 == id) = false) ∧ wr = w
set_option maxHeartbeats 1000000 in
set_option maxRecDepth 100000 in
theorem at_x (base x : Nat) (v : Value) (D : List (Int × Int)) (id : Int) (w : World) (h : Rx w base x v D) (hl : D.length ≤ 1000) (r : Int) (b : Bool) (hr : r = (atD D id).getD 0) (hb : b = (atD D id).isSome) :
    Calls Try.prog 27 #[At x, .int .i64 id] w fun e w' => e = .returned (.tuple #[.int .i64 r, .bool b]) ∧ w = w' := by
  have HX := Lib.hid h
  have h0 := h.cell0
  obtain ⟨A, c, rfl⟩ := h.form
  have HR := Lib.hid (And.intro hr hb)
  clear h hr hb
  go_enter Try.func27, Try.ntmps27
  go_wp2_with fail
  go_loopg [6] D.length (fun k s6 wr => AtXRel D id w k s6 wr)
  case atStart => exact ⟨0, rfl, by omega, fun m h hm => absurd hm (Nat.not_lt_zero _), rfl⟩
  case round =>
    obtain ⟨j, rfl, hj, hno, rfl⟩ := hrel
    have HJ := Lib.hid hj
    have HN := Lib.hid hno
    have hjl : j ≤ D.length := by omega
    clear hj hno
    by_cases hlt : j < D.length
    · obtain ⟨b1, c1, e1, hb1, f1, f2⟩ := HX.out.thing hlt
      injection e1 with e1 _ e1'
      subst e1 e1'
      have i1 : (j : Int) < D.length := by omega
      cases hd : ((D[j]'hlt).1 == id) with
      | true =>
        have hf : atD D id = some (D[j]'hlt).2 := by
          unfold atD
          have : D.find? (fun a => a.1 == id) = some (D[j]'hlt) := by
            rw [List.find?_eq_some_iff_getElem]
            exact ⟨hd, j, hlt, rfl, fun m hm => by rw [HN.out m (by omega) hm]; rfl⟩
          rw [this]
          rfl
        have hr := HR.out.1
        have hb := HR.out.2
        rw [hf] at hr hb
        simp only [Option.getD_some, Option.isSome_some] at hr hb
        subst hr hb
        clear hf
        go_wp2_with fail
        go_ret2
        exact ⟨rfl, rfl⟩
      | false =>
        have HD := Lib.hid hd
        go_wp2_with fail
        go_roundg (D.length - (j + 1))
        case measure => have := HJ.out; omega
        case rel =>
          refine ⟨j + 1, by go_num, by omega, fun m h hm => ?_, rfl⟩
          by_cases e : m = j
          · subst e; exact HD.out
          · exact HN.out m h (by omega)
    · have hf : atD D id = none := by
        unfold atD
        rw [Option.map_eq_none_iff, List.find?_eq_none]
        intro a ha
        obtain ⟨m, hm, rfl⟩ := List.mem_iff_getElem.1 ha
        rw [HN.out m hm (by omega)]
        simp
      have hr := HR.out.1
      have hb := HR.out.2
      rw [hf] at hr hb
      simp only [Option.getD_none, Option.isSome_none] at hr hb
      subst hr hb
      clear hf
      go_wp2_with fail
      go_ret2
      exact ⟨rfl, rfl⟩

def DropXRel (D : List (Int × Int)) (id : Int) (w : World) (k : Nat) (s5 s6 : Value) (wr : World) : Prop :=
  ∃ j : Nat, s6 = .int .i64 j ∧ j + k = D.length ∧ wr.ownsRow w.heap.size 68 2 s5 (dropD (D.take j) id).length (setC (dropD (D.take j) id)) ∧ Kept w wr
theorem dropD_snoc (D : List (Int × Int)) (id : Int) (j : Nat) (h : j < D.length) : dropD (D.take (j + 1)) id = dropD (D.take j) id ++ (if (D[j].1 != id) then [D[j]] else []) := by
  unfold dropD
  rw [List.take_add_one, List.getElem?_eq_getElem h, List.filter_append]
  congr 1
  show List.filter _ [_] = _
  rw [List.filter_cons]
  rfl
theorem setC_snoc (D : List (Int × Int)) (a : Int × Int) : setC (D ++ [a]) = setC D ++ [.int .i64 a.1, .int .i64 a.2] := by simp [setC]

set_option maxHeartbeats 2000000 in
set_option maxRecDepth 100000 in
theorem drop_x (base x : Nat) (v : Value) (D : List (Int × Int)) (id : Int) (w : World) (h : Rx w base x v D) (hl : D.length ≤ 1000) :
    Calls Try.prog 21 #[At x, .int .i64 id] w fun e w' => e = .returned (.bool (decide ((dropD D id).length < D.length))) ∧ ∃ v', Rx w' base x v' (dropD D id) ∧ Mod (Only x) w w' ∧ (∀ k, v'.ownBlock = some k → w.heap.size ≤ k) := by
  have HX := Lib.hid h
  have h0 := h.cell0
  obtain ⟨A, c, rfl⟩ := h.form
  clear h
  go_enter Try.func21, Try.ntmps21
  go_wp2_with fail
  go_loopg [5, 6] D.length (fun k s5 s6 wr => DropXRel D id w k s5 s6 wr)
  case atStart => exact ⟨0, rfl, by omega, World.ownsRow_nil _ _ _ _, Mod.refl _ _⟩
  case round =>
    obtain ⟨j, rfl, hj, ho, hk⟩ := hrel
    have HJ := Lib.hid hj
    have HO := Lib.hid ho
    have HK := Lib.hid hk
    have hjl : j ≤ D.length := by omega
    have hfl : (dropD (D.take j) id).length ≤ j := by
      have h1 := List.length_filter_le (fun a : Int × Int => a.1 != id) (D.take j)
      rw [List.length_take] at h1
      unfold dropD
      omega
    clear hj ho hk
    have hxr := (HX.out.kept HK.out).cell0
    by_cases hlt : j < D.length
    · obtain ⟨b1, c1, e1, hb1, f1, f2⟩ := (HX.out.kept HK.out).thing hlt
      injection e1 with e1 _ e1'
      subst e1 e1'
      have i1 : (j : Int) < D.length := by omega
      have hsn := dropD_snoc D id j hlt
      obtain ⟨y, hy⟩ : ∃ y, (D[j]'hlt) = y := ⟨_, rfl⟩
      rw [hy] at f1 f2 hsn
      clear hy
      generalize dropD (D.take j) id = acc at *
      cases hne : (y.1 != id) with
      | true =>
        rw [hne, if_pos rfl] at hsn
        have HSN := Lib.hid hsn
        have HFL := Lib.hid hfl
        clear hsn hfl
        go_wp2_with (refine wpList_pushS 47 68 2 16 35 elem_px (.tmp 34) (.tmp 27) rfl rfl rfl rfl rfl (by simp) (.agg #[.int .i64 y.1, .int .i64 y.2]) rfl rfl (by simp [Value.cells, Value.oneCell']) w.heap.size _ _ _ rfl HO.out (by unfold maxLen; have := HFL.out; omega) (by have := HFL.out; omega) HK.out.size ?_; intro g4 c4 w4 hown2 hm2 _)
        have hk4 : Kept w w4 := Mod.trans HK.out hm2 (fun k hk e => by have := (HO.out.lt k e).1; omega)
        go_roundg (D.length - (j + 1))
        case measure => have := HJ.out; omega
        case rel => exact ⟨j + 1, by go_num, by omega, by rw [HSN.out, List.length_append, setC_snoc]; exact hown2, hk4⟩
      | false =>
        rw [hne] at hsn
        simp only [Bool.false_eq_true, if_false, List.append_nil] at hsn
        have HSN := Lib.hid hsn
        clear hsn hfl
        go_wp2_with fail
        go_roundg (D.length - (j + 1))
        case measure => have := HJ.out; omega
        case rel => exact ⟨j + 1, by go_num, by omega, by rw [HSN.out]; exact HO.out, HK.out⟩
    · obtain rfl : j = D.length := by omega
      have ho := HO.out
      rw [List.take_length] at ho
      obtain ⟨Ao, co, rfl⟩ := own_form ho
      have HO2 := Lib.hid ho
      have hfz := (HX.out.kept HK.out).blk.frozen 0
      rw [List.take_length] at hfl
      generalize hE : dropD D id = E at *
      clear ho
      go_wp2_with fail
      go_ret
      have hB := (HX.out.kept HK.out).blk
      have hxl := HX.out.blk.lt
      have hne : (Value.slice Ao E.length co).ownBlock ≠ some x := fun e => by have := (HO2.out.lt x e).1; omega
      have hbs := HX.out.lo
      rw [hE]
      refine ⟨?_, .slice Ao E.length co, ⟨by simpa using hB.set_ 0 (.slice Ao E.length co), own_setc (own_lower HO2.out (Nat.le_trans hbs (Nat.le_of_lt hxl))) (p := ⟨x, 0, none⟩) hne _, hne, HX.out.lo⟩, (HK.out.mono (S' := Only x) (fun _ _ e => e.elim)).setCell (p := ⟨x, 0, none⟩) (fun _ => rfl) _, fun k hk => (HO2.out.lt k hk).1⟩
      simp
end Go.Proofs.Ytgmnhjbejofnhaa
