/- The program's timers and the document's, side by side. No conditions. -/
import Derived.Test.YtgmnhjbejofnhaaTmR
import Derived.Test.YtgmnhjbejofnhaaTmTwo
namespace Go.Proofs.Ytgmnhjbejofnhaa
open Go.RowKit Go.Lib

structure Bv (w0 w : World) (V : Nat → Prop) (g : Nat) (vt : Value) (M : List Th) (n x : Nat) (vx : Value) (D : List (Int × Int)) : Prop where
  t : Tv w0 w g vt M n
  rx : Rx w w0.heap.size x vx D
  ap : ∀ k, Fp g vt k → ¬ Fp x vx k
  av : ∀ k, Fp g vt k ∨ Fp x vx k → ¬ V k
  vl : ∀ k, V k → k < w.heap.size
def Bq (w0 w : World) (V : Nat → Prop) (g : Nat) (M : List Th) (n x : Nat) (D : List (Int × Int)) : Prop := ∃ vt vx, Bv w0 w V g vt M n x vx D

section
variable {w0 w w' : World} {V : Nat → Prop} {g n x : Nat} {M : List Th} {D : List (Int × Int)}
theorem Bq.kept (h : Bq w0 w V g M n x D) : Kept w0 w := by
  obtain ⟨_, _, h⟩ := h
  exact h.t.kept
theorem Bq.keep (h : Bq w0 w V g M n x D) (hm : Kept w w') : Bq w0 w' V g M n x D := by
  obtain ⟨vt, vx, h⟩ := h
  exact ⟨vt, vx, h.t.mod hm (fun _ _ e => e) (h.t.kept.then hm), h.rx.kept hm, h.ap, h.av, fun k hk => Nat.lt_of_lt_of_le (h.vl k hk) hm.size⟩
theorem Bq.aim {gx : Nat} {ob : Obj} (h : Bq w0 w V g M n x D) (hg : gx = w.heap.size) : Bq w0 (w.alloc ob) (fun k => k = gx) g M n x D := by
  subst hg
  obtain ⟨vt, vx, h⟩ := h
  have hm : Kept w (w.alloc ob) := (Mod.refl _ _).alloc _
  refine ⟨vt, vx, h.t.mod hm (fun _ _ e => e) (h.t.kept.then hm), h.rx.kept hm, h.ap, fun k hk e => ?_, fun k hk => by rw [hk]; simp⟩
  rcases hk with hk | hk
  · have := (h.t.tm.lt k hk).2
    omega
  · have := (h.rx.lt k hk).2
    omega
theorem bq_mod {gx : Nat} (h : Bq w0 w (fun k => k = gx) g M n x D) : gx < w.heap.size := by
  obtain ⟨_, _, h⟩ := h
  exact h.vl gx rfl
theorem bt_drop (id : Int) (h : Bq w0 w V g M n x D) :
    Calls Try.prog 18 #[At g, .int .i64 id] w fun e w' => e = .returned (.bool (findT M id).isSome) ∧ Bq w0 w' V g (dropT M id) n x D ∧ Mod (fun k => ¬ V k) w w' := by
  obtain ⟨vt, vx, h⟩ := h
  refine (drop_c _ g vt M n id w h.t.tm h.t.uni).mono ?_
  rintro e w' ⟨rfl, vt', ht, hm, hv⟩
  have hk := kept_fp h.t.kept h.t.tm hm
  have := dropT_len M id
  have := h.t.len
  exact ⟨rfl, ⟨vt', vx, ⟨ht, hk, uni_dropT h.t.uni _, by omega, h.t.n⟩, h.rx.mod hm (fun k hk hk' => h.ap k hk' hk), by rw [Fp.same hv]; exact h.ap, by rw [Fp.same hv]; exact h.av, fun k hk => Nat.lt_of_lt_of_le (h.vl k hk) hm.size⟩, hm.mono fun k _ hk => h.av k (.inl hk)⟩
theorem bt_put (id rd : Int) (hn : n + 1 ≤ 90000) (h : Bq w0 w V g M n x D) :
    Calls Try.prog 17 #[At g, .int .i64 id, .int .i64 rd] w fun e w' => e = .returned (.int .i64 0) ∧ Bq w0 w' V g (putT M n id rd) (n + 1) x D ∧ Mod (fun k => ¬ V k) w w' := by
  obtain ⟨vt, vx, h⟩ := h
  have := h.t.len
  refine (put_c _ g vt M n id rd w h.t.tm h.t.uni (by omega) (by omega)).mono ?_
  rintro e w' ⟨rfl, vt', ht, hm, hf⟩
  have hk := kept_fp h.t.kept h.t.tm hm
  have hpl := putT_len M n id rd
  refine ⟨rfl, ⟨vt', vx, ⟨ht, hk, uni_putT h.t.uni _ _ _, by omega, hn⟩, h.rx.mod hm (fun k hk hk' => h.ap k hk' hk), fun k hk hk' => ?_, fun k hk => ?_, fun k hk => Nat.lt_of_lt_of_le (h.vl k hk) hm.size⟩, hm.mono fun k _ hk => h.av k (.inl hk)⟩
  · rcases hf k hk with h1 | h1
    · exact h.ap k h1 hk'
    · have := (h.rx.lt k hk').2
      omega
  · rcases hk with hk | hk
    · rcases hf k hk with h1 | h1
      · exact h.av k (.inl h1)
      · intro hv
        have := h.vl k hv
        omega
    · exact h.av k (.inr hk)
theorem bt_due (now : Int) (h : Bq w0 w V g M n x D) :
    Calls Try.prog 12 #[At g, .int .i64 now] w fun e w' => ∃ vo, e = .returned vo ∧ w'.ownsRow w.heap.size 3 1 vo (idsT (M.take (dueN M now))).length (ints (idsT (M.take (dueN M now)))) ∧ Bq w0 w' (fun k => V k ∨ vo.ownBlock = some k) g (M.drop (dueN M now)) n x D ∧ Mod (fun k => ¬ V k) w w' := by
  obtain ⟨vt, vx, h⟩ := h
  have h1 := h.t.len
  have h2 := h.t.n
  refine (due_c _ g vt M n now w h.t.tm (by omega)).mono ?_
  rintro e w' ⟨vo, rfl, ho, vt', ht, hm, hv⟩
  have hk := kept_fp h.t.kept h.t.tm hm
  have hd := dueN_le M now
  have hil : (idsT (M.take (dueN M now))).length = dueN M now := by simp [idsT]; omega
  refine ⟨vo, rfl, by rw [hil]; exact ho, ⟨vt', vx, ⟨ht, hk, uni_drop h.t.uni _, by rw [List.length_drop]; omega, h.t.n⟩, h.rx.mod hm (fun k hk hk' => h.ap k hk' hk), by rw [Fp.same hv]; exact h.ap, fun k hk e => ?_, fun k hk => ?_⟩, hm.mono fun k _ hk => h.av k (.inl hk)⟩
  · rw [Fp.same hv] at hk
    rcases e with e | e
    · exact h.av k hk e
    · have a := (ho.lt k e).1
      rcases hk with hk | hk
      · have := (h.t.tm.lt k hk).2
        omega
      · have := (h.rx.lt k hk).2
        omega
  · rcases hk with hk | hk
    · exact Nat.lt_of_lt_of_le (h.vl k hk) hm.size
    · exact (ho.lt k hk).2
theorem bt_next (h : Bq w0 w V g M n x D) : Calls Try.prog 25 #[At g] w fun e w' => e = .returned (nextV M) ∧ Kept w w' := by
  obtain ⟨vt, vx, h⟩ := h
  exact next_c _ g vt M n w h.t.tm
theorem bt_len (h : Bq w0 w V g M n x D) : Calls Try.prog 14 #[At g] w fun e w' => e = .returned (.int .i64 M.length) ∧ w = w' := by
  obtain ⟨vt, vx, h⟩ := h
  exact len_c _ g vt M n w h.t.tm
theorem bt_at (id : Int) (h : Bq w0 w V g M n x D) : Calls Try.prog 16 #[At g, .int .i64 id] w fun e w' => e = .returned (.tuple #[.int .i64 (atR M id), .bool (atB M id)]) ∧ Kept w w' := by
  obtain ⟨vt, vx, h⟩ := h
  exact at_q ⟨vt, h.t⟩ id
theorem bx_step {vt vx : Value} {v' : Value} {D' : List (Int × Int)} (h : Bv w0 w V g vt M n x vx D) (hx : Rx w' w0.heap.size x v' D') (hm : Mod (Only x) w w') (hf : ∀ k, v'.ownBlock = some k → vx.ownBlock = some k ∨ w.heap.size ≤ k) : Bq w0 w' V g M n x D' ∧ Mod (fun k => ¬ V k) w w' := by
  have hk : Kept w0 w' := Mod.trans h.t.kept hm fun i hi e => by have := h.rx.lo; have e : i = x := e; omega
  refine ⟨⟨vt, v', h.t.mod hm (fun k hk e => h.ap k hk (.inl e)) hk, hx, fun k hk hk' => ?_, fun k hk hv => ?_, fun k hk => Nat.lt_of_lt_of_le (h.vl k hk) hm.size⟩, hm.mono fun k _ e => h.av k (.inr (.inl e))⟩
  · rcases hk' with e | e
    · exact h.ap k hk (.inl e)
    · rcases hf k e with a | a
      · exact h.ap k hk (.inr a)
      · have b := (h.t.tm.lt k hk).2
        omega
  · rcases hk with hk | hk
    · exact h.av k (.inl hk) hv
    · rcases hk with e | e
      · exact h.av k (.inr (.inl e)) hv
      · rcases hf k e with a | a
        · exact h.av k (.inr (.inr a)) hv
        · have b := h.vl k hv
          omega
theorem bx_drop (id : Int) (hl : D.length ≤ 1000) (h : Bq w0 w V g M n x D) :
    Calls Try.prog 21 #[At x, .int .i64 id] w fun e w' => e = .returned (.bool (decide ((dropD D id).length < D.length))) ∧ Bq w0 w' V g M n x (dropD D id) ∧ Mod (fun k => ¬ V k) w w' := by
  obtain ⟨vt, vx, h⟩ := h
  refine (drop_x _ x vx D id w h.rx hl).mono ?_
  rintro e w' ⟨rfl, v', hx, hm, hf⟩
  exact ⟨rfl, bx_step h hx hm fun k e => .inr (hf k e)⟩
theorem bx_put (id rd : Int) (hl : D.length ≤ 1000) (h : Bq w0 w V g M n x D) :
    Calls Try.prog 24 #[At x, .int .i64 id, .int .i64 rd] w fun e w' => e = .returned (.tuple #[]) ∧ Bq w0 w' V g M n x (dropD D id ++ [(id, rd)]) ∧ Mod (fun k => ¬ V k) w w' := by
  obtain ⟨vt, vx, h⟩ := h
  refine (put_x _ x vx D id rd w h.rx hl).mono ?_
  rintro e w' ⟨rfl, v', hx, hm, hf⟩
  exact ⟨rfl, bx_step h hx hm fun k e => .inr (hf k e)⟩
theorem bx_next (hl : D.length ≤ 1000) (h : Bq w0 w V g M n x D) : Calls Try.prog 26 #[At x] w fun e w' => e = .returned (nextD D) ∧ Kept w w' := by
  obtain ⟨vt, vx, h⟩ := h
  exact next_x _ x vx D w h.rx hl
theorem bx_at (id : Int) (hl : D.length ≤ 1000) (r : Int) (b : Bool) (hr : r = (atD D id).getD 0) (hb : b = (atD D id).isSome) (h : Bq w0 w V g M n x D) : Calls Try.prog 27 #[At x, .int .i64 id] w fun e w' => e = .returned (.tuple #[.int .i64 r, .bool b]) ∧ w = w' := by
  obtain ⟨vt, vx, h⟩ := h
  exact at_x _ x vx D id w h.rx hl r b hr hb
theorem bx_due (now : Int) (hl : D.length ≤ 1000) (h : Bq w0 w V g M n x D) :
    Calls Try.prog 22 #[At x, .int .i64 now] w fun e w' => ∃ vo o D', e = .returned vo ∧ DueX now D o D' ∧ w'.ownsRow w.heap.size 3 1 vo o.length (ints o) ∧ Bq w0 w' V g M n x D' ∧ Mod (fun k => ¬ V k) w w' := by
  obtain ⟨vt, vx, h⟩ := h
  refine (due_x _ x vx D now w h.rx hl).mono ?_
  rintro e w' ⟨vo, o, D', rfl, hd, _, ho, v', hx, hm, hf⟩
  have hz := bx_step h hx hm hf
  exact ⟨vo, o, D', rfl, hd, ho, hz.1, hz.2⟩
/-- They go on as their copies: the program's first. -/
theorem bt_copy (h : Bq w0 w V g M n x D) :
    Calls Try.prog 19 #[At g] w fun e w' => ∃ g' v', e = .returned (At g') ∧ Tv w w' g' v' M n ∧ Bq w0 w' (fun k => V k ∨ Fp g' v' k) g M n x D := by
  obtain ⟨vt, vx, h⟩ := h
  have h1 := h.t.len
  have h2 := h.t.n
  refine (copy_c _ g vt M n w h.t.tm (by omega)).mono ?_
  rintro e w' ⟨g', v', rfl, ht, hk⟩
  refine ⟨g', v', rfl, ⟨ht, hk, h.t.uni, h.t.len, h.t.n⟩, vt, vx, h.t.mod hk (fun _ _ e => e) (h.t.kept.then hk), h.rx.kept hk, h.ap, fun k hk' e => ?_, fun k hk' => ?_⟩
  · rcases e with e | e
    · exact h.av k hk' e
    · have a := (ht.lt k e).1
      rcases hk' with hk' | hk'
      · have := (h.t.tm.lt k hk').2
        omega
      · have := (h.rx.lt k hk').2
        omega
  · rcases hk' with e | e
    · exact Nat.lt_of_lt_of_le (h.vl k e) hk.size
    · exact (ht.lt k e).2
theorem Bq.weak (h : Bq w0 w V g M n x D) : Bq w0 w (fun _ => False) g M n x D := by
  obtain ⟨vt, vx, h⟩ := h
  exact ⟨vt, vx, h.t, h.rx, h.ap, fun _ _ e => e, fun _ e => e.elim⟩
theorem Bq.cellx (h : Bq w0 w V g M n x D) : ∃ A c, w.cell? ⟨x, 0, none⟩ = some (.slice A D.length c) := by
  obtain ⟨vt, vx, h⟩ := h
  obtain ⟨A, c, rfl⟩ := h.rx.form
  exact ⟨A, c, h.rx.cell0⟩
theorem bx_copy {g' : Nat} {w1 : World} (hl : D.length ≤ 1000) (h : Bq w0 w V g M n x D) {M' : List Th} {n' : Nat} {v' : Value} (hu : Tv w1 w g' v' M' n') (hk1 : Kept w0 w1) :
    Calls Try.prog 23 #[At x] w fun e w' => ∃ x', e = .returned (At x') ∧ Bq w0 w' (fun _ => False) g' M' n' x' D := by
  obtain ⟨vt, vx, h⟩ := h
  refine (copy_x _ x vx D w h.rx hl).mono ?_
  rintro e w' ⟨x', vx', rfl, hx, hk⟩
  have hu' := (hu.lower hk1).mod hk (fun _ _ e => e) (h.t.kept.then hk)
  have hx' : Rx w' w0.heap.size x' vx' D := ⟨hx.blk, own_lower hx.row h.t.kept.size, hx.ne, Nat.le_trans h.t.kept.size hx.lo⟩
  refine ⟨x', rfl, v', vx', hu', hx', fun k hk hk' => ?_, fun _ _ e => e, fun _ e => e.elim⟩
  have a := (hu.tm.lt k hk).2
  have b := (hx.lt k hk').1
  omega
end
end Go.Proofs.Ytgmnhjbejofnhaa
