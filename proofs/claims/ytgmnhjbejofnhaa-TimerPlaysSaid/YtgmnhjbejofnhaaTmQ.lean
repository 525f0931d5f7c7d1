/- One set of timers of a law's own, followed through calls. No conditions. -/
import Derived.Test.YtgmnhjbejofnhaaTmU
import Derived.Test.YtgmnhjbejofnhaaInts12
namespace Go.Proofs.Ytgmnhjbejofnhaa
open Go.RowKit Go.Lib

structure Tv (w0 w : World) (g : Nat) (v : Value) (l : List Th) (n : Nat) : Prop where
  tm : Tm w w0.heap.size g v l n
  kept : Kept w0 w
  uni : Uni l
  len : l.length ≤ n
  n : n ≤ 90000
def Tq (w0 w : World) (g : Nat) (l : List Th) (n : Nat) : Prop := ∃ v, Tv w0 w g v l n

theorem kept_fp {w0 w w' : World} {g : Nat} {v : Value} {l : List Th} {n : Int} (hk : Kept w0 w) (ht : Tm w w0.heap.size g v l n) (hm : Mod (Fp g v) w w') : Kept w0 w' :=
  Mod.trans hk hm fun i hi e => by have := (ht.lt i e).1; omega
theorem uni_drop {l : List Th} (h : Uni l) (k : Nat) : Uni (l.drop k) := by
  unfold Uni idsT at *
  rw [List.map_drop]
  exact (List.drop_sublist k _).nodup h
section
variable {w0 w : World} {g : Nat} {l : List Th} {n : Nat}
theorem new_q (w : World) : Calls Try.prog 20 #[] w fun e w' => e = .returned (At w.heap.size) ∧ Tq w w' w.heap.size [] 0 := by
  refine (new_c w).mono ?_
  rintro e w' ⟨rfl, ht, hk⟩
  exact ⟨rfl, _, ht, hk, by simp [Uni, idsT], Nat.le_refl _, Nat.zero_le _⟩
theorem put_q (id rd : Int) (l' : List Th) (hl : putT l n id rd = l') (hn : n + 1 ≤ 90000) (h : Tq w0 w g l n) :
    Calls Try.prog 17 #[At g, .int .i64 id, .int .i64 rd] w fun e w' => e = .returned (.int .i64 0) ∧ Tq w0 w' g l' (n + 1) := by
  obtain ⟨v, h⟩ := h
  have := h.len
  refine (put_c _ g v l n id rd w h.tm h.uni (by omega) (by omega)).mono ?_
  rintro e w' ⟨rfl, v', ht, hm, _⟩
  rw [hl] at ht
  refine ⟨rfl, v', ht, kept_fp h.kept h.tm hm, by rw [← hl]; exact uni_putT h.uni _ _ _, ?_, hn⟩
  rw [← hl]
  have := putT_len l n id rd
  omega
theorem drop_q (id : Int) (l' : List Th) (b : Bool) (hl : dropT l id = l') (hb : (findT l id).isSome = b) (h : Tq w0 w g l n) :
    Calls Try.prog 18 #[At g, .int .i64 id] w fun e w' => e = .returned (.bool b) ∧ Tq w0 w' g l' n := by
  obtain ⟨v, h⟩ := h
  refine (drop_c _ g v l n id w h.tm h.uni).mono ?_
  rintro e w' ⟨rfl, v', ht, hm, _⟩
  rw [hl] at ht
  refine ⟨by rw [hb], v', ht, kept_fp h.kept h.tm hm, by rw [← hl]; exact uni_dropT h.uni _, ?_, h.n⟩
  rw [← hl]
  have := dropT_len l id
  have := h.len
  omega
theorem due_q (now : Int) (l' : List Th) (ids : List Int) (hi : idsT (l.take (dueN l now)) = ids) (hl : l.drop (dueN l now) = l') (h : Tq w0 w g l n) :
    Calls Try.prog 12 #[At g, .int .i64 now] w fun e w' => ∃ vo, e = .returned vo ∧ RdI w' vo ids ∧ Tq w0 w' g l' n := by
  obtain ⟨v, h⟩ := h
  have := h.len
  have := h.n
  refine (due_c _ g v l n now w h.tm (by omega)).mono ?_
  rintro e w' ⟨vo, rfl, ho, v', ht, hm, _⟩
  rw [hl] at ht
  rw [hi] at ho
  refine ⟨vo, rfl, (Rd.of_own ho).asInts, v', ht, kept_fp h.kept h.tm hm, by rw [← hl]; exact uni_drop h.uni _, ?_, h.n⟩
  rw [← hl, List.length_drop]
  omega
theorem Tq.keep {w' : World} (h : Tq w0 w g l n) (hm : Kept w w') : Tq w0 w' g l n := by
  obtain ⟨v, h⟩ := h
  exact ⟨v, h.tm.kept hm, h.kept.then hm, h.uni, h.len, h.n⟩
theorem len_q (m : Int) (hl : (l.length : Int) = m) (h : Tq w0 w g l n) : Calls Try.prog 14 #[At g] w fun e w' => e = .returned (.int .i64 m) ∧ Tq w0 w' g l n := by
  subst hl
  have hq := h
  obtain ⟨v, h⟩ := h
  refine (len_c _ g v l n w h.tm).mono ?_
  rintro e w' ⟨rfl, rfl⟩
  exact ⟨rfl, hq⟩
def nextV : List Th → Value
  | [] => .tuple #[.int .i64 0, .int .i64 0, .bool false]
  | x :: _ => .tuple #[.int .i64 x.id, .int .i64 x.rd, .bool true]
theorem next_c (base g : Nat) (v : Value) (l : List Th) (n : Int) (w : World) (h : Tm w base g v l n) :
    Calls Try.prog 25 #[At g] w fun e w' => e = .returned (nextV l) ∧ Kept w w' := by
  cases l with
  | nil => exact next_none base g v n w h
  | cons x l => exact next_some base g v x l n w h
theorem next_q (h : Tq w0 w g l n) (x : Value) (hx : nextV l = x) : Calls Try.prog 25 #[At g] w fun e w' => e = .returned x ∧ Tq w0 w' g l n := by
  have hq := h
  obtain ⟨v, h⟩ := h
  refine (next_c _ g v l n w h.tm).mono ?_
  rintro e w' ⟨rfl, hm⟩
  exact ⟨by rw [hx], hq.keep hm⟩
def atV (l : List Th) (id : Int) : Value := match atT l id with
  | some r => .tuple #[.int .i64 r, .bool true]
  | none => .tuple #[.int .i64 0, .bool false]
theorem at_c (base g : Nat) (v : Value) (l : List Th) (n id : Int) (w : World) (h : Tm w base g v l n) :
    Calls Try.prog 16 #[At g, .int .i64 id] w fun e w' => e = .returned (atV l id) ∧ Kept w w' := by
  cases hf : findT l id with
  | none =>
    have e : atT l id = none := by
      unfold atT
      rw [Option.map_eq_none_iff, List.find?_eq_none]
      intro x hx
      simpa using findT_none hf x hx
    refine (at_none base g v l n id w h hf).mono ?_
    rintro e' w' ⟨rfl, hm⟩
    exact ⟨by unfold atV; rw [e], hm⟩
  | some k =>
    have e : atT l id = some (l[k]'(findT_lt hf)).rd := by
      unfold atT
      have hf' := hf
      unfold findT at hf'
      have : l.find? (fun x => x.id == id) = some (l[k]'(findT_lt hf)) := by
        obtain ⟨h1, h2, h3⟩ := List.findIdx?_eq_some_iff_getElem.1 hf'
        rw [List.find?_eq_some_iff_getElem]
        exact ⟨h2, k, h1, rfl, fun j hj => by simpa using h3 j hj⟩
      rw [this]
      rfl
    refine (at_some base g v l n id w h k hf).mono ?_
    rintro e' w' ⟨rfl, hm⟩
    exact ⟨by unfold atV; rw [e], hm⟩
end

set_option maxHeartbeats 4000000 in
set_option maxRecDepth 100000 in
theorem awake_c (w : World) : Calls Try.prog 10 #[] w fun e w' => e = .returned (.bool true) ∧ Kept w w' := by
  have N := Lib.hid (new_q w)
  have P1 := Lib.hid (fun w1 h => put_q (w0 := w) (w := w1) (g := w.heap.size) (l := []) (n := 0) 1 5 [⟨1, 1, 5⟩] (by decide) (by decide) h)
  have P2 := Lib.hid (fun w1 h => put_q (w0 := w) (w := w1) (g := w.heap.size) (l := [⟨1, 1, 5⟩]) (n := 1) 2 3 [⟨2, 2, 3⟩, ⟨1, 1, 5⟩] (by decide) (by decide) h)
  have P3 := Lib.hid (fun w1 h => put_q (w0 := w) (w := w1) (g := w.heap.size) (l := [⟨2, 2, 3⟩, ⟨1, 1, 5⟩]) (n := 2) 3 5 [⟨2, 2, 3⟩, ⟨1, 1, 5⟩, ⟨3, 3, 5⟩] (by decide) (by decide) h)
  have X3 := Lib.hid (fun w1 h => next_q (w0 := w) (w := w1) (g := w.heap.size) (l := [⟨2, 2, 3⟩, ⟨1, 1, 5⟩, ⟨3, 3, 5⟩]) (n := 3) h (.tuple #[.int .i64 2, .int .i64 3, .bool true]) rfl)
  have D3 := Lib.hid (fun w1 h => due_q (w0 := w) (w := w1) (g := w.heap.size) (l := [⟨2, 2, 3⟩, ⟨1, 1, 5⟩, ⟨3, 3, 5⟩]) (n := 3) 5 [] [2, 1, 3] (by decide) (by decide) h)
  have L3 := Lib.hid (fun w1 h => len_q (w0 := w) (w := w1) (g := w.heap.size) (l := []) (n := 3) 0 rfl h)
  have P4 := Lib.hid (fun w1 h => put_q (w0 := w) (w := w1) (g := w.heap.size) (l := []) (n := 3) 1 5 [⟨1, 4, 5⟩] (by decide) (by decide) h)
  have P5 := Lib.hid (fun w1 h => put_q (w0 := w) (w := w1) (g := w.heap.size) (l := [⟨1, 4, 5⟩]) (n := 4) 2 5 [⟨1, 4, 5⟩, ⟨2, 5, 5⟩] (by decide) (by decide) h)
  have P6 := Lib.hid (fun w1 h => put_q (w0 := w) (w := w1) (g := w.heap.size) (l := [⟨1, 4, 5⟩, ⟨2, 5, 5⟩]) (n := 5) 1 5 [⟨2, 5, 5⟩, ⟨1, 6, 5⟩] (by decide) (by decide) h)
  have D6 := Lib.hid (fun w1 h => due_q (w0 := w) (w := w1) (g := w.heap.size) (l := [⟨2, 5, 5⟩, ⟨1, 6, 5⟩]) (n := 6) 9 [] [2, 1] (by decide) (by decide) h)
  have R6 := Lib.hid (fun w1 h => drop_q (w0 := w) (w := w1) (g := w.heap.size) (l := []) (n := 6) 1 [] false (by decide) (by decide) h)
  go_enter Try.func10, Try.ntmps10
  go_wp2_with (first
    | (go_at_call 20; refine N.out.mono ?_; rintro e w1 ⟨rfl, q0⟩)
    | (go_at_call 17; refine (P1.out _ q0).mono ?_; clear q0; rintro e w1 ⟨rfl, q1⟩)
    | (go_at_call 17; refine (P2.out _ q1).mono ?_; clear q1; rintro e w1 ⟨rfl, q2⟩)
    | (go_at_call 17; refine (P3.out _ q2).mono ?_; clear q2; rintro e w1 ⟨rfl, q3⟩)
    | (go_at_call 25; refine (X3.out _ q3).mono ?_; clear q3; rintro e w1 ⟨rfl, q4⟩)
    | (go_at_call 12; refine (D3.out _ q4).mono ?_; clear q4; rintro e w1 ⟨vo, rfl, ho, q5⟩; obtain ⟨_, A, c, rfl, _⟩ := id ho)
    | (go_at_call 15; refine (ints12k _ _ [2, 1, 3] [2, 1, 3] (by decide) true rfl _ (ho.kept ((Mod.refl _ _).alloc _) (fun _ _ e => e)) (Rd.lit _ _ _ _ [2, 1, 3] #[.int .i64 2, .int .i64 1, .int .i64 3] rfl rfl)).mono ?_; clear ho; rintro e w2 ⟨rfl, hm2⟩; have q6 := q5.keep (((Mod.refl _ _).alloc _).then hm2); clear q5 hm2)
    | (go_at_call 14; refine (L3.out _ q6).mono ?_; clear q6; rintro e w1 ⟨rfl, q7⟩)
    | (go_at_call 17; refine (P4.out _ q7).mono ?_; clear q7; rintro e w1 ⟨rfl, q8⟩)
    | (go_at_call 17; refine (P5.out _ q8).mono ?_; clear q8; rintro e w1 ⟨rfl, q9⟩)
    | (go_at_call 17; refine (P6.out _ q9).mono ?_; clear q9; rintro e w1 ⟨rfl, qa⟩)
    | (go_at_call 12; refine (D6.out _ qa).mono ?_; clear qa; rintro e w1 ⟨vo, rfl, hp, qb⟩; obtain ⟨_, A, c, rfl, _⟩ := id hp)
    | (go_at_call 15; refine (ints12k _ _ [2, 1] [2, 1] (by decide) true rfl _ (hp.kept ((Mod.refl _ _).alloc _) (fun _ _ e => e)) (Rd.lit _ _ _ _ [2, 1] #[.int .i64 2, .int .i64 1] rfl rfl)).mono ?_; clear hp; rintro e w2 ⟨rfl, hm2⟩; have qc := qb.keep (((Mod.refl _ _).alloc _).then hm2); clear qb hm2)
    | (go_at_call 18; refine (R6.out _ qc).mono ?_; clear qc; rintro e w1 ⟨rfl, qd⟩)
    | fail)
  go_ret
  obtain ⟨_, hz⟩ := qd
  exact ⟨rfl, hz.kept⟩
end Go.Proofs.Ytgmnhjbejofnhaa
