/- TimerNames, walked. Conditions: none. -/
import Derived.Test.YtgmnhjbejofnhaaTmQ
namespace Go.Proofs.Ytgmnhjbejofnhaa
open Go.RowKit Go.Lib

theorem tq_made {w w1 : World} (hk : Kept w w1) : Tq w (w1.alloc (.cells #[.slice none 0 0, .int .i64 0] 59)) w1.heap.size [] 0 :=
  ⟨.slice none 0 0, ⟨Blk.new _ _ _, World.ownsRow_nil _ _ _ _, by simp [Value.ownBlock], hk.size⟩, hk.alloc _, by simp [Uni, idsT], Nat.le_refl _, Nat.zero_le _⟩

set_option maxHeartbeats 8000000 in
set_option maxRecDepth 100000 in
theorem names_c (w : World) : Calls Try.prog 8 #[] w fun e w' => e = .returned (.bool true) ∧ Kept w w' := by
  have X0 := Lib.hid (fun g w1 h => next_q (w0 := w) (w := w1) (g := g) (l := []) (n := 0) h (.tuple #[.int .i64 0, .int .i64 0, .bool false]) rfl)
  have A0 := Lib.hid (fun g w1 (h : Tq w w1 g [] 0) => (show ∃ v, Tm w1 w.heap.size g v [] 0 from by obtain ⟨v, hv⟩ := h; exact ⟨v, hv.tm⟩))
  have L0 := Lib.hid (fun g w1 h => len_q (w0 := w) (w := w1) (g := g) (l := []) (n := 0) 0 rfl h)
  have D0 := Lib.hid (fun g w1 h => due_q (w0 := w) (w := w1) (g := g) (l := []) (n := 0) 9223372036854775807 [] [] (by decide) (by decide) h)
  have P1 := Lib.hid (fun g w1 h => put_q (w0 := w) (w := w1) (g := g) (l := []) (n := 0) (-5) (-9223372036854775808) [⟨-5, 1, -9223372036854775808⟩] (by decide) (by decide) h)
  have P2 := Lib.hid (fun g w1 h => put_q (w0 := w) (w := w1) (g := g) (l := [⟨-5, 1, -9223372036854775808⟩]) (n := 1) 4611686018427387904 9223372036854775807 [⟨-5, 1, -9223372036854775808⟩, ⟨4611686018427387904, 2, 9223372036854775807⟩] (by decide) (by decide) h)
  have P3 := Lib.hid (fun g w1 h => put_q (w0 := w) (w := w1) (g := g) (l := [⟨-5, 1, -9223372036854775808⟩, ⟨4611686018427387904, 2, 9223372036854775807⟩]) (n := 2) 0 0 [⟨-5, 1, -9223372036854775808⟩, ⟨0, 3, 0⟩, ⟨4611686018427387904, 2, 9223372036854775807⟩] (by decide) (by decide) h)
  have L3 := Lib.hid (fun g w1 h => len_q (w0 := w) (w := w1) (g := g) (l := [⟨-5, 1, -9223372036854775808⟩, ⟨0, 3, 0⟩, ⟨4611686018427387904, 2, 9223372036854775807⟩]) (n := 3) 3 rfl h)
  have X3 := Lib.hid (fun g w1 h => next_q (w0 := w) (w := w1) (g := g) (l := [⟨-5, 1, -9223372036854775808⟩, ⟨0, 3, 0⟩, ⟨4611686018427387904, 2, 9223372036854775807⟩]) (n := 3) h (.tuple #[.int .i64 (-5), .int .i64 (-9223372036854775808), .bool true]) rfl)
  have D3 := Lib.hid (fun g w1 h => due_q (w0 := w) (w := w1) (g := g) (l := [⟨-5, 1, -9223372036854775808⟩, ⟨0, 3, 0⟩, ⟨4611686018427387904, 2, 9223372036854775807⟩]) (n := 3) 0 [⟨4611686018427387904, 2, 9223372036854775807⟩] [-5, 0] (by decide) (by decide) h)
  have D4 := Lib.hid (fun g w1 h => due_q (w0 := w) (w := w1) (g := g) (l := [⟨4611686018427387904, 2, 9223372036854775807⟩]) (n := 3) 9223372036854775806 [⟨4611686018427387904, 2, 9223372036854775807⟩] [] (by decide) (by decide) h)
  have D5 := Lib.hid (fun g w1 h => due_q (w0 := w) (w := w1) (g := g) (l := [⟨4611686018427387904, 2, 9223372036854775807⟩]) (n := 3) 9223372036854775807 [] [4611686018427387904] (by decide) (by decide) h)
  go_enter Try.func8, Try.ntmps8
  go_wp2_with (first
    | (go_at_call 10; refine (awake_c _).mono ?_; rintro e w1 ⟨rfl, hk⟩; have q0 := tq_made hk)
    | (go_at_call 25; refine (X0.out _ _ q0).mono ?_; clear q0; rintro e w2 ⟨rfl, q1⟩)
    | (go_at_call 16; obtain ⟨v, hv⟩ := A0.out _ _ q1; refine (at_c _ _ v [] 0 0 _ hv).mono ?_; rintro e w2 ⟨rfl, hm⟩; have q2 := q1.keep hm; clear q1 hv hm; have ea : atV [] 0 = .tuple #[.int .i64 0, .bool false] := rfl; rw [ea])
    | (go_at_call 14; refine (L0.out _ _ q2).mono ?_; clear q2; rintro e w2 ⟨rfl, q3⟩)
    | (go_at_call 12; refine (D0.out _ _ q3).mono ?_; clear q3; rintro e w2 ⟨vo, rfl, ho, q4⟩; obtain ⟨_, A, c, rfl, _⟩ := id ho; clear ho)
    | (go_at_call 17; refine (P1.out _ _ q4).mono ?_; clear q4; rintro e w2 ⟨rfl, q5⟩)
    | (go_at_call 17; refine (P2.out _ _ q5).mono ?_; clear q5; rintro e w2 ⟨rfl, q6⟩)
    | (go_at_call 17; refine (P3.out _ _ q6).mono ?_; clear q6; rintro e w2 ⟨rfl, q7⟩)
    | (go_at_call 14; refine (L3.out _ _ q7).mono ?_; clear q7; rintro e w2 ⟨rfl, q8⟩)
    | (go_at_call 25; refine (X3.out _ _ q8).mono ?_; clear q8; rintro e w2 ⟨rfl, q9⟩)
    | (go_at_call 12; refine (D3.out _ _ q9).mono ?_; clear q9; rintro e w2 ⟨vo, rfl, hp, qa⟩; obtain ⟨_, A1, c1, rfl, _⟩ := id hp)
    | (go_at_call 15; refine (ints12k _ _ [-5, 0] [-5, 0] (by decide) true rfl _ (hp.kept ((Mod.refl _ _).alloc _) (fun _ _ e => e)) (Rd.lit _ _ _ _ [-5, 0] #[.int .i64 (-5), .int .i64 0] rfl rfl)).mono ?_; clear hp; rintro e w3 ⟨rfl, hm2⟩; have qb := qa.keep (((Mod.refl _ _).alloc _).then hm2); clear qa hm2)
    | (go_at_call 12; refine (D4.out _ _ qb).mono ?_; clear qb; rintro e w2 ⟨vo, rfl, ho, qc⟩; obtain ⟨_, A2, c2, rfl, _⟩ := id ho; clear ho)
    | (go_at_call 12; refine (D5.out _ _ qc).mono ?_; clear qc; rintro e w2 ⟨vo, rfl, hr, qd⟩; obtain ⟨_, A3, c3, rfl, _⟩ := id hr)
    | (go_at_call 15; refine (ints12k _ _ [4611686018427387904] [4611686018427387904] (by decide) true rfl _ (hr.kept ((Mod.refl _ _).alloc _) (fun _ _ e => e)) (Rd.lit _ _ _ _ [4611686018427387904] #[.int .i64 4611686018427387904] rfl rfl)).mono ?_; clear hr; rintro e w3 ⟨rfl, hm2⟩; have qe := qd.keep (((Mod.refl _ _).alloc _).then hm2); have ke : Kept w w3 := (qe.choose_spec).kept; clear qd hm2 qe)
    | (go_at_call 25; refine (next_nil _).mono ?_; rintro e w2 ⟨rfl, hm⟩; have kf : Kept w w2 := ke.then hm; clear ke hm; clear X0 A0 L0 D0 P1 P2 P3 L3 X3 D3 D4 D5)
    | (go_at_call 16; refine (at_nil _ _).mono ?_; rintro e w2 ⟨rfl, hm⟩; have kg : Kept w w2 := kf.then hm; clear kf hm)
    | (go_at_call 17; refine (put_nil _ _ _).mono ?_; rintro e w2 ⟨rfl, rfl⟩)
    | (go_at_call 18; refine (drop_nil _ _).mono ?_; rintro e w2 ⟨rfl, hm⟩; have kh : Kept w w2 := kg.then hm; clear kg hm)
    | (go_at_call 12; refine (due_nil _ _).mono ?_; rintro e w2 ⟨rfl, rfl⟩)
    | (go_at_call 14; refine (len_nil _).mono ?_; rintro e w2 ⟨rfl, rfl⟩)
    | (go_at_call 19; refine (copy_nil _).mono ?_; rintro e w2 ⟨rfl, rfl⟩)
    | fail)
  go_ret
  exact ⟨rfl, kh⟩
end Go.Proofs.Ytgmnhjbejofnhaa
