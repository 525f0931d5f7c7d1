/- slices.Clone at a row of things. Conditions: none. -/
import Derived.Test.YtgmnhjbejofnhaaTmD
namespace Go.Proofs.Ytgmnhjbejofnhaa
open Go.RowKit Go.Lib

set_option maxHeartbeats 1000000 in
theorem clone_nil (w : World) :
    Calls Try.prog 32 #[.slice none 0 0] w fun e w' => e = .returned (.slice none 0 0) ∧ w' = w := by
  have q := fun (w : World) (a : Option Addr) (n c n' c' : Nat) => Lib.run_eql_slice_nil (P := Try.prog) w 57 _ a n c n' c' Try.underlying57
  go_enter Try.func32, Try.ntmps32
  go_wp2
  go_ret
  exact ⟨rfl, rfl⟩
set_option maxHeartbeats 1000000 in
theorem clone_some (g c : Nat) (l : List Th) (w : World) (hv : RdT w (.slice (some ⟨g, 0, none⟩) l.length c) l) (hm : l.length ≤ 100000) :
    Calls Try.prog 32 #[.slice (some ⟨g, 0, none⟩) l.length c] w fun e w' => ∃ v', e = .returned v' ∧ w'.ownsRow w.heap.size 62 3 v' l.length (thc l) ∧ Kept w w' := by
  have q := fun (w : World) (a : Option Addr) (n c n' c' : Nat) => Lib.run_eql_slice_nil (P := Try.prog) w 57 _ a n c n' c' Try.underlying57
  have HV := Lib.hid hv
  have h1 := Lib.hid (thc_one l)
  have hb1 : 0 + l.length ≤ maxLen := by simp only [maxLen]; omega
  have hb2 : (0 + l.length) * 24 ≤ 140737488355328 := by omega
  have HB := Lib.hid (And.intro hb1 hb2)
  clear hv hb1 hb2
  go_enter Try.func32, Try.ntmps32
  go_wp2_with (at_builtin; refine wpList_append_rd 57 62 3 24 elem_th (.tmp 5) (.tmp 6) rfl rfl w.heap.size _ 0 [] rfl (World.ownsRow_made w #[] 0 (Nat.le_refl _) (Nat.zero_le _) rfl) _ l.length (thc l) rfl (HV.out.kept ((Mod.refl _ _).alloc _) (fun _ _ e => e)) h1.out HB.out.1 HB.out.2 (by simp) ?_; intro v' w1 hown hm hat)
  go_ret
  refine ⟨v', rfl, by simpa using hown, ?_⟩
  exact ((Mod.refl (fun _ => False) w).alloc _).trans hm (fun k hk e => by have e : some w.heap.size = some k := e; injection e with e; omega)
theorem clone_c (base : Nat) (v : Value) (l : List Th) (w : World) (h : w.ownsRow base 62 3 v l.length (thc l)) (hm : l.length ≤ 100000) :
    Calls Try.prog 32 #[v] w fun e w' => ∃ v', e = .returned v' ∧ w'.ownsRow w.heap.size 62 3 v' l.length (thc l) ∧ Kept w w' := by
  obtain ⟨A, c, rfl⟩ := own_form h
  cases A with
  | none =>
    obtain ⟨h0, h1, _, h2⟩ := own_none h
    rw [h0, h1, h2]
    refine (clone_nil w).mono ?_
    rintro e w' ⟨rfl, rfl⟩
    exact ⟨_, rfl, World.ownsRow_nil _ _ _ _, Mod.refl _ _⟩
  | some a =>
    obtain ⟨g, o, s⟩ := a
    have hr := Rd.of_own h
    obtain ⟨rfl, rfl, _, _, _, _, _, _, _⟩ := own_blk h
    exact clone_some g c l w hr hm
end Go.Proofs.Ytgmnhjbejofnhaa
