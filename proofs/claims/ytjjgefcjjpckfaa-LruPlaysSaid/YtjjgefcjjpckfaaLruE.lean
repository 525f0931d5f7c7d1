/- The row of the list of places: its loop. Conditions: the links lead through the row and end. -/
import Derived.Test.YtjjgefcjjpckfaaLruD
namespace Go.Proofs.Ytjjgefcjjpckfaa
open Go.RowKit

/-- From slot s the links lead through these slots, and end. -/
def LL.path (L : LL) : Nat → List Nat → Prop
  | s, [] => s = 0
  | s, x :: r => s = x ∧ 0 < x ∧ x < 257 ∧ L.path (L.next x) r
def places (l : List Nat) : List Value := l.map fun (s : Nat) => .int .i64 ((s : Int) - 1)

theorem elem_int : Elem Try.prog 27 3 1 8 := ⟨Try.underlying27, by kernel_rfl, by decide, by decide⟩

def RowRel (L : LL) (row : List Nat) (w : World) (k : Nat) (out s : Value) (wr : World) : Prop :=
  ∃ (done rest : List Nat) (x : Nat), row = done ++ rest ∧ rest.length = k ∧ s = .int .i64 x ∧ L.path x rest ∧
    wr.ownsRow w.heap.size 3 1 out done.length (places done) ∧ Mod (fun _ => False) w wr
set_option maxHeartbeats 400000 in
set_option maxRecDepth 100000 in
theorem row_ok (b : Nat) (L : LL) (row : List Nat) (hp : L.path (L.next 0) row) (hl : row.length ≤ 256) (w : World) (hL : IsL w b L) :
    Calls Try.prog 11 #[At b] w fun e w' => ∃ v, e = .returned v ∧ w'.ownsRow w.heap.size 3 1 v row.length (places row) ∧ Mod (fun _ => False) w w' := by
  have h1 := hL.next (i := 0) (by omega)
  have hb := hL.lt
  go_enter Try.func11, Try.ntmps11
  go_wp2
  go_loopg [3, 4] row.length (fun k out s wr => RowRel L row w k out s wr)
  case atStart => exact ⟨[], row, L.next 0, rfl, rfl, rfl, hp, World.ownsRow_nil w _ _ _, Mod.refl _ _⟩
  case round =>
    obtain ⟨done, rest, x, hrow, hk, rfl, hpath, hown, hm⟩ := hrel
    have hlen : done.length + gk ≤ 256 := by rw [hrow, List.length_append] at hl; omega
    have HR := Lib.hid hrow
    have HG := Lib.hid hk
    clear hrow hk hp h1
    cases rest with
    | nil =>
      obtain rfl : x = 0 := hpath
      go_wp2
      go_ret
      have e0 : row = done := by rw [HR.out]; simp
      exact ⟨_, rfl, by rw [e0]; exact hown, hm⟩
    | cons y rest =>
      obtain ⟨hxy, h0, h2, hpr⟩ := hpath
      subst hxy
      have i1 : (x : Int) < 257 := by omega
      have HP := Lib.hid hpr
      have hLr := hL.mod hm (fun e => e)
      clear hpr
      have hne : ∀ k, u3.ownBlock = some k → ¬ k < w.heap.size := fun k hk => by have := (hown.lt k hk).1; omega
      have HN := Lib.hid hne
      clear hne
      go_wp2_with (refine wpList_push 27 3 1 8 23 elem_int (.tmp 22) (.tmp 20) rfl rfl rfl rfl rfl (by simp) (.int .i64 ((x : Int) - 1)) rfl rfl (by simp [Value.cells, Value.oneCell']) _ _ _ _ rfl hown (by unfold maxLen; omega) (by omega) hm.size ?_; intro v' w1 hown1 hm1 _; have hL1 := hLr.mod hm1 (fun e => HN.out b e hb); have g1 := hL1.next h2; have hm2 : Mod (fun _ => False) w w1 := hm.trans hm1 (fun i hi e => HN.out i e hi); clear hm1)
      go_roundg rest.length
      case measure => rw [← HG.out]; simp
      case rel => exact ⟨done ++ [x], rest, L.next x, by rw [HR.out]; simp, rfl, rfl, HP.out, by simpa [places, Value.cells] using hown1, hm2⟩
set_option maxHeartbeats 400000 in
theorem row_nil (w : World) :
    Calls Try.prog 11 #[.pointer none] w fun e w' => e = .returned (.slice none 0 0) ∧ w = w' := by
  go_enter Try.func11, Try.ntmps11
  go_wp2
  go_ret
  exact ⟨rfl, rfl⟩
end Go.Proofs.Ytjjgefcjjpckfaa
