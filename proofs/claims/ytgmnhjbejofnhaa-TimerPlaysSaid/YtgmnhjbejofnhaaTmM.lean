/- Timers of a row of things that are put one by one; which is the last one of its number. Conditions: few things. -/
import Derived.Test.YtgmnhjbejofnhaaTmQ
namespace Go.Proofs.Ytgmnhjbejofnhaa
open Go.RowKit Go.Lib

def setC (l : List (Int × Int)) : List Value := l.flatMap fun a => [.int .i64 a.1, .int .i64 a.2]
theorem setC_len (l : List (Int × Int)) : (setC l).length = l.length * 2 := by
  induction l with
  | nil => rfl
  | cons a l ih => simp [setC] at ih ⊢; omega
theorem setC_get (l : List (Int × Int)) : ∀ (k : Nat) (h : k < l.length), (setC l)[k * 2]? = some (.int .i64 (l[k]).1) ∧ (setC l)[k * 2 + 1]? = some (.int .i64 (l[k]).2) := by
  induction l with
  | nil => intro k h; exact absurd h (by simp)
  | cons a l ih =>
    intro k h
    have e : setC (a :: l) = .int .i64 a.1 :: .int .i64 a.2 :: setC l := rfl
    cases k with
    | zero => exact ⟨rfl, rfl⟩
    | succ k =>
      have := ih k (by simpa using h)
      rw [e, show (k + 1) * 2 = k * 2 + 2 by omega]
      simpa using this
abbrev RdS (w : World) (v : Value) (l : List (Int × Int)) : Prop := Rd w 2 v l.length (setC l)

/-- What things that are put one by one come to. -/
def putsT (l : List (Int × Int)) (s : List Th × Nat) : List Th × Nat := l.foldl (fun s a => (putT s.1 s.2 a.1 a.2, s.2 + 1)) s
theorem puts_snoc (l : List (Int × Int)) (s : List Th × Nat) (j : Nat) (h : j < l.length) : putsT (l.take (j + 1)) s = (putT (putsT (l.take j) s).1 (putsT (l.take j) s).2 l[j].1 l[j].2, (putsT (l.take j) s).2 + 1) := by
  unfold putsT
  rw [List.take_add_one, List.getElem?_eq_getElem h, List.foldl_append]
  rfl
theorem puts_n (l : List (Int × Int)) (s : List Th × Nat) : (putsT l s).2 = s.2 + l.length := by
  induction l generalizing s with
  | nil => rfl
  | cons a l ih =>
    have : putsT (a :: l) s = putsT l (putT s.1 s.2 a.1 a.2, s.2 + 1) := rfl
    rw [this, ih, List.length_cons]
    simp only
    omega

def PutRel (l : List (Int × Int)) (w0 w : World) (g : Nat) (k : Nat) (i : Value) (wr : World) : Prop :=
  ∃ j : Nat, i = .int .i64 j ∧ j + k = l.length ∧ Tq w wr g (putsT (l.take j) ([], 0)).1 j ∧ Kept w0 wr

set_option maxHeartbeats 2000000 in
set_option maxRecDepth 100000 in
theorem put_l (v : Value) (l : List (Int × Int)) (hl : l.length ≤ 1000) (w : World) (hv : RdS w v l) :
    Calls Try.prog 11 #[v] w fun e w' => e = .returned (At w.heap.size) ∧ Tq w w' w.heap.size (putsT l ([], 0)).1 l.length := by
  have HV := Lib.hid hv
  obtain ⟨_, A, c, rfl, _⟩ := hv
  go_enter Try.func11, Try.ntmps11
  go_wp2_with (go_at_call 20; refine (new_q _).mono ?_; rintro e w1 ⟨rfl, q0⟩)
  go_loopg [4] l.length (fun k s4 wr => PutRel l w w w.heap.size k s4 wr)
  case atStart => exact ⟨0, rfl, by omega, q0, (q0.choose_spec).kept⟩
  case round =>
    obtain ⟨j, rfl, hj, hq, hk⟩ := hrel
    have hjl : j ≤ l.length := by omega
    have HJ := Lib.hid hj
    have HQ := Lib.hid hq
    have HK := Lib.hid hk
    clear hj hq hk q0
    by_cases hlt : j < l.length
    · obtain ⟨b1, o1, c1', e1, hb, g1⟩ := HV.out.at hlt
      injection e1 with e1 _ e1'
      subst e1 e1'
      obtain ⟨q1, q2⟩ := setC_get l j hlt
      have f1 := g1 _ _ q1
      have f2 := g1 _ _ q2
      clear g1 q1 q2
      have HF := Lib.hid (And.intro f1 (And.intro f2 hb))
      rw [← HK.out.cell (p := ⟨b1, o1 + j * 2, none⟩) hb (fun e => e)] at f1
      rw [← HK.out.cell (p := ⟨b1, o1 + (j * 2 + 1), none⟩) hb (fun e => e), ← Nat.add_assoc] at f2
      have i1 : (j : Int) < l.length := by omega
      have hs := puts_snoc l ([], 0) j hlt
      have hn := puts_n (l.take j) ([], 0)
      rw [List.length_take, Nat.min_eq_left hjl, Nat.zero_add] at hn
      rw [hn] at hs
      have hs1 : putT (putsT (l.take j) ([], 0)).1 j l[j].1 l[j].2 = (putsT (l.take (j + 1)) ([], 0)).1 := by rw [hs]
      generalize l[j] = a at *
      obtain ⟨a1, a2⟩ := a
      have HP := Lib.hid (fun w1 h => put_q (w0 := w) (w := w1) (g := w.heap.size) a1 a2 _ hs1 (by omega) h)
      clear hs hn hs1 hb
      go_wp2_with fail
      go_region_with (go_at_call 17; refine (HP.out _ (HQ.out.keep ((Mod.refl _ _).drew))).mono ?_; rintro e w3 ⟨rfl, hq3⟩)
      all_goals
        go_wp2
        go_roundg (l.length - (j + 1))
        case measure => have := HJ.out; omega
        case rel => exact ⟨j + 1, by go_num, by omega, hq3, (hq3.choose_spec).kept⟩
    · obtain rfl : j = l.length := by omega
      have hz := HQ.out
      rw [List.take_length] at hz
      have HZ := Lib.hid hz
      clear hz
      go_wp2
      go_ret
      exact ⟨rfl, HZ.out⟩
end Go.Proofs.Ytgmnhjbejofnhaa
