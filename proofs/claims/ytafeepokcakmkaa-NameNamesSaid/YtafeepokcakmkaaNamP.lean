/- A name's labels, walked: split, May, Labels. Conditions: texts that a memory may hold. -/
import Derived.Test.YtafeepokcakmkaaNamF
import Derived.Test.YtafeepokcakmkaaOwn
namespace Go.Proofs.Ytafeepokcakmkaa
open Go.RowKit

def SplitRel (n : ByteArray) (w : World) (k : Nat) (vn vl : Value) (wr : World) : Prop :=
  ∃ (t : ByteArray) (L : List ByteArray), vn = .string t ∧ t.size = k ∧ t.size + L.length ≤ 255 ∧ Txs wr w.heap.size vl L ∧ Left (bys n) (lbs L) (bys t) ∧ Kept w wr
/-- What split hands back. -/
def SplitTo (n : ByteArray) (w : World) (e : Ending) (w' : World) : Prop :=
  Kept w w' ∧ ((splitN (bys n) = none ∧ e = .returned (.tuple #[.slice none 0 0, .bool false])) ∨
    ∃ v L, splitN (bys n) = some (lbs L) ∧ e = .returned (.tuple #[v, .bool true]) ∧ Txs w' w.heap.size v L)
def FirstTo (n : ByteArray) (e : Ending) : Prop :=
  (firstN (bys n) = none ∧ e = .returned (.tuple #[.string ⟨#[]⟩, .string ⟨#[]⟩, .bool false])) ∨
       ∃ a r, firstN (bys n) = some (bys a, bys r) ∧ e = .returned (.tuple #[.string a, .string r, .bool true])
theorem first_to (n : ByteArray) (hn : n.size < 2 ^ 63) (w : World) :
    Calls Try.prog 50 #[.string n] w fun e w' => Kept w w' ∧ FirstTo n e := first_any n hn w
theorem root_bys {t : ByteArray} (h : t = ⟨#[0]⟩) : bys t = [0] := by rw [h]; rfl
set_option maxHeartbeats 1000000 in
theorem split_any (n : ByteArray) (hn : n.size < 2 ^ 63) (w : World) :
    Calls Try.prog 49 #[.string n] w (SplitTo n w) := by
  by_cases hl : n.size ≤ 255
  · have hl' : ¬ (255 : Int) < (n.size : Int) := by omega
    have HS := Lib.hid (show splitN (bys n) = goA (bys n) from splitN_goA (by rw [bys_length]; exact hl))
    go_enter Try.func49, Try.ntmps49
    go_wp2_with fail
    go_loopg [0, 2] n.size (fun k vn vl wr => SplitRel n w k vn vl wr)
    case atStart => exact ⟨n, [], rfl, rfl, by simpa using hl, Txs.nil _ _, Left.start _, Kept.refl _⟩
    case round =>
      obtain ⟨t, L, rfl, hk, hsz, hT, hL, hm⟩ := hrel
      have HK := Lib.hid hk
      have HL := Lib.hid hL
      have M := Lib.hid hm
      have ht63 : t.size < 2 ^ 63 := by omega
      clear hk hL hm
      by_cases hr : bys t = [0]
      · have t0 : (t.toList == [0]) = true := by rw [eq_lit, decide_eq_true_eq]; exact hr
        have HR := Lib.hid hr
        clear hr
        go_wp2_with fail
        refine bodyPost_ret (v := .tuple #[u2, .bool true]) (by simp [results, Try.results49, go_sem]) rfl ⟨M.out, .inr ⟨_, L, ?_, rfl, hT⟩⟩
        rw [HS.out]
        have := HL.out
        rw [HR.out] at this
        exact this.root
      · have t0 : (t.toList == [0]) = false := by rw [eq_lit, decide_eq_false_iff_not]; exact hr
        have HR := Lib.hid hr
        have hlow := hT.lt
        have HLOW := Lib.hid hlow
        clear hr hlow
        go_wp2_with fail
        refine (first_to t ht63 _).mono ?_
        rintro e w1 ⟨m1, ⟨hf, rfl⟩ | ⟨a, r, hf, rfl⟩⟩
        · have HF := Lib.hid hf
          replace M := Lib.hid (M.out.then m1)
          clear hf m1
          go_wp2_with fail
          refine bodyPost_ret (v := .tuple #[.slice none 0 0, .bool false]) (by simp [results, Try.results49, go_sem]) rfl ⟨M.out, .inl ⟨?_, rfl⟩⟩
          rw [HS.out]
          exact HL.out.none (goA_first_none HF.out HR.out)
        · have hg := goA_first_some hf
          have hsz2 : (bys a).length + (bys r).length + 1 = (bys t).length := by
            cases hb : bys t with
            | nil => rw [hb] at hf; cases hf
            | cons c x =>
              rw [hb] at hf
              simp only [firstN] at hf
              split at hf
              · cases hf
              · injection hf with hf
                injection hf with h1 h2
                rw [← h1, ← h2]
                simp only [List.length_take, List.length_drop, List.length_cons]
                omega
          rw [bys_length, bys_length, bys_length] at hsz2
          have HZ := Lib.hid hsz2
          have HG := Lib.hid hg
          replace hT := hT.kept m1
          replace M := Lib.hid (M.out.then m1)
          clear hf m1 hg hsz2
          go_wp2_with (refine wpList_push 25 9 1 16 22 elem_str (.tmp 21) (.tmp 20) rfl rfl rfl rfl rfl (by simp) (.string a) rfl rfl (by simp [Value.cells, Value.oneCell']) _ _ _ _ rfl hT (by unfold maxLen; omega) (by omega) M.out.size ?_; intro v' w4 hown1 hm1 _; have M2 : Hid (Kept w w4) := Lib.hid (Mod.trans M.out hm1 (fun i hi e => by have := (HLOW.out i e).1; omega)); clear hm1 hT)
          go_roundg r.size
          case measure => have := HZ.out; have := HK.out; omega
          case rel => exact ⟨r, L ++ [a], rfl, rfl, by have := HZ.out; rw [List.length_append]; simp only [List.length_cons, List.length_nil]; omega, Txs.snoc hown1, by unfold lbs at HL ⊢; rw [List.map_append]; exact HL.out.step HG.out.1, M2.out⟩
  · have hl' : (255 : Int) < (n.size : Int) := by omega
    have HS := Lib.hid (show splitN (bys n) = none from splitN_long (by rw [bys_length]; omega))
    go_enter Try.func49, Try.ntmps49
    go_wp2_with fail
    exact bodyPost_ret (v := .tuple #[.slice none 0 0, .bool false]) (by simp [results, Try.results49, go_sem]) rfl ⟨Kept.refl _, .inl ⟨HS.out, rfl⟩⟩
theorem may_any (n : ByteArray) (hn : n.size < 2 ^ 63) (w : World) :
    Calls Try.prog 24 #[.string n] w fun e w' => e = .returned (.bool (mayN (bys n))) ∧ Kept w w' := by
  go_enter Try.func24, Try.ntmps24
  go_wp2_with fail
  refine (split_any n hn _).mono ?_
  rintro e w1 ⟨m1, ⟨hs, rfl⟩ | ⟨v, L, hs, rfl, hT⟩⟩
  · have HS := Lib.hid hs
    have M := Lib.hid m1
    clear hs m1
    go_wp2_with fail
    go_ret
    exact ⟨by unfold mayN; rw [HS.out]; rfl, M.out⟩
  · have HS := Lib.hid hs
    have M := Lib.hid m1
    clear hs m1
    go_wp2_with fail
    go_ret
    exact ⟨by unfold mayN; rw [HS.out]; rfl, M.out⟩
/-- What Labels hands back. -/
def LabTo (n : ByteArray) (w : World) (e : Ending) (w' : World) : Prop :=
  Kept w w' ∧ ((splitN (bys n) = none ∧ e = .returned (.slice none 0 0)) ∨ ∃ v L, splitN (bys n) = some (lbs L) ∧ e = .returned v ∧ Txs w' w.heap.size v L)
theorem labels_any (n : ByteArray) (hn : n.size < 2 ^ 63) (w : World) : Calls Try.prog 30 #[.string n] w (LabTo n w) := by
  go_enter Try.func30, Try.ntmps30
  go_wp2_with fail
  refine (split_any n hn _).mono ?_
  rintro e w1 ⟨m1, ⟨hs, rfl⟩ | ⟨v, L, hs, rfl, hT⟩⟩
  · have HS := Lib.hid hs
    have M := Lib.hid m1
    clear hs m1
    go_wp2_with fail
    go_ret
    exact ⟨M.out, .inl ⟨HS.out, rfl⟩⟩
  · have HS := Lib.hid hs
    have M := Lib.hid m1
    clear hs m1
    go_wp2_with fail
    go_ret
    exact ⟨M.out, .inr ⟨v, L, HS.out, rfl, hT⟩⟩
end Go.Proofs.Ytafeepokcakmkaa
