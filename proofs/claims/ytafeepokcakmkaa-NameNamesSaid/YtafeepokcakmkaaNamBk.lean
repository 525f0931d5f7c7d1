/- NameBack: the walk. -/
import Derived.Test.YtafeepokcakmkaaNamA
import Derived.Outline
namespace Go.Proofs.Ytafeepokcakmkaa
open Go.RowKit

theorem labels_to (n : ByteArray) (L : List ByteArray) (hn : n.size < 2 ^ 63) (h : splitN (bys n) = some (lbs L)) (w : World) :
    Calls Try.prog 30 #[.string n] w fun e w' => ∃ v, e = .returned v ∧ Txs w' w.heap.size v L ∧ Kept w w' := by
  refine (labels_any n hn w).mono ?_
  rintro e w' ⟨hk, ⟨hs, rfl⟩ | ⟨v, L', hs, rfl, hT⟩⟩
  · rw [h] at hs; cases hs
  · rw [h] at hs
    injection hs with hs
    have := lbs_inj hs
    subst this
    exact ⟨v, rfl, hT, hk⟩
theorem lbs_of {n : ByteArray} {ls : List (List Nat)} (h : splitN (bys n) = some ls) : ∃ L : List ByteArray, lbs L = ls := by
  refine ⟨ls.map mkS, ?_⟩
  unfold lbs
  rw [List.map_map]
  conv => rhs; rw [← List.map_id ls]
  apply List.map_congr_left
  intro l hl
  exact bys_mkS (split_lt h l hl)
theorem size_255 {n : ByteArray} {ls : List (List Nat)} (h : splitN (bys n) = some ls) : n.size ≤ 255 := by
  have := ((splitN_iff _ _).1 h).2.2
  rw [bys_length] at this; exact this
theorem text_len {n : ByteArray} {ls : List (List Nat)} (h : splitN (bys n) = some ls) : (textS n).size ≤ 100000 := by
  unfold textS
  rw [mkS_size]
  unfold textN
  rw [h]
  have h1 := lab_len2 h
  have h2 := ((splitN_iff _ _).1 h).2.1
  cases ls with
  | nil => simp
  | cons l ls =>
    have := say_len (l :: ls) (fun x hx => (h2 x hx).2)
    simp only at this ⊢
    omega
theorem may_some' {n : List Nat} {x : List (List Nat)} (h : splitN n = some x) : mayN n = true := by unfold mayN; rw [h]; rfl
/-- Text, read, is the name. -/
theorem back_parse {n : ByteArray} {ls : List (List Nat)} (h : splitN (bys n) = some ls) : parS2 (textS n) = n ∧ parE (textS n) = 0 := by
  unfold parS2 parE
  rw [bys_textS, parse_text h (split_lt h)]
  exact ⟨mkS_bys n, rfl⟩
theorem back_join {n : ByteArray} {L : List ByteArray} (h : splitN (bys n) = some (lbs L)) : joinS L = n ∧ joinErr (lbs L) = 0 := by
  obtain ⟨h1, h2, h3⟩ := (splitN_iff _ _).1 h
  have h4 : joinErr (lbs L) = 0 := joinErr_ok.2 ⟨h2, by rw [← h1]; exact h3⟩
  unfold joinS
  rw [if_pos h4, ← h1, mkS_bys]
  exact ⟨rfl, h4⟩
theorem join_to (v : Value) (L : List ByteArray) (r : ByteArray) (n : Int) (hL : L.length ≤ 1000000000) (hsz : ∀ x ∈ L, x.size < 2 ^ 62) (hr : joinS L = r) (hn : joinErr (lbs L) = n) (w : World) (h : Rd w 1 v L.length (strVals L)) :
    Calls Try.prog 21 #[v] w fun e w' => e = .returned (.tuple #[.string r, .int .i64 n]) ∧ Kept w w' := by
  subst hr hn; exact join_any v L hL hsz w h
def RS.low (r : RS) : Prop := (∀ l ∈ r.labels, ∀ x ∈ l, x < 256) ∧ ∀ x ∈ r.label, x < 256
theorem RS.low_put {r : RS} (h : r.low) {c : Nat} (hc : c < 256) : (r.put c).low := by
  refine ⟨h.1, ?_⟩
  intro x hx
  rcases List.mem_append.1 hx with hx | hx
  · exact h.2 x hx
  · simp at hx; omega
theorem RS.low_fin {r : RS} (h : r.low) : r.fin.low := by
  refine ⟨?_, by simp [RS.fin]⟩
  intro l hl
  rcases List.mem_append.1 hl with hl | hl
  · exact h.1 l hl
  · simp at hl; subst hl; exact h.2
theorem RS.low_read {r : RS} (h : r.low) (c : Nat) : (r.read c).low := by
  unfold RS.read
  split
  · exact h
  · rename_i hc
    split
    · unfold RS.esc
      split
      · split
        · exact h
        · exact RS.low_put (r := { r with dotted := false, value := _, digits := _, bad := _ }) h (by omega)
      · split
        · exact h
        · exact RS.low_put (r := { r with dotted := false }) h (by omega)
    · split
      · exact h
      · split
        · exact RS.low_fin (r := { r with dotted := true }) h
        · exact RS.low_put (r := { r with dotted := false }) h (by omega)
theorem RS.low_reads (s : List Nat) : ∀ r : RS, r.low → (r.reads s).low := by
  induction s with
  | nil => intro r h; exact h
  | cons c s ih => intro r h; exact ih _ (RS.low_read h c)
theorem parse_lt (s : List Nat) : ∀ x ∈ (parseN s).1, x < 256 := by
  intro x hx
  by_cases he : (parseN s).2 = 0
  · unfold parseN at hx he
    split at he
    · rename_i h46
      rw [if_pos h46] at hx
      simp at hx; omega
    · rename_i h46
      rw [if_neg h46] at hx
      have hl : ((RS.start.reads s).done).low := by
        have h1 := RS.low_reads s RS.start ⟨by simp [RS.start], by simp [RS.start]⟩
        unfold RS.done
        split
        · exact h1
        · exact RS.low_fin h1
      generalize (RS.start.reads s).done = r at *
      unfold RS.ends at hx he
      split at he
      · simp at he
      · rename_i hb
        rw [if_neg hb] at hx
        split at he
        · rename_i hj
          rw [if_pos hj] at hx
          obtain ⟨j1, _⟩ := joinErr_ok.1 hj
          exact join_lt (fun l hl => by have := j1 l hl; unfold LabOk at this; omega) hl.1 x hx
        · simp at he
  · rw [parse_err he] at hx; simp at hx
theorem bys_parS2 (s : ByteArray) : bys (parS2 s) = (parseN (bys s)).1 := bys_mkS (parse_lt _)
theorem par_split {s : ByteArray} (h : parE s = 0) : ∃ ls, splitN (bys (parS2 s)) = some ls := by
  obtain ⟨ls, h1, h2⟩ := parse_ok h
  exact ⟨ls, by rw [bys_parS2]; exact h1⟩
theorem par_err {s : ByteArray} (h : parE s ≠ 0) : parS2 s = ⟨#[]⟩ := by
  unfold parS2
  rw [parse_err h]; rfl
set_option maxHeartbeats 4000000 in
set_option maxRecDepth 100000 in
theorem back_big (n s : ByteArray) (h : 1000 < n.size ∨ 3000 < s.size) (hn : n.size < 2 ^ 63) (hs : s.size < 2 ^ 63) (w : World) :
    Calls Try.prog 10 #[.string n, .string s] w fun e w' => e = .returned (.bool true) ∧ Kept w w' := by
  have h' : 1000 < (n.size : Int) ∨ (n.size : Int) ≤ 1000 ∧ 3000 < (s.size : Int) := by omega
  clear h
  rcases h' with h1 | ⟨h1, h2⟩
  all_goals
    go_enter Try.func10, Try.ntmps10
    go_wp2_with fail
    refine (awake_any _).mono ?_
    rintro e w1 ⟨rfl, m1⟩
    have M := Lib.hid m1
    clear m1
    go_wp2_with fail
    go_ret
    exact ⟨rfl, M.out⟩
/-- What the second half asks of a text. -/
def Half (s : ByteArray) : Prop :=
  (parE s ≠ 0 ∧ parS2 s = ⟨#[]⟩) ∨ (parE s = 0 ∧ ∃ m ls, parS2 s = m ∧ splitN (bys m) = some ls)
set_option maxHeartbeats 4000000 in
set_option maxRecDepth 100000 in
theorem back_small (n s : ByteArray) (h1 : (n.size : Int) ≤ 1000) (h2 : (s.size : Int) ≤ 3000) (w : World) :
    Calls Try.prog 10 #[.string n, .string s] w fun e w' => e = .returned (.bool true) ∧ Kept w w' := by
  obtain ⟨q, hq⟩ : ∃ q, parE s = q := ⟨_, rfl⟩
  obtain ⟨m, hm⟩ : ∃ m, parS2 s = m := ⟨_, rfl⟩
  have CP := Lib.hid (parse_to s m q (by omega) hm hq)
  have CM : mayN (bys n) = false ∨ ∃ L, splitN (bys n) = some (lbs L) := by
    cases h : splitN (bys n) with
    | none => exact .inl (by unfold mayN; rw [h]; rfl)
    | some ls =>
      obtain ⟨L, rfl⟩ := lbs_of h
      exact .inr ⟨L, rfl⟩
  have CH : (q ≠ 0 ∧ m = ⟨#[]⟩) ∨ (q = 0 ∧ ∃ ls, splitN (bys m) = some ls) := by
    by_cases h0 : q = 0
    · right
      refine ⟨h0, ?_⟩
      rw [← hm]
      exact par_split (hq.trans h0)
    · left
      refine ⟨h0, ?_⟩
      rw [← hm]
      exact par_err (by rw [hq]; exact h0)
  clear hq hm
  go_enter Try.func10, Try.ntmps10
  go_wp2_with fail
  refine (awake_any _).mono ?_
  rintro e w1 ⟨rfl, m1⟩
  have M := Lib.hid m1
  clear m1
  go_wp2_with fail
  rcases CM with hn | ⟨L, hL⟩
  · have C0 := Lib.hid (may_to n false (by omega) hn)
    clear hn
    refine (C0.out _).mono ?_
    rintro e wq ⟨rfl, mq⟩
    replace M := Lib.hid (M.out.then mq)
    clear mq
    go_wp2_with fail
    rcases CH with ⟨h0, hm0⟩ | ⟨h0, ls, hls⟩
    · have tq : (q != 0) = true := by simp [h0]
      have te : (m.toList == []) = true := by rw [hm0, ByteArray.toList_eq]; rfl
      have te2 : m.toList.isEmpty = true := by rw [hm0, ByteArray.toList_eq]; rfl
      have te3 : m.toList = [] := by rw [hm0, ByteArray.toList_eq]
      clear h0 hm0
      refine (CP.out _).mono ?_
      rintro e wq ⟨rfl, mq⟩
      replace M := Lib.hid (M.out.then mq)
      clear mq
      go_wp2_with fail
      go_ret
      exact ⟨rfl, M.out⟩
    · have tq : (q != 0) = false := by rw [h0]; rfl
      have hms := size_255 hls
      have D1 := Lib.hid (text_to m (textS m) (by omega) rfl)
      have hbp := back_parse hls
      have D2 := Lib.hid (parse_to (textS m) m 0 (by have := text_len hls; omega) hbp.1 hbp.2)
      have D3 := Lib.hid (may_to m true (by omega) (by unfold mayN; rw [hls]; rfl))
      obtain ⟨T, hT⟩ : ∃ T, T = textS m := ⟨_, rfl⟩
      rw [← hT] at D1 D2
      have htl : (T.size : Int) ≤ 100000 := by rw [hT]; have := text_len hls; omega
      obtain ⟨tt, htt⟩ := text_dot hls
      have hTb : bys T = tt ++ [46] := by rw [hT, bys_textS, htt]
      have hpos : 0 < T.size := by rw [← bys_length, hTb]; simp
      have hidx : (T[T.size - 1]'(by omega)).toNat = 46 := by
        have h1 := bys_get T (show T.size - 1 < T.size by omega)
        rw [hTb, List.getElem?_append_right (by rw [← bys_length, hTb]; simp)] at h1
        have e : T.size - 1 - tt.length = 0 := by rw [← bys_length, hTb]; simp
        rw [e] at h1
        exact (Option.some.inj h1).symm
      have hidx2 : ((T[T.size - 1]'(by omega)).toNat : Int) = 46 := by omega
      have hpos2 : (0 : Int) < (T.size : Int) := by omega
      clear hT hls hbp htt hTb hidx h0
      refine (CP.out _).mono ?_
      rintro e wq ⟨rfl, mq⟩
      replace M := Lib.hid (M.out.then mq)
      clear mq
      go_wp2_with fail
      refine (D1.out _).mono ?_
      rintro e wq ⟨rfl, mq⟩
      replace M := Lib.hid (M.out.then mq)
      clear mq
      go_wp2_with fail
      refine (D2.out _).mono ?_
      rintro e wq ⟨rfl, mq⟩
      replace M := Lib.hid (M.out.then mq)
      clear mq
      go_wp2_with fail
      refine (D3.out _).mono ?_
      rintro e wq ⟨rfl, mq⟩
      replace M := Lib.hid (M.out.then mq)
      clear mq
      go_wp2_with fail
      refine (D1.out _).mono ?_
      rintro e wq ⟨rfl, mq⟩
      replace M := Lib.hid (M.out.then mq)
      clear mq
      go_wp2_with fail
      go_ret
      exact ⟨rfl, M.out⟩
  · have hns := size_255 hL
    have C0 := Lib.hid (may_to n true (by omega) (may_some' hL))
    have C1 := Lib.hid (text_to n (textS n) (by omega) rfl)
    have hbp := back_parse hL
    have C2 := Lib.hid (parse_to (textS n) n 0 (by have := text_len hL; omega) hbp.1 hbp.2)
    have C3 := Lib.hid (labels_to n L (by omega) hL)
    have hbj := back_join hL
    have hLl := labs_len hL
    have hLo := labs_ok hL
    have C4 := Lib.hid (fun (v : Value) w h => join_to v L n 0 (by omega) (fun x hx => by have := hLo x hx; omega) hbj.1 hbj.2 w h)
    clear hL hbp hbj hLl hLo
    refine (C0.out _).mono ?_
    rintro e wq ⟨rfl, mq⟩
    replace M := Lib.hid (M.out.then mq)
    clear mq
    go_wp2_with fail
    refine (C1.out _).mono ?_
    rintro e wq ⟨rfl, mq⟩
    replace M := Lib.hid (M.out.then mq)
    clear mq
    go_wp2_with fail
    refine (C2.out _).mono ?_
    rintro e wq ⟨rfl, mq⟩
    replace M := Lib.hid (M.out.then mq)
    clear mq
    go_wp2_with fail
    refine (C3.out _).mono ?_
    rintro e wq ⟨v, rfl, hT, mq⟩
    replace M := Lib.hid (M.out.then mq)
    clear mq
    go_wp2_with fail
    refine (C4.out v _ hT.rd).mono ?_
    rintro e wq ⟨rfl, mq⟩
    replace M := Lib.hid (M.out.then mq)
    clear mq hT
    go_wp2_with fail
    rcases CH with ⟨h0, hm0⟩ | ⟨h0, ls, hls⟩
    · have tq : (q != 0) = true := by simp [h0]
      have te : (m.toList == []) = true := by rw [hm0, ByteArray.toList_eq]; rfl
      have te2 : m.toList.isEmpty = true := by rw [hm0, ByteArray.toList_eq]; rfl
      have te3 : m.toList = [] := by rw [hm0, ByteArray.toList_eq]
      clear h0 hm0
      refine (CP.out _).mono ?_
      rintro e wq ⟨rfl, mq⟩
      replace M := Lib.hid (M.out.then mq)
      clear mq
      go_wp2_with fail
      go_ret
      exact ⟨rfl, M.out⟩
    · have tq : (q != 0) = false := by rw [h0]; rfl
      have hms := size_255 hls
      have D1 := Lib.hid (text_to m (textS m) (by omega) rfl)
      have hbp := back_parse hls
      have D2 := Lib.hid (parse_to (textS m) m 0 (by have := text_len hls; omega) hbp.1 hbp.2)
      have D3 := Lib.hid (may_to m true (by omega) (by unfold mayN; rw [hls]; rfl))
      obtain ⟨T, hT⟩ : ∃ T, T = textS m := ⟨_, rfl⟩
      rw [← hT] at D1 D2
      have htl : (T.size : Int) ≤ 100000 := by rw [hT]; have := text_len hls; omega
      obtain ⟨tt, htt⟩ := text_dot hls
      have hTb : bys T = tt ++ [46] := by rw [hT, bys_textS, htt]
      have hpos : 0 < T.size := by rw [← bys_length, hTb]; simp
      have hidx : (T[T.size - 1]'(by omega)).toNat = 46 := by
        have h1 := bys_get T (show T.size - 1 < T.size by omega)
        rw [hTb, List.getElem?_append_right (by rw [← bys_length, hTb]; simp)] at h1
        have e : T.size - 1 - tt.length = 0 := by rw [← bys_length, hTb]; simp
        rw [e] at h1
        exact (Option.some.inj h1).symm
      have hidx2 : ((T[T.size - 1]'(by omega)).toNat : Int) = 46 := by omega
      have hpos2 : (0 : Int) < (T.size : Int) := by omega
      clear hT hls hbp htt hTb hidx h0
      refine (CP.out _).mono ?_
      rintro e wq ⟨rfl, mq⟩
      replace M := Lib.hid (M.out.then mq)
      clear mq
      go_wp2_with fail
      refine (D1.out _).mono ?_
      rintro e wq ⟨rfl, mq⟩
      replace M := Lib.hid (M.out.then mq)
      clear mq
      go_wp2_with fail
      refine (D2.out _).mono ?_
      rintro e wq ⟨rfl, mq⟩
      replace M := Lib.hid (M.out.then mq)
      clear mq
      go_wp2_with fail
      refine (D3.out _).mono ?_
      rintro e wq ⟨rfl, mq⟩
      replace M := Lib.hid (M.out.then mq)
      clear mq
      go_wp2_with fail
      refine (D1.out _).mono ?_
      rintro e wq ⟨rfl, mq⟩
      replace M := Lib.hid (M.out.then mq)
      clear mq
      go_wp2_with fail
      go_ret
      exact ⟨rfl, M.out⟩
theorem back_any (n s : ByteArray) (hn : n.size < 2 ^ 63) (hs : s.size < 2 ^ 63) (w : World) :
    Calls Try.prog 10 #[.string n, .string s] w fun e w' => e = .returned (.bool true) ∧ Kept w w' := by
  by_cases h : 1000 < n.size ∨ 3000 < s.size
  · exact back_big n s h hn hs w
  · exact back_small n s (by omega) (by omega) w
end Go.Proofs.Ytafeepokcakmkaa
