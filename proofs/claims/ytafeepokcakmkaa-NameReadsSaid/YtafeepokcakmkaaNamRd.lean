/- NameReads: the walk. -/
import Derived.Test.YtafeepokcakmkaaNamRP
import Derived.Test.YtafeepokcakmkaaNamBk
import Derived.Outline
namespace Go.Proofs.Ytafeepokcakmkaa
open Go.RowKit

def ReaRel (ss : List ByteArray) (w : World) (k : Nat) (i : Value) (wr : World) : Prop :=
  ∃ j : Nat, i = .int .i64 j ∧ j + k = ss.length ∧ (∀ x ∈ ss.take j, x.size ≤ 300) ∧ wr = w
theorem str_one (ss : List ByteArray) : ∀ u ∈ strVals ss, u.oneCell' = true := by
  intro u hu
  obtain ⟨x, _, rfl⟩ := List.mem_map.1 hu
  rfl
set_option maxHeartbeats 4000000 in
set_option maxRecDepth 100000 in
theorem reads_any (s : ByteArray) (v : Value) (ss : List ByteArray) (hs : s.size < 2 ^ 63) (hsz : ∀ x ∈ ss, x.size < 2 ^ 63) (hl : ss.length < 2 ^ 63) (w : World) (hr : Rd w 1 v ss.length (strVals ss)) :
    Calls Try.prog 4 #[.string s, v] w fun e w' => e = .returned (.bool true) ∧ Kept w w' := by
  have HR := Lib.hid hr
  have HSZ := Lib.hid hsz
  obtain ⟨_, A, c, rfl, _⟩ := hr
  clear hsz
  by_cases hbig : 3000 < s.size ∨ 300 < ss.length
  · have h' : 3000 < (s.size : Int) ∨ (s.size : Int) ≤ 3000 ∧ 300 < (ss.length : Int) := by omega
    clear hbig
    rcases h' with h1 | ⟨h1, h2⟩
    all_goals
      go_enter Try.func4, Try.ntmps4
      go_wp2_with fail
      refine (awake_any _).mono ?_
      rintro e w1 ⟨rfl, m1⟩
      have M := Lib.hid m1
      clear m1
      go_wp2_with fail
      go_ret
      exact ⟨rfl, M.out⟩
  · have h1 : (s.size : Int) ≤ 3000 := by omega
    have h2 : (ss.length : Int) ≤ 300 := by omega
    have h3 : ss.length ≤ 300 := by omega
    have hs3 : s.size ≤ 3000 := by omega
    clear hbig
    obtain ⟨q, hq⟩ : ∃ q, parE s = q := ⟨_, rfl⟩
    obtain ⟨m, hm⟩ : ∃ m, parS2 s = m := ⟨_, rfl⟩
    have C1 := Lib.hid (parse_to s m q (by omega) hm hq)
    have C2 := Lib.hid (fun w => rparse_any s (by omega) w)
    rw [hm, hq] at C2
    have e1 : (m.toList == m.toList) = true := by simp
    have e2 : (q == q) = true := by simp
    clear hm hq
    go_enter Try.func4, Try.ntmps4
    go_wp2_with fail
    go_loopg [5] ss.length (fun k i wr => ReaRel ss w k i wr)
    case atStart => exact ⟨0, rfl, by omega, by simp, rfl⟩
    case round =>
      obtain ⟨j, rfl, hj, hall, rfl⟩ := hrel
      have HJ := Lib.hid hj
      have HA := Lib.hid hall
      by_cases hlt : j < ss.length
      · have HLT := Lib.hid hlt
        obtain ⟨x, hx, hmem⟩ : ∃ x, ss[j]? = some x ∧ x ∈ ss := ⟨_, List.getElem?_eq_getElem hlt, List.getElem_mem hlt⟩
        have hxs := HSZ.out x hmem
        obtain ⟨b1, o1, d1, e3, hb1, g1⟩ := HR.out.at hlt
        injection e3 with e3 _ e3'
        subst e3 e3'
        have f1 := g1 j _ (strVals_get hx)
        have i1 : (j : Int) < (ss.length : Int) := by omega
        have HX := Lib.hid hx
        clear hx hmem g1 hj hall hlt
        by_cases h300 : x.size ≤ 300
        · have i2 : (x.size : Int) ≤ 300 := by omega
          have H3 := Lib.hid h300
          clear h300
          go_wp2_with fail
          go_roundg (ss.length - (j + 1))
          case measure => have := HJ.out; have := HLT.out; omega
          case rel => exact ⟨j + 1, by go_num, by have := HLT.out; omega, take_all HX.out HA.out H3.out, rfl⟩
        · have i2 : 300 < (x.size : Int) := by omega
          clear h300
          go_wp2_with fail
          refine (awake_any _).mono ?_
          rintro e w1 ⟨rfl, m1⟩
          have M := Lib.hid m1
          clear m1
          go_wp2_with fail
          go_ret
          exact ⟨rfl, M.out⟩
      · have i1 : (ss.length : Int) ≤ (j : Int) := by omega
        obtain rfl : j = ss.length := by omega
        rw [List.take_length] at hall
        have hall2 : ∀ x ∈ ss, x.size < 2 ^ 62 := fun x hx => by have := hall x hx; omega
        obtain ⟨jq, hjq⟩ : ∃ q, joinErr (lbs ss) = q := ⟨_, rfl⟩
        obtain ⟨js, hjs⟩ : ∃ q, joinS ss = q := ⟨_, rfl⟩
        have C3 := Lib.hid (fun v w h => join_to v ss js jq (by omega) hall2 hjs hjq w h)
        have C4 := Lib.hid (fun v w h => rjoin_any v ss (by omega) hall2 w h)
        rw [hjs, hjq] at C4
        have C5 := Lib.hid (fun v1 v2 w a c => rtexts_any v1 v2 ss ss (by omega) (by omega) w a c)
        rw [decide_eq_true rfl] at C5
        have e3 : (js.toList == js.toList) = true := by simp
        have e4 : (jq == jq) = true := by simp
        have hoi : ((wr.alloc (.cells #[] 9))).ownsRow wr.heap.size 9 1 (.slice (some ⟨wr.heap.size, 0, none⟩) 0 0) 0 [] := World.ownsRow_made wr #[] 0 (Nat.le_refl _) (by unfold maxLen; omega) (by simp)
        have HOI := Lib.hid hoi
        have HMI := Lib.hid (show Kept wr (wr.alloc (.cells #[] 9)) from (Kept.refl _).alloc _)
        have HRI := Lib.hid (HR.out.kept HMI.out (fun _ _ e => e))
        have HONE := Lib.hid (str_one ss)
        clear hj hall hlt hjq hjs hoi hall2 HA HJ
        go_wp2_with (refine wpList_append_rd 25 9 1 16 elem_str (.tmp 37) (.tmp 38) rfl rfl wr.heap.size (.slice (some ⟨wr.heap.size, 0, none⟩) 0 0) 0 [] rfl HOI.out (.slice A ss.length c) ss.length (strVals ss) rfl HRI.out HONE.out (by unfold maxLen; omega) (by omega) HMI.out.size ?_; intro vi w4 hoj hmj _; have M : Hid (Kept wr w4) := Lib.hid (Mod.trans HMI.out hmj (fun i hi e => by injection e with e; (have e : wr.heap.size = i := e); omega)); rw [Nat.zero_add, List.nil_append] at hoj; have HIN := Lib.hid (show Txs w4 wr.heap.size vi ss from hoj); clear hmj hoj)
        have N : Hid (Kept w4 w4) := Lib.hid (Kept.refl w4)
        refine (C1.out _).mono ?_
        rintro e wq ⟨rfl, mq⟩
        replace M := Lib.hid (M.out.then mq)
        replace N := Lib.hid (N.out.then mq)
        clear mq
        go_wp2_with fail
        refine (C2.out _).mono ?_
        rintro e wq ⟨rfl, mq⟩
        replace M := Lib.hid (M.out.then mq)
        replace N := Lib.hid (N.out.then mq)
        clear mq
        go_wp2_with fail
        refine (C3.out _ _ (HIN.out.kept N.out).rd).mono ?_
        rintro e wq ⟨rfl, mq⟩
        replace M := Lib.hid (M.out.then mq)
        replace N := Lib.hid (N.out.then mq)
        clear mq
        go_wp2_with fail
        refine (C4.out _ _ (HR.out.kept M.out (fun _ _ e => e))).mono ?_
        rintro e wq ⟨rfl, mq⟩
        replace M := Lib.hid (M.out.then mq)
        replace N := Lib.hid (N.out.then mq)
        clear mq
        go_wp2_with fail
        refine (C5.out _ _ _ (HIN.out.kept N.out).rd (HR.out.kept M.out (fun _ _ e => e))).mono ?_
        rintro e wq ⟨rfl, mq⟩
        replace M := Lib.hid (M.out.then mq)
        replace N := Lib.hid (N.out.then mq)
        clear mq
        go_wp2_with fail
        refine (awake_any _).mono ?_
        rintro e wq ⟨rfl, mq⟩
        replace M := Lib.hid (M.out.then mq)
        replace N := Lib.hid (N.out.then mq)
        clear mq
        go_wp2_with fail
        go_ret
        exact ⟨rfl, M.out⟩
end Go.Proofs.Ytafeepokcakmkaa
