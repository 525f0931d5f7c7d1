/- NameLetters: the walk. -/
import Derived.Test.YtafeepokcakmkaaNamTe
import Derived.Test.YtafeepokcakmkaaNamU
import Derived.Outline
namespace Go.Proofs.Ytafeepokcakmkaa
open Go.RowKit

/-- Two names whose bytes differ by their letters' case alone. -/
theorem low_nonletter {c d : Nat} (h : lowN c = lowN d) (hc : c ≤ 64) : d = c := by
  unfold lowN at h
  split at h <;> split at h <;> omega
theorem goN_low : ∀ (f : Nat) (n m : List Nat) (ls : List (List Nat)), lowL n = lowL m → goN f n = some ls → ∃ ks, goN f m = some ks ∧ ks.map lowL = ls.map lowL
  | 0, _, _, _, _, h => by simp [goN] at h
  | _ + 1, [], _, _, _, h => by simp [goN] at h
  | f + 1, c :: t, m, ls, hl, h => by
    cases m with
    | nil => simp [lowL] at hl
    | cons d s =>
      simp only [lowL, List.map_cons, List.cons.injEq] at hl
      obtain ⟨h1, h2⟩ := hl
      have hlen : t.length = s.length := by have := congrArg List.length h2; simpa using this
      simp only [goN] at h
      by_cases hc : c = 0
      · rw [if_pos hc] at h
        have hd := low_nonletter h1 (by omega)
        split at h
        · rename_i ht
          injection h with h
          subst h
          refine ⟨[], ?_, rfl⟩
          simp only [goN]
          rw [if_pos (by omega), if_pos (List.eq_nil_of_length_eq_zero (by rw [← hlen, ht]; rfl))]
        · cases h
      · rw [if_neg hc] at h
        split at h
        · cases h
        · rename_i hx
          have hd := low_nonletter h1 (by omega)
          rw [Option.map_eq_some_iff] at h
          obtain ⟨ls', h3, rfl⟩ := h
          have hdrop : lowL (t.drop c) = lowL (s.drop c) := by
            unfold lowL
            rw [List.map_drop, List.map_drop, h2]
          obtain ⟨ks, h4, h5⟩ := goN_low f _ _ _ hdrop h3
          refine ⟨s.take c :: ks, ?_, ?_⟩
          · simp only [goN]
            rw [if_neg (by omega), hd, if_neg (by omega), h4]
            rfl
          · rw [List.map_cons, List.map_cons, h5]
            congr 1
            unfold lowL
            rw [List.map_take, List.map_take, h2]
theorem split_alike {n m : List Nat} {ls : List (List Nat)} (hl : lowL n = lowL m) (h : splitN n = some ls) : ∃ ks, splitN m = some ks ∧ ks.map lowL = ls.map lowL := by
  have hlen : n.length = m.length := by have := congrArg List.length hl; rw [lowL_length, lowL_length] at this; exact this
  unfold splitN at h ⊢
  split at h
  · cases h
  · rw [if_neg (by omega), ← hlen]
    exact goN_low _ _ _ _ hl h
/-- The other case of a letter. -/
theorem flip_low {c d : Nat} (hc : 97 ≤ c ∧ c ≤ 122 ∧ d = c - 32 ∨ 65 ≤ c ∧ c ≤ 90 ∧ d = c + 32) : lowN d = lowN c := by
  unfold lowN
  rcases hc with ⟨h1, h2, rfl⟩ | ⟨h1, h2, rfl⟩
  · rw [if_pos (by omega), if_neg (by omega)]; omega
  · rw [if_neg (by omega), if_pos (by omega)]
theorem xor_32 : ∀ c : Nat, c < 256 → (97 ≤ c ∧ c ≤ 122 → bits .xor .u8 (c : Int) 32 = ((c - 32 : Nat) : Int)) ∧ (65 ≤ c ∧ c ≤ 90 → bits .xor .u8 (c : Int) 32 = ((c + 32 : Nat) : Int)) := by
  intro c hc
  have h : ∀ c : Fin 256, (97 ≤ c.val ∧ c.val ≤ 122 → bits .xor .u8 (c.val : Int) 32 = ((c.val - 32 : Nat) : Int)) ∧ (65 ≤ c.val ∧ c.val ≤ 90 → bits .xor .u8 (c.val : Int) 32 = ((c.val + 32 : Nat) : Int)) := by decide +kernel
  exact h ⟨c, hc⟩
def TrnRel (n : ByteArray) (len : Nat) (g : Nat) (w : World) (k : Nat) (i : Value) (wr : World) : Prop :=
  ∃ (j : Nat) (l : List Nat), i = .int .i64 j ∧ j + k = len ∧ l.length = n.size ∧ (∀ x ∈ l, x < 256) ∧ lowL l = lowL (bys n) ∧ Byt wr g (u8s l) ∧ Kept w wr
set_option maxHeartbeats 2000000 in
set_option maxRecDepth 100000 in
theorem turned_any (n : ByteArray) (v : Value) (ds : List Nat) (hd : ∀ x ∈ ds, x < 256) (hdl : ds.length ≤ 300) (hn : n.size ≤ 1000) (w : World) (hr : Rd w 1 v ds.length (u8s ds)) :
    Calls Try.prog 25 #[.string n, v] w fun e w' => ∃ m, e = .returned (.string m) ∧ m.size = n.size ∧ lowL (bys m) = lowL (bys n) ∧ Kept w w' := by
  obtain ⟨c, w1, hcv, hb, hm⟩ := run_bytes n w
  have HB := Lib.hid hb
  have M := Lib.hid hm
  obtain ⟨g, hgg⟩ : ∃ g, g = w.heap.size := ⟨_, rfl⟩
  rw [← hgg] at hcv HB
  have HG := Lib.hid hgg
  have HR := Lib.hid hr
  have HD := Lib.hid hd
  obtain ⟨_, A, c2, rfl, _⟩ := hr
  clear hb hm hgg hd
  go_enter Try.func25, Try.ntmps25
  go_wp2_with fail
  go_loopg [6, 7, 8] ds.length (fun k i _ _ wr => TrnRel n ds.length g w k i wr)
  case atStart => exact ⟨0, bys n, rfl, by omega, bys_length n, bys_lt n, rfl, HB.out, M.out⟩
  case round =>
    obtain ⟨j, l, rfl, hj, hll, hl256, hlow, hB, hm⟩ := hrel
    have HJ := Lib.hid hj
    have HLL := Lib.hid hll
    have HL2 := Lib.hid hl256
    have HLOW := Lib.hid hlow
    have HB2 := Lib.hid hB
    have M2 := Lib.hid hm
    have hjl : j ≤ ds.length := by omega
    by_cases hlt : j < ds.length ∧ 0 < n.size
    · obtain ⟨hlt, hn0⟩ := hlt
      have i1 : (j : Int) < (ds.length : Int) := by omega
      have i2 : (0 : Int) < (n.size : Int) := by omega
      obtain ⟨d, hd, hmem⟩ : ∃ d, ds[j]? = some d ∧ d ∈ ds := ⟨_, List.getElem?_eq_getElem hlt, List.getElem_mem hlt⟩
      have hd256 := HD.out d hmem
      obtain ⟨b1, o1, d1, e1, hb1, g1⟩ := (HR.out.kept M2.out (fun _ _ e => e)).at hlt
      injection e1 with e1 _ e1'
      subst e1 e1'
      have f1 := g1 j _ (u8s_get hd)
      obtain ⟨q, hq⟩ : ∃ q, q = d % n.size := ⟨_, rfl⟩
      have hqI : (d : Int) % (n.size : Int) = (q : Int) := by omega
      have hqn : q < n.size := by rw [hq]; exact Nat.mod_lt _ hn0
      obtain ⟨x, hx⟩ : ∃ x, l[q]? = some x := ⟨_, List.getElem?_eq_getElem (by omega)⟩
      have hx256 := hl256 x (List.mem_of_getElem? hx)
      have f2 := hB.cell (u8s_get hx)
      have f3 : wr.frozen? ⟨g, q, none⟩ = false := hB.frozen (by rw [u8s_length]; omega)
      have i3 : (q : Int) < (n.size : Int) := by omega
      have HX := Lib.hid hx
      have HLT := Lib.hid hlt
      have hkeep : ∀ y, y < 256 → lowN y = lowN x → TrnRel n ds.length g w (ds.length - (j + 1)) (.int .i64 ((j : Int) + 1)) (wr.setCell ⟨g, q, none⟩ (.int .u8 (y : Int))) := by
        intro y hy hyx
        refine ⟨j + 1, l.set q y, by go_num, by omega, by rw [List.length_set]; exact hll, ?_, ?_, ?_, ?_⟩
        · intro z hz
          rcases List.mem_or_eq_of_mem_set hz with hz | rfl
          · exact hl256 z hz
          · exact hy
        · rw [← hlow]
          unfold lowL
          rw [List.map_set, hyx]
          obtain ⟨hql, hqx⟩ := List.getElem?_eq_some_iff.1 hx
          refine List.ext_getElem? fun k => ?_
          rw [List.getElem?_set]
          split
          · rename_i e
            subst e
            rw [if_pos (by rw [List.length_map]; exact hql), List.getElem?_map, hx]; rfl
          · rfl
        · have := hB.set q (.int .u8 (y : Int))
          unfold u8s at this ⊢
          rw [List.map_set]
          exact this
        · have := HG.out
          subst this
          exact hm.only ((Mod.refl (Only w.heap.size) _).at _ _) (Nat.le_refl _)
      have HKEEP := Lib.hid hkeep
      have HSAME := Lib.hid (show TrnRel n ds.length g w (ds.length - (j + 1)) (.int .i64 ((j : Int) + 1)) wr from ⟨j + 1, l, by go_num, by omega, hll, hl256, hlow, hB, hm⟩)
      have hcase : (97 ≤ (x : Int) ∧ (x : Int) ≤ 122 ∧ ∃ y : Nat, bits .xor .u8 (x : Int) 32 = (y : Int) ∧ y < 256 ∧ lowN y = lowN x) ∨ ((x : Int) < 97 ∧ 65 ≤ (x : Int) ∧ (x : Int) ≤ 90 ∧ ∃ y : Nat, bits .xor .u8 (x : Int) 32 = (y : Int) ∧ y < 256 ∧ lowN y = lowN x) ∨
          (x : Int) < 65 ∧ (x : Int) < 97 ∨ (x : Int) < 97 ∧ 65 ≤ (x : Int) ∧ 90 < (x : Int) ∨ 97 ≤ (x : Int) ∧ 122 < (x : Int) ∧ 65 ≤ (x : Int) ∧ 90 < (x : Int) := by
        by_cases h1 : 97 ≤ x ∧ x ≤ 122
        · exact .inl ⟨by omega, by omega, _, (xor_32 x hx256).1 h1, by omega, flip_low (.inl ⟨h1.1, h1.2, rfl⟩)⟩
        · by_cases h2 : 65 ≤ x ∧ x ≤ 90
          · exact .inr (.inl ⟨by omega, by omega, by omega, _, (xor_32 x hx256).2 h2, by omega, flip_low (.inr ⟨h2.1, h2.2, rfl⟩)⟩)
          · omega
      clear hj hll hl256 hlow hB hm hlt hn0 hd hmem g1 hq hqn hx hkeep
      rcases hcase with ⟨k1, k2, y, hy, hy2, hy3⟩ | ⟨k1, k2, k3, y, hy, hy2, hy3⟩ | ⟨k1, k2⟩ | ⟨k1, k2, k3⟩ | ⟨k1, k2, k3, k4⟩
      · have HY := Lib.hid hy3
        clear hy3
        go_wp2_with fail
        go_roundg (ds.length - (j + 1))
        case measure => have := HJ.out; have := HLT.out; omega
        case rel => exact HKEEP.out y hy2 HY.out
      · have HY := Lib.hid hy3
        clear hy3
        go_wp2_with fail
        go_roundg (ds.length - (j + 1))
        case measure => have := HJ.out; have := HLT.out; omega
        case rel => exact HKEEP.out y hy2 HY.out
      all_goals
        go_wp2_with fail
        go_roundg (ds.length - (j + 1))
        case measure => have := HJ.out; have := HLT.out; omega
        case rel => exact HSAME.out
    · have i1 : (ds.length : Int) ≤ (j : Int) ∨ (j : Int) < (ds.length : Int) ∧ (n.size : Int) ≤ 0 := by omega
      have hrt := run_text c hB hl256 n.size (by omega)
      have HSZ := Lib.hid (show (mkS l).size = n.size by rw [mkS_size, hll])
      have HLO := Lib.hid (show lowL (bys (mkS l)) = lowL (bys n) by rw [bys_mkS hl256, hlow])
      clear hj hll hl256 hlow hB hm hlt
      rcases i1 with i1 | ⟨i1, i2⟩
      all_goals
        go_wp2_with fail
        go_ret
        exact ⟨mkS l, rfl, HSZ.out, HLO.out, M2.out⟩
theorem fold_alike {n m : List Nat} {ls : List (List Nat)} (hl : lowL n = lowL m) (h : splitN n = some ls) : foldN m = foldN n ∧ mayN m = true ∧ sameN n m = true := by
  obtain ⟨ks, h1, h2⟩ := split_alike hl h
  refine ⟨by rw [fold_some h, fold_some h1, h2], may_some h1, ?_⟩
  rw [sameN_eq h h1, h2]
  exact decide_eq_true rfl
theorem cmp_alike {n m b : List Nat} {ls : List (List Nat)} (hl : lowL n = lowL m) (h : splitN n = some ls) : cmpN m b = cmpN n b := by
  obtain ⟨ks, h1, h2⟩ := split_alike hl h
  unfold cmpN keyN
  rw [h, h1]
  cases splitN b with
  | none => rfl
  | some y =>
    show cmpR (ks.map lowL).reverse _ = cmpR (ls.map lowL).reverse _
    rw [h2]
theorem within_alike {n m b : List Nat} {ls : List (List Nat)} (hl : lowL n = lowL m) (h : splitN n = some ls) : withinN m b = withinN n b ∧ withinN b m = withinN b n := by
  obtain ⟨ks, h1, h2⟩ := split_alike hl h
  unfold withinN
  rw [h, h1]
  cases splitN b with
  | none => exact ⟨rfl, rfl⟩
  | some y =>
    refine ⟨?_, ?_⟩
    · show decide (_ <:+ ks.map lowL) = decide (_ <:+ ls.map lowL)
      rw [h2]
    · show decide (ks.map lowL <:+ _) = decide (ls.map lowL <:+ _)
      rw [h2]
set_option maxHeartbeats 4000000 in
set_option maxRecDepth 100000 in
theorem let_big (a b : ByteArray) (v : Value) (ds : List Nat) (h : 1000 < a.size ∨ 1000 < b.size ∨ 300 < ds.length) (ha : a.size < 2 ^ 63) (hb : b.size < 2 ^ 63) (hdl : ds.length < 2 ^ 63) (w : World) (hr : Rd w 1 v ds.length (u8s ds)) :
    Calls Try.prog 7 #[.string a, .string b, v] w fun e w' => e = .returned (.bool true) ∧ Kept w w' := by
  obtain ⟨_, A, c, rfl, _⟩ := hr
  have h' : 1000 < (a.size : Int) ∨ (a.size : Int) ≤ 1000 ∧ 1000 < (b.size : Int) ∨ (a.size : Int) ≤ 1000 ∧ (b.size : Int) ≤ 1000 ∧ 300 < (ds.length : Int) := by omega
  clear h
  rcases h' with h0 | ⟨h0, h1⟩ | ⟨h0, h1, h2⟩
  all_goals
    go_enter Try.func7, Try.ntmps7
    go_wp2_with fail
    refine (awake_any _).mono ?_
    rintro e w1 ⟨rfl, m1⟩
    have M := Lib.hid m1
    clear m1
    go_wp2_with fail
    go_ret
    exact ⟨rfl, M.out⟩
set_option maxHeartbeats 4000000 in
set_option maxRecDepth 100000 in
theorem let_none (a b : ByteArray) (v : Value) (ds : List Nat) (h1 : (a.size : Int) ≤ 1000) (h2 : (b.size : Int) ≤ 1000) (h3 : (ds.length : Int) ≤ 300) (p q : Bool) (hp : mayN (bys a) = p) (hq : mayN (bys b) = q) (h : p = false ∨ p = true ∧ q = false) (w : World) (hr : Rd w 1 v ds.length (u8s ds)) :
    Calls Try.prog 7 #[.string a, .string b, v] w fun e w' => e = .returned (.bool true) ∧ Kept w w' := by
  obtain ⟨_, A, c, rfl, _⟩ := hr
  have C1 := Lib.hid (may_to a p (by omega) hp)
  have C2 := Lib.hid (may_to b q (by omega) hq)
  clear hp hq
  rcases h with rfl | ⟨rfl, rfl⟩
  all_goals
    go_enter Try.func7, Try.ntmps7
    go_wp2_with fail
    refine (awake_any _).mono ?_
    rintro e w1 ⟨rfl, m1⟩
    have M := Lib.hid m1
    clear m1
    go_wp2_with fail
    refine (C1.out _).mono ?_
    rintro e wq ⟨rfl, mq⟩
    replace M := Lib.hid (M.out.then mq)
    clear mq
    go_wp2_with fail
    first
      | (go_ret; exact ⟨rfl, M.out⟩)
      | ((with_reducible refine (C2.out _).mono ?_); rintro e wq ⟨rfl, mq⟩; replace M := Lib.hid (M.out.then mq); clear mq; go_wp2_with fail; go_ret; exact ⟨rfl, M.out⟩)
set_option maxHeartbeats 4000000 in
set_option maxRecDepth 100000 in
theorem let_all (a b : ByteArray) (v : Value) (ds : List Nat) (h1 : (a.size : Int) ≤ 1000) (h2 : (b.size : Int) ≤ 1000) (h3 : (ds.length : Int) ≤ 300) (hd : ∀ x ∈ ds, x < 256) (x y : List (List Nat)) (hx : splitN (bys a) = some x) (hy : splitN (bys b) = some y) (w : World) (hr : Rd w 1 v ds.length (u8s ds)) :
    Calls Try.prog 7 #[.string a, .string b, v] w fun e w' => e = .returned (.bool true) ∧ Kept w w' := by
  have C1 := Lib.hid (may_to a true (by omega) (may_some hx))
  have C2 := Lib.hid (may_to b true (by omega) (may_some hy))
  have CT := Lib.hid (fun w h => turned_any a v ds hd (by omega) (by omega) w h)
  have HX := Lib.hid hx
  have HR := Lib.hid hr
  obtain ⟨_, A, c, rfl, _⟩ := hr
  obtain ⟨fa, hfa⟩ : ∃ f, foldS a = f := ⟨_, rfl⟩
  obtain ⟨X, hX⟩ : ∃ X, cmpN (bys a) (bys b) = X := ⟨_, rfl⟩
  obtain ⟨W1, hW1⟩ : ∃ X, withinN (bys a) (bys b) = X := ⟨_, rfl⟩
  obtain ⟨W2, hW2⟩ : ∃ X, withinN (bys b) (bys a) = X := ⟨_, rfl⟩
  have F1 := Lib.hid (fold_to a fa (by omega) hfa)
  have G1 := Lib.hid (compare_to a b X (by omega) (by omega) hX)
  have I1 := Lib.hid (within_to a b W1 (by omega) (by omega) hW1)
  have J1 := Lib.hid (within_to b a W2 (by omega) (by omega) hW2)
  have hff : fa.size < 2 ^ 63 ∧ foldS fa = fa := by
    refine ⟨?_, ?_⟩
    · rw [← hfa]
      unfold foldS
      rw [mkS_size, fold_some hx, joinN_length_low, ← ((splitN_iff _ _).1 hx).1, bys_length]
      omega
    · rw [← hfa]
      unfold foldS
      rw [bys_mkS (fold_lt a), fold_idem]
  have F2 := Lib.hid (fold_to fa fa hff.1 hff.2)
  have e1 : (fa.toList == fa.toList) = true := by simp
  have e2 : (X == X) = true := by simp
  have e3 : (W1 == W1) = true := by simp
  have e4 : (W2 == W2) = true := by simp
  have HH := Lib.hid (And.intro hfa (And.intro hX (And.intro hW1 hW2)))
  clear hx hy hd hfa hX hW1 hW2 hff
  go_enter Try.func7, Try.ntmps7
  go_wp2_with fail
  refine (awake_any _).mono ?_
  rintro e w1 ⟨rfl, m1⟩
  have M := Lib.hid m1
  clear m1
  go_wp2_with fail
  refine (C1.out _).mono ?_
  rintro e wq ⟨rfl, mq⟩
  replace M := Lib.hid (M.out.then mq)
  clear mq
  go_wp2_with fail
  refine (C2.out _).mono ?_
  rintro e wq ⟨rfl, mq⟩
  replace M := Lib.hid (M.out.then mq)
  clear mq
  go_wp2_with fail
  refine (CT.out _ (HR.out.kept M.out (fun _ _ e => e))).mono ?_
  rintro e wq ⟨m, rfl, hms, hlow, mq⟩
  replace M := Lib.hid (M.out.then mq)
  obtain ⟨k1, k2, k3⟩ := fold_alike hlow.symm HX.out
  have k4 := cmp_alike (b := bys b) hlow.symm HX.out
  obtain ⟨k5, k6⟩ := within_alike (b := bys b) hlow.symm HX.out
  obtain ⟨hfa, hX, hW1, hW2⟩ := HH.out
  have F3 := Lib.hid (fold_to m fa (by omega) (by unfold foldS at hfa ⊢; rw [k1]; exact hfa))
  have M1 := Lib.hid (may_to m true (by omega) k2)
  have S1 := Lib.hid (same_to a m true (by omega) (by omega) k3)
  have G2 := Lib.hid (compare_to m b X (by omega) (by omega) (k4.trans hX))
  have I2 := Lib.hid (within_to m b W1 (by omega) (by omega) (k5.trans hW1))
  have J2 := Lib.hid (within_to b m W2 (by omega) (by omega) (k6.trans hW2))
  clear mq hlow k1 k2 k3 k4 k5 k6 hfa hX hW1 hW2
  go_wp2_with fail
  refine (M1.out _).mono ?_
  rintro e wq ⟨rfl, mq⟩
  replace M := Lib.hid (M.out.then mq)
  clear mq
  go_wp2_with fail
  refine (S1.out _).mono ?_
  rintro e wq ⟨rfl, mq⟩
  replace M := Lib.hid (M.out.then mq)
  clear mq
  go_wp2_with fail
  refine (F3.out _).mono ?_
  rintro e wq ⟨rfl, mq⟩
  replace M := Lib.hid (M.out.then mq)
  clear mq
  go_wp2_with fail
  refine (F1.out _).mono ?_
  rintro e wq ⟨rfl, mq⟩
  replace M := Lib.hid (M.out.then mq)
  clear mq
  go_wp2_with fail
  refine (F1.out _).mono ?_
  rintro e wq ⟨rfl, mq⟩
  replace M := Lib.hid (M.out.then mq)
  clear mq
  go_wp2_with fail
  refine (F2.out _).mono ?_
  rintro e wq ⟨rfl, mq⟩
  replace M := Lib.hid (M.out.then mq)
  clear mq
  go_wp2_with fail
  refine (F1.out _).mono ?_
  rintro e wq ⟨rfl, mq⟩
  replace M := Lib.hid (M.out.then mq)
  clear mq
  go_wp2_with fail
  refine (G1.out _).mono ?_
  rintro e wq ⟨rfl, mq⟩
  replace M := Lib.hid (M.out.then mq)
  clear mq
  go_wp2_with fail
  refine (G2.out _).mono ?_
  rintro e wq ⟨rfl, mq⟩
  replace M := Lib.hid (M.out.then mq)
  clear mq
  go_wp2_with fail
  refine (I1.out _).mono ?_
  rintro e wq ⟨rfl, mq⟩
  replace M := Lib.hid (M.out.then mq)
  clear mq
  go_wp2_with fail
  refine (I2.out _).mono ?_
  rintro e wq ⟨rfl, mq⟩
  replace M := Lib.hid (M.out.then mq)
  clear mq
  go_wp2_with fail
  refine (J1.out _).mono ?_
  rintro e wq ⟨rfl, mq⟩
  replace M := Lib.hid (M.out.then mq)
  clear mq
  go_wp2_with fail
  refine (J2.out _).mono ?_
  rintro e wq ⟨rfl, mq⟩
  replace M := Lib.hid (M.out.then mq)
  clear mq
  go_wp2_with fail
  go_ret
  exact ⟨rfl, M.out⟩
theorem letters_any (a b : ByteArray) (v : Value) (ds : List Nat) (hd : ∀ x ∈ ds, x < 256) (ha : a.size < 2 ^ 63) (hb : b.size < 2 ^ 63) (hdl : ds.length < 2 ^ 63) (w : World) (hr : Rd w 1 v ds.length (u8s ds)) :
    Calls Try.prog 7 #[.string a, .string b, v] w fun e w' => e = .returned (.bool true) ∧ Kept w w' := by
  by_cases h : 1000 < a.size ∨ 1000 < b.size ∨ 300 < ds.length
  · exact let_big a b v ds h ha hb hdl w hr
  · cases hp : splitN (bys a) with
    | none => exact let_none a b v ds (by omega) (by omega) (by omega) false _ (by unfold mayN; rw [hp]; rfl) rfl (.inl rfl) w hr
    | some x =>
      cases hq : splitN (bys b) with
      | none => exact let_none a b v ds (by omega) (by omega) (by omega) true false (may_some hp) (by unfold mayN; rw [hq]; rfl) (.inr ⟨rfl, rfl⟩) w hr
      | some y => exact let_all a b v ds (by omega) (by omega) (by omega) hd x y hp hq w hr
end Go.Proofs.Ytafeepokcakmkaa
