/- The document's Join and Parse, walked. Conditions: at most 1000000 bytes. -/
import Derived.Test.YtafeepokcakmkaaNamRL
import Derived.Outline
namespace Go.Proofs.Ytafeepokcakmkaa
open Go.RowKit

set_option maxHeartbeats 2000000 in
set_option maxRecDepth 100000 in
theorem rjoin_any (v : Value) (L : List ByteArray) (hL : L.length ≤ 1000000000) (hsz : ∀ x ∈ L, x.size < 2 ^ 62) (w : World) (hr : Rd w 1 v L.length (strVals L)) :
    Calls Try.prog 22 #[v] w fun e w' => e = .returned (.tuple #[.string (joinS L), .int .i64 (joinErr (lbs L))]) ∧ Kept w w' := by
  have HR := Lib.hid hr
  have HSZ := Lib.hid hsz
  obtain ⟨_, A, c, rfl, _⟩ := hr
  clear hsz
  go_enter Try.func22, Try.ntmps22
  go_wp2_with fail
  go_loopg [5] L.length (fun k i wr => JoinRel1 L w k i wr)
  case atStart => exact ⟨0, rfl, by omega, by simp, rfl⟩
  case round =>
    obtain ⟨j, rfl, hj, hall, rfl⟩ := hrel
    have HJ := Lib.hid hj
    have HA := Lib.hid hall
    have hjl : j ≤ L.length := by omega
    by_cases hlt : j < L.length
    · have HLT := Lib.hid hlt
      obtain ⟨x, hx, hmem⟩ : ∃ x, L[j]? = some x ∧ x ∈ L := ⟨_, List.getElem?_eq_getElem hlt, List.getElem_mem hlt⟩
      have hxs := HSZ.out x hmem
      obtain ⟨b1, o1, d1, e1, hb1, g1⟩ := HR.out.at hlt
      injection e1 with e1 _ e1'
      subst e1 e1'
      have f1 := g1 j _ (strVals_get hx)
      have i1 : (j : Int) < (L.length : Int) := by omega
      have HX := Lib.hid hx
      have HM := Lib.hid hmem
      clear hx hmem g1 hj hall hlt
      have hes := empty_size (x := x)
      by_cases h0 : x.size = 0
      · have HE := Lib.hid (joinErr_one HM.out (.inl h0))
        have h1' : (x.size : Int) < 1 := by omega
        clear h0 hes
        go_wp2_with fail
        refine bodyPost_ret (v := .tuple #[.string ⟨#[]⟩, .int .i64 1]) (by simp [results, Try.results22, go_sem]) rfl ⟨?_, Kept.refl _⟩
        unfold joinS; rw [HE.out]; rfl
      · have h1' : (1 : Int) ≤ (x.size : Int) := by omega
        clear hes
        by_cases h6 : 63 < x.size
        · have HE := Lib.hid (joinErr_one HM.out (.inr h6))
          have h6' : (63 : Int) < (x.size : Int) := by omega
          clear h0
          go_wp2_with fail
          refine bodyPost_ret (v := .tuple #[.string ⟨#[]⟩, .int .i64 1]) (by simp [results, Try.results22, go_sem]) rfl ⟨?_, Kept.refl _⟩
          unfold joinS; rw [HE.out]; rfl
        · have h6' : (x.size : Int) ≤ 63 := by omega
          have HO := Lib.hid (show ¬ (x.size = 0 ∨ 63 < x.size) by omega)
          clear h0 h6
          go_wp2_with fail
          go_roundg (L.length - (j + 1))
          case measure => have := HJ.out; have := HLT.out; omega
          case rel => exact ⟨j + 1, by go_num, by have := HLT.out; omega, take_all HX.out HA.out HO.out, rfl⟩
    · obtain rfl : j = L.length := by omega
      rw [List.take_length] at hall
      have HA2 := Lib.hid hall
      clear hj hall hlt HA
      go_wp2_with fail
      go_loopg [4, 6] L.length (fun k n i wr2 => JoinRel2 L wr k n i wr2)
      case atStart => exact ⟨0, 1, rfl, by omega, rfl, rfl, by omega, rfl⟩
      case round =>
        obtain ⟨j, q, rfl, hj, rfl, hq, hq5, rfl⟩ := hrel
        have HJ := Lib.hid hj
        have HQ := Lib.hid hq
        have hjl : j ≤ L.length := by omega
        by_cases hlt : j < L.length
        · have HLT := Lib.hid hlt
          obtain ⟨x, hx, hmem⟩ : ∃ x, L[j]? = some x ∧ x ∈ L := ⟨_, List.getElem?_eq_getElem hlt, List.getElem_mem hlt⟩
          have hxs := HSZ.out x hmem
          obtain ⟨b1, o1, d1, e1, hb1, g1⟩ := HR.out.at hlt
          injection e1 with e1 _ e1'
          subst e1 e1'
          have f1 := g1 j _ (strVals_get hx)
          have i1 : (j : Int) < (L.length : Int) := by omega
          have hnext : (bodyN (lbs (L.take (j + 1)))).length + 1 = q + (x.size + 1) := by
            rw [bodyN_take hx]
            simp only [List.length_append, List.length_cons, List.length_nil, bys_length]
            omega
          have HN := Lib.hid hnext
          clear hx hmem g1 hj hlt hq hnext
          by_cases h5 : 255 < q + (x.size + 1)
          · have h5' : (255 : Int) < (q : Int) + 1 + (x.size : Int) := by omega
            have HE := Lib.hid (show joinErr (lbs L) = 5 from joinErr_five HA2.out (by have := bodyN_take_le L (j + 1); have := HN.out; omega))
            clear h5
            go_wp2_with fail
            refine bodyPost_ret (v := .tuple #[.string ⟨#[]⟩, .int .i64 5]) (by simp [results, Try.results22, go_sem]) rfl ⟨?_, Kept.refl _⟩
            unfold joinS; rw [HE.out]; rfl
          · have h5' : (q : Int) + 1 + (x.size : Int) ≤ 255 := by omega
            have H5 := Lib.hid h5
            clear h5
            go_wp2_with fail
            go_roundg (L.length - (j + 1))
            case measure => have := HJ.out; have := HLT.out; omega
            case rel => exact ⟨j + 1, q + (x.size + 1), by go_num, by have := HLT.out; omega, by go_num, HN.out.symm, by have := H5.out; omega, rfl⟩
        · obtain rfl : j = L.length := by omega
          rw [List.take_length] at hq
          have hE := joinErr_zero HA2.out (by omega)
          have HE := Lib.hid hE
          have hok := (joinErr_ok.1 hE)
          have HO := Lib.hid (show ∀ x ∈ L, x.size < 256 from fun x hx => by have := HA2.out x hx; omega)
          have HJ2 := Lib.hid (show (joinN (lbs L)).length ≤ 1000000 by have := hok.2; omega)
          clear hE hok hj hlt hq
          go_wp2_with fail
          refine (rbytes_any _ L HO.out HJ2.out _ HR.out).mono ?_
          rintro e w2 ⟨rfl, m2⟩
          have M := Lib.hid m2
          clear m2
          go_wp2_with fail
          refine bodyPost_ret (v := .tuple #[.string (mkS (joinN (lbs L))), .int .i64 0]) (by simp [results, Try.results22, go_sem]) rfl ⟨?_, M.out⟩
          unfold joinS; rw [HE.out]; rfl
def RParRel (s : ByteArray) (w : World) (k : Nat) (vl vb vp : Value) (wr : World) : Prop :=
  ∃ (p f : Nat) (L : List ByteArray) (T : ByteArray), vp = .int .i64 p ∧ p ≤ s.size ∧ p + k = s.size ∧ s.size - p < f ∧ vb = .string T ∧ Txs wr w.heap.size vl L ∧ L.length ≤ p ∧ T.size ≤ p ∧ (∀ x ∈ L, x.size ≤ p) ∧
    refR f ((bys s).drop p) (bys T) (lbs L) = refR (s.size + 1) (bys s) [] [] ∧ Kept w wr
set_option maxHeartbeats 4000000 in
set_option maxRecDepth 100000 in
theorem rparse_any (s : ByteArray) (hs : s.size ≤ 10000) (w : World) :
    Calls Try.prog 20 #[.string s] w fun e w' => e = .returned (.tuple #[.string (parS2 s), .int .i64 (parE s)]) ∧ Kept w w' := by
  by_cases hd : bys s = [46]
  · have t0 : (s.toList == [46]) = true := by rw [eq_lit, decide_eq_true_eq]; exact hd
    have HE := Lib.hid (show parseN (bys s) = ([0], 0) by unfold parseN; rw [if_pos hd])
    clear hd
    go_enter Try.func20, Try.ntmps20
    go_wp2_with fail
    refine bodyPost_ret (v := .tuple #[.string ⟨#[0]⟩, .int .i64 0]) (by simp [results, Try.results20, go_sem]) rfl ⟨?_, Kept.refl _⟩
    unfold parS2 parE
    rw [HE.out]; rfl
  · have t0 : (s.toList == [46]) = false := by rw [eq_lit, decide_eq_false_iff_not]; exact hd
    have HR := Lib.hid (show parseN (bys s) = refR (s.size + 1) (bys s) [] [] by rw [parse_ref]; unfold refN; rw [if_neg hd, bys_length])
    clear hd
    go_enter Try.func20, Try.ntmps20
    go_wp2_with fail
    go_loopg [4, 5, 6, 7, 8] s.size (fun k vl vb vp _ _ wr => RParRel s w k vl vb vp wr)
    case atStart => exact ⟨0, s.size + 1, [], ⟨#[]⟩, rfl, by omega, by omega, by omega, rfl, Txs.nil _ _, by simp, by decide, by simp, rfl, Kept.refl _⟩
    case round =>
      obtain ⟨p, f, L, T, rfl, hps, hk, hf, rfl, hT, hLp, hTp, hxs, hrr, hm⟩ := hrel
      have HK := Lib.hid hk
      have HRR := Lib.hid hrr
      have HXS := Lib.hid hxs
      have M := Lib.hid hm
      have HTX := Lib.hid hT
      have hTe := empty_size (x := T)
      have hTn : bys T = [] ↔ T.size = 0 := by
        constructor
        · intro h; rw [← bys_length, h]; rfl
        · intro h; exact List.eq_nil_of_length_eq_zero (by rw [bys_length, h])
      obtain ⟨f, rfl⟩ : ∃ f', f = f' + 1 := ⟨f - 1, by omega⟩
      by_cases hlt : p < s.size
      · have HLT := Lib.hid hlt
        obtain ⟨c, hc, hc256, hdc⟩ := at_num hlt
        have i1 : (p : Int) < (s.size : Int) := by omega
        by_cases h46 : c = 46
        · have t1 : ((c : Int) == 46) = true := by rw [h46]; rfl
          by_cases hE : T.size = 0
          · have HE := Lib.hid (show parseN (bys s) = ([], 3) by
              rw [HR.out, ← hrr, hdc, h46]
              simp only [refR]
              rw [if_pos True.intro, if_pos (hTn.2 hE)])
            rw [decide_eq_true hE] at hTe
            have hTe2 : T.toList = [] := List.isEmpty_iff.1 hTe
            clear hdc h46 hE hk hf hT hxs hrr hm hTn
            go_wp2_with fail
            refine bodyPost_ret (v := .tuple #[.string ⟨#[]⟩, .int .i64 3]) (by simp [results, Try.results20, go_sem]) rfl ⟨?_, M.out⟩
            unfold parS2 parE
            rw [HE.out]; rfl
          · have HE := Lib.hid (show refR f ((bys s).drop (p + 1)) [] (lbs (L ++ [T])) = refR (s.size + 1) (bys s) [] [] by
              rw [← hrr, hdc, h46]
              simp only [refR]
              rw [if_pos True.intro, if_neg (fun e => hE (hTn.1 e))]
              unfold lbs
              rw [List.map_append]; rfl)
            rw [decide_eq_false hE] at hTe
            have hTe2 : T.toList ≠ [] := fun e => by rw [e] at hTe; cases hTe
            have hTe3 : (!T.toList.isEmpty) = true := by rw [hTe]; rfl
            have HF := Lib.hid hf
            have HLOW := Lib.hid hT.lt
            clear hdc h46 hE hk hf hxs hrr hm hTn
            go_wp2_with (refine wpList_push 25 9 1 16 25 elem_str (.tmp 24) (.tmp 23) rfl rfl rfl rfl rfl (by simp) (.string T) rfl rfl (by simp [Value.cells, Value.oneCell']) _ _ _ _ rfl hT (by unfold maxLen; omega) (by omega) M.out.size ?_; intro v' w4 hown1 hm1 _; have M2 : Hid (Kept w w4) := Lib.hid (Mod.trans M.out hm1 (fun i hi e => by have := (HLOW.out i e).1; omega)); clear hm1 hT)
            go_roundg (s.size - (p + 1))
            case measure => have := HK.out; have := HLT.out; omega
            case rel =>
              refine ⟨p + 1, f, L ++ [T], ⟨#[]⟩, by go_num, by have := HLT.out; omega, by have := HLT.out; omega, by have := HF.out; have := HLT.out; omega, rfl, Txs.snoc hown1, by rw [List.length_append]; simp only [List.length_cons, List.length_nil]; omega, Nat.zero_le _, fun x hx => ?_, HE.out, M2.out⟩
              rcases List.mem_append.1 hx with hx | hx
              · have := HXS.out x hx; omega
              · simp at hx; subst hx; omega
        · have t1 : ((c : Int) == 46) = false := by rw [beq_eq_false_iff_ne]; omega
          obtain ⟨y, n, hyn⟩ : ∃ y n, letN ((bys s).drop p) = (y, n) := ⟨_, _, rfl⟩
          have hlr : refR (f + 1) ((bys s).drop p) (bys T) (lbs L) = if n = 0 then ([], 3) else refR f ((bys s).drop (p + n)) (bys T ++ [y]) (lbs L) := by
            have h1 := hyn
            rw [hdc] at h1
            rw [hdc]
            simp only [refR]
            rw [if_neg h46, h1]
            rw [← hdc, List.drop_drop]
          have hbnd : y < 256 ∧ n ≤ 4 ∧ p + n ≤ s.size := by
            have h1 := hyn
            have hlen : ((bys s).drop p).length = s.size - p := by rw [List.length_drop, bys_length]
            have hall : ∀ z ∈ (bys s).drop p, z < 256 := fun z hz => bys_lt s z (List.mem_of_mem_drop hz)
            generalize (bys s).drop p = D at *
            cases D with
            | nil => simp only [letN] at h1; injection h1 with h1 h2; omega
            | cons a t =>
              simp only [letN] at h1
              have ha := hall a (by simp)
              split at h1
              · injection h1 with h1 h2; omega
              · split at h1
                · cases t with
                  | nil => simp only [escN] at h1; injection h1 with h1 h2; omega
                  | cons d t =>
                    simp only [escN] at h1
                    have hd := hall d (by simp)
                    simp only [List.length_cons] at hlen
                    split at h1
                    · injection h1 with h1 h2; omega
                    · unfold digs at h1
                      split at h1
                      · simp only [List.length_cons] at hlen
                        split at h1
                        · rename_i hq
                          simp only [Bool.and_eq_true, decide_eq_true_eq] at hq
                          injection h1 with h1 h2; omega
                        · injection h1 with h1 h2; omega
                      · injection h1 with h1 h2; omega
                · simp only [List.length_cons] at hlen
                  injection h1 with h1 h2; omega
          have CL : Hid (∀ w, Calls Try.prog 46 #[.string s, .int .i64 p] w fun e w' => e = .returned (.tuple #[.int .u8 (y : Nat), .int .i64 (n : Nat)]) ∧ Kept w w') := Lib.hid (fun w => by
            refine (letter_any s (by omega) p hlt w).mono ?_
            rintro e w' ⟨rfl, hk⟩
            rw [hyn]
            exact ⟨rfl, hk⟩)
          by_cases hn0 : n = 0
          · have HE := Lib.hid (show parseN (bys s) = ([], 3) by rw [HR.out, ← hrr, hlr, if_pos hn0])
            have t2 : ((n : Int) == 0) = true := by rw [hn0]; rfl
            clear hdc h46 hk hf hT hxs hrr hm hTn hTe hyn hlr hn0
            go_wp2_with fail
            refine (CL.out _).mono ?_
            rintro e wq ⟨rfl, mq⟩
            replace M := Lib.hid (M.out.then mq)
            clear mq
            go_wp2_with fail
            refine bodyPost_ret (v := .tuple #[.string ⟨#[]⟩, .int .i64 3]) (by simp [results, Try.results20, go_sem]) rfl ⟨?_, M.out⟩
            unfold parS2 parE
            rw [HE.out]; rfl
          · have t2 : ((n : Int) == 0) = false := by rw [beq_eq_false_iff_ne]; omega
            have HE := Lib.hid (show refR f ((bys s).drop (p + n)) (bys T ++ [y]) (lbs L) = refR (s.size + 1) (bys s) [] [] by rw [← hrr, hlr, if_neg hn0])
            have HF := Lib.hid hf
            have HN := Lib.hid hn0
            obtain ⟨hy, hn4, hpn⟩ := hbnd
            clear hdc h46 hk hf hT hxs hrr hm hTn hTe hyn hlr hn0
            go_wp2_with fail
            refine (CL.out _).mono ?_
            rintro e w2 ⟨rfl, m2⟩
            replace HTX := Lib.hid (HTX.out.kept m2)
            replace M := Lib.hid (M.out.then m2)
            have hro := run_one w2 y hy
            have hts : (mkS [y]).size ≤ 1 := by rw [mkS_size]; simp
            clear m2
            go_wp2_with fail
            go_roundg (s.size - (p + n))
            case measure => have := HK.out; have := HLT.out; have := HN.out; omega
            case rel =>
              refine ⟨p + n, f, L, T ++ mkS [y], by go_num, by omega, by omega, by have := HF.out; have := HN.out; omega, rfl, HTX.out.kept ((Kept.refl _).alloc _), by omega, by rw [ByteArray.size_append]; have := HN.out; omega, fun x hx => by have := HXS.out x hx; omega, ?_, M.out.alloc _⟩
              rw [bys_append, bys_mkS (by intro z hz; simp at hz; omega)]
              exact HE.out
      · have i1 : (s.size : Int) ≤ (p : Int) := by omega
        have hEnd : parseN (bys s) = refEnd (if bys T = [] then lbs L else lbs L ++ [bys T]) := by
          rw [HR.out, ← hrr, List.drop_eq_nil_of_le (by rw [bys_length]; omega)]
          simp only [refR]
        by_cases hE : T.size = 0
        · rw [if_pos (hTn.2 hE)] at hEnd
          rw [decide_eq_true hE] at hTe
          have hTe2 : T.toList = [] := List.isEmpty_iff.1 hTe
          rcases Nat.eq_zero_or_pos L.length with hL0 | hL0
          · have hL1 := List.eq_nil_of_length_eq_zero hL0
            have HE := Lib.hid (show parseN (bys s) = ([], 3) by rw [hEnd, hL1]; rfl)
            have tL : ((L.length : Int) == 0) = true := by rw [hL0]; rfl
            obtain ⟨A, c, rfl⟩ := hT.form
            clear hE hk hf hT hxs hrr hm hTn hlt hEnd hL0 hL1
            go_wp2_with fail
            refine bodyPost_ret (v := .tuple #[.string ⟨#[]⟩, .int .i64 3]) (by simp [results, Try.results20, go_sem]) rfl ⟨?_, M.out⟩
            unfold parS2 parE
            rw [HE.out]; rfl
          · have hne : lbs L ≠ [] := fun e => by have := congrArg List.length e; rw [lbs_length, List.length_nil] at this; omega
            have HEE := Lib.hid (show parseN (bys s) = if joinErr (lbs L) = 0 then (joinN (lbs L), 0) else ([], 5) by rw [hEnd]; unfold refEnd; rw [if_neg hne])
            have tL : ((L.length : Int) == 0) = false := by rw [beq_eq_false_iff_ne]; omega
            have hl1 : L.length ≤ 1000000000 := by omega
            have hl2 : ∀ x ∈ L, x.size < 2 ^ 62 := fun x hx => by have := hxs x hx; omega
            have HRD := Lib.hid hT.rd
            obtain ⟨A, c, rfl⟩ := hT.form
            clear hE hk hf hT hxs hrr hm hTn hlt hEnd hL0 hne
            have HJ := Lib.hid (fun w h => rjoin_any (.slice A L.length c) L hl1 hl2 w h)
            clear hl1 hl2
            go_wp2_with fail
            refine (HJ.out _ HRD.out).mono ?_
            rintro e w5 ⟨rfl, m5⟩
            replace M := Lib.hid (M.out.then m5)
            clear m5
            obtain ⟨q, hq⟩ : ∃ q, q = joinErr (lbs L) := ⟨_, rfl⟩
            rw [← hq]
            have HQ := Lib.hid hq
            by_cases h0 : q = 0
            · have tq : (q != 0) = false := by rw [h0]; rfl
              have H0 := Lib.hid h0
              clear h0 hq
              go_wp2_with fail
              refine bodyPost_ret (v := .tuple #[.string (joinS L), .int .i64 0]) (by simp [results, Try.results20, go_sem]) rfl ⟨?_, M.out⟩
              unfold parS2 parE joinS
              rw [HEE.out, ← HQ.out, H0.out]; rfl
            · have tq : (q != 0) = true := by simp [h0]
              have H0 := Lib.hid h0
              clear h0 hq
              go_wp2_with fail
              refine bodyPost_ret (v := .tuple #[.string ⟨#[]⟩, .int .i64 5]) (by simp [results, Try.results20, go_sem]) rfl ⟨?_, M.out⟩
              unfold parS2 parE
              rw [HEE.out, ← HQ.out, if_neg H0.out]; rfl
        · rw [if_neg (fun e => hE (hTn.1 e))] at hEnd
          rw [decide_eq_false hE] at hTe
          have hTe2 : T.toList ≠ [] := fun e => by rw [e] at hTe; cases hTe
          have hTe3 : (!T.toList.isEmpty) = true := by rw [hTe]; rfl
          have HEE := Lib.hid (show parseN (bys s) = if joinErr (lbs (L ++ [T])) = 0 then (joinN (lbs (L ++ [T])), 0) else ([], 5) by
            have e : lbs (L ++ [T]) = lbs L ++ [bys T] := by unfold lbs; rw [List.map_append]; rfl
            rw [hEnd, e]; unfold refEnd; rw [if_neg (by simp)])
          have hl1 : (L ++ [T]).length ≤ 1000000000 := by rw [List.length_append]; simp only [List.length_cons, List.length_nil]; omega
          have hl2 : ∀ x ∈ L ++ [T], x.size < 2 ^ 62 := fun x hx => by
            rcases List.mem_append.1 hx with hx | hx
            · have := hxs x hx; omega
            · simp at hx; subst hx; omega
          have tL : ((L.length : Int) + 1 == 0) = false := by rw [beq_eq_false_iff_ne]; omega
          have HLOW := Lib.hid hT.lt
          have HL1 := Lib.hid hl1
          have HL2 := Lib.hid hl2
          clear hE hk hf hxs hrr hm hTn hEnd hlt hl1 hl2
          go_wp2_with (refine wpList_pushS 25 9 1 16 49 elem_str (.tmp 48) (.tmp 47) rfl rfl rfl rfl rfl (by simp) (.string T) rfl rfl (by simp [Value.cells, Value.oneCell']) w.heap.size u4 _ _ rfl hT (by unfold maxLen; omega) (by omega) M.out.size ?_; intro g4 c4 w4 hown1 hm1 _; have M2 : Hid (Kept w w4) := Lib.hid (Mod.trans M.out hm1 (fun i hi e => by have := (HLOW.out i e).1; omega)); have HRD := Lib.hid (Txs.snoc hown1).rd; clear hm1 hT hown1)
          have hl1 := HL1.out
          have hl2 := HL2.out
          replace M := M2
          have HJ := Lib.hid (fun w h => rjoin_any (.slice (some ⟨g4, 0, none⟩) (L.length + 1) c4) (L ++ [T]) hl1 hl2 w h)
          clear hl1 hl2
          go_wp2_with fail
          refine (HJ.out _ HRD.out).mono ?_
          rintro e w5 ⟨rfl, m5⟩
          replace M := Lib.hid (M.out.then m5)
          clear m5
          obtain ⟨q, hq⟩ : ∃ q, q = joinErr (lbs (L ++ [T])) := ⟨_, rfl⟩
          rw [← hq]
          have HQ := Lib.hid hq
          by_cases h0 : q = 0
          · have tq : (q != 0) = false := by rw [h0]; rfl
            have H0 := Lib.hid h0
            clear h0 hq
            go_wp2_with fail
            refine bodyPost_ret (v := .tuple #[.string (joinS (L ++ [T])), .int .i64 0]) (by simp [results, Try.results20, go_sem]) rfl ⟨?_, M.out⟩
            unfold parS2 parE joinS
            rw [HEE.out, ← HQ.out, H0.out]; rfl
          · have tq : (q != 0) = true := by simp [h0]
            have H0 := Lib.hid h0
            clear h0 hq
            go_wp2_with fail
            refine bodyPost_ret (v := .tuple #[.string ⟨#[]⟩, .int .i64 5]) (by simp [results, Try.results20, go_sem]) rfl ⟨?_, M.out⟩
            unfold parS2 parE
            rw [HEE.out, ← HQ.out, if_neg H0.out]; rfl
end Go.Proofs.Ytafeepokcakmkaa
