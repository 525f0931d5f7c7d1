/- TimerAnew, walked. Conditions: none. -/
import Derived.Test.YtgmnhjbejofnhaaTmTwo
namespace Go.Proofs.Ytgmnhjbejofnhaa
open Go.RowKit Go.Lib

theorem anew_big (v : Value) (l : List (Int × Int)) (which id rd : Int) (hl : 150 < l.length) (w : World) (hv : RdS w v l) :
    Calls Try.prog 5 #[v, .int .i64 which, .int .i64 id, .int .i64 rd] w fun e w' => e = .returned (.bool true) ∧ Kept w w' := by
  obtain ⟨_, A, c, rfl, _⟩ := hv
  have h1 : (150 : Int) < l.length := by omega
  go_enter Try.func5, Try.ntmps5
  go_wp2_with (go_at_call 10; refine (awake_c _).mono ?_; rintro e w1 ⟨rfl, hm1⟩)
  go_ret
  exact ⟨rfl, hm1⟩

theorem drop_insT (x : Th) (l : List Th) : dropT (insT x l) x.id = dropT l x.id := by
  unfold insT
  generalize posT x l l.length = p
  unfold dropT
  rw [List.filter_append, List.filter_cons]
  simp only [beq_self_eq_true, Bool.not_true, Bool.false_eq_true, if_false]
  rw [← List.filter_append, List.take_append_drop]
theorem find_insT (x : Th) (l : List Th) : (findT (insT x l) x.id).isSome = true := by
  unfold findT
  rw [List.findIdx?_isSome, List.any_eq_true]
  exact ⟨x, (mem_insT x x l).2 (.inl rfl), by simp⟩
theorem atB_find (L : List Th) (id : Int) : atB L id = (findT L id).isSome := by
  unfold atB atT findT
  rw [Option.isSome_map, List.findIdx?_isSome]
  cases h : L.find? (fun x => x.id == id) with
  | none =>
    symm
    rw [List.find?_eq_none] at h
    simpa using h
  | some y =>
    symm
    simp only [Option.isSome_some, List.any_eq_true]
    exact ⟨y, List.mem_of_find?_eq_some h, by have := List.find?_some h; simpa using this⟩
theorem which_in (which : Int) (n : Nat) (h0 : 0 < n) (hn : n ≤ 1000) : ∃ xi : Nat, xi < n ∧ wrap64 ((IntKind.u64.wrap which).tmod (n : Int)) = (xi : Int) := by
  have hw : 0 ≤ IntKind.u64.wrap which := by
    rw [IntKind.wrap_u64]
    omega
  have h1 := Int.emod_nonneg (IntKind.u64.wrap which) (b := (n : Int)) (by omega)
  have h2 := Int.emod_lt_of_pos (IntKind.u64.wrap which) (b := (n : Int)) (by omega)
  rw [Int.tmod_eq_emod_of_nonneg hw]
  refine ⟨(IntKind.u64.wrap which % (n : Int)).toNat, by omega, ?_⟩
  have : wrap64 (IntKind.u64.wrap which % (n : Int)) = IntKind.u64.wrap which % (n : Int) := by
    unfold wrap64
    omega
  rw [this]
  omega
theorem t2_len_t' {w0 w : World} {B gt nt gu nu : Nat} {V : Nat → Prop} {Lt Lu : List Th} (m : Int) (hm : (Lt.length : Int) = m) (h : T2 w0 w B V gt Lt nt gu Lu nu) : Calls Try.prog 14 #[At gt] w fun e w' => e = .returned (.int .i64 m) ∧ w = w' := by
  subst hm
  exact t2_len_t h

theorem has_last {l : List (Int × Int)} : ∀ (d xi : Nat), l.length - xi ≤ d → ∀ (h : xi < l.length), ∃ k, ∃ hk : k < l.length, l[k].1 = l[xi].1 ∧ lastB l k = true
  | 0, xi, hd, h => by omega
  | d + 1, xi, hd, h => by
    cases hb : lastB l xi with
    | true => exact ⟨xi, h, rfl, hb⟩
    | false =>
      have hn : ¬ ∀ k (hk : k < l.length), xi < k → l[k].1 ≠ l[xi].1 := by
        rw [← lastB_iff h, hb]
        simp
      have : ∃ k, ∃ hk : k < l.length, xi < k ∧ l[k].1 = l[xi].1 := by
        apply Classical.byContradiction
        intro hne
        exact hn fun k hk hx e => hne ⟨k, hk, hx, e⟩
      obtain ⟨k, hk, hx, e⟩ := this
      obtain ⟨k', hk', e', hl⟩ := has_last d k (by omega) hk
      exact ⟨k', hk', e'.trans e, hl⟩

def AnRel (bs : List Int) (x1 : Int) (wd : World) (k : Nat) (s18 s19 : Value) (wr : World) : Prop :=
  ∃ j : Nat, s19 = .int .i64 j ∧ j + k = bs.length ∧ wr.ownsRow wd.heap.size 3 1 s18 ((bs.take j).filter (fun z => z != x1)).length (ints ((bs.take j).filter (fun z => z != x1))) ∧ Kept wd wr
theorem own_cap {w : World} {base e size n m c : Nat} {A : Option Addr} {xs : List Value} (h : w.ownsRow base e size (.slice A m c) n xs) : n ≤ c := by
  rcases h.2 with ⟨_, h0⟩ | ⟨_, cap, _, h2, _, _, hn, _⟩
  · rw [h0]; exact Nat.zero_le _
  · injection h2 with _ _ h3
    rw [h3]; exact hn
theorem rd_prefix {w : World} {b o q c c' : Nat} {xs : List Int} {y : Int} (hq : xs.length = q) (h : Rd w 1 (.slice (some ⟨b, o, none⟩) (q + 1) c) (q + 1) (ints (xs ++ [y]))) : RdI w (.slice (some ⟨b, o, none⟩) q c') xs := by
  subst hq
  refine ⟨by rw [ints_len]; omega, _, c', rfl, fun _ => ?_⟩
  obtain ⟨b', o', c2, e, hb, hc⟩ := h.at (k := 0) (by omega)
  injection e with e
  injection e with e
  injection e with e1 e2
  subst e1 e2
  refine ⟨b, o, rfl, hb, fun j u hu => hc j u ?_⟩
  unfold ints at hu ⊢
  rw [List.map_append]
  have hj : j < (xs.map (Value.int .i64)).length := (List.getElem?_eq_some_iff.1 hu).1
  rw [List.getElem?_append_left hj]
  exact hu

set_option maxHeartbeats 8000000 in
set_option maxRecDepth 100000 in
theorem anew_zero (v : Value) (l : List (Int × Int)) (which id rd : Int) (hl1 : l.length ≤ 150) (hz : l.length = 0) (w : World) (hv : RdS w v l) :
    Calls Try.prog 5 #[v, .int .i64 which, .int .i64 id, .int .i64 rd] w fun e w' => e = .returned (.bool true) ∧ Kept w w' := by
  have H := Lib.hid hv
  have d0 : ((l.length : Int) == 0) = true := beq_iff_eq.2 (by omega)
  clear hz
  obtain ⟨_, A, c, rfl, _⟩ := hv
  have hd1 : decide ((150 : Int) < l.length) = false := by simp; omega
  go_enter Try.func5, Try.ntmps5
  go_wp2_with fail
  refine (awake_c _).mono ?_
  rintro e w1 ⟨rfl, hk1⟩
  go_wp2_with fail
  refine (put_l _ l (by omega) _ (H.out.kept hk1 (fun _ _ e => e))).mono ?_
  rintro e w2 ⟨rfl, vt, ht2⟩
  have hk2 : Kept w w2 := hk1.then ht2.kept
  go_wp2_with fail
  refine (put_l _ l (by omega) _ (H.out.kept hk2 (fun _ _ e => e))).mono ?_
  rintro e w3 ⟨rfl, vu, hu3⟩
  have hinv := inv_puts l
  have hLl := ht2.len
  have hun := ht2.uni
  generalize hLe : (putsT l ([], 0)).1 = L at *
  have h3 := T2.make hk1 ht2 hu3
  have HI := Lib.hid (And.intro hinv hun)
  have H3 := Lib.hid h3
  clear hinv hun hLe hk1 hk2 ht2 hu3 h3
  generalize w1.heap.size = gt at *
  generalize w2.heap.size = gu at *
  go_wp2_with fail
  refine (t2_at id H3.out).mono ?_
  rintro e w4 ⟨rfl, h4, _⟩
  clear H3
  generalize atR L id = ra at *
  cases hb : atB L id with
  | false =>
    have hfn : findT L id = none := by
      rw [atB_find] at hb
      simpa using hb
    have hdn := dropT_none hfn
    have hpl : (putT L l.length id rd).length = L.length + 1 := by
      unfold putT
      rw [insT_len, hdn]
    have hpd : dropT (putT L l.length id rd) id = L := by
      unfold putT
      exact (drop_insT ⟨id, (l.length : Int) + 1, rd⟩ (dropT L id)).trans (by rw [hdn, hdn])
    have hpf : (findT (putT L l.length id rd) id).isSome = true := find_insT ⟨id, (l.length : Int) + 1, rd⟩ (dropT L id)
    have hfn2 : (findT L id).isSome = false := by rw [hfn]; rfl
    have iw : IntKind.i64.wrap ((L.length : Int) + 1) = (L.length : Int) + 1 := by rw [IntKind.wrap_i64]; omega
    generalize hP : putT L l.length id rd = P at *
    have HP := Lib.hid (And.intro hP (And.intro (show ((P.length : Nat) : Int) = (L.length : Int) + 1 by omega) (And.intro hpd (And.intro hpf (And.intro hdn hfn2)))))
    clear hfn hdn hpl hpd hpf hfn2 hP hb
    go_wp2_with (first
      | (go_at_call 17; refine (t2_put id rd P HP.out.1 (by omega) h4).mono ?_; clear h4; rintro e w5 ⟨rfl, h5, _⟩)
      | (go_at_call 14; refine (t2_len_t' ((L.length : Int) + 1) HP.out.2.1 h5).mono ?_; rintro e w6 ⟨rfl, rfl⟩; have h5b := h5; clear h5)
      | (go_at_call 14; refine (t2_len_u h5b).mono ?_; rintro e w6 ⟨rfl, rfl⟩; have h5c := h5b; clear h5b)
      | (go_at_call 18; refine (t2_drop id L true HP.out.2.2.1 HP.out.2.2.2.1 h5c).mono ?_; clear h5c; rintro e w7 ⟨rfl, h7⟩)
      | (go_at_call 14; refine (t2_len_t h7).mono ?_; rintro e w6 ⟨rfl, rfl⟩; have h7b := h7; clear h7)
      | (go_at_call 14; refine (t2_len_u h7b).mono ?_; rintro e w6 ⟨rfl, rfl⟩; have h7c := h7b; clear h7b)
      | (go_at_call 18; refine (t2_drop id L false HP.out.2.2.2.2.1 HP.out.2.2.2.2.2 h7c).mono ?_; clear h7c; rintro e w8 ⟨rfl, h8⟩; clear HP iw)
      | fail)
    go_ret
    exact ⟨rfl, h8.kept⟩
  | true =>
    clear hb
    go_wp2_with fail
    go_ret
    exact ⟨rfl, h4.kept⟩

set_option maxHeartbeats 8000000 in
set_option maxRecDepth 100000 in
theorem anew_some (v : Value) (l : List (Int × Int)) (which id rd : Int) (hl1 : l.length ≤ 150) (hz : l.length ≠ 0) (w : World) (hv : RdS w v l) :
    Calls Try.prog 5 #[v, .int .i64 which, .int .i64 id, .int .i64 rd] w fun e w' => e = .returned (.bool true) ∧ Kept w w' := by
  have H := Lib.hid hv
  have d0 : ((l.length : Int) == 0) = false := beq_eq_false_iff_ne.2 (by omega)
  obtain ⟨xi, hxl, hxi⟩ := which_in which l.length (by omega) (by omega)
  have i1 : (xi : Int) < l.length := by omega
  obtain ⟨b1, o1, c1', e1, hb1, g1⟩ := H.out.at hxl
  subst e1
  obtain ⟨q1, q2⟩ := setC_get l xi hxl
  have f1 := g1 _ _ q1
  have f2 := g1 _ _ q2
  rw [← Nat.add_assoc] at f2
  have HF := Lib.hid (And.intro f1 (And.intro f2 hb1))
  have hlast := has_last (l := l) l.length xi (by omega) hxl
  have HLAST := Lib.hid hlast
  obtain ⟨x1, hx1⟩ : ∃ x1, (l[xi]'hxl).1 = x1 := ⟨_, rfl⟩
  obtain ⟨x2, hx2⟩ : ∃ x2, (l[xi]'hxl).2 = x2 := ⟨_, rfl⟩
  rw [hx1, hx2] at HF
  rw [hx1] at HLAST
  clear g1 q1 q2 f1 f2 hlast hx1 hx2 hb1
  have hd1 : decide ((150 : Int) < l.length) = false := by simp; omega
  go_enter Try.func5, Try.ntmps5
  go_wp2_with fail
  refine (awake_c _).mono ?_
  rintro e w1 ⟨rfl, hk1⟩
  go_wp2_with fail
  refine (put_l _ l (by omega) _ (H.out.kept hk1 (fun _ _ e => e))).mono ?_
  rintro e w2 ⟨rfl, vt, ht2⟩
  have hk2 : Kept w w2 := hk1.then ht2.kept
  go_wp2_with fail
  refine (put_l _ l (by omega) _ (H.out.kept hk2 (fun _ _ e => e))).mono ?_
  rintro e w3 ⟨rfl, vu, hu3⟩
  have hinv := inv_puts l
  have hLl := ht2.len
  have hun := ht2.uni
  generalize hLe : (putsT l ([], 0)).1 = L at *
  have h3 := T2.make hk1 ht2 hu3
  have HI := Lib.hid (And.intro hinv hun)
  have H3 := Lib.hid h3
  clear hinv hun hLe hk1 hk2 ht2 hu3 h3
  generalize w1.heap.size = gt at *
  generalize w2.heap.size = gu at *
  go_wp2_with fail
  refine (t2_at id H3.out).mono ?_
  rintro e w4 ⟨rfl, h4, _⟩
  clear H3
  generalize atR L id = ra at *
  cases hb : atB L id with
  | false =>
    have hfn : findT L id = none := by
      rw [atB_find] at hb
      simpa using hb
    have hdn := dropT_none hfn
    have hpl : (putT L l.length id rd).length = L.length + 1 := by
      unfold putT
      rw [insT_len, hdn]
    have hpd : dropT (putT L l.length id rd) id = L := by
      unfold putT
      exact (drop_insT ⟨id, (l.length : Int) + 1, rd⟩ (dropT L id)).trans (by rw [hdn, hdn])
    have hpf : (findT (putT L l.length id rd) id).isSome = true := find_insT ⟨id, (l.length : Int) + 1, rd⟩ (dropT L id)
    have hfn2 : (findT L id).isSome = false := by rw [hfn]; rfl
    have iw : IntKind.i64.wrap ((L.length : Int) + 1) = (L.length : Int) + 1 := by rw [IntKind.wrap_i64]; omega
    generalize hP : putT L l.length id rd = P at *
    have HP := Lib.hid (And.intro hP (And.intro (show ((P.length : Nat) : Int) = (L.length : Int) + 1 by omega) (And.intro hpd (And.intro hpf (And.intro hdn hfn2)))))
    clear hfn hdn hpl hpd hpf hfn2 hP hb
    go_wp2_with (first
      | (go_at_call 17; refine (t2_put id rd P HP.out.1 (by omega) h4).mono ?_; clear h4; rintro e w5 ⟨rfl, h5, _⟩)
      | (go_at_call 14; refine (t2_len_t' ((L.length : Int) + 1) HP.out.2.1 h5).mono ?_; rintro e w6 ⟨rfl, rfl⟩; have h5b := h5; clear h5)
      | (go_at_call 14; refine (t2_len_u h5b).mono ?_; rintro e w6 ⟨rfl, rfl⟩; have h5c := h5b; clear h5b)
      | (go_at_call 18; refine (t2_drop id L true HP.out.2.2.1 HP.out.2.2.2.1 h5c).mono ?_; clear h5c; rintro e w7 ⟨rfl, h7⟩)
      | (go_at_call 14; refine (t2_len_t h7).mono ?_; rintro e w6 ⟨rfl, rfl⟩; have h7b := h7; clear h7)
      | (go_at_call 14; refine (t2_len_u h7b).mono ?_; rintro e w6 ⟨rfl, rfl⟩; have h7c := h7b; clear h7b)
      | (go_at_call 18; refine (t2_drop id L false HP.out.2.2.2.2.1 HP.out.2.2.2.2.2 h7c).mono ?_; clear h7c; rintro e w8 ⟨rfl, h8⟩; clear HP iw; have f1 := (h8.kept.cell (p := ⟨b1, o1 + xi * 2, none⟩) HF.out.2.2 (fun e => e)).trans HF.out.1; have f2 := (h8.kept.cell (p := ⟨b1, o1 + xi * 2 + 1, none⟩) HF.out.2.2 (fun e => e)).trans HF.out.2.1; have HX8 := Lib.hid h8; clear h8)
      | fail)
    have hxs : T2 w (w8.alloc (.cells #[.int .i64 x1, .int .i64 x2] 29)) w8.heap.size (fun k => k = w8.heap.size) gt L (l.length + 1) gu L l.length := ((HX8.out.raise).keep ((Mod.refl _ _).alloc _)).aim (Nat.le_refl _) (by simp)
    have gx0 : (w8.alloc (.cells #[.int .i64 x1, .int .i64 x2] 29)).cell? ⟨w8.heap.size, 0, none⟩ = some (.int .i64 x1) := (Blk.new _ _ _).cell 0
    have hyl : ∃ y ∈ L, y.id = x1 := by
      obtain ⟨k, hk, he, hl⟩ := HLAST.out
      exact ⟨_, (HI.out.1.mem _).2 ⟨k, hk, rfl, hl⟩, he⟩
    obtain ⟨y, hyL, hyid, hyat⟩ := find_at hyl
    have eR : atR L x1 = y.rd := by unfold atR; rw [hyat]; rfl
    have eB : atB L x1 = true := by unfold atB; rw [hyat]; rfl
    have hno : ∀ z ∈ L, z.no < ((l.length + 1 : Nat) : Int) + 1 := fun z hz => by
      obtain ⟨k, hk, rfl, _⟩ := (HI.out.1.mem z).1 hz
      simp only
      omega
    obtain ⟨X, Y, hput, hdL, hdrop, hfil, hdP⟩ := anew HI.out.1.sort HI.out.2 hno hyL hyid rfl
    have hdle := dueN_le L y.rd
    have hYl : L.length = X.length + 1 + Y.length := by
      have := congrArg List.length hdrop
      rw [List.length_drop] at this
      omega
    have HXS := Lib.hid hxs
    have HG := Lib.hid gx0
    obtain ⟨rr, hrr⟩ : ∃ rr, y.rd = rr := ⟨_, rfl⟩
    rw [hrr] at hput hdL hdP eR
    have HPUT := Lib.hid hput
    have hlp : ((X ++ (⟨x1, ((l.length + 1 : Nat) : Int) + 1, rr⟩ : Th) :: Y).length : Int) = (L.length : Int) := by rw [List.length_append, List.length_cons]; omega
    have hia : idsT ((X ++ (⟨x1, ((l.length + 1 : Nat) : Int) + 1, rr⟩ : Th) :: Y).take (dueN (X ++ (⟨x1, ((l.length + 1 : Nat) : Int) + 1, rr⟩ : Th) :: Y) rr)) = idsT X ++ [x1] := by
      rw [hdP, List.take_append, List.take_of_length_le (by omega), show X.length + 1 - X.length = 1 by omega]
      simp [idsT]
    have hda : (X ++ (⟨x1, ((l.length + 1 : Nat) : Int) + 1, rr⟩ : Th) :: Y).drop (dueN (X ++ (⟨x1, ((l.length + 1 : Nat) : Int) + 1, rr⟩ : Th) :: Y) rr) = Y := by
      rw [hdP, List.drop_append, List.drop_of_length_le (by omega), show X.length + 1 - X.length = 1 by omega]
      rfl
    have hib : idsT (L.take (dueN L rr)) = idsT (L.take (X.length + 1)) := by rw [hdL]
    have hdb : L.drop (dueN L rr) = Y := by rw [hdL]; exact hdrop
    generalize (X ++ (⟨x1, ((l.length + 1 : Nat) : Int) + 1, rr⟩ : Th) :: Y) = P2 at *
    have HAB := Lib.hid (And.intro hlp (And.intro hia (And.intro hda (And.intro hib hdb))))
    have hla : (idsT X ++ [x1]).length = X.length + 1 := by simp [idsT]
    have hlb : (idsT (L.take (X.length + 1))).length = X.length + 1 := by unfold idsT; rw [List.length_map, List.length_take]; omega
    obtain ⟨bs, hbs⟩ : ∃ bs, idsT (L.take (X.length + 1)) = bs := ⟨_, rfl⟩
    rw [hbs] at hfil hlb HAB
    have HFIL := Lib.hid hfil
    have HLAB := Lib.hid (And.intro hla hlb)
    clear hxs gx0 hyl hyL hyid hyat hno hput hdL hdrop hfil hdP hdle hrr hlp hia hda hib hdb hla hlb hbs f1 f2
    generalize w8.heap.size = gx at *
    refine (t2_at x1 HXS.out).mono ?_
    rw [eR, eB]
    rintro e wa ⟨rfl, ha, hka⟩
    have hgl : gx < wa.heap.size := Nat.lt_of_lt_of_le (block_lt_of_cell HG.out) hka.size
    have ga0 : wa.cell? ⟨gx, 0, none⟩ = some (.int .i64 x1) := (hka.cell (p := ⟨gx, 0, none⟩) (block_lt_of_cell HG.out) (fun e => e)).trans HG.out
    clear eR eB HXS HG hka
    go_wp2_with fail
    refine (t2_put x1 rr P2 HPUT.out (by omega) ha).mono ?_
    rintro e wb ⟨rfl, hb, hmb⟩
    have gb0 : wb.cell? ⟨gx, 0, none⟩ = some (.int .i64 x1) := (hmb.cell (p := ⟨gx, 0, none⟩) hgl (fun e => e.2 rfl)).trans ga0
    have hgb : gx < wb.heap.size := block_lt_of_cell gb0
    clear ha ga0 hmb hgl
    go_wp2_with fail
    refine (t2_len_t' (L.length : Int) HAB.out.1 hb).mono ?_
    rintro e wc ⟨rfl, rfl⟩
    go_wp2_with fail
    refine (t2_len_u hb).mono ?_
    rintro e wc ⟨rfl, rfl⟩
    have t1 : ((L.length : Int) != (L.length : Int)) = false := by simp
    go_wp2_with fail
    refine (t2_due_t rr Y (idsT X ++ [x1]) HAB.out.2.1 HAB.out.2.2.1 hb).mono ?_
    rintro e wc ⟨va, rfl, hoa, hc, hmc⟩
    have gc0 : wc.cell? ⟨gx, 0, none⟩ = some (.int .i64 x1) := (hmc.cell (p := ⟨gx, 0, none⟩) hgb (fun e => e.2 rfl)).trans gb0
    have hsc := hmc.size
    clear hb gb0 hmc t1
    rw [HLAB.out.1] at hoa
    obtain ⟨A7, c7, rfl⟩ := own_form hoa
    go_wp2_with fail
    refine (t2_due_u rr Y bs HAB.out.2.2.2.1 HAB.out.2.2.2.2 hc).mono ?_
    rintro e wd ⟨vb, rfl, hob, hd, hmd⟩
    have gd0 : wd.cell? ⟨gx, 0, none⟩ = some (.int .i64 x1) := (hmd.cell (p := ⟨gx, 0, none⟩) (Nat.lt_of_lt_of_le hgb hsc) (fun e => e.2 rfl)).trans gc0
    have hoa2 := own_mod hoa hmd (fun k hk e => by have h1 := (hoa.lt k hk).1; have h2 := e.1; omega)
    clear hc gc0 hmd hoa
    rw [HLAB.out.2] at hob
    obtain ⟨A8, c8, rfl⟩ := own_form hob
    have hra := Rd.of_own hoa2
    have hcq := own_cap hoa2
    have hrb := Rd.of_own hob
    have hxl2 : (idsT X).length = X.length := by simp [idsT]
    have hgd := block_lt_of_cell gd0
    have HD := Lib.hid hd
    have HRA := Lib.hid hra
    have HRB := Lib.hid hrb
    have HGD := Lib.hid (And.intro gd0 hgd)
    have HX2 := Lib.hid hxl2
    have hX1 : X.length + 1 ≤ 150 := by omega
    clear hoa2 hob hd hsc hgb hgd HPUT HAB
    generalize X.length = q at *
    obtain ⟨b7, o7, c7', e7, hb7, g7⟩ := HRA.out.at (k := q) (by omega)
    injection e7 with e7 _ e7'
    subst e7 e7'
    have f7 : wd.cell? ⟨b7, o7 + q, none⟩ = some (.int .i64 x1) := g7 q _ (by
      rw [ints_get _ q (by rw [List.length_append, HX2.out]; simp)]
      rw [List.getElem_append_right (by rw [HX2.out]; exact Nat.le_refl _)]
      simp)
    have iw1 : IntKind.i64.wrap (((q + 1 : Nat) : Int) - 1) = (q : Int) := by rw [IntKind.wrap_i64]; omega
    have iw2 : IntKind.i64.wrap ((q : Int) + 1 - 1) = (q : Int) := by rw [IntKind.wrap_i64]; omega
    have iw3 : IntKind.i64.wrap (q : Int) = (q : Int) := by rw [IntKind.wrap_i64]; omega
    have i5 : (q : Int) < ((q + 1 : Nat) : Int) := by omega
    have i6 : (q : Int) < (q : Int) + 1 := by omega
    have i7 : q < q + 1 := by omega
    have t2 : (x1 != x1) = false := by simp
    have t3 : (((q + 1 : Nat) : Int) != ((q + 1 : Nat) : Int)) = false := by simp
    clear g7 hra hrb hxl2 hb7
    go_wp2_with fail
    go_quiet (fail)
    go_wp2_with fail
    have HLB := Lib.hid HLAB.out.2
    have hkn : Kept wd (wd.drewN nq) := (Mod.refl _ _).drewN nq
    have HKN := Lib.hid hkn
    have HA7 := Lib.hid (rd_prefix (c' := c7) HX2.out HRA.out)
    clear f7 t3 hkn gd0 HLAB
    go_loopg [18, 19] (q + 1) (fun k s18 s19 wr => AnRel bs x1 wd k s18 s19 wr)
    case atStart => exact ⟨0, rfl, by have := HLB.out; omega, World.ownsRow_nil _ _ _ _, HKN.out⟩
    case round =>
      obtain ⟨j, rfl, hj, ho, hk⟩ := hrel
      have HJ := Lib.hid hj
      have HO := Lib.hid ho
      have HK := Lib.hid hk
      have hjl : j ≤ q + 1 := by have := HLB.out; omega
      clear hj ho hk
      have gx1 : wr.cell? ⟨gx, 0, none⟩ = some (.int .i64 x1) := (HK.out.cell (p := ⟨gx, 0, none⟩) HGD.out.2 (fun e => e)).trans HGD.out.1
      by_cases hlt : j < q + 1
      · have hjb : j < bs.length := by rw [HLB.out]; exact hlt
        obtain ⟨b8, o8, c8', e8, hb8, g8⟩ := HRB.out.at hlt
        injection e8 with e8 _ e8'
        subst e8 e8'
        have f8 : wr.cell? ⟨b8, o8 + j, none⟩ = some (.int .i64 (bs[j]'hjb)) := (HK.out.cell (p := ⟨b8, o8 + j, none⟩) hb8 (fun e => e)).trans (g8 j _ (ints_get bs j hjb))
        have i8 : (j : Int) < ((q + 1 : Nat) : Int) := by omega
        have i9 : (j : Int) < (q : Int) + 1 := by omega
        have hsn : (bs.take (j + 1)).filter (fun z => z != x1) = (bs.take j).filter (fun z => z != x1) ++ (if (bs[j]'hjb) != x1 then [bs[j]'hjb] else []) := by
          rw [List.take_add_one, List.getElem?_eq_getElem hjb, List.filter_append]
          congr 1
          show List.filter _ [_] = _
          rw [List.filter_cons]
          rfl
        have hfl : ((bs.take j).filter (fun z => z != x1)).length ≤ j := by
          have h1 := List.length_filter_le (fun z => z != x1) (bs.take j)
          rw [List.length_take] at h1
          omega
        obtain ⟨bj, hbj⟩ : ∃ bj, (bs[j]'hjb) = bj := ⟨_, rfl⟩
        rw [hbj] at f8 hsn
        clear g8 hb8 hbj
        generalize (bs.take j).filter (fun z => z != x1) = acc at *
        cases hne : bj != x1 with
        | true =>
          rw [hne, if_pos rfl] at hsn
          have HSN := Lib.hid hsn
          have HFL := Lib.hid hfl
          clear hsn hfl
          go_wp2_with fail
          go_quiet (fail)
          have f8b : (wr.drewN nq).cell? ⟨b8, o8 + j, none⟩ = some (.int .i64 bj) := f8
          have HON := Lib.hid (own_kept HO.out ((Mod.refl _ wr).drewN nq))
          have HKS := Lib.hid (HK.out.drewN nq)
          go_wp2_with (refine wpList_pushS 26 3 1 8 148 elem_int (.tmp 147) (.tmp 143) rfl rfl rfl rfl rfl (by simp) (.int .i64 bj) rfl rfl (by simp [Value.cells, Value.oneCell']) wd.heap.size _ _ _ rfl HON.out (by unfold maxLen; have := HFL.out; omega) (by have := HFL.out; omega) HKS.out.size ?_; intro g4 c4 w4 hown2 hm2 _)
          have hk4 : Kept wd w4 := Mod.trans HKS.out hm2 (fun k hk e => by have := (HON.out.lt k e).1; omega)
          go_roundg (q + 1 - (j + 1))
          case measure => have := HJ.out; have := HLB.out; omega
          case rel => exact ⟨j + 1, by go_num, by have := HLB.out; omega, by rw [HSN.out, List.length_append]; unfold ints at *; rw [List.map_append]; exact hown2, hk4⟩
        | false =>
          rw [hne] at hsn
          simp only [Bool.false_eq_true, if_false, List.append_nil] at hsn
          have HSN := Lib.hid hsn
          clear hsn hfl
          go_wp2_with fail
          go_quiet (fail)
          go_wp2_with fail
          go_roundg (q + 1 - (j + 1))
          case measure => have := HJ.out; have := HLB.out; omega
          case rel => exact ⟨j + 1, by go_num, by have := HLB.out; omega, by rw [HSN.out]; exact own_kept HO.out ((Mod.refl _ wr).drewN _), HK.out.drewN _⟩
      · obtain rfl : j = q + 1 := by omega
        have ho := HO.out
        rw [← HLB.out, List.take_length, HFIL.out] at ho
        obtain ⟨Ao, co, rfl⟩ := own_form ho
        have HO2 := Lib.hid (Rd.of_own ho).asInts
        have hq8 : (idsT X).length ≤ 4611686018427387904 := by rw [HX2.out]; omega
        have hY8 : (idsT (Y.take (dueN Y 9223372036854775807))).length ≤ 4611686018427387904 := by unfold idsT; rw [List.length_map, List.length_take]; omega
        have HH := Lib.hid (And.intro hq8 hY8)
        have HDK := Lib.hid ((HD.out.keep HK.out).raise)
        have HA8 := Lib.hid (HA7.out.kept HK.out (fun _ _ e => e))
        clear ho gx1 hq8 hY8
        have hcq2 : q ≤ c7 := by omega
        go_wp2_with fail
        refine (ints12k _ _ (idsT X) (idsT X) HH.out.1 true (by simp) _ HA8.out HO2.out).mono ?_
        rintro e we ⟨rfl, hme⟩
        have hTe := HDK.out.keep hme
        have hse := hme.size
        clear hme
        go_wp2_with fail
        refine (t2_due_t 9223372036854775807 _ _ rfl rfl hTe).mono ?_
        rintro e wf ⟨vf, rfl, hof, hTf, _⟩
        clear hTe
        go_wp2_with fail
        refine (t2_due_u 9223372036854775807 _ _ rfl rfl hTf).mono ?_
        rintro e wg ⟨vg, rfl, hog, hTg, hmg⟩
        have hofg := own_mod hof hmg (fun k hk e => by have h1 := (hof.lt k hk).1; have h2 := e.1; omega)
        clear hTf hmg hof
        go_wp2_with fail
        refine (ints12k _ _ _ _ HH.out.2 true (by simp) _ (Rd.of_own hofg).asInts (Rd.of_own hog).asInts).mono ?_
        rintro e wh ⟨rfl, hmh⟩
        have hkz := hTg.kept.then hmh
        clear hTg hmh hofg hog
        go_wp2_with fail
        go_ret
        exact ⟨rfl, hkz⟩
  | true =>
    clear hb
    have hLK : Kept w w4 := h4.kept
    have f1 := (hLK.cell (p := ⟨b1, o1 + xi * 2, none⟩) HF.out.2.2 (fun e => e)).trans HF.out.1
    have f2 := (hLK.cell (p := ⟨b1, o1 + xi * 2 + 1, none⟩) HF.out.2.2 (fun e => e)).trans HF.out.2.1
    have HX8 := Lib.hid h4
    clear h4 hLK
    go_wp2_with fail
    have hxs : T2 w (w4.alloc (.cells #[.int .i64 x1, .int .i64 x2] 29)) w4.heap.size (fun k => k = w4.heap.size) gt L (l.length) gu L l.length := ((HX8.out.raise).keep ((Mod.refl _ _).alloc _)).aim (Nat.le_refl _) (by simp)
    have gx0 : (w4.alloc (.cells #[.int .i64 x1, .int .i64 x2] 29)).cell? ⟨w4.heap.size, 0, none⟩ = some (.int .i64 x1) := (Blk.new _ _ _).cell 0
    have hyl : ∃ y ∈ L, y.id = x1 := by
      obtain ⟨k, hk, he, hl⟩ := HLAST.out
      exact ⟨_, (HI.out.1.mem _).2 ⟨k, hk, rfl, hl⟩, he⟩
    obtain ⟨y, hyL, hyid, hyat⟩ := find_at hyl
    have eR : atR L x1 = y.rd := by unfold atR; rw [hyat]; rfl
    have eB : atB L x1 = true := by unfold atB; rw [hyat]; rfl
    have hno : ∀ z ∈ L, z.no < ((l.length : Nat) : Int) + 1 := fun z hz => by
      obtain ⟨k, hk, rfl, _⟩ := (HI.out.1.mem z).1 hz
      simp only
      omega
    obtain ⟨X, Y, hput, hdL, hdrop, hfil, hdP⟩ := anew HI.out.1.sort HI.out.2 hno hyL hyid rfl
    have hdle := dueN_le L y.rd
    have hYl : L.length = X.length + 1 + Y.length := by
      have := congrArg List.length hdrop
      rw [List.length_drop] at this
      omega
    have HXS := Lib.hid hxs
    have HG := Lib.hid gx0
    obtain ⟨rr, hrr⟩ : ∃ rr, y.rd = rr := ⟨_, rfl⟩
    rw [hrr] at hput hdL hdP eR
    have HPUT := Lib.hid hput
    have hlp : ((X ++ (⟨x1, ((l.length : Nat) : Int) + 1, rr⟩ : Th) :: Y).length : Int) = (L.length : Int) := by rw [List.length_append, List.length_cons]; omega
    have hia : idsT ((X ++ (⟨x1, ((l.length : Nat) : Int) + 1, rr⟩ : Th) :: Y).take (dueN (X ++ (⟨x1, ((l.length : Nat) : Int) + 1, rr⟩ : Th) :: Y) rr)) = idsT X ++ [x1] := by
      rw [hdP, List.take_append, List.take_of_length_le (by omega), show X.length + 1 - X.length = 1 by omega]
      simp [idsT]
    have hda : (X ++ (⟨x1, ((l.length : Nat) : Int) + 1, rr⟩ : Th) :: Y).drop (dueN (X ++ (⟨x1, ((l.length : Nat) : Int) + 1, rr⟩ : Th) :: Y) rr) = Y := by
      rw [hdP, List.drop_append, List.drop_of_length_le (by omega), show X.length + 1 - X.length = 1 by omega]
      rfl
    have hib : idsT (L.take (dueN L rr)) = idsT (L.take (X.length + 1)) := by rw [hdL]
    have hdb : L.drop (dueN L rr) = Y := by rw [hdL]; exact hdrop
    generalize (X ++ (⟨x1, ((l.length : Nat) : Int) + 1, rr⟩ : Th) :: Y) = P2 at *
    have HAB := Lib.hid (And.intro hlp (And.intro hia (And.intro hda (And.intro hib hdb))))
    have hla : (idsT X ++ [x1]).length = X.length + 1 := by simp [idsT]
    have hlb : (idsT (L.take (X.length + 1))).length = X.length + 1 := by unfold idsT; rw [List.length_map, List.length_take]; omega
    obtain ⟨bs, hbs⟩ : ∃ bs, idsT (L.take (X.length + 1)) = bs := ⟨_, rfl⟩
    rw [hbs] at hfil hlb HAB
    have HFIL := Lib.hid hfil
    have HLAB := Lib.hid (And.intro hla hlb)
    clear hxs gx0 hyl hyL hyid hyat hno hput hdL hdrop hfil hdP hdle hrr hlp hia hda hib hdb hla hlb hbs f1 f2
    generalize w4.heap.size = gx at *
    refine (t2_at x1 HXS.out).mono ?_
    rw [eR, eB]
    rintro e wa ⟨rfl, ha, hka⟩
    have hgl : gx < wa.heap.size := Nat.lt_of_lt_of_le (block_lt_of_cell HG.out) hka.size
    have ga0 : wa.cell? ⟨gx, 0, none⟩ = some (.int .i64 x1) := (hka.cell (p := ⟨gx, 0, none⟩) (block_lt_of_cell HG.out) (fun e => e)).trans HG.out
    clear eR eB HXS HG hka
    go_wp2_with fail
    refine (t2_put x1 rr P2 HPUT.out (by omega) ha).mono ?_
    rintro e wb ⟨rfl, hb, hmb⟩
    have gb0 : wb.cell? ⟨gx, 0, none⟩ = some (.int .i64 x1) := (hmb.cell (p := ⟨gx, 0, none⟩) hgl (fun e => e.2 rfl)).trans ga0
    have hgb : gx < wb.heap.size := block_lt_of_cell gb0
    clear ha ga0 hmb hgl
    go_wp2_with fail
    refine (t2_len_t' (L.length : Int) HAB.out.1 hb).mono ?_
    rintro e wc ⟨rfl, rfl⟩
    go_wp2_with fail
    refine (t2_len_u hb).mono ?_
    rintro e wc ⟨rfl, rfl⟩
    have t1 : ((L.length : Int) != (L.length : Int)) = false := by simp
    go_wp2_with fail
    refine (t2_due_t rr Y (idsT X ++ [x1]) HAB.out.2.1 HAB.out.2.2.1 hb).mono ?_
    rintro e wc ⟨va, rfl, hoa, hc, hmc⟩
    have gc0 : wc.cell? ⟨gx, 0, none⟩ = some (.int .i64 x1) := (hmc.cell (p := ⟨gx, 0, none⟩) hgb (fun e => e.2 rfl)).trans gb0
    have hsc := hmc.size
    clear hb gb0 hmc t1
    rw [HLAB.out.1] at hoa
    obtain ⟨A7, c7, rfl⟩ := own_form hoa
    go_wp2_with fail
    refine (t2_due_u rr Y bs HAB.out.2.2.2.1 HAB.out.2.2.2.2 hc).mono ?_
    rintro e wd ⟨vb, rfl, hob, hd, hmd⟩
    have gd0 : wd.cell? ⟨gx, 0, none⟩ = some (.int .i64 x1) := (hmd.cell (p := ⟨gx, 0, none⟩) (Nat.lt_of_lt_of_le hgb hsc) (fun e => e.2 rfl)).trans gc0
    have hoa2 := own_mod hoa hmd (fun k hk e => by have h1 := (hoa.lt k hk).1; have h2 := e.1; omega)
    clear hc gc0 hmd hoa
    rw [HLAB.out.2] at hob
    obtain ⟨A8, c8, rfl⟩ := own_form hob
    have hra := Rd.of_own hoa2
    have hcq := own_cap hoa2
    have hrb := Rd.of_own hob
    have hxl2 : (idsT X).length = X.length := by simp [idsT]
    have hgd := block_lt_of_cell gd0
    have HD := Lib.hid hd
    have HRA := Lib.hid hra
    have HRB := Lib.hid hrb
    have HGD := Lib.hid (And.intro gd0 hgd)
    have HX2 := Lib.hid hxl2
    have hX1 : X.length + 1 ≤ 150 := by omega
    clear hoa2 hob hd hsc hgb hgd HPUT HAB
    generalize X.length = q at *
    obtain ⟨b7, o7, c7', e7, hb7, g7⟩ := HRA.out.at (k := q) (by omega)
    injection e7 with e7 _ e7'
    subst e7 e7'
    have f7 : wd.cell? ⟨b7, o7 + q, none⟩ = some (.int .i64 x1) := g7 q _ (by
      rw [ints_get _ q (by rw [List.length_append, HX2.out]; simp)]
      rw [List.getElem_append_right (by rw [HX2.out]; exact Nat.le_refl _)]
      simp)
    have iw1 : IntKind.i64.wrap (((q + 1 : Nat) : Int) - 1) = (q : Int) := by rw [IntKind.wrap_i64]; omega
    have iw2 : IntKind.i64.wrap ((q : Int) + 1 - 1) = (q : Int) := by rw [IntKind.wrap_i64]; omega
    have iw3 : IntKind.i64.wrap (q : Int) = (q : Int) := by rw [IntKind.wrap_i64]; omega
    have i5 : (q : Int) < ((q + 1 : Nat) : Int) := by omega
    have i6 : (q : Int) < (q : Int) + 1 := by omega
    have i7 : q < q + 1 := by omega
    have t2 : (x1 != x1) = false := by simp
    have t3 : (((q + 1 : Nat) : Int) != ((q + 1 : Nat) : Int)) = false := by simp
    clear g7 hra hrb hxl2 hb7
    go_wp2_with fail
    go_quiet (fail)
    go_wp2_with fail
    have HLB := Lib.hid HLAB.out.2
    have hkn : Kept wd (wd.drewN nq) := (Mod.refl _ _).drewN nq
    have HKN := Lib.hid hkn
    have HA7 := Lib.hid (rd_prefix (c' := c7) HX2.out HRA.out)
    clear f7 t3 hkn gd0 HLAB
    go_loopg [18, 19] (q + 1) (fun k s18 s19 wr => AnRel bs x1 wd k s18 s19 wr)
    case atStart => exact ⟨0, rfl, by have := HLB.out; omega, World.ownsRow_nil _ _ _ _, HKN.out⟩
    case round =>
      obtain ⟨j, rfl, hj, ho, hk⟩ := hrel
      have HJ := Lib.hid hj
      have HO := Lib.hid ho
      have HK := Lib.hid hk
      have hjl : j ≤ q + 1 := by have := HLB.out; omega
      clear hj ho hk
      have gx1 : wr.cell? ⟨gx, 0, none⟩ = some (.int .i64 x1) := (HK.out.cell (p := ⟨gx, 0, none⟩) HGD.out.2 (fun e => e)).trans HGD.out.1
      by_cases hlt : j < q + 1
      · have hjb : j < bs.length := by rw [HLB.out]; exact hlt
        obtain ⟨b8, o8, c8', e8, hb8, g8⟩ := HRB.out.at hlt
        injection e8 with e8 _ e8'
        subst e8 e8'
        have f8 : wr.cell? ⟨b8, o8 + j, none⟩ = some (.int .i64 (bs[j]'hjb)) := (HK.out.cell (p := ⟨b8, o8 + j, none⟩) hb8 (fun e => e)).trans (g8 j _ (ints_get bs j hjb))
        have i8 : (j : Int) < ((q + 1 : Nat) : Int) := by omega
        have i9 : (j : Int) < (q : Int) + 1 := by omega
        have hsn : (bs.take (j + 1)).filter (fun z => z != x1) = (bs.take j).filter (fun z => z != x1) ++ (if (bs[j]'hjb) != x1 then [bs[j]'hjb] else []) := by
          rw [List.take_add_one, List.getElem?_eq_getElem hjb, List.filter_append]
          congr 1
          show List.filter _ [_] = _
          rw [List.filter_cons]
          rfl
        have hfl : ((bs.take j).filter (fun z => z != x1)).length ≤ j := by
          have h1 := List.length_filter_le (fun z => z != x1) (bs.take j)
          rw [List.length_take] at h1
          omega
        obtain ⟨bj, hbj⟩ : ∃ bj, (bs[j]'hjb) = bj := ⟨_, rfl⟩
        rw [hbj] at f8 hsn
        clear g8 hb8 hbj
        generalize (bs.take j).filter (fun z => z != x1) = acc at *
        cases hne : bj != x1 with
        | true =>
          rw [hne, if_pos rfl] at hsn
          have HSN := Lib.hid hsn
          have HFL := Lib.hid hfl
          clear hsn hfl
          go_wp2_with fail
          go_quiet (fail)
          have f8b : (wr.drewN nq).cell? ⟨b8, o8 + j, none⟩ = some (.int .i64 bj) := f8
          have HON := Lib.hid (own_kept HO.out ((Mod.refl _ wr).drewN nq))
          have HKS := Lib.hid (HK.out.drewN nq)
          go_wp2_with (refine wpList_pushS 26 3 1 8 148 elem_int (.tmp 147) (.tmp 143) rfl rfl rfl rfl rfl (by simp) (.int .i64 bj) rfl rfl (by simp [Value.cells, Value.oneCell']) wd.heap.size _ _ _ rfl HON.out (by unfold maxLen; have := HFL.out; omega) (by have := HFL.out; omega) HKS.out.size ?_; intro g4 c4 w4 hown2 hm2 _)
          have hk4 : Kept wd w4 := Mod.trans HKS.out hm2 (fun k hk e => by have := (HON.out.lt k e).1; omega)
          go_roundg (q + 1 - (j + 1))
          case measure => have := HJ.out; have := HLB.out; omega
          case rel => exact ⟨j + 1, by go_num, by have := HLB.out; omega, by rw [HSN.out, List.length_append]; unfold ints at *; rw [List.map_append]; exact hown2, hk4⟩
        | false =>
          rw [hne] at hsn
          simp only [Bool.false_eq_true, if_false, List.append_nil] at hsn
          have HSN := Lib.hid hsn
          clear hsn hfl
          go_wp2_with fail
          go_quiet (fail)
          go_wp2_with fail
          go_roundg (q + 1 - (j + 1))
          case measure => have := HJ.out; have := HLB.out; omega
          case rel => exact ⟨j + 1, by go_num, by have := HLB.out; omega, by rw [HSN.out]; exact own_kept HO.out ((Mod.refl _ wr).drewN _), HK.out.drewN _⟩
      · obtain rfl : j = q + 1 := by omega
        have ho := HO.out
        rw [← HLB.out, List.take_length, HFIL.out] at ho
        obtain ⟨Ao, co, rfl⟩ := own_form ho
        have HO2 := Lib.hid (Rd.of_own ho).asInts
        have hq8 : (idsT X).length ≤ 4611686018427387904 := by rw [HX2.out]; omega
        have hY8 : (idsT (Y.take (dueN Y 9223372036854775807))).length ≤ 4611686018427387904 := by unfold idsT; rw [List.length_map, List.length_take]; omega
        have HH := Lib.hid (And.intro hq8 hY8)
        have HDK := Lib.hid ((HD.out.keep HK.out).raise)
        have HA8 := Lib.hid (HA7.out.kept HK.out (fun _ _ e => e))
        clear ho gx1 hq8 hY8
        have hcq2 : q ≤ c7 := by omega
        go_wp2_with fail
        refine (ints12k _ _ (idsT X) (idsT X) HH.out.1 true (by simp) _ HA8.out HO2.out).mono ?_
        rintro e we ⟨rfl, hme⟩
        have hTe := HDK.out.keep hme
        have hse := hme.size
        clear hme
        go_wp2_with fail
        refine (t2_due_t 9223372036854775807 _ _ rfl rfl hTe).mono ?_
        rintro e wf ⟨vf, rfl, hof, hTf, _⟩
        clear hTe
        go_wp2_with fail
        refine (t2_due_u 9223372036854775807 _ _ rfl rfl hTf).mono ?_
        rintro e wg ⟨vg, rfl, hog, hTg, hmg⟩
        have hofg := own_mod hof hmg (fun k hk e => by have h1 := (hof.lt k hk).1; have h2 := e.1; omega)
        clear hTf hmg hof
        go_wp2_with fail
        refine (ints12k _ _ _ _ HH.out.2 true (by simp) _ (Rd.of_own hofg).asInts (Rd.of_own hog).asInts).mono ?_
        rintro e wh ⟨rfl, hmh⟩
        have hkz := hTg.kept.then hmh
        clear hTg hmh hofg hog
        go_wp2_with fail
        go_ret
        exact ⟨rfl, hkz⟩
end Go.Proofs.Ytgmnhjbejofnhaa
