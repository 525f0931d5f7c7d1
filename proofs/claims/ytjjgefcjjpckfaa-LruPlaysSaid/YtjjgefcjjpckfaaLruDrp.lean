/- LruDropped, walked: whatever the acts and the place, it answers true, and turns nothing that was there. Conditions: none. -/
import Derived.Test.YtjjgefcjjpckfaaLruOnce
import Derived.Test.YtjjgefcjjpckfaaApp
namespace Go.Proofs.Ytjjgefcjjpckfaa
open Go.RowKit

theorem dropped_big (v : Value) (n place : Int) (acts : List (Int × Int)) (hl : 1000 < acts.length) (w : World) (hv : RdA w v acts) :
    Calls Try.prog 4 #[.int .i64 n, v, .int .i64 place] w fun e w' => e = .returned (.bool true) ∧ Kept w w' := by
  obtain ⟨_, A, c, rfl, _⟩ := hv
  have h1 : (1000 : Int) < acts.length := by omega
  go_enter Try.func4, Try.ntmps4
  go_wp2_with (go_at_call 9; refine (awake_c _).mono ?_; rintro e w1 ⟨rfl, hm1⟩)
  go_ret
  exact ⟨rfl, hm1⟩

def pOf (k place : Int) : Nat := ((place % 18446744073709551616) % k).toNat
theorem pOf_lt {k : Int} (h : 1 ≤ k) (place : Int) : (pOf k place : Int) < k := by
  unfold pOf
  have := Int.emod_nonneg (place % 18446744073709551616) (show k ≠ 0 by omega)
  have := Int.emod_lt_of_pos (place % 18446744073709551616) (show 0 < k by omega)
  omega
theorem pOf_eq {k : Int} (h : 1 ≤ k) (h2 : k ≤ 256) (place : Int) : wrap64 ((IntKind.u64.wrap place).tmod k) = (pOf k place : Int) := by
  have e1 : IntKind.u64.wrap place = place % 18446744073709551616 := IntKind.wrap_u64 place
  have h3 := Int.emod_nonneg (place % 18446744073709551616) (show k ≠ 0 by omega)
  have h4 := Int.emod_lt_of_pos (place % 18446744073709551616) (show 0 < k by omega)
  rw [e1, Int.tmod_eq_emod_of_nonneg (by omega), IntWalk.wrap64_in _ (by omega)]
  unfold pOf
  omega
def F (R : List Nat) (p : Nat) : List Nat := R.filter (· ≠ p)
theorem F_snoc (R : List Nat) (p j : Nat) (h : j < R.length) : F (R.take (j + 1)) p = F (R.take j) p ++ if R[j] = p then [] else [R[j]] := by
  unfold F
  rw [List.take_add_one, List.getElem?_eq_getElem h, List.filter_append]
  congr 1
  by_cases e : R[j] = p <;> simp [e]
theorem F_len (R : List Nat) (p : Nat) : (F R p).length ≤ R.length := List.length_filter_le _ _
theorem F_not (R : List Nat) (p : Nat) : p ∉ F R p := by simp [F]
theorem F_F (R : List Nat) (p : Nat) : F (F R p) p = F R p := by simp [F, List.filter_filter]

def DrpRel (R : List Nat) (p : Nat) (W : World) (k : Nat) (rest i : Value) (wr : World) : Prop :=
  ∃ j : Nat, i = .int .i64 j ∧ j + k = R.length ∧ wr.ownsRow W.heap.size 3 1 rest (F (R.take j) p).length (ints (pInts (F (R.take j) p))) ∧ Kept W wr

set_option maxHeartbeats 2000000 in
set_option maxRecDepth 100000 in
theorem dropped_small (v : Value) (n place : Int) (acts : List (Int × Int)) (hl : acts.length ≤ 1000) (w : World) (hv : RdA w v acts) :
    Calls Try.prog 4 #[.int .i64 n, v, .int .i64 place] w fun e w' => e = .returned (.bool true) ∧ Kept w w' := by
  have H := Lib.hid hv
  obtain ⟨_, A, c, rfl, _⟩ := hv
  have h1 : (acts.length : Int) ≤ 1000 := by omega
  have hd : decide ((1000 : Int) < acts.length) = false := by simp; omega
  have hk1 : 1 ≤ kOf n := by unfold kOf; omega
  have hk2 : kOf n ≤ 256 := by unfold kOf; omega
  go_enter Try.func4, Try.ntmps4
  go_wp2_with fail
  refine (awake_c _).mono ?_
  rintro e w1 ⟨rfl, hm1⟩
  go_wp2_with fail
  refine (made_c n _ acts hl _ (H.out.kept hm1 (fun _ _ e => e))).mono ?_
  rintro e w2 ⟨rfl, hL2, hm2⟩
  have hgn : w.heap.size ≤ w1.heap.size := hm1.size
  generalize w1.heap.size = g at *
  generalize hk : kOf n = k at *
  clear hk
  generalize mRow k acts = R at *
  have hk2' : Kept w w2 := hm1.then hm2
  clear hm1 hm2 hd
  have hp0 := pOf_lt hk1 place
  have hu : ¬ IntKind.u64.wrap k = 0 := by rw [IntKind.wrap_u64]; omega
  go_wp2_with fail
  rw [pOf_eq hk1 hk2 place]
  generalize pOf k place = p at *
  clear hu
  have hin : isIn k (p : Int) = true := decide_eq_true (by omega)
  obtain ⟨q, hq⟩ : ∃ q : Bool, lHas k R p = q := ⟨_, rfl⟩
  have HQ := Lib.hid hq
  have hF1 : lDrop k R p = F R p := by unfold lDrop; rw [hin]; rfl
  have hF2 : lDrop k (F R p) p = F R p := by unfold lDrop; rw [hin]; exact F_F R p
  have hF3 : lHas k (F R p) p = false := by unfold lHas; rw [hin]; simp [F_not]
  have hF4 : lUse k R p = F R p ++ [p] := by unfold lUse; rw [hin]; rfl
  have hF5 : lHas k (F R p ++ [p]) p = true := by unfold lHas; rw [hin]; simp
  have hF6 : lDrop k (F R p ++ [p]) p = F R p := by unfold lDrop; rw [hin]; simp [F, List.filter_append, List.filter_filter]
  have hF7 : useRes k p = 0 := by unfold useRes; rw [hin]; rfl
  have HF := Lib.hid (And.intro hF1 (And.intro hF2 (And.intro hF3 (And.intro hF4 (And.intro hF5 (And.intro hF6 hF7))))))
  clear hF1 hF2 hF3 hF4 hF5 hF6 hF7 hin hq
  refine (lru_has_to g k _ _ _ hL2 q HQ.out).mono ?_
  rintro e w2 ⟨rfl, rfl⟩
  go_wp2_with fail
  refine (lru_row g k _ _ hL2).mono ?_
  rintro e w3 ⟨vr, rfl, hvr, hm3⟩
  have hlen := hL2.length
  have hL3 := hL2.mod hm3 (fun e => e)
  have hk3 : Kept w w3 := hk2'.then hm3
  have hrd := Rd.of_own hvr
  have HR := Lib.hid hrd
  obtain ⟨A2, c2, rfl⟩ : ∃ A2 c2, vr = .slice A2 R.length c2 := by
    obtain ⟨_, A2, c2, e, _⟩ := hrd
    exact ⟨A2, c2, e⟩
  have HL3 := Lib.hid hL3
  have HK3 := Lib.hid hk3
  have hgl : R.length ≤ 256 := by omega
  clear hrd hm3 hvr hL2 hL3 hk3 hlen hk2'
  go_wp2_with fail
  go_loopg [11, 12] R.length (fun s rest i wr => DrpRel R p w3 s rest i wr)
  case atStart => exact ⟨0, rfl, by omega, by simpa [F, pInts, ints] using World.ownsRow_nil w3 _ _ _, Kept.refl _⟩
  case round =>
    obtain ⟨j, rfl, hj, hown, hm⟩ := hrel
    have HJ := Lib.hid hj
    have hjl : j ≤ R.length := by omega
    have hFl := F_len (R.take j) p
    rw [List.length_take] at hFl
    have hFl2 : (F (R.take j) p).length ≤ 256 := by omega
    clear hj hFl
    by_cases hlt : j < R.length
    · obtain ⟨b2, o2, c2', e2, hb2, g2⟩ := HR.out.at hlt
      injection e2 with e2 _ e2'
      subst e2 e2'
      have f1 := g2 j _ (ints_get (pInts R) j (by simpa [pInts] using hlt))
      have hpj : (pInts R)[j]'(by simpa [pInts] using hlt) = (R[j] : Int) := by simp [pInts]
      rw [hpj, ← hm.cell (p := ⟨b2, o2 + j, none⟩) hb2 (fun e => e)] at f1
      have i1 : (j : Int) < R.length := by omega
      have HC := Lib.hid (F_snoc R p j hlt)
      have HM := Lib.hid hm
      clear g2 hpj
      by_cases he : R[j] = p
      · have t1 : ((R[j] : Int) != (p : Int)) = false := by simp [he]
        have hc1 : F (R.take (j + 1)) p = F (R.take j) p := by rw [HC.out, if_pos he]; simp
        have HC1 := Lib.hid hc1
        clear he hc1 hm
        go_wp2_with fail
        go_roundg (R.length - (j + 1))
        case measure => have := HJ.out; omega
        case rel => exact ⟨j + 1, by go_num, by omega, by rw [HC1.out]; exact hown, HM.out⟩
      · have t1 : ((R[j] : Int) != (p : Int)) = true := by simp; omega
        have hc1 : F (R.take (j + 1)) p = F (R.take j) p ++ [R[j]] := by rw [HC.out, if_neg he]
        have HC1 := Lib.hid hc1
        have hlt2 := hown.lt
        have HLT := Lib.hid hlt2
        clear he hc1 hlt2
        go_wp2_with (refine wpList_push 27 3 1 8 56 elem_int (.tmp 55) (.tmp 51) rfl rfl rfl rfl rfl (by simp) (.int .i64 (R[j] : Int)) rfl rfl (by simp [Value.cells, Value.oneCell']) _ _ _ _ rfl hown (by unfold maxLen; omega) (by omega) hm.size ?_; intro v' w4 hown1 hm1 _; have hm2 : Kept w3 w4 := hm.trans hm1 (fun i hi e => by have := (HLT.out i e).1; omega); clear hm1 hown hm)
        go_roundg (R.length - (j + 1))
        case measure => have := HJ.out; omega
        case rel => exact ⟨j + 1, by go_num, by omega, by rw [HC1.out]; simpa [ints, pInts, Value.cells] using hown1, hm2⟩
    · obtain rfl : j = R.length := by omega
      rw [List.take_length] at hown hFl2
      have hL4 := HL3.out.mod hm (fun e => e)
      have hk4 : Kept w wr := HK3.out.then hm
      have hblk : ∀ x, u11.ownBlock = some x → g < x ∧ x < wr.heap.size := fun x hx => by
        have h1 := hown.lt x hx
        have h2 := HL3.out.lt
        omega
      have hrest : RdI wr u11 (pInts (F R p)) := by
        have := Rd.of_own hown
        rw [show (F R p).length = (pInts (F R p)).length by simp [pInts]] at this
        exact this
      have HB := Lib.hid hblk
      have hFl3 : (pInts (F R p)).length ≤ 256 := by simpa [pInts] using hFl2
      clear hown hm hblk hp0 hk1 hk2
      go_wp2_with fail
      refine (lru_copy g k R _ hL4).mono ?_
      rintro e wb ⟨rfl, hLc, hmb⟩
      have hgc : g < wr.heap.size := hL4.lt
      generalize wr.heap.size = gc at *
      have hLg := hL4.mod hmb (fun e => e)
      have hrb := hrest.kept hmb (fun _ _ e => e)
      have hkb := hk4.then hmb
      have hgw : w.heap.size ≤ gc := by omega
      have hne : ¬ Only gc g := fun e => by have e : g = gc := e; omega
      have hne2 : ∀ x, u11.ownBlock = some x → ¬ Only gc x := fun x hx e => by have e : x = gc := e; have := (HB.out x hx).2; omega
      have hne3 : ∀ x, u11.ownBlock = some x → ¬ Only g x := fun x hx e => by have e : x = g := e; have := (HB.out x hx).1; omega
      have HN1 := Lib.hid hne
      have HN2 := Lib.hid hne2
      have HN3 := Lib.hid hne3
      clear hmb hL4 hrest hk4 hne hne2 hne3
      go_wp2_with fail
      refine (lru_drop_to gc k R p _ hLc q HQ.out (F R p) HF.out.1).mono ?_
      rintro e wc ⟨rfl, hLc1, hmc⟩
      have hLg1 := hLg.mod hmc HN1.out
      have hrc := hrb.mod hmc (fun x hx _ => HN2.out x hx)
      have hkc := hkb.only hmc hgw
      clear hLc hLg hrb hkb hmc
      go_wp2_with fail
      refine (lru_has_to gc k (F R p) p _ hLc1 false HF.out.2.2.1).mono ?_
      rintro e wd ⟨rfl, rfl⟩
      go_wp2_with fail
      refine (lru_drop_to gc k (F R p) p _ hLc1 false HF.out.2.2.1 (F R p) HF.out.2.1).mono ?_
      rintro e wd ⟨rfl, hLd, hmd⟩
      have hLg2 := hLg1.mod hmd HN1.out
      have hrd := hrc.mod hmd (fun x hx _ => HN2.out x hx)
      have hkd := hkc.only hmd hgw
      clear hLc1 hLg1 hrc hkc hmd
      go_wp2_with fail
      refine (lru_row gc k _ _ hLd).mono ?_
      rintro e we ⟨ve, rfl, hve, hme⟩
      have hLg3 := hLg2.mod hme (fun e => e)
      have hre := hrd.kept hme (fun _ _ e => e)
      have hke := hkd.then hme
      have hve1 := Rd.of_own hve
      rw [show (F R p).length = (pInts (F R p)).length by simp [pInts]] at hve1
      clear hLd hLg2 hrd hkd hme hve
      go_wp2_with fail
      refine (ints15k _ _ (pInts (F R p)) (pInts (F R p)) (by omega) true (by simp) _ hve1 hre).mono ?_
      rintro e wf ⟨rfl, hmf⟩
      have hLg4 := hLg3.mod hmf (fun e => e)
      have hrf := hre.kept hmf (fun _ _ e => e)
      have hkf := hke.then hmf
      clear hLg3 hre hke hmf hve1
      go_wp2_with fail
      refine (lru_use_to g k R p _ hLg4 0 HF.out.2.2.2.2.2.2 _ HF.out.2.2.2.1).mono ?_
      rintro e wg ⟨rfl, hLg5, hmg⟩
      have hrg := hrf.mod hmg (fun x hx _ => HN3.out x hx)
      have hkg := hkf.only hmg hgn
      clear hLg4 hrf hkf hmg
      go_wp2_with fail
      refine (lru_row g k _ _ hLg5).mono ?_
      rintro e wh ⟨vh, rfl, hvh, hmh⟩
      have hLg6 := hLg5.mod hmh (fun e => e)
      have hrh := hrg.kept hmh (fun _ _ e => e)
      have hkh := hkg.then hmh
      have hvh1 := Rd.of_own hvh
      rw [show (F R p ++ [p]).length = (pInts (F R p ++ [p])).length by simp [pInts]] at hvh1
      clear hLg5 hrg hkg hmh hvh
      have hmi : Kept wh (wh.alloc (.cells #[] 3)) := (Kept.refl _).alloc _
      have hri := hrh.kept hmi (fun _ _ e => e)
      have hoi : (wh.alloc (.cells #[] 3)).ownsRow wh.heap.size 3 1 (.slice (some ⟨wh.heap.size, 0, none⟩) 0 0) 0 [] := World.ownsRow_made wh #[] 0 (Nat.le_refl _) (by unfold maxLen; omega) (by simp)
      have HRI := Lib.hid hri
      have HOI := Lib.hid hoi
      have hone : ∀ u ∈ ints (pInts (F R p)), u.oneCell' = true := by
        intro u hu
        obtain ⟨x, _, rfl⟩ := List.mem_map.1 hu
        rfl
      have HONE := Lib.hid hone
      clear hri hoi hone
      go_wp2_with (first | (refine wpList_append_rd 27 3 1 8 elem_int (.tmp 89) (.tmp 90) rfl rfl wh.heap.size (.slice (some ⟨wh.heap.size, 0, none⟩) 0 0) 0 [] rfl HOI.out u11 (pInts (F R p)).length (ints (pInts (F R p))) rfl HRI.out HONE.out (by unfold maxLen; omega) (by omega) (by simp) ?_; intro v' wj hoj hmj _; have hkj : Kept wh wj := Mod.trans hmi hmj (fun i hi e => by injection e with e; (have e : wh.heap.size = i := e); omega); rw [Nat.zero_add, List.nil_append] at hoj; clear hmj) | (refine wpList_push 27 3 1 8 93 elem_int (.tmp 92) (.tmp 91) rfl rfl rfl rfl rfl (by simp) (.int .i64 p) rfl rfl (by simp [Value.cells, Value.oneCell']) wh.heap.size v' _ _ rfl hoj (by unfold maxLen; omega) (by omega) hkj.size ?_; intro v2 wk hok hmk _; have hkk : Kept wh wk := Mod.trans hkj hmk (fun i hi e => by have := (hoj.lt i e).1; omega); clear hmk hoj))
      have hLg7 := hLg6.mod hkk (fun e => e)
      have hrk := hrh.kept hkk (fun _ _ e => e)
      have hkk2 := hkh.then hkk
      have hvk := hvh1.kept hkk (fun _ _ e => e)
      have hok1 : RdI wk v2 (pInts (F R p ++ [p])) := by
        have := Rd.of_own hok
        rw [show (Value.int .i64 (p : Int)).cells.toList = [Value.int .i64 (p : Int)] from rfl] at this
        have e1 : ints (pInts (F R p)) ++ [Value.int .i64 (p : Int)] = ints (pInts (F R p ++ [p])) := by simp [ints, pInts]
        have e2 : (pInts (F R p)).length + 1 = (pInts (F R p ++ [p])).length := by simp [pInts]
        rw [e1, e2] at this
        exact this
      have hl2 : (pInts (F R p ++ [p])).length ≤ 4611686018427387904 := by simp [pInts]; omega
      clear hLg6 hrh hkh hvh1 hmi hkj hkk hok
      refine (ints15k _ _ (pInts (F R p ++ [p])) (pInts (F R p ++ [p])) hl2 true (by simp) _ hvk hok1).mono ?_
      rintro e wl ⟨rfl, hml⟩
      have hLg8 := hLg7.mod hml (fun e => e)
      have hrl := hrk.kept hml (fun _ _ e => e)
      have hkl := hkk2.then hml
      clear hLg7 hrk hkk2 hvk hok1 hml hl2
      go_wp2_with fail
      refine (lru_drop_to g k _ p _ hLg8 true HF.out.2.2.2.2.1 _ HF.out.2.2.2.2.2.1).mono ?_
      rintro e wm ⟨rfl, hLg9, hmm⟩
      have hrm := hrl.mod hmm (fun x hx _ => HN3.out x hx)
      have hkm := hkl.only hmm hgn
      clear hLg8 hrl hkl hmm
      go_wp2_with fail
      refine (lru_row g k _ _ hLg9).mono ?_
      rintro e wn ⟨vn, rfl, hvn, hmn⟩
      have hrn := hrm.kept hmn (fun _ _ e => e)
      have hkn := hkm.then hmn
      have hvn1 := Rd.of_own hvn
      rw [show (F R p).length = (pInts (F R p)).length by simp [pInts]] at hvn1
      clear hLg9 hrm hkm hmn hvn
      go_wp2_with fail
      refine (ints15k _ _ (pInts (F R p)) (pInts (F R p)) (by omega) true (by simp) _ hvn1 hrn).mono ?_
      rintro e wo ⟨rfl, hmo⟩
      have hko := hkn.then hmo
      clear hrn hvn1 hkn hmo
      go_wp2_with fail
      go_ret
      exact ⟨rfl, hko⟩
end Go.Proofs.Ytjjgefcjjpckfaa
