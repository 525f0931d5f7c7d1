/- Names as plain lists of bytes: folded, parents, within, ahead. No program in sight. -/
import Derived.Test.YtafeepokcakmkaaNamS
namespace Go.Proofs.Ytafeepokcakmkaa
open Go.RowKit

def lowN (c : Nat) : Nat := if 65 ≤ c ∧ c ≤ 90 then c + 32 else c
def lowL (l : List Nat) : List Nat := l.map lowN
def foldN (n : List Nat) : List Nat := match splitN n with | some ls => joinN (ls.map lowL) | none => []
def parentN (n : List Nat) : Option (List Nat) := match splitN n with | some (_ :: ls) => some (joinN ls) | _ => none
def mayN (n : List Nat) : Bool := (splitN n).isSome
def sameN (a b : List Nat) : Bool := mayN a && mayN b && decide (foldN a = foldN b)
def withinN (n z : List Nat) : Bool := match splitN n, splitN z with | some x, some y => decide (y.map lowL <:+ x.map lowL) | _, _ => false

theorem lowN_idem (c : Nat) : lowN (lowN c) = lowN c := by unfold lowN; split <;> (try rw [if_neg (by omega)]) <;> (try rfl)
theorem lowN_lt {c : Nat} (h : c < 256) : lowN c < 256 := by unfold lowN; split <;> omega
theorem lowL_length (l : List Nat) : (lowL l).length = l.length := List.length_map _
theorem lowL_idem (l : List Nat) : lowL (lowL l) = lowL l := by
  unfold lowL; rw [List.map_map]; apply List.map_congr_left; intro a _; exact lowN_idem a
theorem map_lowL_idem (ls : List (List Nat)) : (ls.map lowL).map lowL = ls.map lowL := by
  rw [List.map_map]; apply List.map_congr_left; intro a _; exact lowL_idem a
theorem joinN_length_low (ls : List (List Nat)) : (joinN (ls.map lowL)).length = (joinN ls).length := by
  induction ls with
  | nil => rfl
  | cons l ls ih => simp only [List.map_cons, joinN, List.length_cons, List.length_append, lowL_length, ih]
theorem labOk_low {ls : List (List Nat)} (h : ∀ l ∈ ls, LabOk l) : ∀ l ∈ ls.map lowL, LabOk l := by
  intro l hl
  obtain ⟨x, hx, rfl⟩ := List.mem_map.1 hl
  have := h x hx
  unfold LabOk at this ⊢
  rw [lowL_length]; exact this
theorem split_low {n : List Nat} {ls : List (List Nat)} (h : splitN n = some ls) : splitN (foldN n) = some (ls.map lowL) := by
  have e : foldN n = joinN (ls.map lowL) := by unfold foldN; rw [h]
  obtain ⟨h1, h2, h3⟩ := (splitN_iff n ls).1 h
  rw [e]
  refine (splitN_iff _ _).2 ⟨rfl, labOk_low h2, ?_⟩
  rw [joinN_length_low, ← h1]; exact h3
theorem fold_some {n : List Nat} {ls : List (List Nat)} (h : splitN n = some ls) : foldN n = joinN (ls.map lowL) := by unfold foldN; rw [h]
theorem fold_none {n : List Nat} (h : splitN n = none) : foldN n = [] := by unfold foldN; rw [h]
theorem fold_idem (n : List Nat) : foldN (foldN n) = foldN n := by
  cases h : splitN n with
  | none => rw [fold_none h]; rfl
  | some ls => rw [fold_some (split_low h), map_lowL_idem, fold_some h]
theorem split_inj {a b : List Nat} {x : List (List Nat)} (h : splitN a = some x) (k : splitN b = some x) : a = b :=
  ((splitN_iff _ _).1 h).1.trans ((splitN_iff _ _).1 k).1.symm
theorem split_join {ls : List (List Nat)} (h : ∀ l ∈ ls, LabOk l) (k : (joinN ls).length ≤ 255) : splitN (joinN ls) = some ls := (splitN_iff _ _).2 ⟨rfl, h, k⟩
theorem joinN_drop (l : List Nat) (ls : List (List Nat)) : (joinN ls).length + 1 + l.length = (joinN (l :: ls)).length := by
  simp only [joinN, List.length_cons, List.length_append]; omega
theorem split_tail {n : List Nat} {l : List Nat} {ls : List (List Nat)} (h : splitN n = some (l :: ls)) : splitN (joinN ls) = some ls := by
  obtain ⟨h1, h2, h3⟩ := (splitN_iff _ _).1 h
  refine split_join (fun x hx => h2 x (List.mem_cons_of_mem _ hx)) ?_
  have := joinN_drop l ls
  rw [← h1] at this; omega
theorem same_iff {a b : List Nat} {x y : List (List Nat)} (h : splitN a = some x) (k : splitN b = some y) : foldN a = foldN b ↔ x.map lowL = y.map lowL := by
  constructor
  · intro e
    have h1 := split_low h
    have k1 := split_low k
    rw [e] at h1
    exact Option.some.inj (h1.symm.trans k1)
  · intro e; rw [fold_some h, fold_some k, e]
theorem sameN_eq {a b : List Nat} {x y : List (List Nat)} (h : splitN a = some x) (k : splitN b = some y) : sameN a b = decide (x.map lowL = y.map lowL) := by
  unfold sameN mayN
  rw [h, k]
  simp only [Option.isSome_some, Bool.true_and]
  exact decide_eq_decide.2 (same_iff h k)
theorem withinN_eq {a b : List Nat} {x y : List (List Nat)} (h : splitN a = some x) (k : splitN b = some y) : withinN a b = decide (y.map lowL <:+ x.map lowL) := by
  unfold withinN; rw [h, k]
theorem withinN_none_l {a : List Nat} (b : List Nat) (h : splitN a = none) : withinN a b = false := by unfold withinN; rw [h]
theorem withinN_none_r (a : List Nat) {b : List Nat} (h : splitN b = none) : withinN a b = false := by unfold withinN; rw [h]; cases splitN a <;> rfl

/-! Which is ahead. -/
def cmpG {α : Type} (c : α → α → Int) : List α → List α → Int
  | [], [] => 0
  | [], _ :: _ => -1
  | _ :: _, [] => 1
  | x :: xs, y :: ys => if c x y = 0 then cmpG c xs ys else c x y
structure Row {α : Type} (c : α → α → Int) : Prop where
  one : ∀ x y, c x y = -1 ∨ c x y = 0 ∨ c x y = 1
  back : ∀ x y, c y x = - c x y
  eq : ∀ x y, c x y = 0 ↔ x = y
  on : ∀ x y z, c x y ≤ 0 → c y z ≤ 0 → c x z ≤ 0
theorem Row.self {α : Type} {c : α → α → Int} (h : Row c) (x : α) : c x x = 0 := (h.eq x x).2 rfl
theorem cmpG_one {α : Type} {c : α → α → Int} (h : Row c) : ∀ x y : List α, cmpG c x y = -1 ∨ cmpG c x y = 0 ∨ cmpG c x y = 1
  | [], [] => by simp [cmpG]
  | [], _ :: _ => by simp [cmpG]
  | _ :: _, [] => by simp [cmpG]
  | x :: xs, y :: ys => by
    simp only [cmpG]
    split
    · exact cmpG_one h xs ys
    · exact h.one x y
theorem cmpG_back {α : Type} {c : α → α → Int} (h : Row c) : ∀ x y : List α, cmpG c y x = - cmpG c x y
  | [], [] => by simp [cmpG]
  | [], _ :: _ => by simp [cmpG]
  | _ :: _, [] => by simp [cmpG]
  | x :: xs, y :: ys => by
    simp only [cmpG]
    have e := h.back x y
    by_cases hc : c x y = 0
    · rw [if_pos hc, if_pos (by omega)]; exact cmpG_back h xs ys
    · rw [if_neg hc, if_neg (by omega)]; exact e
theorem cmpG_eq {α : Type} {c : α → α → Int} (h : Row c) : ∀ x y : List α, cmpG c x y = 0 ↔ x = y
  | [], [] => by simp [cmpG]
  | [], _ :: _ => by simp [cmpG]
  | _ :: _, [] => by simp [cmpG]
  | x :: xs, y :: ys => by
    simp only [cmpG, List.cons.injEq]
    have e := h.eq x y
    by_cases hc : c x y = 0
    · rw [if_pos hc, cmpG_eq h xs ys]; exact ⟨fun k => ⟨e.1 hc, k⟩, fun k => k.2⟩
    · rw [if_neg hc]; exact ⟨fun k => absurd k hc, fun k => absurd (e.2 k.1) hc⟩
theorem cmpG_on {α : Type} {c : α → α → Int} (h : Row c) : ∀ x y z : List α, cmpG c x y ≤ 0 → cmpG c y z ≤ 0 → cmpG c x z ≤ 0
  | [], _, [], _, _ => by simp [cmpG]
  | [], _, _ :: _, _, _ => by simp [cmpG]
  | _ :: _, [], _, k, _ => by simp [cmpG] at k
  | _ :: _, _ :: _, [], _, k => by simp [cmpG] at k
  | x :: xs, y :: ys, z :: zs, k1, k2 => by
    simp only [cmpG] at k1 k2 ⊢
    have o1 := h.one x y
    have o2 := h.one y z
    by_cases c1 : c x y = 0
    · obtain rfl := (h.eq x y).1 c1
      rw [if_pos c1] at k1
      by_cases c2 : c x z = 0
      · rw [if_pos c2] at k2 ⊢; exact cmpG_on h xs ys zs k1 k2
      · rw [if_neg c2] at k2 ⊢; exact k2
    · rw [if_neg c1] at k1
      by_cases c2 : c y z = 0
      · obtain rfl := (h.eq y z).1 c2
        rw [if_neg c1]; exact k1
      · rw [if_neg c2] at k2
        have k3 := h.on x y z k1 k2
        have c3 : c x z ≠ 0 := by
          intro c3
          obtain rfl := (h.eq x z).1 c3
          have := h.back x y
          omega
        rw [if_neg c3]; exact k3
theorem Row.list {α : Type} {c : α → α → Int} (h : Row c) : Row (cmpG c) := ⟨cmpG_one h, cmpG_back h, cmpG_eq h, cmpG_on h⟩
theorem cmpG_prefix {α : Type} {c : α → α → Int} (h : Row c) : ∀ z x : List α, z <+: x → cmpG c z x ≤ 0
  | [], [], _ => by simp [cmpG]
  | [], _ :: _, _ => by simp [cmpG]
  | z :: zs, x, ⟨t, e⟩ => by
    subst e
    simp only [List.cons_append, cmpG]
    rw [if_pos (h.self z)]
    exact cmpG_prefix h zs _ ⟨t, rfl⟩
theorem cmpG_between {α : Type} {c : α → α → Int} (h : Row c) : ∀ z a b d : List α, z <+: a → z <+: d → cmpG c a b ≤ 0 → cmpG c b d ≤ 0 → z <+: b
  | [], _, b, _, _, _, _, _ => List.nil_prefix
  | z :: zs, a, b, d, ⟨s, e⟩, ⟨t, f⟩, h1, h2 => by
    subst e f
    cases b with
    | nil => simp [cmpG] at h1
    | cons b bs =>
      simp only [List.cons_append, cmpG] at h1 h2
      have hb := h.back z b
      have e : c z b = 0 := by
        by_cases c1 : c z b = 0
        · exact c1
        · rw [if_neg c1] at h1
          rw [if_neg (by omega)] at h2
          omega
      obtain rfl := (h.eq z b).1 e
      rw [if_pos e] at h1 h2
      have := cmpG_between h zs (zs ++ s) bs (zs ++ t) ⟨s, rfl⟩ ⟨t, rfl⟩ h1 h2
      exact List.prefix_cons_inj z |>.2 this
def cmpI (x y : Nat) : Int := if x < y then -1 else if x = y then 0 else 1
theorem row_cmpI : Row cmpI := by
  refine ⟨fun x y => ?_, fun x y => ?_, fun x y => ?_, fun x y z => ?_⟩ <;> unfold cmpI
  · split <;> (try split) <;> simp
  · repeat' split
    all_goals omega
  · repeat' split
    all_goals omega
  · repeat' split
    all_goals omega
/-- Texts. -/
def cmpS (x y : List Nat) : Int := cmpG cmpI x y
theorem row_cmpS : Row cmpS := row_cmpI.list
/-- Rows of texts. -/
def cmpR (x y : List (List Nat)) : Int := cmpG cmpS x y
theorem row_cmpR : Row cmpR := row_cmpS.list
def keyN (ls : List (List Nat)) : List (List Nat) := (ls.map lowL).reverse
def cmpN (a b : List Nat) : Int := match splitN a, splitN b with | some x, some y => cmpR (keyN x) (keyN y) | _, _ => 0
theorem cmpN_eq {a b : List Nat} {x y : List (List Nat)} (h : splitN a = some x) (k : splitN b = some y) : cmpN a b = cmpR (keyN x) (keyN y) := by unfold cmpN; rw [h, k]
theorem withinN_key {a b : List Nat} {x y : List (List Nat)} (h : splitN a = some x) (k : splitN b = some y) : withinN a b = true ↔ keyN y <+: keyN x := by
  rw [withinN_eq h k, decide_eq_true_eq]
  unfold keyN
  exact List.reverse_prefix.symm
end Go.Proofs.Ytafeepokcakmkaa
