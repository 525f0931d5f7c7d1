/- The plain law of zones: the zone of a name is the one of most labels within which it is. No conditions. -/
import Derived.Test.YtgibhcmdmdbpgaaZoB
namespace Go.Proofs.Ytgibhcmdmdbpgaa
open Go.RowKit

def okZ (z : Zn) : Bool := mayN (bys z.name) && (decide (foldS z.name = z.name) && (decide (1 ≤ z.pol) && decide (z.pol ≤ 4)))
def hasZ (l : List Zn) (n : ByteArray) : Bool := (l.find? (fun y => n == y.name)).isSome
/-- How a table is refused (0: it is not). -/
def errT (seen : List Zn) : List Zn → Int
  | [] => 0
  | z :: r => if okZ z = true then (if hasZ seen z.name = true then 7 else errT (seen ++ [z]) r) else 3
def newE (l : List Zn) : Int := if 16 < l.length then 5 else errT [] l
structure OkT (l : List Zn) : Prop where
  ok : ∀ z ∈ l, okZ z = true
  one : (l.map (·.name)).Nodup
theorem hasZ_iff (l : List Zn) (n : ByteArray) : hasZ l n = true ↔ n ∈ l.map (·.name) := by
  unfold hasZ
  rw [List.find?_isSome, List.mem_map]
  constructor
  · rintro ⟨z, hz, h⟩; exact ⟨z, hz, ((MapKept.bytes_beq _ _).1 h).symm⟩
  · rintro ⟨z, hz, h⟩; exact ⟨z, hz, (MapKept.bytes_beq _ _).2 h.symm⟩
theorem errT_zero (r : List Zn) : ∀ seen, errT seen r = 0 ↔ (∀ z ∈ r, okZ z = true) ∧ (r.map (·.name)).Nodup ∧ ∀ z ∈ r, z.name ∉ seen.map (·.name) := by
  induction r with
  | nil => intro seen; simp [errT]
  | cons z r ih =>
    intro seen
    unfold errT
    by_cases h1 : okZ z = true
    · rw [if_pos h1]
      by_cases h2 : hasZ seen z.name = true
      · rw [if_pos h2]
        rw [hasZ_iff] at h2
        constructor
        · intro h; cases h
        · rintro ⟨_, _, h⟩; exact absurd h2 (h z (by simp))
      · rw [if_neg h2, ih]
        rw [hasZ_iff] at h2
        simp only [List.map_append, List.map_cons, List.map_nil, List.mem_append, List.mem_singleton, List.nodup_cons, List.mem_cons, forall_eq_or_imp, not_or]
        constructor
        · rintro ⟨a, b, c⟩
          refine ⟨⟨h1, a⟩, ⟨fun h => ?_, b⟩, h2, fun y hy => (c y hy).1⟩
          obtain ⟨y, hy, e⟩ := List.mem_map.1 h
          exact (c y hy).2.1 e
        · rintro ⟨⟨_, a⟩, ⟨d, b⟩, _, c⟩
          exact ⟨a, b, fun y hy => ⟨c y hy, fun e => d (List.mem_map.2 ⟨y, hy, e⟩), by simp⟩⟩
    · rw [if_neg h1]
      constructor
      · intro h; cases h
      · rintro ⟨h, _⟩; exact absurd (h z (by simp)) h1
theorem errT_cases (r : List Zn) : ∀ seen, errT seen r = 0 ∨ errT seen r = 3 ∨ errT seen r = 7 := by
  induction r with
  | nil => intro seen; exact .inl rfl
  | cons z r ih =>
    intro seen
    unfold errT
    split
    · split
      · exact .inr (.inr rfl)
      · exact ih _
    · exact .inr (.inl rfl)
theorem newE_zero (l : List Zn) : newE l = 0 ↔ l.length ≤ 16 ∧ OkT l := by
  unfold newE
  split
  · constructor
    · intro h; cases h
    · rintro ⟨h, _⟩; omega
  · rw [errT_zero]
    constructor
    · rintro ⟨a, b, _⟩; exact ⟨by omega, a, b⟩
    · rintro ⟨_, a, b⟩; exact ⟨a, b, fun z _ => by simp⟩
theorem okZ_may {z : Zn} (h : okZ z = true) : ∃ ls, splitN (bys z.name) = some ls ∧ ls.map lowL = ls := by
  unfold okZ at h
  simp only [Bool.and_eq_true, decide_eq_true_eq] at h
  obtain ⟨h1, h2, _⟩ := h
  unfold mayN at h1
  obtain ⟨ls, hl⟩ := Option.isSome_iff_exists.1 h1
  refine ⟨ls, hl, ?_⟩
  have h3 := split_low hl
  rw [← bys_foldS, h2, hl] at h3
  injection h3 with h3
  exact h3.symm
/-- A name's own labels, folded; what is looked up with labels. -/
def keyS (ls : List (List Nat)) : ByteArray := mkS (joinN ls)
def upZ (l : List Zn) : List (List Nat) → Zn
  | [] => (l.find? (fun z => keyS [] == z.name)).getD znRoot
  | a :: ls => (l.find? (fun z => keyS (a :: ls) == z.name)).getD (upZ l ls)
def findZ (l : List Zn) (n : ByteArray) : Zn := match splitN (bys n) with
  | none => znRoot
  | some ls => upZ l (ls.map lowL)
theorem keyS_of {n : ByteArray} {ls : List (List Nat)} (h : splitN (bys n) = some ls) : keyS ls = n := mkS_of ((splitN_iff _ _).1 h).1
theorem upZ_in {l : List Zn} {ls : List (List Nat)} {z : Zn} (h : l.find? (fun z => keyS ls == z.name) = some z) : upZ l ls = z := by
  cases ls <;> unfold upZ <;> rw [h] <;> rfl
theorem upZ_root {l : List Zn} (h : l.find? (fun z => keyS [] == z.name) = none) : upZ l [] = znRoot := by unfold upZ; rw [h]; rfl
theorem upZ_up {l : List Zn} {a : List Nat} {ls : List (List Nat)} (h : l.find? (fun z => keyS (a :: ls) == z.name) = none) : upZ l (a :: ls) = upZ l ls := by
  show (l.find? (fun z => keyS (a :: ls) == z.name)).getD (upZ l ls) = _
  rw [h]; rfl
theorem beq_found {n : ByteArray} {l : List Zn} {y : Zn} (h : l.find? (fun z => n == z.name) = some y) : n = y.name := by
  have := List.find?_some h
  exact (MapKept.bytes_beq _ _).1 this
/-- The labels of a zone. -/
def zlab (z : Zn) : List (List Nat) := (splitN (bys z.name)).getD []
theorem zlab_len (z : Zn) : (zlab z).length = labK z.name := rfl
theorem zlab_key {z : Zn} (h : okZ z = true) : keyS (zlab z) = z.name := by
  obtain ⟨ls, hl, _⟩ := okZ_may h
  unfold zlab
  rw [hl]
  exact keyS_of hl
theorem zlab_low {z : Zn} (h : okZ z = true) : (zlab z).map lowL = zlab z := by
  obtain ⟨ls, hl, h2⟩ := okZ_may h
  unfold zlab
  rw [hl]
  exact h2
theorem zn_eq {l : List Zn} (h : OkT l) {x y : Zn} (hx : x ∈ l) (hy : y ∈ l) (e : x.name = y.name) : x = y := by
  obtain ⟨i, hi, rfl⟩ := List.mem_iff_getElem.1 hx
  obtain ⟨j, hj, rfl⟩ := List.mem_iff_getElem.1 hy
  have hpw := List.pairwise_iff_getElem.1 h.one
  simp only [List.length_map, List.getElem_map] at hpw
  rcases Nat.lt_trichotomy i j with h1 | h1 | h1
  · exact absurd e (hpw i j hi hj h1)
  · subst h1; rfl
  · exact absurd e.symm (hpw j i hj hi h1)
/-- What the way up finds: the zone of most labels of those whose labels end the name's. -/
theorem upZ_best {l : List Zn} (h : OkT l) : ∀ ls : List (List Nat), (∀ x ∈ ls, LabOk x ∧ ∀ c ∈ x, c < 256) → (joinN ls).length ≤ 255 → ∀ z ∈ l, zlab z <:+ ls → (∀ y ∈ l, zlab y <:+ ls → labK y.name ≤ labK z.name) → upZ l ls = z := by
  intro ls
  have key : ∀ (ks : List (List Nat)), (∀ x ∈ ks, LabOk x ∧ ∀ c ∈ x, c < 256) → (joinN ks).length ≤ 255 → ∀ y ∈ l, keyS ks = y.name → zlab y = ks := by
    intro ks h1 h2 y _ e
    unfold zlab
    rw [← e, keyS, bys_mkS]
    · rw [split_join (fun x hx => (h1 x hx).1) h2]; rfl
    · exact join_lt (fun x hx => by have := (h1 x hx).1; unfold LabOk at this; omega) (fun x hx => (h1 x hx).2)
  induction ls with
  | nil =>
    intro h1 h2 z hz hs _
    have e : zlab z = [] := List.eq_nil_of_suffix_nil hs
    have hf : l.find? (fun y => keyS [] == y.name) = some z := by
      cases hq : l.find? (fun y => keyS [] == y.name) with
      | none =>
        have := List.find?_eq_none.1 hq z hz
        rw [← e, zlab_key (h.ok z hz)] at this
        exact absurd ((MapKept.bytes_beq _ _).2 rfl) this
      | some y =>
        have hy := List.mem_of_find?_eq_some hq
        have e2 := beq_found hq
        rw [zn_eq h hy hz]
        rw [← e2, ← e, zlab_key (h.ok z hz)]
    exact upZ_in hf
  | cons a ls ih =>
    intro h1 h2 z hz hs hm
    cases hq : l.find? (fun y => keyS (a :: ls) == y.name) with
    | some y =>
      rw [upZ_in hq]
      have hy := List.mem_of_find?_eq_some hq
      have e2 := beq_found hq
      have e3 := key (a :: ls) h1 h2 y hy e2
      have h4 := hm y hy (by rw [e3]; exact List.suffix_refl _)
      rw [← zlab_len, ← zlab_len, e3] at h4
      have h5 := hs.length_le
      have h6 : zlab z = a :: ls := hs.eq_of_length (by omega)
      refine zn_eq h hy hz ?_
      rw [← e2, ← h6, zlab_key (h.ok z hz)]
    | none =>
      rw [upZ_up hq]
      have hn := List.find?_eq_none.1 hq
      have hne : ∀ y ∈ l, zlab y ≠ a :: ls := fun y hy e => hn y hy (by rw [← e, zlab_key (h.ok y hy)]; exact (MapKept.bytes_beq _ _).2 rfl)
      have h3 : (joinN ls).length ≤ 255 := by have := joinN_drop a ls; omega
      have hz2 : zlab z <:+ ls := by
        rcases List.suffix_cons_iff.1 hs with e | e
        · exact absurd e (hne z hz)
        · exact e
      exact ih (fun x hx => h1 x (List.mem_cons_of_mem _ hx)) h3 z hz hz2 fun y hy e => hm y hy (List.suffix_cons_iff.2 (.inr e))
theorem upZ_none {l : List Zn} (h : OkT l) : ∀ ls : List (List Nat), (∀ x ∈ ls, LabOk x ∧ ∀ c ∈ x, c < 256) → (joinN ls).length ≤ 255 → (∀ y ∈ l, ¬ zlab y <:+ ls) → upZ l ls = znRoot := by
  intro ls
  have key : ∀ (ks : List (List Nat)), (∀ x ∈ ks, LabOk x ∧ ∀ c ∈ x, c < 256) → (joinN ks).length ≤ 255 → (∀ y ∈ l, ¬ zlab y <:+ ks) → l.find? (fun z => keyS ks == z.name) = none := by
    intro ks h1 h2 hn
    rw [List.find?_eq_none]
    intro y hy e
    have e := (MapKept.bytes_beq _ _).1 e
    refine hn y hy ?_
    have : zlab y = ks := by
      unfold zlab
      rw [← e, keyS, bys_mkS]
      · rw [split_join (fun x hx => (h1 x hx).1) h2]; rfl
      · exact join_lt (fun x hx => by have := (h1 x hx).1; unfold LabOk at this; omega) (fun x hx => (h1 x hx).2)
    rw [this]
    exact List.suffix_refl _
  induction ls with
  | nil => intro h1 h2 hn; exact upZ_root (key [] h1 h2 hn)
  | cons a ls ih =>
    intro h1 h2 hn
    rw [upZ_up (key _ h1 h2 hn)]
    have h3 : (joinN ls).length ≤ 255 := by have := joinN_drop a ls; omega
    exact ih (fun x hx => h1 x (List.mem_cons_of_mem _ hx)) h3 fun y hy e => hn y hy (List.suffix_cons_iff.2 (.inr e))
/-- Is the name within the zone? -/
def wi (n : ByteArray) (z : Zn) : Bool := withinN (bys n) (bys z.name)
theorem wi_iff {n : ByteArray} {ks : List (List Nat)} (hn : splitN (bys n) = some ks) {z : Zn} (h : okZ z = true) : wi n z = true ↔ zlab z <:+ ks.map lowL := by
  obtain ⟨ls, hl, h2⟩ := okZ_may h
  unfold wi zlab
  rw [withinN_eq hn hl, hl, h2, decide_eq_true_eq]
  rfl
theorem wi_none {n : ByteArray} (hn : splitN (bys n) = none) (z : Zn) : wi n z = false := withinN_none_l _ hn
theorem low_side {n : ByteArray} {ks : List (List Nat)} (hn : splitN (bys n) = some ks) : (∀ x ∈ ks.map lowL, LabOk x ∧ ∀ c ∈ x, c < 256) ∧ (joinN (ks.map lowL)).length ≤ 255 := by
  obtain ⟨h1, h2, h3⟩ := (splitN_iff _ _).1 hn
  refine ⟨fun x hx => ⟨labOk_low h2 x hx, ?_⟩, by rw [joinN_length_low, ← h1]; exact h3⟩
  obtain ⟨y, hy, rfl⟩ := List.mem_map.1 hx
  exact low_lt (split_lt hn y hy)
/-- The zone of a name is the one of most labels within which it is. -/
theorem find_best {l : List Zn} (h : OkT l) {n : ByteArray} {z : Zn} (hz : z ∈ l) (hw : wi n z = true) (hm : ∀ y ∈ l, wi n y = true → labK y.name ≤ labK z.name) : findZ l n = z := by
  unfold findZ
  cases hn : splitN (bys n) with
  | none => rw [wi_none hn] at hw; cases hw
  | some ks =>
    obtain ⟨h1, h2⟩ := low_side hn
    exact upZ_best h _ h1 h2 z hz ((wi_iff hn (h.ok z hz)).1 hw) fun y hy e => hm y hy ((wi_iff hn (h.ok y hy)).2 e)
theorem find_no {l : List Zn} (h : OkT l) {n : ByteArray} (hw : ∀ z ∈ l, wi n z = false) : findZ l n = znRoot := by
  unfold findZ
  cases hn : splitN (bys n) with
  | none => rfl
  | some ks =>
    obtain ⟨h1, h2⟩ := low_side hn
    exact upZ_none h _ h1 h2 fun y hy e => by rw [← wi_iff hn (h.ok y hy), hw y hy] at e; cases e
/-- There is one of most labels. -/
theorem most {α : Type} (p : α → Bool) (f : α → Nat) (l : List α) : (∀ x ∈ l, p x = false) ∨ ∃ x ∈ l, p x = true ∧ ∀ y ∈ l, p y = true → f y ≤ f x := by
  induction l with
  | nil => exact .inl (by simp)
  | cons a l ih =>
    cases ha : p a with
    | false =>
      rcases ih with h | ⟨x, hx, h1, h2⟩
      · exact .inl fun x hx => by rcases List.mem_cons.1 hx with rfl | hx; exact ha; exact h x hx
      · exact .inr ⟨x, List.mem_cons_of_mem _ hx, h1, fun y hy e => by rcases List.mem_cons.1 hy with rfl | hy; (rw [ha] at e; cases e); exact h2 y hy e⟩
    | true =>
      rcases ih with h | ⟨x, hx, h1, h2⟩
      · exact .inr ⟨a, by simp, ha, fun y hy e => by rcases List.mem_cons.1 hy with rfl | hy; exact Nat.le_refl _; (rw [h y hy] at e; cases e)⟩
      · rcases Nat.le_total (f a) (f x) with h3 | h3
        · exact .inr ⟨x, List.mem_cons_of_mem _ hx, h1, fun y hy e => by rcases List.mem_cons.1 hy with rfl | hy; exact h3; exact h2 y hy e⟩
        · exact .inr ⟨a, by simp, ha, fun y hy e => by rcases List.mem_cons.1 hy with rfl | hy; exact Nat.le_refl _; exact Nat.le_trans (h2 y hy e) h3⟩
theorem find_cases {l : List Zn} (h : OkT l) (n : ByteArray) : ((∀ z ∈ l, wi n z = false) ∧ findZ l n = znRoot) ∨ (findZ l n ∈ l ∧ wi n (findZ l n) = true ∧ ∀ y ∈ l, wi n y = true → labK y.name ≤ labK (findZ l n).name) := by
  rcases most (wi n) (fun z => labK z.name) l with h1 | ⟨z, hz, h1, h2⟩
  · exact .inl ⟨h1, find_no h h1⟩
  · have := find_best h hz h1 h2
    rw [← this] at hz h1 h2
    exact .inr ⟨hz, h1, h2⟩
/-- The document's way: through the whole row. -/
def foldX (l : List Zn) (n : ByteArray) : Zn × Int := l.foldl (fun s z => if (wi n z && decide (s.2 < (labK z.name : Int))) = true then (z, (labK z.name : Int)) else s) (znRoot, -1)
theorem foldX_is {l : List Zn} (h : OkT l) (n : ByteArray) : (foldX l n).1 = findZ l n := by
  have key : ∀ (r m : List Zn) (s : Zn × Int), ((∀ z ∈ m, wi n z = false) ∧ s = (znRoot, -1) ∨ (s.1 ∈ m ∧ wi n s.1 = true ∧ s.2 = labK s.1.name ∧ ∀ y ∈ m, wi n y = true → labK y.name ≤ labK s.1.name)) → m ++ r = l →
      let q := r.foldl (fun s z => if (wi n z && decide (s.2 < (labK z.name : Int))) = true then (z, (labK z.name : Int)) else s) s
      (∀ z ∈ l, wi n z = false) ∧ q = (znRoot, -1) ∨ (q.1 ∈ l ∧ wi n q.1 = true ∧ q.2 = labK q.1.name ∧ ∀ y ∈ l, wi n y = true → labK y.name ≤ labK q.1.name) := by
    intro r
    induction r with
    | nil => intro m s hs e; rw [List.append_nil] at e; subst e; exact hs
    | cons z r ih =>
      intro m s hs e
      refine ih (m ++ [z]) (if (wi n z && decide (s.2 < (labK z.name : Int))) = true then (z, (labK z.name : Int)) else s) ?_ (by rw [← e]; simp)
      cases hw : wi n z with
      | false =>
        simp only [Bool.false_and, Bool.false_eq_true, if_false]
        rcases hs with ⟨h1, h2⟩ | ⟨h1, h2, h3, h4⟩
        · refine .inl ⟨fun y hy => ?_, h2⟩
          rcases List.mem_append.1 hy with hy | hy
          · exact h1 y hy
          · rw [List.mem_singleton.1 hy]; exact hw
        · refine .inr ⟨List.mem_append_left _ h1, h2, h3, fun y hy e => ?_⟩
          rcases List.mem_append.1 hy with hy | hy
          · exact h4 y hy e
          · rw [List.mem_singleton.1 hy, hw] at e; cases e
      | true =>
        simp only [Bool.true_and, decide_eq_true_eq]
        by_cases hlt : s.2 < (labK z.name : Int)
        · rw [if_pos hlt]
          refine .inr ⟨by simp, hw, rfl, fun y hy e => ?_⟩
          rcases List.mem_append.1 hy with hy | hy
          · rcases hs with ⟨h1, _⟩ | ⟨_, _, h3, h4⟩
            · rw [h1 y hy] at e; cases e
            · have := h4 y hy e
              show labK y.name ≤ labK z.name
              omega
          · rw [List.mem_singleton.1 hy]; exact Nat.le_refl _
        · rw [if_neg hlt]
          rcases hs with ⟨_, h2⟩ | ⟨h1, h2, h3, h4⟩
          · rw [h2] at hlt; simp only at hlt; omega
          · refine .inr ⟨List.mem_append_left _ h1, h2, h3, fun y hy e => ?_⟩
            rcases List.mem_append.1 hy with hy | hy
            · exact h4 y hy e
            · rw [List.mem_singleton.1 hy]; omega
  have := key l [] (znRoot, -1) (.inl ⟨by simp, rfl⟩) rfl
  rcases this with ⟨h1, h2⟩ | ⟨h1, h2, _, h4⟩
  · rw [find_no h h1]
    exact congrArg Prod.fst h2
  · exact (find_best h h1 h2 h4).symm
theorem foldX_snoc (l : List Zn) (n : ByteArray) (j : Nat) (hj : j < l.length) : foldX (l.take (j + 1)) n = if (wi n l[j] && decide ((foldX (l.take j) n).2 < (labK l[j].name : Int))) = true then (l[j], (labK l[j].name : Int)) else foldX (l.take j) n := by
  unfold foldX
  rw [List.take_add_one, List.getElem?_eq_getElem hj, List.foldl_append]
  rfl
/-- Zones that are turned about come to the same. -/
theorem OkT.perm {l m : List Zn} (h : OkT l) (hp : l.Perm m) : OkT m := ⟨fun z hz => h.ok z (hp.mem_iff.2 hz), (hp.map _).nodup_iff.1 h.one⟩
theorem find_perm {l m : List Zn} (h : OkT l) (hp : l.Perm m) (n : ByteArray) : findZ m n = findZ l n := by
  rcases find_cases h n with ⟨h1, h2⟩ | ⟨h1, h2, h3⟩
  · rw [h2]
    exact find_no (h.perm hp) fun z hz => h1 z (hp.mem_iff.2 hz)
  · exact find_best (h.perm hp) (hp.mem_iff.1 h1) h2 fun y hy e => h3 y (hp.mem_iff.2 hy) e
theorem newE_perm {l m : List Zn} (hp : l.Perm m) : (newE l = 0) ↔ newE m = 0 := by
  rw [newE_zero, newE_zero, hp.length_eq]
  exact ⟨fun ⟨a, b⟩ => ⟨a, b.perm hp⟩, fun ⟨a, b⟩ => ⟨a, b.perm hp.symm⟩⟩
/-- One zone more. -/
theorem OkT.front {l : List Zn} {z : Zn} (h : OkT (l ++ [z])) : OkT l := ⟨fun y hy => h.ok y (List.mem_append_left _ hy), by
  have := h.one
  rw [List.map_append, List.nodup_append] at this
  exact this.1⟩
theorem find_more_new {l : List Zn} {z : Zn} (h : OkT (l ++ [z])) {n : ByteArray} (hw : wi n z = true) (hs : (∀ y ∈ l, wi n y = false) ∨ labK (findZ l n).name < labK z.name) : findZ (l ++ [z]) n = z := by
  refine find_best h (by simp) hw fun y hy e => ?_
  rcases List.mem_append.1 hy with hy | hy
  · rcases hs with h1 | h1
    · rw [h1 y hy] at e; cases e
    · rcases find_cases h.front n with ⟨h2, _⟩ | ⟨_, _, h2⟩
      · rw [h2 y hy] at e; cases e
      · have := h2 y hy e; omega
  · rw [List.mem_singleton.1 hy]; exact Nat.le_refl _
theorem find_more_was {l : List Zn} {z : Zn} (h : OkT (l ++ [z])) {n : ByteArray} (hw : wi n z = false ∨ ((∃ y ∈ l, wi n y = true) ∧ ¬ labK (findZ l n).name < labK z.name)) : findZ (l ++ [z]) n = findZ l n := by
  rcases find_cases h.front n with ⟨h1, h2⟩ | ⟨h1, h2, h3⟩
  · rw [h2]
    refine find_no h fun y hy => ?_
    rcases List.mem_append.1 hy with hy | hy
    · exact h1 y hy
    · rw [List.mem_singleton.1 hy]
      rcases hw with hw | ⟨⟨y, hy, e⟩, _⟩
      · exact hw
      · rw [h1 y hy] at e; cases e
  · refine find_best h (List.mem_append_left _ h1) h2 fun y hy e => ?_
    rcases List.mem_append.1 hy with hy | hy
    · exact h3 y hy e
    · rw [List.mem_singleton.1 hy] at e ⊢
      rcases hw with hw | ⟨_, hw⟩
      · rw [hw] at e; cases e
      · omega
theorem find_mayb {l : List Zn} (h : OkT l) (n : ByteArray) : ∃ ls, splitN (bys (findZ l n).name) = some ls ∧ ls.map lowL = ls := by
  rcases find_cases h n with ⟨_, h2⟩ | ⟨h1, _⟩
  · rw [h2]; exact ⟨[], rfl, rfl⟩
  · exact okZ_may (h.ok _ h1)
/-- What is within a name is of a zone within that name's zone. -/
theorem find_tail {l : List Zn} (h : OkT l) {n m : ByteArray} {ks : List (List Nat)} {a : List Nat} (hn : splitN (bys n) = some ks) (hm : splitN (bys m) = some (a :: ks)) : withinN (bys (findZ l m).name) (bys (findZ l n).name) = true := by
  obtain ⟨xs, hx, hx2⟩ := find_mayb h m
  obtain ⟨ys, hy, hy2⟩ := find_mayb h n
  rw [withinN_eq hx hy, hx2, hy2, decide_eq_true_eq]
  rcases find_cases h n with ⟨_, h2⟩ | ⟨h1, h2, _⟩
  · rw [h2] at hy
    have : ys = [] := by injection hy with hy; exact hy.symm
    rw [this]
    exact List.nil_suffix
  · have hz := h.ok _ h1
    have e1 : zlab (findZ l n) = ys := by unfold zlab; rw [hy]; rfl
    rw [wi_iff hn hz, e1] at h2
    have h3 : ys <:+ (a :: ks).map lowL := List.IsSuffix.trans h2 (by simp)
    have hw : wi m (findZ l n) = true := by rw [wi_iff hm hz, e1]; exact h3
    rcases find_cases h m with ⟨h4, _⟩ | ⟨h4, h5, h6⟩
    · rw [h4 _ h1] at hw; cases hw
    · have e2 : zlab (findZ l m) = xs := by unfold zlab; rw [hx]; rfl
      rw [wi_iff hm (h.ok _ h4), e2] at h5
      have h7 := h6 _ h1 hw
      rw [← zlab_len, ← zlab_len, e1, e2] at h7
      exact List.suffix_of_suffix_length_le h3 h5 h7
/-- Names that are folded alike are of one zone. -/
theorem find_fold (l : List Zn) {n m : ByteArray} {ks js : List (List Nat)} (hn : splitN (bys n) = some ks) (hm : splitN (bys m) = some js) (e : ks.map lowL = js.map lowL) : findZ l n = findZ l m := by
  unfold findZ
  rw [hn, hm]
  show upZ l (ks.map lowL) = upZ l (js.map lowL)
  rw [e]
end Go.Proofs.Ytgibhcmdmdbpgaa
