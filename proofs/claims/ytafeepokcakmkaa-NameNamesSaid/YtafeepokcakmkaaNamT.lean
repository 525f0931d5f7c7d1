/- Texts of names, said and read; joined labels. No program in sight. -/
import Derived.Test.YtafeepokcakmkaaNamQ
namespace Go.Proofs.Ytafeepokcakmkaa
open Go.RowKit

/-- The labels that may be joined: 0, or the error's number. -/
def joinErr (ls : List (List Nat)) : Int := if (∃ l ∈ ls, l = [] ∨ 63 < l.length) then 1 else if 255 < (joinN ls).length then 5 else 0
theorem joinErr_ok {ls : List (List Nat)} : joinErr ls = 0 ↔ (∀ l ∈ ls, LabOk l) ∧ (joinN ls).length ≤ 255 := by
  unfold joinErr LabOk
  constructor
  · intro h
    by_cases h1 : ∃ l ∈ ls, l = [] ∨ 63 < l.length
    · rw [if_pos h1] at h; omega
    · rw [if_neg h1] at h
      by_cases h2 : 255 < (joinN ls).length
      · rw [if_pos h2] at h; omega
      · refine ⟨fun l hl => ?_, by omega⟩
        have h3 : ¬ (l = [] ∨ 63 < l.length) := fun e => h1 ⟨l, hl, e⟩
        have : l ≠ [] := fun e => h3 (.inl e)
        have := List.length_pos_iff.2 this
        omega
  · rintro ⟨h1, h2⟩
    rw [if_neg, if_neg (by omega)]
    rintro ⟨l, hl, h⟩
    have := h1 l hl
    rcases h with rfl | h
    · simp at this
    · omega
def saidN (c : Nat) : List Nat := if c = 46 ∨ c = 92 then [92, c] else if c < 33 ∨ 126 < c then [92, 48 + c / 100, 48 + c / 10 % 10, 48 + c % 10] else [c]
def sayL (l : List Nat) : List Nat := l.flatMap saidN ++ [46]
def textN (n : List Nat) : List Nat := match splitN n with | none => [] | some [] => [46] | some (l :: ls) => (l :: ls).flatMap sayL

structure RS where
  labels : List (List Nat)
  label : List Nat
  escape : Bool
  digits : Nat
  value : Nat
  bad : Bool
  dotted : Bool
def RS.put (r : RS) (c : Nat) : RS := { r with label := r.label ++ [c], escape := false, digits := 0, value := 0 }
def RS.fin (r : RS) : RS := { r with bad := r.bad || decide (r.label.length = 0), labels := r.labels ++ [r.label], label := [] }
def isDig (c : Nat) : Bool := decide (48 ≤ c) && decide (c ≤ 57)
def RS.esc (r : RS) (c : Nat) : RS :=
  if isDig c then
    if r.digits + 1 < 3 then { r with value := 10 * r.value + (c - 48), digits := r.digits + 1 }
    else ({ r with value := 10 * r.value + (c - 48), digits := r.digits + 1, bad := r.bad || decide (255 < 10 * r.value + (c - 48)) } : RS).put ((10 * r.value + (c - 48)) % 256)
  else if 0 < r.digits then { r with bad := true } else r.put c
def RS.read (r : RS) (c : Nat) : RS :=
  if c < 33 ∨ 126 < c then { r with dotted := false, bad := true }
  else if r.escape then ({ r with dotted := false } : RS).esc c
  else if c = 92 then { r with dotted := false, escape := true }
  else if c = 46 then ({ r with dotted := true } : RS).fin
  else { r with dotted := false, label := r.label ++ [c] }
def RS.start : RS := ⟨[], [], false, 0, 0, false, false⟩
def RS.reads (r : RS) (s : List Nat) : RS := s.foldl RS.read r
def RS.done (r : RS) : RS := if r.dotted then r else r.fin
/-- What a text's reading comes to: the name, and 0, or the error's number. -/
def RS.ends (r : RS) : List Nat × Int := if r.bad || r.escape then ([], 3) else if joinErr r.labels = 0 then (joinN r.labels, 0) else ([], 5)
def parseN (s : List Nat) : List Nat × Int := if s = [46] then ([0], 0) else (RS.start.reads s).done.ends

theorem RS.put_bad (r : RS) (c : Nat) : (r.put c).bad = r.bad := rfl
theorem RS.fin_bad (r : RS) (h : r.bad = true) : r.fin.bad = true := by simp [RS.fin, h]
theorem RS.read_bad (r : RS) (c : Nat) (h : r.bad = true) : (r.read c).bad = true := by
  unfold RS.read
  split
  · rfl
  · split
    · unfold RS.esc
      split
      · split
        · exact h
        · simp [RS.put, h]
      · split
        · rfl
        · exact h
    · split
      · exact h
      · split
        · exact RS.fin_bad _ h
        · exact h
theorem RS.reads_bad (s : List Nat) : ∀ (r : RS), r.bad = true → (r.reads s).bad = true := by
  induction s with
  | nil => intro r h; exact h
  | cons c s ih => intro r h; exact ih _ (RS.read_bad r c h)
theorem RS.done_bad (r : RS) (h : r.bad = true) : r.done.bad = true := by
  unfold RS.done; split
  · exact h
  · exact RS.fin_bad r h
theorem RS.ends_bad (r : RS) (h : r.bad = true) : r.ends = ([], 3) := by unfold RS.ends; rw [h]; rfl
theorem parse_bad {s : List Nat} (h : ∃ c ∈ s, 126 < c) : parseN s = ([], 3) := by
  have key : ∀ (s : List Nat), (∃ c ∈ s, 126 < c) → ∀ r : RS, (r.reads s).bad = true := by
    intro s
    induction s with
    | nil => rintro ⟨c, hc, _⟩; cases hc
    | cons a s ih =>
      rintro ⟨c, hc, h⟩ r
      rcases List.mem_cons.1 hc with rfl | hc
      · refine RS.reads_bad s _ ?_
        unfold RS.read
        rw [if_pos (.inr h)]
      · exact ih ⟨c, hc, h⟩ _
  unfold parseN
  rw [if_neg]
  · exact RS.ends_bad _ (RS.done_bad _ (key s h _))
  · rintro rfl
    obtain ⟨c, hc, h⟩ := h
    simp at hc
    omega
/-- Reading a byte as it is said. -/
theorem read_said (r : RS) (c : Nat) (hc : c < 256) (h1 : r.escape = false) (h2 : r.digits = 0) (h3 : r.value = 0) (h4 : r.bad = false) :
    r.reads (saidN c) = { r with dotted := false, label := r.label ++ [c] } := by
  obtain ⟨ls, l, e, d, v, b, t⟩ := r
  simp only at h1 h2 h3 h4
  subst h1 h2 h3 h4
  unfold saidN
  by_cases ha : c = 46 ∨ c = 92
  · rw [if_pos ha]
    have hd : isDig c = false := by unfold isDig; rcases ha with rfl | rfl <;> rfl
    have hx : ¬ (c < 33 ∨ 126 < c) := by omega
    simp only [RS.reads, List.foldl_cons, List.foldl_nil, RS.read, if_neg hx, if_neg (show ¬ (92 < 33 ∨ 126 < 92) by omega), RS.esc, hd, RS.put]
    simp
  · rw [if_neg ha]
    by_cases hb : c < 33 ∨ 126 < c
    · rw [if_pos hb]
      have d1 : isDig (48 + c / 100) = true := by unfold isDig; simp; omega
      have d2 : isDig (48 + c / 10 % 10) = true := by unfold isDig; simp; omega
      have d3 : isDig (48 + c % 10) = true := by unfold isDig; simp; omega
      simp only [RS.reads, List.foldl_cons, List.foldl_nil, RS.read, RS.esc, RS.put, d1, d2, d3]
      rw [if_neg (show ¬ (92 < 33 ∨ 126 < 92) by omega)]
      simp only [Bool.false_eq_true, if_false, if_true]
      rw [if_neg (show ¬ (48 + c / 100 < 33 ∨ 126 < 48 + c / 100) by omega)]
      rw [if_pos (show 0 + 1 < 3 by omega)]
      simp only [if_true]
      rw [if_neg (show ¬ (48 + c / 10 % 10 < 33 ∨ 126 < 48 + c / 10 % 10) by omega)]
      rw [if_pos (show 0 + 1 + 1 < 3 by omega)]
      simp only [if_true]
      rw [if_neg (show ¬ (48 + c % 10 < 33 ∨ 126 < 48 + c % 10) by omega)]
      rw [if_neg (show ¬ 0 + 1 + 1 + 1 < 3 by omega)]
      have e : 10 * (10 * (10 * 0 + (48 + c / 100 - 48)) + (48 + c / 10 % 10 - 48)) + (48 + c % 10 - 48) = c := by omega
      rw [e, Nat.mod_eq_of_lt hc]
      simp
      omega
    · rw [if_neg hb]
      simp only [RS.reads, List.foldl_cons, List.foldl_nil, RS.read]
      rw [if_neg hb, if_neg (by simp), if_neg (by omega), if_neg (by omega)]
theorem reads_append (r : RS) (a b : List Nat) : r.reads (a ++ b) = (r.reads a).reads b := List.foldl_append
theorem read_say : ∀ (l : List Nat) (r : RS), (∀ x ∈ l, x < 256) → r.escape = false → r.digits = 0 → r.value = 0 → r.bad = false → 
    r.reads (l.flatMap saidN) = { r with dotted := if l = [] then r.dotted else false, label := r.label ++ l }
  | [], r, _, _, _, _, _ => by simp [RS.reads]
  | c :: l, r, h, h1, h2, h3, h4 => by
    rw [List.flatMap_cons, reads_append, read_said r c (h c (by simp)) h1 h2 h3 h4]
    rw [read_say l ({ r with dotted := false, label := r.label ++ [c] } : RS) (fun x hx => h x (List.mem_cons_of_mem _ hx)) h1 h2 h3 h4]
    simp
theorem read_label (l : List Nat) (r : RS) (h : ∀ x ∈ l, x < 256) (hl : LabOk l) (h0 : r.label = []) (h1 : r.escape = false) (h2 : r.digits = 0) (h3 : r.value = 0) (h4 : r.bad = false) :
    r.reads (sayL l) = { r with dotted := true, labels := r.labels ++ [l] } := by
  unfold sayL
  rw [reads_append, read_say l r h h1 h2 h3 h4]
  obtain ⟨ls, b, e, d, v, b', t⟩ := r
  simp only at h0 h1 h2 h3 h4
  subst h0 h1 h2 h3 h4
  unfold LabOk at hl
  simp only [RS.reads, List.foldl_cons, List.foldl_nil, RS.read, RS.fin]
  rw [if_neg (by omega)]
  simp
  intro e
  rw [e] at hl
  simp at hl
theorem read_labels : ∀ (ls : List (List Nat)) (r : RS), (∀ l ∈ ls, ∀ x ∈ l, x < 256) → (∀ l ∈ ls, LabOk l) → r.label = [] → r.escape = false → r.digits = 0 → r.value = 0 → r.bad = false →
    r.reads (ls.flatMap sayL) = { r with dotted := if ls = [] then r.dotted else true, labels := r.labels ++ ls }
  | [], r, _, _, _, _, _, _, _ => by simp [RS.reads]
  | l :: ls, r, h, k, h0, h1, h2, h3, h4 => by
    rw [List.flatMap_cons, reads_append, read_label l r (h l (by simp)) (k l (by simp)) h0 h1 h2 h3 h4]
    rw [read_labels ls ({ r with dotted := true, labels := r.labels ++ [l] } : RS) (fun x hx => h x (List.mem_cons_of_mem _ hx)) (fun x hx => k x (List.mem_cons_of_mem _ hx)) h0 h1 h2 h3 h4]
    simp
/-- What is said, read, is the name. -/
theorem parse_text {n : List Nat} {ls : List (List Nat)} (h : splitN n = some ls) (k : ∀ l ∈ ls, ∀ x ∈ l, x < 256) : parseN (textN n) = (n, 0) := by
  obtain ⟨h1, h2, h3⟩ := (splitN_iff _ _).1 h
  unfold textN
  rw [h]
  cases ls with
  | nil => rw [h1]; rfl
  | cons l ls =>
    simp only
    have hr := read_labels (l :: ls) RS.start k h2 rfl rfl rfl rfl rfl
    unfold parseN
    rw [if_neg, hr]
    · have hj : joinErr (l :: ls) = 0 := joinErr_ok.2 ⟨h2, by rw [← h1]; exact h3⟩
      simp only [RS.done, RS.ends, RS.start]
      simp [hj, h1]
    · intro e
      have h4 := h2 l (by simp)
      unfold LabOk at h4
      have := congrArg List.length e
      simp only [List.flatMap_cons, sayL, List.length_append, List.length_cons, List.length_nil] at this
      cases l with
      | nil => simp at h4
      | cons c l =>
        have h5 : 1 ≤ (saidN c).length := by unfold saidN; split <;> (try split) <;> simp
        simp only [List.flatMap_cons, List.length_append] at this
        omega
theorem parse_ok {s : List Nat} (h : (parseN s).2 = 0) : ∃ ls, splitN (parseN s).1 = some ls ∧ (parseN s).1 = joinN ls := by
  unfold parseN at h ⊢
  split at h
  · rename_i hs
    rw [if_pos hs]
    exact ⟨[], rfl, rfl⟩
  · rename_i hs
    rw [if_neg hs]
    generalize (RS.start.reads s).done = r at *
    unfold RS.ends at h ⊢
    split at h
    · simp at h
    · rename_i hb
      rw [if_neg hb]
      split at h
      · rename_i hj
        rw [if_pos hj]
        obtain ⟨j1, j2⟩ := joinErr_ok.1 hj
        exact ⟨r.labels, split_join j1 j2, rfl⟩
      · simp at h
theorem parse_err {s : List Nat} (h : (parseN s).2 ≠ 0) : (parseN s).1 = [] := by
  unfold parseN at h ⊢
  split at h
  · simp at h
  · rename_i hs
    rw [if_neg hs]
    unfold RS.ends at h ⊢
    split at h
    · rename_i hb; rw [if_pos hb]
    · rename_i hb
      rw [if_neg hb]
      split at h
      · simp at h
      · rename_i hj; rw [if_neg hj]
theorem sayL_dot : ∀ (l : List Nat) (ls : List (List Nat)), ∃ t, (l :: ls).flatMap sayL = t ++ [46]
  | l, [] => ⟨l.flatMap saidN, by simp [sayL]⟩
  | l, m :: ls => by
    obtain ⟨t, ht⟩ := sayL_dot m ls
    exact ⟨sayL l ++ t, by rw [List.flatMap_cons, ht, List.append_assoc]⟩
theorem text_dot {n : List Nat} {ls : List (List Nat)} (h : splitN n = some ls) : ∃ t, textN n = t ++ [46] := by
  unfold textN
  rw [h]
  cases ls with
  | nil => exact ⟨[], rfl⟩
  | cons l ls => exact sayL_dot l ls
end Go.Proofs.Ytafeepokcakmkaa
