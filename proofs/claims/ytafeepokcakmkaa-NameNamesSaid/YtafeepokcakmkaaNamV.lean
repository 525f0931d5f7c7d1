/- The document's reading of texts comes to the reader's. No program in sight. -/
import Derived.Test.YtafeepokcakmkaaNamT
namespace Go.Proofs.Ytafeepokcakmkaa
open Go.RowKit

def digs (d : Nat) : List Nat → Nat × Nat
  | e :: f :: _ => if isDig d && isDig e && isDig f && decide (100 * (d - 48) + 10 * (e - 48) + (f - 48) ≤ 255) then (100 * (d - 48) + 10 * (e - 48) + (f - 48), 4) else (0, 0)
  | _ => (0, 0)
def escN : List Nat → Nat × Nat
  | [] => (0, 0)
  | d :: t => if isDig d = false ∧ 33 ≤ d ∧ d ≤ 126 then (d, 2) else digs d t
def letN : List Nat → Nat × Nat
  | [] => (0, 0)
  | c :: t => if c < 33 ∨ 126 < c then (0, 0) else if c = 92 then escN t else (c, 1)
def refEnd (l : List (List Nat)) : List Nat × Int := if l = [] then ([], 3) else if joinErr l = 0 then (joinN l, 0) else ([], 5)
def refR : Nat → List Nat → List Nat → List (List Nat) → List Nat × Int
  | 0, _, _, _ => ([], 3)
  | _ + 1, [], label, l => refEnd (if label = [] then l else l ++ [label])
  | f + 1, c :: t, label, l => if c = 46 then (if label = [] then ([], 3) else refR f t [] (l ++ [label])) else if (letN (c :: t)).2 = 0 then ([], 3) else refR f ((c :: t).drop (letN (c :: t)).2) (label ++ [(letN (c :: t)).1]) l
def refN (s : List Nat) : List Nat × Int := if s = [46] then ([0], 0) else refR (s.length + 1) s [] []

def Fails (r : RS) (s : List Nat) : Prop := (r.reads s).done.ends = ([], 3)
theorem fails_bad (r : RS) (s : List Nat) (h : r.bad = true) : Fails r s := RS.ends_bad _ (RS.done_bad _ (RS.reads_bad s r h))
theorem fails_step {r : RS} {c : Nat} {s : List Nat} (h : Fails (r.read c) s) : Fails r (c :: s) := h
theorem fails_odd (r : RS) {c : Nat} (s : List Nat) (h : c < 33 ∨ 126 < c) : Fails r (c :: s) := fails_step (fails_bad _ _ (by unfold RS.read; rw [if_pos h]))
theorem fails_esc (r : RS) (h : r.escape = true) (h2 : r.dotted = false) : Fails r [] := by
  show (RS.done r).ends = _
  unfold RS.done
  rw [h2]
  simp [RS.ends, RS.fin, h]
/-- Behind a backslash nothing stands that may. -/
theorem fails_slash (r : RS) (h0 : r.escape = true) (h1 : r.digits = 0) (h2 : r.value = 0) (h4 : r.dotted = false) (t : List Nat) (h : (escN t).2 = 0) : Fails r t := by
  cases t with
  | nil => exact fails_esc r h0 h4
  | cons d t =>
    by_cases hd : d < 33 ∨ 126 < d
    · exact fails_odd r t hd
    · simp only [escN] at h
      by_cases g : isDig d = false
      · rw [if_pos ⟨g, by omega, by omega⟩] at h; simp at h
      · have gd : isDig d = true := by simpa using g
        rw [if_neg (by simp [gd])] at h
        refine fails_step ?_
        have e1 : r.read d = { r with dotted := false, value := d - 48, digits := 1 } := by
          unfold RS.read RS.esc
          rw [if_neg hd, if_pos h0, if_pos gd]
          simp [h1, h2]
        rw [e1]
        cases t with
        | nil => exact fails_esc _ h0 rfl
        | cons e t =>
          by_cases he : e < 33 ∨ 126 < e
          · exact fails_odd _ t he
          · by_cases ge : isDig e = true
            · refine fails_step ?_
              have e2 : ({ r with dotted := false, value := d - 48, digits := 1 } : RS).read e = { r with dotted := false, value := 10 * (d - 48) + (e - 48), digits := 2 } := by
                unfold RS.read RS.esc
                rw [if_neg he, if_pos h0, if_pos ge]
                simp
              rw [e2]
              cases t with
              | nil => exact fails_esc _ h0 rfl
              | cons f t =>
                by_cases hf : f < 33 ∨ 126 < f
                · exact fails_odd _ t hf
                · by_cases gf : isDig f = true
                  · refine fails_step (fails_bad _ _ ?_)
                    simp only [digs, gd, ge, gf, Bool.true_and] at h
                    have hn : 255 < 100 * (d - 48) + 10 * (e - 48) + (f - 48) := by
                      rcases Nat.lt_or_ge 255 (100 * (d - 48) + 10 * (e - 48) + (f - 48)) with h' | h'
                      · exact h'
                      · rw [if_pos (by simpa using h')] at h; simp at h
                    unfold RS.read RS.esc
                    rw [if_neg hf, if_pos h0, if_pos gf]
                    rw [if_neg (by simp)]
                    simp only [RS.put, Bool.or_eq_true, decide_eq_true_eq]
                    right
                    omega
                  · refine fails_step (fails_bad _ _ ?_)
                    unfold RS.read RS.esc
                    rw [if_neg hf, if_pos h0, if_neg gf]
                    simp
            · refine fails_step (fails_bad _ _ ?_)
              unfold RS.read RS.esc
              rw [if_neg he, if_pos h0, if_neg ge]
              simp
theorem reads_cons (r : RS) (c : Nat) (s : List Nat) : r.reads (c :: s) = (r.read c).reads s := rfl
theorem ref_eq : ∀ (f : Nat) (s : List Nat) (r : RS), s.length < f → r.escape = false → r.digits = 0 → r.value = 0 → r.bad = false → (r.dotted = true → r.label = [] ∧ r.labels ≠ []) → (r.dotted = false → r.label ≠ [] ∨ r.labels = []) →
    (r.reads s).done.ends = refR f s r.label r.labels
  | 0, _, _, h, _, _, _, _, _, _ => by omega
  | f + 1, [], r, _, h1, h2, h3, h4, h5, h6 => by
    obtain ⟨ls, l, e, d, v, b, t⟩ := r
    simp only at h1 h2 h3 h4 h5 h6
    subst h1 h2 h3 h4
    rw [show ∀ r : RS, r.reads [] = r from fun _ => rfl]
    cases t with
    | true =>
      obtain ⟨h7, h8⟩ := h5 rfl
      subst h7
      simp [RS.done, RS.ends, refR, refEnd, h8]
    | false =>
      by_cases hl : l = []
      · subst hl
        have := (h6 rfl).resolve_left (by simp)
        subst this
        rfl
      · have hn : ¬ l.length = 0 := fun e => hl (List.eq_nil_of_length_eq_zero e)
        simp [RS.done, RS.fin, RS.ends, refR, refEnd, hl]
  | f + 1, c :: t, r, hlen, h1, h2, h3, h4, h5, h6 => by
    have hlt : t.length < f := by simpa using hlen
    simp only [refR]
    by_cases hc : c = 46
    · subst hc
      rw [if_pos rfl, reads_cons]
      have e : r.read 46 = ({ r with dotted := true } : RS).fin := by
        unfold RS.read
        rw [if_neg (by omega), h1]
        simp
      rw [e]
      by_cases hl : r.label = []
      · rw [if_pos hl]
        exact fails_bad _ _ (by simp [RS.fin, hl])
      · rw [if_neg hl]
        have := ref_eq f t ({ r with dotted := true } : RS).fin hlt h1 h2 h3 (by simp [RS.fin, h4, hl]) (fun _ => ⟨rfl, by simp [RS.fin]⟩) (fun h => by simp [RS.fin] at h)
        rw [this]
        rfl
    · rw [if_neg hc]
      by_cases hodd : c < 33 ∨ 126 < c
      · have e : letN (c :: t) = (0, 0) := by simp only [letN]; rw [if_pos hodd]
        rw [e, if_pos rfl]
        exact fails_odd r t hodd
      · by_cases hs : c = 92
        · subst hs
          have el : letN (92 :: t) = escN t := by simp only [letN]; rw [if_neg hodd]; simp
          have er : r.read 92 = { r with dotted := false, escape := true } := by
            unfold RS.read
            rw [if_neg hodd, h1]
            simp
          rw [el]
          clear el
          by_cases h0 : (escN t).2 = 0
          · rw [if_pos h0, reads_cons, er]
            exact fails_slash { r with dotted := false, escape := true } rfl h2 h3 rfl t h0
          · rw [if_neg h0, reads_cons, er]
            cases t with
            | nil => simp [escN] at h0
            | cons d t =>
              simp only [escN] at h0 ⊢
              by_cases hq : isDig d = false ∧ 33 ≤ d ∧ d ≤ 126
              · rw [if_pos hq, reads_cons]
                have e2 : ({ r with dotted := false, escape := true } : RS).read d = { r with dotted := false, label := r.label ++ [d] } := by
                  unfold RS.read RS.esc RS.put
                  rw [if_neg (by omega), if_pos rfl, hq.1]
                  obtain ⟨ls, l, e, dd, v, b, t'⟩ := r
                  simp only at h1 h2 h3
                  subst h1 h2 h3
                  simp
                rw [e2]
                simp only [List.drop_succ_cons, List.drop_zero]
                exact ref_eq f t _ (by simp at hlt; omega) h1 h2 h3 h4 (fun h => by simp at h) (fun _ => .inl (by simp))
              · rw [if_neg hq] at h0 ⊢
                cases t with
                | nil => simp [digs] at h0
                | cons e t =>
                  cases t with
                  | nil => simp [digs] at h0
                  | cons g t =>
                    simp only [digs] at h0 ⊢
                    by_cases hg : (isDig d && isDig e && isDig g && decide (100 * (d - 48) + 10 * (e - 48) + (g - 48) ≤ 255)) = true
                    · rw [if_pos hg]
                      simp only [Bool.and_eq_true, decide_eq_true_eq] at hg
                      obtain ⟨⟨⟨g1, g2⟩, g3⟩, g4⟩ := hg
                      have p1 : ¬ (d < 33 ∨ 126 < d) := by unfold isDig at g1; simp at g1; omega
                      have p2 : ¬ (e < 33 ∨ 126 < e) := by unfold isDig at g2; simp at g2; omega
                      have p3 : ¬ (g < 33 ∨ 126 < g) := by unfold isDig at g3; simp at g3; omega
                      have e2 : (({ r with dotted := false, escape := true } : RS).reads [d, e, g]) = { r with dotted := false, label := r.label ++ [100 * (d - 48) + 10 * (e - 48) + (g - 48)] } := by
                        obtain ⟨ls, l, ee, dd, v, b, t'⟩ := r
                        simp only at h1 h2 h3 h4
                        subst h1 h2 h3 h4
                        simp only [RS.reads, List.foldl_cons, List.foldl_nil, RS.read, RS.esc, RS.put, g1, g2, g3, if_neg p1, if_neg p2, if_neg p3, if_true]
                        rw [if_pos (show 0 + 1 < 3 by omega)]
                        simp only [if_true]
                        rw [if_pos (show 0 + 1 + 1 < 3 by omega)]
                        simp only [if_true]
                        rw [if_neg (show ¬ 0 + 1 + 1 + 1 < 3 by omega)]
                        have e : 10 * (10 * (10 * 0 + (d - 48)) + (e - 48)) + (g - 48) = 100 * (d - 48) + 10 * (e - 48) + (g - 48) := by omega
                        rw [e, Nat.mod_eq_of_lt (by omega)]
                        simp
                        omega
                      have e3 : ({ r with dotted := false, escape := true } : RS).reads (d :: e :: g :: t) = (({ r with dotted := false, escape := true } : RS).reads [d, e, g]).reads t := by
                        rw [← reads_append]; rfl
                      rw [e3, e2]
                      simp only [List.drop_succ_cons, List.drop_zero]
                      exact ref_eq f t _ (by simp at hlt; omega) h1 h2 h3 h4 (fun h => by simp at h) (fun _ => .inl (by simp))
                    · rw [if_neg hg] at h0; simp at h0
        · have e : letN (c :: t) = (c, 1) := by simp only [letN]; rw [if_neg hodd, if_neg hs]
          rw [e]
          rw [if_neg (by simp), reads_cons]
          have er : r.read c = { r with dotted := false, label := r.label ++ [c] } := by
            unfold RS.read
            rw [if_neg hodd, h1, if_neg hs, if_neg hc]
            simp
          rw [er]
          simp only [List.drop_succ_cons, List.drop_zero]
          exact ref_eq f t _ hlt h1 h2 h3 h4 (fun h => by simp at h) (fun _ => .inl (by simp))
theorem parse_ref (s : List Nat) : parseN s = refN s := by
  unfold parseN refN
  split
  · rfl
  · exact ref_eq _ s RS.start (by omega) rfl rfl rfl rfl (fun h => by cases h) (fun _ => .inr rfl)
end Go.Proofs.Ytafeepokcakmkaa
