/- The plain law of the list of places: what the links come to, said of the row. No program in sight. No conditions. -/
import Derived.Test.YtjjgefcjjpckfaaLruE
namespace Go.Proofs.Ytjjgefcjjpckfaa

def Seg (L : LL) : Nat → List Nat → Nat → Prop
  | a, [], c => L.next a = c ∧ L.prev c = a
  | a, b :: r, c => L.next a = b ∧ L.prev b = a ∧ Seg L b r c

theorem Seg.prev_mem {L : LL} : ∀ {r : List Nat} {a c : Nat}, Seg L a r c → L.prev c ∈ a :: r
  | [], a, c, h => by rw [h.2]; simp
  | b :: r, a, c, h => List.mem_cons_of_mem _ (Seg.prev_mem h.2.2)
theorem Seg.next_mem {L : LL} : ∀ {r : List Nat} {a c : Nat}, Seg L a r c → L.next a ∈ r ++ [c]
  | [], a, c, h => by rw [h.1]; simp
  | b :: r, a, c, h => by rw [h.1]; simp
theorem Seg.congr {L M : LL} : ∀ {r : List Nat} {a c : Nat}, Seg L a r c → (∀ i ∈ a :: r, M.next i = L.next i) → (∀ i ∈ r ++ [c], M.prev i = L.prev i) → Seg M a r c
  | [], a, c, h, h1, h2 => ⟨(h1 a (by simp)).trans h.1, (h2 c (by simp)).trans h.2⟩
  | b :: r, a, c, h, h1, h2 => ⟨(h1 a (by simp)).trans h.1, (h2 b (by simp)).trans h.2.1, Seg.congr h.2.2 (fun i hi => h1 i (List.mem_cons_of_mem _ hi)) (fun i hi => h2 i (by simp at hi ⊢; exact .inr hi))⟩
theorem Seg.split {L : LL} : ∀ {r1 r2 : List Nat} {a s c : Nat}, Seg L a (r1 ++ s :: r2) c → Seg L a r1 s ∧ Seg L s r2 c
  | [], r2, a, s, c, h => ⟨⟨h.1, h.2.1⟩, h.2.2⟩
  | b :: r1, r2, a, s, c, h => ⟨⟨h.1, h.2.1, (Seg.split h.2.2).1⟩, (Seg.split h.2.2).2⟩

theorem Seg.bypass {L M : LL} {s : Nat} (h1 : M.next (L.prev s) = L.next s) (h2 : ∀ i, i ≠ L.prev s → i ≠ s → M.next i = L.next i) (h3 : M.prev (L.next s) = L.prev s) (h4 : ∀ i, i ≠ L.next s → i ≠ s → M.prev i = L.prev i) {r2 : List Nat} {c : Nat} (hs2 : Seg L s r2 c) (hn2 : s ∉ r2 ++ [c]) (hd2 : (r2 ++ [c]).Nodup) :
    ∀ {r1 : List Nat} {a : Nat}, Seg L a r1 s → (a :: r1).Nodup → s ∉ a :: r1 → (∀ i ∈ a :: r1, i ∉ r2) → (∀ i ∈ r1, i ≠ c) → Seg M a (r1 ++ r2) c
  | [], a, hs, hd, hn, hx, hc => by
    obtain ⟨e1, e2⟩ := hs
    rw [e2] at h1 h2 h3
    cases r2 with
    | nil =>
      obtain ⟨e3, e4⟩ := hs2
      rw [e3] at h1 h3
      exact ⟨h1, h3⟩
    | cons y r2 =>
      obtain ⟨e3, e4, hs3⟩ := hs2
      rw [e3] at h1 h3 h4
      refine ⟨h1, h3, hs3.congr (fun i hi => h2 i ?_ ?_) (fun i hi => h4 i ?_ ?_)⟩
      · rintro rfl; exact hx i (by simp) hi
      · rintro rfl; exact hn2 (List.mem_append_left _ hi)
      · rintro rfl
        rw [List.cons_append, List.nodup_cons] at hd2
        exact hd2.1 hi
      · rintro rfl; exact hn2 (by rw [List.cons_append]; exact List.mem_cons_of_mem _ hi)
  | x :: r1, a, hs, hd, hn, hx, hc => by
    obtain ⟨e1, e2, hs1⟩ := hs
    have hp := hs1.prev_mem
    have hq := hs2.next_mem
    rw [List.nodup_cons] at hd
    refine ⟨(h2 a ?_ ?_).trans e1, (h4 x ?_ ?_).trans e2, Seg.bypass h1 h2 h3 h4 hs2 hn2 hd2 hs1 hd.2 (fun h => hn (List.mem_cons_of_mem _ h)) (fun i hi => hx i (List.mem_cons_of_mem _ hi)) (fun i hi => hc i (List.mem_cons_of_mem _ hi))⟩
    · intro e; rw [← e] at hp; exact hd.1 hp
    · rintro rfl; exact hn (by simp)
    · intro e
      rw [← e, List.mem_append] at hq
      rcases hq with hq | hq
      · exact hx x (by simp) hq
      · exact hc x (by simp) (by simpa using hq)
    · rintro rfl; exact hn (by simp)

theorem Seg.snoc {M N : LL} {s c : Nat} (h1 : N.next (M.prev c) = s) (h2 : N.prev s = M.prev c) (h3 : N.next s = c) (h4 : N.prev c = s) (h5 : ∀ i, i ≠ M.prev c → i ≠ s → N.next i = M.next i) (h6 : ∀ i, i ≠ s → i ≠ c → N.prev i = M.prev i) :
    ∀ {r : List Nat} {a : Nat}, Seg M a r c → (a :: r).Nodup → s ∉ a :: r → c ∉ r → Seg N a (r ++ [s]) c
  | [], a, hs, hd, hn, hc => by
    obtain ⟨e1, e2⟩ := hs
    rw [e2] at h1 h2
    exact ⟨h1, h2, h3, h4⟩
  | x :: r, a, hs, hd, hn, hc => by
    obtain ⟨e1, e2, hs1⟩ := hs
    have hp := hs1.prev_mem
    rw [List.nodup_cons] at hd
    refine ⟨(h5 a ?_ ?_).trans e1, (h6 x ?_ ?_).trans e2, Seg.snoc h1 h2 h3 h4 h5 h6 hs1 hd.2 (fun h => hn (List.mem_cons_of_mem _ h)) (fun h => hc (List.mem_cons_of_mem _ h))⟩
    · intro e; rw [← e] at hp; exact hd.1 hp
    · rintro rfl; exact hn (by simp)
    · rintro rfl; exact hn (by simp)
    · rintro rfl; exact hc (by simp)

structure LInv (L : LL) (row : List Nat) : Prop where
  n0 : 0 ≤ L.n
  n1 : L.n ≤ 256
  nd : row.Nodup
  rng : ∀ s ∈ row, 1 ≤ s ∧ (s : Int) ≤ L.n
  len : L.len = row.length
  inn : ∀ s, s < 257 → (L.inn s = true ↔ s ∈ row)
  seg : Seg L 0 row 0
  next : ∀ i, i < 257 → L.next i < 257
  prev : ∀ i, i < 257 → L.prev i < 257

theorem nodup_len : ∀ {n : Nat} {l : List Nat}, l.Nodup → (∀ s ∈ l, 1 ≤ s ∧ s ≤ n) → l.length ≤ n
  | 0, l, _, hr => by
    cases l with
    | nil => exact Nat.le_refl _
    | cons a l => have := hr a (by simp); omega
  | n + 1, l, h, hr => by
    have h1 := nodup_len (n := n) (l := l.erase (n + 1)) (h.erase _) (fun s hs => by
      have hm := List.mem_of_mem_erase hs
      have := hr s hm
      have hne : s ≠ n + 1 := by
        rintro rfl
        exact (List.Nodup.not_mem_erase h) hs
      omega)
    have h2 := List.length_erase (a := n + 1) (l := l)
    split at h2 <;> omega

theorem LInv.count {L : LL} {row : List Nat} (h : LInv L row) : (row.length : Int) ≤ L.n := by
  have := nodup_len (n := L.n.toNat) h.nd (fun s hs => by have := h.rng s hs; omega)
  have := h.n0
  omega
theorem LInv.zero {L : LL} {row : List Nat} (h : LInv L row) : 0 ∉ row := fun h0 => by have := (h.rng 0 h0).1; omega
theorem LInv.ok {L : LL} {row : List Nat} (h : LInv L row) : L.Ok := by
  have := h.count
  have h0 := h.n1
  refine ⟨h.next, h.prev, by rw [h.len]; omega, by rw [h.len]; omega, fun i hi hin => ?_, h.n0, h.n1⟩
  have hm := (h.inn i hi).1 hin
  have := List.length_pos_of_mem hm
  rw [h.len]; omega

theorem LL.out_n (L : LL) (s : Nat) : (L.out s).n = L.n := by unfold LL.out; split <;> rfl
theorem LInv.out {L : LL} {row : List Nat} (h : LInv L row) (s : Nat) (hs : s < 257) : LInv (L.out s) (row.filter (· ≠ s)) := by
  by_cases hin : L.inn s = true
  · have hm := (h.inn s hs).1 hin
    obtain ⟨r1, r2, hrow⟩ := List.append_of_mem hm
    have hnd := h.nd
    have hz := h.zero
    have hseg := h.seg
    rw [hrow] at hnd hz hseg
    obtain ⟨g1, g2⟩ := hseg.split
    have hs0 : s ≠ 0 := by rintro rfl; exact hz (by simp)
    have d1 : r1.Nodup := (List.nodup_append.1 hnd).1
    have d2 : (s :: r2).Nodup := (List.nodup_append.1 hnd).2.1
    have d3 := (List.nodup_append.1 hnd).2.2
    have n1 : s ∉ r1 := fun hx => d3 s hx s (by simp) rfl
    have n2 : s ∉ r2 := (List.nodup_cons.1 d2).1
    have f1 : row.filter (· ≠ s) = r1 ++ r2 := by
      rw [hrow, List.filter_append, List.filter_cons]
      simp only [ne_eq, not_true_eq_false, decide_false, Bool.false_eq_true, if_false]
      rw [List.filter_eq_self.2 (fun x hx => by simp; rintro rfl; exact n1 hx), List.filter_eq_self.2 (fun x hx => by simp; rintro rfl; exact n2 hx)]
    have hp : L.prev s < 257 := h.prev s hs
    have hq : L.next s < 257 := h.next s hs
    have hpne : L.prev s ≠ s := fun e => by
      have := g1.prev_mem
      rw [e, List.mem_cons] at this
      rcases this with e | e
      · exact hs0 e
      · exact n1 e
    have hqne : L.next s ≠ s := fun e => by
      have := g2.next_mem
      rw [e, List.mem_append] at this
      rcases this with e | e
      · exact n2 e
      · exact hs0 (by simpa using e)
    have eout : L.out s = (((L.join (L.prev s) (L.next s)).setNext s 0).setPrev s 0 |>.setIn s false).setLen (L.len - 1) := by unfold LL.out; rw [if_pos hin]
    have en : (L.out s).next = upd (upd L.next (L.prev s) (L.next s)) s 0 := by rw [eout]; rfl
    have ep : (L.out s).prev = upd (upd L.prev (L.next s) (L.prev s)) s 0 := by rw [eout]; rfl
    refine ⟨by rw [LL.out_n]; exact h.n0, by rw [LL.out_n]; exact h.n1, h.nd.filter _, fun x hx => by rw [LL.out_n]; exact h.rng x ((List.mem_filter.1 hx).1), ?_, fun x hx => ?_, ?_, fun i hi => ?_, fun i hi => ?_⟩
    · rw [f1, eout]
      show L.len - 1 = _
      rw [h.len, hrow]
      simp only [List.length_append, List.length_cons]; omega
    · rw [eout]
      show upd L.inn s false x = true ↔ _
      rw [List.mem_filter]
      by_cases hxs : x = s
      · subst hxs; simp [upd]
      · rw [upd_other _ _ hxs, h.inn x hx]; simp [hxs]
    · rw [f1]
      refine Seg.bypass (L := L) ?_ ?_ ?_ ?_ g2 ?_ ?_ g1 ?_ ?_ ?_ ?_
      · rw [en, upd_other _ _ hpne, upd_same]
      · intro i h1 h2; rw [en, upd_other _ _ h2, upd_other _ _ h1]
      · rw [ep, upd_other _ _ hqne, upd_same]
      · intro i h1 h2; rw [ep, upd_other _ _ h2, upd_other _ _ h1]
      · rw [List.mem_append]; rintro (e | e)
        · exact n2 e
        · exact hs0 (by simpa using e)
      · rw [List.nodup_append]
        refine ⟨(List.nodup_cons.1 d2).2, by simp, fun a ha b hb => ?_⟩
        simp at hb; subst hb
        rintro rfl; exact hz (by simp [ha])
      · rw [List.nodup_cons]; exact ⟨fun e => hz (by simp [e]), d1⟩
      · rw [List.mem_cons]; rintro (e | e)
        · exact hs0 e
        · exact n1 e
      · intro i hi hi2
        rw [List.mem_cons] at hi
        rcases hi with rfl | hi
        · exact hz (by simp [hi2])
        · exact d3 i hi i (List.mem_cons_of_mem _ hi2) rfl
      · rintro i hi rfl; exact hz (by simp [hi])
    · rw [en]; unfold upd; split
      · omega
      · split
        · exact hq
        · exact h.next i hi
    · rw [ep]; unfold upd; split
      · omega
      · split
        · exact hp
        · exact h.prev i hi
  · have hm : s ∉ row := fun e => hin ((h.inn s hs).2 e)
    have eout : L.out s = L := by unfold LL.out; rw [if_neg hin]
    rw [eout, List.filter_eq_self.2 (fun x hx => by simp; rintro rfl; exact hm hx)]
    exact h

theorem LL.use_n (L : LL) (s : Nat) : (L.use s).n = L.n := LL.out_n L s
theorem LInv.use {L : LL} {row : List Nat} (h : LInv L row) (s : Nat) (h1 : 1 ≤ s) (h2 : (s : Int) ≤ L.n) : LInv (L.use s) (row.filter (· ≠ s) ++ [s]) := by
  have hn1 := h.n1
  have hs : s < 257 := by omega
  have ho := h.out s hs
  generalize hM : L.out s = M at ho
  generalize hr : row.filter (· ≠ s) = r at ho
  have hsr : s ∉ r := by rw [← hr]; simp
  have hz := ho.zero
  have hMn : M.n = L.n := by rw [← hM]; exact LL.out_n L s
  have hp0 : M.prev 0 < 257 := ho.prev 0 (by omega)
  have hp0s : M.prev 0 ≠ s := fun e => by
    have := ho.seg.prev_mem
    rw [e, List.mem_cons] at this
    rcases this with e | e
    · omega
    · exact hsr e
  have eu : L.use s = (((M.join (M.prev 0) s).join s 0).setIn s true).setLen (M.len + 1) := by unfold LL.use; rw [hM]
  have en : (L.use s).next = upd (upd M.next (M.prev 0) s) s 0 := by rw [eu]; rfl
  have ep : (L.use s).prev = upd (upd M.prev s (M.prev 0)) 0 s := by rw [eu]; rfl
  refine ⟨by rw [LL.use_n]; exact h.n0, by rw [LL.use_n]; exact h.n1, ?_, fun x hx => ?_, ?_, fun x hx => ?_, ?_, fun i hi => ?_, fun i hi => ?_⟩
  · rw [List.nodup_append]
    refine ⟨ho.nd, by simp, fun a ha b hb => ?_⟩
    simp at hb; subst hb
    rintro rfl; exact hsr ha
  · rw [LL.use_n]
    rw [List.mem_append] at hx
    rcases hx with hx | hx
    · rw [← hMn]; exact ho.rng x hx
    · simp at hx; subst hx; exact ⟨h1, h2⟩
  · rw [eu]
    show M.len + 1 = _
    rw [ho.len]; simp
  · rw [eu]
    show upd M.inn s true x = true ↔ _
    rw [List.mem_append]
    by_cases hxs : x = s
    · subst hxs; simp [upd]
    · rw [upd_other _ _ hxs, ho.inn x hx]; simp [hxs]
  · refine Seg.snoc (M := M) ?_ ?_ ?_ ?_ ?_ ?_ ho.seg ?_ ?_ hz
    · rw [en, upd_other _ _ hp0s, upd_same]
    · rw [ep, upd_other _ _ (by omega), upd_same]
    · rw [en, upd_same]
    · rw [ep, upd_same]
    · intro i h1 h2; rw [en, upd_other _ _ h2, upd_other _ _ h1]
    · intro i h1 h2; rw [ep, upd_other _ _ h2, upd_other _ _ h1]
    · rw [List.nodup_cons]; exact ⟨hz, ho.nd⟩
    · rw [List.mem_cons]; rintro (e | e)
      · omega
      · exact hsr e
  · rw [en]; unfold upd; split
    · omega
    · split
      · omega
      · exact ho.next i hi
  · rw [ep]; unfold upd; split
    · omega
    · split
      · exact hp0
      · exact ho.prev i hi

theorem Seg.path {L : LL} : ∀ {r : List Nat} {a : Nat}, Seg L a r 0 → (∀ s ∈ r, 0 < s ∧ s < 257) → L.path (L.next a) r
  | [], _, h, _ => h.1
  | b :: r, a, h, hr => ⟨h.1, (hr b (by simp)).1, (hr b (by simp)).2, Seg.path h.2.2 (fun s hs => hr s (List.mem_cons_of_mem _ hs))⟩
theorem LInv.path {L : LL} {row : List Nat} (h : LInv L row) : L.path (L.next 0) row :=
  h.seg.path fun s hs => by have := h.rng s hs; have := h.n1; omega

theorem Seg.head {L : LL} {r : List Nat} {a c : Nat} (h : Seg L a r c) : L.next a = r.headD c := by cases r with
  | nil => exact h.1
  | cons b r => exact h.1
theorem Seg.last {L : LL} : ∀ {r : List Nat} {a c : Nat}, Seg L a r c → L.prev c = r.getLastD a
  | [], a, c, h => h.2
  | b :: r, a, c, h => by rw [List.getLastD_cons]; exact Seg.last h.2.2

/-- Whether a place was there is told by the links alone. -/
theorem LInv.turned {L : LL} {row : List Nat} (h : LInv L row) (s : Nat) (h1 : 1 ≤ s) (hs : s < 257) :
    (!L.inn s) = true ↔ ∀ j, j < 257 → ((L.out s).next j : Int) = (L.next j : Int) := by
  by_cases hin : L.inn s = true
  · have hm := (h.inn s hs).1 hin
    obtain ⟨r1, r2, hrow⟩ := List.append_of_mem hm
    have hseg := h.seg
    have hnd := h.nd
    have hz := h.zero
    rw [hrow] at hseg hnd hz
    obtain ⟨g1, g2⟩ := hseg.split
    rw [hin]
    refine ⟨fun e => (Bool.false_ne_true e).elim, fun hall => ?_⟩
    exfalso
    have eout : L.out s = (((L.join (L.prev s) (L.next s)).setNext s 0).setPrev s 0 |>.setIn s false).setLen (L.len - 1) := by unfold LL.out; rw [if_pos hin]
    have en : (L.out s).next = upd (upd L.next (L.prev s) (L.next s)) s 0 := by rw [eout]; rfl
    have n1 : s ∉ r1 := fun hx => (List.nodup_append.1 hnd).2.2 s hx s (by simp) rfl
    have n2 : s ∉ r2 := (List.nodup_cons.1 (List.nodup_append.1 hnd).2.1).1
    have hpne : L.prev s ≠ s := fun e => by
      have := g1.prev_mem
      rw [e, List.mem_cons] at this
      rcases this with e | e
      · omega
      · exact n1 e
    have hqne : L.next s ≠ s := fun e => by
      have := g2.next_mem
      rw [e, List.mem_append] at this
      rcases this with e | e
      · exact n2 e
      · simp at e; omega
    have hnp : L.next (L.prev s) = s := by
      clear hall eout en hqne
      have key : ∀ (r : List Nat) (a : Nat), Seg L a r s → L.next (L.prev s) = s := by
        intro r
        induction r with
        | nil => intro a h; rw [h.2]; exact h.1
        | cons b r ih => intro a h; exact ih b h.2.2
      exact key r1 0 g1
    have := hall (L.prev s) (h.prev s hs)
    rw [en, upd_other _ _ hpne, upd_same, hnp] at this
    omega
  · have eout : L.out s = L := by unfold LL.out; rw [if_neg hin]
    rw [eout]
    simp [hin]
end Go.Proofs.Ytjjgefcjjpckfaa
