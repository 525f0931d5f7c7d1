/- Two sets of timers of a law's own, side by side; and what putting a thing anew at its own reading comes to. No conditions. -/
import Derived.Test.YtgmnhjbejofnhaaTmFst
namespace Go.Proofs.Ytgmnhjbejofnhaa
open Go.RowKit Go.Lib

structure T2v (w0 w : World) (B : Nat) (V : Nat → Prop) (gt : Nat) (vt : Value) (Lt : List Th) (nt gu : Nat) (vu : Value) (Lu : List Th) (nu : Nat) : Prop where
  t : Tv w0 w gt vt Lt nt
  u : Tv w0 w gu vu Lu nu
  ap : ∀ k, Fp gt vt k → ¬ Fp gu vu k
  lt : ∀ k, Fp gt vt k ∨ Fp gu vu k → k < B
  le : B ≤ w.heap.size
  av : ∀ k, Fp gt vt k ∨ Fp gu vu k → ¬ V k
  vl : ∀ k, V k → k < w.heap.size
def T2 (w0 w : World) (B : Nat) (V : Nat → Prop) (gt : Nat) (Lt : List Th) (nt gu : Nat) (Lu : List Th) (nu : Nat) : Prop := ∃ vt vu, T2v w0 w B V gt vt Lt nt gu vu Lu nu

theorem Tv.mod {w0 w w' : World} {g : Nat} {v : Value} {l : List Th} {n : Nat} {S : Nat → Prop} (h : Tv w0 w g v l n) (hm : Mod S w w') (hs : ∀ k, Fp g v k → ¬ S k) (hk : Kept w0 w') : Tv w0 w' g v l n :=
  ⟨h.tm.mod hm hs, hk, h.uni, h.len, h.n⟩
theorem Tv.lower {w00 w0 w : World} {g : Nat} {v : Value} {l : List Th} {n : Nat} (h : Tv w0 w g v l n) (hk : Kept w00 w0) : Tv w00 w g v l n :=
  ⟨⟨h.tm.blk, own_lower h.tm.row hk.size, h.tm.ne, Nat.le_trans hk.size h.tm.lo⟩, hk.then h.kept, h.uni, h.len, h.n⟩
section
variable {w0 w w' : World} {B gt nt gu nu : Nat} {V : Nat → Prop} {Lt Lu : List Th}
theorem T2.kept (h : T2 w0 w B V gt Lt nt gu Lu nu) : Kept w0 w := by
  obtain ⟨_, _, h⟩ := h
  exact h.t.kept
theorem T2.keep (h : T2 w0 w B V gt Lt nt gu Lu nu) (hm : Kept w w') : T2 w0 w' B V gt Lt nt gu Lu nu := by
  obtain ⟨vt, vu, h⟩ := h
  have hk := h.t.kept.then hm
  exact ⟨vt, vu, h.t.mod hm (fun _ _ e => e) hk, h.u.mod hm (fun _ _ e => e) hk, h.ap, h.lt, Nat.le_trans h.le hm.size, h.av, fun k hk => Nat.lt_of_lt_of_le (h.vl k hk) hm.size⟩
theorem T2.raise (h : T2 w0 w B V gt Lt nt gu Lu nu) : T2 w0 w w.heap.size V gt Lt nt gu Lu nu := by
  obtain ⟨vt, vu, h⟩ := h
  exact ⟨vt, vu, h.t, h.u, h.ap, fun k hk => Nat.lt_of_lt_of_le (h.lt k hk) h.le, Nat.le_refl _, h.av, h.vl⟩
theorem T2.aim {gx : Nat} (h : T2 w0 w B V gt Lt nt gu Lu nu) (h1 : B ≤ gx) (h2 : gx < w.heap.size) : T2 w0 w B (fun k => k = gx) gt Lt nt gu Lu nu := by
  obtain ⟨vt, vu, h⟩ := h
  exact ⟨vt, vu, h.t, h.u, h.ap, h.lt, h.le, fun k hk e => by have := h.lt k hk; omega, fun k hk => by rw [hk]; exact h2⟩
theorem T2.make {w1 w2 : World} {vt vu : Value} (hk : Kept w0 w1) (ht : Tv w1 w2 gt vt Lt nt) (hu : Tv w2 w gu vu Lu nu) : T2 w0 w w.heap.size (fun _ => False) gt Lt nt gu Lu nu := by
  have h1 := (ht.lower hk)
  have h2 := hu.lower (hk.then ht.kept)
  have h1' := h1.mod hu.kept (fun _ _ e => e) h2.kept
  refine ⟨vt, vu, h1', h2, fun k hk hk' => ?_, fun k hk => ?_, Nat.le_refl _, fun _ _ e => e, fun _ e => e.elim⟩
  · have a := (ht.tm.lt k hk).2
    have b := (hu.tm.lt k hk').1
    omega
  · rcases hk with hk | hk
    · exact (h1'.tm.lt k hk).2
    · exact (h2.tm.lt k hk).2
theorem t2_at (id : Int) (h : T2 w0 w B V gt Lt nt gu Lu nu) :
    Calls Try.prog 16 #[At gt, .int .i64 id] w fun e w' => e = .returned (.tuple #[.int .i64 (atR Lt id), .bool (atB Lt id)]) ∧ T2 w0 w' B V gt Lt nt gu Lu nu ∧ Kept w w' := by
  have h2 := h
  obtain ⟨vt, vu, h⟩ := h
  refine (at_q ⟨vt, h.t⟩ id).mono ?_
  rintro e w' ⟨rfl, hm⟩
  exact ⟨rfl, h2.keep hm, hm⟩
theorem t2_len_t (h : T2 w0 w B V gt Lt nt gu Lu nu) : Calls Try.prog 14 #[At gt] w fun e w' => e = .returned (.int .i64 Lt.length) ∧ w = w' := by
  obtain ⟨vt, vu, h⟩ := h
  exact len_c _ gt vt Lt nt w h.t.tm
theorem t2_len_u (h : T2 w0 w B V gt Lt nt gu Lu nu) : Calls Try.prog 14 #[At gu] w fun e w' => e = .returned (.int .i64 Lu.length) ∧ w = w' := by
  obtain ⟨vt, vu, h⟩ := h
  exact len_c _ gu vu Lu nu w h.u.tm
theorem t2_put (id rd : Int) (l' : List Th) (hl : putT Lt nt id rd = l') (hn : nt + 1 ≤ 90000) (h : T2 w0 w B V gt Lt nt gu Lu nu) :
    Calls Try.prog 17 #[At gt, .int .i64 id, .int .i64 rd] w fun e w' => e = .returned (.int .i64 0) ∧ T2 w0 w' w'.heap.size V gt l' (nt + 1) gu Lu nu ∧ Mod (fun k => k < B ∧ ¬ V k) w w' := by
  obtain ⟨vt, vu, h⟩ := h
  have := h.t.len
  refine (put_c _ gt vt Lt nt id rd w h.t.tm h.t.uni (by omega) (by omega)).mono ?_
  rintro e w' ⟨rfl, vt', ht, hm, hf⟩
  have hk := kept_fp h.t.kept h.t.tm hm
  have hu := h.u.mod hm (fun k hk hk' => h.ap k hk' hk) hk
  rw [hl] at ht
  refine ⟨rfl, ⟨vt', vu, ⟨ht, hk, by rw [← hl]; exact uni_putT h.t.uni _ _ _, ?_, hn⟩, hu, fun k hk hk' => ?_, fun k hk => ?_, Nat.le_refl _, fun k hk => ?_, fun k hk => Nat.lt_of_lt_of_le (h.vl k hk) hm.size⟩, hm.mono fun k _ hk => ⟨h.lt k (.inl hk), h.av k (.inl hk)⟩⟩
  · rw [← hl]
    have := putT_len Lt nt id rd
    omega
  · rcases hf k hk with h1 | h1
    · exact h.ap k h1 hk'
    · have := (h.u.tm.lt k hk').2
      omega
  · rcases hk with hk | hk
    · exact (ht.lt k hk).2
    · exact (hu.tm.lt k hk).2
  · rcases hk with hk | hk
    · rcases hf k hk with h1 | h1
      · exact h.av k (.inl h1)
      · intro hv
        have := h.vl k hv
        omega
    · exact h.av k (.inr hk)
theorem t2_drop (id : Int) (l' : List Th) (b : Bool) (hl : dropT Lt id = l') (hb : (findT Lt id).isSome = b) (h : T2 w0 w B V gt Lt nt gu Lu nu) :
    Calls Try.prog 18 #[At gt, .int .i64 id] w fun e w' => e = .returned (.bool b) ∧ T2 w0 w' B V gt l' nt gu Lu nu := by
  obtain ⟨vt, vu, h⟩ := h
  refine (drop_c _ gt vt Lt nt id w h.t.tm h.t.uni).mono ?_
  rintro e w' ⟨rfl, vt', ht, hm, hv⟩
  have hk := kept_fp h.t.kept h.t.tm hm
  have hu := h.u.mod hm (fun k hk hk' => h.ap k hk' hk) hk
  rw [hl] at ht
  refine ⟨by rw [hb], vt', vu, ⟨ht, hk, by rw [← hl]; exact uni_dropT h.t.uni _, ?_, h.t.n⟩, hu, by rw [Fp.same hv]; exact h.ap, by rw [Fp.same hv]; exact h.lt, Nat.le_trans h.le hm.size, by rw [Fp.same hv]; exact h.av, fun k hk => Nat.lt_of_lt_of_le (h.vl k hk) hm.size⟩
  rw [← hl]
  have := dropT_len Lt id
  have := h.t.len
  omega
theorem t2_due_t (now : Int) (l' : List Th) (ids : List Int) (hi : idsT (Lt.take (dueN Lt now)) = ids) (hl : Lt.drop (dueN Lt now) = l') (h : T2 w0 w B V gt Lt nt gu Lu nu) :
    Calls Try.prog 12 #[At gt, .int .i64 now] w fun e w' => ∃ vo, e = .returned vo ∧ w'.ownsRow w.heap.size 3 1 vo ids.length (ints ids) ∧ T2 w0 w' B V gt l' nt gu Lu nu ∧ Mod (fun k => k < B ∧ ¬ V k) w w' := by
  obtain ⟨vt, vu, h⟩ := h
  have h1 := h.t.len
  have h2 := h.t.n
  refine (due_c _ gt vt Lt nt now w h.t.tm (by omega)).mono ?_
  rintro e w' ⟨vo, rfl, ho, vt', ht, hm, hv⟩
  have hk := kept_fp h.t.kept h.t.tm hm
  have hu := h.u.mod hm (fun k hk hk' => h.ap k hk' hk) hk
  have hd := dueN_le Lt now
  rw [hl] at ht
  have hil : ids.length = dueN Lt now := by rw [← hi]; simp [idsT]; omega
  rw [hi, ← hil] at ho
  refine ⟨vo, rfl, ho, ⟨vt', vu, ⟨ht, hk, by rw [← hl]; exact uni_drop h.t.uni _, ?_, h.t.n⟩, hu, by rw [Fp.same hv]; exact h.ap, by rw [Fp.same hv]; exact h.lt, Nat.le_trans h.le hm.size, by rw [Fp.same hv]; exact h.av, fun k hk => Nat.lt_of_lt_of_le (h.vl k hk) hm.size⟩, hm.mono fun k _ hk => ⟨h.lt k (.inl hk), h.av k (.inl hk)⟩⟩
  rw [← hl, List.length_drop]
  omega
theorem t2_due_u (now : Int) (l' : List Th) (ids : List Int) (hi : idsT (Lu.take (dueN Lu now)) = ids) (hl : Lu.drop (dueN Lu now) = l') (h : T2 w0 w B V gt Lt nt gu Lu nu) :
    Calls Try.prog 12 #[At gu, .int .i64 now] w fun e w' => ∃ vo, e = .returned vo ∧ w'.ownsRow w.heap.size 3 1 vo ids.length (ints ids) ∧ T2 w0 w' B V gt Lt nt gu l' nu ∧ Mod (fun k => k < B ∧ ¬ V k) w w' := by
  obtain ⟨vt, vu, h⟩ := h
  have h1 := h.u.len
  have h2 := h.u.n
  refine (due_c _ gu vu Lu nu now w h.u.tm (by omega)).mono ?_
  rintro e w' ⟨vo, rfl, ho, vu', hu, hm, hv⟩
  have hk := kept_fp h.u.kept h.u.tm hm
  have ht := h.t.mod hm (fun k hk hk' => h.ap k hk hk') hk
  have hd := dueN_le Lu now
  rw [hl] at hu
  have hil : ids.length = dueN Lu now := by rw [← hi]; simp [idsT]; omega
  rw [hi, ← hil] at ho
  refine ⟨vo, rfl, ho, ⟨vt, vu', ht, ⟨hu, hk, by rw [← hl]; exact uni_drop h.u.uni _, ?_, h.u.n⟩, by rw [Fp.same hv]; exact h.ap, by rw [Fp.same hv]; exact h.lt, Nat.le_trans h.le hm.size, by rw [Fp.same hv]; exact h.av, fun k hk => Nat.lt_of_lt_of_le (h.vl k hk) hm.size⟩, hm.mono fun k _ hk => ⟨h.lt k (.inr hk), h.av k (.inr hk)⟩⟩
  rw [← hl, List.length_drop]
  omega
end

theorem posT_split {x : Th} {A B : List Th} (hA : ∀ y ∈ A, aheadT x y = false) (hB : ∀ y ∈ B, aheadT x y = true) : ∀ i, i ≤ B.length → posT x (A ++ B) (A.length + i) = A.length
  | 0, _ => by
    rw [Nat.add_zero]
    rcases Nat.eq_zero_or_pos A.length with h | h
    · rw [h]; rfl
    · obtain ⟨m, hm⟩ : ∃ m, A.length = m + 1 := ⟨A.length - 1, by omega⟩
      have hlt : m < (A ++ B).length := by rw [List.length_append]; omega
      have ha : aheadT x (A ++ B)[m] = false := by
        rw [List.getElem_append_left (by omega)]
        exact hA _ (List.getElem_mem _)
      rw [hm]
      exact posT_stay hlt ha
  | i + 1, hi => by
    have hlt : A.length + i < (A ++ B).length := by rw [List.length_append]; omega
    have ha : aheadT x (A ++ B)[A.length + i] = true := by
      rw [List.getElem_append_right (by omega)]
      exact hB _ (List.getElem_mem _)
    rw [show A.length + (i + 1) = A.length + i + 1 by omega, posT_ahead hlt ha]
    exact posT_split hA hB i (by omega)
theorem insT_split {x : Th} {A B : List Th} (hA : ∀ y ∈ A, aheadT x y = false) (hB : ∀ y ∈ B, aheadT x y = true) : insT x (A ++ B) = A ++ x :: B := by
  have h := posT_split hA hB B.length (Nat.le_refl _)
  unfold insT
  rw [List.length_append, h, List.take_left, List.drop_left]

theorem find_at {L : List Th} {id : Int} (h : ∃ x ∈ L, x.id = id) : ∃ y ∈ L, y.id = id ∧ atT L id = some y.rd := by
  unfold atT
  cases hf : L.find? (fun x => x.id == id) with
  | none =>
    obtain ⟨x, hx, e⟩ := h
    have := List.find?_eq_none.1 hf x hx
    simp [e] at this
  | some y => exact ⟨y, List.mem_of_find?_eq_some hf, by simpa using List.find?_some hf, rfl⟩

/-- What was put anew at its own reading. -/
theorem anew {L : List Th} (hs : SortT L) (hu : Uni L) {n : Int} (hn : ∀ y ∈ L, y.no < n + 1) {id rd : Int} {y : Th} (hy : y ∈ L) (hid : y.id = id) (hrd : y.rd = rd) :
    ∃ A B : List Th, putT L n id rd = A ++ ⟨id, n + 1, rd⟩ :: B ∧ dueN L rd = A.length + 1 ∧ L.drop (A.length + 1) = B ∧ (idsT (L.take (A.length + 1))).filter (fun z => z != id) = idsT A ∧ dueN (A ++ ⟨id, n + 1, rd⟩ :: B) rd = A.length + 1 := by
  obtain ⟨k, hk, rfl⟩ := List.mem_iff_getElem.1 hy
  have hf : findT L id = some k := by
    unfold findT
    rw [List.findIdx?_eq_some_iff_getElem]
    refine ⟨hk, by simpa using hid, fun j hj => ?_⟩
    have := uni_ne hu (i := j) (j := k) (by omega) hk (by omega)
    rw [hid] at this
    simpa using this
  have hd := dropT_some hu hf
  have hD := dueN_le L rd
  have hkD : k < dueN L rd := (due_iff hs hk).2 (by omega)
  obtain ⟨D, hDe⟩ : ∃ D, dueN L rd = D := ⟨_, rfl⟩
  rw [hDe] at hkD hD
  have hsp : L.drop (k + 1) = (L.take D).drop (k + 1) ++ L.drop D := by
    conv => lhs; rw [← List.take_append_drop D L]
    rw [List.drop_append_of_le_length (by rw [List.length_take]; omega)]
  have hA : (L.take k ++ (L.take D).drop (k + 1)).length + 1 = D := by
    rw [List.length_append, List.length_take, List.length_drop, List.length_take]
    omega
  have hLd : ∀ i (hi : i < L.length), i < D ↔ L[i].rd ≤ rd := fun i hi => by rw [← hDe]; exact due_iff hs hi
  have hAm : ∀ z ∈ L.take k ++ (L.take D).drop (k + 1), z.rd ≤ rd ∧ z ∈ L := by
    intro z hz
    rcases List.mem_append.1 hz with hz | hz
    · obtain ⟨i, hi, rfl⟩ := List.mem_iff_getElem.1 hz
      rw [List.length_take] at hi
      rw [List.getElem_take]
      exact ⟨(hLd i (by omega)).1 (by omega), List.getElem_mem _⟩
    · have hz := List.mem_of_mem_drop hz
      obtain ⟨i, hi, rfl⟩ := List.mem_iff_getElem.1 hz
      rw [List.length_take] at hi
      rw [List.getElem_take]
      exact ⟨(hLd i (by omega)).1 (by omega), List.getElem_mem _⟩
  have hBm : ∀ z ∈ L.drop D, rd < z.rd := by
    intro z hz
    obtain ⟨i, hi, rfl⟩ := List.mem_iff_getElem.1 hz
    rw [List.length_drop] at hi
    rw [List.getElem_drop]
    have := (hLd (D + i) (by omega))
    omega
  refine ⟨L.take k ++ (L.take D).drop (k + 1), L.drop D, ?_, by rw [hA, hDe], by rw [hA], ?_, ?_⟩
  · unfold putT
    rw [hd, hsp, ← List.append_assoc]
    refine insT_split (fun z hz => ?_) (fun z hz => ?_)
    · obtain ⟨h1, h2⟩ := hAm z hz
      have := hn z h2
      unfold aheadT
      simp
      omega
    · have := hBm z hz
      unfold aheadT
      simp
      omega
  · rw [hA]
    have hcut : L.take D = L.take k ++ L[k] :: (L.take D).drop (k + 1) := by
      conv => lhs; rw [← List.take_append_drop k (L.take D)]
      rw [List.take_take, Nat.min_eq_left (by omega), List.drop_eq_getElem_cons (by rw [List.length_take]; omega), List.getElem_take]
    have hune : ∀ z ∈ L.take k ++ (L.take D).drop (k + 1), z.id ≠ id := by
      intro z hz
      rcases List.mem_append.1 hz with hz | hz
      · obtain ⟨i, hi, rfl⟩ := List.mem_iff_getElem.1 hz
        rw [List.length_take] at hi
        rw [List.getElem_take]
        have := uni_ne hu (i := i) (j := k) (by omega) hk (by omega)
        rwa [hid] at this
      · obtain ⟨i, hi, rfl⟩ := List.mem_iff_getElem.1 hz
        rw [List.length_drop, List.length_take] at hi
        rw [List.getElem_drop, List.getElem_take]
        have := uni_ne hu (i := k + 1 + i) (j := k) (by omega) hk (by omega)
        rwa [hid] at this
    have hfl : ∀ (X : List Th), (∀ z ∈ X, z.id ≠ id) → (idsT X).filter (fun z => z != id) = idsT X := by
      intro X hX
      rw [List.filter_eq_self]
      intro z hz
      obtain ⟨q, hq, rfl⟩ := List.mem_map.1 hz
      simpa using hX q hq
    have e1 := hfl (L.take k) (fun z hz => hune z (List.mem_append_left _ hz))
    have e2 := hfl ((L.take D).drop (k + 1)) (fun z hz => hune z (List.mem_append_right _ hz))
    generalize (L.take D).drop (k + 1) = R2 at *
    rw [hcut]
    unfold idsT at *
    rw [List.map_append, List.map_cons, List.filter_append, List.filter_cons, hid, e1, e2, List.map_append]
    simp
  · generalize hAe : L.take k ++ (L.take D).drop (k + 1) = A at *
    refine dueN_at (fun i hi hlt => ?_) (by rw [List.length_append, List.length_cons]; omega) (fun hi => ?_)
    · rcases Nat.lt_or_ge i A.length with h | h
      · rw [List.getElem_append_left h]
        exact (hAm _ (List.getElem_mem _)).1
      · have : i = A.length := by omega
        subst this
        simp
    · rw [List.getElem_append_right (by omega)]
      have e : A.length + 1 - A.length = 1 := by omega
      simp only [e, List.getElem_cons_succ]
      have := hBm _ (List.getElem_mem (l := L.drop D) (n := 0) (by
        rw [List.length_append, List.length_cons] at hi
        omega))
      omega
end Go.Proofs.Ytgmnhjbejofnhaa
