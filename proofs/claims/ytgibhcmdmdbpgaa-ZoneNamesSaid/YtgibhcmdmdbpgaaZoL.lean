/- The two look-ups of a table of zones. Conditions: none. -/
import Derived.Test.YtgibhcmdmdbpgaaZoT
namespace Go.Proofs.Ytgibhcmdmdbpgaa
open Go.RowKit Go.Instr

def eqI (k : Int) : Value → Bool
  | .int _ n => k == n
  | _ => false
def eqS (n : ByteArray) : Value → Bool
  | .string s => n == s
  | _ => false
theorem findV_map {α : Type} (eq : Value → Bool) (f g : α → Value) (l : List α) : findV eq (l.map fun x => (f x, g x)) = (l.find? (fun x => eq (f x))).map g := by
  induction l with
  | nil => rfl
  | cons x l ih =>
    rw [List.map_cons, findV, List.find?_cons]
    cases eq (f x) with
    | true => rfl
    | false => exact ih
/-- The inner map of a number of labels. -/
def byV (oe : List (Nat × Nat)) (k : Int) : Value := match oe.find? (fun p => k == (p.1 : Int)) with
  | some p => .map (some p.2)
  | none => .map none
def zn0 : Array Value := #[.string ⟨#[]⟩, .int .u8 0, .int .u16 0]
theorem zero_zone (w : World) : (zeroValue 35).run Try.prog w = .ok (.agg zn0) w := by
  have h : (Try.prog.info? 35).bind (·.zero) = some (.agg zn0) := by kernel_rfl
  cases hq : Try.prog.info? 35 with
  | none => rw [hq] at h; cases h
  | some i =>
    rw [hq] at h
    simp only [Option.bind_some] at h
    simp [zeroValue, typeInfo, hq, h]
theorem zero_map (w : World) : (zeroValue 55).run Try.prog w = .ok (.map none) w := by
  have h : (Try.prog.info? 55).bind (·.zero) = some (.map none) := by kernel_rfl
  cases hq : Try.prog.info? 55 with
  | none => rw [hq] at h; cases h
  | some i =>
    rw [hq] at h
    simp only [Option.bind_some] at h
    simp [zeroValue, typeInfo, hq, h]
theorem look_by {w : World} {base g mo : Nat} {oe : List (Nat × Nat)} {l : List Zn} {c : Int} (h : Zt w base g mo oe l c) (k : Int) :
    (Instr.lookup 41 (.map (some mo)) (.int .i64 k) false).run Try.prog w = .ok (byV oe k) w := by
  rw [run_lookup_b h.outer Try.underlying41 Try.underlying3 zero_map (eq := eqI k) (fun em w => check_int w em _ .i64 Try.underlying3 k) (fun x hx => by
    obtain ⟨p, _, rfl⟩ := List.mem_map.1 hx
    simp [sameNow, eqI]) false]
  rw [findV_map]
  unfold lookV byV eqI
  cases oe.find? (fun p => k == (p.1 : Int)) <;> rfl
/-- What a table tells of a name itself. -/
def inV (l : List Zn) (n : ByteArray) : Value := match l.find? (fun z => n == z.name) with
  | some z => .tuple #[.agg (znC z), .bool true]
  | none => .tuple #[.agg zn0, .bool false]
theorem look_in {w : World} {base g mo : Nat} {oe : List (Nat × Nat)} {l : List Zn} {c : Int} (h : Zt w base g mo oe l c) (n : ByteArray) :
    (Instr.lookup 55 (byV oe (labK n : Int)) (.string n) true).run Try.prog w = .ok (inV l n) w := by
  cases hf : oe.find? (fun p => (labK n : Int) == (p.1 : Int)) with
  | none =>
    have hb : byV oe (labK n : Int) = .map none := by unfold byV; rw [hf]
    have hn := List.find?_eq_none.1 hf
    have hl : l.find? (fun z => n == z.name) = none := by
      rw [List.find?_eq_none]
      intro z hz e
      obtain ⟨p, hp, hk⟩ := h.every z hz
      have e : n = z.name := (MapKept.bytes_beq n z.name).1 e
      have := hn p hp
      rw [hk, ← e] at this
      simp at this
    rw [hb, run_lookup_nil w Try.underlying55 Try.underlying9 zero_zone (fun em w => check_string w em _ Try.underlying9 n) true]
    unfold lookV inV
    rw [hl]
    rfl
  | some p =>
    have hb : byV oe (labK n : Int) = .map (some p.2) := by unfold byV; rw [hf]
    have hp := List.mem_of_find?_eq_some hf
    have hk : p.1 = labK n := by
      have := List.find?_some hf
      simp at this
      omega
    have hi := h.inner p hp
    rw [hb, run_lookup_b hi Try.underlying55 Try.underlying9 zero_zone (eq := eqS n) (fun em w => check_string w em _ Try.underlying9 n) (fun x hx => by
      obtain ⟨z, _, rfl⟩ := List.mem_map.1 hx
      simp [sameNow, eqS]) true, findV_map]
    have hl : (l.filter fun z => labK z.name == p.1).find? (fun z => eqS n (.string z.name)) = l.find? (fun z => n == z.name) := by
      rw [List.find?_filter]
      congr 1
      funext z
      unfold eqS
      cases hb : (n == z.name) with
      | true =>
        have e := (MapKept.bytes_beq n z.name).1 hb
        rw [← e, hk]
        have h2 : (n == n) = true := (MapKept.bytes_beq n n).2 rfl
        simp [h2]
      | false => simp [hb]
    rw [hl]
    unfold lookV inV
    cases l.find? (fun z => n == z.name) <;> rfl
/-- A zone goes into the inner map of its number of labels. -/
theorem add_in {w : World} {base g mo : Nat} {oe : List (Nat × Nat)} {l : List Zn} {c : Int} (h : Zt w base g mo oe l c) {p : Nat × Nat} (hp : p ∈ oe) (z : Zn) (hk : p.1 = labK z.name) (hn : l.find? (fun y => z.name == y.name) = none) :
    ∃ w', (Instr.mapUpdate 55 (.map (some p.2)) (.string z.name) (.agg (znC z))).run Try.prog w = .ok () w' ∧ Zt w' base g mo oe (l ++ [z]) c ∧ Mod (Only p.2) w w' := by
  have hi := h.inner p hp
  have hnv : findV (eqS z.name) ((l.filter fun y => labK y.name == p.1).map fun y => (.string y.name, .agg (znC y))) = none := by
    rw [findV_map]
    rw [Option.map_eq_none_iff, List.find?_eq_none]
    intro y hy
    exact List.find?_eq_none.1 hn y (List.mem_filter.1 hy).1
  obtain ⟨w', hr, hm', hM⟩ := run_update_new hi Try.underlying55 Try.underlying9 (val := .agg (znC z)) (eq := eqS z.name) (fun em w => check_string w em _ Try.underlying9 z.name) (fun x hx => by
    obtain ⟨y, _, rfl⟩ := List.mem_map.1 hx
    simp [sameNow, eqS]) hnv
  have hb := h.blks
  rw [List.nodup_cons, List.nodup_cons] at hb
  have hpm : p.2 ∈ oe.map (·.2) := List.mem_map.2 ⟨p, hp, rfl⟩
  have hg : ¬ Only p.2 g := fun e => by have e : g = p.2 := e; exact hb.1 (by rw [e]; exact List.mem_cons_of_mem _ hpm)
  have ho : ¬ Only p.2 mo := fun e => by have e : mo = p.2 := e; exact hb.2.1 (by rw [e]; exact hpm)
  refine ⟨w', hr, ⟨h.blk.mod hM hg, h.outer.mod hM ho, fun q hq => ?_, fun y hy => ?_, h.keys, h.blks, fun b hb => ⟨(h.lo b hb).1, Nat.lt_of_lt_of_le (h.lo b hb).2 hM.size⟩⟩, hM⟩
  · by_cases e : q = p
    · subst e
      rw [List.filter_append, List.map_append]
      have : ([z].filter fun y => labK y.name == q.1) = [z] := by rw [hk]; simp
      rw [this]
      exact hm'
    · have hne : q.2 ≠ p.2 := by
        intro e2
        obtain ⟨i, hi1, rfl⟩ := List.mem_iff_getElem.1 hq
        obtain ⟨j, hj1, rfl⟩ := List.mem_iff_getElem.1 hp
        have hpw := List.pairwise_iff_getElem.1 hb.2.2
        simp only [List.length_map, List.getElem_map] at hpw
        rcases Nat.lt_trichotomy i j with h1 | h1 | h1
        · exact hpw i j hi1 hj1 h1 e2
        · subst h1; exact e rfl
        · exact hpw j i hj1 hi1 h1 e2.symm
      have hk2 : q.1 ≠ p.1 := by
        intro e2
        obtain ⟨i, hi1, rfl⟩ := List.mem_iff_getElem.1 hq
        obtain ⟨j, hj1, rfl⟩ := List.mem_iff_getElem.1 hp
        have hpw := List.pairwise_iff_getElem.1 h.keys
        simp only [List.length_map, List.getElem_map] at hpw
        rcases Nat.lt_trichotomy i j with h1 | h1 | h1
        · exact hpw i j hi1 hj1 h1 e2
        · subst h1; exact e rfl
        · exact hpw j i hj1 hi1 h1 e2.symm
      have : ([z].filter fun y => labK y.name == q.1) = [] := by
        have hz : (labK z.name == q.1) = false := by rw [← hk]; simpa using fun e => hk2 e.symm
        simp [hz]
      rw [List.filter_append, this, List.append_nil]
      exact (h.inner q hq).mod hM (fun e => hne e)
  · rcases List.mem_append.1 hy with hy | hy
    · exact h.every y hy
    · rw [List.mem_singleton.1 hy]
      exact ⟨p, hp, hk⟩
/-- A new inner map, for a number of labels that is not there yet. -/
theorem add_by {w : World} {base g mo : Nat} {oe : List (Nat × Nat)} {l : List Zn} {c : Int} (h : Zt w base g mo oe l c) (k : Nat) (hno : oe.find? (fun p => (k : Int) == (p.1 : Int)) = none) (hbase : base ≤ w.heap.size) :
    ∃ w', (Instr.mapUpdate 41 (.map (some mo)) (.int .i64 k) (.map (some w.heap.size))).run Try.prog (w.alloc (.map #[] 0)) = .ok () w' ∧ Zt w' base g mo (oe ++ [(k, w.heap.size)]) l c ∧ Mod (Only mo) w w' := by
  have hka : Kept w (w.alloc (.map #[] 0)) := (Mod.refl _ _).alloc _
  have h1 := h.kept hka
  have hnv : findV (eqI k) (oe.map fun p => (.int .i64 (p.1 : Int), .map (some p.2))) = none := by
    rw [findV_map, Option.map_eq_none_iff]
    exact hno
  obtain ⟨w', hr, hm', hM⟩ := run_update_new h1.outer Try.underlying41 Try.underlying3 (val := .map (some w.heap.size)) (eq := eqI k) (fun em w => check_int w em _ .i64 Try.underlying3 k) (fun x hx => by
    obtain ⟨p, _, rfl⟩ := List.mem_map.1 hx
    simp [sameNow, eqI]) hnv
  have hM0 : Mod (Only mo) w w' := (hka.mono fun _ _ e => e.elim).then hM
  have hne : ∀ p ∈ oe, p.1 ≠ k := fun p hp e => by
    have := List.find?_eq_none.1 hno p hp
    rw [e] at this
    simp at this
  have hlo := h.lo
  have hlt : ∀ b ∈ g :: mo :: oe.map (·.2), b < w.heap.size := fun b hb => (hlo b hb).2
  have hb := h.blks
  have hb' := hb
  rw [List.nodup_cons, List.nodup_cons] at hb'
  have hgm : ¬ Only mo g := fun e => by have e : g = mo := e; exact hb'.1 (by rw [e]; simp)
  have hpm : ∀ p ∈ oe, ¬ Only mo p.2 := fun p hp e => by have e : p.2 = mo := e; exact hb'.2.1 (by rw [← e]; exact List.mem_map.2 ⟨p, hp, rfl⟩)
  have hnew : Mpb w' w.heap.size [] := by
    have h0 : Mpb (w.alloc (.map #[] 0)) w.heap.size [] := ⟨#[], 0, heap_alloc_new w _, rfl⟩
    exact h0.mod hM (fun e => by have e : w.heap.size = mo := e; have := hlt mo (by simp); omega)
  have hsz : w.heap.size < w'.heap.size := by
    have := hM.size
    simp at this
    omega
  refine ⟨w', hr, ⟨h.blk.mod hM0 hgm, ?_, fun q hq => ?_, fun z hz => ?_, ?_, ?_, fun b hb => ?_⟩, hM0⟩
  · rw [List.map_append]
    exact hm'
  · rcases List.mem_append.1 hq with hq | hq
    · exact (h.inner q hq).mod hM0 (hpm q hq)
    · rw [List.mem_singleton.1 hq]
      have : (l.filter fun z => labK z.name == k) = [] := by
        rw [List.filter_eq_nil_iff]
        intro z hz e
        obtain ⟨p, hp, hk⟩ := h.every z hz
        exact hne p hp (by rw [hk]; simpa using e)
      simp only [this]
      exact hnew
  · obtain ⟨p, hp, hk⟩ := h.every z hz
    exact ⟨p, List.mem_append_left _ hp, hk⟩
  · rw [List.map_append, List.nodup_append]
    refine ⟨h.keys, by simp, fun a ha b hb e => ?_⟩
    obtain ⟨p, hp, rfl⟩ := List.mem_map.1 ha
    simp at hb
    exact hne p hp (by rw [e, hb])
  · rw [List.map_append, ← List.cons_append, ← List.cons_append, List.nodup_append]
    refine ⟨hb, by simp, fun a ha b hb e => ?_⟩
    have := hlt a ha
    simp at hb
    omega
  · rw [List.map_append, ← List.cons_append, ← List.cons_append] at hb
    rcases List.mem_append.1 hb with hb | hb
    · exact ⟨(hlo b hb).1, Nat.lt_trans (hlt b hb) hsz⟩
    · simp at hb
      subst hb
      exact ⟨hbase, hsz⟩
end Go.Proofs.Ytgibhcmdmdbpgaa
