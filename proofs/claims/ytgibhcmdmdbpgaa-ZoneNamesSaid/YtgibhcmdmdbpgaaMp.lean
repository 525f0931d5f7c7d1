/- Maps of the call's own, by their entries: what a look-up and a store come to, at keys that are integers or strings. No conditions. -/
import Derived.Test.YtgibhcmdmdbpgaaApp
import Derived.WalkKit
import Derived.Maps.OwnSet
namespace Go.Proofs.Ytgibhcmdmdbpgaa
open Go.RowKit Go.Instr Go.MapKept Go.ChangeMaps

/-- Block b is a map with these keys and values, in the row in which they came. -/
def Mpb (w : World) (b : Nat) (l : List (Value × Value)) : Prop := ∃ es clock, w.heap[b]? = some (.map es clock) ∧ es.toList.map (fun e => (e.key, e.val)) = l

theorem Mpb.mod {S : Nat → Prop} {w w' : World} {b : Nat} {l : List (Value × Value)} (h : Mpb w b l) (hm : Mod S w w') (hs : ¬ S b) : Mpb w' b l := by
  obtain ⟨es, c, hb, hl⟩ := h
  have hlt : b < w.heap.size := by
    rcases Nat.lt_or_ge b w.heap.size with h | h
    · exact h
    · rw [Array.getElem?_eq_none h] at hb; cases hb
  exact ⟨es, c, (hm.block b hlt hs).trans hb, hl⟩

/-- The first entry of a key. -/
def findV (eq : Value → Bool) : List (Value × Value) → Option Value
  | [] => none
  | (k, v) :: l => if eq k then some v else findV eq l
theorem findNow_eq (kind : TypeDesc) (k : Value) (eq : Value → Bool) : ∀ (es : List MapEntry) (i : Nat), (∀ e ∈ es, sameNow kind k e.key = some (eq e.key)) →
    ∃ r, findNow kind k es i = some r ∧ r.map (·.2) = findV eq (es.map fun e => (e.key, e.val))
  | [], _, _ => ⟨none, rfl, rfl⟩
  | e :: es, i, h => by
    have h1 := h e (by simp)
    obtain ⟨r, h2, h3⟩ := findNow_eq kind k eq es (i + 1) (fun x hx => h x (List.mem_cons_of_mem _ hx))
    unfold findNow
    rw [h1]
    simp only [List.map_cons, findV]
    cases eq e.key with
    | true => exact ⟨some (i, e.val), rfl, by simp⟩
    | false => exact ⟨r, h2, by simp [h3]⟩
section
variable {P : Program}
theorem check_int (w : World) (em : Bool) (k : TypeId) (q : IntKind) (hk : P.underlying k = some (.int q)) (n : Int) : (checkKey em 10000 k (.int q n)).run P w = .ok () w := by
  unfold checkKey
  simp [run_underlying hk]
theorem check_string (w : World) (em : Bool) (k : TypeId) (hk : P.underlying k = some .string) (s : ByteArray) : (checkKey em 10000 k (.string s)).run P w = .ok () w := by
  unfold checkKey
  simp [run_underlying hk]
/-- What a look-up tells. -/
def lookV (z : Value) (r : Option Value) (ok : Bool) : Value := if ok then .tuple #[r.getD z, .bool r.isSome] else r.getD z
theorem run_lookup_b {w : World} {b : Nat} {l : List (Value × Value)} (h : Mpb w b l) {t k e : TypeId} {kind : TypeDesc} (ht : P.underlying t = some (.map k e)) (hk : P.underlying k = some kind) {z : Value} (hz : ∀ w, (zeroValue e).run P w = .ok z w)
    {key : Value} {eq : Value → Bool} (hc : ∀ em w, (checkKey em 10000 k key).run P w = .ok () w) (heq : ∀ x ∈ l, sameNow kind key x.1 = some (eq x.1)) (ok : Bool) :
    (Instr.lookup t (.map (some b)) key ok).run P w = .ok (lookV z (findV eq l) ok) w := by
  obtain ⟨es, clock, hb, rfl⟩ := h
  obtain ⟨r, h1, h2⟩ := findNow_eq kind key eq es.toList 0 (fun x hx => heq _ (List.mem_map.2 ⟨x, hx, rfl⟩))
  rw [← h2]
  unfold Instr.lookup findKey lookV
  cases r with
  | none =>
    cases ok <;> simp [run_underlying ht, run_underlying hk, MapKept.run_getObj_map hb, hc, h1, hz, Result.andThen]
  | some p =>
    cases ok <;> simp [run_underlying ht, run_underlying hk, MapKept.run_getObj_map hb, hc, h1, Result.andThen]
theorem run_lookup_nil (w : World) {t k e : TypeId} {kind : TypeDesc} (ht : P.underlying t = some (.map k e)) (hk : P.underlying k = some kind) {z : Value} (hz : ∀ w, (zeroValue e).run P w = .ok z w)
    {key : Value} (hc : ∀ em w, (checkKey em 10000 k key).run P w = .ok () w) (ok : Bool) :
    (Instr.lookup t (.map none) key ok).run P w = .ok (lookV z none ok) w := by
  unfold Instr.lookup findKey lookV findNow
  cases ok <;> simp [run_underlying ht, run_underlying hk, hc, hz]
theorem run_update_new {w : World} {b : Nat} {l : List (Value × Value)} (h : Mpb w b l) {t k e : TypeId} {kind : TypeDesc} (ht : P.underlying t = some (.map k e)) (hk : P.underlying k = some kind)
    {key val : Value} {eq : Value → Bool} (hc : ∀ em w, (checkKey em 10000 k key).run P w = .ok () w) (heq : ∀ x ∈ l, sameNow kind key x.1 = some (eq x.1)) (hn : findV eq l = none) :
    ∃ w', (Instr.mapUpdate t (.map (some b)) key val).run P w = .ok () w' ∧ Mpb w' b (l ++ [(key, val)]) ∧ Mod (Only b) w w' := by
  obtain ⟨es, clock, hb, rfl⟩ := h
  obtain ⟨r, h1, h2⟩ := findNow_eq kind key eq es.toList 0 (fun x hx => heq _ (List.mem_map.2 ⟨x, hx, rfl⟩))
  rw [hn] at h2
  have hr : r = none := by cases r with
    | none => rfl
    | some p => simp at h2
  subst hr
  refine ⟨setBlock w b (.map (es.push { key := key, val := val, born := clock }) (clock + 1)), ?_, ⟨_, _, heap_setBlock_same hb _, by simp⟩, ⟨rfl, rfl, by simp [setBlock], fun i _ hi => heap_setBlock_other hb _ (fun e => hi e)⟩⟩
  unfold Instr.mapUpdate findKey
  simp [run_underlying ht, run_underlying hk, MapKept.run_getObj_map hb, hc, h1, MapKept.run_setObj_map _ hb, Result.andThen, setBlock]
end
end Go.Proofs.Ytgibhcmdmdbpgaa
