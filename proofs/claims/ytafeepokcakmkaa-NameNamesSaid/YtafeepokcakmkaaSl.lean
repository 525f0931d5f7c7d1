/- A slice that reads as a list of cells, nil let in; the ending of a statement whose call turned nothing that was there. No conditions. -/
import Derived.Test.YtafeepokcakmkaaMem
import Derived.ProofKit
import Derived.Deep.Slices
import Derived.Deep.Fields
namespace Go.Proofs.Ytafeepokcakmkaa
open Go.RowKit

/-- The slice value v has n elements of 'size' cells each, which are the cells cs. -/
def Rd (w : World) (size : Nat) (v : Value) (n : Nat) (cs : List Value) : Prop :=
  cs.length = n * size ∧ ∃ A c, v = .slice A n c ∧ (0 < n → ∃ b o, A = some ⟨b, o, none⟩ ∧ b < w.heap.size ∧ ∀ j u, cs[j]? = some u → w.cell? ⟨b, o + j, none⟩ = some u)

section
variable {w w' : World} {size n : Nat} {v : Value} {cs : List Value}
theorem Rd.nil (w : World) (size c : Nat) (A : Option Addr) : Rd w size (.slice A 0 c) 0 [] := ⟨by simp, A, c, rfl, fun h => absurd h (by omega)⟩
theorem Rd.of_own {base e : Nat} (h : w.ownsRow base e size v n cs) : Rd w size v n cs := by
  refine ⟨h.1, ?_⟩
  rcases h.2 with ⟨rfl, rfl⟩ | ⟨g, cap, cur, rfl, hb, hg, h1, h2, h3, h4⟩
  · exact ⟨none, 0, rfl, fun h => absurd h (by omega)⟩
  · refine ⟨_, cap, rfl, fun _ => ⟨g, 0, rfl, Blk.lt hg, fun j u hu => ?_⟩⟩
    rw [Nat.zero_add, Blk.cell hg j]
    rw [← h4, List.getElem?_take] at hu
    split at hu
    · simpa using hu
    · cases hu
theorem Rd.mod {S : Nat → Prop} (h : Rd w size v n cs) (hm : Mod S w w') (hs : ∀ k, v.ownBlock = some k → k < w.heap.size → ¬ S k) : Rd w' size v n cs := by
  obtain ⟨h1, A, c, rfl, h2⟩ := h
  refine ⟨h1, A, c, rfl, fun hn => ?_⟩
  obtain ⟨b, o, rfl, hb, hc⟩ := h2 hn
  exact ⟨b, o, rfl, Nat.lt_of_lt_of_le hb hm.size, fun j u hu => (hm.cell (p := ⟨b, o + j, none⟩) hb (hs b rfl hb)).trans (hc j u hu)⟩
theorem Rd.kept {S : Nat → Prop} (h : Rd w size v n cs) (hm : Mod S w w') (hs : ∀ k, k < w.heap.size → ¬ S k) : Rd w' size v n cs := h.mod hm fun k _ hk => hs k hk
/-- The element's cells, where k is a place of it. -/
theorem Rd.at {k : Nat} (h : Rd w size v n cs) (hk : k < n) : ∃ b o c, v = .slice (some ⟨b, o, none⟩) n c ∧ b < w.heap.size ∧ ∀ j u, cs[j]? = some u → w.cell? ⟨b, o + j, none⟩ = some u := by
  obtain ⟨_, A, c, rfl, h2⟩ := h
  obtain ⟨b, o, rfl, hb, hc⟩ := h2 (by omega)
  exact ⟨b, o, c, rfl, hb, hc⟩
end

/-- Integers as cells. -/
def ints (l : List Int) : List Value := l.map (Value.int .i64)
theorem ints_get (l : List Int) (k : Nat) (h : k < l.length) : (ints l)[k]? = some (.int .i64 l[k]) := by simp [ints, h]
theorem ints_len (l : List Int) : (ints l).length = l.length := by simp [ints]
abbrev RdI (w : World) (v : Value) (l : List Int) : Prop := Rd w 1 v l.length (ints l)

theorem Rd.asInts {w : World} {v : Value} {n : Nat} {l : List Int} (h : Rd w 1 v n (ints l)) : RdI w v l := by
  have h1 := h.1
  rw [ints_len] at h1
  obtain rfl : n = l.length := by omega
  exact h

/-- Nothing that was there has turned. -/
abbrev Kept (w w' : World) : Prop := Mod (fun _ => False) w w'

theorem Kept.refl (w : World) : Kept w w := Mod.refl _ w
theorem Kept.only {a b c : World} {g : Nat} (h : Kept a b) (k : Mod (Only g) b c) (hg : a.heap.size ≤ g) : Kept a c :=
  Mod.trans h k fun i hi e => by have e : i = g := e; omega
theorem Mod.only {a b c : World} {g : Nat} (h : Mod (fun _ => False) a b) (k : Mod (Only g) b c) (hg : a.heap.size ≤ g) : Kept a c := Kept.only h k hg
theorem Rd.lit (w : World) (e n c : Nat) (l : List Int) (X : Array Value) (hX : X.toList = ints l) (hn : n = l.length) : Rd (w.alloc (.cells X e)) 1 (.slice (some ⟨w.heap.size, 0, none⟩) n c) l.length (ints l) := by
  subst hn
  refine ⟨by simp [ints], _, c, rfl, fun _ => ⟨_, 0, rfl, by simp, fun j u hu => ?_⟩⟩
  rw [Nat.zero_add, (Blk.new w e X).cell, ← Array.getElem?_toList, hX]
  exact hu

open Go.ChangeShapes Go.WideShapes
theorem Mod.frame {W w' : World} (h : Kept W w') (may : MemPlace → Prop) : W.keptBut w' may := by
  refine ⟨h.os, h.output, fun i hi => ?_⟩
  rw [h.block i hi (fun e => e)]
  split <;> simp_all
theorem Mod.same {W w' : World} (h : Kept W w') {p : MemPlace} (hp : p.block < W.heap.size) : W.sameAt w' p := by
  cases p with
  | cell b o => exact World.cell?_of_block (w := W) (h.block b hp (fun e => e))
  | map b => exact h.block b hp (fun e => e)
section
variable {H : Type} {enc : TypeId × Value → H} {P : Program}
theorem post_of_kept {f : Func} {s : ChangeSpec} {apart fresh handsOn again : Bool} {W W' : World} {args : Array Value} {v : Value} {ds gs : List (DataW H)} {before pa pv : List MemPlace}
    (hW : DataW.Whole enc P f.params.toList s.vars apart W args.toList ds gs before)
    (hres : ∀ (b : Nat) (sp : Nat → Bool) (hd : Bool), DataW.TrodAll enc P W' b sp hd f.resultTypes.toList (v.resultList f.resultTypes.size) (s.fn H (ds ++ gs)).results [])
    (hargs : ∀ sp : Nat → Bool, (∀ p ∈ before, sp p.block = true) → DataW.TrodAll enc P W' 0 sp true f.params.toList args.toList (s.fn H (ds ++ gs)).args pa)
    (hvars : ∀ sp : Nat → Bool, (∀ p ∈ before, sp p.block = true) → DataW.TrodVars enc P W' sp s.vars (s.fn H (ds ++ gs)).vars pv)
    (hps : before = pa ++ pv) (hb : Kept W W')
    (hok : ∀ (j : Nat) (t : TypeId) (r : Value), f.resultTypes[j]? = some t → (v.resultList f.resultTypes.size)[j]? = some r → Value.okWide P W' .any 0 t r) :
    s.post enc P f apart fresh handsOn again W args v W' := by
  have hlt : ∀ p ∈ before, p.block < W.heap.size := fun p hp => hW.lt p hp
  have hold : ∀ p ∈ before, (fun b => decide (b < W.heap.size)) p.block = true := fun p hp => by simpa using hlt p hp
  refine ⟨ds, gs, before, [], pa, pv, hW, hres _ _ _, hargs _ hold, hvars _ hold, World.keptBut_mono (fun p hp => ⟨hp, ?_⟩) (hb.frame (· ∈ before)), fun _ => ?_⟩
  · rw [hps, List.mem_append] at hp
    exact Or.inr hp
  · obtain ⟨_, _, _, _, _, hz, hn⟩ := hW
    refine ⟨hok, _, _, ([] ++ pa) ++ pv, ⟨[] ++ pa, pv, trodAll_append (hargs _ (fun _ _ => rfl)) (hres _ _ _), hvars _ (fun _ _ => rfl), rfl, ?_, ?_⟩, ?_⟩
    · intro b off hp
      have hin : MemPlace.cell b off ∈ before := by rw [hps]; simpa using hp
      rw [hb.frozen (hlt _ hin) (fun e => e)]
      exact hz b off hin
    · intro ha
      have := hn ha
      rw [hps] at this
      simpa using this
    · intro p hp _
      rw [hps]
      simpa using hp
end
end Go.Proofs.Ytafeepokcakmkaa
