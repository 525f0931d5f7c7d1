/- The place of a thing in a row of things: the library's search with the closure. No conditions. -/
import Derived.Test.YtgmnhjbejofnhaaTmA
namespace Go.Proofs.Ytgmnhjbejofnhaa
open Go.RowKit

def placeI (l : List Th) (id : Int) : Int := match findT l id with
  | some k => (k : Int)
  | none => -1
abbrev RdT (w : World) (v : Value) (l : List Th) : Prop := Rd w 3 v l.length (thc l)

theorem findT_hit {l : List Th} {id : Int} {k : Nat} (hk : k < l.length) (h : (l[k].id == id) = true) (hn : ∀ j (hj : j < l.length), j < k → (l[j].id == id) = false) : placeI l id = k := by
  have : findT l id = some k := by
    unfold findT
    rw [List.findIdx?_eq_some_iff_getElem]
    exact ⟨hk, h, fun j hj => by rw [hn j (by omega) hj]; simp⟩
  unfold placeI
  rw [this]
theorem findT_miss {l : List Th} {id : Int} (hn : ∀ j (hj : j < l.length), (l[j].id == id) = false) : placeI l id = -1 := by
  have : findT l id = none := by
    unfold findT
    rw [List.findIdx?_eq_none_iff]
    intro x hx
    obtain ⟨j, hj, rfl⟩ := List.mem_iff_getElem.1 hx
    exact hn j hj
  unfold placeI
  rw [this]

/-- The cells of a thing of a row. -/
theorem cells_thing {w : World} {b o : Nat} {l : List Th} (hc : ∀ j u, (thc l)[j]? = some u → w.cell? ⟨b, o + j, none⟩ = some u) (k : Nat) (hk : k < l.length) :
    w.cell? ⟨b, o + k * 3, none⟩ = some (.int .i64 l[k].id) ∧ w.cell? ⟨b, o + k * 3 + 1, none⟩ = some (.int .i64 l[k].no) ∧ w.cell? ⟨b, o + k * 3 + 2, none⟩ = some (.int .i64 l[k].rd) := by
  obtain ⟨g1, g2, g3⟩ := thc_get l k hk
  exact ⟨hc _ _ g1, by rw [Nat.add_assoc]; exact hc _ _ g2, by rw [Nat.add_assoc]; exact hc _ _ g3⟩

set_option maxHeartbeats 1000000 in
theorem index_c (v : Value) (l : List Th) (B : Nat) (id : Int) (w : World) (hv : RdT w v l) (hm : l.length ≤ maxLen) (hB : w.cell? ⟨B, 0, none⟩ = some (.int .i64 id)) :
    Calls Try.prog 34 #[v, .func (.func 35) #[] #[.pointer (some ⟨B, 0, none⟩)]] w fun e w' => e = .returned (.int .i64 (placeI l id)) ∧ Kept w w' := by
  have HV := Lib.hid hv
  have HB := Lib.hid hB
  have hBl := block_lt_of_cell hB
  simp only [maxLen] at hm
  obtain ⟨_, A, c, rfl, _⟩ := hv
  clear hB
  go_enter Try.func34, Try.ntmps34
  go_wp2
  go_loopg [5, 8] l.length (fun gg _ s8 wr => ∃ kk : Nat, kk ≤ l.length ∧ l.length - kk ≤ gg ∧ s8 = .int .i64 kk ∧ Aside (Kept w wr) ∧ Aside (∀ j (hj : j < l.length), j < kk → (l[j].id == id) = false))
  case atStart => exact ⟨0, Nat.zero_le _, by omega, rfl, Mod.refl _ w, fun j _ hj => absurd hj (Nat.not_lt_zero _)⟩
  case round =>
    obtain ⟨kk, hkk, hg, rfl, BW, AA⟩ := hrel
    by_cases hlt : kk < l.length
    · have hltz : (kk : Int) < (l.length : Int) := by omega
      obtain ⟨b1, o1, c1, e1, hb, g1⟩ := HV.out.at hlt
      injection e1 with e1 _ e1'
      subst e1 e1'
      obtain ⟨f1, f2, f3⟩ := cells_thing (fun j u hu => (BW.out.cell (p := ⟨b1, o1 + j, none⟩) hb (fun e => e)).trans (g1 j u hu)) kk hlt
      have hcall := fun W hW => closure_c l[kk].id l[kk].no l[kk].rd B id W hW
      have hBr := (BW.out.cell (p := ⟨B, 0, none⟩) hBl (fun e => e)).trans HB.out
      have HC := Lib.hid (hcall wr hBr)
      clear g1 hcall hBr
      cases hq : (l[kk].id == id) with
      | true =>
        rw [hq] at HC
        go_wp2_with (go_at_call 35; refine HC.out.mono ?_; rintro e w' ⟨rfl, hb'⟩)
        go_ret
        refine ⟨?_, BW.out.then hb'⟩
        rw [findT_hit hlt hq fun j hj hjk => AA.out j hj hjk]
        rfl
      | false =>
        rw [hq] at HC
        go_wp2_with (go_at_call 35; refine HC.out.mono ?_; rintro e w' ⟨rfl, hb'⟩)
        go_roundg (l.length - (kk + 1))
        case measure => omega
        case rel =>
          refine ⟨kk + 1, by omega, by omega, by go_num, BW.out.then hb', (show Aside _ from fun j hj hjk => ?_)⟩
          by_cases e : j = kk
          · subst e; exact hq
          · exact AA.out j hj (by omega)
    · have hltz : ¬ (kk : Int) < (l.length : Int) := by omega
      obtain rfl : kk = l.length := by omega
      go_wp2
      go_ret
      refine ⟨?_, BW.out⟩
      rw [findT_miss fun j hj => AA.out j hj hj]
      rfl
end Go.Proofs.Ytgmnhjbejofnhaa
