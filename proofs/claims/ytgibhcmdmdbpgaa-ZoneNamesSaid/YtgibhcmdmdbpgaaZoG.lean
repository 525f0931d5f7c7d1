/- What is more than a statement goes over. No conditions. -/
import Derived.Test.YtgibhcmdmdbpgaaZoF
namespace Go.Proofs.Ytgibhcmdmdbpgaa
open Go.RowKit Go.Lib

/-- Few zones and few texts, none long. -/
def Few (l : List Zn) (ns : List ByteArray) : Prop := (∀ z ∈ l, z.name.size < 10000) ∧ l.length < 500 ∧ (∀ x ∈ ns, x.size < 10000) ∧ ns.length < 500
def LongTo (l : List Zn) (ns : List ByteArray) (w : World) (e : Ending) (w' : World) : Prop :=
  w' = w ∧ (e = .returned (.bool true) ∨ (e = .returned (.bool false) ∧ Few l ns))
def LgRel1 (l : List Zn) (w : World) (k : Nat) (vn vi : Value) (wr : World) : Prop :=
  ∃ j a : Nat, vn = .int .i64 a ∧ vi = .int .i64 j ∧ j + k = l.length ∧ a ≤ 30000 ∧ (a < 10000 → j * 20 ≤ a ∧ ∀ m (h : m < l.length), m < j → (l[m]).name.size < 10000) ∧ wr = w
def LgRel2 (l : List Zn) (ns : List ByteArray) (w : World) (k : Nat) (vn vi : Value) (wr : World) : Prop :=
  ∃ j a : Nat, vn = .int .i64 a ∧ vi = .int .i64 j ∧ j + k = ns.length ∧ a ≤ 30000 ∧ (a < 10000 → (∀ z ∈ l, z.name.size < 10000) ∧ l.length < 500 ∧ j * 20 ≤ a ∧ ∀ m (h : m < ns.length), m < j → (ns[m]).size < 10000) ∧ wr = w
set_option maxHeartbeats 2000000 in
set_option maxRecDepth 100000 in
theorem long_any (v vn : Value) (l : List Zn) (ns : List ByteArray) (hl : ∀ z ∈ l, z.name.size < 2 ^ 63) (hns : ∀ x ∈ ns, x.size < 2 ^ 63) (hll : l.length < 2 ^ 63) (hnl : ns.length < 2 ^ 63) (w : World) (hv : RdZ w v l) (hvn : Rd w 1 vn ns.length (strVals ns)) :
    Calls Try.prog 9 #[v, vn] w (LongTo l ns w) := by
  have HV := Lib.hid hv
  have HN := Lib.hid hvn
  have HL := Lib.hid hl
  have HS := Lib.hid hns
  obtain ⟨_, A, c, rfl, _⟩ := hv
  obtain ⟨_, A2, c2, rfl, _⟩ := hvn
  clear hl hns
  go_enter Try.func9, Try.ntmps9
  go_wp2_with fail
  go_loopg [5, 6] l.length (fun k vn vi wr => LgRel1 l w k vn vi wr)
  case atStart => exact ⟨0, 0, rfl, rfl, by omega, by omega, fun _ => ⟨by omega, fun _ _ h => absurd h (Nat.not_lt_zero _)⟩, rfl⟩
  case round =>
    obtain ⟨j, a, rfl, rfl, hj, ha, hall, rfl⟩ := hrel
    have HJ := Lib.hid hj
    have HALL := Lib.hid hall
    have hjl : j ≤ l.length := by omega
    clear hj hall
    by_cases hlt : j < l.length ∧ a < 10000
    · obtain ⟨hlt, ha2⟩ := hlt
      obtain ⟨b1, o1, c1', e1, hb1, g1⟩ := HV.out.at hlt
      injection e1 with e1 _ e1'
      subst e1 e1'
      obtain ⟨q1, _, _⟩ := zC_get l j hlt
      have f1 := g1 _ _ q1
      have i1 : (j : Int) < l.length := by omega
      have i2 : (a : Int) < 10000 := by omega
      have hsz := HL.out _ (List.getElem_mem hlt)
      obtain ⟨n, hn⟩ : ∃ n, (l[j]'hlt).name = n := ⟨_, rfl⟩
      rw [hn] at f1 hsz
      have HNM := Lib.hid hn
      clear g1 q1 hn
      by_cases hs : n.size < 10000
      · have i3 : (n.size : Int) < 10000 := by omega
        have HSS := Lib.hid hs
        clear hs
        go_wp2_with fail
        go_roundg (l.length - (j + 1))
        case measure => have := HJ.out; omega
        case rel =>
          refine ⟨j + 1, a + 20 + n.size, by go_num, by go_num, by omega, by have := HSS.out; omega, fun _ => ⟨?_, fun m h hm => ?_⟩, rfl⟩
          · have := (HALL.out ha2).1
            omega
          · by_cases e : m = j
            · subst e; rw [HNM.out]; exact HSS.out
            · exact (HALL.out ha2).2 m h (by omega)
      · have i3 : (10000 : Int) ≤ n.size := by omega
        have HSS := Lib.hid hs
        clear hs
        go_wp2_with fail
        go_roundg (l.length - (j + 1))
        case measure => have := HJ.out; omega
        case rel =>
          exact ⟨j + 1, a + 10020, by congr 1; omega, by go_num, by omega, by omega, fun h => by omega, rfl⟩
    · by_cases ha2 : a < 10000
      · obtain rfl : j = l.length := by omega
        have i2 : (a : Int) < 10000 := by omega
        have h1 := HALL.out ha2
        have HALL2 : Hid ((∀ z ∈ l, z.name.size < 10000) ∧ l.length < 500) := Lib.hid ⟨fun z hz => by
          obtain ⟨m, hm, rfl⟩ := List.mem_iff_getElem.1 hz
          exact h1.2 m hm hm, by omega⟩
        clear h1 HALL hlt
        go_wp2_with fail
        go_loopg [5, 7] ns.length (fun k vn vi wr2 => LgRel2 l ns wr k vn vi wr2)
        case atStart => exact ⟨0, a, rfl, rfl, by omega, by omega, fun _ => ⟨HALL2.out.1, HALL2.out.2, by omega, fun _ _ h => absurd h (Nat.not_lt_zero _)⟩, rfl⟩
        case round =>
          clear ha ha2 i2 HALL2
          obtain ⟨j, a, rfl, rfl, hj, ha, hall, rfl⟩ := hrel
          have HJ := Lib.hid hj
          have HALL := Lib.hid hall
          have hjl2 : j ≤ ns.length := by omega
          clear hj hall
          by_cases hlt : j < ns.length ∧ a < 10000
          · obtain ⟨hlt, ha2⟩ := hlt
            obtain ⟨b1, o1, c1', e1, hb1, g1⟩ := HN.out.at hlt
            injection e1 with e1 _ e1'
            subst e1 e1'
            have f1 := g1 j _ (strVals_get (List.getElem?_eq_getElem hlt))
            have i1 : (j : Int) < ns.length := by omega
            have i2 : (a : Int) < 10000 := by omega
            have hsz := HS.out _ (List.getElem_mem hlt)
            obtain ⟨n, hn⟩ : ∃ n, (ns[j]'hlt) = n := ⟨_, rfl⟩
            rw [hn] at f1 hsz
            have HNM := Lib.hid hn
            clear g1 hn
            by_cases hs : n.size < 10000
            · have i3 : (n.size : Int) < 10000 := by omega
              have HSS := Lib.hid hs
              clear hs
              go_wp2_with fail
              go_roundg (ns.length - (j + 1))
              case measure => have := HJ.out; omega
              case rel =>
                refine ⟨j + 1, a + 20 + n.size, by go_num, by go_num, by omega, by have := HSS.out; omega, fun _ => ⟨(HALL.out ha2).1, (HALL.out ha2).2.1, ?_, fun m h hm => ?_⟩, rfl⟩
                · have := (HALL.out ha2).2.2.1
                  omega
                · by_cases e : m = j
                  · subst e; rw [HNM.out]; exact HSS.out
                  · exact (HALL.out ha2).2.2.2 m h (by omega)
            · have i3 : (10000 : Int) ≤ n.size := by omega
              clear hs
              go_wp2_with fail
              go_roundg (ns.length - (j + 1))
              case measure => have := HJ.out; omega
              case rel => exact ⟨j + 1, a + 10020, by congr 1; omega, by go_num, by omega, by omega, fun h => by omega, rfl⟩
          · by_cases ha2 : a < 10000
            · obtain rfl : j = ns.length := by omega
              have i2 : (a : Int) < 10000 := by omega
              have h1 := HALL.out ha2
              have HF : Hid (Few l ns) := Lib.hid ⟨h1.1, h1.2.1, fun x hx => by
                obtain ⟨m, hm, rfl⟩ := List.mem_iff_getElem.1 hx
                exact h1.2.2.2 m hm hm, by omega⟩
              have d1 : decide (10000 ≤ (a : Int)) = false := by simp; omega
              clear h1 HALL hlt
              go_wp2_with fail
              go_ret
              exact ⟨rfl, .inr ⟨by rfl, HF.out⟩⟩
            · have i2 : (10000 : Int) ≤ a := by omega
              have d1 : decide (10000 ≤ (a : Int)) = true := by simp; omega
              clear HALL hlt
              go_wp2_with fail
              all_goals
                go_ret
                exact ⟨rfl, .inl (by rfl)⟩
      · have i2 : (10000 : Int) ≤ a := by omega
        have d1 : decide (10000 ≤ (a : Int)) = true := by simp; omega
        clear HALL hlt
        by_cases hj2 : j < l.length
        · have i1 : (j : Int) < l.length := by omega
          go_wp2_with fail
          go_loopg [5, 7] 0 (fun _ vn vi wr2 => vn = .int .i64 (a : Int) ∧ vi = .int .i64 0 ∧ wr2 = wr)
          case atStart => exact ⟨rfl, rfl, rfl⟩
          case round =>
            obtain ⟨rfl, rfl, rfl⟩ := hrel
            go_wp2_with fail
            all_goals
              go_ret
              exact ⟨rfl, .inl (by rfl)⟩
        · obtain rfl : j = l.length := by omega
          go_wp2_with fail
          go_loopg [5, 7] 0 (fun _ vn vi wr2 => vn = .int .i64 (a : Int) ∧ vi = .int .i64 0 ∧ wr2 = wr)
          case atStart => exact ⟨rfl, rfl, rfl⟩
          case round =>
            obtain ⟨rfl, rfl, rfl⟩ := hrel
            go_wp2_with fail
            all_goals
              go_ret
              exact ⟨rfl, .inl (by rfl)⟩
end Go.Proofs.Ytgibhcmdmdbpgaa
