/- A name's folded labels, joined labels, Fold, Parent, walked. Conditions: texts that a memory may hold. -/
import Derived.Test.YtafeepokcakmkaaNamG
namespace Go.Proofs.Ytafeepokcakmkaa
open Go.RowKit

def fL (x : ByteArray) : ByteArray := mkS (lowL (bys x))
theorem bys_fL (x : ByteArray) : bys (fL x) = lowL (bys x) := bys_mkS (low_lt (bys_lt x))
theorem lbs_fL (L : List ByteArray) : lbs (L.map fL) = (lbs L).map lowL := by
  unfold lbs
  rw [List.map_map, List.map_map]
  apply List.map_congr_left
  intro x _
  exact bys_fL x
def AllTo (n : ByteArray) (w : World) (e : Ending) (w' : World) : Prop :=
  Kept w w' ∧ ((splitN (bys n) = none ∧ e = .returned (.tuple #[.slice none 0 0, .bool false])) ∨
    ∃ v L ls, splitN (bys n) = some ls ∧ lbs L = ls.map lowL ∧ e = .returned (.tuple #[v, .bool true]) ∧ Txs w' w.heap.size v L)
def AllRel (L : List ByteArray) (base : Nat) (v : Value) (w : World) (k : Nat) (i : Value) (wr : World) : Prop :=
  ∃ j : Nat, i = .int .i64 j ∧ j + k = L.length ∧ Txs wr base v ((L.take j).map fL ++ L.drop j) ∧ Kept w wr
theorem all_len {L : List ByteArray} (j : Nat) : ((L.take j).map fL ++ L.drop j).length = L.length := by
  simp only [List.length_append, List.length_map, List.length_take, List.length_drop]; omega
theorem all_get {L : List ByteArray} {j : Nat} {x : ByteArray} (h : L[j]? = some x) : ((L.take j).map fL ++ L.drop j)[j]? = some x := by
  obtain ⟨hj, hx⟩ := List.getElem?_eq_some_iff.1 h
  have e1 : ((L.take j).map fL).length = j := by rw [List.length_map, List.length_take]; omega
  rw [List.getElem?_append_right (by omega), e1, Nat.sub_self, List.getElem?_drop, Nat.add_zero, h]
theorem all_set {L : List ByteArray} {j : Nat} {x : ByteArray} (h : L[j]? = some x) : ((L.take j).map fL ++ L.drop j).set j (fL x) = (L.take (j + 1)).map fL ++ L.drop (j + 1) := by
  obtain ⟨hj, hx⟩ := List.getElem?_eq_some_iff.1 h
  have e1 : ((L.take j).map fL).length = j := by rw [List.length_map, List.length_take]; omega
  have e2 : min j L.length = j := by omega
  rw [List.take_add_one, h, List.drop_eq_getElem_cons hj, List.set_append_right _ _ (by omega)]
  simp [hx, e2]
theorem Txs.set {w : World} {base g c : Nat} {L : List ByteArray} {n : Nat} (hn : n = L.length) (h : Txs w base (.slice (some ⟨g, 0, none⟩) n c) L) (j : Nat) (x : ByteArray) : Txs (w.setCell ⟨g, j, none⟩ (.string x)) base (.slice (some ⟨g, 0, none⟩) n c) (L.set j x) := by
  subst hn
  have := (World.ownsRow.stored h j (.string x)).1
  unfold Txs strVals
  rw [List.length_set, List.map_set]
  exact this
theorem labs_len {n : ByteArray} {L : List ByteArray} (h : splitN (bys n) = some (lbs L)) : L.length ≤ 255 := by
  obtain ⟨h1, h2, h3⟩ := (splitN_iff _ _).1 h
  have : ∀ ls : List (List Nat), ls.length ≤ (joinN ls).length := by
    intro ls
    induction ls with
    | nil => simp
    | cons l ls ih => simp only [joinN, List.length_cons, List.length_append]; omega
  have h4 := this (lbs L)
  rw [lbs_length, ← h1] at h4
  omega
theorem labs_ok {n : ByteArray} {L : List ByteArray} (h : splitN (bys n) = some (lbs L)) : ∀ x ∈ L, x.size ≤ 63 := by
  obtain ⟨h1, h2, h3⟩ := (splitN_iff _ _).1 h
  intro x hx
  have := h2 (bys x) (List.mem_map.2 ⟨x, hx, rfl⟩)
  unfold LabOk at this
  rw [bys_length] at this
  omega
set_option maxHeartbeats 1000000 in
theorem all_any (n : ByteArray) (hn : n.size < 2 ^ 63) (w : World) : Calls Try.prog 38 #[.string n] w (AllTo n w) := by
  go_enter Try.func38, Try.ntmps38
  go_wp2_with fail
  refine (split_any n hn _).mono ?_
  rintro e w1 ⟨m1, ⟨hs, rfl⟩ | ⟨v, L, hs, rfl, hT⟩⟩
  · have HS := Lib.hid hs
    have M := Lib.hid m1
    clear hs m1
    go_wp2_with fail
    go_loopg [6, 7, 15] 0 (fun k _ _ i wr => i = .int .i64 0 ∧ wr = w1)
    case atStart => exact ⟨rfl, rfl⟩
    case round =>
      obtain ⟨rfl, rfl⟩ := hrel
      go_wp2_with fail
      refine bodyPost_ret (v := .tuple #[.slice none 0 0, .bool false]) (by simp [results, Try.results38, go_sem]) rfl ⟨M.out, .inl ⟨HS.out, rfl⟩⟩
  · have hlen := labs_len hs
    have hok := labs_ok hs
    have HS := Lib.hid hs
    have HO := Lib.hid hok
    have M := Lib.hid m1
    obtain ⟨A, c, rfl⟩ := hT.form
    have HT := Lib.hid hT
    clear hs m1 hok hT
    go_wp2_with fail
    go_loopg [6, 7, 15] L.length (fun k _ _ i wr => AllRel L w.heap.size (.slice A L.length c) w k i wr)
    case atStart => exact ⟨0, rfl, by omega, by simpa using HT.out, M.out⟩
    case round =>
      obtain ⟨j, rfl, hj, hT, hm⟩ := hrel
      have HJ := Lib.hid hj
      replace M := Lib.hid hm
      by_cases hlt : j < L.length
      · have HLT := Lib.hid hlt
        obtain ⟨x, hx, hmem⟩ : ∃ x, L[j]? = some x ∧ x ∈ L := ⟨_, List.getElem?_eq_getElem hlt, List.getElem_mem hlt⟩
        have hxs : x.size ≤ 63 := HO.out x hmem
        have hrd := hT.rd
        rw [all_len] at hrd
        obtain ⟨b, o, c2, e2, hb, g2⟩ := hrd.at hlt
        injection e2 with e2 _ e3
        subst e2 e3
        have f1 := g2 j _ (strVals_get (all_get hx))
        have ho : o = 0 ∧ w.heap.size ≤ b := by
          have := hT.lt b rfl
          rcases hT.2 with ⟨h, _⟩ | ⟨g, cap, cur, h, _⟩
          · cases h
          · injection h with h _ _
            injection h with h
            injection h with h1 h2
            exact ⟨h2, this.1⟩
        obtain ⟨rfl, hbw⟩ := ho
        rw [Nat.zero_add] at f1
        have hfz : wr.frozen? ⟨b, j, none⟩ = false := by
          have hT2 := hT
          unfold Txs at hT2
          rw [all_len] at hT2
          exact hT2.frozenAt j
        have i1 : (j : Int) < (L.length : Int) := by omega
        have HX := Lib.hid hx
        have HBW := Lib.hid hbw
        have HB := Lib.hid hb
        have HT2 := Lib.hid hT
        clear hx hmem hj hm hrd g2 hT hlt
        go_wp2_with fail
        refine (folded_any x (by omega) _).mono ?_
        rintro e w2 ⟨rfl, m2⟩
        have f3 : w2.frozen? ⟨b, j, none⟩ = false := (m2.frozen (p := ⟨b, j, none⟩) HB.out (fun e => e)).trans hfz
        have f4 : w2.cell? ⟨b, j, none⟩ = some (.string x) := (m2.cell (p := ⟨b, j, none⟩) HB.out (fun e => e)).trans f1
        replace M := Lib.hid (M.out.then m2)
        replace HT2 := Lib.hid (HT2.out.kept m2)
        clear m2 hfz f1
        go_wp2_with fail
        go_roundg (L.length - (j + 1))
        case measure => have := HJ.out; have := HLT.out; omega
        case rel =>
          refine ⟨j + 1, by go_num, by have := HLT.out; omega, ?_, M.out.only ((Mod.refl (Only b) _).at _ _) HBW.out⟩
          rw [← all_set HX.out]
          exact HT2.out.set (all_len j).symm j (fL x)
      · obtain rfl : j = L.length := by omega
        rw [List.take_length, List.drop_length, List.append_nil] at hT
        have HT2 := Lib.hid hT
        clear hT hj hm hlt
        go_wp2_with fail
        refine bodyPost_ret (v := .tuple #[.slice A L.length c, .bool true]) (by simp [results, Try.results38, go_sem]) rfl ⟨M.out, .inr ⟨_, L.map fL, _, HS.out, lbs_fL L, rfl, HT2.out⟩⟩
def bodyN (ls : List (List Nat)) : List Nat := ls.flatMap fun l => l.length :: l
theorem joinN_body (ls : List (List Nat)) : joinN ls = bodyN ls ++ [0] := by
  induction ls with
  | nil => rfl
  | cons l ls ih => simp [joinN, ih, bodyN]
theorem bodyN_take {L : List ByteArray} {j : Nat} {x : ByteArray} (h : L[j]? = some x) : bodyN (lbs (L.take (j + 1))) = bodyN (lbs (L.take j)) ++ [x.size] ++ bys x := by
  unfold bodyN lbs
  rw [List.take_add_one, h]
  simp [bys_length]
theorem bodyN_take_le (L : List ByteArray) (j : Nat) : (bodyN (lbs (L.take j))).length ≤ (bodyN (lbs L)).length := by
  have e : bodyN (lbs L) = bodyN (lbs (L.take j)) ++ bodyN (lbs (L.drop j)) := by
    unfold bodyN lbs
    rw [← List.flatMap_append, ← List.map_append, List.take_append_drop]
  rw [e, List.length_append]; omega
def JRel (L : List ByteArray) (w : World) (k : Nat) (i : Value) (wr : World) : Prop :=
  ∃ j : Nat, i = .int .i64 j ∧ j + k = L.length ∧ Bld wr w.heap.size w.heap.size (bodyN (lbs (L.take j))) ∧ Kept w wr
set_option maxHeartbeats 1000000 in
theorem joined_any (v : Value) (L : List ByteArray) (hL : ∀ x ∈ L, x.size < 256) (hlen : (joinN (lbs L)).length ≤ 1000000000) (w : World) (hr : Rd w 1 v L.length (strVals L)) :
    Calls Try.prog 47 #[v] w fun e w' => e = .returned (.string (mkS (joinN (lbs L)))) ∧ Kept w w' := by
  rw [joinN_body, List.length_append] at hlen
  have hlb : (bodyN (lbs L)).length ≤ 1000000000 := by omega
  have HLB := Lib.hid hlb
  have HO := Lib.hid hL
  have HR := Lib.hid hr
  have hll : L.length ≤ 1000000000 := by
    have : ∀ M : List ByteArray, M.length ≤ (bodyN (lbs M)).length := by
      intro M
      induction M with
      | nil => simp
      | cons a M ih => simp only [lbs, bodyN, List.map_cons, List.flatMap_cons, List.length_cons, List.length_append] at ih ⊢; omega
    have := this L
    omega
  obtain ⟨_, A, c, rfl, _⟩ := hr
  clear hL hlen hlb
  go_enter Try.func47, Try.ntmps47
  go_wp2_with fail
  go_loopg [5, 8] L.length (fun k _ i wr => JRel L w k i wr)
  case atStart => exact ⟨0, rfl, by omega, Bld.new w, (Kept.refl _).alloc _⟩
  case round =>
    obtain ⟨j, rfl, hj, hB, hm⟩ := hrel
    have HJ := Lib.hid hj
    have M := Lib.hid hm
    have hjl : j ≤ L.length := by omega
    have hsz := hm.size
    by_cases hlt : j < L.length
    · have HLT := Lib.hid hlt
      obtain ⟨x, hx, hmem⟩ : ∃ x, L[j]? = some x ∧ x ∈ L := ⟨_, List.getElem?_eq_getElem hlt, List.getElem_mem hlt⟩
      have hxs : x.size < 256 := HO.out x hmem
      obtain ⟨b, o, c2, e2, hb, g2⟩ := (HR.out.kept M.out (fun _ _ e => e)).at hlt
      injection e2 with e2 _ e3
      subst e2 e3
      have f1 := g2 j _ (strVals_get hx)
      have i1 : (j : Int) < (L.length : Int) := by omega
      have hl0 : (bodyN (lbs (L.take j))).length + 1 + x.size ≤ 1000000000 := by
        have h1 := bodyN_take_le L (j + 1)
        rw [bodyN_take hx] at h1
        simp only [List.length_append, List.length_cons, List.length_nil, bys_length] at h1
        have := HLB.out
        omega
      have HL0 := Lib.hid hl0
      have HX := Lib.hid hx
      clear hx hmem hj hm g2 hlt hl0
      go_wp2_with fail
      refine (wbyte_any w.heap.size w.heap.size _ _ x.size rfl _ hB (by have := HL0.out; omega) hsz).mono ?_
      rintro e w2 ⟨rfl, hB2, m2⟩
      have hsz2 : w.heap.size ≤ w2.heap.size := Nat.le_trans hsz m2.size
      replace M := Lib.hid (M.out.above m2 (Nat.le_refl _))
      clear m2 hB f1
      go_wp2_with fail
      refine (wstr_any w.heap.size w.heap.size _ x _ hB2 (by have := HL0.out; rw [List.length_append]; simp only [List.length_cons, List.length_nil]; omega) hsz2).mono ?_
      rintro e w3 ⟨rfl, hB3, m3⟩
      replace M := Lib.hid (M.out.above m3 (Nat.le_refl _))
      have HB3 := Lib.hid hB3
      clear m3 hB2 hB3
      go_wp2_with fail
      go_roundg (L.length - (j + 1))
      case measure => have := HJ.out; have := HLT.out; omega
      case rel => exact ⟨j + 1, by go_num, by have := HLT.out; omega, by rw [bodyN_take HX.out]; exact HB3.out, M.out⟩
    · obtain rfl : j = L.length := by omega
      rw [List.take_length] at hB
      have hlt2 : ∀ x ∈ bodyN (lbs L), x < 256 := by
        intro x hx
        have h1 : x ∈ joinN (lbs L) := by rw [joinN_body]; exact List.mem_append_left _ hx
        refine join_lt ?_ (lbs_lt L) x h1
        intro l hl
        obtain ⟨s, hs, rfl⟩ := List.mem_map.1 hl
        rw [bys_length]
        exact HO.out s hs
      have HLT2 := Lib.hid hlt2
      clear hj hm hlt hlt2
      go_wp2_with fail
      refine (bstring_any w.heap.size w.heap.size _ HLT2.out _ hB hsz).mono ?_
      rintro e w2 ⟨rfl, m2⟩
      replace M := Lib.hid (M.out.above m2 (Nat.le_refl _))
      clear m2
      have hms : (mkS (bodyN (lbs L))).size ≤ 1000000000 := by rw [mkS_size]; exact HLB.out
      go_wp2_with fail
      go_ret
      refine ⟨?_, M.out⟩
      rw [joinN_body, mkS_append]
      rfl
end Go.Proofs.Ytafeepokcakmkaa
