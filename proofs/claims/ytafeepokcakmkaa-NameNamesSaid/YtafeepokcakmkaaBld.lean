/- A strings.Builder of the call's own: WriteByte, WriteString, String. Conditions: at most 2^47 bytes. -/
import Derived.Test.YtafeepokcakmkaaNamB
import Derived.Test.YtafeepokcakmkaaByt
import Derived.Test.YtafeepokcakmkaaShelf
import Derived.Lib.Walk
namespace Go.Proofs.Ytafeepokcakmkaa
open Go.RowKit

/-- Nothing below B has turned. -/
abbrev Above (B : Nat) (w w' : World) : Prop := Mod (fun k => B ≤ k) w w'
theorem Above.of_below {B : Nat} {w w' : World} (h : Below B w w') : Above B w w' := ⟨h.os, h.output, h.size, fun i _ hn => h.block i (by omega)⟩
theorem Kept.above {W w w' : World} {B : Nat} (h : Kept W w) (k : Above B w w') (hB : W.heap.size ≤ B) : Kept W w' := Mod.trans h k fun i hi e => by omega
/-- The builder in block b, one of those from B on, holds the bytes l. -/
def Bld (w : World) (B b : Nat) (l : List Nat) : Prop := Lib.IsBuilder 59 5 B b (u8s l) w
def BldU (w : World) (B b : Nat) (l : List Nat) : Prop := Lib.BuilderAt 59 5 B b (.pointer (some ⟨b, 0, none⟩)) (u8s l) w
theorem BldU.bld {w : World} {B b : Nat} {l : List Nat} (h : BldU w B b l) : Bld w B b l := .inr h
theorem Bld.new (w : World) : Bld (w.alloc (.cells #[.pointer none, .slice none 0 0] 59)) w.heap.size w.heap.size [] := Lib.fresh_isBuilder _ _ w
theorem bat_kept {T e B b : Nat} {p : Value} {bs : List Value} {w w' : World} (h : Lib.BuilderAt T e B b p bs w) (hm : Kept w w') : Lib.BuilderAt T e B b p bs w' := by
  have hl := h.lt
  obtain ⟨h1, v, h2, h3, h4⟩ := h
  exact ⟨h1, v, (hm.block b hl (fun e => e)).trans h2, own_kept h3 hm, h4⟩
theorem Bld.kept {w w' : World} {B b : Nat} {l : List Nat} (h : Bld w B b l) (hm : Kept w w') : Bld w' B b l := by
  rcases h with h | h
  · exact .inl (bat_kept h hm)
  · exact .inr (bat_kept h hm)
theorem copyCheck_any (B b : Nat) (l : List Nat) (w : World) (h : Bld w B b l) :
    Calls Try.prog 61 #[.pointer (some ⟨b, 0, none⟩)] w fun e w' => e = .returned (.tuple #[]) ∧ BldU w' B b l ∧ Above B w w' := by
  have hj : (Try.prog.info? 59).map (·.size) = some 2 := by kernel_rfl
  obtain ⟨j, hj, hjs⟩ := Option.map_eq_some_iff.1 hj
  rcases h with h | h
  · have c0 := h.cell0
    have f0 := h.frozen0
    have hsh := h.shape
    have HU := Lib.hid (show BldU _ B b l from h.used (.pointer (some ⟨b, 0, none⟩)))
    have HB := Lib.hid h.1
    have r1 := Lib.run_to_unsafe (P := Try.prog) (src := 57) (dst := 73) (t := 59) w ⟨b, 0, none⟩ (by kernel_rfl) (by kernel_rfl) hj (by rw [hjs]; decide) hsh (Nat.zero_lt_succ 1)
    have r2 := Lib.run_from_unsafe (P := Try.prog) (src := 73) (dst := 57) (u := 59) w ⟨b, 0, none⟩ (by kernel_rfl) (by kernel_rfl) hj hsh (by kernel_rfl)
    have r3 := fun w => Lib.run_neq_ptr_same (P := Try.prog) (tp := 57) (te := 59) w ⟨b, 0, none⟩ (by kernel_rfl) hj
    clear hsh h
    go_enter Try.func61, Try.ntmps61
    go_wp2_with fail
    rw [run_callFunc_extern Try.func65 (by kernel_rfl) (by kernel_rfl) (by kernel_rfl) (e := Extern.AbiNoEscape.same) (by kernel_rfl)]
    rw [Lib.run_noEscape]
    simp only [Result.andThen]
    rw [Oper.upon_value]
    go_wp2_with fail
    go_end0
    exact ⟨rfl, HU.out, (Mod.refl _ _).setCell (fun _ => HB.out) _⟩
  · have c0 := h.cell0
    have r3 := fun w => Lib.run_neq_ptr_same (P := Try.prog) (tp := 57) (te := 59) w ⟨b, 0, none⟩ (by kernel_rfl) hj
    have HU := Lib.hid (show BldU w B b l from h)
    clear h
    go_enter Try.func61, Try.ntmps61
    go_wp2_with fail
    go_end0
    exact ⟨rfl, HU.out, Mod.refl _ _⟩
theorem elem_u8 : Elem Try.prog 35 5 1 1 := ⟨by kernel_rfl, by kernel_rfl, by decide, by decide⟩
theorem BldU.parts {w : World} {B b : Nat} {l : List Nat} (h : BldU w B b l) : B ≤ b ∧ ∃ v, Blk w b 59 #[.pointer (some ⟨b, 0, none⟩), v] ∧ w.ownsRow B 5 1 v l.length (u8s l) ∧ v.ownBlock ≠ some b := by
  obtain ⟨hB, v, h1, h2, h3⟩ := h
  rw [u8s_length] at h2
  exact ⟨hB, v, h1, h2, h3⟩
theorem BldU.put {w : World} {B b : Nat} {v v' : Value} {l : List Nat} (hB : B ≤ b) (hb : Blk w b 59 #[.pointer (some ⟨b, 0, none⟩), v]) (hown : w.ownsRow B 5 1 v' l.length (u8s l)) : BldU (w.setCell ⟨b, 1, none⟩ v') B b l :=
  Lib.BuilderAt.put hB hb (by rw [u8s_length]; exact hown) (by decide)
set_option maxHeartbeats 1000000 in
theorem wbyte_any (B b : Nat) (l : List Nat) (c : Int) (x : Nat) (hx : c = x) (w : World) (h : Bld w B b l) (hlen : l.length + 1 ≤ 140737488355328) (hBw : B ≤ w.heap.size) :
    Calls Try.prog 53 #[.pointer (some ⟨b, 0, none⟩), .int .u8 c] w fun e w' => e = .returned .nilIface ∧ Bld w' B b (l ++ [x]) ∧ Above B w w' := by
  subst hx
  have HL := Lib.hid hlen
  go_enter Try.func53, Try.ntmps53
  go_wp2_with fail
  refine (copyCheck_any B b l _ h).mono ?_
  rintro e w1 ⟨rfl, h1, m1⟩
  obtain ⟨hB, v, hbk, hown, hne⟩ := h1.parts
  have c0 := hbk.cell 0
  have c1 := hbk.cell 1
  simp only [List.getElem?_toArray, List.getElem?_cons_succ, List.getElem?_cons_zero] at c0 c1
  have f1 := hbk.frozen 1
  have M := Lib.hid m1
  have HB := Lib.hid hB
  have HK := Lib.hid hbk
  have HN := Lib.hid hne
  have hsz : B ≤ w1.heap.size := Nat.le_trans hBw m1.size
  have HLT := Lib.hid hown.lt
  clear m1 hbk hne h1 h hB
  go_wp2_with (refine wpList_pushS 35 5 1 1 13 elem_u8 (.tmp 12) (.tmp 11) rfl rfl rfl rfl rfl (by simp) (.int .u8 (x : Int)) rfl rfl (by simp [Value.cells, Value.oneCell']) B v _ _ rfl hown (by unfold maxLen; have := HL.out; omega) (by have := HL.out; omega) hsz ?_; intro g cap w2 hown1 hm1 hg; have hb2 := HK.out.mod hm1 (fun e => HN.out e); have d1 := hb2.cell 1; have f2 := hb2.frozen 1; simp only [List.getElem?_toArray, List.getElem?_cons_succ, List.getElem?_cons_zero] at d1)
  go_ret
  refine ⟨rfl, BldU.bld (BldU.put HB.out hb2 ?_), (Mod.then M.out (Mod.mono hm1 fun i _ e => (HLT.out i e).1)).setCell (fun _ => HB.out) _⟩
  simpa [u8s, Value.cells] using hown1
theorem strCells_u8 (s : ByteArray) : Lib.strCells s = u8s (bys s) := by
  unfold Lib.strCells u8s bys
  rw [List.map_map]
  rfl
theorem own_any {w : World} {base e size n : Nat} {v : Value} {xs : List Value} (h : w.ownsRow base e size v n xs) : ∃ A c, v = .slice A n c := own_form h
set_option maxHeartbeats 1000000 in
theorem wstr_any (B b : Nat) (l : List Nat) (s : ByteArray) (w : World) (h : Bld w B b l) (hlen : l.length + s.size ≤ 140737488355328) (hBw : B ≤ w.heap.size) :
    Calls Try.prog 51 #[.pointer (some ⟨b, 0, none⟩), .string s] w fun e w' => e = .returned (.tuple #[.int .i64 s.size, .nilIface]) ∧ Bld w' B b (l ++ bys s) ∧ Above B w w' := by
  have HL := Lib.hid hlen
  obtain ⟨i0, z0, hi, hz, hs1, hb1, _⟩ := elem_u8.parts
  have hz' : i0.zero = some (.int .u8 0) := by
    have h : (Try.prog.info? 5).bind (·.zero) = some (.int .u8 0) := by kernel_rfl
    rw [hi] at h
    exact h
  have HI := Lib.hid hi
  have HZ := Lib.hid hz'
  have HS := Lib.hid hs1
  have HBY := Lib.hid hb1
  clear hi hz hs1 hb1 hz'
  have hs63 : s.size ≤ 140737488355328 := by omega
  go_enter Try.func51, Try.ntmps51
  go_wp2_with fail
  refine (copyCheck_any B b l _ h).mono ?_
  rintro e w1 ⟨rfl, h1, m1⟩
  obtain ⟨hB, v, hbk, hown, hne⟩ := h1.parts
  have c0 := hbk.cell 0
  have c1 := hbk.cell 1
  simp only [List.getElem?_toArray, List.getElem?_cons_succ, List.getElem?_cons_zero] at c0 c1
  have f1 := hbk.frozen 1
  have M := Lib.hid m1
  have HB := Lib.hid hB
  have HK := Lib.hid hbk
  have HN := Lib.hid hne
  have hsz : B ≤ w1.heap.size := Nat.le_trans hBw m1.size
  have HLT := Lib.hid hown.lt
  clear m1 hbk hne h1 h hB
  go_wp2_with (refine Lib.wpList_append_own_string _ rfl (.tmp 12) (.tmp 13) 35 9 rfl B 5 i0 Try.underlying35 Try.underlying9 HI.out HZ.out HS.out HBY.out v _ _ rfl hown s rfl (by unfold maxLen; have := HL.out; omega) HL.out hsz ?_; intro v' w2 hown1 hg1 _; have hm1 : Mod (fun k => v.ownBlock = some k) w1 w2 := Mod.of_grown hg1 (fun k hk => hk); obtain ⟨A2, c2, rfl⟩ := own_any hown1; have hb2 := HK.out.mod hm1 (fun e => HN.out e); have d1 := hb2.cell 1; have f2 := hb2.frozen 1; simp only [List.getElem?_toArray, List.getElem?_cons_succ, List.getElem?_cons_zero] at d1)
  refine bodyPost_ret (v := .tuple #[.int .i64 s.size, .nilIface]) (by simp [results, Try.results51, go_sem]) rfl ⟨rfl, BldU.bld (BldU.put HB.out hb2 ?_), (Mod.then M.out (Mod.mono hm1 fun i _ e => (HLT.out i e).1)).setCell (fun _ => HB.out) _⟩
  rw [List.length_append, bys_length]
  rw [strCells_u8] at hown1
  simpa [u8s] using hown1
theorem byteCells_u8 (l : List Nat) (h : ∀ x ∈ l, x < 256) : Lib.byteCells (l.map UInt8.ofNat) = u8s l := by
  unfold Lib.byteCells u8s
  rw [List.map_map]
  apply List.map_congr_left
  intro x hx
  have := h x hx
  simp only [Function.comp, UInt8.toNat_ofNat']
  rw [Nat.mod_eq_of_lt (by omega)]
theorem bstring_any (B b : Nat) (l : List Nat) (hl : ∀ x ∈ l, x < 256) (w : World) (h : Bld w B b l) (hBw : B ≤ w.heap.size) :
    Calls Try.prog 54 #[.pointer (some ⟨b, 0, none⟩)] w fun e w' => e = .returned (.string (mkS l)) ∧ Above B w w' := by
  unfold Bld at h
  rw [← byteCells_u8 l hl] at h
  refine (Try.Builder_String_any B b _ w h hBw).mono ?_
  rintro e w' ⟨rfl, hb⟩
  exact ⟨rfl, Above.of_below hb⟩
end Go.Proofs.Ytafeepokcakmkaa
