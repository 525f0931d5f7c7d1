/- The hash's sum. Conditions: fewer than 2^62 bytes in all. -/
import Derived.Test.YtjabpekndgnhmaaSipX
namespace Go.Proofs.Ytjabpekndgnhmaa
open Go.RowKit

def zb8 : Array Value := #[.int .u8 0, .int .u8 0, .int .u8 0, .int .u8 0, .int .u8 0, .int .u8 0, .int .u8 0, .int .u8 0]
def lefts (h : HH) (m : Nat) : List Value := ((List.range m).map fun i => (.int .u8 (h.left i : Nat) : Value))
def cutL (f : Nat → Nat) (m : Nat) : Nat → Nat := fun i => if i < m then f i else 0
theorem lefts_splice (r : HH) {m : Nat} (hm : m < 8) : (splice zb8.toList 0 (lefts r m)).toArray = b8 (cutL r.left m) := by
  rcases lt8 hm with rfl | rfl | rfl | rfl | rfl | rfl | rfl | rfl <;> rfl
theorem lefts_length (r : HH) (m : Nat) : (lefts r m).length = m := by simp [lefts]
theorem lefts_get (r : HH) {m j : Nat} {v : Value} (h : (lefts r m)[j]? = some v) : j < m ∧ v = .int .u8 (r.left j : Nat) := by
  unfold lefts at h
  rw [List.getElem?_map, Option.map_eq_some_iff] at h
  obtain ⟨x, hx, rfl⟩ := h
  obtain ⟨hj, hx⟩ := List.getElem?_eq_some_iff.mp hx
  simp only [List.length_range] at hj
  simp at hx
  exact ⟨hj, by rw [hx]⟩
theorem b8_cells {w : World} {g t : Nat} {l : Nat → Nat} (h : Blk w g t (b8 l)) : (w.cell? ⟨g, 0, none⟩ = some (.int .u8 (l 0 : Nat)) ∧ w.cell? ⟨g, 1, none⟩ = some (.int .u8 (l 1 : Nat)) ∧ w.cell? ⟨g, 2, none⟩ = some (.int .u8 (l 2 : Nat)) ∧ w.cell? ⟨g, 3, none⟩ = some (.int .u8 (l 3 : Nat))) ∧ w.cell? ⟨g, 4, none⟩ = some (.int .u8 (l 4 : Nat)) ∧ w.cell? ⟨g, 5, none⟩ = some (.int .u8 (l 5 : Nat)) ∧ w.cell? ⟨g, 6, none⟩ = some (.int .u8 (l 6 : Nat)) ∧ w.cell? ⟨g, 7, none⟩ = some (.int .u8 (l 7 : Nat)) :=
  ⟨⟨Blk.cell h 0, Blk.cell h 1, Blk.cell h 2, Blk.cell h 3⟩, Blk.cell h 4, Blk.cell h 5, Blk.cell h 6, Blk.cell h 7⟩
set_option maxHeartbeats 2000000 in
set_option maxRecDepth 100000 in
theorem sum_any (b : Nat) (h : HH) (hk : h.Ok) (hn : h.n < 2 ^ 62) (w : World) (hh : IsH w b h) :
    Calls Try.prog 13 #[.pointer (some ⟨b, 0, none⟩)] w fun e w' => e = .returned (.int .u64 (sumH h : Nat)) ∧ Kept w w' := by
  obtain ⟨⟨x0, x1, x2, x3, x4, x13⟩, x5, x6, x7, x8, x9, x10, x11, x12⟩ := hh.reads
  have X1 := xor_walk
  have HN := Lib.hid hn
  have HK := Lib.hid (readyH_ok hk)
  have HN1 := Lib.hid (readyH_n h)
  clear hn hk
  go_enter Try.func13, Try.ntmps13
  go_wp2_with fail
  refine (ready_any w.heap.size h _ (Blk.new _ _ _)).mono ?_
  rintro e w1 ⟨rfl, hh1, m1⟩
  have M1 := Lib.hid (show Kept w w1 from ((Kept.refl _).alloc _).only m1 (Nat.le_refl _))
  have hh1' : IsH w1 w.heap.size (readyH h) := hh1
  clear hh1 m1 x0 x1 x2 x3 x4 x5 x6 x7 x8 x9 x10 x11 x12 x13
  obtain ⟨r, hr⟩ : ∃ r, r = readyH h := ⟨_, rfl⟩
  have HR := Lib.hid hr
  rw [← hr] at hh1' HK HN1
  clear hr
  have hlt := Blk.lt hh1'
  obtain ⟨⟨x0, x1, x2, x3, x4, x13⟩, x5, x6, x7, x8, x9, x10, x11, x12⟩ := hh1'.reads
  have H1 := Lib.hid hh1'
  have hr62 : r.n < 2 ^ 62 := by rw [HN1.out]; exact HN.out
  clear hh1'
  obtain ⟨m, hm⟩ : ∃ m, m = r.n % 8 := ⟨_, rfl⟩
  have hat : (r.n : Int) % 8 = (m : Int) := by omega
  have hm8 : m < 8 := by omega
  have hatt : (r.n : Int).tmod 8 = (m : Int) := by rw [Int.tmod_eq_emod_of_nonneg (by omega)]; exact hat
  have hm8i : (m : Int) ≤ 8 := by omega
  have hm8n : m ≤ 8 := by omega
  have HMM := Lib.hid hm
  clear hm
  go_wp2_with fail
  refine at_world (P := Code.wp _ _ _ _) (fun w' => IsH w' w.heap.size r ∧ (∃ t, Blk w' w1.heap.size t zb8) ∧ Kept w w') ⟨H1.out.mod ((Kept.refl _).alloc _) (fun e => e), ⟨_, Blk.new _ _ _⟩, M1.out.alloc _⟩ ?_
  clear x0 x1 x2 x3 x4 x13 x5 x6 x7 x8 x9 x10 x11 x12
  rintro w2 ⟨hh2, ⟨t2, hb2⟩, m2⟩
  obtain ⟨⟨x0, x1, x2, x3, x4, x13⟩, -⟩ := hh2.reads
  have H2 := Lib.hid hh2
  have B2 := Lib.hid hb2
  have M2 := Lib.hid m2
  clear hh2 hb2 m2
  refine region_tail 6 (by kernel_rfl) (by kernel_rfl) ?_
  simp only [List.take_succ_cons, List.take_zero, List.drop_succ_cons, List.drop_zero]
  repeat still_step
  refine wpStill_nil ?_
  refine wpList_copy_splice rfl (.tmp 11) (.tmp 16) 34 34 rfl 5 (by kernel_rfl) (by kernel_rfl) (some ⟨w1.heap.size, 0, none⟩) (some ⟨w.heap.size, 5, none⟩) 8 8 m 8 rfl rfl w1.heap.size 0 zb8.toList t2 B2.out (lefts r m) ?_ ?_ ?_ ?_ w1.heap.size w2.drew (Below.refl _ _) (Nat.le_refl _) ?_
  · rw [lefts_length]; exact (Nat.min_eq_left hm8n).symm
  · intro _
    refine ⟨rfl, _, rfl, fun j v hv => ?_⟩
    obtain ⟨hj, rfl⟩ := lefts_get r hv
    rw [add_at]
    show w2.cell? ⟨w.heap.size, 5 + j, none⟩ = _
    rw [Blk.cell H2.out (5 + j)]
    exact HH.get_left r (by omega)
  · rw [lefts_length]; show 0 + m ≤ 8; omega
  · intro v hv
    simp only [lefts, List.mem_map] at hv
    obtain ⟨i, _, rfl⟩ := hv
    rfl
  intro w3 hg3 hb3
  have hh3 : IsH w3 w.heap.size r := by
    have h2 := H2.out
    unfold IsH Blk at h2 ⊢
    rw [hb3.block _ hlt]; exact h2
  have hm3 : Kept w w3 := ⟨hb3.os.trans M2.out.os, hb3.output.trans M2.out.output, Nat.le_trans M2.out.size hb3.size, fun i hi hn => (hb3.block i (Nat.lt_of_lt_of_le hi M1.out.size)).trans (M2.out.block i hi hn)⟩
  have hq3 : Blk w3 w1.heap.size t2 (b8 (cutL r.left m)) := by
    have := hg3.out
    rwa [lefts_splice r hm8] at this
  have H3 := Lib.hid hh3
  have M3 := Lib.hid hm3
  have Q3 := Lib.hid hq3
  obtain ⟨⟨y0, y1, y2, y3⟩, y4, y5, y6, y7⟩ := b8_cells hq3
  have zy7 := Blk.frozen hq3 7
  clear x0 x1 x2 x3 x4 x13
  obtain ⟨⟨x0, x1, x2, x3, x4, x13⟩, -⟩ := hh3.reads
  obtain ⟨c, hc⟩ : ∃ c, c = r.n % 256 := ⟨_, rfl⟩
  have hcc : (r.n : Int) % 256 = (c : Int) := by omega
  have hc256 : c < 256 := by omega
  have HC := Lib.hid hc
  clear hm3 hq3 hg3 hb3 hh3 hc
  go_wp2_with fail
  have hlt8 : ∀ i, upd (cutL r.left m) 7 c i < 256 := by
    refine upd_lt (fun i => ?_) hc256
    unfold cutL
    split
    · exact HK.out.2 i
    · omega
  have hE : upd (cutL r.left m) 7 c = lastH r := by
    funext i
    have e1 := HMM.out
    have e2 := HC.out
    unfold upd cutL lastH
    rw [e1, e2]
  refine (take_any w.heap.size r (upd (cutL r.left m) 7 c) hlt8 HK.out.1 _ (H3.out.mod ((Mod.refl (Only w1.heap.size) _).at 7 _) (fun e => by have e : w.heap.size = w1.heap.size := e; omega))).mono ?_
  rintro e w4 ⟨rfl, hh4, m4⟩
  rw [hE] at hh4
  have okB : (blk r.v (num (lst8 (lastH r)))).Ok := blk_ok HK.out.1 (num_lt8 (lst8_lt (hE ▸ hlt8)) (Nat.le_refl 8))
  have hM4 : Kept w w4 := ((M3.out.only ((Mod.refl (Only w1.heap.size) _).at 7 _) M1.out.size)).only m4 (Nat.le_refl _)
  have M4 := Lib.hid hM4
  clear hlt8 hE m4 hM4 x0 x1 x2 x3 x4 x13 y0 y1 y2 y3 y4 y5 y6 y7 zy7
  generalize hV : blk r.v (num (lst8 (lastH r))) = V at hh4 okB
  have HV := Lib.hid hV
  obtain ⟨⟨x0, x1, x2, x3, x4, x13⟩, -⟩ := hh4.reads
  have u3 := Blk.frozen hh4 3
  have H4 := Lib.hid hh4
  obtain ⟨a, b1, cc, d⟩ := V
  obtain ⟨o1, o2, o3, o4⟩ := okB
  have X2 : bits .xor .u64 (cc : Int) 255 = (xorM cc 255 : Nat) := X1 cc 255 o3 (by decide)
  have o3' := xor_lt o3 (show 255 < M64 by decide)
  clear hV hh4
  go_wp2_with fail
  have g5 := H4.out.set 3 (.int .u64 (xorM cc 255 : Nat)) { r with v := ⟨a, b1, xorM cc 255, d⟩ } rfl
  have ok4 := rnds_ok 4 ⟨a, b1, xorM cc 255, d⟩ ⟨o1, o2, o3', o4⟩
  refine (rounds_any w.heap.size { r with v := ⟨a, b1, xorM cc 255, d⟩ } 4 (by omega) ⟨o1, o2, o3', o4⟩ _ g5).mono ?_
  rintro e w5 ⟨rfl, hh5, m5⟩
  have hM5 : Kept w w5 := (M4.out.only ((Mod.refl (Only w.heap.size) _).at 3 _) (Nat.le_refl _)).only m5 (Nat.le_refl _)
  have M5 := Lib.hid hM5
  clear m5 hM5 g5 x0 x1 x2 x3 x4 x13
  generalize hU : rnds 4 ⟨a, b1, xorM cc 255, d⟩ = U at hh5 ok4
  have HU := Lib.hid hU
  obtain ⟨⟨x0, x1, x2, x3, x4, x13⟩, -⟩ := hh5.reads
  clear hU hh5
  obtain ⟨p, q, s, t⟩ := U
  obtain ⟨p1, p2, p3, p4⟩ := ok4
  have p12 := xor_lt p1 p2
  have p123 := xor_lt p12 p3
  go_wp2_with fail
  go_ret
  refine ⟨?_, M5.out⟩
  have e : sumH h = xorM (xorM (xorM p q) s) t := by
    unfold sumH
    rw [← HR.out, HV.out]
    show fin4O theOps ⟨a, b1, cc, d⟩ = _
    have e5 : iter (rndO theOps) 4 ⟨a, b1, xorM cc 255, d⟩ = ⟨p, q, s, t⟩ := HU.out
    unfold fin4O
    simp only [theOps] at e5 ⊢
    rw [e5]
  rw [e]
  rfl
end Go.Proofs.Ytjabpekndgnhmaa
