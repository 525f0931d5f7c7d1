/- A block that is taken. Conditions: bytes below 256, numbers below 2^64. -/
import Derived.Test.YtjabpekndgnhmaaSipN
namespace Go.Proofs.Ytjabpekndgnhmaa
open Go.RowKit

def lst8 (l : Nat → Nat) : List Nat := [l 0, l 1, l 2, l 3, l 4, l 5, l 6, l 7]
def b8 (l : Nat → Nat) : Array Value := #[.int .u8 (l 0 : Nat), .int .u8 (l 1 : Nat), .int .u8 (l 2 : Nat), .int .u8 (l 3 : Nat), .int .u8 (l 4 : Nat), .int .u8 (l 5 : Nat), .int .u8 (l 6 : Nat), .int .u8 (l 7 : Nat)]
def pfx (l : Nat → Nat) (j : Nat) : Nat := num ((lst8 l).take j)
theorem num_snoc : ∀ (l : List Nat) (x : Nat), num (l ++ [x]) = num l + 256 ^ l.length * x
  | [], x => by simp [num]
  | b :: l, x => by
    have := num_snoc l x
    simp only [List.cons_append, num, this, List.length_cons, Nat.pow_succ, Nat.mul_add]
    rw [show 256 * (256 ^ l.length * x) = 256 ^ l.length * 256 * x by ac_rfl]
    omega
theorem lst8_get (l : Nat → Nat) {j : Nat} (hj : j < 8) : (lst8 l)[j]? = some (l j) := by
  rcases lt8 hj with rfl | rfl | rfl | rfl | rfl | rfl | rfl | rfl <;> rfl
theorem b8_get (l : Nat → Nat) {j : Nat} (hj : j < 8) : (b8 l)[j]? = some (.int .u8 (l j : Nat)) := by
  rcases lt8 hj with rfl | rfl | rfl | rfl | rfl | rfl | rfl | rfl <;> rfl
theorem lst8_lt {l : Nat → Nat} (hl : ∀ i, l i < 256) : ∀ x ∈ lst8 l, x < 256 := by
  intro x hx
  simp only [lst8, List.mem_cons, List.not_mem_nil, or_false] at hx
  rcases hx with rfl | rfl | rfl | rfl | rfl | rfl | rfl | rfl <;> exact hl _
theorem pfx_lt {l : Nat → Nat} (hl : ∀ i, l i < 256) {j : Nat} (hj : j ≤ 8) : pfx l j < 256 ^ j := by
  have h := num_lt ((lst8 l).take j) (fun x hx => lst8_lt hl x (List.mem_of_mem_take hx))
  have e : ((lst8 l).take j).length = j := by simp [lst8]; omega
  rwa [e] at h
theorem pfx_succ (l : Nat → Nat) {j : Nat} (hj : j < 8) : pfx l (j + 1) = pfx l j + 256 ^ j * l j := by
  unfold pfx
  rw [List.take_add_one, lst8_get l hj]
  show num (_ ++ [l j]) = _
  rw [num_snoc]
  congr 3
  simp [lst8]; omega
theorem pfx_step {l : Nat → Nat} (hl : ∀ i, l i < 256) {j : Nat} (hj : j < 8) :
    bits .or .u64 (pfx l j : Nat) (IntKind.u64.wrap ((l j : Nat) * 2 ^ (8 * j))) = (pfx l (j + 1) : Nat) := by
  have e1 : 2 ^ (8 * j) = 256 ^ j := by rw [Nat.pow_mul]
  have h1 := pfx_lt hl (Nat.le_of_lt hj)
  have h2 : pfx l (j + 1) < 256 ^ (j + 1) := pfx_lt hl hj
  have h3 : 256 ^ (j + 1) ≤ M64 := Nat.pow_le_pow_right (by decide) (show j + 1 ≤ 8 by omega)
  have h4 := pfx_succ l hj
  have e2 : IntKind.u64.wrap (((l j : Nat) : Int) * 2 ^ (8 * j)) = ((256 ^ j * l j : Nat) : Int) := by
    have e3 : ((l j : Nat) : Int) * 2 ^ (8 * j) = ((256 ^ j * l j : Nat) : Int) := by
      rw [Int.natCast_mul, ← e1, Int.natCast_pow, Int.mul_comm]; rfl
    rw [e3, IntKind.wrap_u64]
    have : 256 ^ j * l j < M64 := by omega
    unfold M64 at this
    omega
  rw [e2]
  have h5 : pfx l j < 18446744073709551616 := by unfold M64 at h3; omega
  have h6 : 256 ^ j * l j < 18446744073709551616 := by unfold M64 at h3; omega
  rw [u64_or_nat _ _ h5 h6, h4]
  congr 1
  rw [Nat.or_comm, ← e1, ← Nat.two_pow_add_eq_or_of_lt (by rw [e1]; exact h1), Nat.add_comm]

theorem run_index_ints {P : Program} (w : World) {t e n : Nat} {k : IntKind} (h : P.underlying t = some (.array n e)) (he : P.underlying e = some (.int k)) (hs : (P.info? e).map (·.size) = some 1) (cs : Array Value) (j : Nat) (hj : j < n) (v : Value) (hv : cs[j]? = some v) :
    (Instr.index t (.agg cs) (.int .i64 j)).run P w = .ok v w := by
  cases hi : P.info? e with
  | none => simp [hi] at hs
  | some i =>
    simp [hi] at hs
    have h0 : (0 : Int) ≤ (j : Int) ∧ (j : Int) < (n : Int) := by omega
    simp [Instr.index, run_underlying h, asIntOf, h0, go_sem, sizeOf, typeInfo, hi, hs, hj, hv, isAgg, run_underlying he]
def TakeRel (l : Nat → Nat) (w : World) (k : Nat) (m i : Value) (wr : World) : Prop :=
  ∃ j : Nat, i = .int .i64 j ∧ j + k = 8 ∧ m = .int .u64 (pfx l j : Nat) ∧ Kept w wr
set_option maxHeartbeats 2000000 in
set_option maxRecDepth 100000 in
theorem take_any (b : Nat) (h : HH) (l : Nat → Nat) (hl : ∀ i, l i < 256) (hv : h.v.Ok) (w : World) (hh : IsH w b h) :
    Calls Try.prog 21 #[.pointer (some ⟨b, 0, none⟩), .agg (b8 l)] w fun e w' => e = .returned (.tuple #[]) ∧ IsH w' b { h with v := blk h.v (num (lst8 l)) } ∧ Mod (Only b) w w' := by
  have X1 := xor_walk
  have HH0 := Lib.hid hh
  have HL := Lib.hid hl
  have HV := Lib.hid hv
  have HP := Lib.hid (fun j (hj : j < 8) => pfx_step (l := l) hl hj)
  clear hl hv
  show Calls Try.prog 21 #[.pointer (some ⟨b, 0, none⟩), .agg #[.int .u8 (l 0 : Nat), .int .u8 (l 1 : Nat), .int .u8 (l 2 : Nat), .int .u8 (l 3 : Nat), .int .u8 (l 4 : Nat), .int .u8 (l 5 : Nat), .int .u8 (l 6 : Nat), .int .u8 (l 7 : Nat)]] w _
  go_enter Try.func21, Try.ntmps21
  go_wp2_with fail
  go_loopg [4, 8] 8 (fun k m i wr => TakeRel l w k m i wr)
  case atStart => exact ⟨0, rfl, rfl, rfl, (Kept.refl _).alloc _⟩
  case round =>
    obtain ⟨j, rfl, hj, rfl, hm⟩ := hrel
    have HJ := Lib.hid hj
    have HM := Lib.hid hm
    have hjl : j ≤ 8 := by omega
    have HH1 := Lib.hid (hh.mod hm (fun e => e))
    clear hj hm
    by_cases hlt : j < 8
    · have HL2 := Lib.hid hlt
      have hlt' : (j : Int) < 8 := by omega
      have hg : (#[.int .u8 (l 0 : Nat), .int .u8 (l 1 : Nat), .int .u8 (l 2 : Nat), .int .u8 (l 3 : Nat), .int .u8 (l 4 : Nat), .int .u8 (l 5 : Nat), .int .u8 (l 6 : Nat), .int .u8 (l 7 : Nat)] : Array Value)[j]? = some (.int .u8 (l j : Nat)) := b8_get l hlt
      have hc := HL.out j
      have hp := HP.out j hlt
      go_show
      go_wp2_with fail
      rw [run_index_ints (P := Try.prog) (n := 8) (k := .u8) (e := 5) _ (by kernel_rfl) (by kernel_rfl) (by kernel_rfl) _ j hlt _ hg]
      go_wp2_with fail
      go_roundg (8 - (j + 1))
      case measure => have := HJ.out; have := HL2.out; omega
      case rel => exact ⟨j + 1, by go_num, by have := HL2.out; omega, rfl, HM.out⟩
    · obtain rfl : j = 8 := by omega
      have e8 : pfx l 8 = num (lst8 l) := rfl
      rw [e8]
      have hN : num (lst8 l) < M64 := num_lt8 (lst8_lt HL.out) (Nat.le_refl 8)
      generalize hNN : num (lst8 l) = N at hN
      have HN := Lib.hid hNN
      have hhr := HH1.out
      obtain ⟨q1, q2, q3, q4⟩ := HV.out
      have x1 : wr.cell? ⟨b, 1, none⟩ = some (.int .u64 h.v.a) := Blk.cell hhr 1
      have x4 : wr.cell? ⟨b, 4, none⟩ = some (.int .u64 h.v.d) := Blk.cell hhr 4
      have u4 := Blk.frozen hhr 4
      clear hNN e8 hhr
      go_show
      go_wp2_with fail
      go_region
      go_wp2_with fail
      have g1 := HH1.out.set 4 (.int .u64 (xorM h.v.d N : Nat)) { h with v := { h.v with d := xorM h.v.d N } } rfl
      have ok1 : ({ h.v with d := xorM h.v.d N } : V4).Ok := ⟨q1, q2, q3, xor_lt q4 hN⟩
      have ok2 : (rnds 2 { h.v with d := xorM h.v.d N }).Ok := rnds_ok 2 _ ok1
      refine (rounds_any b { h with v := { h.v with d := xorM h.v.d N } } 2 (by omega) ok1 _ g1.drew).mono ?_
      rintro e w2 ⟨rfl, hh2, m2⟩
      have M2 := Lib.hid m2
      generalize hvv : rnds 2 { h.v with d := xorM h.v.d N } = V at hh2 ok2
      have HVV := Lib.hid hvv
      have HH2 := Lib.hid hh2
      obtain ⟨a, b1, c, d⟩ := V
      obtain ⟨r1, r2, r3, r4⟩ := ok2
      have x1 : w2.cell? ⟨b, 1, none⟩ = some (.int .u64 a) := Blk.cell hh2 1
      have u1 := Blk.frozen hh2 1
      clear g1 ok1 m2 hvv hh2
      go_wp2_with fail
      go_region
      go_end0
      refine ⟨rfl, ?_, ?_⟩
      · have p := HH2.out.set 1 (.int .u64 (xorM a N : Nat)) { h with v := ⟨xorM a N, b1, c, d⟩ } rfl
        have e : blk h.v (num (lst8 l)) = ⟨xorM a N, b1, c, d⟩ := by
          rw [HN.out]
          have hv2 := HVV.out
          show V4.mk _ _ _ _ = _
          have e0 : rndO theOps (rndO theOps { h.v with d := xorM h.v.d N }) = ⟨a, b1, c, d⟩ := hv2
          simp only [theOps] at e0 ⊢
          rw [e0]
        rw [e]
        exact p.drew
      · exact ((((HM.out.mono (fun _ _ e => e.elim)).at _ _).drew.then M2.out).at _ _).drew
end Go.Proofs.Ytjabpekndgnhmaa
