/- The document's sum. Conditions: numbers below 2^64, a text below 2^61. -/
import Derived.Test.YtjabpekndgnhmaaSipQ
import Derived.Laws.IdiomStrings
namespace Go.Proofs.Ytjabpekndgnhmaa
open Go.RowKit

theorem bys_append (a b : ByteArray) : bys (a ++ b) = bys a ++ bys b := by
  simp [bys, ByteArray.data_append]
theorem bys_extract (t : ByteArray) (i j : Nat) : bys (t.extract i j) = ((bys t).drop i).take (j - i) := by
  unfold bys
  rw [ByteArray.data_extract, Array.toList_extract, List.extract_eq_take_drop, List.map_take, List.map_drop]
theorem round_to (v : V4) (h : v.Ok) (w : World) (X : Array Value) (hX : X = v.vals) :
    Calls Try.prog 18 #[.agg X] w fun e w' => ∃ a b c d : Nat, e = .returned (.agg #[.int .u64 a, .int .u64 b, .int .u64 c, .int .u64 d]) ∧ rnd v = ⟨a, b, c, d⟩ ∧ Kept w w' := by
  subst hX
  refine (round_any v h w).mono ?_
  rintro e w' ⟨rfl, h2⟩
  exact ⟨_, _, _, _, rfl, rfl, h2⟩
theorem conv_one {P : Program} (w : World) (src dst e t : TypeId) (x : Int) (c : Nat) (hx : x = c) (hc : c < 256) (hs : P.underlying src = some (.slice e)) (he : P.underlying e = some (.int .u8)) (hd : P.underlying dst = some .string) :
    (convert src dst (.slice (some ⟨w.heap.size, 0, none⟩) 1 1)).run P (w.alloc (.cells #[.int .u8 x] t)) = .ok (.string ⟨#[UInt8.ofNat c]⟩) (w.alloc (.cells #[.int .u8 x] t)) := by
  refine run_convert_bytes_back _ src dst e ⟨w.heap.size, 0, none⟩ 1 [UInt8.ofNat c] hs he hd ?_
  intro j hj
  obtain rfl : j = 0 := by simp at hj; omega
  rw [add_at, Blk.cell (Blk.new w t _)]
  subst hx
  simp [UInt8.toNat_ofNat', Nat.mod_eq_of_lt hc]
theorem xorM_comm (a b : Nat) : xorM a b = xorM b a := by rw [xorM_eq]; exact Nat.xor_comm a b
theorem start_comm (k0 k1 : Nat) : start k0 k1 = ⟨xorM k0 sc0, xorM k1 sc1, xorM k0 sc2, xorM k1 sc3⟩ := by
  show V4.mk (xorM sc0 k0) (xorM sc1 k1) (xorM sc2 k0) (xorM sc3 k1) = _
  rw [xorM_comm sc0, xorM_comm sc1, xorM_comm sc2, xorM_comm sc3]
theorem absorb_ok {v : V4} (h : v.Ok) {l : List Nat} (hl : ∀ x ∈ l, x < 256) : ∀ n : Nat, (absorb n v l).Ok
  | 0 => h
  | n + 1 => by
    unfold absorb
    rw [absorb_succ]
    exact blk_ok (absorb_ok h hl n) (num_lt8 (fun x hx => hl x (List.mem_of_mem_drop (List.mem_of_mem_take hx))) (by simp; omega))
def BlkRel (k0 k1 : Nat) (T : ByteArray) (g Q : Nat) (w : World) (k : Nat) (i : Value) (wr : World) : Prop :=
  ∃ j : Nat, i = .int .i64 (8 * j : Nat) ∧ j + k = Q ∧ (∃ a b c d : Nat, absorb j (start k0 k1) (bys T) = ⟨a, b, c, d⟩ ∧ ∃ t, Blk wr g t #[.int .u64 a, .int .u64 b, .int .u64 c, .int .u64 d]) ∧ Kept w wr
theorem q4_cells {w : World} {g t a b c d : Nat} (h : Blk w g t #[.int .u64 a, .int .u64 b, .int .u64 c, .int .u64 d]) : (w.cell? ⟨g, 0, none⟩ = some (.int .u64 a) ∧ w.cell? ⟨g, 1, none⟩ = some (.int .u64 b) ∧ w.cell? ⟨g, 2, none⟩ = some (.int .u64 c) ∧ w.cell? ⟨g, 3, none⟩ = some (.int .u64 d)) ∧ w.frozen? ⟨g, 0, none⟩ = false ∧ w.frozen? ⟨g, 1, none⟩ = false ∧ w.frozen? ⟨g, 2, none⟩ = false ∧ w.frozen? ⟨g, 3, none⟩ = false :=
  ⟨⟨Blk.cell h 0, Blk.cell h 1, Blk.cell h 2, Blk.cell h 3⟩, Blk.frozen h 0, Blk.frozen h 1, Blk.frozen h 2, Blk.frozen h 3⟩
def PadRel (s : ByteArray) (k : Nat) (x : Value) (w w' : World) : Prop :=
  ∃ (j : Nat) (t : ByteArray), x = .string t ∧ j + k = 7 - s.size % 8 ∧ bys t = bys s ++ List.replicate j 0 ∧ w' = w
set_option maxHeartbeats 4000000 in
set_option maxRecDepth 100000 in
theorem refSum_any (k0 k1 : Nat) (s : ByteArray) (h0 : k0 < M64) (h1 : k1 < M64) (hs : s.size < 2 ^ 61) (w : World) :
    Calls Try.prog 10 #[.int .u64 k0, .int .u64 k1, .string s] w fun e w' => e = .returned (.int .u64 (sipOf k0 k1 (bys s) : Nat)) ∧ Kept w w' := by
  have X1 := xor_walk
  have HS := Lib.hid hs
  have hs63 : s.size < 2 ^ 63 := by omega
  have x0 : bits .xor .u64 (k0 : Int) 8317987319222330741 = (xorM k0 sc0 : Nat) := X1 k0 sc0 h0 sc0_lt
  have x1 : bits .xor .u64 (k1 : Int) 7237128888997146477 = (xorM k1 sc1 : Nat) := X1 k1 sc1 h1 sc1_lt
  have x2 : bits .xor .u64 (k0 : Int) 7816392313619706465 = (xorM k0 sc2 : Nat) := X1 k0 sc2 h0 sc2_lt
  have x3 : bits .xor .u64 (k1 : Int) 8387220255154660723 = (xorM k1 sc3 : Nat) := X1 k1 sc3 h1 sc3_lt
  clear X1
  go_enter Try.func10, Try.ntmps10
  go_wp2_with fail
  refine at_world (P := Code.wp _ _ _ _) (fun w' => (∃ t, Blk w' w.heap.size t #[.int .u64 (xorM k0 sc0 : Nat), .int .u64 (xorM k1 sc1 : Nat), .int .u64 (xorM k0 sc2 : Nat), .int .u64 (xorM k1 sc3 : Nat)]) ∧ Kept w w') ⟨⟨_, Blk.new _ _ _⟩, (Kept.refl _).alloc _⟩ ?_
  rintro w1 ⟨⟨t1, hb1⟩, hm1⟩
  have B1 := Lib.hid hb1
  have M1 := Lib.hid hm1
  clear hb1 hm1 x0 x1 x2 x3
  go_loopg [2] (7 - s.size % 8) (fun k x wr => PadRel s k x w1 wr)
  case atStart => exact ⟨0, s, rfl, by omega, by simp, rfl⟩
  case round =>
    obtain ⟨j, t, rfl, hj, ht, rfl⟩ := hrel
    have hts : t.size = s.size + j := by
      have := congrArg List.length ht
      simpa [bys_length] using this
    have HJ := Lib.hid hj
    have HT := Lib.hid ht
    have HTS := Lib.hid hts
    have ht63 : t.size < 2 ^ 63 := by have := HS.out; omega
    clear ht
    cases gk with
    | succ g2 =>
      have t7 : ((t.size : Int) % 8 == 7) = false := by
        have : t.size % 8 ≠ 7 := by omega
        simp; omega
      have ht63' : t.size < 2 ^ 62 := by have := HS.out; omega
      clear hj hts
      go_show
      go_wp2_with fail
      go_roundg g2
      case measure => omega
      case rel =>
        refine ⟨j + 1, _, rfl, by have := HJ.out; omega, ?_, rfl⟩
        rw [bys_append, HT.out, List.append_assoc, List.replicate_succ']
        rfl
    | zero =>
      have t7 : ((t.size : Int) % 8 == 7) = true := by
        have : t.size % 8 = 7 := by omega
        simp; omega
      obtain ⟨c, hc⟩ : ∃ c, c = s.size % 256 := ⟨_, rfl⟩
      have hcc : (s.size : Int) % 256 = (c : Int) := by omega
      have hc256 : c < 256 := by omega
      have HC := Lib.hid hc
      have ht63' : t.size < 2 ^ 62 := by have := HS.out; omega
      clear hj hts hc
      go_show
      go_wp2_with fail
      rw [conv_one (P := Try.prog) _ _ _ 5 _ _ c rfl hc256 (by kernel_rfl) (by kernel_rfl) (by kernel_rfl)]
      go_wp2_with fail
      obtain ⟨T, hT⟩ : ∃ T, T = t ++ ⟨#[UInt8.ofNat c]⟩ := ⟨_, rfl⟩
      rw [← hT]
      have hbT : bys T = bys s ++ List.replicate (7 - s.size % 8) 0 ++ [c] := by
        have hjj := HJ.out
        rw [hT, bys_append, HT.out, show j = 7 - s.size % 8 by omega]
        simp [bys, UInt8.toNat_ofNat', Nat.mod_eq_of_lt hc256]
      have HBT := Lib.hid hbT
      have hTs : T.size = 8 * (s.size / 8 + 1) := by
        have := congrArg List.length hbT
        simp [bys_length] at this
        omega
      obtain ⟨Q, hQ⟩ : ∃ Q, Q = s.size / 8 + 1 := ⟨_, rfl⟩
      rw [← hQ] at hTs
      have HQ := Lib.hid hQ
      have HTs := Lib.hid hTs
      have hQl : Q < 2 ^ 59 := by have := HS.out; omega
      have hst := start_comm k0 k1
      have HSO := Lib.hid (start_ok h0 h1)
      clear hT hbT hQ ht63 ht63' hs63 hcc t7
      go_loopg [9, 10] Q (fun k i m wr2 => BlkRel k0 k1 T w.heap.size Q w k i wr2)
      case atStart =>
        exact ⟨0, rfl, by omega, ⟨_, _, _, _, hst, t1, Blk.mod B1.out ((Kept.refl _).alloc _) (fun e => e)⟩, M1.out.alloc _⟩
      case round =>
        obtain ⟨i, rfl, hi, ⟨a, b, cc, d, hab, t2, hb2⟩, hm2⟩ := hrel
        have HI := Lib.hid hi
        have HAB := Lib.hid hab
        have HB2 := Lib.hid hb2
        have HM2 := Lib.hid hm2
        have hok := absorb_ok HSO.out (bys_lt T) i
        rw [hab] at hok
        obtain ⟨o1, o2, o3, o4⟩ := hok
        obtain ⟨⟨y0, y1, y2, y3⟩, z0, z1, z2, z3⟩ := q4_cells hb2
        have hgl : w.heap.size < wr.heap.size := Blk.lt hb2
        clear hb2 hab hm2
        by_cases hlt : i < Q
        · have HLT := Lib.hid hlt
          have g1 : ((8 * i : Nat) : Int) < (T.size : Int) := by omega
          have g2 : 8 * i + 8 ≤ T.size := by omega
          have g3 : ((8 * i : Nat) : Int) + 8 ≤ (T.size : Int) := by omega
          obtain ⟨p, hp⟩ : ∃ p, p = 8 * i := ⟨_, rfl⟩
          rw [← hp] at g1 g2 g3 ⊢
          have HP := Lib.hid hp
          have hpl : p < 2 ^ 62 := by omega
          have hsz : (T.extract p (p + 8)).size = 8 := by rw [ByteArray.size_extract]; omega
          have hext : bys (T.extract p (p + 8)) = ((bys T).drop (8 * i)).take 8 := by rw [bys_extract, hp]; congr 1; omega
          have HEX := Lib.hid hext
          have HSZ := Lib.hid hsz
          have hN : num (bys (T.extract p (p + 8))) < M64 := num_lt8 (bys_lt _) (by rw [bys_length, hsz]; exact Nat.le_refl 8)
          have NA := Lib.hid (fun w => number_any (T.extract p (p + 8)) hsz w)
          obtain ⟨N, hNN⟩ : ∃ N, N = num (bys (T.extract p (p + 8))) := ⟨_, rfl⟩
          rw [← hNN] at hN
          have HNN := Lib.hid hNN
          clear hp hlt hi hsz hext hNN hTs
          go_show
          go_wp2_with fail
          have X1 := xor_walk
          have o4' := xor_lt o4 hN
          refine (NA.out wr).mono ?_
          rintro e w2 ⟨rfl, rfl⟩
          rw [← HNN.out]
          go_wp2_with fail
          have hb3 : Blk (w2.setCell ⟨w.heap.size, 3, none⟩ (.int .u64 (xorM d N : Nat))) w.heap.size t2 #[.int .u64 a, .int .u64 b, .int .u64 cc, .int .u64 (xorM d N : Nat)] := Blk.set_ HB2.out 3 _
          refine (round_to ⟨a, b, cc, xorM d N⟩ ⟨o1, o2, o3, o4'⟩ _ _ rfl).mono ?_
          rintro e w3 ⟨a1, b1, c1, d1, rfl, hr1, hk1⟩
          have ok1 := rnd_ok (v := ⟨a, b, cc, xorM d N⟩) ⟨o1, o2, o3, o4'⟩
          rw [hr1] at ok1
          have hb4 := hb3.mod hk1 (fun e => e)
          have HB4 := Lib.hid hb4
          have M3 := Lib.hid (show Kept w w3 from (HM2.out.only ((Mod.refl (Only w.heap.size) _).at 3 _) (Nat.le_refl _)).then hk1)
          have HR1 := Lib.hid hr1
          clear hb3 hb4 hk1 hr1 y0 y1 y2 y3 z0 z1 z2 z3
          go_wp2_with fail
          refine (round_to ⟨a1, b1, c1, d1⟩ ok1 _ _ rfl).mono ?_
          rintro e w4 ⟨a2, b2, c2, d2, rfl, hr2, hk2⟩
          have ok2 := rnd_ok (v := ⟨a1, b1, c1, d1⟩) ok1
          rw [hr2] at ok2
          obtain ⟨p1, p2, p3, p4⟩ := ok2
          have hb5 := HB4.out.mod hk2 (fun e => e)
          have HB5 := Lib.hid hb5
          have M4 := Lib.hid (M3.out.then hk2)
          have HR2 := Lib.hid hr2
          obtain ⟨⟨y0, y1, y2, y3⟩, z0, z1, z2, z3⟩ := q4_cells hb5
          clear hb5 hk2 hr2
          go_wp2_with fail
          go_roundg (Q - (i + 1))
          case measure => have := HI.out; have := HLT.out; omega
          case rel =>
            refine ⟨i + 1, by have := HP.out; go_num, by have := HLT.out; omega, ⟨xorM a2 N, b2, c2, d2, ?_, t2, ?_⟩, ?_⟩
            · have e0 : absorb (i + 1) (start k0 k1) (bys T) = blk (absorb i (start k0 k1) (bys T)) N := by
                rw [HNN.out, HEX.out]
                exact absorb_succ _ _ _ _
              rw [e0, HAB.out]
              show V4.mk _ _ _ _ = _
              have r1 : rndO theOps ⟨a, b, cc, xorM d N⟩ = ⟨a1, b1, c1, d1⟩ := HR1.out
              have r2 : rndO theOps ⟨a1, b1, c1, d1⟩ = ⟨a2, b2, c2, d2⟩ := HR2.out
              simp only [theOps] at r1 r2 ⊢
              rw [r1, r2]
            · have s1 := Blk.set_ HB5.out 0 (.int .u64 a2)
              have s2 := s1.set_ 1 (.int .u64 b2)
              have s3 := s2.set_ 2 (.int .u64 c2)
              have s4 := s3.set_ 3 (.int .u64 d2)
              exact s4.set_ 0 (.int .u64 (xorM a2 N : Nat))
            · exact M4.out.only ((((((Mod.refl (Only w.heap.size) _).at 0 _).at 1 _).at 2 _).at 3 _).at 0 _) (Nat.le_refl _)
        · obtain rfl : i = Q := by omega
          have X1 := xor_walk
          have X2 : bits .xor .u64 (cc : Int) 255 = (xorM cc 255 : Nat) := X1 cc 255 o3 (by decide)
          have o3' := xor_lt o3 (show 255 < M64 by decide)
          have hFin : sipOf k0 k1 (bys s) = fin4O theOps ⟨a, b, cc, d⟩ := by
            have e1 : absorb i (start k0 k1) (bys T) = blk (stateOf k0 k1 (bys s)) (num (lastOf (bys s))) := by
              have hq : i = (bys s).length / 8 + 1 := by rw [bys_length]; exact HQ.out
              rw [hq, HBT.out]
              unfold absorb
              rw [absorb_succ, List.append_assoc, absorb_append _ _ _ _ _ (by omega)]
              show blk (stateOf k0 k1 (bys s)) _ = _
              congr 2
              have hlen : (tailOf (bys s)).length = s.size % 8 := by simp [tailOf, bys_length]; omega
              rw [List.drop_append_of_le_length (by omega)]
              have e2 : (bys s).drop (8 * ((bys s).length / 8)) = tailOf (bys s) := rfl
              rw [e2]
              unfold lastOf
              rw [hlen, HC.out, bys_length]
              rw [List.append_assoc]
              exact List.take_of_length_le (by simp [hlen]; omega)
            rw [HAB.out] at e1
            exact (congrArg (fin4O theOps) e1).symm
          have HFin := Lib.hid hFin
          clear hFin
          go_show
          go_wp2_with fail
          have hb3 : Blk (wr.setCell ⟨w.heap.size, 2, none⟩ (.int .u64 (xorM cc 255 : Nat))) w.heap.size t2 #[.int .u64 a, .int .u64 b, .int .u64 (xorM cc 255 : Nat), .int .u64 d] := Blk.set_ HB2.out 2 _
          refine (round_to ⟨a, b, xorM cc 255, d⟩ ⟨o1, o2, o3', o4⟩ _ _ rfl).mono ?_
          rintro e w3 ⟨a1, b1, c1, d1, rfl, hr1, hk1⟩
          have ok1 := rnd_ok (v := ⟨a, b, xorM cc 255, d⟩) ⟨o1, o2, o3', o4⟩
          rw [hr1] at ok1
          have hb4 := hb3.mod hk1 (fun e => e)
          have HB4 := Lib.hid hb4
          have M3 := Lib.hid (show Kept w w3 from (HM2.out.only ((Mod.refl (Only w.heap.size) _).at 2 _) (Nat.le_refl _)).then hk1)
          have HR1 := Lib.hid hr1
          clear hb3 hb4 hk1 hr1 y0 y1 y2 y3 z0 z1 z2 z3 X2
          go_wp2_with fail
          refine (round_to ⟨a1, b1, c1, d1⟩ ok1 _ _ rfl).mono ?_
          rintro e w4 ⟨a2, b2, c2, d2, rfl, hr2, hk2⟩
          have ok2 := rnd_ok (v := ⟨a1, b1, c1, d1⟩) ok1
          rw [hr2] at ok2
          have hb5 := HB4.out.mod hk2 (fun e => e)
          have HB5 := Lib.hid hb5
          have M4 := Lib.hid (M3.out.then hk2)
          have HR2 := Lib.hid hr2
          clear hb5 hk2 hr2
          go_wp2_with fail
          refine (round_to ⟨a2, b2, c2, d2⟩ ok2 _ _ rfl).mono ?_
          rintro e w5 ⟨a3, b3, c3, d3, rfl, hr3, hk3⟩
          have ok3 := rnd_ok (v := ⟨a2, b2, c2, d2⟩) ok2
          rw [hr3] at ok3
          have hb5 := HB5.out.mod hk3 (fun e => e)
          have HB6 := Lib.hid hb5
          have M5 := Lib.hid (M4.out.then hk3)
          have HR3 := Lib.hid hr3
          clear hb5 hk3 hr3
          go_wp2_with fail
          refine (round_to ⟨a3, b3, c3, d3⟩ ok3 _ _ rfl).mono ?_
          rintro e w6 ⟨a4, b4, c4, d4, rfl, hr4, hk4⟩
          have ok4 := rnd_ok (v := ⟨a3, b3, c3, d3⟩) ok3
          rw [hr4] at ok4
          have hb5 := HB6.out.mod hk4 (fun e => e)
          have HB7 := Lib.hid hb5
          have M6 := Lib.hid (M5.out.then hk4)
          have HR4 := Lib.hid hr4
          clear hb5 hk4 hr4
          obtain ⟨⟨y0, y1, y2, y3⟩, z0, z1, z2, z3⟩ := q4_cells HB7.out
          obtain ⟨p1, p2, p3, p4⟩ := ok4
          have p12 := xor_lt p1 p2
          have p123 := xor_lt p12 p3
          go_wp2_with fail
          go_ret
          refine ⟨?_, M6.out.only (((((Mod.refl (Only w.heap.size) _).at 0 _).at 1 _).at 2 _).at 3 _) (Nat.le_refl _)⟩
          have e : sipOf k0 k1 (bys s) = xorM (xorM (xorM a4 b4) c4) d4 := by
            rw [HFin.out]
            have r1 : rndO theOps ⟨a, b, xorM cc 255, d⟩ = ⟨a1, b1, c1, d1⟩ := HR1.out
            have r2 : rndO theOps ⟨a1, b1, c1, d1⟩ = ⟨a2, b2, c2, d2⟩ := HR2.out
            have r3 : rndO theOps ⟨a2, b2, c2, d2⟩ = ⟨a3, b3, c3, d3⟩ := HR3.out
            have r4 : rndO theOps ⟨a3, b3, c3, d3⟩ = ⟨a4, b4, c4, d4⟩ := HR4.out
            have e5 : iter (rndO theOps) 4 ⟨a, b, xorM cc 255, d⟩ = ⟨a4, b4, c4, d4⟩ := by
              show rndO theOps (rndO theOps (rndO theOps (rndO theOps _))) = _
              rw [r1, r2, r3, r4]
            unfold fin4O
            simp only [theOps] at e5 ⊢
            rw [e5]
          rw [e]
          rfl
end Go.Proofs.Ytjabpekndgnhmaa
