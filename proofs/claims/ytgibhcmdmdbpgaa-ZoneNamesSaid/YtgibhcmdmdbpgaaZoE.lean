/- Two zones compared; the examples (awake), walked. No conditions. -/
import Derived.Test.YtgibhcmdmdbpgaaZoG
import Derived.Laws.StructEq
namespace Go.Proofs.Ytgibhcmdmdbpgaa
open Go.RowKit Go.Lib

def eqZ (a b : Zn) : Bool := (a.name.toList == b.name.toList) && ((a.pol == b.pol) && (a.tr == b.tr))
theorem eqZ_iff (a b : Zn) : eqZ a b = true ↔ a = b := by
  unfold eqZ
  rw [eq_bys]
  simp only [Bool.and_eq_true, decide_eq_true_eq, beq_iff_eq]
  constructor
  · rintro ⟨h1, h2, h3⟩
    obtain ⟨x, y, z⟩ := a
    obtain ⟨x', y', z'⟩ := b
    simp only at h1 h2 h3
    rw [bys_inj h1, h2, h3]
  · rintro rfl
    exact ⟨rfl, rfl, rfl⟩
theorem eqZ_self (a : Zn) : eqZ a a = true := (eqZ_iff a a).2 rfl
theorem eqZ_ne {a b : Zn} (h : a ≠ b) : eqZ a b = false := by
  cases hb : eqZ a b with
  | false => rfl
  | true => exact absurd ((eqZ_iff a b).1 hb) h
theorem run_eql_zone (a b : Zn) (w : World) : (binOp .eql 35 (.agg (znC a)) (.agg (znC b))).run Try.prog w = .ok (.bool (eqZ a b)) w := by
  have hs : Try.prog.stoodInHeld 35 = false := by kernel_rfl
  have hf : (Try.prog.fieldsOf 35).toList.map (fun f => (f.name, f.type, f.offset)) = [("Name", 9, 0), ("Policy", 5, 1), ("Trust", 33, 2)] := by kernel_rfl
  have hu : Try.prog.underlying 35 = some (.struct (Try.prog.fieldsOf 35)) := by kernel_rfl
  rw [run_eql_struct, run_equalIn_struct w 9999 35 _ _ hu hs]
  generalize (Try.prog.fieldsOf 35).toList = fs at *
  obtain _ | ⟨f1, _ | ⟨f2, _ | ⟨f3, _ | ⟨f4, fs⟩⟩⟩⟩ := fs <;> simp only [List.map_cons, List.map_nil, List.cons.injEq, Prod.mk.injEq, List.nil_eq, List.cons_ne_nil, reduceCtorEq, and_false, false_and, and_true] at hf
  obtain ⟨⟨n1, t1, o1⟩, ⟨n2, t2, o2⟩, n3, t3, o3⟩ := hf
  have p1 : ∀ z : Zn, ∀ w, (part 9 (znC z) 0).run Try.prog w = .ok (.string z.name) w := fun z w => by
    unfold part
    simp [run_underlying Try.underlying9, znC]
  have p2 : ∀ z : Zn, ∀ w, (part 5 (znC z) 1).run Try.prog w = .ok (.int .u8 z.pol) w := fun z w => run_part_int w Try.underlying5 _ 1 _ rfl
  have p3 : ∀ z : Zn, ∀ w, (part 33 (znC z) 2).run Try.prog w = .ok (.int .u16 z.tr) w := fun z w => run_part_int w Try.underlying33 _ 2 _ rfl
  have r1 := run_equalIn_string (P := Try.prog) w 9998 9 a.name b.name Try.underlying9
  have r2 := run_equalIn_int (P := Try.prog) w 9998 5 .u8 .u8 a.pol b.pol Try.underlying5
  have r3 := run_equalIn_int (P := Try.prog) w 9998 33 .u16 .u16 a.tr b.tr Try.underlying33
  unfold eqZ
  simp only [Op.eqFields, n1, n2, n3, t1, t2, t3, o1, o2, o3]
  cases h1 : a.name.toList == b.name.toList <;> cases h2 : a.pol == b.pol <;> cases h3 : a.tr == b.tr <;> rw [h1] at r1 <;> rw [h2] at r2 <;> rw [h3] at r3 <;> simp [p1, p2, p3, r1, r2, r3]
theorem run_neq_zone (a b : Zn) (w : World) : (binOp .neq 35 (.agg (znC a)) (.agg (znC b))).run Try.prog w = .ok (.bool (!eqZ a b)) w := by
  have h := run_eql_zone a b w
  rw [run_eql_struct] at h
  rw [run_neq_struct]
  generalize (Op.equalIn 10000 35 (.agg (znC a)) (.agg (znC b))).run Try.prog w = r at *
  cases r with
  | ok x w' =>
    simp only [Result.andThen_ok, Result.ok.injEq, Value.bool.injEq] at h ⊢
    exact ⟨by rw [h.1], h.2⟩
  | halt x w' => cases h
theorem run_field0 (z : Zn) (w : World) : (Instr.field 35 (.agg (znC z)) 0).run Try.prog w = .ok (.string z.name) w := by kernel_rfl
theorem run_field1 (z : Zn) (w : World) : (Instr.field 35 (.agg (znC z)) 1).run Try.prog w = .ok (.int .u8 z.pol) w := by kernel_rfl
theorem run_field2 (z : Zn) (w : World) : (Instr.field 35 (.agg (znC z)) 2).run Try.prog w = .ok (.int .u16 z.tr) w := by kernel_rfl
theorem RdZ.lit (w : World) (e n c : Nat) (l : List Zn) (X : Array Value) (hX : X.toList = zC l) (hn : n = l.length) : RdZ (w.alloc (.cells X e)) (.slice (some ⟨w.heap.size, 0, none⟩) n c) l := by
  subst hn
  refine ⟨zC_len l, _, c, rfl, fun _ => ⟨_, 0, rfl, by simp, fun j u hu => ?_⟩⟩
  rw [Nat.zero_add, (Blk.new w e X).cell, ← Array.getElem?_toList, hX]
  exact hu
theorem RdZ.kept {w w' : World} {v : Value} {l : List Zn} (h : RdZ w v l) (hk : Kept w w') : RdZ w' v l := Rd.kept h hk fun _ _ e => e
theorem NewTo.good {l : List Zn} {w w' : World} {e : Ending} (h : NewTo l w e w') (h0 : newE l = 0) : Kept w w' ∧ ∃ g mo oe, e = .returned (.tuple #[.pointer (some ⟨g, 0, none⟩), .int .i64 0]) ∧ Zt w' w.heap.size g mo oe l l.length := by
  obtain ⟨hk, ⟨h1, _⟩ | ⟨_, h2⟩⟩ := h
  · exact absurd h0 h1
  · exact ⟨hk, h2⟩
theorem NewTo.bad {l : List Zn} {w w' : World} {e : Ending} (h : NewTo l w e w') {c : Int} (hc : newE l = c) (h0 : c ≠ 0) : Kept w w' ∧ e = .returned (.tuple #[.pointer none, .int .i64 c]) := by
  obtain ⟨hk, ⟨_, h2⟩ | ⟨h1, _⟩⟩ := h
  · exact ⟨hk, by rw [← hc]; exact h2⟩
  · exact absurd (hc.symm.trans h1) h0
def nEx : ByteArray := ⟨#[2, 101, 120, 0]⟩
def nAex : ByteArray := ⟨#[1, 97, 2, 101, 120, 0]⟩
def lA : List Zn := [⟨nEx, 1, 0⟩, ⟨nAex, 2, 0⟩]
def lB : List Zn := [⟨nEx, 1, 0⟩, ⟨nEx, 2, 0⟩]
def lC : List Zn := [⟨⟨#[2, 69, 120, 0]⟩, 1, 0⟩]
theorem newA : newE lA = 0 := by decide +kernel
theorem newB : newE lB = 7 := by decide +kernel
theorem newC : newE lC = 3 := by decide +kernel
theorem findA1 : findZ lA ⟨#[1, 98, 2, 101, 120, 0]⟩ = ⟨nEx, 1, 0⟩ := by kernel_rfl
theorem findA2 : findZ lA ⟨#[1, 97, 2, 101, 120, 0]⟩ = ⟨nAex, 2, 0⟩ := by kernel_rfl
theorem findA3 : findZ lA ⟨#[1, 120, 1, 65, 2, 101, 120, 0]⟩ = ⟨nAex, 2, 0⟩ := by kernel_rfl
theorem findA4 : findZ lA ⟨#[3, 99, 111, 109, 0]⟩ = znRoot := by kernel_rfl
set_option maxHeartbeats 2000000 in
set_option maxRecDepth 100000 in
theorem awake_any (w : World) : Calls Try.prog 10 #[] w fun e w' => e = .returned (.bool true) ∧ Kept w w' := by
  have hq := run_eql_zone
  have hq2 := fun (a : Zn) (x : ByteArray) (p t : Int) (w : World) => run_eql_zone a ⟨x, p, t⟩ w
  unfold znC at hq2
  simp only at hq2
  have hq2 : ∀ (a : Zn) (x : ByteArray) (p t : Int) (w : World), (binOp .eql 35 (.agg (znC a)) (.agg #[.string x, .int .u8 p, .int .u16 t])).run Try.prog w = .ok (.bool (eqZ a ⟨x, p, t⟩)) w := hq2
  go_enter Try.func10, Try.ntmps10
  go_wp2_with fail
  refine (new_any _ lA (by decide) (by decide) _ (RdZ.lit _ _ 2 2 lA _ rfl rfl)).mono ?_
  intro e w1 h1
  obtain ⟨k1, g, mo, oe, rfl, hz1⟩ := h1.good newA
  have HK1 := Lib.hid (((Mod.refl (fun _ => False) w).alloc (.cells #[.string nEx, .int .u8 1, .int .u16 0, .string nAex, .int .u8 2, .int .u16 0] 35)).then k1)
  have HF1 := Lib.hid (And.intro (Fd.of_zt hz1) hz1)
  clear h1 k1 hz1
  go_wp2_with fail
  refine (new_any _ lB (by decide) (by decide) _ (RdZ.lit _ _ 2 2 lB _ rfl rfl)).mono ?_
  intro e w2 h2
  obtain ⟨k2, rfl⟩ := h2.bad newB (by decide)
  have k12 := ((Mod.refl (fun _ => False) w1).alloc _).then k2
  have HK2 := Lib.hid (HK1.out.then k12)
  have HF2 := Lib.hid (And.intro (HF1.out.1.kept k12) (HF1.out.2.kept k12))
  clear h2 k2 k12 HK1 HF1
  go_wp2_with fail
  refine (new_any _ lC (by decide) (by decide) _ (RdZ.lit _ _ 1 1 lC _ rfl rfl)).mono ?_
  intro e w3 h3
  obtain ⟨k3, rfl⟩ := h3.bad newC (by decide)
  have k23 := ((Mod.refl (fun _ => False) w2).alloc _).then k3
  have HK3 := Lib.hid (HK2.out.then k23)
  have HF3 := Lib.hid (And.intro (HF2.out.1.kept k23) (HF2.out.2.kept k23))
  clear h3 k3 k23 HK2 HF2
  go_wp2_with fail
  refine (find_any _ g lA _ _ HF3.out.1 ⟨#[1, 98, 2, 101, 120, 0]⟩ (by decide)).mono ?_
  rw [findA1]
  rintro e w4 ⟨rfl, m4⟩
  have HK4 := Lib.hid (HK3.out.then m4)
  have HF4 := Lib.hid (And.intro (HF3.out.1.kept m4) (HF3.out.2.kept m4))
  clear m4 HK3 HF3
  have e1 : eqZ ⟨nEx, 1, 0⟩ ⟨⟨#[2, 101, 120, 0]⟩, 1, 0⟩ = true := by kernel_rfl
  go_wp2_with fail
  refine (find_any _ g lA _ _ HF4.out.1 ⟨#[1, 97, 2, 101, 120, 0]⟩ (by decide)).mono ?_
  rw [findA2]
  rintro e w5 ⟨rfl, m5⟩
  have HK5 := Lib.hid (HK4.out.then m5)
  have HF5 := Lib.hid (And.intro (HF4.out.1.kept m5) (HF4.out.2.kept m5))
  have hfd := run_field0
  have t5 : (nAex.toList == [1, 97, 2, 101, 120, 0]) = true := by kernel_rfl
  clear m5 HK4 HF4 e1
  go_wp2_with fail
  refine (find_any _ g lA _ _ HF5.out.1 ⟨#[1, 120, 1, 65, 2, 101, 120, 0]⟩ (by decide)).mono ?_
  rw [findA3]
  rintro e w6 ⟨rfl, m6⟩
  have HK6 := Lib.hid (HK5.out.then m6)
  have HF6 := Lib.hid (And.intro (HF5.out.1.kept m6) (HF5.out.2.kept m6))
  have e1 : eqZ ⟨nAex, 2, 0⟩ ⟨⟨#[1, 97, 2, 101, 120, 0]⟩, 2, 0⟩ = true := by kernel_rfl
  clear m6 HK5 HF5
  go_wp2_with fail
  refine (find_any _ g lA _ _ HF6.out.1 ⟨#[3, 99, 111, 109, 0]⟩ (by decide)).mono ?_
  rw [findA4]
  rintro e w7 ⟨rfl, m7⟩
  have HK7 := Lib.hid (HK6.out.then m7)
  have HF7 := Lib.hid (And.intro (HF6.out.1.kept m7) (HF6.out.2.kept m7))
  clear m7 HK6 HF6 e1
  go_wp2_with fail
  refine (none_any _).mono ?_
  rintro e w8 ⟨rfl, m8⟩
  have HK8 := Lib.hid (HK7.out.then m8)
  have HF8 := Lib.hid (And.intro (HF7.out.1.kept m8) (HF7.out.2.kept m8))
  have e1 : eqZ znRoot znRoot = true := eqZ_self _
  clear m8 HK7 HF7
  go_wp2_with fail
  refine (len_any _ _ g mo oe lA _ HF8.out.2).mono ?_
  rintro e w9 ⟨rfl, rfl⟩
  rw [show ((lA.length : Nat) : Int) = 2 from rfl]
  go_wp2_with fail
  go_ret
  exact ⟨rfl, HK8.out⟩
end Go.Proofs.Ytgibhcmdmdbpgaa
