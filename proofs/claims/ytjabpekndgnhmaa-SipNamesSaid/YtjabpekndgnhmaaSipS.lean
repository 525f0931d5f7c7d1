/- The hash as a plain function on numbers; a rotation, in the program and in the document. Conditions: rotations by 1 to 63. -/
import Derived.Test.YtjabpekndgnhmaaSl
import Derived.Laws.BitsAllLaws
namespace Go.Proofs.Ytjabpekndgnhmaa
open Go.RowKit

def M64 : Nat := 18446744073709551616
/- The three operations stand behind names that nothing can compute with: a kernel that unfolds a product by 2^32 of an unknown number does not come back. -/
theorem ex_same {α : Type} (x : α) : ∃ y, y = x := ⟨x, rfl⟩
def rotlC (x n : Nat) : Nat := (x * 2 ^ n % M64) ||| (x / 2 ^ (64 - n))
def addC (a b : Nat) : Nat := (a + b) % M64
def xorC (a b : Nat) : Nat := a ^^^ b
noncomputable def rotl : Nat → Nat → Nat := Classical.choose (ex_same rotlC)
noncomputable def addM : Nat → Nat → Nat := Classical.choose (ex_same addC)
noncomputable def xorM : Nat → Nat → Nat := Classical.choose (ex_same xorC)
theorem rotl_eq : rotl = rotlC := Classical.choose_spec (ex_same rotlC)
theorem addM_eq : addM = addC := Classical.choose_spec (ex_same addC)
theorem xorM_eq : xorM = xorC := Classical.choose_spec (ex_same xorC)
def num : List Nat → Nat
  | [] => 0
  | b :: l => b + 256 * num l
structure V4 where
  a : Nat
  b : Nat
  c : Nat
  d : Nat
  deriving DecidableEq
def V4.Ok (v : V4) : Prop := v.a < M64 ∧ v.b < M64 ∧ v.c < M64 ∧ v.d < M64
/-- The hash over three operations: those that nothing computes with, and those that a kernel does. -/
structure Ops where
  add : Nat → Nat → Nat
  rot : Nat → Nat → Nat
  xor : Nat → Nat → Nat
def rndO (o : Ops) (v : V4) : V4 :=
  let a := o.add v.a v.b
  let b := o.xor (o.rot v.b 13) a
  let a := o.rot a 32
  let c := o.add v.c v.d
  let d := o.xor (o.rot v.d 16) c
  let a := o.add a d
  let d := o.xor (o.rot d 21) a
  let c := o.add c b
  let b := o.xor (o.rot b 17) c
  let c := o.rot c 32
  ⟨a, b, c, d⟩
def iter {α : Type} (f : α → α) : Nat → α → α
  | 0, v => v
  | n + 1, v => iter f n (f v)
def absorbW {α : Type} (f : α → Nat → α) : Nat → α → List Nat → α
  | 0, v, _ => v
  | n + 1, v, l => absorbW f n (f v (num (l.take 8))) (l.drop 8)
def blkO (o : Ops) (v : V4) (m : Nat) : V4 :=
  let u := rndO o (rndO o { v with d := o.xor v.d m })
  { u with a := o.xor u.a m }
def sc0 : Nat := 0x736f6d6570736575
def sc1 : Nat := 0x646f72616e646f6d
def sc2 : Nat := 0x6c7967656e657261
def sc3 : Nat := 0x7465646279746573
def startO (o : Ops) (k0 k1 : Nat) : V4 := ⟨o.xor sc0 k0, o.xor sc1 k1, o.xor sc2 k0, o.xor sc3 k1⟩
def fin4O (o : Ops) (v : V4) : Nat :=
  let u := iter (rndO o) 4 { v with c := o.xor v.c 255 }
  o.xor (o.xor (o.xor u.a u.b) u.c) u.d
def stateO (o : Ops) (k0 k1 : Nat) (s : List Nat) : V4 := absorbW (blkO o) (s.length / 8) (startO o k0 k1) s
def tailOf (s : List Nat) : List Nat := s.drop (8 * (s.length / 8))
def lastOf (s : List Nat) : List Nat := tailOf s ++ List.replicate (7 - (tailOf s).length) 0 ++ [s.length % 256]
def sipO (o : Ops) (k0 k1 : Nat) (s : List Nat) : Nat := fin4O o (blkO o (stateO o k0 k1 s) (num (lastOf s)))
noncomputable def theOps : Ops := ⟨addM, rotl, xorM⟩
def plainOps : Ops := ⟨addC, rotlC, xorC⟩
theorem theOps_eq : theOps = plainOps := by unfold theOps plainOps; rw [addM_eq, rotl_eq, xorM_eq]
noncomputable def rnd : V4 → V4 := rndO theOps
noncomputable def rnds (n : Nat) (v : V4) : V4 := iter rnd n v
noncomputable def blk : V4 → Nat → V4 := blkO theOps
noncomputable def start : Nat → Nat → V4 := startO theOps
noncomputable def absorb (n : Nat) (v : V4) (l : List Nat) : V4 := absorbW blk n v l
noncomputable def stateOf : Nat → Nat → List Nat → V4 := stateO theOps
noncomputable def sipOf : Nat → Nat → List Nat → Nat := sipO theOps
theorem sipOf_eq (k0 k1 : Nat) (s : List Nat) : sipOf k0 k1 s = sipO plainOps k0 k1 s := by unfold sipOf; rw [theOps_eq]

theorem or_lt {a b : Nat} (ha : a < M64) (hb : b < M64) : a ||| b < M64 := Nat.or_lt_two_pow (n := 64) ha hb
theorem M64_pos : 0 < M64 := by decide
theorem xor_lt {a b : Nat} (ha : a < M64) (hb : b < M64) : xorM a b < M64 := by rw [xorM_eq]; exact Nat.xor_lt_two_pow (n := 64) ha hb
theorem addM_lt (a b : Nat) : addM a b < M64 := by rw [addM_eq]; exact Nat.mod_lt _ M64_pos
theorem rotl_lt {x n : Nat} (hx : x < M64) : rotl x n < M64 := by rw [rotl_eq]; exact or_lt (Nat.mod_lt _ M64_pos) (Nat.lt_of_le_of_lt (Nat.div_le_self _ _) hx)
theorem rnd_ok {v : V4} (h : v.Ok) : (rnd v).Ok := by
  obtain ⟨h1, h2, h3, h4⟩ := h
  have a1 := addM_lt v.a v.b
  have b1 := xor_lt (rotl_lt (n := 13) h2) a1
  have c1 := addM_lt v.c v.d
  have d1 := xor_lt (rotl_lt (n := 16) h4) c1
  have a2 := addM_lt (rotl (addM v.a v.b) 32) (xorM (rotl v.d 16) (addM v.c v.d))
  have d2 := xor_lt (rotl_lt (n := 21) d1) a2
  have c2 := addM_lt (addM v.c v.d) (xorM (rotl v.b 13) (addM v.a v.b))
  have b2 := xor_lt (rotl_lt (n := 17) b1) c2
  exact ⟨a2, b2, rotl_lt c2, d2⟩
theorem iter_ok {α : Type} {P : α → Prop} {f : α → α} (hf : ∀ v, P v → P (f v)) : ∀ (n : Nat) (v : α), P v → P (iter f n v)
  | 0, _, h => h
  | n + 1, _, h => iter_ok hf n _ (hf _ h)
theorem rnds_ok (n : Nat) (v : V4) (h : v.Ok) : (rnds n v).Ok := iter_ok (P := V4.Ok) (fun _ => rnd_ok) n v h
theorem iter_succ {α : Type} (f : α → α) : ∀ (n : Nat) (v : α), iter f (n + 1) v = f (iter f n v)
  | 0, _ => rfl
  | n + 1, v => iter_succ f n (f v)
theorem rnds_succ (n : Nat) (v : V4) : rnds (n + 1) v = rnd (rnds n v) := iter_succ rnd n v
theorem blk_ok {v : V4} {m : Nat} (h : v.Ok) (hm : m < M64) : (blk v m).Ok := by
  obtain ⟨h1, h2, h3, h4⟩ := h
  have u := rnd_ok (rnd_ok (v := { v with d := xorM v.d m }) ⟨h1, h2, h3, xor_lt h4 hm⟩)
  exact ⟨xor_lt u.1 hm, u.2.1, u.2.2.1, u.2.2.2⟩
theorem start_ok {k0 k1 : Nat} (h0 : k0 < M64) (h1 : k1 < M64) : (start k0 k1).Ok :=
  ⟨xor_lt (by decide) h0, xor_lt (by decide) h1, xor_lt (by decide) h0, xor_lt (by decide) h1⟩
theorem sc0_lt : sc0 < M64 := by decide
theorem sc1_lt : sc1 < M64 := by decide
theorem sc2_lt : sc2 < M64 := by decide
theorem sc3_lt : sc3 < M64 := by decide
theorem num_lt : ∀ (l : List Nat), (∀ b ∈ l, b < 256) → num l < 256 ^ l.length
  | [], _ => by simp [num]
  | b :: l, h => by
    have h1 := num_lt l fun x hx => h x (List.mem_cons_of_mem _ hx)
    have h2 := h b (by simp)
    simp only [num, List.length_cons, Nat.pow_succ]
    omega
theorem num_lt8 {l : List Nat} (h : ∀ b ∈ l, b < 256) (hl : l.length ≤ 8) : num l < M64 :=
  Nat.lt_of_lt_of_le (num_lt l h) (Nat.pow_le_pow_right (by decide) hl)

/-- The rotation as the walk spells it. -/
theorem rotl_walk (x n : Nat) (hx : x < M64) : bits .or .u64 (IntKind.u64.wrap ((x : Int) * 2 ^ n)) ((x : Int) / 2 ^ (64 - n)) = (rotl x n : Nat) := by
  rw [rotl_eq]
  have e1 : IntKind.u64.wrap ((x : Int) * 2 ^ n) = ((x * 2 ^ n % M64 : Nat) : Int) := by
    rw [IntKind.wrap_u64, Int.natCast_emod, Int.natCast_mul, Int.natCast_pow]; rfl
  have e2 : (x : Int) / 2 ^ (64 - n) = ((x / 2 ^ (64 - n) : Nat) : Int) := by
    rw [Int.natCast_ediv, Int.natCast_pow]; rfl
  have h1 : x * 2 ^ n % M64 < 18446744073709551616 := Nat.mod_lt _ M64_pos
  have h2 : x / 2 ^ (64 - n) < 18446744073709551616 := Nat.lt_of_le_of_lt (Nat.div_le_self _ _) hx
  rw [e1, e2]
  exact u64_or_nat _ _ h1 h2

set_option maxHeartbeats 400000 in
theorem rot_any (x n : Nat) (hx : x < M64) (hn : 1 ≤ n) (hn2 : n ≤ 63) (w : World) :
    Calls Try.prog 25 #[.int .u64 x, .int .i64 n] w fun e w' => e = .returned (.int .u64 (rotl x n : Nat)) ∧ w = w' := by
  have hb : bits .and .u64 (n : Int) 63 = (n : Int) := by
    have := u64_and_nat n 63 (by omega) (by omega)
    rw [show n &&& 63 = n by rw [show (63 : Nat) = 2 ^ 6 - 1 from rfl, Nat.and_two_pow_sub_one_eq_mod]; omega] at this
    exact this
  have hw : IntKind.u64.wrap (n : Int) = (n : Int) := by rw [IntKind.wrap_u64]; omega
  have HR := Lib.hid (rotl_walk x n hx)
  have HX := Lib.hid hx
  clear hx
  go_enter Try.func25, Try.ntmps25
  go_wp2
  go_ret
  exact ⟨ret_int HR.out, rfl⟩
end Go.Proofs.Ytjabpekndgnhmaa
