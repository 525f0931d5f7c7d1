/- Laws on a part of a block that is loaded as a whole, on a new variable that is stored into as a whole, and on arrays of integers that are held against each other. No conditions. -/
import Derived.Test.YtafeepokcakmkaaBase
import Derived.Laws.StructEq
import Derived.Maps.AppendAt
namespace Go.Proofs.Ytafeepokcakmkaa
open Go.RowKit

section
variable {P : Program}
theorem add_at (g o j : Nat) : (⟨g, o, none⟩ : Addr).add j = ⟨g, o + j, none⟩ := by
  unfold Addr.add
  split
  · rename_i h; subst h; rfl
  · rfl

theorem run_loadVar_part (w : World) (g o m : Nat) (t ty : TypeId) (cs : Array Value) (d : TypeDesc) (hg : Blk w g t cs)
    (hu : P.underlying ty = some d) (hd : (match d with | .struct _ | .array _ _ => true | _ => false) = true) (hi : (P.info? ty).map (·.size) = some m) (hb : o + m ≤ cs.size) :
    (loadVar ty ⟨g, o, none⟩).run P w = .ok (.agg (cs.extract o (o + m))) w := by
  have hsz : (cs.extract o (o + m)).toList.length = m := by simp; omega
  have hl : (loadCells ⟨g, o, none⟩ m).run P w = .ok (cs.extract o (o + m)) w := by
    have h := run_loadCells_list (P := P) w ⟨g, o, none⟩ (cs.extract o (o + m)).toList (fun j v hv => by
      rw [add_at, hg.cell]
      rw [Array.getElem?_toList, Array.getElem?_extract] at hv
      split at hv
      · exact hv
      · cases hv)
    rw [hsz, Array.toArray_toList] at h
    exact h
  cases hq : P.info? ty with
  | none => simp [hq] at hi
  | some i =>
    have hs : i.size = m := by simpa [hq] using hi
    have hagg : (isAgg ty).run P w = .ok true w := by
      unfold isAgg
      rw [Sem.run_bind, run_underlying hu w]
      cases d <;> simp_all
    simp [loadVar, Sem.run_bind, hagg, sizeOf, typeInfo, hq, hs, hl]

theorem run_load_part {o : Oper} {ρ : Operand → Value} (ty : TypeId) (x : Operand) (ho : o.op = .load ty x) (w : World) (g off m : Nat) (hx : ρ x = .pointer (some ⟨g, off, none⟩)) (t : TypeId) (cs : Array Value) (d : TypeDesc)
    (hg : Blk w g t cs) (hu : P.underlying ty = some d) (hd : (match d with | .struct _ | .array _ _ => true | _ => false) = true) (hi : (P.info? ty).map (·.size) = some m) (hb : off + m ≤ cs.size) :
    (execOp ρ o).run P w = .ok (.value (.agg (cs.extract off (off + m)))) w := by
  unfold execOp
  simp only [ho, hx, Instr.loadAt, Instr.sureAddr, Sem.run_bind, Sem.run_pure, Result.andThen_ok, run_loadVar_part w g off m t ty cs d hg hu hd hi hb]

theorem wpList_load_part {ops : Array Oper} {rest : List Oper} {o : Oper} {a : Act} {w : World} {Q : Exit → Act → World → Prop} (hw : Region.wanted o (yielded ops a.tmps) = true) (ty : TypeId) (x : Operand) (ho : o.op = .load ty x)
    (g off m : Nat) (hx : a.eval x = .pointer (some ⟨g, off, none⟩)) (t : TypeId) (cs : Array Value) (d : TypeDesc) (hg : Blk w g t cs)
    (hu : P.underlying ty = some d) (hd : (match d with | .struct _ | .array _ _ => true | _ => false) = true) (hi : (P.info? ty).map (·.size) = some m) (hb : off + m ≤ cs.size)
    (h : wpList P ops Q rest (a.put o.dst (.agg (cs.extract off (off + m)))) w) : wpList P ops Q (o :: rest) a w :=
  wpList_step fun K hK => by
    rw [if_pos hw]
    unfold Oper.wp
    rw [run_load_part ty x ho w g off m hx t cs d hg hu hd hi hb]
    exact hK _ _ h

theorem quiet_load_part {o : Oper} {a : Act} {w : World} {K : Act → Prop} (ty : TypeId) (x : Operand) (ho : o.op = .load ty x)
    (g off m : Nat) (hx : a.eval x = .pointer (some ⟨g, off, none⟩)) (t : TypeId) (cs : Array Value) (d : TypeDesc) (hg : Blk w g t cs)
    (hu : P.underlying ty = some d) (hd : (match d with | .struct _ | .array _ _ => true | _ => false) = true) (hi : (P.info? ty).map (·.size) = some m) (hb : off + m ≤ cs.size)
    (h : K (a.put o.dst (.agg (cs.extract off (off + m))))) : o.quiet P a (fun w' => ∃ n, w' = w.drewN n) K :=
  ⟨_, fun w' hw' => by
    obtain ⟨n, rfl⟩ := hw'
    unfold Oper.quietAt
    rw [run_load_part ty x ho (w.drewN n) g off m hx t cs d (hg.drewN n) hu hd hi hb]
    exact ⟨rfl, rfl⟩, h⟩

/-- Any operation that yields one value in every world. -/
theorem quiet_of_run {o : Oper} {a : Act} {C : World → Prop} {K : Act → Prop} (v : Value) (hr : ∀ w, (execOp a.eval o).run P w = .ok (.value v) w) (h : K (a.put o.dst v)) : o.quiet P a C K :=
  ⟨v, fun w _ => by unfold Oper.quietAt; rw [hr w]; exact ⟨rfl, rfl⟩, h⟩

/-- An operation of which it is known what it comes to. -/
theorem wpList_run {ops : Array Oper} {rest : List Oper} {o : Oper} {a : Act} {w : World} {Q : Exit → Act → World → Prop} (hw : Region.wanted o (yielded ops a.tmps) = true) (v : Value) (w' : World)
    (hr : (execOp a.eval o).run P w = .ok (.value v) w') (h : wpList P ops Q rest (a.put o.dst v) w') : wpList P ops Q (o :: rest) a w :=
  wpList_step fun K hK => by
    rw [if_pos hw]
    unfold Oper.wp
    rw [hr]
    exact hK _ _ h
/-- 'var x T': a new block of zeros, whose cells are known under a name. -/
theorem run_op_alloc {o : Oper} {ρ : Operand → Value} (ty : TypeId) (ho : o.op = .alloc ty) (w : World) (cs : Array Value) (hz : (P.info? ty).bind (fun i => i.zero.map (·.cells)) = some cs) :
    (execOp ρ o).run P w = .ok (.value (.pointer (some ⟨w.heap.size, 0, none⟩))) (w.alloc (.cells cs ty)) := by
  cases hq : P.info? ty with
  | none => simp [hq] at hz
  | some i =>
    cases hzz : i.zero with
    | none => simp [hq, hzz] at hz
    | some z =>
      simp [hq, hzz] at hz
      subst hz
      unfold execOp
      simp [ho, Instr.alloc, zeroValue, typeInfo, hq, hzz, newVar, newRow]
theorem run_op_build {o : Oper} {ρ : Operand → Value} (ty : TypeId) (parts : Array (Nat × Operand)) (ho : o.op = .build ty parts) (w : World) (vs : Array (Nat × Value)) (hv : (parts.map fun (i, x) => (i, ρ x)) = vs) (v : Value)
    (hr : (Instr.build ty vs).run P w = .ok v w) : (execOp ρ o).run P w = .ok (.value v) w := by
  unfold execOp
  simp [ho, hv, hr]
theorem run_op_box {o : Oper} {ρ : Operand → Value} (ty : TypeId) (x : Operand) (ho : o.op = .box ty x) (w : World) (cs : Array Value) (hx : ρ x = .agg cs) :
    (execOp ρ o).run P w = .ok (.value (.pointer (some ⟨w.heap.size, 0, none⟩))) (w.alloc (.cells cs ty)) := by
  have hc : (Value.agg cs).cells = cs := rfl
  unfold execOp
  simp [ho, hx, Instr.box, newVar, newRow, hc]

/-- 'var x T = v', or 'x := v', v an aggregate: a new block that holds its cells. -/
theorem wpList_alloc_store {ops : Array Oper} {rest : List Oper} {o1 o2 : Oper} {a : Act} {w : World} {Q : Exit → Act → World → Prop} (ty d : Nat) (hg1 : Region.wanted o1 (yielded ops a.tmps) = true) (hg2 : Region.wanted o2 (yielded ops (a.put (some d) (.pointer (some ⟨w.heap.size, 0, none⟩))).tmps) = true)
    (h1 : o1.op = .alloc ty) (hd1 : o1.dst = some d) (x : Operand) (h2 : o2.op = .store ty (.tmp d) x) (hd2 : o2.dst = none) (hlt : d < a.tmps.size)
    (m : Nat) (him : (P.info? ty).map (fun i => (i.size, i.zero.map (·.cells.size))) = some (m, some m)) (cs : Array Value) (hx : (a.put (some d) (.pointer (some ⟨w.heap.size, 0, none⟩))).eval x = .agg cs) (hcs : cs.size = m) (hone : ∀ v ∈ cs, v.oneCell' = true)
    (h : wpList P ops Q rest (a.put (some d) (.pointer (some ⟨w.heap.size, 0, none⟩))) (w.alloc (.cells cs ty))) : wpList P ops Q (o1 :: o2 :: rest) a w := by
  obtain ⟨i, z, hi, hz, hzs, rfl⟩ : ∃ i z, P.info? ty = some i ∧ i.zero = some z ∧ z.cells.size = i.size ∧ i.size = m := by
    cases hq : P.info? ty with
    | none => simp [hq] at him
    | some i =>
      cases hz : i.zero with
      | none => simp [hq, hz] at him
      | some z =>
        simp [hq, hz] at him
        exact ⟨i, z, rfl, hz, him.2.trans him.1.symm, him.1⟩
  refine wpList_step fun K hK => ?_
  rw [if_pos hg1]
  have hr1 : (execOp a.eval o1).run P w = .ok (.value (.pointer (some ⟨w.heap.size, 0, none⟩))) (w.alloc (.cells z.cells ty)) := by
    unfold execOp
    simp [h1, Instr.alloc, zeroValue, typeInfo, hi, hz, newVar, newRow, Sem.run_bind]
  unfold Oper.wp
  rw [hr1]
  refine hK _ _ ?_
  rw [hd1]
  refine wpList_step fun K2 hK2 => ?_
  rw [if_pos hg2]
  have hd : (a.put (some d) (.pointer (some ⟨w.heap.size, 0, none⟩))).eval (.tmp d) = .pointer (some ⟨w.heap.size, 0, none⟩) := by
    simp [Act.put, Act.eval, hlt]
  have hst := run_storeCells_at P w.heap.size 0 ty cs.toList 0 z.cells (w.alloc (.cells z.cells ty)) (heap_alloc_new w _) (by simp; omega) (by simpa using hone)
  have hr2 : (execOp (a.put (some d) (.pointer (some ⟨w.heap.size, 0, none⟩))).eval o2).run P (w.alloc (.cells z.cells ty)) = .ok .skip (w.alloc (.cells cs ty)) := by
    have hset : (w.alloc (.cells z.cells ty)).setRow w.heap.size cs = w.alloc (.cells cs ty) := by
      unfold World.setRow World.alloc
      congr 1
      apply Array.ext_getElem?
      intro k
      rw [Array.getElem?_modify]
      by_cases hk : w.heap.size = k
      · subst hk; simp
      · have hk' : k ≠ w.heap.size := fun e => hk e.symm
        simp [hk, hk', Array.getElem?_push]
    have hrow : (z.cells.toList.take (0 + 0) ++ cs.toList ++ z.cells.toList.drop (0 + 0 + cs.toList.length)).toArray = cs := by
      have : z.cells.toList.drop cs.toList.length = [] := List.drop_eq_nil_of_le (by simp; omega)
      simp only [Nat.zero_add, List.take_zero, List.nil_append]
      rw [this]; simp
    rw [hrow] at hst
    unfold execOp
    have hc : (Value.agg cs).cells = cs := rfl
    simp [h2, hd, hx, Instr.storeAt, Instr.sureAddr, Sem.run_bind, storeVar, sizeOf, typeInfo, hi, hc, hcs, hst, hset]
  unfold Oper.wp
  rw [hr2]
  refine hK2 _ _ ?_
  rw [hd2]
  exact h

theorem run_part_int (w : World) {t : TypeId} {k : IntKind} (ht : P.underlying t = some (.int k)) (cs : Array Value) (j : Nat) (v : Value) (hv : cs[j]? = some v) : (part t cs j).run P w = .ok v w := by
  simp [part, isAgg, Sem.run_bind, run_underlying ht, hv]
theorem run_equalIn_array (w : World) (D t e n : Nat) {k : IntKind} (ht : P.underlying t = some (.array n e)) (he : P.underlying e = some (.int k)) {i : TypeInfo} (hi : P.info? e = some i) (hs : i.size = 1)
    (heq : ∀ a b : Int, (Op.equalIn D e (.int k a) (.int k b)).run P w = .ok (a == b) w)
    (xs ys : Array Value) (f g : Nat → Int) (hx : ∀ j, j < n → xs[j]? = some (.int k (f j))) (hy : ∀ j, j < n → ys[j]? = some (.int k (g j))) :
    (Op.equalIn (D + 1) t (.agg xs) (.agg ys)).run P w = .ok (decide (∀ j, j < n → f j = g j)) w := by
  have key : ∀ (m s : Nat), s + m = n → (∀ j, j < s → f j = g j) →
      (forIn (m := Sem) (List.range' s m) ((none, ()) : Option Bool × Unit) fun i _ => do
        let a ← part e xs (i * 1)
        let b ← part e ys (i * 1)
        let r ← Op.equalIn D e a b
        if (!r) = true then pure (ForInStep.done ((some false, ()) : Option Bool × Unit)) else pure (ForInStep.yield (none, ()))).run P w
      = .ok (if (∀ j, j < n → f j = g j) then (none, ()) else (some false, ())) w := by
    intro m
    induction m with
    | zero =>
      intro s hs hj
      rw [if_pos (fun j h => hj j (by omega))]
      simp
    | succ m ih =>
      intro s hs' hj
      rw [List.range'_succ]
      simp only [List.forIn_cons, Sem.run_bind, Nat.mul_one, run_part_int w he xs s _ (hx s (by omega)), run_part_int w he ys s _ (hy s (by omega)), Result.andThen_ok, heq]
      by_cases hfg : f s = g s
      · have hb : (f s == g s) = true := by simp [hfg]
        simp only [hb, Bool.not_true, Bool.false_eq_true, if_false, Sem.run_pure, Result.andThen_ok]
        have := ih (s + 1) (by omega) (fun j h => by
          rcases Nat.lt_or_ge j s with h1 | h1
          · exact hj j h1
          · obtain rfl : j = s := by omega
            exact hfg)
        simpa using this
      · have hb : (f s == g s) = false := by simp [hfg]
        rw [if_neg (show ¬ (∀ j, j < n → f j = g j) from fun h => hfg (h s (by omega)))]
        simp [hb]
  have h0 := key n 0 (by omega) (fun j h => by omega)
  simp only [Op.equalIn, Sem.run_bind, run_underlying ht, Result.andThen_ok, sizeOf, typeInfo, run_program, hi, hs, Sem.run_pure]
  simp only [Std.Legacy.Range.forIn_eq_forIn_range', Std.Legacy.Range.size, Nat.sub_zero, Nat.add_sub_cancel, Nat.div_one]
  rw [h0]
  by_cases h : ∀ j, j < n → f j = g j
  · rw [if_pos h]; simp; exact h
  · rw [if_neg h]; simp [h]
theorem run_neq_ints (w : World) (t e n : Nat) {k : IntKind} (ht : P.underlying t = some (.array n e)) (he : P.underlying e = some (.int k)) {i : TypeInfo} (hi : P.info? e = some i) (hs : i.size = 1)
    (xs ys : Array Value) (f g : Nat → Int) (hx : ∀ j, j < n → xs[j]? = some (.int k (f j))) (hy : ∀ j, j < n → ys[j]? = some (.int k (g j))) (r : Bool) (hr : r = true ↔ ∀ j, j < n → f j = g j) :
    (binOp .neq t (.agg xs) (.agg ys)).run P w = .ok (.bool (!r)) w := by
  have hd : decide (∀ j, j < n → f j = g j) = r := by
    by_cases h : ∀ j, j < n → f j = g j
    · rw [decide_eq_true h, hr.2 h]
    · rw [decide_eq_false h]
      cases r with
      | false => rfl
      | true => exact absurd (hr.1 rfl) h
  rw [run_neq_struct, run_equalIn_array w 9999 t e n ht he hi hs (fun a b => run_equalIn_int w 9998 e k k a b he) xs ys f g hx hy, hd]
  rfl
/-- '!=' at an array of integers, as an operation. -/
theorem run_op_neq_ints {o : Oper} {ρ : Operand → Value} (t e n t2 : Nat) (x y : Operand) (ho : o.op = .binOp .neq t x y t2) (w : World) {k : IntKind} (ht : P.underlying t = some (.array n e)) (he : P.underlying e = some (.int k)) (hi : (P.info? e).map (·.size) = some 1)
    (xs ys : Array Value) (hx' : ρ x = .agg xs) (hy' : ρ y = .agg ys) (hm : P.eqGuardType P.depth t = false) (f g : Nat → Int) (hx : ∀ j, j < n → xs[j]? = some (.int k (f j))) (hy : ∀ j, j < n → ys[j]? = some (.int k (g j))) (r : Bool) (hr : r = true ↔ ∀ j, j < n → f j = g j) :
    (execOp ρ o).run P w = .ok (.value (.bool (!r))) w := by
  cases hq : P.info? e with
  | none => simp [hq] at hi
  | some i =>
    have hs : i.size = 1 := by simpa [hq] using hi
    unfold execOp
    simp [ho, hx', hy', run_eqGuard_agg w .neq t x y xs ys hm, run_neq_ints w t e n ht he hq hs xs ys f g hx hy r hr]

/-- A region that draws its order, whose operations but the last ones read or call quietly: the law, with the draw outermost. -/
theorem region_tail {id : Nat} {Q : Exit → Act → World → Prop} {a : Act} {w : World} {l : List Oper} (n : Nat) (hm : P.follows .mixedOrders = true) (hB : Region.lexTailB .any l.toArray n = true)
    (h : wpStill P l.toArray w.drew (fun a' => wpList P l.toArray Q (l.drop n) a' w.drew) (l.take n) a) : (Code.region id l.toArray true).wp P Q a w := wp_region_still_tail n hm hB h

/-- What an append asks of a slice's type and of its elements' type. -/
def Elem (P : Program) (t e size bytes : Nat) : Prop :=
  P.underlying t = some (.slice e) ∧ (P.info? e).map (fun i => (i.size, i.bytes, i.zero.map (·.cells.size))) = some (size, bytes, some size) ∧ 0 < size ∧ size ≤ 16777216
theorem Elem.parts {t e size bytes : Nat} (h : Elem P t e size bytes) : ∃ i z, P.info? e = some i ∧ i.zero = some z ∧ i.size = size ∧ i.bytes = bytes ∧ z.cells.size = size := by
  obtain ⟨_, hi, _, _⟩ := h
  cases hq : P.info? e with
  | none => simp [hq] at hi
  | some i =>
    cases hz : i.zero with
    | none => simp [hq, hz] at hi
    | some z =>
      simp [hq, hz] at hi
      exact ⟨i, z, rfl, hz, hi.1, hi.2.1, hi.2.2⟩
theorem foldl_set (l : List Value) : ∀ (k : Nat) (X : Array Value), ((l.zipIdx k).foldl (fun a p => a.setIfInBounds (0 + p.2) p.1) X).size = X.size ∧
    ∀ i, i < X.size → ((l.zipIdx k).foldl (fun a p => a.setIfInBounds (0 + p.2) p.1) X)[i]? = if k ≤ i ∧ i < k + l.length then l[i - k]? else X[i]? := by
  induction l with
  | nil => intro k X; exact ⟨rfl, fun i hi => by rw [if_neg (by simp only [List.length_nil]; omega)]; rfl⟩
  | cons v l ih =>
    intro k X
    rw [List.zipIdx_cons, List.foldl_cons]
    obtain ⟨h1, h2⟩ := ih (k + 1) (X.setIfInBounds (0 + k) v)
    refine ⟨by rw [h1]; simp, fun i hi => ?_⟩
    rw [h2 i (by simpa using hi)]
    simp only [List.length_cons, Nat.zero_add]
    by_cases hk : k = i
    · subst hk
      rw [if_neg (by omega), if_pos (by omega), Nat.sub_self]
      simp [hi]
    · by_cases h : k + 1 ≤ i ∧ i < k + 1 + l.length
      · rw [if_pos h, if_pos (by omega), show i - k = (i - (k + 1)) + 1 by omega, List.getElem?_cons_succ]
      · rw [if_neg h, if_neg (by omega), Array.getElem?_setIfInBounds_ne hk]
theorem fill_whole (cs X : Array Value) (h : X.size = cs.size) : cs.zipIdx.foldl (fun a p => a.setIfInBounds (0 + p.2) p.1) X = cs := by
  obtain ⟨h1, h2⟩ := foldl_set cs.toList 0 X
  have e : cs.zipIdx.foldl (fun a p => a.setIfInBounds (0 + p.2) p.1) X = (cs.toList.zipIdx 0).foldl (fun a p => a.setIfInBounds (0 + p.2) p.1) X := by
    rw [← Array.foldl_toList, Array.toList_zipIdx]
  rw [e]
  apply Array.ext_getElem?
  intro i
  by_cases hi : i < X.size
  · rw [h2 i hi, if_pos (by simp; omega)]
    simp
  · rw [Array.getElem?_eq_none (by rw [h1]; omega), Array.getElem?_eq_none (by omega)]
theorem run_buildSlice1 (w : World) {t e size bytes : Nat} (E : Elem P t e size bytes) (u : Value) (hu : u.cells.size = size) :
    (Instr.buildSlice t 1 #[(0, u)]).run P w = .ok (.slice (some ⟨w.heap.size, 0, none⟩) 1 1) (w.alloc (.cells u.cells e)) := by
  obtain ⟨i, z, hi, hz, hsz, hby, hzs⟩ := E.parts
  obtain ⟨ht, _, h0, h1⟩ := E
  have hfill : ∀ X : Array Value, X.size = size → Instr.fill (fun i => some (i * size, size)) X [(0, u)] = some u.cells := by
    intro X hX
    simp only [Instr.fill, Nat.zero_mul]
    rw [if_neg (by simp [hu, hX])]
    exact congrArg some (fill_whole u.cells X (by omega))
  simp only [Instr.buildSlice, Sem.run_bind, run_underlying ht, Result.andThen_ok, sizeOf, typeInfo, run_program, hi, hsz, Sem.run_pure]
  rw [if_neg (by omega), if_neg (by omega)]
  simp only [Sem.run_bind, Sem.run_pure, Result.andThen_ok, zeroValue, typeInfo, run_program, hi, hz]
  rw [hfill _ (by simp)]
  simp [newRow]

/-- 's = append(s, x)' onto a row of the call's own: the two operations together. -/
theorem wpList_push {ops : Array Oper} {rest : List Oper} {o1 o2 : Oper} {a : Act} {w : World} {Q : Exit → Act → World → Prop} (t e size bytes d : Nat) (E : Elem P t e size bytes) (x s : Operand)
    (hg1 : Region.wanted o1 (yielded ops a.tmps) = true) (hg2 : Region.wanted o2 (yielded ops (a.put (some d) (.slice (some ⟨w.heap.size, 0, none⟩) 1 1)).tmps) = true) (h1 : o1.op = .buildSlice t 1 #[(0, x)]) (hd1 : o1.dst = some d) (h2 : o2.op = .call { callee := .builtin .append, args := #[s, .tmp d], argTypes := #[t, t] }) (hlt : d < a.tmps.size)
    (u : Value) (hx : a.eval x = u) (hu : u.cells.size = size) (hone : ∀ c ∈ u.cells, c.oneCell' = true)
    (base : Nat) (v : Value) (n : Nat) (xs : List Value) (hs : (a.put (some d) (.slice (some ⟨w.heap.size, 0, none⟩) 1 1)).eval s = v) (hown : w.ownsRow base e size v n xs)
    (h63 : n + 1 ≤ maxLen) (hbytes : (n + 1) * bytes ≤ 140737488355328) (hbase : base ≤ w.heap.size)
    (h : ∀ v' w', w'.ownsRow base e size v' (n + 1) (xs ++ u.cells.toList) → Mod (fun k => v.ownBlock = some k) w w' → (∀ k, v'.ownBlock = some k → v.ownBlock = some k ∨ w.heap.size ≤ k) →
      wpList P ops Q rest ((a.put (some d) (.slice (some ⟨w.heap.size, 0, none⟩) 1 1)).put o2.dst v') w') : wpList P ops Q (o1 :: o2 :: rest) a w := by
  obtain ⟨i, z, hi, hz, hsz, hby, hzs⟩ := E.parts
  have hr1 : (execOp a.eval o1).run P w = .ok (.value (.slice (some ⟨w.heap.size, 0, none⟩) 1 1)) (w.alloc (.cells u.cells e)) := by
    unfold execOp
    simp only [h1, Sem.run_bind, List.map_toArray, List.map_cons, List.map_nil, hx, run_buildSlice1 w E u hu, Result.andThen_ok, Sem.run_pure]
  refine wpList_run hg1 _ _ hr1 ?_
  rw [hd1]
  have hown1 := hown.alloc (.cells u.cells e)
  have hc : ∀ j v, u.cells.toList[j]? = some v → (w.alloc (.cells u.cells e)).cell? ((⟨w.heap.size, 0, none⟩ : Addr).add j) = some v := by
    intro j v hv
    rw [add_at, (Blk.new w e u.cells).cell]
    simpa using hv
  obtain ⟨v', w', hr, h3, h4, _, h6⟩ := run_append_own_at (P := P) (w.alloc (.cells u.cells e)) base t o2.type e i z size bytes E.1 hi hz hsz hby hzs E.2.2.1 v n xs hown1 ⟨w.heap.size, 0, none⟩ 1 1 u.cells.toList (by simp [hu]) hc (by simpa using hone) h63 hbytes (by simp; omega)
  have hp : (a.put (some d) (.slice (some ⟨w.heap.size, 0, none⟩) 1 1)).eval (.tmp d) = .slice (some ⟨w.heap.size, 0, none⟩) 1 1 := by
    simp [Act.put, Act.eval, hlt]
  refine wpList_run hg2 v' w' ?_ (h v' w' h3 ?_ ?_)
  · unfold execOp
    simp only [h2, resolve, invoke, builtin, Sem.run_bind, Sem.run_pure, Result.andThen_ok, List.map_toArray, List.map_cons, List.map_nil, hs, hp, hr]
  · exact ((Mod.refl _ w).alloc (.cells u.cells e)).then (Mod.of_grown h4 (fun k hk => hk))
  · intro k hk
    rcases h6 with h6 | h6
    · exact .inl (by rw [← h6]; exact hk)
    · refine .inr ?_
      rw [h6] at hk
      injection hk with hk
      have : (w.alloc (.cells u.cells e)).heap.size = w.heap.size + 1 := by simp
      omega
end
end Go.Proofs.Ytafeepokcakmkaa
