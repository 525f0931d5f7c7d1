/- 's = append(s, x...)' onto a row of the call's own, x a slice that reads as cells, nil let in. No conditions. -/
import Derived.Test.YtafeepokcakmkaaSl
import Derived.Deep.RegionLaw
namespace Go.Proofs.Ytafeepokcakmkaa
open Go.RowKit
section
variable {P : Program}
theorem run_append_nothing (w : World) (base t ty e : Nat) (i : TypeInfo) (size : Nat) (ht : P.underlying t = some (.slice e)) (hi : P.info? e = some i)
    (v : Value) (n : Nat) (xs : List Value) (hown : w.ownsRow base e size v n xs) (c : Nat) : (Builtin.append_ #[t, t] ty #[v, .slice none 0 c]).run P w = .ok v w := by
  rcases hown.2 with ⟨rfl, rfl⟩ | ⟨g, cap, cur, rfl, _, _, hnc, _⟩
  · simp [Builtin.append_, run_underlying ht, sizeOf, typeInfo, hi, Builtin.lenOf, Builtin.firstCells]
  · simp [Builtin.append_, run_underlying ht, sizeOf, typeInfo, hi, Builtin.lenOf, Builtin.firstCells, hnc, storeCells]

/-- What an append of a slice that reads as cells comes to. -/
theorem run_op_append {o : Oper} {ρ : Operand → Value} (w : World) (t e size bytes : Nat) (E : Elem P t e size bytes) (s x : Operand) (ho : o.op = .call { callee := .builtin .append, args := #[s, x], argTypes := #[t, t] })
    (base : Nat) (v : Value) (n : Nat) (xs : List Value) (hs : ρ s = v) (hown : w.ownsRow base e size v n xs) (vx : Value) (m : Nat) (news : List Value) (hx : ρ x = vx) (hrd : Rd w size vx m news) (h1 : ∀ u ∈ news, u.oneCell' = true)
    (h63 : n + m ≤ maxLen) (hbytes : (n + m) * bytes ≤ 140737488355328) (hbase : base ≤ w.heap.size) :
    ∃ v' w', (execOp ρ o).run P w = .ok (.value v') w' ∧ w'.ownsRow base e size v' (n + m) (xs ++ news) ∧ Mod (fun k => v.ownBlock = some k) w w' ∧ (∀ k, v'.ownBlock = some k → v.ownBlock = some k ∨ w.heap.size ≤ k) := by
  obtain ⟨i, z, hi, hz, hsz, hby, hzs⟩ := E.parts
  have key : ∃ v' w', (Builtin.append_ #[t, t] o.type #[v, vx]).run P w = .ok v' w' ∧ w'.ownsRow base e size v' (n + m) (xs ++ news) ∧ Mod (fun k => v.ownBlock = some k) w w' ∧ (∀ k, v'.ownBlock = some k → v.ownBlock = some k ∨ w.heap.size ≤ k) := by
    obtain ⟨hl, A, c, rfl, hc⟩ := hrd
    cases A with
    | none =>
      have hm : m = 0 := by
        rcases Nat.eq_zero_or_pos m with h0 | h0
        · exact h0
        · obtain ⟨_, _, h, _⟩ := hc h0; cases h
      subst hm
      have hn : news = [] := List.eq_nil_of_length_eq_zero (by simpa using hl)
      subst hn
      exact ⟨v, w, run_append_nothing w base t o.type e i size E.1 hi v n xs hown c, by simpa using hown, Mod.refl _ _, fun k hk => .inl hk⟩
    | some ad =>
      have hcells : ∀ j u, news[j]? = some u → w.cell? (ad.add j) = some u := by
        intro j u hu
        rcases Nat.eq_zero_or_pos m with h0 | h0
        · subst h0
          have hn : news = [] := List.eq_nil_of_length_eq_zero (by simpa using hl)
          subst hn
          simp at hu
        · obtain ⟨b, o', h, _, hc'⟩ := hc h0
          injection h with h
          subst h
          rw [add_at]
          exact hc' j u hu
      obtain ⟨v', w', hr, h3, h4, _, h6⟩ := run_append_own_at (P := P) w base t o.type e i z size bytes E.1 hi hz hsz hby hzs E.2.2.1 v n xs hown ad m c news hl hcells h1 h63 hbytes hbase
      refine ⟨v', w', hr, h3, Mod.of_grown h4 (fun k hk => hk), fun k hk => ?_⟩
      rcases h6 with h6 | h6
      · exact .inl (by rw [← h6]; exact hk)
      · rw [h6] at hk
        injection hk with hk
        exact .inr (by omega)
  obtain ⟨v', w', hr, h3⟩ := key
  refine ⟨v', w', ?_, h3⟩
  unfold execOp
  simp only [ho, resolve, invoke, builtin, Sem.run_bind, Sem.run_pure, Result.andThen_ok, List.map_toArray, List.map_cons, List.map_nil, hs, hx, hr]
theorem wpList_append_rd {ops : Array Oper} {rest : List Oper} {o : Oper} {a : Act} {w : World} {Q : Exit → Act → World → Prop} (t e size bytes : Nat) (E : Elem P t e size bytes) (s x : Operand) (hw : Region.wanted o (yielded ops a.tmps) = true)
    (ho : o.op = .call { callee := .builtin .append, args := #[s, x], argTypes := #[t, t] })
    (base : Nat) (v : Value) (n : Nat) (xs : List Value) (hs : a.eval s = v) (hown : w.ownsRow base e size v n xs) (vx : Value) (m : Nat) (news : List Value) (hx : a.eval x = vx) (hrd : Rd w size vx m news) (h1 : ∀ u ∈ news, u.oneCell' = true)
    (h63 : n + m ≤ maxLen) (hbytes : (n + m) * bytes ≤ 140737488355328) (hbase : base ≤ w.heap.size)
    (h : ∀ v' w', w'.ownsRow base e size v' (n + m) (xs ++ news) → Mod (fun k => v.ownBlock = some k) w w' → (∀ k, v'.ownBlock = some k → v.ownBlock = some k ∨ w.heap.size ≤ k) → wpList P ops Q rest (a.put o.dst v') w') : wpList P ops Q (o :: rest) a w := by
  obtain ⟨v', w', hr, h2, h3, h4⟩ := run_op_append w t e size bytes E s x ho base v n xs hs hown vx m news hx hrd h1 h63 hbytes hbase
  exact wpList_run hw v' w' hr (h v' w' h2 h3 h4)

theorem own_form {w : World} {base e size n : Nat} {v : Value} {xs : List Value} (h : w.ownsRow base e size v n xs) : ∃ A c, v = .slice A n c := by
  rcases h.2 with ⟨rfl, rfl⟩ | ⟨g, cap, cur, rfl, _⟩
  · exact ⟨none, 0, rfl⟩
  · exact ⟨_, cap, rfl⟩
/-- The same at a step of a region that draws; the new value written out. -/
theorem step_append_rd {ops : Array Oper} {o : Oper} {a : Act} {w : World} {K : Act → World → Prop} {Q : Exit → Act → World → Prop} {E' : Prop} (t e size bytes : Nat) (E : Elem P t e size bytes) (s x : Operand) (hw : Region.wanted o (yielded ops a.tmps) = true)
    (ho : o.op = .call { callee := .builtin .append, args := #[s, x], argTypes := #[t, t] })
    (base : Nat) (v : Value) (n : Nat) (xs : List Value) (hs : a.eval s = v) (hown : w.ownsRow base e size v n xs) (vx : Value) (m : Nat) (news : List Value) (hx : a.eval x = vx) (hrd : Rd w size vx m news) (h1 : ∀ u ∈ news, u.oneCell' = true)
    (h63 : n + m ≤ maxLen) (hbytes : (n + m) * bytes ≤ 140737488355328) (hbase : base ≤ w.heap.size)
    (h : ∀ A c w', w'.ownsRow base e size (.slice A (n + m) c) (n + m) (xs ++ news) → Mod (fun k => v.ownBlock = some k) w w' → (∀ k, (Value.slice A (n + m) c).ownBlock = some k → v.ownBlock = some k ∨ w.heap.size ≤ k) → K (a.put o.dst (.slice A (n + m) c)) w') :
    if Region.wanted o (yielded ops a.tmps) = true then Oper.wp P o a w K Q else E' := by
  rw [if_pos hw]
  obtain ⟨v', w', hr, h2, h3, h4⟩ := run_op_append w t e size bytes E s x ho base v n xs hs hown vx m news hx hrd h1 h63 hbytes hbase
  obtain ⟨A, c, rfl⟩ := own_form h2
  unfold Oper.wp
  rw [hr]
  exact h A c w' h2 h3 h4
/-- 's = append(s, x)', the new value written out. -/
theorem wpList_pushS {ops : Array Oper} {rest : List Oper} {o1 o2 : Oper} {a : Act} {w : World} {Q : Exit → Act → World → Prop} (t e size bytes d : Nat) (E : Elem P t e size bytes) (x s : Operand)
    (hg1 : Region.wanted o1 (yielded ops a.tmps) = true) (hg2 : Region.wanted o2 (yielded ops (a.put (some d) (.slice (some ⟨w.heap.size, 0, none⟩) 1 1)).tmps) = true) (h1 : o1.op = .buildSlice t 1 #[(0, x)]) (hd1 : o1.dst = some d) (h2 : o2.op = .call { callee := .builtin .append, args := #[s, .tmp d], argTypes := #[t, t] }) (hlt : d < a.tmps.size)
    (u : Value) (hx : a.eval x = u) (hu : u.cells.size = size) (hone : ∀ c ∈ u.cells, c.oneCell' = true)
    (base : Nat) (v : Value) (n : Nat) (xs : List Value) (hs : (a.put (some d) (.slice (some ⟨w.heap.size, 0, none⟩) 1 1)).eval s = v) (hown : w.ownsRow base e size v n xs)
    (h63 : n + 1 ≤ maxLen) (hbytes : (n + 1) * bytes ≤ 140737488355328) (hbase : base ≤ w.heap.size)
    (h : ∀ g cap w', w'.ownsRow base e size (.slice (some ⟨g, 0, none⟩) (n + 1) cap) (n + 1) (xs ++ u.cells.toList) → Mod (fun k => v.ownBlock = some k) w w' → (v.ownBlock = some g ∨ w.heap.size ≤ g) →
      wpList P ops Q rest ((a.put (some d) (.slice (some ⟨w.heap.size, 0, none⟩) 1 1)).put o2.dst (.slice (some ⟨g, 0, none⟩) (n + 1) cap)) w') : wpList P ops Q (o1 :: o2 :: rest) a w := by
  refine wpList_push t e size bytes d E x s hg1 hg2 h1 hd1 h2 hlt u hx hu hone base v n xs hs hown h63 hbytes hbase fun v' w' h3 h4 h5 => ?_
  obtain ⟨g, cap, rfl, _, _⟩ := h3.form (by omega)
  exact h g cap w' h3 h4 (h5 g rfl)
end
end Go.Proofs.Ytafeepokcakmkaa
