/- How a statement 'it answers true, and each argument reads as it did' follows from a walk that turns nothing that was there; arguments that are integers and slices of structs, opened. No conditions. -/
import Derived.Test.YtafeepokcakmkaaSl
import Derived.SizedLaws
import Derived.Carry
namespace Go.Proofs.Ytafeepokcakmkaa
open Go.ChangeShapes Go.WideShapes Go.ChangeAt Go.RowKit Go.Deep

section
variable {H : Type} {enc : TypeId × Value → H} {P : Program}
theorem trodAll_kept (hl : laidOutB P = true) {W W' : World} (hk : Kept W W') : ∀ (ts : List TypeId) (vs : List Value) (ds : List (DataW H)) (ps : List MemPlace), (ts.all fun t => P.readableRec t && decide (t < P.types.size)) = true →
    DataW.TrodAll enc P W 0 (fun _ => true) true ts vs ds ps → (∀ x ∈ ps, x.block < W.heap.size) → ∀ sp : Nat → Bool, (∀ p ∈ ps, sp p.block = true) → DataW.TrodAll enc P W' 0 sp true ts vs ds ps
  | [], [], [], _, _, h, _, _, _ => h
  | t :: ts, v :: vs, d :: ds, ps, ht, h, hlt, sp, hsp => by
    obtain ⟨p, q, h1, h2, rfl⟩ := h
    simp only [List.all_cons, Bool.and_eq_true, decide_eq_true_eq] at ht
    obtain ⟨⟨t1, t2⟩, t3⟩ := ht
    refine ⟨p, q, ?_, ?_, rfl⟩
    · exact WideElems.Trod_stays hl t1 t2 h1 (fun x hx => Mod.same hk (hlt x (List.mem_append_left _ hx))) (fun x hx => hsp x (List.mem_append_left _ hx))
    · exact trodAll_kept hl hk ts vs ds q (by simpa using t3) h2 (fun x hx => hlt x (List.mem_append_right _ hx)) sp (fun x hx => hsp x (List.mem_append_right _ hx))
  | [], [], _ :: _, _, _, h, _, _, _ => h.elim
  | [], _ :: _, _, _, _, h, _, _, _ => h.elim
  | _ :: _, [], _, _, _, h, _, _, _ => h.elim
  | _ :: _, _ :: _, [], _, _, h, _, _, _ => h.elim

/-- THE FRAME OF A LAW: the walk alone is left. -/
theorem law_lifted {C : Checked} {os : Os} {f : FuncId} {fn : Func} {s : ChangeSpec} (own : ownKnob C.prog.godebug = none) (laid : laidOutB C.prog = true) (started : os.Started)
    (noInit : C.prog.inits.idxOf? f = none) (hfn : C.prog.funcs[f]? = some fn) (hvars : s.vars = []) (b : TypeId) (hres : fn.resultTypes = #[b]) (hb : C.prog.underlying b = some .bool)
    (hts : (fn.params.toList.all fun t => C.prog.readableRec t && decide (t < C.prog.types.size)) = true)
    (hspec : ∀ ds : List (DataW H), ds.length = fn.params.size → s.fn H (ds ++ []) = { results := [.lit (.bool true)], args := ds })
    (witness : ∃ (w : World) (tape : Tape) (i : Input), w.os = os ∧ (w.forCall tape i).Shaped C.prog ∧ i.vars = [] ∧ Input.okWide C.prog (w.forCall tape i) .any w.heap.size f i ∧
      s.pre6 enc C.prog fn [] false (w.forCall tape i).memory i.args ∧ ({} : Assume).holds C.prog (lone (Frame.enter C.prog f i.args .normal) [] (w.forCall tape i)))
    (walk : ∀ (W : World) (base : Nat) (args : Array Value) (ds : List (DataW H)) (ps : List MemPlace),
      (∀ (j : Nat) t v, fn.params[j]? = some t → args[j]? = some v → Value.okWide C.prog W .any base t v) →
      DataW.TrodAll enc C.prog W 0 (fun _ => true) true fn.params.toList args.toList ds ps → (∀ x ∈ ps, x.block < W.heap.size) →
      (DataW.weightsEach C.prog (fn.params.toList ++ s.plain.varTypes C.prog) (ds ++ [])).all (· ≤ reachBytes) = true →
      Calls C.prog f args W fun e W' => e = .returned (.bool true) ∧ Kept W W') :
    ReturnsInHanded {} C os f .any (s.pre6 enc C.prog fn [] false) (s.post enc C.prog fn false true false false) := by
  refine returnsInHanded_of_change_sized (C := C) own started noInit hfn witness ?_
  intro W base args ds gs before hval hW _ hsz _
  have hW' := hW
  obtain ⟨p, q, hA, hV, rfl, hfz, hnd⟩ := hW
  have hA' : DataW.TrodAll enc C.prog W 0 (fun _ => true) true fn.params.toList args.toList ds p := hA
  rw [hvars] at hV
  obtain ⟨rfl, rfl⟩ := trodVars_none hV
  have hlt : ∀ x ∈ p, x.block < W.heap.size := fun x hx => hW'.lt x (List.mem_append_left _ hx)
  have hlen : ∀ (ts : List TypeId) (vs : List Value) (ds : List (DataW H)) (ps : List MemPlace), DataW.TrodAll enc C.prog W 0 (fun _ => true) true ts vs ds ps → ds.length = ts.length := by
    intro ts
    induction ts with
    | nil => intro vs ds ps h; cases vs <;> cases ds <;> first | rfl | exact h.elim
    | cons t ts ih =>
      intro vs ds ps h
      cases vs with
      | nil => exact h.elim
      | cons v vs => cases ds with
        | nil => exact h.elim
        | cons d ds =>
          obtain ⟨_, _, _, h2, _⟩ := h
          simp [ih _ _ _ h2]
  have hsp := hspec ds (by rw [hlen _ _ _ _ hA']; simp)
  refine (walk W base args ds p hval hA' hlt hsz).mono fun e W' ⟨he, hk⟩ => ?_
  subst he
  refine ⟨_, rfl, post_of_kept (pa := p) (pv := []) hW' ?_ ?_ ?_ rfl hk ?_⟩
  · intro b' sp hd
    rw [hsp, hres]
    exact trodAll_mk1 (shut_bool hb true)
  · intro sp hs
    rw [hsp]
    exact trodAll_kept laid hk _ _ _ _ hts hA' hlt sp (fun x hx => hs x (List.mem_append_left _ hx))
  · intro sp hs
    rw [hsp, hvars]
    rfl
  · exact ok_one hres rfl (okWide_bool_mk hb true)

theorem list_of_forall {α : Type} (n : Nat) (R : Nat → α → Prop) (h : ∀ i, i < n → ∃ a, R i a) : ∃ l : List α, l.length = n ∧ ∀ i a, l[i]? = some a → R i a := by
  induction n with
  | zero => exact ⟨[], rfl, fun i a h => by simp at h⟩
  | succ n ih =>
    obtain ⟨l, hl, hR⟩ := ih fun i hi => h i (by omega)
    obtain ⟨a, ha⟩ := h n (by omega)
    refine ⟨l ++ [a], by simp [hl], fun i x hx => ?_⟩
    by_cases hi : i < l.length
    · rw [List.getElem?_append_left hi] at hx
      exact hR i x hx
    · rw [List.getElem?_append_right (by omega)] at hx
      have hi0 : i - l.length = 0 := by
        rcases Nat.eq_zero_or_pos (i - l.length) with h0 | h0
        · exact h0
        · rw [List.getElem?_eq_none (by simp; omega)] at hx; cases hx
      rw [hi0] at hx
      simp at hx
      subst hx
      have : i = n := by omega
      subst this
      exact ha

/-- An argument that is a slice of structs of one-cell fields: it reads as a list of cells, and each cell as its field's type has it. -/
theorem open_rows {W : World} {t e : TypeId} {fs : Array Field} {a0 : Option Addr} {l0 c0 : Nat} {d : DataW H} {ps : List MemPlace} (ht : P.underlying t = some (.slice e)) (he : P.underlying e = some (.struct fs))
    (hone : oneCellFields P fs = true) (hC : P.cellsOf e = fs.size) (h0 : 0 < fs.size) (h : DataW.Trod enc P W 0 (fun _ => true) true t (.slice a0 l0 c0) d ps) :
    ∃ cs, Rd W fs.size (.slice a0 l0 c0) l0 cs ∧ l0 ≤ maxLen ∧ ∀ i, i < l0 → ∀ j f, fs[j]? = some f → ∃ u y N, cs[i * fs.size + j]? = some u ∧ DataW.trod enc P W 0 (fun _ => true) true N f.type [u] = some y := by
  obtain ⟨fuel, h⟩ := h
  rcases open_slice ht h with ⟨hcs, _⟩ | ⟨a, len, cap, m, n, D, Pl, hcs, hb, hl, hm, hmm, hx, hi⟩
  · have e1 : Value.slice a0 l0 c0 = .slice none 0 0 := by simpa [Value.cells] using hcs
    injection e1 with e1 e2 e3
    subst e1 e2 e3
    exact ⟨[], Rd.nil _ _ _ _, by simp [maxLen], fun i hi => by omega⟩
  · have e1 : Value.slice a0 l0 c0 = .slice (some a) len cap := by simpa [Value.cells] using hcs
    injection e1 with e1 e2 e3
    subst e1 e2 e3
    have hmc : m = c0 := by simpa using hmm
    subst hmc
    have hcell : ∀ i, i < l0 → ∀ j f, fs[j]? = some f → ∃ u y N, W.cell? (a.add (i * fs.size + j)) = some u ∧ DataW.trod enc P W 0 (fun _ => true) true N f.type [u] = some y := by
      intro i hil j f hj
      obtain ⟨cs', hc, ht'⟩ := hi i (by omega)
      rw [hC] at hc
      obtain ⟨ys, n', hn', hy, hlen, hyl, hf⟩ := DataW.trod_struct he ht'
      obtain ⟨_, hcl, hat⟩ := World.cells?_some hc
      obtain ⟨ho, hk⟩ := hone_of hone j f hj
      have hjl : j < fs.size := (Array.getElem?_eq_some_iff.1 hj).1
      have hcell := hat j hjl
      have hv : cs'[j]? = some (cs'[j]'(by omega)) := List.getElem?_eq_getElem (by omega)
      have h1 := hf j f hj
      rw [ho, hk] at h1
      have hone' : (cs'.drop j).take 1 = [cs'[j]'(by omega)] := by
        rw [List.drop_eq_getElem_cons (by omega)]
        rfl
      rw [hone'] at h1
      have hys : ys[j]? = some (ys[j]'(by omega)) := List.getElem?_eq_getElem (by omega)
      exact ⟨_, _, _, by rw [← Go.Deep.add_add, hcell, hv], h1.trans hys⟩
    obtain ⟨cs, hcl, hcs'⟩ := list_of_forall (l0 * fs.size) (fun q u => W.cell? (a.add q) = some u ∧ ∃ f y N, fs[q % fs.size]? = some f ∧ DataW.trod enc P W 0 (fun _ => true) true N f.type [u] = some y) (fun q hq => by
      have hlt := Nat.mod_lt q h0
      obtain ⟨u, y, N, hu, hy⟩ := hcell (q / fs.size) (Nat.div_lt_of_lt_mul (by rw [Nat.mul_comm]; exact hq)) (q % fs.size) _ (Array.getElem?_eq_getElem hlt)
      refine ⟨u, ?_, _, y, N, Array.getElem?_eq_getElem hlt, hy⟩
      rw [← hu, Nat.mul_comm, Nat.div_add_mod])
    refine ⟨cs, ⟨hcl, _, _, rfl, fun hp => ?_⟩, by omega, fun i hil j f hj => ?_⟩
    · have hsp : a.spot = none := by
        obtain ⟨u, _, _, hu, _⟩ := hcell 0 hp 0 _ (Array.getElem?_eq_getElem h0)
        rw [show 0 * fs.size + 0 = 0 by omega, Addr.add_zero'] at hu
        unfold World.cell? at hu
        split at hu
        · cases hs : a.spot with
          | none => rfl
          | some x => rw [hs] at hu; simp at hu
        · cases hu
      obtain ⟨b, o, s⟩ := a
      simp only at hsp
      subst hsp
      refine ⟨b, o, rfl, ?_, fun j u hu => ?_⟩
      · obtain ⟨u, _, _, hu, _⟩ := hcell 0 hp 0 _ (Array.getElem?_eq_getElem h0)
        rw [add_at] at hu
        exact block_lt_of_cell hu
      · rw [← add_at]; exact (hcs' j u hu).1
    · have hjl : j < fs.size := (Array.getElem?_eq_some_iff.1 hj).1
      have hq : i * fs.size + j < cs.length := by
        rw [hcl]
        calc i * fs.size + j < i * fs.size + fs.size := by omega
          _ = (i + 1) * fs.size := by rw [Nat.add_mul]; omega
          _ ≤ l0 * fs.size := Nat.mul_le_mul_right _ (by omega)
      obtain ⟨_, f', y, N, hf', hy⟩ := hcs' _ _ (List.getElem?_eq_getElem hq)
      rw [Nat.add_comm, Nat.add_mul_mod_self_right, Nat.mod_eq_of_lt hjl, hj] at hf'
      injection hf' with hf'
      subst hf'
      exact ⟨_, y, N, List.getElem?_eq_getElem hq, hy⟩
end
end Go.Proofs.Ytafeepokcakmkaa
