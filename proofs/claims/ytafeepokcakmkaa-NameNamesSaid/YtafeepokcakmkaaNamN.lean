/- Parse, walked. Conditions: fewer than 1000000 bytes. -/
import Derived.Test.YtafeepokcakmkaaNamM
import Derived.Outline
namespace Go.Proofs.Ytafeepokcakmkaa
open Go.RowKit

def RS.fit (r : RS) (n : Nat) : Prop := r.label.length ≤ n ∧ r.labels.length ≤ n ∧ ∀ l ∈ r.labels, l.length ≤ n
theorem RS.fit_mono {r : RS} {n m : Nat} (h : r.fit n) (k : n ≤ m) : r.fit m := ⟨Nat.le_trans h.1 k, Nat.le_trans h.2.1 k, fun l hl => Nat.le_trans (h.2.2 l hl) k⟩
theorem RS.fit_fin {r : RS} {n : Nat} (h : r.fit n) : r.fin.fit (n + 1) := by
  obtain ⟨h1, h2, h3⟩ := h
  refine ⟨by simp [RS.fin], by simp [RS.fin]; omega, ?_⟩
  intro l hl
  rcases List.mem_append.1 hl with hl | hl
  · have := h3 l hl; omega
  · simp at hl; subst hl; omega
theorem RS.fit_read {r : RS} {n : Nat} (h : r.fit n) (c : Nat) : (r.read c).fit (n + 1) := by
  have hl := RS.len_read r c
  obtain ⟨h1, h2, h3⟩ := h
  refine ⟨by omega, by omega, ?_⟩
  have h4 : ∀ l ∈ r.labels, l.length ≤ n + 1 := fun l hl => by have := h3 l hl; omega
  unfold RS.read
  split
  · exact h4
  · split
    · unfold RS.esc
      split
      · split
        · exact h4
        · exact h4
      · split
        · exact h4
        · exact h4
    · split
      · exact h4
      · split
        · intro l hl
          rcases List.mem_append.1 hl with hl | hl
          · exact h4 l hl
          · simp at hl; subst hl; omega
        · exact h4
theorem reads_take {s : List Nat} {j c : Nat} (h : s[j]? = some c) : RS.start.reads (s.take (j + 1)) = (RS.start.reads (s.take j)).read c := by
  rw [List.take_add_one, h, reads_append]
  rfl
/-- What the reader's state is good for, so many bytes in. -/
def Good (s : ByteArray) (pos : Nat) (r : RS) : Prop := (r = RS.start.reads ((bys s).take pos) ∧ pos ≤ s.size) ∨ (r.bad = true ∧ ∃ c ∈ bys s, 126 < c)
def ParRel (s : ByteArray) (w : World) (k : Nat) (wr : World) : Prop :=
  ∃ (pos : Nat) (r : RS), s.size - pos = k ∧ wr.heap[w.heap.size + 1]? = some (.stringIter s pos) ∧ Rdr wr w.heap.size (w.heap.size + 2) r ∧ r.ok ∧ r.fit (min pos s.size) ∧ Good s pos r ∧ Kept w wr
theorem Good.parse {s : ByteArray} {pos : Nat} {r : RS} (h : Good s pos r) (hp : s.size ≤ pos) (hs : bys s ≠ [46]) : parseN (bys s) = r.done.ends := by
  rcases h with ⟨h1, h2⟩ | ⟨h1, h2⟩
  · have e : (bys s).take pos = bys s := List.take_of_length_le (by rw [bys_length]; exact hp)
    rw [e] at h1
    unfold parseN
    rw [if_neg hs, h1]
  · rw [parse_bad h2, RS.ends_bad _ (RS.done_bad _ h1)]
def rdr0 : Array Value := #[.slice none 0 0, .slice none 0 0, .bool false, .int .i64 0, .int .i64 0, .bool false, .bool false]
theorem rdr_new (w : World) (s : ByteArray) : Rdr ((w.alloc (.cells rdr0 50)).iter s 0) w.heap.size (w.heap.size + 2) RS.start := by
  refine ⟨.slice none 0 0, .slice none 0 0, [], ?_, rfl, Txs.nil _ _, ?_, World.ownsRow_nil _ _ _ _⟩
  · exact (Blk.new w 50 rdr0).alloc _
  · simp [World.iter]
theorem iter_new (w : World) (s : ByteArray) : ((w.alloc (.cells rdr0 50)).iter s 0).heap[w.heap.size + 1]? = some (.stringIter s 0) := by
  have h := World.iter_heap (w.alloc (.cells rdr0 50)) s 0
  simpa using h
theorem RdrV.iterAt {w : World} {g B : Nat} {r : RS} {vL vl : Value} {L : List ByteArray} (h : RdrV w g B r vL vl L) {k : Nat} {s : ByteArray} {pos : Nat} (hk : w.heap[k]? = some (.stringIter s pos)) (p : Nat) : RdrV (w.iterAt k s p) g B r vL vl L := by
  have hne : k ≠ g := by
    rintro rfl
    have := h.blk
    unfold Blk at this
    rw [hk] at this
    cases this
  have hm : Mod (Only k) w (w.iterAt k s p) := ⟨rfl, rfl, by rw [Lib.iterAt_size]; exact Nat.le_refl _, fun i _ hi => Lib.iterAt_other w k i s p (fun e => hi e)⟩
  have hrow : ∀ {v : Value} {e n : Nat} {xs : List Value}, w.ownsRow B e 1 v n xs → ∀ i, v.ownBlock = some i → ¬ Only k i := by
    intro v e n xs ho i hi hik
    rcases ho.2 with ⟨rfl, _⟩ | ⟨g', cap, cur, rfl, _, hg', _⟩
    · cases hi
    · simp only [Value.ownBlock, Option.some.injEq] at hi
      subst hi
      have e : g' = k := hik
      rw [e, hk] at hg'
      cases hg'
  exact ⟨h.blk.mod hm (fun e => hne e.symm), h.labels, own_mod h.rowL hm (hrow h.rowL), by rw [Lib.iterAt_size]; exact h.sz, own_mod h.rowl hm (hrow h.rowl)⟩
theorem iter_kept {w wr : World} (h : Kept w wr) {k : Nat} (hk : w.heap.size ≤ k) (s : ByteArray) (p : Nat) : Kept w (wr.iterAt k s p) := by
  have hm : Mod (Only k) wr (wr.iterAt k s p) := ⟨rfl, rfl, by rw [Lib.iterAt_size]; exact Nat.le_refl _, fun i _ hi => Lib.iterAt_other wr k i s p (fun e => hi e)⟩
  exact h.only hm hk
def parS2 (s : ByteArray) : ByteArray := mkS (parseN (bys s)).1
def parE (s : ByteArray) : Int := (parseN (bys s)).2
set_option maxHeartbeats 4000000 in
set_option maxRecDepth 100000 in
theorem parse_any (s : ByteArray) (hs : s.size ≤ 1000000) (w : World) :
    Calls Try.prog 19 #[.string s] w fun e w' => e = .returned (.tuple #[.string (parS2 s), .int .i64 (parE s)]) ∧ Kept w w' := by
  by_cases hd : bys s = [46]
  · have t0 : (s.toList == [46]) = true := by rw [eq_lit, decide_eq_true_eq]; exact hd
    have HE := Lib.hid (show parseN (bys s) = ([0], 0) by unfold parseN; rw [if_pos hd])
    clear hd
    go_enter Try.func19, Try.ntmps19
    go_wp2_with fail
    refine bodyPost_ret (v := .tuple #[.string ⟨#[0]⟩, .int .i64 0]) (by simp [results, Try.results19, go_sem]) rfl ⟨?_, Kept.refl _⟩
    unfold parS2 parE
    rw [HE.out]; rfl
  · have t0 : (s.toList == [46]) = false := by rw [eq_lit, decide_eq_false_iff_not]; exact hd
    have HD := Lib.hid hd
    clear hd
    go_enter Try.func19, Try.ntmps19
    go_wp2_with fail
    go_loopg [6] s.size (fun k _ wr => ParRel s w k wr)
    case atStart => exact ⟨0, RS.start, by omega, iter_new w s, rdr_new w s, ⟨by decide, by decide, by simp [RS.start]⟩, ⟨by simp [RS.start], by simp [RS.start], by simp [RS.start]⟩, .inl ⟨rfl, by omega⟩, ((Kept.refl _).alloc _).alloc _⟩
    case round =>
      obtain ⟨pos, r, hk, hit, hR, hok, hfit, hgood, hm⟩ := hrel
      have HK := Lib.hid hk
      have HOK := Lib.hid hok
      have HFIT := Lib.hid hfit
      have HG := Lib.hid hgood
      have M := Lib.hid hm
      by_cases hlt : pos < s.size
      · have hpp : min pos s.size = pos := by omega
        obtain ⟨c, n, hdec, hc1, hn1, hgood2⟩ : ∃ c n : Nat, Utf8.decode s pos = (c, n) ∧ c ≤ 2147483647 ∧ 1 ≤ n ∧ Good s (pos + n) (r.read c) := by
          have hgb := bys_get s hlt
          by_cases ha : (s[pos]'hlt).toNat < 128
          · refine ⟨_, _, decode_ascii s pos hlt ha, by omega, Nat.le_refl 1, ?_⟩
            rcases hgood with ⟨h1, h2⟩ | ⟨h1, h2⟩
            · exact .inl ⟨by rw [reads_take hgb, ← h1], by omega⟩
            · exact .inr ⟨RS.read_bad _ _ h1, h2⟩
          · have hh := decode_high s pos hlt (by omega)
            have hl := decode_le s pos
            refine ⟨_, _, rfl, hl, hh.2, .inr ⟨?_, (s[pos]'hlt).toNat, List.mem_of_getElem? hgb, by omega⟩⟩
            unfold RS.read
            rw [if_pos (.inr (Nat.lt_of_lt_of_le (by omega) hh.1))]
        have hnx := fun ty => Lib.run_next_any_at (P := Try.prog) wr (w.heap.size + 1) s pos ty hit hlt
        rw [hdec] at hnx
        have HIT := Lib.hid hit
        have HR := Lib.hid hR
        have HLT := Lib.hid hlt
        have HC1 := Lib.hid hc1
        have HN1 := Lib.hid hn1
        have HG2 := Lib.hid hgood2
        have HPP := Lib.hid hpp
        clear hk hit hR hok hfit hgood hm hlt hdec hpp hc1 hn1 hgood2
        go_wp2_with fail
        obtain ⟨vL, vl, L, hV⟩ := HR.out
        have hit2 := Lib.iterAt_heap wr (w.heap.size + 1) s pos (pos + n) HIT.out
        have hf := HFIT.out
        rw [HPP.out] at hf
        have hps := HLT.out
        refine (read_any w.heap.size (w.heap.size + 2) r HOK.out c HC1.out (by have := hf.1; omega) (by have := hf.2.1; omega) _ ⟨_, _, _, hV.iterAt HIT.out _⟩).mono ?_
        rintro e w2 ⟨rfl, hR2, m2⟩
        have HIT2 := Lib.hid ((m2.block (w.heap.size + 1) (Array.getElem?_eq_some_iff.1 hit2).1 (by intro e; rcases e with e | e <;> omega)).trans hit2)
        have M2 := Lib.hid (Mod.trans (iter_kept M.out (Nat.le_succ _) s (pos + n)) m2 (fun i hi e => by rcases e with e | e <;> omega))
        have HR2 := Lib.hid hR2
        have HF := Lib.hid hf
        clear hit2 hV hR2 m2 hnx hps hf
        go_wp2_with fail
        go_roundg (s.size - (pos + n))
        case measure => have := HK.out; have := HLT.out; have := HN1.out; omega
        case rel => exact ⟨pos + n, r.read c, rfl, HIT2.out, HR2.out, RS.ok_read HOK.out c, RS.fit_mono (RS.fit_read HF.out c) (by have := HLT.out; have := HN1.out; omega), HG2.out, M2.out⟩
      · have hpp : min pos s.size = s.size := by omega
        rw [hpp] at hfit
        have HP := Lib.hid (hgood.parse (by omega) HD.out)
        have hnx := fun ty => Lib.run_next_end_at (P := Try.prog) wr (w.heap.size + 1) s pos ty hit hlt
        obtain ⟨vL, vl, L, hV⟩ := hR
        obtain ⟨⟨c0, c1, c2, c3, c4, c5, c6⟩, f0, f1, f2, f3, f4, f5, f6⟩ := hV.cells
        have HV := Lib.hid hV
        replace HFIT := Lib.hid hfit
        clear hk hit hok hfit hgood hm hlt hpp HG hV
        cases hdot : r.dotted with
        | true =>
          have HE := Lib.hid (show parseN (bys s) = r.ends by rw [HP.out]; unfold RS.done; rw [hdot]; rfl)
          rw [hdot] at c6
          clear hdot
          have HFF := Lib.hid (RS.fit_mono HFIT.out (Nat.le_succ s.size))
          have hlb := HV.out.labels
          have hfit2 := HFF.out
          have HRD := Lib.hid HV.out.rowL.rd
          have hcase : r.bad = true ∨ (r.bad = false ∧ r.escape = true) ∨ (r.bad = false ∧ r.escape = false) := by
            cases r.bad <;> cases r.escape <;> simp
          rcases hcase with hb | ⟨hb, he⟩ | ⟨hb, he⟩
          · have HEE := Lib.hid (show parseN (bys s) = ([], 3) by rw [HE.out]; unfold RS.ends; rw [hb]; rfl)
            rw [hb] at c5
            clear hb hlb hfit2
            go_wp2_with fail
            refine bodyPost_ret (v := .tuple #[.string ⟨#[]⟩, .int .i64 3]) (by simp [results, Try.results19, go_sem]) rfl ⟨?_, M.out⟩
            unfold parS2 parE
            rw [HEE.out]; rfl
          · have HEE := Lib.hid (show parseN (bys s) = ([], 3) by rw [HE.out]; unfold RS.ends; rw [hb, he]; rfl)
            rw [hb] at c5
            rw [he] at c2
            clear hb he hlb hfit2
            go_wp2_with fail
            refine bodyPost_ret (v := .tuple #[.string ⟨#[]⟩, .int .i64 3]) (by simp [results, Try.results19, go_sem]) rfl ⟨?_, M.out⟩
            unfold parS2 parE
            rw [HEE.out]; rfl
          · have HEE := Lib.hid (show parseN (bys s) = if joinErr (lbs L) = 0 then (joinN (lbs L), 0) else ([], 5) by rw [HE.out, hlb]; unfold RS.ends; rw [hb, he]; rfl)
            have hl1 : L.length ≤ 1000000000 := by
              have h1 := congrArg List.length hlb
              rw [lbs_length] at h1
              have := hfit2.2.1
              omega
            have hl2 : ∀ x ∈ L, x.size < 2 ^ 62 := by
              intro x hx
              have h1 := hfit2.2.2 (bys x) (by rw [← hlb]; exact List.mem_map.2 ⟨x, hx, rfl⟩)
              rw [bys_length] at h1
              omega
            have HJ := Lib.hid (fun w h => join_any vL L hl1 hl2 w h)
            rw [hb] at c5
            rw [he] at c2
            clear hb he hlb hfit2 hl1 hl2
            go_wp2_with fail
            refine (HJ.out _ HRD.out).mono ?_
            rintro e w5 ⟨rfl, m5⟩
            replace M := Lib.hid (M.out.then m5)
            clear m5
            obtain ⟨q, hq⟩ : ∃ q, q = joinErr (lbs L) := ⟨_, rfl⟩
            rw [← hq]
            have HQ := Lib.hid hq
            by_cases h0 : q = 0
            · have tq : (q != 0) = false := by rw [h0]; rfl
              have H0 := Lib.hid h0
              clear h0 hq
              go_wp2_with fail
              refine bodyPost_ret (v := .tuple #[.string (joinS L), .int .i64 0]) (by simp [results, Try.results19, go_sem]) rfl ⟨?_, M.out⟩
              unfold parS2 parE joinS
              rw [HEE.out, ← HQ.out, H0.out]; rfl
            · have tq : (q != 0) = true := by simp [h0]
              have H0 := Lib.hid h0
              clear h0 hq
              go_wp2_with fail
              refine bodyPost_ret (v := .tuple #[.string ⟨#[]⟩, .int .i64 5]) (by simp [results, Try.results19, go_sem]) rfl ⟨?_, M.out⟩
              unfold parS2 parE
              rw [HEE.out, ← HQ.out, if_neg H0.out]; rfl
        | false =>
          have HE := Lib.hid (show parseN (bys s) = r.fin.ends by rw [HP.out]; unfold RS.done; rw [hdot]; rfl)
          rw [hdot] at c6
          clear hdot
          go_wp2_with fail
          have hf := HFIT.out
          refine (fin_any w.heap.size (w.heap.size + 2) r HOK.out _ ⟨_, _, _, HV.out⟩ (by have := hf.1; omega) (by have := hf.2.1; omega)).mono ?_
          rintro e w2 ⟨rfl, ⟨vL2, vl2, L2, hV2⟩, m2⟩
          clear c0 c1 c2 c3 c4 c5 c6 f0 f1 f2 f3 f4 f5 f6
          obtain ⟨⟨c0, c1, c2, c3, c4, c5, c6⟩, f0, f1, f2, f3, f4, f5, f6⟩ := hV2.cells
          have HF := Lib.hid (RS.fit_fin hf)
          have HV2 := Lib.hid hV2
          replace M := Lib.hid (Mod.trans M.out m2 (fun i hi e => by rcases e with e | e <;> omega))
          clear m2 hf hV2 HV
          have hlb := HV2.out.labels
          have hfit2 := HF.out
          have HRD := Lib.hid HV2.out.rowL.rd
          have hcase : r.fin.bad = true ∨ (r.fin.bad = false ∧ r.fin.escape = true) ∨ (r.fin.bad = false ∧ r.fin.escape = false) := by
            cases r.fin.bad <;> cases r.fin.escape <;> simp
          rcases hcase with hb | ⟨hb, he⟩ | ⟨hb, he⟩
          · have HEE := Lib.hid (show parseN (bys s) = ([], 3) by rw [HE.out]; unfold RS.ends; rw [hb]; rfl)
            rw [hb] at c5
            clear hb hlb hfit2
            go_wp2_with fail
            refine bodyPost_ret (v := .tuple #[.string ⟨#[]⟩, .int .i64 3]) (by simp [results, Try.results19, go_sem]) rfl ⟨?_, M.out⟩
            unfold parS2 parE
            rw [HEE.out]; rfl
          · have HEE := Lib.hid (show parseN (bys s) = ([], 3) by rw [HE.out]; unfold RS.ends; rw [hb, he]; rfl)
            rw [hb] at c5
            rw [he] at c2
            clear hb he hlb hfit2
            go_wp2_with fail
            refine bodyPost_ret (v := .tuple #[.string ⟨#[]⟩, .int .i64 3]) (by simp [results, Try.results19, go_sem]) rfl ⟨?_, M.out⟩
            unfold parS2 parE
            rw [HEE.out]; rfl
          · have HEE := Lib.hid (show parseN (bys s) = if joinErr (lbs L2) = 0 then (joinN (lbs L2), 0) else ([], 5) by rw [HE.out, hlb]; unfold RS.ends; rw [hb, he]; rfl)
            have hl1 : L2.length ≤ 1000000000 := by
              have h1 := congrArg List.length hlb
              rw [lbs_length] at h1
              have := hfit2.2.1
              omega
            have hl2 : ∀ x ∈ L2, x.size < 2 ^ 62 := by
              intro x hx
              have h1 := hfit2.2.2 (bys x) (by rw [← hlb]; exact List.mem_map.2 ⟨x, hx, rfl⟩)
              rw [bys_length] at h1
              omega
            have HJ := Lib.hid (fun w h => join_any vL2 L2 hl1 hl2 w h)
            rw [hb] at c5
            rw [he] at c2
            clear hb he hlb hfit2 hl1 hl2
            go_wp2_with fail
            refine (HJ.out _ HRD.out).mono ?_
            rintro e w5 ⟨rfl, m5⟩
            replace M := Lib.hid (M.out.then m5)
            clear m5
            obtain ⟨q, hq⟩ : ∃ q, q = joinErr (lbs L2) := ⟨_, rfl⟩
            rw [← hq]
            have HQ := Lib.hid hq
            by_cases h0 : q = 0
            · have tq : (q != 0) = false := by rw [h0]; rfl
              have H0 := Lib.hid h0
              clear h0 hq
              go_wp2_with fail
              refine bodyPost_ret (v := .tuple #[.string (joinS L2), .int .i64 0]) (by simp [results, Try.results19, go_sem]) rfl ⟨?_, M.out⟩
              unfold parS2 parE joinS
              rw [HEE.out, ← HQ.out, H0.out]; rfl
            · have tq : (q != 0) = true := by simp [h0]
              have H0 := Lib.hid h0
              clear h0 hq
              go_wp2_with fail
              refine bodyPost_ret (v := .tuple #[.string ⟨#[]⟩, .int .i64 5]) (by simp [results, Try.results19, go_sem]) rfl ⟨?_, M.out⟩
              unfold parS2 parE
              rw [HEE.out, ← HQ.out, if_neg H0.out]; rfl
end Go.Proofs.Ytafeepokcakmkaa
