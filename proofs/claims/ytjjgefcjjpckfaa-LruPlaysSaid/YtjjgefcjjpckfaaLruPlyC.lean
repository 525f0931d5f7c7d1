/- LruPlays, walked: the loop over the acts. Conditions: none. -/
import Derived.Test.YtjjgefcjjpckfaaLruPlyB
namespace Go.Proofs.Ytjjgefcjjpckfaa
open Go.RowKit

/-- How both lists stand ahead of an act. -/
structure Both (acts : List (Int × Int)) (n : Int) (w : World) (g b : Nat) (R : List Nat) (v : Value) (wr : World) : Prop where
  l : Lru wr g n R
  x : RefL wr b n R v
  ne : ∀ k, foot b v k → k ≠ g
  old : ∀ k, foot b v k → w.heap.size ≤ k
  gold : w.heap.size ≤ g
  kept : Kept w wr
def PlyRel (acts : List (Int × Int)) (n : Int) (w : World) (k : Nat) (l x i : Value) (wr : World) : Prop :=
  ∃ (g b : Nat) (R : List Nat) (v : Value) (j : Nat), l = At g ∧ x = At b ∧ i = .int .i64 j ∧ j + k = acts.length ∧ Both acts n w g b R v wr

section
variable {acts : List (Int × Int)} {n : Int} {w wr w' : World} {g b : Nat} {R R' : List Nat} {v v' : Value}
theorem Both.keep (h : Both acts n w g b R v wr) (hk : Kept wr w') : Both acts n w g b R v w' :=
  ⟨h.l.mod hk (fun e => e), h.x.mod hk (fun _ _ e => e), h.ne, h.old, h.gold, h.kept.then hk⟩
/-- Behind what was done with the list, and then with the document's. -/
theorem Both.step {w2 : World} (h : Both acts n w g b R v wr) (h1 : Lru w' g n R') (m1 : Mod (Only g) wr w') (h2 : RefL w2 b n R' v') (m2 : Mod (Only b) w' w2) (hb : ∀ k, v'.ownBlock = some k → foot b v k ∨ w'.heap.size ≤ k) : Both acts n w g b R' v' w2 := by
  have hgl := h.l.lt
  have hne : g ≠ b := fun e => h.ne b (.inl rfl) e.symm
  refine ⟨h1.mod m2 (fun e => hne e), h2, fun k hk e => ?_, fun k hk => ?_, h.gold, ?_⟩
  · rcases hk with rfl | hk
    · exact hne e.symm
    · rcases hb k hk with hk | hk
      · exact h.ne k hk e
      · have := m1.size; omega
  · rcases hk with rfl | hk
    · exact h.old k (.inl rfl)
    · rcases hb k hk with hk | hk
      · exact h.old k hk
      · have := h.gold; have := m1.size; omega
  · exact (h.kept.only m1 h.gold).only m2 (h.old b (.inl rfl))
theorem Both.mid (h : Both acts n w g b R v wr) (m1 : Mod (Only g) wr w') : RefL w' b n R v := h.x.mod m1 (fun k hk e => h.ne k hk e)
theorem Both.len (h : Both acts n w g b R v wr) : R.length ≤ 256 := by have := h.l.length; have := h.l.range; omega
end

set_option maxHeartbeats 4000000 in
set_option maxRecDepth 100000 in
theorem plays_ok (v : Value) (n : Int) (h0 : 0 ≤ n) (h1 : n ≤ 256) (acts : List (Int × Int)) (hl : acts.length ≤ 1000) (w : World) (hv : RdA w v acts) :
    Calls Try.prog 8 #[.int .i64 n, v] w fun e w' => e = .returned (.bool true) ∧ Kept w w' := by
  have H := Lib.hid hv
  obtain ⟨_, A, c, rfl, _⟩ := hv
  have hl1 : (acts.length : Int) ≤ 1000 := by omega
  go_enter Try.func8, Try.ntmps8
  go_wp2_with fail
  refine (lru_new n h0 h1 _).mono ?_
  rintro e w1 ⟨rfl, hL1, hm1⟩
  go_wp2_with fail
  refine (ref_new n h0 h1 _).mono ?_
  rintro e w2 ⟨rfl, hX2, hm2⟩
  have hgl : w.heap.size < w1.heap.size := hL1.lt
  have hB : Both acts n w w.heap.size w1.heap.size [] (.slice none 0 0) w2 := by
    have key : ∀ k, foot w1.heap.size (.slice none 0 0) k → k = w1.heap.size := fun k hk => by
      rcases hk with hk | hk
      · exact hk
      · cases hk
    exact ⟨hL1.mod hm2 (fun e => e), hX2, fun k hk e => by have := key k hk; omega, fun k hk => by have := key k hk; omega, Nat.le_refl _, hm1.then hm2⟩
  clear hL1 hm1 hX2 hm2
  generalize hgg : w.heap.size = g0 at *
  generalize w1.heap.size = b0 at *
  have hd : decide ((1000 : Int) < acts.length) = false := by simp; omega
  have HGG := Lib.hid hgg
  clear hgg
  go_wp2_with fail
  go_loopg [5, 7, 9, 10, 11] acts.length (fun k l x i _ _ wr => PlyRel acts n w k l x i wr)
  case atStart => exact ⟨g0, b0, [], _, 0, rfl, rfl, rfl, by omega, hB⟩
  case round =>
    obtain ⟨g, b, R, vx, j, rfl, rfl, rfl, hj, hBo⟩ := hrel
    have HJ := Lib.hid hj
    have hjl : j ≤ acts.length := by omega
    have hRl := hBo.len
    clear hj hB
    by_cases hlt : j < acts.length
    · obtain ⟨b1, o1, c1', e1, hb, g1⟩ := H.out.at hlt
      injection e1 with e1 _ e1'
      subst e1 e1'
      obtain ⟨q1, q2⟩ := actCells_get acts j hlt
      have f1 := g1 _ _ q1
      have f2 := g1 _ _ q2
      clear g1 q1 q2
      rw [← hBo.kept.cell (p := ⟨b1, o1 + j * 2, none⟩) hb (fun e => e)] at f1
      rw [← hBo.kept.cell (p := ⟨b1, o1 + (j * 2 + 1), none⟩) hb (fun e => e), ← Nat.add_assoc] at f2
      have i1 : (j : Int) < acts.length := by omega
      generalize acts[j] = a at *
      obtain ⟨a1, a2⟩ := a
      have HBo := Lib.hid hBo
      have hga : g < wr.heap.size := hBo.l.lt
      have hba : b < wr.heap.size := hBo.x.lt
      have hao : w.heap.size ≤ wr.heap.size := hBo.kept.size
      clear hBo
      have hga2 : wr.heap.size ≠ g := by omega
      have hba2 : wr.heap.size ≠ b := by omega
      have q0 : ((wr.alloc (.cells #[.int .u8 a1, .int .i64 a2] 31)).drew).cell? ⟨wr.heap.size, 1, none⟩ = some (.int .i64 a2) := (Blk.new wr _ #[.int .u8 a1, .int .i64 a2]).cell 1
      have hBa : Both acts n w g b R vx ((wr.alloc (.cells #[.int .u8 a1, .int .i64 a2] 31)).drew) := HBo.out.keep (((Kept.refl _).alloc _).drew)
      have hsz0 : wr.heap.size < ((wr.alloc (.cells #[.int .u8 a1, .int .i64 a2] 31)).drew).heap.size := by simp
      have HBa := Lib.hid hBa
      have HM := Lib.hid HBo.out.l.mem
      have HQ0 := Lib.hid q0
      have HSZ := Lib.hid hsz0
      clear q0 hBa hsz0
      by_cases hd0 : a1 = 0
      · have t0 : (a1 == 0) = true := by simp [hd0]
        have t1 : (a1 == 1) = false := by simp [hd0]
        have t2 : (a1 == 2) = false := by simp [hd0]
        clear hd0
        go_wp2_with fail
        go_region_held3 (fun w' => w'.cell? ⟨wr.heap.size, 1, none⟩ = some (.int .i64 a2)) (first | exact HQ0.out | exact q3 | exact q4)
          (first | (go_at_call 16; refine (lru_use g n R a2 _ (by exact HBa.out.l)).mono ?_; rintro e w3 ⟨rfl, hL3, hm3⟩; have q3 : w3.cell? ⟨wr.heap.size, 1, none⟩ = some (.int .i64 a2) := (hm3.cell (p := ⟨wr.heap.size, 1, none⟩) HSZ.out hga2).trans HQ0.out) | (go_at_call 22; refine (ref_use_c b n R vx a2 HM.out (by have := hL3.length; omega) _ (HBa.out.mid hm3)).mono ?_; rintro e w4 ⟨rfl, v4, hX4, hm4, hk4⟩; have hB4 := HBa.out.step hL3 hm3 hX4 hm4 hk4; have hlt4 : wr.heap.size < w4.heap.size := Nat.lt_of_lt_of_le HSZ.out (Nat.le_trans hm3.size hm4.size); have q4 : w4.cell? ⟨wr.heap.size, 1, none⟩ = some (.int .i64 a2) := (hm4.cell (p := ⟨wr.heap.size, 1, none⟩) (Nat.lt_of_lt_of_le HSZ.out hm3.size) hba2).trans q3))
        have HLT := Lib.hid hlt4
        clear hlt4 hX4 hm4 hk4 hL3 hm3 q3
        have hRm := hB4.l.mem
        obtain ⟨qq, hqq⟩ : ∃ qq : Bool, lHas n (lUse n R a2) a2 = qq := ⟨_, rfl⟩
        have hqr : refHas (lUse n R a2) a2 = qq := by rw [refHas_eq hRm, hqq]
        have HQQ := Lib.hid (And.intro hqq hqr)
        have HBt := Lib.hid (hB4.keep ((Kept.refl _).drew))
        have HQt := Lib.hid q4
        have hsz9 := hB4.kept.size
        have HST := Lib.hid hsz9
        clear hRm hqq hqr hsz9 hB4 q4
        go_wp2_with fail
        go_region_held3 (fun w' => w'.cell? ⟨wr.heap.size, 1, none⟩ = some (.int .i64 a2)) (first | exact HQt.out | exact q9)
          (first | (go_at_call 12; refine (lru_has_to g n _ a2 _ (by exact HBt.out.l) qq HQQ.out.1).mono ?_; rintro e w9 ⟨rfl, rfl⟩) | (go_at_call 25; refine (ref_has_to b n _ _ a2 _ (by exact HBt.out.x) qq HQQ.out.2).mono ?_; rintro e w9 ⟨rfl, rfl⟩) | (go_at_call 26; refine (alike_c g b n n _ _ _ (by exact HBt.out.l) (by exact HBt.out.x)).mono ?_; rintro e w9 ⟨rfl, hm9⟩; have q9 : w9.cell? ⟨wr.heap.size, 1, none⟩ = some (.int .i64 a2) := (hm9.cell (p := ⟨wr.heap.size, 1, none⟩) (by exact HLT.out) (fun e => e)).trans HQt.out))
        go_wp2_with fail
        go_roundg (acts.length - (j + 1))
        case measure => have := HJ.out; omega
        case rel => exact ⟨g, b, _, _, j + 1, rfl, rfl, by go_num, by omega, HBt.out.keep hm9⟩
      by_cases hd1 : a1 = 1
      · have t0 : (a1 == 0) = false := by simp [hd1]
        have t1 : (a1 == 1) = true := by simp [hd1]
        have t2 : (a1 == 2) = false := by simp [hd1]
        clear hd1
        go_wp2_with fail
        go_region_held3 (fun w' => w'.cell? ⟨wr.heap.size, 1, none⟩ = some (.int .i64 a2)) (first | exact HQ0.out | exact q3 | exact q4)
          (first | (go_at_call 14; refine (lru_drop g n R a2 _ (by exact HBa.out.l)).mono ?_; rintro e w3 ⟨rfl, hL3, hm3⟩; have q3 : w3.cell? ⟨wr.heap.size, 1, none⟩ = some (.int .i64 a2) := (hm3.cell (p := ⟨wr.heap.size, 1, none⟩) HSZ.out hga2).trans HQ0.out) | (go_at_call 23; refine (ref_drop_c b n R vx a2 HM.out _ (HBa.out.mid hm3)).mono ?_; rintro e w4 ⟨rfl, v4, hX4, hm4, hk4⟩; have hB4 := HBa.out.step hL3 hm3 hX4 hm4 hk4; have hlt4 : wr.heap.size < w4.heap.size := Nat.lt_of_lt_of_le HSZ.out (Nat.le_trans hm3.size hm4.size); have q4 : w4.cell? ⟨wr.heap.size, 1, none⟩ = some (.int .i64 a2) := (hm4.cell (p := ⟨wr.heap.size, 1, none⟩) (Nat.lt_of_lt_of_le HSZ.out hm3.size) hba2).trans q3))
        have HLT := Lib.hid hlt4
        clear hlt4 hX4 hm4 hk4 hL3 hm3 q3
        have hRm := hB4.l.mem
        obtain ⟨qq, hqq⟩ : ∃ qq : Bool, lHas n (lDrop n R a2) a2 = qq := ⟨_, rfl⟩
        have hqr : refHas (lDrop n R a2) a2 = qq := by rw [refHas_eq hRm, hqq]
        have HQQ := Lib.hid (And.intro hqq hqr)
        have HBt := Lib.hid (hB4.keep ((Kept.refl _).drew))
        have HQt := Lib.hid q4
        have hsz9 := hB4.kept.size
        have HST := Lib.hid hsz9
        clear hRm hqq hqr hsz9 hB4 q4
        go_wp2_with fail
        go_region_held3 (fun w' => w'.cell? ⟨wr.heap.size, 1, none⟩ = some (.int .i64 a2)) (first | exact HQt.out | exact q9)
          (first | (go_at_call 12; refine (lru_has_to g n _ a2 _ (by exact HBt.out.l) qq HQQ.out.1).mono ?_; rintro e w9 ⟨rfl, rfl⟩) | (go_at_call 25; refine (ref_has_to b n _ _ a2 _ (by exact HBt.out.x) qq HQQ.out.2).mono ?_; rintro e w9 ⟨rfl, rfl⟩) | (go_at_call 26; refine (alike_c g b n n _ _ _ (by exact HBt.out.l) (by exact HBt.out.x)).mono ?_; rintro e w9 ⟨rfl, hm9⟩; have q9 : w9.cell? ⟨wr.heap.size, 1, none⟩ = some (.int .i64 a2) := (hm9.cell (p := ⟨wr.heap.size, 1, none⟩) (by exact HLT.out) (fun e => e)).trans HQt.out))
        go_wp2_with fail
        go_roundg (acts.length - (j + 1))
        case measure => have := HJ.out; omega
        case rel => exact ⟨g, b, _, _, j + 1, rfl, rfl, by go_num, by omega, HBt.out.keep hm9⟩
      by_cases hc : a1 = 2
      · have t0 : (a1 == 0) = false := by simp [hc]
        have t1 : (a1 == 1) = false := by simp [hc]
        have t2 : (a1 == 2) = true := by simp [hc]
        clear hc
        go_wp2_with fail
        have hB3 := HBo.out.keep ((Kept.refl _).alloc (.cells #[.int .u8 a1, .int .i64 a2] 31))
        have q3 : (wr.alloc (.cells #[.int .u8 a1, .int .i64 a2] 31)).cell? ⟨wr.heap.size, 1, none⟩ = some (.int .i64 a2) := HQ0.out
        refine (lru_copy g n R _ hB3.l).mono ?_
        rintro e w3 ⟨rfl, hLc, hm3⟩
        have hsz3 : wr.heap.size < (wr.alloc (.cells #[.int .u8 a1, .int .i64 a2] 31)).heap.size := HSZ.out
        have q4 : w3.cell? ⟨wr.heap.size, 1, none⟩ = some (.int .i64 a2) := (hm3.cell (p := ⟨wr.heap.size, 1, none⟩) hsz3 (fun e => e)).trans q3
        have hgcg : g < (wr.alloc (.cells #[.int .u8 a1, .int .i64 a2] 31)).heap.size := by omega
        have hB4 := hB3.keep hm3
        have hgo : w.heap.size ≤ (wr.alloc (.cells #[.int .u8 a1, .int .i64 a2] 31)).heap.size := by omega
        generalize (wr.alloc (.cells #[.int .u8 a1, .int .i64 a2] 31)).heap.size = gc at *
        have hgc3 : gc < w3.heap.size := hLc.lt
        clear hB3 q3 hm3
        go_wp2_with fail
        refine (lru_use g n R a2 _ hB4.l).mono ?_
        rintro e w4 ⟨rfl, hL4, hm4⟩
        go_wp2_with fail
        refine (lru_use g n _ 0 _ hL4).mono ?_
        rintro e w5 ⟨rfl, hL5, hm5⟩
        go_wp2_with fail
        refine (lru_drop g n _ 1 _ hL5).mono ?_
        rintro e w6 ⟨rfl, hL6, hm6⟩
        have hm46 : Mod (Only g) w3 w6 := (hm4.then hm5).then hm6
        have hLc6 := hLc.mod hm46 (fun e => by have e : gc = g := e; omega)
        have hX6 := hB4.mid hm46
        have q6 : w6.cell? ⟨wr.heap.size, 1, none⟩ = some (.int .i64 a2) := (hm46.cell (p := ⟨wr.heap.size, 1, none⟩) (Nat.lt_trans hsz3 hgc3) hga2).trans q4
        have hk6 := hB4.kept.only hm46 hB4.gold
        have hs36 := hm46.size
        clear hLc hL4 hL5 hL6 hm4 hm5 hm6 hm46 hB4 q4
        go_wp2_with fail
        refine (ref_copy b n R vx _ hX6).mono ?_
        rintro e w7 ⟨gx, v7, rfl, hX7, hk7, hgx, hv7⟩
        have q7 : w7.cell? ⟨wr.heap.size, 1, none⟩ = some (.int .i64 a2) := (hk7.cell (p := ⟨wr.heap.size, 1, none⟩) (by simp only; omega) (fun e => e)).trans q6
        have hft : ∀ k, foot gx v7 k → w6.heap.size ≤ k := fun k hk => by
          rcases hk with hk | hk
          · omega
          · exact hv7 k hk
        have hB7 : Both acts n w gc gx R v7 w7 := ⟨hLc6.mod hk7 (fun e => e), hX7, fun k hk => by have := hft k hk; omega, fun k hk => by have := hft k hk; omega, hgo, hk6.then hk7⟩
        have hlt7 : wr.heap.size < w7.heap.size := by have := hk7.size; omega
        have HLT := Lib.hid hlt7
        clear hlt7 hft hX7 hk7 hgx hv7 hLc6 hX6 q6 hk6 hs36 hgcg hgo hsz3 hgc3
        have hRm := hB7.l.mem
        obtain ⟨qq, hqq⟩ : ∃ qq : Bool, lHas n R a2 = qq := ⟨_, rfl⟩
        have hqr : refHas R a2 = qq := by rw [refHas_eq hRm, hqq]
        have HQQ := Lib.hid (And.intro hqq hqr)
        have HBt := Lib.hid (hB7.keep ((Kept.refl _).drew))
        have HQt := Lib.hid q7
        have hsz9 := hB7.kept.size
        have HST := Lib.hid hsz9
        clear hRm hqq hqr hsz9 hB7 q7
        go_wp2_with fail
        go_region_held3 (fun w' => w'.cell? ⟨wr.heap.size, 1, none⟩ = some (.int .i64 a2)) (first | exact HQt.out | exact q9)
          (first | (go_at_call 12; refine (lru_has_to gc n _ a2 _ (by exact HBt.out.l) qq HQQ.out.1).mono ?_; rintro e w9 ⟨rfl, rfl⟩) | (go_at_call 25; refine (ref_has_to gx n _ _ a2 _ (by exact HBt.out.x) qq HQQ.out.2).mono ?_; rintro e w9 ⟨rfl, rfl⟩) | (go_at_call 26; refine (alike_c gc gx n n _ _ _ (by exact HBt.out.l) (by exact HBt.out.x)).mono ?_; rintro e w9 ⟨rfl, hm9⟩; have q9 : w9.cell? ⟨wr.heap.size, 1, none⟩ = some (.int .i64 a2) := (hm9.cell (p := ⟨wr.heap.size, 1, none⟩) (by exact HLT.out) (fun e => e)).trans HQt.out))
        go_wp2_with fail
        go_roundg (acts.length - (j + 1))
        case measure => have := HJ.out; omega
        case rel => exact ⟨gc, gx, _, _, j + 1, rfl, rfl, by go_num, by omega, HBt.out.keep hm9⟩
      have t0 : (a1 == 0) = false := by simp [hd0]
      have t1 : (a1 == 1) = false := by simp [hd1]
      have t2 : (a1 == 2) = false := by simp [hc]
      have hB4 := HBo.out.keep ((Kept.refl _).alloc (.cells #[.int .u8 a1, .int .i64 a2] 31))
      have q4 : (wr.alloc (.cells #[.int .u8 a1, .int .i64 a2] 31)).cell? ⟨wr.heap.size, 1, none⟩ = some (.int .i64 a2) := HQ0.out
      have HLT := Lib.hid (show wr.heap.size < (wr.alloc (.cells #[.int .u8 a1, .int .i64 a2] 31)).heap.size from HSZ.out)
      clear hc hd0 hd1
      have hRm := hB4.l.mem
      obtain ⟨qq, hqq⟩ : ∃ qq : Bool, lHas n R a2 = qq := ⟨_, rfl⟩
      have hqr : refHas R a2 = qq := by rw [refHas_eq hRm, hqq]
      have HQQ := Lib.hid (And.intro hqq hqr)
      have HBt := Lib.hid (hB4.keep ((Kept.refl _).drew))
      have HQt := Lib.hid q4
      have hsz9 := hB4.kept.size
      have HST := Lib.hid hsz9
      clear hRm hqq hqr hsz9 hB4 q4
      go_wp2_with fail
      go_region_held3 (fun w' => w'.cell? ⟨wr.heap.size, 1, none⟩ = some (.int .i64 a2)) (first | exact HQt.out | exact q9)
        (first | (go_at_call 12; refine (lru_has_to g n _ a2 _ (by exact HBt.out.l) qq HQQ.out.1).mono ?_; rintro e w9 ⟨rfl, rfl⟩) | (go_at_call 25; refine (ref_has_to b n _ _ a2 _ (by exact HBt.out.x) qq HQQ.out.2).mono ?_; rintro e w9 ⟨rfl, rfl⟩) | (go_at_call 26; refine (alike_c g b n n _ _ _ (by exact HBt.out.l) (by exact HBt.out.x)).mono ?_; rintro e w9 ⟨rfl, hm9⟩; have q9 : w9.cell? ⟨wr.heap.size, 1, none⟩ = some (.int .i64 a2) := (hm9.cell (p := ⟨wr.heap.size, 1, none⟩) (by exact HLT.out) (fun e => e)).trans HQt.out))
      go_wp2_with fail
      go_roundg (acts.length - (j + 1))
      case measure => have := HJ.out; omega
      case rel => exact ⟨g, b, _, _, j + 1, rfl, rfl, by go_num, by omega, HBt.out.keep hm9⟩
    · obtain rfl : j = acts.length := by omega
      have hk := hBo.kept
      clear hBo
      go_wp2_with fail
      refine (awake_c _).mono ?_
      rintro e w9 ⟨rfl, hm9⟩
      go_wp2_with fail
      go_ret
      exact ⟨rfl, hk.then hm9⟩
end Go.Proofs.Ytjjgefcjjpckfaa
