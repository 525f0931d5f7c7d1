/- SipOn: the walk. -/
import Derived.Test.YtjabpekndgnhmaaSipTel
namespace Go.Proofs.Ytjabpekndgnhmaa
open Go.RowKit

theorem str_of_all {k0 k1 : Nat} (h0 : k0 < M64) (h1 : k1 < M64) (s : ByteArray) : Str (writeH (newH k0 k1) (bys s)) k0 k1 (bys s) := by
  have := str_write (bys s) (str_new h0 h1) (bys_lt s)
  simpa using this
/-- A hash in memory that has taken the bytes l. -/
def IsS (w : World) (b : Nat) (k0 k1 : Nat) (l : List Nat) : Prop := ∃ h, IsH w b h ∧ Str h k0 k1 l
theorem IsS.mod {S : Nat → Prop} {w w' : World} {b k0 k1 : Nat} {l : List Nat} (hh : IsS w b k0 k1 l) (hm : Mod S w w') (hn : ¬ S b) : IsS w' b k0 k1 l := by
  obtain ⟨h, h1, h2⟩ := hh
  exact ⟨h, h1.mod hm hn, h2⟩
theorem s_new (k0 k1 : Nat) (h0 : k0 < M64) (h1 : k1 < M64) (w : World) :
    Calls Try.prog 11 #[.int .u64 k0, .int .u64 k1] w fun e w' => ∃ g, e = .returned (.pointer (some ⟨g, 0, none⟩)) ∧ w.heap.size ≤ g ∧ IsS w' g k0 k1 [] ∧ Kept w w' := by
  refine (new_any k0 k1 h0 h1 w).mono ?_
  rintro e w' ⟨g, rfl, hg, hh, hk⟩
  exact ⟨g, rfl, hg, ⟨_, hh, str_new h0 h1⟩, hk⟩
theorem s_write (b k0 k1 : Nat) (l : List Nat) (s : ByteArray) (hn : l.length + s.size < 2 ^ 62) (w : World) (hh : IsS w b k0 k1 l) :
    Calls Try.prog 12 #[.pointer (some ⟨b, 0, none⟩), .string s] w fun e w' => e = .returned (.int .i64 0) ∧ IsS w' b k0 k1 (l ++ bys s) ∧ Mod (Only b) w w' := by
  obtain ⟨h, h1, h2⟩ := hh
  refine (write_any b h s h2.ok (by rw [h2.n]; exact hn) w h1).mono ?_
  rintro e w' ⟨rfl, hh, hm⟩
  rw [h2.ready] at hh
  exact ⟨rfl, ⟨_, hh, str_write _ h2 (bys_lt s)⟩, hm⟩
theorem s_sum (b k0 k1 : Nat) (l : List Nat) (hn : l.length < 2 ^ 62) (w : World) (hh : IsS w b k0 k1 l) :
    Calls Try.prog 13 #[.pointer (some ⟨b, 0, none⟩)] w fun e w' => e = .returned (.int .u64 (sipOf k0 k1 l : Nat)) ∧ Kept w w' := by
  obtain ⟨h, h1, h2⟩ := hh
  refine (sum_any b h h2.ok (by rw [h2.n]; exact hn) w h1).mono ?_
  rintro e w' ⟨rfl, hm⟩
  rw [str_sum h2]
  exact ⟨rfl, hm⟩
theorem s_len (b k0 k1 : Nat) (l : List Nat) (w : World) (hh : IsS w b k0 k1 l) (r : Int) (hr : (l.length : Int) = r) :
    Calls Try.prog 14 #[.pointer (some ⟨b, 0, none⟩)] w fun e w' => e = .returned (.int .i64 r) ∧ w' = w := by
  obtain ⟨h, h1, h2⟩ := hh
  refine (len_any b h w h1).mono ?_
  rintro e w' ⟨rfl, hm⟩
  rw [h2.n, hr]
  exact ⟨rfl, hm⟩
theorem s_copy (b k0 k1 : Nat) (l : List Nat) (w : World) (hh : IsS w b k0 k1 l) :
    Calls Try.prog 15 #[.pointer (some ⟨b, 0, none⟩)] w fun e w' => ∃ g, e = .returned (.pointer (some ⟨g, 0, none⟩)) ∧ w.heap.size ≤ g ∧ IsS w' g k0 k1 l ∧ Kept w w' := by
  obtain ⟨h, h1, h2⟩ := hh
  refine (copy_any b h w h1).mono ?_
  rintro e w' ⟨g, rfl, hg, hh, hk⟩
  exact ⟨g, rfl, hg, ⟨_, hh, h2⟩, hk⟩
theorem IsS.lt {w : World} {b k0 k1 : Nat} {l : List Nat} (hh : IsS w b k0 k1 l) : b < w.heap.size := by
  obtain ⟨h, h1, _⟩ := hh
  exact Blk.lt h1

set_option maxHeartbeats 2000000 in
theorem on_any (k0 k1 : Nat) (s t : ByteArray) (h0 : k0 < M64) (h1 : k1 < M64) (hs63 : s.size < 2 ^ 63) (ht63 : t.size < 2 ^ 63) (w : World) :
    Calls Try.prog 7 #[.int .u64 k0, .int .u64 k1, .string s, .string t] w fun e w' => e = .returned (.bool true) ∧ Kept w w' := by
  have A0 := awake_any
  by_cases hc : s.size ≤ 5000
  · have c1 : (s.size : Int) ≤ 5000 := by omega
    by_cases hd : t.size ≤ 5000
    · have c2 : (t.size : Int) ≤ 5000 := by omega
      have N0 := Lib.hid (fun w => s_new k0 k1 h0 h1 w)
      have S0 := Lib.hid (fun w => sipSum_any k0 k1 (s ++ t) h0 h1 (by rw [ByteArray.size_append]; omega) w)
      have HSZ := Lib.hid (show (bys s).length + t.size < 2 ^ 62 by rw [bys_length]; omega)
      have HS2 := Lib.hid (show (bys s).length < 2 ^ 62 by rw [bys_length]; omega)
      have HS3 := Lib.hid (show (bys s ++ bys t).length < 2 ^ 62 by rw [List.length_append, bys_length, bys_length]; omega)
      have HL1 := Lib.hid (show (((bys s).length : Nat) : Int) = (s.size : Int) by rw [bys_length])
      have HL2 := Lib.hid (show (((bys s ++ bys t).length : Nat) : Int) = (s.size : Int) + (t.size : Int) by rw [List.length_append, bys_length, bys_length]; rfl)
      clear h0 h1
      go_enter Try.func7, Try.ntmps7
      go_wp2_with fail
      refine (A0 _).mono ?_
      rintro e w1 ⟨rfl, m1⟩
      have M1 := Lib.hid m1
      clear m1
      go_wp2_with fail
      refine (N0.out _).mono ?_
      rintro e w2 ⟨g, rfl, hg, hh, hk⟩
      have HG := Lib.hid (Nat.le_trans M1.out.size hg)
      have M2 := Lib.hid (M1.out.then hk)
      clear hg hk
      go_wp2_with fail
      refine (s_write g k0 k1 [] s (by have := HS2.out; rw [bys_length] at this; simpa using this) _ hh).mono ?_
      rintro e w3 ⟨rfl, hh3, m3⟩
      have M3 := Lib.hid (M2.out.only m3 HG.out)
      rw [List.nil_append] at hh3
      clear hh m3
      go_wp2_with fail
      refine (s_sum g k0 k1 _ HS2.out _ hh3).mono ?_
      rintro e w4 ⟨rfl, m4⟩
      have hh4 := hh3.mod m4 (fun e => e)
      have M4 := Lib.hid (M3.out.then m4)
      clear hh3 m4
      go_wp2_with fail
      refine (s_copy g k0 k1 _ _ hh4).mono ?_
      rintro e w5 ⟨gc, rfl, hgc, hc5, m5⟩
      have hne := Lib.hid (show g ≠ gc by have := hh4.lt; omega)
      have hh5 := hh4.mod m5 (fun e => e)
      have HGC := Lib.hid (Nat.le_trans M4.out.size hgc)
      have M5 := Lib.hid (M4.out.then m5)
      clear hh4 m5 hgc
      go_wp2_with fail
      refine (s_write gc k0 k1 _ t HSZ.out _ hc5).mono ?_
      rintro e w6 ⟨rfl, hc6, m6⟩
      have hh6 := hh5.mod m6 (fun e => hne.out e)
      have M6 := Lib.hid (M5.out.only m6 HGC.out)
      clear hh5 hc5 m6
      go_wp2_with fail
      refine (s_sum g k0 k1 _ HS2.out _ hh6).mono ?_
      rintro e w7 ⟨rfl, m7⟩
      have hh7 := hh6.mod m7 (fun e => e)
      have hc7 := hc6.mod m7 (fun e => e)
      have M7 := Lib.hid (M6.out.then m7)
      clear hh6 hc6 m7
      go_wp2_with fail
      refine (s_len g k0 k1 _ _ hh7 _ HL1.out).mono ?_
      rintro e w8 ⟨rfl, rfl⟩
      go_wp2_with fail
      refine (s_len gc k0 k1 _ _ hc7 _ HL2.out).mono ?_
      rintro e w8 ⟨rfl, rfl⟩
      go_wp2_with fail
      refine (s_write g k0 k1 _ t HSZ.out _ hh7).mono ?_
      rintro e w9 ⟨rfl, hh9, m9⟩
      have hc9 := hc7.mod m9 (fun e => hne.out e.symm)
      have M9 := Lib.hid (M7.out.only m9 HG.out)
      clear hh7 hc7 m9
      go_wp2_with fail
      refine (s_sum g k0 k1 _ HS3.out _ hh9).mono ?_
      rintro e w10 ⟨rfl, m10⟩
      have hh10 := hh9.mod m10 (fun e => e)
      have hc10 := hc9.mod m10 (fun e => e)
      have M10 := Lib.hid (M9.out.then m10)
      clear hh9 hc9 m10
      go_wp2_with fail
      refine (s_sum gc k0 k1 _ HS3.out _ hc10).mono ?_
      rintro e w11 ⟨rfl, m11⟩
      have hh11 := hh10.mod m11 (fun e => e)
      have M11 := Lib.hid (M10.out.then m11)
      clear hh10 hc10 m11
      go_wp2_with fail
      refine (s_sum g k0 k1 _ HS3.out _ hh11).mono ?_
      rintro e w12 ⟨rfl, m12⟩
      have M12 := Lib.hid (M11.out.then m12)
      clear hh11 m12
      rw [← bys_append]
      go_wp2_with fail
      refine (S0.out _).mono ?_
      rintro e w13 ⟨rfl, m13⟩
      have M13 := Lib.hid (M12.out.then m13)
      clear m13
      go_wp2_with fail
      go_ret
      exact ⟨rfl, M13.out⟩
    · have c2 : ¬ (t.size : Int) ≤ 5000 := by omega
      have c3 : 5000 < (t.size : Int) := by omega
      go_enter Try.func7, Try.ntmps7
      go_wp2_with fail
      refine (A0 _).mono ?_
      rintro e w3 ⟨rfl, m1⟩
      have M3 := Lib.hid m1
      clear m1
      go_wp2_with fail
      go_ret
      exact ⟨rfl, M3.out⟩
  · have c1 : ¬ (s.size : Int) ≤ 5000 := by omega
    have c2 : 5000 < (s.size : Int) := by omega
    go_enter Try.func7, Try.ntmps7
    go_wp2_with fail
    refine (A0 _).mono ?_
    rintro e w3 ⟨rfl, m1⟩
    have M3 := Lib.hid m1
    clear m1
    go_wp2_with fail
    go_ret
    exact ⟨rfl, M3.out⟩
end Go.Proofs.Ytjabpekndgnhmaa
