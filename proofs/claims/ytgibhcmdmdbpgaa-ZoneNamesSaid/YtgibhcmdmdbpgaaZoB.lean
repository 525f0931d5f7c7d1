/- How many labels a name has: the law's own function. Conditions: texts that a memory may hold. -/
import Derived.Test.YtgibhcmdmdbpgaaZoL
namespace Go.Proofs.Ytgibhcmdmdbpgaa
open Go.RowKit

set_option maxHeartbeats 1000000 in
theorem labels_c (n : ByteArray) (hn : n.size < 2 ^ 63) (w : World) : Calls Try.prog 18 #[.string n] w fun e w' => e = .returned (.int .i64 (labK n : Nat)) ∧ Kept w w' := by
  have HL := Lib.hid (labels_any n hn)
  clear hn
  go_enter Try.func18, Try.ntmps18
  go_wp2_with fail
  refine (HL.out _).mono ?_
  rintro e w1 ⟨hm, ⟨hs, rfl⟩ | ⟨v, L, hs, rfl, hT⟩⟩
  · have hk : labK n = 0 := by unfold labK; rw [hs]; rfl
    have HK := Lib.hid (And.intro hk hm)
    clear hs hk hm
    go_wp2_with fail
    go_ret
    exact ⟨by rw [HK.out.1]; rfl, HK.out.2⟩
  · have hk : labK n = L.length := by unfold labK; rw [hs]; simp [lbs]
    obtain ⟨A, c, rfl⟩ := hT.form
    have HK := Lib.hid (And.intro hk hm)
    clear hs hk hm hT
    go_wp2_with fail
    go_ret
    exact ⟨by rw [HK.out.1]; rfl, HK.out.2⟩
end Go.Proofs.Ytgibhcmdmdbpgaa
