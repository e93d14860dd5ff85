/- The heap sort at uint64, walked. -/
import Derived.Test.YtoikjokdabpmoaaSrt2
namespace Go.Proofs.Ytoikjokdabpmoaa
open Go.RowKit Go.Sort

set_option maxHeartbeats 8000000 in
set_option maxRecDepth 100000 in
theorem heapSort_u (g off cap a b : Nat) (d : Array Int) (w : World) (hH : Holds encU w g off d) (hab : a < b) (hb : b ≤ d.size) (hsz : d.size ≤ 1000) :
    Calls Try.prog 29 #[.slice (some ⟨g, off, none⟩) d.size cap, .int .i64 a, .int .i64 b] w fun e w' => e = .returned (.tuple #[]) ∧ Rw w g off (heapSort ltInt d a b) w' := by
  obtain ⟨n, hn⟩ : ∃ n, n = d.size := ⟨_, rfl⟩
  have hst := rw_start hH (by omega)
  rw [← hn] at hsz hb ⊢
  have HN := Lib.hid hn
  clear hn
  go_enter Try.func29, Try.ntmps29
  go_wp2_with fail
  go_loopw [9] (fun v9 wr => ∃ (z : Int) (k : Nat) (dk : Array Int), v9 = .int .i64 z ∧ Hid (z + 1 = k) ∧ k ≤ (b - a - 1) / 2 + 1 ∧ Hid (dk.size = n) ∧ Rw w g off dk wr ∧ Hid (heapPop ltInt a (b - a) (heapBuild ltInt (b - a) a k dk) = heapSort ltInt d a b)) (fun v9 _ => (intOf v9 + 1).toNat)
  case atStart => exact ⟨_, (b - a - 1) / 2 + 1, d, rfl, Lib.hid (by omega), Nat.le_refl _, Lib.hid HN.out.symm, hst, Lib.hid rfl⟩
  case round =>
    obtain ⟨z, k, dk, rfl, Hz, hk, Hs, hR, HO⟩ := hrel
    by_cases hz : 0 ≤ z
    · obtain ⟨m, rfl⟩ := Int.eq_ofNat_of_zero_le hz
      have hkm := Hz.out
      obtain rfl : k = m + 1 := by omega
      have hh := rw_holds hR hH (by rw [Hs.out, HN.out])
      have C := siftDown_u g off cap m (b - a) a n dk _ hh Hs.out (by omega) (by omega) hsz (by omega)
      have e2 : ((b - a : Nat) : Int) = (b : Int) - (a : Int) := by omega
      rw [e2] at C
      clear e2 hkm
      go_wp2_with fail
      refine C.mono ?_
      rintro e w2 ⟨rfl, hR2⟩
      have hR3 := rw_trans hR hR2 (siftDown_size _ _ _ _)
      go_wp2_with fail
      go_roundw
      case rel => exact ⟨_, m, siftDown ltInt (b - a) a m dk, rfl, Lib.hid (by omega), by omega, Lib.hid (by rw [siftDown_size]; exact Hs.out), hR3, Lib.hid (by rw [← HO.out]; rfl)⟩
      case measure => simp [intOf]
    · have hz1 := Hz.out
      obtain rfl : k = 0 := by omega
      obtain rfl : z = -1 := by omega
      clear hz1
      have HO2 : Hid (heapPop ltInt a (b - a) dk = heapSort ltInt d a b) := Lib.hid (by rw [← HO.out]; rfl)
      go_wp2_with fail
      go_loopw [10] (fun v10 wr => ∃ (z : Int) (k : Nat) (dk : Array Int), v10 = .int .i64 z ∧ Hid (z + 1 = k) ∧ k ≤ b - a ∧ Hid (dk.size = n) ∧ Rw w g off dk wr ∧ Hid (heapPop ltInt a k dk = heapSort ltInt d a b)) (fun v10 _ => (intOf v10 + 1).toNat)
      case atStart => exact ⟨_, b - a, dk, rfl, Lib.hid (by omega), Nat.le_refl _, Hs, hR, HO2⟩
      case round =>
        obtain ⟨z, k, dk, rfl, Hz, hk, Hs, hR, HO⟩ := hrel
        by_cases hz : 0 ≤ z
        · obtain ⟨m, rfl⟩ := Int.eq_ofNat_of_zero_le hz
          have hkm := Hz.out
          obtain rfl : k = m + 1 := by omega
          obtain ⟨G, HG, hc, hf⟩ := rw_fam hR hH Hs.out HN.out.symm
          clear hkm
          rcases Nat.eq_zero_or_pos m with rfl | hm0
          · go_wp2_with fail
            go_region
            all_goals go_wp2_with fail
            have hR2 := rw_drew (rw_swapG HG Hs hR a (a + 0) (by omega) (by omega) rfl rfl)
            have hh := rw_holds hR2 hH (by rw [size_swp, Hs.out, HN.out])
            have C := siftDown_u g off cap 0 0 a n (swp dk a (a + 0)) _ hh (by rw [size_swp]; exact Hs.out) (by omega) (by omega) hsz (by omega)
            refine C.mono ?_
            rintro e w2 ⟨rfl, hR3⟩
            have hR4 := rw_trans hR2 hR3 (siftDown_size _ _ _ _)
            go_wp2_with fail
            go_roundw
            case rel => exact ⟨_, 0, siftDown ltInt 0 a 0 (swp dk a (a + 0)), rfl, Lib.hid (by omega), by omega, Lib.hid (by rw [siftDown_size, size_swp]; exact Hs.out), hR4, Lib.hid (by rw [← HO.out]; rfl)⟩
            case measure => simp [intOf]
          · have s1 : IntKind.i64.wrap ((a : Int) + (m : Int)) = (a : Int) + (m : Int) := IntWalk.i64_in _ (by omega)
            have s2 : (0 : Int) ≤ (a : Int) + (m : Int) := by omega
            have s3 : (a : Int) + (m : Int) < (n : Int) := by omega
            have s4 : ((a : Int) + (m : Int)).toNat = a + m := by omega
            go_wp2_with fail
            go_region
            all_goals go_wp2_with fail
            have hR2 := rw_drew (rw_swapG HG Hs hR a (a + m) (by omega) (by omega) rfl rfl)
            have hh := rw_holds hR2 hH (by rw [size_swp, Hs.out, HN.out])
            have C := siftDown_u g off cap 0 m a n (swp dk a (a + m)) _ hh (by rw [size_swp]; exact Hs.out) (by omega) (by omega) hsz (by omega)
            refine C.mono ?_
            rintro e w2 ⟨rfl, hR3⟩
            have hR4 := rw_trans hR2 hR3 (siftDown_size _ _ _ _)
            go_wp2_with fail
            go_roundw
            case rel => exact ⟨_, m, siftDown ltInt m a 0 (swp dk a (a + m)), rfl, Lib.hid (by omega), by omega, Lib.hid (by rw [siftDown_size, size_swp]; exact Hs.out), hR4, Lib.hid (by rw [← HO.out]; rfl)⟩
            case measure => simp [intOf]
        · have hz1 := Hz.out
          obtain rfl : k = 0 := by omega
          obtain rfl : z = -1 := by omega
          clear hz1
          have HO3 : Hid (dk = heapSort ltInt d a b) := Lib.hid (by rw [← HO.out]; rfl)
          go_wp2_with fail
          go_end0
          exact ⟨rfl, by rw [← HO3.out]; exact hR⟩
end Go.Proofs.Ytoikjokdabpmoaa
