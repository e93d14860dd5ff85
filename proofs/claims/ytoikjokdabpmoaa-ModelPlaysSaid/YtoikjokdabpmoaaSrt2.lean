/- The reversal of a range, and the heap, at uint64, walked. -/
import Derived.Test.YtoikjokdabpmoaaSrt1
import Derived.Sort.WalkB3
namespace Go.Proofs.Ytoikjokdabpmoaa
open Go.RowKit Go.Sort

set_option maxHeartbeats 4000000 in
set_option maxRecDepth 100000 in
theorem reverse_u (g off cap a b : Nat) (d : Array Int) (w : World) (hH : Holds encU w g off d) (hab : a < b) (hb : b ≤ d.size) (hsz : d.size ≤ 1000) :
    Calls Try.prog 32 #[.slice (some ⟨g, off, none⟩) d.size cap, .int .i64 a, .int .i64 b] w fun e w' => e = .returned (.tuple #[]) ∧ Rw w g off (reverseRange d a b) w' := by
  obtain ⟨n, hn⟩ : ∃ n, n = d.size := ⟨_, rfl⟩
  have hst := rw_start hH (by omega)
  rw [← hn] at hsz hb ⊢
  have HN := Lib.hid hn
  clear hn
  go_enter Try.func32, Try.ntmps32
  go_wp2_with fail
  go_loopw [6, 7] (fun v6 v7 wr => ∃ (i j : Nat) (dk : Array Int), v6 = .int .i64 i ∧ v7 = .int .i64 j ∧ i ≤ j + 1 ∧ j < n ∧ Hid (dk.size = n) ∧ Rw w g off dk wr ∧ Hid (reverseLoop i j dk = reverseRange d a b)) (fun v6 v7 _ => (intOf v7).toNat + 1 - (intOf v6).toNat)
  case atStart => exact ⟨a, b - 1, d, rfl, by congr 1; omega, by omega, by omega, Lib.hid HN.out.symm, hst, Lib.hid rfl⟩
  case round =>
    obtain ⟨i, j, dk, rfl, rfl, hij, hjn, Hs, hR, HO⟩ := hrel
    obtain ⟨G, HG, hc, hf⟩ := rw_fam hR hH Hs.out HN.out.symm
    by_cases hlt : i < j
    · have hi' : i < n := by omega
      go_wp2_with fail
      go_region
      all_goals go_wp2_with fail
      go_roundw
      case rel => exact ⟨i + 1, j - 1, swp dk i j, by go_num, by congr 1; omega, by omega, by omega, Lib.hid (by rw [size_swp]; exact Hs.out), rw_drew (rw_swap (i := i) (j := j) hR (by have := Hs.out; omega) (by have := Hs.out; omega) (HG.out _) (HG.out _)), Lib.hid (by have h := HO.out; rw [reverseLoop, if_pos hlt] at h; exact h)⟩
      case measure => simp [intOf]; omega
    · go_wp2_with fail
      go_end0
      exact ⟨rfl, by have h := HO.out; rw [reverseLoop, if_neg hlt] at h; rw [← h]; exact hR⟩

set_option maxHeartbeats 8000000 in
set_option maxRecDepth 100000 in
theorem siftDown_u (g off cap lo hi F n : Nat) (d : Array Int) (w : World) (hH : Holds encU w g off d) (hn : d.size = n) (hF : F + hi ≤ n) (hlo : lo ≤ n) (hsz : n ≤ 1000) (hn0 : 0 < n) :
    Calls Try.prog 39 #[.slice (some ⟨g, off, none⟩) n cap, .int .i64 lo, .int .i64 hi, .int .i64 F] w fun e w' => e = .returned (.tuple #[]) ∧ Rw w g off (siftDown ltInt hi F lo d) w' := by
  have hst := rw_start hH (by omega)
  have HN := Lib.hid hn
  clear hn
  go_enter Try.func39, Try.ntmps39
  go_wp2_with fail
  go_loopw [8] (fun v8 wr => ∃ (r : Nat) (dk : Array Int), v8 = .int .i64 r ∧ r ≤ n ∧ Hid (dk.size = n) ∧ Rw w g off dk wr ∧ Hid (siftDown ltInt hi F r dk = siftDown ltInt hi F lo d)) (fun v8 _ => n + 1 - (intOf v8).toNat)
  case atStart => exact ⟨lo, d, rfl, hlo, HN, hst, Lib.hid rfl⟩
  case round =>
    obtain ⟨r, dk, rfl, hrn, Hs, hR, HO⟩ := hrel
    obtain ⟨G, HG, hc, hf⟩ := rw_fam hR hH Hs.out HN.out
    by_cases h1 : 2 * r + 1 < hi
    · by_cases h2 : 2 * r + 2 < hi
      · have t2 : decide (2 * (r : Int) + 1 + 1 < (hi : Int)) = true := by simp; omega
        go_wp2_with fail
        go_quiet ((go_at_call 34; first | exact Calls.quiet_of_same (less_u _ _ _) | exact quiet_again (less_u _ _ _)))
        go_wp2_with fail
        · have hA : ltInt (G (F + 2 * r + 1)) (G (F + 2 * r + 2)) = true := by assumption
          have s1 : IntKind.i64.wrap ((F : Int) + (r : Int)) = (F : Int) + (r : Int) := IntWalk.i64_in _ (by omega)
          have s2 : (0 : Int) ≤ (F : Int) + (r : Int) := by omega
          have s3 : (F : Int) + (r : Int) < (n : Int) := by omega
          have s4 : ((F : Int) + (r : Int)).toNat = F + r := by omega
          have s5 : IntKind.i64.wrap ((F : Int) + (2 * (r : Int) + 1 + 1)) = (F : Int) + (2 * (r : Int) + 1 + 1) := IntWalk.i64_in _ (by omega)
          have s6 : (0 : Int) ≤ (F : Int) + (2 * (r : Int) + 1 + 1) := by omega
          have s7 : (F : Int) + (2 * (r : Int) + 1 + 1) < (n : Int) := by omega
          have s8 : ((F : Int) + (2 * (r : Int) + 1 + 1)).toNat = F + (2 * r + 1 + 1) := by omega
          go_quiet ((go_at_call 34; first | exact Calls.quiet_of_same (less_u _ _ _) | exact quiet_again (less_u _ _ _)))
          go_wp2_with fail
          · have hB : ltInt (G (F + r)) (G (F + 2 * r + 2)) = false := of_not_true (by assumption)
            have hstop := sd_right_stop (lt := ltInt) (F := F) (root := r) dk h2 (by rw [show F + (2 * r + 1) = F + 2 * r + 1 from by omega, show F + (2 * r + 2) = F + 2 * r + 2 from by omega, ← HG.out, ← HG.out]; exact hA) (by rw [show F + (2 * r + 2) = F + 2 * r + 2 from by omega, ← HG.out, ← HG.out]; exact hB)
            have Hstop := Lib.hid hstop
            clear hstop
            refine bodyPost_ret (results_none rfl _ _ _) rfl ?_
            exact ⟨rfl, by rw [← HO.out, Hstop.out]; first | exact rw_drewN hR _ | exact rw_drewN (rw_drewN hR _) _⟩
          · have hB : ltInt (G (F + r)) (G (F + 2 * r + 2)) = true := of_not_false (by assumption)
            have hgo : Hid (siftDown ltInt hi F (2 * r + 2) (swp dk (F + r) (F + (2 * r + 2))) = siftDown ltInt hi F lo d) := Lib.hid (by rw [← HO.out, sd_right_go (lt := ltInt) dk h2 (by rw [show F + (2 * r + 1) = F + 2 * r + 1 from by omega, show F + (2 * r + 2) = F + 2 * r + 2 from by omega, ← HG.out, ← HG.out]; exact hA) (by rw [show F + (2 * r + 2) = F + 2 * r + 2 from by omega, ← HG.out, ← HG.out]; exact hB)])
            go_region
            all_goals go_wp2_with fail
            go_roundw
            case rel => exact ⟨2 * r + 2, swp dk (F + r) (F + (2 * r + 2)), by go_num, by omega, Lib.hid (by rw [size_swp]; exact Hs.out), rw_swapG HG Hs (rw_drewN hR _) (F + r) (F + (2 * r + 1 + 1)) (by omega) (by omega) (by omega) (by omega), hgo⟩
            case measure => simp [intOf]; omega
        · have hA : ltInt (G (F + 2 * r + 1)) (G (F + 2 * r + 2)) = false := by assumption
          have s1 : IntKind.i64.wrap ((F : Int) + (r : Int)) = (F : Int) + (r : Int) := IntWalk.i64_in _ (by omega)
          have s2 : (0 : Int) ≤ (F : Int) + (r : Int) := by omega
          have s3 : (F : Int) + (r : Int) < (n : Int) := by omega
          have s4 : ((F : Int) + (r : Int)).toNat = F + r := by omega
          have s5 : IntKind.i64.wrap ((F : Int) + (2 * (r : Int) + 1)) = (F : Int) + (2 * (r : Int) + 1) := IntWalk.i64_in _ (by omega)
          have s6 : (0 : Int) ≤ (F : Int) + (2 * (r : Int) + 1) := by omega
          have s7 : (F : Int) + (2 * (r : Int) + 1) < (n : Int) := by omega
          have s8 : ((F : Int) + (2 * (r : Int) + 1)).toNat = F + (2 * r + 1) := by omega
          go_quiet ((go_at_call 34; first | exact Calls.quiet_of_same (less_u _ _ _) | exact quiet_again (less_u _ _ _)))
          go_wp2_with fail
          · have hB : ltInt (G (F + r)) (G (F + 2 * r + 1)) = false := of_not_true (by assumption)
            have hstop := sd_left_stop (lt := ltInt) (F := F) (root := r) dk h1 (fun _ => by rw [show F + (2 * r + 1) = F + 2 * r + 1 from by omega, show F + (2 * r + 2) = F + 2 * r + 2 from by omega, ← HG.out, ← HG.out]; exact hA) (by rw [show F + (2 * r + 1) = F + 2 * r + 1 from by omega, ← HG.out, ← HG.out]; exact hB)
            have Hstop := Lib.hid hstop
            clear hstop
            refine bodyPost_ret (results_none rfl _ _ _) rfl ?_
            exact ⟨rfl, by rw [← HO.out, Hstop.out]; first | exact rw_drewN hR _ | exact rw_drewN (rw_drewN hR _) _⟩
          · have hB : ltInt (G (F + r)) (G (F + 2 * r + 1)) = true := of_not_false (by assumption)
            have hgo : Hid (siftDown ltInt hi F (2 * r + 1) (swp dk (F + r) (F + (2 * r + 1))) = siftDown ltInt hi F lo d) := Lib.hid (by rw [← HO.out, sd_left_go (lt := ltInt) dk h1 (fun _ => by rw [show F + (2 * r + 1) = F + 2 * r + 1 from by omega, show F + (2 * r + 2) = F + 2 * r + 2 from by omega, ← HG.out, ← HG.out]; exact hA) (by rw [show F + (2 * r + 1) = F + 2 * r + 1 from by omega, ← HG.out, ← HG.out]; exact hB)])
            go_region
            all_goals go_wp2_with fail
            go_roundw
            case rel => exact ⟨2 * r + 1, swp dk (F + r) (F + (2 * r + 1)), by go_num, by omega, Lib.hid (by rw [size_swp]; exact Hs.out), rw_swapG HG Hs (rw_drewN hR _) (F + r) (F + (2 * r + 1)) (by omega) (by omega) (by omega) (by omega), hgo⟩
            case measure => simp [intOf]; omega
      · have t2 : decide (2 * (r : Int) + 1 + 1 < (hi : Int)) = false := by simp; omega
        go_wp2_with fail
        go_quiet ((go_at_call 34; first | exact Calls.quiet_of_same (less_u _ _ _) | exact quiet_again (less_u _ _ _)))
        go_wp2_with fail
        have s1 : IntKind.i64.wrap ((F : Int) + (r : Int)) = (F : Int) + (r : Int) := IntWalk.i64_in _ (by omega)
        have s2 : (0 : Int) ≤ (F : Int) + (r : Int) := by omega
        have s3 : (F : Int) + (r : Int) < (n : Int) := by omega
        have s4 : ((F : Int) + (r : Int)).toNat = F + r := by omega
        have s5 : IntKind.i64.wrap ((F : Int) + (2 * (r : Int) + 1)) = (F : Int) + (2 * (r : Int) + 1) := IntWalk.i64_in _ (by omega)
        have s6 : (0 : Int) ≤ (F : Int) + (2 * (r : Int) + 1) := by omega
        have s7 : (F : Int) + (2 * (r : Int) + 1) < (n : Int) := by omega
        have s8 : ((F : Int) + (2 * (r : Int) + 1)).toNat = F + (2 * r + 1) := by omega
        go_quiet ((go_at_call 34; first | exact Calls.quiet_of_same (less_u _ _ _) | exact quiet_again (less_u _ _ _)))
        go_wp2_with fail
        · have hB : ltInt (G (F + r)) (G (F + 2 * r + 1)) = false := of_not_true (by assumption)
          have hstop := sd_left_stop (lt := ltInt) (F := F) (root := r) dk h1 (fun h => absurd h h2) (by rw [show F + (2 * r + 1) = F + 2 * r + 1 from by omega, ← HG.out, ← HG.out]; exact hB)
          have Hstop := Lib.hid hstop
          clear hstop
          refine bodyPost_ret (results_none rfl _ _ _) rfl ?_
          exact ⟨rfl, by rw [← HO.out, Hstop.out]; first | exact rw_drewN hR _ | exact rw_drewN (rw_drewN hR _) _⟩
        · have hB : ltInt (G (F + r)) (G (F + 2 * r + 1)) = true := of_not_false (by assumption)
          have hgo : Hid (siftDown ltInt hi F (2 * r + 1) (swp dk (F + r) (F + (2 * r + 1))) = siftDown ltInt hi F lo d) := Lib.hid (by rw [← HO.out, sd_left_go (lt := ltInt) dk h1 (fun h => absurd h h2) (by rw [show F + (2 * r + 1) = F + 2 * r + 1 from by omega, ← HG.out, ← HG.out]; exact hB)])
          go_region
          all_goals go_wp2_with fail
          go_roundw
          case rel => exact ⟨2 * r + 1, swp dk (F + r) (F + (2 * r + 1)), by go_num, by omega, Lib.hid (by rw [size_swp]; exact Hs.out), rw_swapG HG Hs (rw_drewN hR _) (F + r) (F + (2 * r + 1)) (by omega) (by omega) (by omega) (by omega), hgo⟩
          case measure => simp [intOf]; omega
    · have e := sd_end (lt := ltInt) (hi := hi) (F := F) (root := r) dk (by omega)
      have He := Lib.hid e
      clear e
      go_wp2_with fail
      go_end0
      exact ⟨rfl, by rw [← HO.out, He.out]; exact hR⟩

theorem siftDown_size (hi F r : Nat) (d : Array Int) : (siftDown ltInt hi F r d).size = d.size := size_siftDown (lt := ltInt) hi F (hi - r) r d (Nat.le_refl _)

end Go.Proofs.Ytoikjokdabpmoaa
