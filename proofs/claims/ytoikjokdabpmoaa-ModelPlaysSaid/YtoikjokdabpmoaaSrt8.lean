/- partialInsertionSort at uint64, walked. -/
import Derived.Test.YtoikjokdabpmoaaSrt7
import Derived.Sort.WalkA6
namespace Go.Proofs.Ytoikjokdabpmoaa
open Go.RowKit Go.Sort

set_option maxHeartbeats 64000000 in
set_option maxRecDepth 100000 in
theorem partIns_u (g off cap a b : Nat) (d : Array Int) (w : World) (hH : Holds encU w g off d) (hab : a < b) (hb : b ≤ d.size) (hsz : d.size ≤ 1000) :
    Calls Try.prog 33 #[.slice (some ⟨g, off, none⟩) d.size cap, .int .i64 a, .int .i64 b] w fun e w' => e = .returned (.bool (partialInsertionSort ltInt d a b).2) ∧ Rw w g off (partialInsertionSort ltInt d a b).1 w' := by
  obtain ⟨n, hn⟩ : ∃ n, n = d.size := ⟨_, rfl⟩
  have hst := rw_start hH (by omega)
  rw [← hn] at hsz hb ⊢
  have HN := Lib.hid hn
  clear hn
  go_enter Try.func33, Try.ntmps33
  go_wp2_with fail
  go_loopw [7, 8] (fun v7 v8 wr => ∃ (i s : Nat) (dk : Array Int), v7 = .int .i64 i ∧ v8 = .int .i64 s ∧ a < i ∧ i ≤ b ∧ s ≤ 5 ∧ Hid (dk.size = n) ∧ Rw w g off dk wr ∧ Hid (partialIns ltInt a b (5 - s) i dk = partialInsertionSort ltInt d a b)) (fun _ v8 _ => 5 - (intOf v8).toNat)
  case atStart => exact ⟨a + 1, 0, d, by go_num, rfl, by omega, by omega, by omega, Lib.hid HN.out.symm, hst, Lib.hid rfl⟩
  case round =>
    obtain ⟨i, s, dk, rfl, rfl, hai, hib, hs5, Hs, hR, HO⟩ := hrel
    by_cases hs : s < 5
    · go_wp2_with fail
      go_loopw [7] (fun v7 wr2 => ∃ k : Nat, v7 = .int .i64 k ∧ i ≤ k ∧ k ≤ b ∧ Rw w g off dk wr2 ∧ Hid (scanSorted ltInt dk b k = scanSorted ltInt dk b i)) (fun v7 _ => b - (intOf v7).toNat)
      case atStart => exact ⟨i, rfl, Nat.le_refl _, hib, hR, Lib.hid rfl⟩
      case round =>
        obtain ⟨k, rfl, hik, hkb, hR2, HK0⟩ := hrel
        obtain ⟨G, HG, hc, hf⟩ := rw_fam hR2 hH Hs.out HN.out.symm
        by_cases hkb2 : k < b
        · have hkn : k < n := by omega
          have hne : ((k : Int) == (b : Int)) = false := beq_eq_false_iff_ne.2 (by omega)
          by_cases h50 : b - a < 50
          · have h51 : (b : Int) - (a : Int) < 50 := by omega
            go_wp2_with fail
            go_quiet ((go_at_call 34; first | exact Calls.quiet_of_same (less_u _ _ _) | exact quiet_again (less_u _ _ _)))
            go_wp2_with fail
            · have hl : ltInt (G k) (G (k - 1)) = false := of_not_true (by assumption)
              go_roundw
              case rel => exact ⟨k + 1, by go_num, by omega, by omega, rw_drewN hR2 _, Lib.hid (by rw [← HK0.out, scanSorted_go _ _ _ _ hkb2 (by rw [← HG.out, ← HG.out]; exact hl)])⟩
              case measure => simp [intOf] <;> omega
            · have hl : ltInt (G k) (G (k - 1)) = true := of_not_false (by assumption)
              have HK : Hid (scanSorted ltInt dk b i = k) := Lib.hid (by rw [← HK0.out, scanSorted_stop _ _ _ _ (.inr (by rw [← HG.out, ← HG.out]; exact hl))])
              have hres : Hid (partialInsertionSort ltInt d a b = (dk, false)) := Lib.hid (by rw [← HO.out, pi_short ltInt a b s i dk hs (by rw [HK.out]; omega) h50])
              go_ret
              exact ⟨by rw [hres.out]; rfl, by rw [hres.out]; exact rw_drewN hR2 _⟩
          · by_cases h2 : a + 2 ≤ k
            · by_cases h3 : k + 2 ≤ b
              · have h51 : (50 : Int) ≤ (b : Int) - (a : Int) := by omega
                have h7 : (2 : Int) ≤ (k : Int) - (a : Int) := by omega
                have h4 : (2 : Int) ≤ (b : Int) - (k : Int) := by omega
                go_wp2_with fail
                go_quiet ((go_at_call 34; first | exact Calls.quiet_of_same (less_u _ _ _) | exact quiet_again (less_u _ _ _)))
                go_wp2_with fail
                · have hl : ltInt (G k) (G (k - 1)) = false := of_not_true (by assumption)
                  go_roundw
                  case rel => exact ⟨k + 1, by go_num, by omega, by omega, rw_drewN hR2 _, Lib.hid (by rw [← HK0.out, scanSorted_go _ _ _ _ hkb2 (by rw [← HG.out, ← HG.out]; exact hl)])⟩
                  case measure => simp [intOf] <;> omega
                · have hl : ltInt (G k) (G (k - 1)) = true := of_not_false (by assumption)
                  have HK : Hid (scanSorted ltInt dk b i = k) := Lib.hid (by rw [← HK0.out, scanSorted_stop _ _ _ _ (.inr (by rw [← HG.out, ← HG.out]; exact hl))])
                  go_region
                  all_goals go_wp2_with fail
                  have hR5 := rw_swapG HG Hs (rw_drewN hR2 (nq + 1)) k (k - 1) hkn (by omega) rfl rfl
                  have Hs1 : Hid ((swp dk k (k - 1)).size = n) := Lib.hid (by rw [size_swp]; exact Hs.out)
                  clear HG hc hf hl hR2 HK0
                  go_loopw [9] (fun v9 wr3 => ∃ (j : Nat) (dj : Array Int), v9 = .int .i64 j ∧ j < k ∧ Hid (dj.size = n) ∧ Rw w g off dj wr3 ∧ Hid (shiftDown ltInt j dj = shiftDown ltInt (k - 1) (swp dk k (k - 1)))) (fun v9 _ => (intOf v9).toNat)
                  case atStart => exact ⟨k - 1, swp dk k (k - 1), by congr 1; omega, by omega, Hs1, hR5, Lib.hid rfl⟩
                  case round =>
                    obtain ⟨j, dj, rfl, hjk, Hsj, hRj, HJ⟩ := hrel
                    obtain ⟨G, HG, hc, hf⟩ := rw_fam hRj hH Hsj.out HN.out.symm
                    by_cases hj1 : 1 ≤ j
                    · have hjn : j < n := by omega
                      go_wp2_with fail
                      go_quiet ((go_at_call 34; first | exact Calls.quiet_of_same (less_u _ _ _) | exact quiet_again (less_u _ _ _)))
                      go_wp2_with fail
                      · have hl : ltInt (G j) (G (j - 1)) = false := of_not_true (by assumption)
                        obtain ⟨dm, hdm⟩ : ∃ dm, dm = dj := ⟨_, rfl⟩
                        have Hm : Hid (dm.size = n) := Lib.hid (by rw [hdm]; exact Hsj.out)
                        have hRm := rw_drewN hRj nq
                        rw [← hdm] at hRm
                        have HF : Hid (fixDown ltInt a k (swp dk k (k - 1)) = dm) := Lib.hid (by rw [hdm]; unfold fixDown; rw [if_pos (by omega), ← HJ.out, shiftDown_stop _ _ _ (.inr (by rw [← HG.out, ← HG.out]; exact hl))])
                        clear hdm
                        clear HG hc hf hl HJ Hsj hRj
                        go_wp2_with fail
                        go_loopw [10] (fun v10 wr4 => ∃ (j : Nat) (dj : Array Int), v10 = .int .i64 j ∧ k < j ∧ j ≤ b ∧ Hid (dj.size = n) ∧ Rw w g off dj wr4 ∧ Hid (shiftUp ltInt b j dj = shiftUp ltInt b (k + 1) dm)) (fun v10 _ => b - (intOf v10).toNat)
                        case atStart => exact ⟨k + 1, dm, by go_num, by omega, by omega, Hm, hRm, Lib.hid rfl⟩
                        case round =>
                          obtain ⟨j, dj, rfl, hj1, hj2, Hsj, hRj, HJ⟩ := hrel
                          obtain ⟨G, HG, hc, hf⟩ := rw_fam hRj hH Hsj.out HN.out.symm
                          by_cases hjb : j < b
                          · go_wp2_with fail
                            go_quiet ((go_at_call 34; first | exact Calls.quiet_of_same (less_u _ _ _) | exact quiet_again (less_u _ _ _)))
                            go_wp2_with fail
                            · have hl : ltInt (G j) (G (j - 1)) = false := of_not_true (by assumption)
                              have HU : Hid (fixUp ltInt b k dm = dj) := Lib.hid (by unfold fixUp; rw [if_pos (by omega), ← HJ.out, shiftUp_stop _ _ _ _ (.inr (by rw [← HG.out, ← HG.out]; exact hl))])
                              go_roundw
                              case rel => exact ⟨k, s + 1, dj, rfl, by go_num, by omega, by omega, by omega, Hsj, rw_drewN hRj _, Lib.hid (by rw [← HO.out, pi_go ltInt a b s i k dk hs HK.out (by omega) h50, HF.out, HU.out])⟩
                              case measure => simp [intOf] <;> omega
                            · have hl : ltInt (G j) (G (j - 1)) = true := of_not_false (by assumption)
                              go_region
                              all_goals go_wp2_with fail
                              go_roundw
                              case rel => exact ⟨j + 1, swp dj j (j - 1), by go_num, by omega, by omega, Lib.hid (by rw [size_swp]; exact Hsj.out), rw_swapG HG Hsj (rw_drewN hRj _) j (j - 1) (by omega) (by omega) rfl rfl, Lib.hid (by rw [← HJ.out, shiftUp_go ltInt b j dj hjb (by rw [← HG.out, ← HG.out]; exact hl)])⟩
                              case measure => simp [intOf] <;> omega
                          · have HU : Hid (fixUp ltInt b k dm = dj) := Lib.hid (by unfold fixUp; rw [if_pos (by omega), ← HJ.out, shiftUp_stop _ _ _ _ (.inl hjb)])
                            go_wp2_with fail
                            go_roundw
                            case rel => exact ⟨k, s + 1, dj, rfl, by go_num, by omega, by omega, by omega, Hsj, hRj, Lib.hid (by rw [← HO.out, pi_go ltInt a b s i k dk hs HK.out (by omega) h50, HF.out, HU.out])⟩
                            case measure => simp [intOf] <;> omega
                      · have hl : ltInt (G j) (G (j - 1)) = true := of_not_false (by assumption)
                        go_region
                        all_goals go_wp2_with fail
                        go_roundw
                        case rel => exact ⟨j - 1, swp dj j (j - 1), by congr 1; omega, by omega, Lib.hid (by rw [size_swp]; exact Hsj.out), rw_swapG HG Hsj (rw_drewN hRj _) j (j - 1) (by omega) (by omega) rfl rfl, Lib.hid (by rw [← HJ.out, shiftDown_go ltInt j dj hj1 (by rw [← HG.out, ← HG.out]; exact hl)])⟩
                        case measure => simp [intOf] <;> omega
                    · obtain rfl : j = 0 := by omega
                      go_wp2_with fail
                      obtain ⟨dm, hdm⟩ : ∃ dm, dm = dj := ⟨_, rfl⟩
                      have Hm : Hid (dm.size = n) := Lib.hid (by rw [hdm]; exact Hsj.out)
                      have hRm := hRj
                      rw [← hdm] at hRm
                      have HF : Hid (fixDown ltInt a k (swp dk k (k - 1)) = dm) := Lib.hid (by rw [hdm]; unfold fixDown; rw [if_pos (by omega), ← HJ.out, shiftDown_stop _ _ _ (.inl rfl)])
                      clear hdm
                      clear HG hc hf HJ Hsj hRj
                      go_wp2_with fail
                      go_loopw [10] (fun v10 wr4 => ∃ (j : Nat) (dj : Array Int), v10 = .int .i64 j ∧ k < j ∧ j ≤ b ∧ Hid (dj.size = n) ∧ Rw w g off dj wr4 ∧ Hid (shiftUp ltInt b j dj = shiftUp ltInt b (k + 1) dm)) (fun v10 _ => b - (intOf v10).toNat)
                      case atStart => exact ⟨k + 1, dm, by go_num, by omega, by omega, Hm, hRm, Lib.hid rfl⟩
                      case round =>
                        obtain ⟨j, dj, rfl, hj1, hj2, Hsj, hRj, HJ⟩ := hrel
                        obtain ⟨G, HG, hc, hf⟩ := rw_fam hRj hH Hsj.out HN.out.symm
                        by_cases hjb : j < b
                        · go_wp2_with fail
                          go_quiet ((go_at_call 34; first | exact Calls.quiet_of_same (less_u _ _ _) | exact quiet_again (less_u _ _ _)))
                          go_wp2_with fail
                          · have hl : ltInt (G j) (G (j - 1)) = false := of_not_true (by assumption)
                            have HU : Hid (fixUp ltInt b k dm = dj) := Lib.hid (by unfold fixUp; rw [if_pos (by omega), ← HJ.out, shiftUp_stop _ _ _ _ (.inr (by rw [← HG.out, ← HG.out]; exact hl))])
                            go_roundw
                            case rel => exact ⟨k, s + 1, dj, rfl, by go_num, by omega, by omega, by omega, Hsj, rw_drewN hRj _, Lib.hid (by rw [← HO.out, pi_go ltInt a b s i k dk hs HK.out (by omega) h50, HF.out, HU.out])⟩
                            case measure => simp [intOf] <;> omega
                          · have hl : ltInt (G j) (G (j - 1)) = true := of_not_false (by assumption)
                            go_region
                            all_goals go_wp2_with fail
                            go_roundw
                            case rel => exact ⟨j + 1, swp dj j (j - 1), by go_num, by omega, by omega, Lib.hid (by rw [size_swp]; exact Hsj.out), rw_swapG HG Hsj (rw_drewN hRj _) j (j - 1) (by omega) (by omega) rfl rfl, Lib.hid (by rw [← HJ.out, shiftUp_go ltInt b j dj hjb (by rw [← HG.out, ← HG.out]; exact hl)])⟩
                            case measure => simp [intOf] <;> omega
                        · have HU : Hid (fixUp ltInt b k dm = dj) := Lib.hid (by unfold fixUp; rw [if_pos (by omega), ← HJ.out, shiftUp_stop _ _ _ _ (.inl hjb)])
                          go_wp2_with fail
                          go_roundw
                          case rel => exact ⟨k, s + 1, dj, rfl, by go_num, by omega, by omega, by omega, Hsj, hRj, Lib.hid (by rw [← HO.out, pi_go ltInt a b s i k dk hs HK.out (by omega) h50, HF.out, HU.out])⟩
                          case measure => simp [intOf] <;> omega
              · have h51 : (50 : Int) ≤ (b : Int) - (a : Int) := by omega
                have h7 : (2 : Int) ≤ (k : Int) - (a : Int) := by omega
                have h4 : (b : Int) - (k : Int) < 2 := by omega
                go_wp2_with fail
                go_quiet ((go_at_call 34; first | exact Calls.quiet_of_same (less_u _ _ _) | exact quiet_again (less_u _ _ _)))
                go_wp2_with fail
                · have hl : ltInt (G k) (G (k - 1)) = false := of_not_true (by assumption)
                  go_roundw
                  case rel => exact ⟨k + 1, by go_num, by omega, by omega, rw_drewN hR2 _, Lib.hid (by rw [← HK0.out, scanSorted_go _ _ _ _ hkb2 (by rw [← HG.out, ← HG.out]; exact hl)])⟩
                  case measure => simp [intOf] <;> omega
                · have hl : ltInt (G k) (G (k - 1)) = true := of_not_false (by assumption)
                  have HK : Hid (scanSorted ltInt dk b i = k) := Lib.hid (by rw [← HK0.out, scanSorted_stop _ _ _ _ (.inr (by rw [← HG.out, ← HG.out]; exact hl))])
                  go_region
                  all_goals go_wp2_with fail
                  have hR5 := rw_swapG HG Hs (rw_drewN hR2 (nq + 1)) k (k - 1) hkn (by omega) rfl rfl
                  have Hs1 : Hid ((swp dk k (k - 1)).size = n) := Lib.hid (by rw [size_swp]; exact Hs.out)
                  clear HG hc hf hl hR2 HK0
                  go_loopw [9] (fun v9 wr3 => ∃ (j : Nat) (dj : Array Int), v9 = .int .i64 j ∧ j < k ∧ Hid (dj.size = n) ∧ Rw w g off dj wr3 ∧ Hid (shiftDown ltInt j dj = shiftDown ltInt (k - 1) (swp dk k (k - 1)))) (fun v9 _ => (intOf v9).toNat)
                  case atStart => exact ⟨k - 1, swp dk k (k - 1), by congr 1; omega, by omega, Hs1, hR5, Lib.hid rfl⟩
                  case round =>
                    obtain ⟨j, dj, rfl, hjk, Hsj, hRj, HJ⟩ := hrel
                    obtain ⟨G, HG, hc, hf⟩ := rw_fam hRj hH Hsj.out HN.out.symm
                    by_cases hj1 : 1 ≤ j
                    · have hjn : j < n := by omega
                      go_wp2_with fail
                      go_quiet ((go_at_call 34; first | exact Calls.quiet_of_same (less_u _ _ _) | exact quiet_again (less_u _ _ _)))
                      go_wp2_with fail
                      · have hl : ltInt (G j) (G (j - 1)) = false := of_not_true (by assumption)
                        obtain ⟨dm, hdm⟩ : ∃ dm, dm = dj := ⟨_, rfl⟩
                        have Hm : Hid (dm.size = n) := Lib.hid (by rw [hdm]; exact Hsj.out)
                        have hRm := rw_drewN hRj nq
                        rw [← hdm] at hRm
                        have HF : Hid (fixDown ltInt a k (swp dk k (k - 1)) = dm) := Lib.hid (by rw [hdm]; unfold fixDown; rw [if_pos (by omega), ← HJ.out, shiftDown_stop _ _ _ (.inr (by rw [← HG.out, ← HG.out]; exact hl))])
                        clear hdm
                        clear HG hc hf hl HJ Hsj hRj
                        have HU : Hid (fixUp ltInt b k dm = dm) := Lib.hid (by unfold fixUp; rw [if_neg (by omega)])
                        go_roundw
                        case rel => exact ⟨k, s + 1, dm, rfl, by go_num, by omega, by omega, by omega, Hm, hRm, Lib.hid (by rw [← HO.out, pi_go ltInt a b s i k dk hs HK.out (by omega) h50, HF.out, HU.out])⟩
                        case measure => simp [intOf] <;> omega
                      · have hl : ltInt (G j) (G (j - 1)) = true := of_not_false (by assumption)
                        go_region
                        all_goals go_wp2_with fail
                        go_roundw
                        case rel => exact ⟨j - 1, swp dj j (j - 1), by congr 1; omega, by omega, Lib.hid (by rw [size_swp]; exact Hsj.out), rw_swapG HG Hsj (rw_drewN hRj _) j (j - 1) (by omega) (by omega) rfl rfl, Lib.hid (by rw [← HJ.out, shiftDown_go ltInt j dj hj1 (by rw [← HG.out, ← HG.out]; exact hl)])⟩
                        case measure => simp [intOf] <;> omega
                    · obtain rfl : j = 0 := by omega
                      go_wp2_with fail
                      obtain ⟨dm, hdm⟩ : ∃ dm, dm = dj := ⟨_, rfl⟩
                      have Hm : Hid (dm.size = n) := Lib.hid (by rw [hdm]; exact Hsj.out)
                      have hRm := hRj
                      rw [← hdm] at hRm
                      have HF : Hid (fixDown ltInt a k (swp dk k (k - 1)) = dm) := Lib.hid (by rw [hdm]; unfold fixDown; rw [if_pos (by omega), ← HJ.out, shiftDown_stop _ _ _ (.inl rfl)])
                      clear hdm
                      clear HG hc hf HJ Hsj hRj
                      have HU : Hid (fixUp ltInt b k dm = dm) := Lib.hid (by unfold fixUp; rw [if_neg (by omega)])
                      go_roundw
                      case rel => exact ⟨k, s + 1, dm, rfl, by go_num, by omega, by omega, by omega, Hm, hRm, Lib.hid (by rw [← HO.out, pi_go ltInt a b s i k dk hs HK.out (by omega) h50, HF.out, HU.out])⟩
                      case measure => simp [intOf] <;> omega
            · by_cases h3 : k + 2 ≤ b
              · have h51 : (50 : Int) ≤ (b : Int) - (a : Int) := by omega
                have h7 : (k : Int) - (a : Int) < 2 := by omega
                have h4 : (2 : Int) ≤ (b : Int) - (k : Int) := by omega
                go_wp2_with fail
                go_quiet ((go_at_call 34; first | exact Calls.quiet_of_same (less_u _ _ _) | exact quiet_again (less_u _ _ _)))
                go_wp2_with fail
                · have hl : ltInt (G k) (G (k - 1)) = false := of_not_true (by assumption)
                  go_roundw
                  case rel => exact ⟨k + 1, by go_num, by omega, by omega, rw_drewN hR2 _, Lib.hid (by rw [← HK0.out, scanSorted_go _ _ _ _ hkb2 (by rw [← HG.out, ← HG.out]; exact hl)])⟩
                  case measure => simp [intOf] <;> omega
                · have hl : ltInt (G k) (G (k - 1)) = true := of_not_false (by assumption)
                  have HK : Hid (scanSorted ltInt dk b i = k) := Lib.hid (by rw [← HK0.out, scanSorted_stop _ _ _ _ (.inr (by rw [← HG.out, ← HG.out]; exact hl))])
                  go_region
                  all_goals go_wp2_with fail
                  have hR5 := rw_swapG HG Hs (rw_drewN hR2 (nq + 1)) k (k - 1) hkn (by omega) rfl rfl
                  have Hs1 : Hid ((swp dk k (k - 1)).size = n) := Lib.hid (by rw [size_swp]; exact Hs.out)
                  clear HG hc hf hl hR2 HK0
                  obtain ⟨dm, hdm⟩ : ∃ dm, dm = swp dk k (k - 1) := ⟨_, rfl⟩
                  have Hm : Hid (dm.size = n) := Lib.hid (by rw [hdm]; exact Hs1.out)
                  have hRm := hR5
                  rw [← hdm] at hRm
                  have HF : Hid (fixDown ltInt a k (swp dk k (k - 1)) = dm) := Lib.hid (by rw [hdm]; unfold fixDown; rw [if_neg (by omega)])
                  clear hdm
                  clear Hs1 hR5
                  go_wp2_with fail
                  go_loopw [10] (fun v10 wr4 => ∃ (j : Nat) (dj : Array Int), v10 = .int .i64 j ∧ k < j ∧ j ≤ b ∧ Hid (dj.size = n) ∧ Rw w g off dj wr4 ∧ Hid (shiftUp ltInt b j dj = shiftUp ltInt b (k + 1) dm)) (fun v10 _ => b - (intOf v10).toNat)
                  case atStart => exact ⟨k + 1, dm, by go_num, by omega, by omega, Hm, hRm, Lib.hid rfl⟩
                  case round =>
                    obtain ⟨j, dj, rfl, hj1, hj2, Hsj, hRj, HJ⟩ := hrel
                    obtain ⟨G, HG, hc, hf⟩ := rw_fam hRj hH Hsj.out HN.out.symm
                    by_cases hjb : j < b
                    · go_wp2_with fail
                      go_quiet ((go_at_call 34; first | exact Calls.quiet_of_same (less_u _ _ _) | exact quiet_again (less_u _ _ _)))
                      go_wp2_with fail
                      · have hl : ltInt (G j) (G (j - 1)) = false := of_not_true (by assumption)
                        have HU : Hid (fixUp ltInt b k dm = dj) := Lib.hid (by unfold fixUp; rw [if_pos (by omega), ← HJ.out, shiftUp_stop _ _ _ _ (.inr (by rw [← HG.out, ← HG.out]; exact hl))])
                        go_roundw
                        case rel => exact ⟨k, s + 1, dj, rfl, by go_num, by omega, by omega, by omega, Hsj, rw_drewN hRj _, Lib.hid (by rw [← HO.out, pi_go ltInt a b s i k dk hs HK.out (by omega) h50, HF.out, HU.out])⟩
                        case measure => simp [intOf] <;> omega
                      · have hl : ltInt (G j) (G (j - 1)) = true := of_not_false (by assumption)
                        go_region
                        all_goals go_wp2_with fail
                        go_roundw
                        case rel => exact ⟨j + 1, swp dj j (j - 1), by go_num, by omega, by omega, Lib.hid (by rw [size_swp]; exact Hsj.out), rw_swapG HG Hsj (rw_drewN hRj _) j (j - 1) (by omega) (by omega) rfl rfl, Lib.hid (by rw [← HJ.out, shiftUp_go ltInt b j dj hjb (by rw [← HG.out, ← HG.out]; exact hl)])⟩
                        case measure => simp [intOf] <;> omega
                    · have HU : Hid (fixUp ltInt b k dm = dj) := Lib.hid (by unfold fixUp; rw [if_pos (by omega), ← HJ.out, shiftUp_stop _ _ _ _ (.inl hjb)])
                      go_wp2_with fail
                      go_roundw
                      case rel => exact ⟨k, s + 1, dj, rfl, by go_num, by omega, by omega, by omega, Hsj, hRj, Lib.hid (by rw [← HO.out, pi_go ltInt a b s i k dk hs HK.out (by omega) h50, HF.out, HU.out])⟩
                      case measure => simp [intOf] <;> omega
              · omega
        · obtain rfl : k = b := by omega
          have hres : Hid (partialInsertionSort ltInt d a k = (dk, true)) := Lib.hid (by rw [← HO.out, pi_true ltInt a k s i dk hs (by rw [← HK0.out, scanSorted_stop _ _ _ _ (.inl hkb2)])])
          go_wp2_with fail
          go_quiet ((go_at_call 34; first | exact Calls.quiet_of_same (less_u _ _ _) | exact quiet_again (less_u _ _ _)))
          go_wp2_with fail
          go_ret
          exact ⟨by rw [hres.out]; rfl, by rw [hres.out]; exact rw_drewN hR2 _⟩
    · obtain rfl : s = 5 := by omega
      have hres : Hid (partialInsertionSort ltInt d a b = (dk, false)) := Lib.hid (by rw [← HO.out, pi_end])
      go_wp2_with fail
      go_ret
      exact ⟨by rw [hres.out]; rfl, by rw [hres.out]; exact hR⟩
end Go.Proofs.Ytoikjokdabpmoaa
