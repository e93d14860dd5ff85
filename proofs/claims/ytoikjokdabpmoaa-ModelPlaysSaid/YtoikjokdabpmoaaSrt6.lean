/- partitionEqual at uint64, walked. -/
import Derived.Test.YtoikjokdabpmoaaSrt5
import Derived.Sort.WalkC4
namespace Go.Proofs.Ytoikjokdabpmoaa
open Go.RowKit Go.Sort

set_option maxHeartbeats 16000000 in
set_option maxRecDepth 100000 in
theorem partEq_u (g off cap a b pivot : Nat) (d : Array Int) (w : World) (hH : Holds encU w g off d) (hp1 : a ≤ pivot) (hp2 : pivot < b) (hb : b ≤ d.size) (hsz : d.size ≤ 1000) :
    Calls Try.prog 35 #[.slice (some ⟨g, off, none⟩) d.size cap, .int .i64 a, .int .i64 b, .int .i64 pivot] w fun e w' => e = .returned (.int .i64 (partitionEqual ltInt d a b pivot).1) ∧ Rw w g off (partitionEqual ltInt d a b pivot).2 w' := by
  obtain ⟨n, hn⟩ : ∃ n, n = d.size := ⟨_, rfl⟩
  have hst := rw_start hH (by omega)
  rw [← hn] at hsz hb ⊢
  have HN := Lib.hid hn
  clear hn
  obtain ⟨G0, HG0, hc0, hf0⟩ := rw_fam hst hH HN.out.symm HN.out.symm
  have hpn : pivot < n := by omega
  have han0 : a < n := by omega
  rcases Nat.lt_or_ge a pivot with hpa | hpa
  · go_enter Try.func35, Try.ntmps35
    go_wp2_with fail
    go_region
    all_goals go_wp2_with fail
    have hR0 := rw_drew (rw_swapG HG0 (Lib.hid HN.out.symm) hst a (pivot) (by omega) (by omega) rfl rfl)
    go_loopw [9, 10] (fun v9 v10 wr => ∃ (i j : Nat) (dk : Array Int), v9 = .int .i64 i ∧ v10 = .int .i64 j ∧ a < i ∧ i ≤ j + 1 ∧ j < b ∧ Hid (dk.size = n) ∧ Rw w g off dk wr ∧ Hid (partEqLoop ltInt a i j dk = partitionEqual ltInt d a b pivot)) (fun v9 v10 _ => (intOf v10).toNat + 1 - (intOf v9).toNat)
    case atStart => exact ⟨a + 1, b - 1, swp d a (pivot), by go_num, by congr 1; omega, by omega, by omega, by omega, Lib.hid (by rw [size_swp]; exact HN.out.symm), hR0, Lib.hid rfl⟩
    case round =>
      obtain ⟨i, j, dk, rfl, rfl, hai, hij, hjb, Hs, hR, HO⟩ := hrel
      go_wp2_with fail
      go_loopw [9] (fun v9 wr2 => ∃ i2 : Nat, v9 = .int .i64 i2 ∧ i ≤ i2 ∧ i2 ≤ j + 1 ∧ Rw w g off dk wr2 ∧ Hid (scanUp (fun x => !ltInt dk[a]! x) dk j i2 = scanUp (fun x => !ltInt dk[a]! x) dk j i)) (fun v9 _ => j + 1 - (intOf v9).toNat)
      case atStart => exact ⟨i, rfl, Nat.le_refl _, hij, hR, Lib.hid rfl⟩
      case round =>
        obtain ⟨i2, rfl, hi1, hi2, hR2, HU⟩ := hrel
        obtain ⟨G, HG, hc, hf⟩ := rw_fam hR2 hH Hs.out HN.out.symm
        by_cases hle : i2 ≤ j
        · have hin : i2 < n := by omega
          have han : a < n := by omega
          go_wp2_with fail
          go_quiet ((go_at_call 34; first | exact Calls.quiet_of_same (less_u _ _ _) | exact quiet_again (less_u _ _ _)))
          go_wp2_with fail
          · have hl : ltInt (G a) (G i2) = false := of_not_true (by assumption)
            go_roundw
            case rel => exact ⟨i2 + 1, by go_num, by omega, by omega, rw_drewN hR2 _, Lib.hid (by rw [← HU.out, scanUp_go _ _ _ _ hle (by show (!ltInt dk[a]! dk[i2]!) = true; rw [← HG.out, ← HG.out, hl]; rfl)])⟩
            case measure => simp [intOf] <;> omega
          · have hl : ltInt (G a) (G i2) = true := of_not_false (by assumption)
            have hup : Hid (i2 = scanUp (fun x => !ltInt dk[a]! x) dk j i) := Lib.hid (by rw [← HU.out, scanUp_end _ _ _ _ (.inr (by show (!ltInt dk[a]! dk[i2]!) = false; rw [← HG.out, ← HG.out, hl]; rfl))])
            have hR3 := rw_drewN hR2 nq
            clear hc hf HG hl
            go_loopw [10] (fun v10 wr3 => ∃ j2 : Nat, v10 = .int .i64 j2 ∧ i2 ≤ j2 + 1 ∧ j2 ≤ j ∧ Rw w g off dk wr3 ∧ Hid (scanDown (fun x => ltInt dk[a]! x) dk i2 j2 = scanDown (fun x => ltInt dk[a]! x) dk i2 j)) (fun v10 _ => (intOf v10).toNat)
            case atStart => exact ⟨j, rfl, by omega, Nat.le_refl _, hR3, Lib.hid rfl⟩
            case round =>
              obtain ⟨j2, rfl, hj1, hj2, hR4, HV⟩ := hrel
              obtain ⟨G, HG, hc, hf⟩ := rw_fam hR4 hH Hs.out HN.out.symm
              by_cases hle2 : i2 ≤ j2
              · have hjn : j2 < n := by omega
                go_wp2_with fail
                go_quiet ((go_at_call 34; first | exact Calls.quiet_of_same (less_u _ _ _) | exact quiet_again (less_u _ _ _)))
                go_wp2_with fail
                · have hl : ltInt (G a) (G j2) = true := by assumption
                  go_roundw
                  case rel => exact ⟨j2 - 1, by congr 1; omega, by omega, by omega, rw_drewN hR4 _, Lib.hid (by rw [← HV.out, scanDown_go _ _ _ _ hle2 (by omega) (by show ltInt dk[a]! dk[j2]! = true; rw [← HG.out, ← HG.out, hl])])⟩
                  case measure => simp [intOf] <;> omega
                · have hl : ltInt (G a) (G j2) = false := by assumption
                  have hdn : Hid (j2 = scanDown (fun x => ltInt dk[a]! x) dk i2 j) := Lib.hid (by rw [← HV.out, scanDown_end _ _ _ _ (.inr (by show ltInt dk[a]! dk[j2]! = false; rw [← HG.out, ← HG.out, hl]))])
                  have hlt2 : i2 < j2 := scans_lt ltInt a i j dk (by omega) hup.out hdn.out hle2
                  have hnext : Hid (partEqLoop ltInt a (i2 + 1) (j2 - 1) (swp dk i2 j2) = partitionEqual ltInt d a b pivot) := Lib.hid (by rw [← HO.out, partEq_go ltInt a i j dk hup.out hdn.out (by omega)])
                  go_wp2_with fail
                  go_region
                  all_goals go_wp2_with fail
                  go_roundw
                  case rel => exact ⟨i2 + 1, j2 - 1, swp dk i2 j2, by go_num, by congr 1; omega, by omega, by omega, by omega, Lib.hid (by rw [size_swp]; exact Hs.out), rw_swapG HG Hs (rw_drewN hR4 _) i2 j2 (by omega) hjn rfl rfl, hnext⟩
                  case measure => simp [intOf] <;> omega
              · go_wp2_with fail
                go_quiet ((go_at_call 34; first | exact Calls.quiet_of_same (less_u _ _ _) | exact quiet_again (less_u _ _ _)))
                go_wp2_with fail
                have hdn : Hid (j2 = scanDown (fun x => ltInt dk[a]! x) dk i2 j) := Lib.hid (by rw [← HV.out, scanDown_end _ _ _ _ (.inl hle2)])
                have hd2 : Hid (partitionEqual ltInt d a b pivot = (i2, dk)) := Lib.hid (by rw [← HO.out, partEq_break ltInt a i j dk hup.out hdn.out (by omega)])
                go_wp2_with fail
                go_ret
                exact ⟨by rw [hd2.out]; rfl, by rw [hd2.out]; first | exact rw_drewN hR4 _ | exact hR4⟩
        · have han : a < n := by omega
          go_wp2_with fail
          go_quiet ((go_at_call 34; first | exact Calls.quiet_of_same (less_u _ _ _) | exact quiet_again (less_u _ _ _)))
          go_wp2_with fail
          have hup : Hid (i2 = scanUp (fun x => !ltInt dk[a]! x) dk j i) := Lib.hid (by rw [← HU.out, scanUp_end _ _ _ _ (.inl hle)])
          have hR3 := rw_drewN hR2 nq
          clear hc hf HG
          go_loopw [10] (fun v10 wr3 => ∃ j2 : Nat, v10 = .int .i64 j2 ∧ i2 ≤ j2 + 1 ∧ j2 ≤ j ∧ Rw w g off dk wr3 ∧ Hid (scanDown (fun x => ltInt dk[a]! x) dk i2 j2 = scanDown (fun x => ltInt dk[a]! x) dk i2 j)) (fun v10 _ => (intOf v10).toNat)
          case atStart => exact ⟨j, rfl, by omega, Nat.le_refl _, hR3, Lib.hid rfl⟩
          case round =>
            obtain ⟨j2, rfl, hj1, hj2, hR4, HV⟩ := hrel
            obtain ⟨G, HG, hc, hf⟩ := rw_fam hR4 hH Hs.out HN.out.symm
            by_cases hle2 : i2 ≤ j2
            · exact absurd hle2 (by omega)
            · go_wp2_with fail
              go_quiet ((go_at_call 34; first | exact Calls.quiet_of_same (less_u _ _ _) | exact quiet_again (less_u _ _ _)))
              go_wp2_with fail
              have hdn : Hid (j2 = scanDown (fun x => ltInt dk[a]! x) dk i2 j) := Lib.hid (by rw [← HV.out, scanDown_end _ _ _ _ (.inl hle2)])
              have hd2 : Hid (partitionEqual ltInt d a b pivot = (i2, dk)) := Lib.hid (by rw [← HO.out, partEq_break ltInt a i j dk hup.out hdn.out (by omega)])
              go_wp2_with fail
              go_ret
              exact ⟨by rw [hd2.out]; rfl, by rw [hd2.out]; first | exact rw_drewN hR4 _ | exact hR4⟩
  · have hpe : a = pivot := by omega
    subst hpe
    go_enter Try.func35, Try.ntmps35
    go_wp2_with fail
    go_region
    all_goals go_wp2_with fail
    have hR0 := rw_drew (rw_swapG HG0 (Lib.hid HN.out.symm) hst a (a) (by omega) (by omega) rfl rfl)
    go_loopw [9, 10] (fun v9 v10 wr => ∃ (i j : Nat) (dk : Array Int), v9 = .int .i64 i ∧ v10 = .int .i64 j ∧ a < i ∧ i ≤ j + 1 ∧ j < b ∧ Hid (dk.size = n) ∧ Rw w g off dk wr ∧ Hid (partEqLoop ltInt a i j dk = partitionEqual ltInt d a b a)) (fun v9 v10 _ => (intOf v10).toNat + 1 - (intOf v9).toNat)
    case atStart => exact ⟨a + 1, b - 1, swp d a (a), by go_num, by congr 1; omega, by omega, by omega, by omega, Lib.hid (by rw [size_swp]; exact HN.out.symm), hR0, Lib.hid rfl⟩
    case round =>
      obtain ⟨i, j, dk, rfl, rfl, hai, hij, hjb, Hs, hR, HO⟩ := hrel
      go_wp2_with fail
      go_loopw [9] (fun v9 wr2 => ∃ i2 : Nat, v9 = .int .i64 i2 ∧ i ≤ i2 ∧ i2 ≤ j + 1 ∧ Rw w g off dk wr2 ∧ Hid (scanUp (fun x => !ltInt dk[a]! x) dk j i2 = scanUp (fun x => !ltInt dk[a]! x) dk j i)) (fun v9 _ => j + 1 - (intOf v9).toNat)
      case atStart => exact ⟨i, rfl, Nat.le_refl _, hij, hR, Lib.hid rfl⟩
      case round =>
        obtain ⟨i2, rfl, hi1, hi2, hR2, HU⟩ := hrel
        obtain ⟨G, HG, hc, hf⟩ := rw_fam hR2 hH Hs.out HN.out.symm
        by_cases hle : i2 ≤ j
        · have hin : i2 < n := by omega
          have han : a < n := by omega
          go_wp2_with fail
          go_quiet ((go_at_call 34; first | exact Calls.quiet_of_same (less_u _ _ _) | exact quiet_again (less_u _ _ _)))
          go_wp2_with fail
          · have hl : ltInt (G a) (G i2) = false := of_not_true (by assumption)
            go_roundw
            case rel => exact ⟨i2 + 1, by go_num, by omega, by omega, rw_drewN hR2 _, Lib.hid (by rw [← HU.out, scanUp_go _ _ _ _ hle (by show (!ltInt dk[a]! dk[i2]!) = true; rw [← HG.out, ← HG.out, hl]; rfl)])⟩
            case measure => simp [intOf] <;> omega
          · have hl : ltInt (G a) (G i2) = true := of_not_false (by assumption)
            have hup : Hid (i2 = scanUp (fun x => !ltInt dk[a]! x) dk j i) := Lib.hid (by rw [← HU.out, scanUp_end _ _ _ _ (.inr (by show (!ltInt dk[a]! dk[i2]!) = false; rw [← HG.out, ← HG.out, hl]; rfl))])
            have hR3 := rw_drewN hR2 nq
            clear hc hf HG hl
            go_loopw [10] (fun v10 wr3 => ∃ j2 : Nat, v10 = .int .i64 j2 ∧ i2 ≤ j2 + 1 ∧ j2 ≤ j ∧ Rw w g off dk wr3 ∧ Hid (scanDown (fun x => ltInt dk[a]! x) dk i2 j2 = scanDown (fun x => ltInt dk[a]! x) dk i2 j)) (fun v10 _ => (intOf v10).toNat)
            case atStart => exact ⟨j, rfl, by omega, Nat.le_refl _, hR3, Lib.hid rfl⟩
            case round =>
              obtain ⟨j2, rfl, hj1, hj2, hR4, HV⟩ := hrel
              obtain ⟨G, HG, hc, hf⟩ := rw_fam hR4 hH Hs.out HN.out.symm
              by_cases hle2 : i2 ≤ j2
              · have hjn : j2 < n := by omega
                go_wp2_with fail
                go_quiet ((go_at_call 34; first | exact Calls.quiet_of_same (less_u _ _ _) | exact quiet_again (less_u _ _ _)))
                go_wp2_with fail
                · have hl : ltInt (G a) (G j2) = true := by assumption
                  go_roundw
                  case rel => exact ⟨j2 - 1, by congr 1; omega, by omega, by omega, rw_drewN hR4 _, Lib.hid (by rw [← HV.out, scanDown_go _ _ _ _ hle2 (by omega) (by show ltInt dk[a]! dk[j2]! = true; rw [← HG.out, ← HG.out, hl])])⟩
                  case measure => simp [intOf] <;> omega
                · have hl : ltInt (G a) (G j2) = false := by assumption
                  have hdn : Hid (j2 = scanDown (fun x => ltInt dk[a]! x) dk i2 j) := Lib.hid (by rw [← HV.out, scanDown_end _ _ _ _ (.inr (by show ltInt dk[a]! dk[j2]! = false; rw [← HG.out, ← HG.out, hl]))])
                  have hlt2 : i2 < j2 := scans_lt ltInt a i j dk (by omega) hup.out hdn.out hle2
                  have hnext : Hid (partEqLoop ltInt a (i2 + 1) (j2 - 1) (swp dk i2 j2) = partitionEqual ltInt d a b a) := Lib.hid (by rw [← HO.out, partEq_go ltInt a i j dk hup.out hdn.out (by omega)])
                  go_wp2_with fail
                  go_region
                  all_goals go_wp2_with fail
                  go_roundw
                  case rel => exact ⟨i2 + 1, j2 - 1, swp dk i2 j2, by go_num, by congr 1; omega, by omega, by omega, by omega, Lib.hid (by rw [size_swp]; exact Hs.out), rw_swapG HG Hs (rw_drewN hR4 _) i2 j2 (by omega) hjn rfl rfl, hnext⟩
                  case measure => simp [intOf] <;> omega
              · go_wp2_with fail
                go_quiet ((go_at_call 34; first | exact Calls.quiet_of_same (less_u _ _ _) | exact quiet_again (less_u _ _ _)))
                go_wp2_with fail
                have hdn : Hid (j2 = scanDown (fun x => ltInt dk[a]! x) dk i2 j) := Lib.hid (by rw [← HV.out, scanDown_end _ _ _ _ (.inl hle2)])
                have hd2 : Hid (partitionEqual ltInt d a b a = (i2, dk)) := Lib.hid (by rw [← HO.out, partEq_break ltInt a i j dk hup.out hdn.out (by omega)])
                go_wp2_with fail
                go_ret
                exact ⟨by rw [hd2.out]; rfl, by rw [hd2.out]; first | exact rw_drewN hR4 _ | exact hR4⟩
        · have han : a < n := by omega
          go_wp2_with fail
          go_quiet ((go_at_call 34; first | exact Calls.quiet_of_same (less_u _ _ _) | exact quiet_again (less_u _ _ _)))
          go_wp2_with fail
          have hup : Hid (i2 = scanUp (fun x => !ltInt dk[a]! x) dk j i) := Lib.hid (by rw [← HU.out, scanUp_end _ _ _ _ (.inl hle)])
          have hR3 := rw_drewN hR2 nq
          clear hc hf HG
          go_loopw [10] (fun v10 wr3 => ∃ j2 : Nat, v10 = .int .i64 j2 ∧ i2 ≤ j2 + 1 ∧ j2 ≤ j ∧ Rw w g off dk wr3 ∧ Hid (scanDown (fun x => ltInt dk[a]! x) dk i2 j2 = scanDown (fun x => ltInt dk[a]! x) dk i2 j)) (fun v10 _ => (intOf v10).toNat)
          case atStart => exact ⟨j, rfl, by omega, Nat.le_refl _, hR3, Lib.hid rfl⟩
          case round =>
            obtain ⟨j2, rfl, hj1, hj2, hR4, HV⟩ := hrel
            obtain ⟨G, HG, hc, hf⟩ := rw_fam hR4 hH Hs.out HN.out.symm
            by_cases hle2 : i2 ≤ j2
            · exact absurd hle2 (by omega)
            · go_wp2_with fail
              go_quiet ((go_at_call 34; first | exact Calls.quiet_of_same (less_u _ _ _) | exact quiet_again (less_u _ _ _)))
              go_wp2_with fail
              have hdn : Hid (j2 = scanDown (fun x => ltInt dk[a]! x) dk i2 j) := Lib.hid (by rw [← HV.out, scanDown_end _ _ _ _ (.inl hle2)])
              have hd2 : Hid (partitionEqual ltInt d a b a = (i2, dk)) := Lib.hid (by rw [← HO.out, partEq_break ltInt a i j dk hup.out hdn.out (by omega)])
              go_wp2_with fail
              go_ret
              exact ⟨by rw [hd2.out]; rfl, by rw [hd2.out]; first | exact rw_drewN hR4 _ | exact hR4⟩
end Go.Proofs.Ytoikjokdabpmoaa
