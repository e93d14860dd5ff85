/- partition at uint64, walked. -/
import Derived.Test.YtoikjokdabpmoaaSrt6
import Derived.Sort.WalkC4
namespace Go.Proofs.Ytoikjokdabpmoaa
open Go.RowKit Go.Sort

set_option maxHeartbeats 64000000 in
set_option maxRecDepth 100000 in
theorem part_u (g off cap a b pivot : Nat) (d : Array Int) (w : World) (hH : Holds encU w g off d) (hp1 : a ≤ pivot) (hp2 : pivot < b) (hb : b ≤ d.size) (hsz : d.size ≤ 1000) :
    Calls Try.prog 36 #[.slice (some ⟨g, off, none⟩) d.size cap, .int .i64 a, .int .i64 b, .int .i64 pivot] w fun e w' => e = .returned (.tuple #[.int .i64 (partition ltInt d a b pivot).1, .bool (partition ltInt d a b pivot).2.1]) ∧ Rw w g off (partition ltInt d a b pivot).2.2 w' := by
  obtain ⟨n, hn⟩ : ∃ n, n = d.size := ⟨_, rfl⟩
  have hst := rw_start hH (by omega)
  rw [← hn] at hsz hb ⊢
  have HN := Lib.hid hn
  clear hn
  obtain ⟨G0, HG0, hc0, hf0⟩ := rw_fam hst hH HN.out.symm HN.out.symm
  have hpn : pivot < n := by omega
  have han0 : a < n := by omega
  rcases Nat.lt_or_ge a pivot with hpa | hpa
  · go_enter Try.func36, Try.ntmps36
    go_wp2_with fail
    go_region
    all_goals go_wp2_with fail
    have hR0 := rw_drew (rw_swapG HG0 (Lib.hid HN.out.symm) hst a (pivot) (by omega) (by omega) rfl rfl)
    obtain ⟨i, hi⟩ : ∃ i, i = a + 1 := ⟨_, rfl⟩
    obtain ⟨j, hj⟩ : ∃ j, j = b - 1 := ⟨_, rfl⟩
    obtain ⟨dk, hdk⟩ : ∃ dk, dk = swp d a pivot := ⟨_, rfl⟩
    have ei : (a : Int) + 1 = (i : Int) := by omega
    have ej : (b : Int) - 1 = (j : Int) := by omega
    simp only [ei, ej]
    rw [← hdk] at hR0
    have Hs : Hid (dk.size = n) := Lib.hid (by rw [hdk, size_swp]; exact HN.out.symm)
    have hai : a < i := by omega
    have hij : i ≤ j + 1 := by omega
    have hjb : j < b := by omega
    have EI := Lib.hid hi
    have EJ := Lib.hid hj
    have ED : Hid (dk = swp d a pivot) := Lib.hid (by rw [hdk])
    have hR := hR0
    clear hi hj hdk ei ej hR0 hc0 hf0 HG0
    go_loopw [10] (fun v9 wr2 => ∃ i2 : Nat, v9 = .int .i64 i2 ∧ i ≤ i2 ∧ i2 ≤ j + 1 ∧ Rw w g off dk wr2 ∧ Hid (scanUp (fun x => ltInt x dk[a]!) dk j i2 = scanUp (fun x => ltInt x dk[a]!) dk j i)) (fun v9 _ => j + 1 - (intOf v9).toNat)
    case atStart => exact ⟨i, rfl, Nat.le_refl _, hij, hR, Lib.hid rfl⟩
    case round =>
      obtain ⟨i2, rfl, hi1, hi2, hR2, HU⟩ := hrel
      obtain ⟨G, HG, hc, hf⟩ := rw_fam hR2 hH Hs.out HN.out.symm
      by_cases hle : i2 ≤ j
      · have hin : i2 < n := by omega
        have han : a < n := by omega
        go_wp2_with fail
        go_quiet ((go_at_call 34; first | exact Calls.quiet_of_same (less_u _ _ _) | exact quiet_again (less_u _ _ _)))
        go_wp2_with fail
        · have hl : ltInt (G i2) (G a) = true := by assumption
          go_roundw
          case rel => exact ⟨i2 + 1, by go_num, by omega, by omega, rw_drewN hR2 _, Lib.hid (by rw [← HU.out, scanUp_go _ _ _ _ hle (by show ltInt dk[i2]! dk[a]! = true; rw [← HG.out, ← HG.out, hl])])⟩
          case measure => simp [intOf] <;> omega
        · have hl : ltInt (G i2) (G a) = false := by assumption
          have hup : Hid (i2 = scanUp (fun x => ltInt x dk[a]!) dk j i) := Lib.hid (by rw [← HU.out, scanUp_end _ _ _ _ (.inr (by show ltInt dk[i2]! dk[a]! = false; rw [← HG.out, ← HG.out, hl]))])
          have hR3 := rw_drewN hR2 nq
          clear hc hf HG hl
          go_loopw [11] (fun v10 wr3 => ∃ j2 : Nat, v10 = .int .i64 j2 ∧ i2 ≤ j2 + 1 ∧ j2 ≤ j ∧ Rw w g off dk wr3 ∧ Hid (scanDown (fun x => !ltInt x dk[a]!) dk i2 j2 = scanDown (fun x => !ltInt x dk[a]!) dk i2 j)) (fun v10 _ => (intOf v10).toNat)
          case atStart => exact ⟨j, rfl, by omega, Nat.le_refl _, hR3, Lib.hid rfl⟩
          case round =>
            obtain ⟨j2, rfl, hj1, hj2, hR4, HV⟩ := hrel
            obtain ⟨G, HG, hc, hf⟩ := rw_fam hR4 hH Hs.out HN.out.symm
            by_cases hle2 : i2 ≤ j2
            · have hjn : j2 < n := by omega
              go_wp2_with fail
              go_quiet ((go_at_call 34; first | exact Calls.quiet_of_same (less_u _ _ _) | exact quiet_again (less_u _ _ _)))
              go_wp2_with fail
              · have hl : ltInt (G j2) (G a) = false := of_not_true (by assumption)
                go_roundw
                case rel => exact ⟨j2 - 1, by congr 1; omega, by omega, by omega, rw_drewN hR4 _, Lib.hid (by rw [← HV.out, scanDown_go _ _ _ _ hle2 (by omega) (by show (!ltInt dk[j2]! dk[a]!) = true; rw [← HG.out, ← HG.out, hl]; rfl)])⟩
                case measure => simp [intOf] <;> omega
              · have hl : ltInt (G j2) (G a) = true := of_not_false (by assumption)
                have hdn : Hid (j2 = scanDown (fun x => !ltInt x dk[a]!) dk i2 j) := Lib.hid (by rw [← HV.out, scanDown_end _ _ _ _ (.inr (by show (!ltInt dk[j2]! dk[a]!) = false; rw [← HG.out, ← HG.out, hl]; rfl))])
                have hlt2 : i2 < j2 := part_scans_lt ltInt a i j dk (by omega) hup.out hdn.out hle2
                have hnext : Hid (partition ltInt d a b pivot = ((partLoop ltInt a (i2 + 1) (j2 - 1) (swp dk i2 j2)).1, false, swp (partLoop ltInt a (i2 + 1) (j2 - 1) (swp dk i2 j2)).2 (partLoop ltInt a (i2 + 1) (j2 - 1) (swp dk i2 j2)).1 a)) := Lib.hid (part_first_go ltInt d a b pivot EI.out EJ.out ED.out hup.out hdn.out (by omega))
                go_wp2_with fail
                go_region
                all_goals go_wp2_with fail
                go_loopw [10, 11] (fun v9 v10 wr => ∃ (i j : Nat) (dk : Array Int), v9 = .int .i64 i ∧ v10 = .int .i64 j ∧ a < i ∧ i ≤ j + 1 ∧ j < b ∧ Hid (dk.size = n) ∧ Rw w g off dk wr ∧ Hid (partition ltInt d a b pivot = ((partLoop ltInt a i j dk).1, false, swp (partLoop ltInt a i j dk).2 (partLoop ltInt a i j dk).1 a))) (fun v9 v10 _ => (intOf v10).toNat + 1 - (intOf v9).toNat)
                case atStart => exact ⟨i2 + 1, j2 - 1, swp dk i2 j2, by go_num, by congr 1; omega, by omega, by omega, by omega, Lib.hid (by rw [size_swp]; exact Hs.out), rw_swapG HG Hs (rw_drewN hR4 _) i2 j2 (by omega) hjn rfl rfl, hnext⟩
                case round =>
                  clear EI EJ ED hup hdn hnext HG hc hf hR hR2 hR3 hR4 HU HV hi1 hi2 hj1 hj2 hle2 hjn hlt2 hl Hs
                  obtain ⟨i, j, dk, rfl, rfl, hai, hij, hjb, Hs, hR, HO⟩ := hrel
                  go_wp2_with fail
                  go_loopw [10] (fun v9 wr2 => ∃ i2 : Nat, v9 = .int .i64 i2 ∧ i ≤ i2 ∧ i2 ≤ j + 1 ∧ Rw w g off dk wr2 ∧ Hid (scanUp (fun x => ltInt x dk[a]!) dk j i2 = scanUp (fun x => ltInt x dk[a]!) dk j i)) (fun v9 _ => j + 1 - (intOf v9).toNat)
                  case atStart => exact ⟨i, rfl, Nat.le_refl _, hij, hR, Lib.hid rfl⟩
                  case round =>
                    obtain ⟨i2, rfl, hi1, hi2, hR2, HU⟩ := hrel
                    obtain ⟨G, HG, hc, hf⟩ := rw_fam hR2 hH Hs.out HN.out.symm
                    by_cases hle : i2 ≤ j
                    · have hin : i2 < n := by omega
                      have han : a < n := by omega
                      go_wp2_with fail
                      go_quiet ((go_at_call 34; first | exact Calls.quiet_of_same (less_u _ _ _) | exact quiet_again (less_u _ _ _)))
                      go_wp2_with fail
                      · have hl : ltInt (G i2) (G a) = true := by assumption
                        go_roundw
                        case rel => exact ⟨i2 + 1, by go_num, by omega, by omega, rw_drewN hR2 _, Lib.hid (by rw [← HU.out, scanUp_go _ _ _ _ hle (by show ltInt dk[i2]! dk[a]! = true; rw [← HG.out, ← HG.out, hl])])⟩
                        case measure => simp [intOf] <;> omega
                      · have hl : ltInt (G i2) (G a) = false := by assumption
                        have hup : Hid (i2 = scanUp (fun x => ltInt x dk[a]!) dk j i) := Lib.hid (by rw [← HU.out, scanUp_end _ _ _ _ (.inr (by show ltInt dk[i2]! dk[a]! = false; rw [← HG.out, ← HG.out, hl]))])
                        have hR3 := rw_drewN hR2 nq
                        clear hc hf HG hl
                        go_loopw [11] (fun v10 wr3 => ∃ j2 : Nat, v10 = .int .i64 j2 ∧ i2 ≤ j2 + 1 ∧ j2 ≤ j ∧ Rw w g off dk wr3 ∧ Hid (scanDown (fun x => !ltInt x dk[a]!) dk i2 j2 = scanDown (fun x => !ltInt x dk[a]!) dk i2 j)) (fun v10 _ => (intOf v10).toNat)
                        case atStart => exact ⟨j, rfl, by omega, Nat.le_refl _, hR3, Lib.hid rfl⟩
                        case round =>
                          obtain ⟨j2, rfl, hj1, hj2, hR4, HV⟩ := hrel
                          obtain ⟨G, HG, hc, hf⟩ := rw_fam hR4 hH Hs.out HN.out.symm
                          by_cases hle2 : i2 ≤ j2
                          · have hjn : j2 < n := by omega
                            go_wp2_with fail
                            go_quiet ((go_at_call 34; first | exact Calls.quiet_of_same (less_u _ _ _) | exact quiet_again (less_u _ _ _)))
                            go_wp2_with fail
                            · have hl : ltInt (G j2) (G a) = false := of_not_true (by assumption)
                              go_roundw
                              case rel => exact ⟨j2 - 1, by congr 1; omega, by omega, by omega, rw_drewN hR4 _, Lib.hid (by rw [← HV.out, scanDown_go _ _ _ _ hle2 (by omega) (by show (!ltInt dk[j2]! dk[a]!) = true; rw [← HG.out, ← HG.out, hl]; rfl)])⟩
                              case measure => simp [intOf] <;> omega
                            · have hl : ltInt (G j2) (G a) = true := of_not_false (by assumption)
                              have hdn : Hid (j2 = scanDown (fun x => !ltInt x dk[a]!) dk i2 j) := Lib.hid (by rw [← HV.out, scanDown_end _ _ _ _ (.inr (by show (!ltInt dk[j2]! dk[a]!) = false; rw [← HG.out, ← HG.out, hl]; rfl))])
                              have hlt2 : i2 < j2 := part_scans_lt ltInt a i j dk (by omega) hup.out hdn.out hle2
                              have hnext : Hid (partition ltInt d a b pivot = ((partLoop ltInt a (i2 + 1) (j2 - 1) (swp dk i2 j2)).1, false, swp (partLoop ltInt a (i2 + 1) (j2 - 1) (swp dk i2 j2)).2 (partLoop ltInt a (i2 + 1) (j2 - 1) (swp dk i2 j2)).1 a)) := Lib.hid (by rw [HO.out, part_go ltInt a i j dk hup.out hdn.out (by omega)])
                              go_wp2_with fail
                              go_region
                              all_goals go_wp2_with fail
                              go_roundw
                              case rel => exact ⟨i2 + 1, j2 - 1, swp dk i2 j2, by go_num, by congr 1; omega, by omega, by omega, by omega, Lib.hid (by rw [size_swp]; exact Hs.out), rw_swapG HG Hs (rw_drewN hR4 _) i2 j2 (by omega) hjn rfl rfl, hnext⟩
                              case measure => simp [intOf] <;> omega
                          · go_wp2_with fail
                            go_quiet ((go_at_call 34; first | exact Calls.quiet_of_same (less_u _ _ _) | exact quiet_again (less_u _ _ _)))
                            go_wp2_with fail
                            have hdn : Hid (j2 = scanDown (fun x => !ltInt x dk[a]!) dk i2 j) := Lib.hid (by rw [← HV.out, scanDown_end _ _ _ _ (.inl hle2)])
                            have hfinal : Hid (partition ltInt d a b pivot = (j2, false, swp dk j2 a)) := Lib.hid (by rw [HO.out, part_break ltInt a i j dk hup.out hdn.out (by omega)])
                            go_wp2_with fail
                            have hj2n : j2 < n := by omega
                            rcases Nat.lt_or_ge a j2 with hja | hja
                            · go_region
                              all_goals go_wp2_with fail
                              go_ret2
                              exact ⟨by rw [hfinal.out]; rfl, by rw [hfinal.out]; exact rw_swapG HG Hs (rw_drewN hR4 _) j2 a hj2n (by omega) rfl rfl⟩
                            · have hje : j2 = a := by omega
                              subst hje
                              go_region
                              all_goals go_wp2_with fail
                              go_ret2
                              exact ⟨by rw [hfinal.out]; rfl, by rw [hfinal.out]; exact rw_swapG HG Hs (rw_drewN hR4 _) j2 j2 hj2n hj2n rfl rfl⟩
                    · have han : a < n := by omega
                      go_wp2_with fail
                      go_quiet ((go_at_call 34; first | exact Calls.quiet_of_same (less_u _ _ _) | exact quiet_again (less_u _ _ _)))
                      go_wp2_with fail
                      have hup : Hid (i2 = scanUp (fun x => ltInt x dk[a]!) dk j i) := Lib.hid (by rw [← HU.out, scanUp_end _ _ _ _ (.inl hle)])
                      have hR3 := rw_drewN hR2 nq
                      clear hc hf HG
                      go_loopw [11] (fun v10 wr3 => ∃ j2 : Nat, v10 = .int .i64 j2 ∧ i2 ≤ j2 + 1 ∧ j2 ≤ j ∧ Rw w g off dk wr3 ∧ Hid (scanDown (fun x => !ltInt x dk[a]!) dk i2 j2 = scanDown (fun x => !ltInt x dk[a]!) dk i2 j)) (fun v10 _ => (intOf v10).toNat)
                      case atStart => exact ⟨j, rfl, by omega, Nat.le_refl _, hR3, Lib.hid rfl⟩
                      case round =>
                        obtain ⟨j2, rfl, hj1, hj2, hR4, HV⟩ := hrel
                        obtain ⟨G, HG, hc, hf⟩ := rw_fam hR4 hH Hs.out HN.out.symm
                        by_cases hle2 : i2 ≤ j2
                        · exact absurd hle2 (by omega)
                        · go_wp2_with fail
                          go_quiet ((go_at_call 34; first | exact Calls.quiet_of_same (less_u _ _ _) | exact quiet_again (less_u _ _ _)))
                          go_wp2_with fail
                          have hdn : Hid (j2 = scanDown (fun x => !ltInt x dk[a]!) dk i2 j) := Lib.hid (by rw [← HV.out, scanDown_end _ _ _ _ (.inl hle2)])
                          have hfinal : Hid (partition ltInt d a b pivot = (j2, false, swp dk j2 a)) := Lib.hid (by rw [HO.out, part_break ltInt a i j dk hup.out hdn.out (by omega)])
                          go_wp2_with fail
                          have hj2n : j2 < n := by omega
                          rcases Nat.lt_or_ge a j2 with hja | hja
                          · go_region
                            all_goals go_wp2_with fail
                            go_ret2
                            exact ⟨by rw [hfinal.out]; rfl, by rw [hfinal.out]; exact rw_swapG HG Hs (rw_drewN hR4 _) j2 a hj2n (by omega) rfl rfl⟩
                          · have hje : j2 = a := by omega
                            subst hje
                            go_region
                            all_goals go_wp2_with fail
                            go_ret2
                            exact ⟨by rw [hfinal.out]; rfl, by rw [hfinal.out]; exact rw_swapG HG Hs (rw_drewN hR4 _) j2 j2 hj2n hj2n rfl rfl⟩
            · go_wp2_with fail
              go_quiet ((go_at_call 34; first | exact Calls.quiet_of_same (less_u _ _ _) | exact quiet_again (less_u _ _ _)))
              go_wp2_with fail
              have hdn : Hid (j2 = scanDown (fun x => !ltInt x dk[a]!) dk i2 j) := Lib.hid (by rw [← HV.out, scanDown_end _ _ _ _ (.inl hle2)])
              have hfinal : Hid (partition ltInt d a b pivot = (j2, true, swp dk j2 a)) := Lib.hid (part_first_break ltInt d a b pivot EI.out EJ.out ED.out hup.out hdn.out (by omega))
              go_wp2_with fail
              have hj2n : j2 < n := by omega
              rcases Nat.lt_or_ge a j2 with hja | hja
              · go_region
                all_goals go_wp2_with fail
                go_ret2
                exact ⟨by rw [hfinal.out]; rfl, by rw [hfinal.out]; exact rw_swapG HG Hs (rw_drewN hR4 _) j2 a hj2n (by omega) rfl rfl⟩
              · have hje : j2 = a := by omega
                subst hje
                go_region
                all_goals go_wp2_with fail
                go_ret2
                exact ⟨by rw [hfinal.out]; rfl, by rw [hfinal.out]; exact rw_swapG HG Hs (rw_drewN hR4 _) j2 j2 hj2n hj2n rfl rfl⟩
      · have han : a < n := by omega
        go_wp2_with fail
        go_quiet ((go_at_call 34; first | exact Calls.quiet_of_same (less_u _ _ _) | exact quiet_again (less_u _ _ _)))
        go_wp2_with fail
        have hup : Hid (i2 = scanUp (fun x => ltInt x dk[a]!) dk j i) := Lib.hid (by rw [← HU.out, scanUp_end _ _ _ _ (.inl hle)])
        have hR3 := rw_drewN hR2 nq
        clear hc hf HG
        go_loopw [11] (fun v10 wr3 => ∃ j2 : Nat, v10 = .int .i64 j2 ∧ i2 ≤ j2 + 1 ∧ j2 ≤ j ∧ Rw w g off dk wr3 ∧ Hid (scanDown (fun x => !ltInt x dk[a]!) dk i2 j2 = scanDown (fun x => !ltInt x dk[a]!) dk i2 j)) (fun v10 _ => (intOf v10).toNat)
        case atStart => exact ⟨j, rfl, by omega, Nat.le_refl _, hR3, Lib.hid rfl⟩
        case round =>
          obtain ⟨j2, rfl, hj1, hj2, hR4, HV⟩ := hrel
          obtain ⟨G, HG, hc, hf⟩ := rw_fam hR4 hH Hs.out HN.out.symm
          by_cases hle2 : i2 ≤ j2
          · exact absurd hle2 (by omega)
          · go_wp2_with fail
            go_quiet ((go_at_call 34; first | exact Calls.quiet_of_same (less_u _ _ _) | exact quiet_again (less_u _ _ _)))
            go_wp2_with fail
            have hdn : Hid (j2 = scanDown (fun x => !ltInt x dk[a]!) dk i2 j) := Lib.hid (by rw [← HV.out, scanDown_end _ _ _ _ (.inl hle2)])
            have hfinal : Hid (partition ltInt d a b pivot = (j2, true, swp dk j2 a)) := Lib.hid (part_first_break ltInt d a b pivot EI.out EJ.out ED.out hup.out hdn.out (by omega))
            go_wp2_with fail
            have hj2n : j2 < n := by omega
            rcases Nat.lt_or_ge a j2 with hja | hja
            · go_region
              all_goals go_wp2_with fail
              go_ret2
              exact ⟨by rw [hfinal.out]; rfl, by rw [hfinal.out]; exact rw_swapG HG Hs (rw_drewN hR4 _) j2 a hj2n (by omega) rfl rfl⟩
            · have hje : j2 = a := by omega
              subst hje
              go_region
              all_goals go_wp2_with fail
              go_ret2
              exact ⟨by rw [hfinal.out]; rfl, by rw [hfinal.out]; exact rw_swapG HG Hs (rw_drewN hR4 _) j2 j2 hj2n hj2n rfl rfl⟩
  · have hpe : a = pivot := by omega
    subst hpe
    go_enter Try.func36, Try.ntmps36
    go_wp2_with fail
    go_region
    all_goals go_wp2_with fail
    have hR0 := rw_drew (rw_swapG HG0 (Lib.hid HN.out.symm) hst a (a) (by omega) (by omega) rfl rfl)
    obtain ⟨i, hi⟩ : ∃ i, i = a + 1 := ⟨_, rfl⟩
    obtain ⟨j, hj⟩ : ∃ j, j = b - 1 := ⟨_, rfl⟩
    obtain ⟨dk, hdk⟩ : ∃ dk, dk = swp d a a := ⟨_, rfl⟩
    have ei : (a : Int) + 1 = (i : Int) := by omega
    have ej : (b : Int) - 1 = (j : Int) := by omega
    simp only [ei, ej]
    rw [← hdk] at hR0
    have Hs : Hid (dk.size = n) := Lib.hid (by rw [hdk, size_swp]; exact HN.out.symm)
    have hai : a < i := by omega
    have hij : i ≤ j + 1 := by omega
    have hjb : j < b := by omega
    have EI := Lib.hid hi
    have EJ := Lib.hid hj
    have ED : Hid (dk = swp d a a) := Lib.hid (by rw [hdk])
    have hR := hR0
    clear hi hj hdk ei ej hR0 hc0 hf0 HG0
    go_loopw [10] (fun v9 wr2 => ∃ i2 : Nat, v9 = .int .i64 i2 ∧ i ≤ i2 ∧ i2 ≤ j + 1 ∧ Rw w g off dk wr2 ∧ Hid (scanUp (fun x => ltInt x dk[a]!) dk j i2 = scanUp (fun x => ltInt x dk[a]!) dk j i)) (fun v9 _ => j + 1 - (intOf v9).toNat)
    case atStart => exact ⟨i, rfl, Nat.le_refl _, hij, hR, Lib.hid rfl⟩
    case round =>
      obtain ⟨i2, rfl, hi1, hi2, hR2, HU⟩ := hrel
      obtain ⟨G, HG, hc, hf⟩ := rw_fam hR2 hH Hs.out HN.out.symm
      by_cases hle : i2 ≤ j
      · have hin : i2 < n := by omega
        have han : a < n := by omega
        go_wp2_with fail
        go_quiet ((go_at_call 34; first | exact Calls.quiet_of_same (less_u _ _ _) | exact quiet_again (less_u _ _ _)))
        go_wp2_with fail
        · have hl : ltInt (G i2) (G a) = true := by assumption
          go_roundw
          case rel => exact ⟨i2 + 1, by go_num, by omega, by omega, rw_drewN hR2 _, Lib.hid (by rw [← HU.out, scanUp_go _ _ _ _ hle (by show ltInt dk[i2]! dk[a]! = true; rw [← HG.out, ← HG.out, hl])])⟩
          case measure => simp [intOf] <;> omega
        · have hl : ltInt (G i2) (G a) = false := by assumption
          have hup : Hid (i2 = scanUp (fun x => ltInt x dk[a]!) dk j i) := Lib.hid (by rw [← HU.out, scanUp_end _ _ _ _ (.inr (by show ltInt dk[i2]! dk[a]! = false; rw [← HG.out, ← HG.out, hl]))])
          have hR3 := rw_drewN hR2 nq
          clear hc hf HG hl
          go_loopw [11] (fun v10 wr3 => ∃ j2 : Nat, v10 = .int .i64 j2 ∧ i2 ≤ j2 + 1 ∧ j2 ≤ j ∧ Rw w g off dk wr3 ∧ Hid (scanDown (fun x => !ltInt x dk[a]!) dk i2 j2 = scanDown (fun x => !ltInt x dk[a]!) dk i2 j)) (fun v10 _ => (intOf v10).toNat)
          case atStart => exact ⟨j, rfl, by omega, Nat.le_refl _, hR3, Lib.hid rfl⟩
          case round =>
            obtain ⟨j2, rfl, hj1, hj2, hR4, HV⟩ := hrel
            obtain ⟨G, HG, hc, hf⟩ := rw_fam hR4 hH Hs.out HN.out.symm
            by_cases hle2 : i2 ≤ j2
            · have hjn : j2 < n := by omega
              go_wp2_with fail
              go_quiet ((go_at_call 34; first | exact Calls.quiet_of_same (less_u _ _ _) | exact quiet_again (less_u _ _ _)))
              go_wp2_with fail
              · have hl : ltInt (G j2) (G a) = false := of_not_true (by assumption)
                go_roundw
                case rel => exact ⟨j2 - 1, by congr 1; omega, by omega, by omega, rw_drewN hR4 _, Lib.hid (by rw [← HV.out, scanDown_go _ _ _ _ hle2 (by omega) (by show (!ltInt dk[j2]! dk[a]!) = true; rw [← HG.out, ← HG.out, hl]; rfl)])⟩
                case measure => simp [intOf] <;> omega
              · have hl : ltInt (G j2) (G a) = true := of_not_false (by assumption)
                have hdn : Hid (j2 = scanDown (fun x => !ltInt x dk[a]!) dk i2 j) := Lib.hid (by rw [← HV.out, scanDown_end _ _ _ _ (.inr (by show (!ltInt dk[j2]! dk[a]!) = false; rw [← HG.out, ← HG.out, hl]; rfl))])
                have hlt2 : i2 < j2 := part_scans_lt ltInt a i j dk (by omega) hup.out hdn.out hle2
                have hnext : Hid (partition ltInt d a b a = ((partLoop ltInt a (i2 + 1) (j2 - 1) (swp dk i2 j2)).1, false, swp (partLoop ltInt a (i2 + 1) (j2 - 1) (swp dk i2 j2)).2 (partLoop ltInt a (i2 + 1) (j2 - 1) (swp dk i2 j2)).1 a)) := Lib.hid (part_first_go ltInt d a b a EI.out EJ.out ED.out hup.out hdn.out (by omega))
                go_wp2_with fail
                go_region
                all_goals go_wp2_with fail
                go_loopw [10, 11] (fun v9 v10 wr => ∃ (i j : Nat) (dk : Array Int), v9 = .int .i64 i ∧ v10 = .int .i64 j ∧ a < i ∧ i ≤ j + 1 ∧ j < b ∧ Hid (dk.size = n) ∧ Rw w g off dk wr ∧ Hid (partition ltInt d a b a = ((partLoop ltInt a i j dk).1, false, swp (partLoop ltInt a i j dk).2 (partLoop ltInt a i j dk).1 a))) (fun v9 v10 _ => (intOf v10).toNat + 1 - (intOf v9).toNat)
                case atStart => exact ⟨i2 + 1, j2 - 1, swp dk i2 j2, by go_num, by congr 1; omega, by omega, by omega, by omega, Lib.hid (by rw [size_swp]; exact Hs.out), rw_swapG HG Hs (rw_drewN hR4 _) i2 j2 (by omega) hjn rfl rfl, hnext⟩
                case round =>
                  clear EI EJ ED hup hdn hnext HG hc hf hR hR2 hR3 hR4 HU HV hi1 hi2 hj1 hj2 hle2 hjn hlt2 hl Hs
                  obtain ⟨i, j, dk, rfl, rfl, hai, hij, hjb, Hs, hR, HO⟩ := hrel
                  go_wp2_with fail
                  go_loopw [10] (fun v9 wr2 => ∃ i2 : Nat, v9 = .int .i64 i2 ∧ i ≤ i2 ∧ i2 ≤ j + 1 ∧ Rw w g off dk wr2 ∧ Hid (scanUp (fun x => ltInt x dk[a]!) dk j i2 = scanUp (fun x => ltInt x dk[a]!) dk j i)) (fun v9 _ => j + 1 - (intOf v9).toNat)
                  case atStart => exact ⟨i, rfl, Nat.le_refl _, hij, hR, Lib.hid rfl⟩
                  case round =>
                    obtain ⟨i2, rfl, hi1, hi2, hR2, HU⟩ := hrel
                    obtain ⟨G, HG, hc, hf⟩ := rw_fam hR2 hH Hs.out HN.out.symm
                    by_cases hle : i2 ≤ j
                    · have hin : i2 < n := by omega
                      have han : a < n := by omega
                      go_wp2_with fail
                      go_quiet ((go_at_call 34; first | exact Calls.quiet_of_same (less_u _ _ _) | exact quiet_again (less_u _ _ _)))
                      go_wp2_with fail
                      · have hl : ltInt (G i2) (G a) = true := by assumption
                        go_roundw
                        case rel => exact ⟨i2 + 1, by go_num, by omega, by omega, rw_drewN hR2 _, Lib.hid (by rw [← HU.out, scanUp_go _ _ _ _ hle (by show ltInt dk[i2]! dk[a]! = true; rw [← HG.out, ← HG.out, hl])])⟩
                        case measure => simp [intOf] <;> omega
                      · have hl : ltInt (G i2) (G a) = false := by assumption
                        have hup : Hid (i2 = scanUp (fun x => ltInt x dk[a]!) dk j i) := Lib.hid (by rw [← HU.out, scanUp_end _ _ _ _ (.inr (by show ltInt dk[i2]! dk[a]! = false; rw [← HG.out, ← HG.out, hl]))])
                        have hR3 := rw_drewN hR2 nq
                        clear hc hf HG hl
                        go_loopw [11] (fun v10 wr3 => ∃ j2 : Nat, v10 = .int .i64 j2 ∧ i2 ≤ j2 + 1 ∧ j2 ≤ j ∧ Rw w g off dk wr3 ∧ Hid (scanDown (fun x => !ltInt x dk[a]!) dk i2 j2 = scanDown (fun x => !ltInt x dk[a]!) dk i2 j)) (fun v10 _ => (intOf v10).toNat)
                        case atStart => exact ⟨j, rfl, by omega, Nat.le_refl _, hR3, Lib.hid rfl⟩
                        case round =>
                          obtain ⟨j2, rfl, hj1, hj2, hR4, HV⟩ := hrel
                          obtain ⟨G, HG, hc, hf⟩ := rw_fam hR4 hH Hs.out HN.out.symm
                          by_cases hle2 : i2 ≤ j2
                          · have hjn : j2 < n := by omega
                            go_wp2_with fail
                            go_quiet ((go_at_call 34; first | exact Calls.quiet_of_same (less_u _ _ _) | exact quiet_again (less_u _ _ _)))
                            go_wp2_with fail
                            · have hl : ltInt (G j2) (G a) = false := of_not_true (by assumption)
                              go_roundw
                              case rel => exact ⟨j2 - 1, by congr 1; omega, by omega, by omega, rw_drewN hR4 _, Lib.hid (by rw [← HV.out, scanDown_go _ _ _ _ hle2 (by omega) (by show (!ltInt dk[j2]! dk[a]!) = true; rw [← HG.out, ← HG.out, hl]; rfl)])⟩
                              case measure => simp [intOf] <;> omega
                            · have hl : ltInt (G j2) (G a) = true := of_not_false (by assumption)
                              have hdn : Hid (j2 = scanDown (fun x => !ltInt x dk[a]!) dk i2 j) := Lib.hid (by rw [← HV.out, scanDown_end _ _ _ _ (.inr (by show (!ltInt dk[j2]! dk[a]!) = false; rw [← HG.out, ← HG.out, hl]; rfl))])
                              have hlt2 : i2 < j2 := part_scans_lt ltInt a i j dk (by omega) hup.out hdn.out hle2
                              have hnext : Hid (partition ltInt d a b a = ((partLoop ltInt a (i2 + 1) (j2 - 1) (swp dk i2 j2)).1, false, swp (partLoop ltInt a (i2 + 1) (j2 - 1) (swp dk i2 j2)).2 (partLoop ltInt a (i2 + 1) (j2 - 1) (swp dk i2 j2)).1 a)) := Lib.hid (by rw [HO.out, part_go ltInt a i j dk hup.out hdn.out (by omega)])
                              go_wp2_with fail
                              go_region
                              all_goals go_wp2_with fail
                              go_roundw
                              case rel => exact ⟨i2 + 1, j2 - 1, swp dk i2 j2, by go_num, by congr 1; omega, by omega, by omega, by omega, Lib.hid (by rw [size_swp]; exact Hs.out), rw_swapG HG Hs (rw_drewN hR4 _) i2 j2 (by omega) hjn rfl rfl, hnext⟩
                              case measure => simp [intOf] <;> omega
                          · go_wp2_with fail
                            go_quiet ((go_at_call 34; first | exact Calls.quiet_of_same (less_u _ _ _) | exact quiet_again (less_u _ _ _)))
                            go_wp2_with fail
                            have hdn : Hid (j2 = scanDown (fun x => !ltInt x dk[a]!) dk i2 j) := Lib.hid (by rw [← HV.out, scanDown_end _ _ _ _ (.inl hle2)])
                            have hfinal : Hid (partition ltInt d a b a = (j2, false, swp dk j2 a)) := Lib.hid (by rw [HO.out, part_break ltInt a i j dk hup.out hdn.out (by omega)])
                            go_wp2_with fail
                            have hj2n : j2 < n := by omega
                            rcases Nat.lt_or_ge a j2 with hja | hja
                            · go_region
                              all_goals go_wp2_with fail
                              go_ret2
                              exact ⟨by rw [hfinal.out]; rfl, by rw [hfinal.out]; exact rw_swapG HG Hs (rw_drewN hR4 _) j2 a hj2n (by omega) rfl rfl⟩
                            · have hje : j2 = a := by omega
                              subst hje
                              go_region
                              all_goals go_wp2_with fail
                              go_ret2
                              exact ⟨by rw [hfinal.out]; rfl, by rw [hfinal.out]; exact rw_swapG HG Hs (rw_drewN hR4 _) j2 j2 hj2n hj2n rfl rfl⟩
                    · have han : a < n := by omega
                      go_wp2_with fail
                      go_quiet ((go_at_call 34; first | exact Calls.quiet_of_same (less_u _ _ _) | exact quiet_again (less_u _ _ _)))
                      go_wp2_with fail
                      have hup : Hid (i2 = scanUp (fun x => ltInt x dk[a]!) dk j i) := Lib.hid (by rw [← HU.out, scanUp_end _ _ _ _ (.inl hle)])
                      have hR3 := rw_drewN hR2 nq
                      clear hc hf HG
                      go_loopw [11] (fun v10 wr3 => ∃ j2 : Nat, v10 = .int .i64 j2 ∧ i2 ≤ j2 + 1 ∧ j2 ≤ j ∧ Rw w g off dk wr3 ∧ Hid (scanDown (fun x => !ltInt x dk[a]!) dk i2 j2 = scanDown (fun x => !ltInt x dk[a]!) dk i2 j)) (fun v10 _ => (intOf v10).toNat)
                      case atStart => exact ⟨j, rfl, by omega, Nat.le_refl _, hR3, Lib.hid rfl⟩
                      case round =>
                        obtain ⟨j2, rfl, hj1, hj2, hR4, HV⟩ := hrel
                        obtain ⟨G, HG, hc, hf⟩ := rw_fam hR4 hH Hs.out HN.out.symm
                        by_cases hle2 : i2 ≤ j2
                        · exact absurd hle2 (by omega)
                        · go_wp2_with fail
                          go_quiet ((go_at_call 34; first | exact Calls.quiet_of_same (less_u _ _ _) | exact quiet_again (less_u _ _ _)))
                          go_wp2_with fail
                          have hdn : Hid (j2 = scanDown (fun x => !ltInt x dk[a]!) dk i2 j) := Lib.hid (by rw [← HV.out, scanDown_end _ _ _ _ (.inl hle2)])
                          have hfinal : Hid (partition ltInt d a b a = (j2, false, swp dk j2 a)) := Lib.hid (by rw [HO.out, part_break ltInt a i j dk hup.out hdn.out (by omega)])
                          go_wp2_with fail
                          have hj2n : j2 < n := by omega
                          rcases Nat.lt_or_ge a j2 with hja | hja
                          · go_region
                            all_goals go_wp2_with fail
                            go_ret2
                            exact ⟨by rw [hfinal.out]; rfl, by rw [hfinal.out]; exact rw_swapG HG Hs (rw_drewN hR4 _) j2 a hj2n (by omega) rfl rfl⟩
                          · have hje : j2 = a := by omega
                            subst hje
                            go_region
                            all_goals go_wp2_with fail
                            go_ret2
                            exact ⟨by rw [hfinal.out]; rfl, by rw [hfinal.out]; exact rw_swapG HG Hs (rw_drewN hR4 _) j2 j2 hj2n hj2n rfl rfl⟩
            · go_wp2_with fail
              go_quiet ((go_at_call 34; first | exact Calls.quiet_of_same (less_u _ _ _) | exact quiet_again (less_u _ _ _)))
              go_wp2_with fail
              have hdn : Hid (j2 = scanDown (fun x => !ltInt x dk[a]!) dk i2 j) := Lib.hid (by rw [← HV.out, scanDown_end _ _ _ _ (.inl hle2)])
              have hfinal : Hid (partition ltInt d a b a = (j2, true, swp dk j2 a)) := Lib.hid (part_first_break ltInt d a b a EI.out EJ.out ED.out hup.out hdn.out (by omega))
              go_wp2_with fail
              have hj2n : j2 < n := by omega
              rcases Nat.lt_or_ge a j2 with hja | hja
              · go_region
                all_goals go_wp2_with fail
                go_ret2
                exact ⟨by rw [hfinal.out]; rfl, by rw [hfinal.out]; exact rw_swapG HG Hs (rw_drewN hR4 _) j2 a hj2n (by omega) rfl rfl⟩
              · have hje : j2 = a := by omega
                subst hje
                go_region
                all_goals go_wp2_with fail
                go_ret2
                exact ⟨by rw [hfinal.out]; rfl, by rw [hfinal.out]; exact rw_swapG HG Hs (rw_drewN hR4 _) j2 j2 hj2n hj2n rfl rfl⟩
      · have han : a < n := by omega
        go_wp2_with fail
        go_quiet ((go_at_call 34; first | exact Calls.quiet_of_same (less_u _ _ _) | exact quiet_again (less_u _ _ _)))
        go_wp2_with fail
        have hup : Hid (i2 = scanUp (fun x => ltInt x dk[a]!) dk j i) := Lib.hid (by rw [← HU.out, scanUp_end _ _ _ _ (.inl hle)])
        have hR3 := rw_drewN hR2 nq
        clear hc hf HG
        go_loopw [11] (fun v10 wr3 => ∃ j2 : Nat, v10 = .int .i64 j2 ∧ i2 ≤ j2 + 1 ∧ j2 ≤ j ∧ Rw w g off dk wr3 ∧ Hid (scanDown (fun x => !ltInt x dk[a]!) dk i2 j2 = scanDown (fun x => !ltInt x dk[a]!) dk i2 j)) (fun v10 _ => (intOf v10).toNat)
        case atStart => exact ⟨j, rfl, by omega, Nat.le_refl _, hR3, Lib.hid rfl⟩
        case round =>
          obtain ⟨j2, rfl, hj1, hj2, hR4, HV⟩ := hrel
          obtain ⟨G, HG, hc, hf⟩ := rw_fam hR4 hH Hs.out HN.out.symm
          by_cases hle2 : i2 ≤ j2
          · exact absurd hle2 (by omega)
          · go_wp2_with fail
            go_quiet ((go_at_call 34; first | exact Calls.quiet_of_same (less_u _ _ _) | exact quiet_again (less_u _ _ _)))
            go_wp2_with fail
            have hdn : Hid (j2 = scanDown (fun x => !ltInt x dk[a]!) dk i2 j) := Lib.hid (by rw [← HV.out, scanDown_end _ _ _ _ (.inl hle2)])
            have hfinal : Hid (partition ltInt d a b a = (j2, true, swp dk j2 a)) := Lib.hid (part_first_break ltInt d a b a EI.out EJ.out ED.out hup.out hdn.out (by omega))
            go_wp2_with fail
            have hj2n : j2 < n := by omega
            rcases Nat.lt_or_ge a j2 with hja | hja
            · go_region
              all_goals go_wp2_with fail
              go_ret2
              exact ⟨by rw [hfinal.out]; rfl, by rw [hfinal.out]; exact rw_swapG HG Hs (rw_drewN hR4 _) j2 a hj2n (by omega) rfl rfl⟩
            · have hje : j2 = a := by omega
              subst hje
              go_region
              all_goals go_wp2_with fail
              go_ret2
              exact ⟨by rw [hfinal.out]; rfl, by rw [hfinal.out]; exact rw_swapG HG Hs (rw_drewN hR4 _) j2 j2 hj2n hj2n rfl rfl⟩
end Go.Proofs.Ytoikjokdabpmoaa
