/- Insertion sort and the reversal of a range at uint64, walked. -/
import Derived.Test.YtoikjokdabpmoaaSrt0
import Derived.Sort.WalkA
namespace Go.Proofs.Ytoikjokdabpmoaa
open Go.RowKit Go.Sort


set_option maxHeartbeats 4000000 in
set_option maxRecDepth 100000 in
theorem insertion_u (g off cap a b : Nat) (d : Array Int) (w : World) (hH : Holds encU w g off d) (hab : a < b) (hb : b ≤ d.size) (hsz : d.size ≤ 1000) :
    Calls Try.prog 28 #[.slice (some ⟨g, off, none⟩) d.size cap, .int .i64 a, .int .i64 b] w fun e w' => e = .returned (.tuple #[]) ∧ Rw w g off (insertionSort ltInt d a b) w' := by
  obtain ⟨n, hn⟩ : ∃ n, n = d.size := ⟨_, rfl⟩
  have hst := rw_start hH (by omega)
  rw [← hn] at hsz hb ⊢
  have HN := Lib.hid hn
  clear hn
  go_enter Try.func28, Try.ntmps28
  go_wp2_with fail
  go_loopw [6] (fun v6 wr => ∃ (i : Nat) (dk : Array Int), v6 = .int .i64 i ∧ a < i ∧ i ≤ b ∧ Hid (dk.size = n) ∧ Rw w g off dk wr ∧ Hid (insOuter ltInt a b i dk = insertionSort ltInt d a b)) (fun v6 _ => b - (intOf v6).toNat)
  case atStart => exact ⟨a + 1, d, by go_num, by omega, by omega, Lib.hid HN.out.symm, hst, Lib.hid rfl⟩
  case round =>
    obtain ⟨i, dk, rfl, hai, hib, Hs, hR, HO⟩ := hrel
    by_cases hlt : i < b
    · go_wp2_with fail
      go_loopw [7] (fun v7 wr2 => ∃ (j : Nat) (dj : Array Int), v7 = .int .i64 j ∧ a ≤ j ∧ j ≤ i ∧ Hid (dj.size = n) ∧ Rw w g off dj wr2 ∧ Hid (insInner ltInt a j dj = insInner ltInt a i dk)) (fun v7 _ => (intOf v7).toNat)
      case atStart => exact ⟨i, dk, rfl, by omega, Nat.le_refl _, Hs, hR, Lib.hid rfl⟩
      case round =>
        obtain ⟨j, dj, rfl, haj, hji, Hsj, hRj, HI⟩ := hrel
        obtain ⟨G, HG, hc, hf⟩ := rw_fam hRj hH Hsj.out HN.out.symm
        have leave : ((j ≤ a ∨ ltInt (G j) (G (j - 1)) = false)) → ∀ q, ∃ (i' : Nat) (dk' : Array Int), Value.int .i64 ((i : Int) + 1) = .int .i64 (i' : Nat) ∧ a < i' ∧ i' ≤ b ∧ Hid (dk'.size = n) ∧ Rw w g off dk' (wr.drewN q) ∧ Hid (insOuter ltInt a b i' dk' = insertionSort ltInt d a b) := fun hs q =>
          ⟨i + 1, dj, by go_num, by omega, by omega, Hsj, rw_drewN hRj q, Lib.hid (by rw [← HO.out, insOuter_go _ _ _ _ _ hlt, ← HI.out, insInner_stop _ _ _ _ (by rw [← HG.out, ← HG.out]; exact hs)])⟩
        have Hleave := Lib.hid leave
        clear leave
        by_cases hja : a < j
        · have e1 : ¬ (j : Int) ≤ (a : Int) := by omega
          go_wp2_with fail
          go_quiet ((go_at_call 34; exact Calls.quiet_of_same (less_u _ _ _)))
          go_wp2_with fail
          · have hl : ltInt (G j) (G (j - 1)) = true := by assumption
            go_region
            all_goals go_wp2_with fail
            go_roundw
            case rel => exact ⟨j - 1, swp dj j (j - 1), by congr 1; omega, by omega, by omega, Lib.hid (by rw [size_swp]; exact Hsj.out), rw_swap (i := j) (j := j - 1) (rw_drewN hRj _) (by have := Hsj.out; omega) (by have := Hsj.out; omega) (HG.out _) (HG.out _), Lib.hid (by rw [← HI.out, insInner_go ltInt a j dj hja (by rw [← HG.out, ← HG.out]; exact hl)])⟩
            case measure => simp [intOf]; omega
          · have hl : ltInt (G j) (G (j - 1)) = false := by assumption
            go_roundw
            case rel => exact Hleave.out (.inr hl) _
            case measure => simp [intOf]; omega
        · have e1 : (j : Int) ≤ (a : Int) := by omega
          go_wp2_with fail
          go_quiet ((go_at_call 34; exact Calls.quiet_of_same (less_u _ _ _)))
          go_wp2_with fail
          go_roundw
          case rel => exact Hleave.out (.inl (by omega)) _
          case measure => simp [intOf]; omega
    · obtain rfl : i = b := by omega
      go_wp2_with fail
      go_end0
      exact ⟨rfl, by rw [← HO.out, insOuter_stop _ _ _ _ _ (by omega)]; exact hR⟩
end Go.Proofs.Ytoikjokdabpmoaa
