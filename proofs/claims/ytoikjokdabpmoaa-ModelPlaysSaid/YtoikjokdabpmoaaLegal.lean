/- (*Model).Legal, walked. -/
import Derived.Test.YtoikjokdabpmoaaData
import Derived.BigRegion
namespace Go.Proofs.Ytoikjokdabpmoaa
open Go.RowKit Go.Maps

def Answer (b : Bool) (w : World) (e : Ending) (w' : World) : Prop := e = .returned (.bool b) ∧ Below w.heap.size w w'

theorem Legal_nil (k h dl st now : Int) (w : World) : Calls Try.prog 11 #[.pointer none, .agg #[.int .i64 k, .int .u64 h, .int .i64 dl, .int .i64 st], .int .i64 now] w (Answer false w) := by
  go_enter Try.func11, Try.ntmps11
  go_wp2
  go_ret
  exact ⟨rfl, (Below.refl _ _).alloc (Nat.le_refl _) _⟩

set_option maxRecDepth 100000 in
set_option maxHeartbeats 16000000 in
theorem Legal_any {w : World} {F : Nat → Prop} {mp bl bw : Nat} {T : List Tm} (hM : ModAt w F mp bl bw T) (k h dl st now : Int) (hh : wfU h) :
    Calls Try.prog 11 #[.pointer (some ⟨mp, 0, none⟩), .agg #[.int .i64 k, .int .u64 h, .int .i64 dl, .int .i64 st], .int .i64 now] w (Answer (legalB T k h dl now) w) := by
  obtain ⟨W1, hW1⟩ : ∃ W1, W1 = w.alloc (.cells #[.int .i64 k, .int .u64 h, .int .i64 dl, .int .i64 st] 28) := ⟨_, rfl⟩
  have hb1 : Below w.heap.size w W1 := by rw [hW1]; exact (Below.refl _ w).alloc (Nat.le_refl _) _
  have hM1 := hM.below hb1
  have hx : W1.heap[w.heap.size]? = some (.cells #[.int .i64 k, .int .u64 h, .int .i64 dl, .int .i64 st] 28 (0, 0)) := by rw [hW1]; exact heap_alloc_new w _
  have hs1 : W1.heap.size = w.heap.size + 1 := by rw [hW1]; simp
  have hbA : Below W1.heap.size W1 (W1.alloc (.cells #[.int .i64 0] 46)).drew := Below.drew ((Below.refl W1.heap.size W1).alloc (Nat.le_refl _) (.cells #[.int .i64 0] 46))
  have hMA := hM1.below hbA
  have hMD := hM1.below (Below.drew (Below.refl W1.heap.size W1))
  have hrun := hMD.look_live h hh
  have hrun' := hMA.look_live h hh
  have y0 := hMD.cell0
  have y1 := hMA.cell0
  have x0 := cell_of_row W1 w.heap.size 0 _ 28 (0, 0) hx
  have x1 := cell_of_row W1 w.heap.size 1 _ 28 (0, 0) hx
  have x2 := cell_of_row W1 w.heap.size 2 _ 28 (0, 0) hx
  simp at x0 x1 x2
  have HW := Lib.hid hW1
  have HX := Lib.hid hx
  have hl1 : w.heap.size < W1.heap.size := by omega
  clear hW1 hx
  obtain ⟨c, hce⟩ : ∃ c, c = xOf T h := ⟨_, rfl⟩
  rw [← hce] at hrun hrun'
  have fin : Below w.heap.size w (W1.alloc (.cells #[.int .i64 c] 46)).drew := (hb1.alloc (by omega) _).drew
  by_cases k1 : k = 1
  · have t1 : (k == 1) = true := by simp [k1]
    have hL : Hid (legalB T k h dl now = !wereB T h) := Lib.hid (by simp [legalB, k1])
    clear k1 hce
    obtain ⟨W3, hW3⟩ : ∃ W3, W3 = (W1.alloc (.cells #[.int .i64 c] 46)).drew := ⟨_, rfl⟩
    have hb13 : Below W1.heap.size W1 W3 := by rw [hW3]; exact ((Below.refl _ W1).alloc (Nat.le_refl _) _).drew
    have hM3 := hM1.below hb13
    have hb3A : Below W3.heap.size W3 (W3.alloc (.cells #[.int .i64 0] 46)).drew := Below.drew ((Below.refl W3.heap.size W3).alloc (Nat.le_refl _) (.cells #[.int .i64 0] 46))
    have hb3D : Below W3.heap.size W3 W3.drew := Below.drew (Below.refl W3.heap.size W3)
    obtain ⟨c3, hlook⟩ := hM3.look_were h hh
    have hr3 := hlook _ hb3D
    have hr3' := hlook _ hb3A
    have z1 := (hM3.below hb3D).cell1
    have z1' := (hM3.below hb3A).cell1
    have hx3 := (hb13.block w.heap.size (by omega)).trans HX.out
    have v1 := cell_of_row W3 w.heap.size 1 _ 28 (0, 0) hx3
    simp at v1
    have HW3 := Lib.hid hW3
    have hl3 : w.heap.size < W3.heap.size := by have := hb13.size; omega
    have fin3 : Below w.heap.size w (W3.alloc (.cells #[.int .i64 c3] 46)).drew := ((hb1.trans (hb13.mono (by omega))).alloc (by omega) _).drew
    clear hW3 hx3 hlook
    generalize wereB T h = wr at hr3 hr3' hL
    generalize liveB T h = lv at hrun hrun'
    go_enter Try.func11, Try.ntmps11
    go_wp2_with fail
    rw [← HW.out]
    go_region
    all_goals go_wp2_with fail
    all_goals rw [← HW3.out]
    all_goals go_region
    all_goals go_wp2_with fail
    all_goals go_ret
    all_goals exact ⟨by rw [hL.out]; rfl, fin3⟩
  · have t1 : (k == 1) = false := by simp [k1]
    by_cases k2 : k = 2
    · have t2 : (k == 2) = true := by simp [k2]
      cases hlv : liveB T h with
      | false =>
        have hL : Hid (legalB T k h dl now = false) := Lib.hid (by simp [legalB, k2, hlv])
        rw [hlv] at hrun hrun'
        clear k1 k2 hlv hce
        go_enter Try.func11, Try.ntmps11
        go_wp2_with fail
        rw [← HW.out]
        go_region
        all_goals go_wp2_with fail
        all_goals go_ret
        all_goals exact ⟨by rw [hL.out]; rfl, fin⟩
      | true =>
        have hce2 : c = dlOf T h := by rw [hce]; unfold xOf; rw [if_pos hlv]
        by_cases hd : c = dl
        · have t4 : (c == dl) = true := by simp [hd]
          have hL : Hid (legalB T k h dl now = decide (c ≤ now)) := Lib.hid (by simp [legalB, k2, hlv, ← hce2, hd])
          rw [hlv] at hrun hrun'
          clear k1 k2 hlv hce hce2 hd
          go_enter Try.func11, Try.ntmps11
          go_wp2_with fail
          rw [← HW.out]
          go_region
          all_goals go_wp2_with fail
          all_goals go_ret
          all_goals exact ⟨by rw [hL.out]; rfl, fin⟩
        · have t4 : (c == dl) = false := by simp [hd]
          have hL : Hid (legalB T k h dl now = false) := Lib.hid (by simp [legalB, k2, hlv, ← hce2, hd])
          rw [hlv] at hrun hrun'
          clear k1 k2 hlv hce hce2 hd
          go_enter Try.func11, Try.ntmps11
          go_wp2_with fail
          rw [← HW.out]
          go_region
          all_goals go_wp2_with fail
          all_goals go_ret
          all_goals exact ⟨by rw [hL.out]; rfl, fin⟩
    · have t2 : (k == 2) = false := by simp [k2]
      by_cases k3 : k = 3
      · have t3 : (k == 3) = true := by simp [k3]
        have hL : Hid (legalB T k h dl now = liveB T h) := Lib.hid (by simp [legalB, k3])
        clear k1 k2 k3 hce
        generalize liveB T h = lv at hrun hrun' hL
        go_enter Try.func11, Try.ntmps11
        go_wp2_with fail
        rw [← HW.out]
        go_region
        all_goals go_wp2_with fail
        all_goals go_ret
        all_goals exact ⟨by rw [hL.out]; rfl, fin⟩
      · have t3 : (k == 3) = false := by simp [k3]
        by_cases k4 : k = 4
        · have t4 : (k == 4) = true := by simp [k4]
          have hL : Hid (legalB T k h dl now = !liveB T h) := Lib.hid (by simp [legalB, k4])
          clear k1 k2 k3 k4 hce
          generalize liveB T h = lv at hrun hrun' hL
          go_enter Try.func11, Try.ntmps11
          go_wp2_with fail
          rw [← HW.out]
          go_region
          all_goals go_wp2_with fail
          all_goals go_ret
          all_goals exact ⟨by rw [hL.out]; rfl, fin⟩
        · have t4 : (k == 4) = false := by simp [k4]
          have hL : Hid (legalB T k h dl now = (k == 5)) := Lib.hid (by simp only [legalB, if_neg k1, if_neg k2, if_neg k3, if_neg k4]; rfl)
          clear k1 k2 k3 k4 hce
          generalize liveB T h = lv at hrun hrun'
          go_enter Try.func11, Try.ntmps11
          go_wp2_with fail
          rw [← HW.out]
          go_region
          all_goals go_wp2_with fail
          all_goals go_ret
          all_goals exact ⟨by rw [hL.out]; rfl, fin⟩
end Go.Proofs.Ytoikjokdabpmoaa
