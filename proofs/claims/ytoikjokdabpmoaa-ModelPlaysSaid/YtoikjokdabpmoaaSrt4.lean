/- The choice of a pivot at uint64, walked: it lies within the range; nothing is written but a counter of its own. -/
import Derived.Test.YtoikjokdabpmoaaSrt3
namespace Go.Proofs.Ytoikjokdabpmoaa
open Go.RowKit Go.Sort

/-- A counter of one cell. -/
def CntAt (w : World) (c s : Nat) : Prop := w.heap[c]? = some (.cells #[.int .i64 (s : Nat)] 3 (0, 0))
theorem CntAt.cell {w : World} {c s : Nat} (h : CntAt w c s) : w.cell? ⟨c, 0, none⟩ = some (.int .i64 (s : Nat)) := cell_of_row w c 0 _ 3 (0, 0) h
theorem CntAt.frozen {w : World} {c s : Nat} (h : CntAt w c s) : w.frozen? ⟨c, 0, none⟩ = false := by
  unfold CntAt at h
  simp [World.frozen?, h]
theorem CntAt.drewN {w : World} {c s : Nat} (h : CntAt w c s) (q : Nat) : CntAt (w.drewN q) c s := h
theorem CntAt.set {w : World} {c s : Nat} (h : CntAt w c s) (t : Nat) : CntAt (w.setCell ⟨c, 0, none⟩ (.int .i64 (t : Nat))) c t := by
  have := set_same w c 0 (.int .i64 (t : Nat)) h
  simpa [CntAt] using this
theorem holds_upd {w w' : World} {F : Nat → Prop} {g off : Nat} {d : Array Int} (h : Holds encU w g off d) (hg : ¬ F g) (hl : g < w.heap.size) (hu : Upd F w w') : Holds encU w' g off d := fun j hj => by
  have hb := hu.block g hl hg
  refine ⟨(World.cell?_of_block (a := ⟨g, off + j, none⟩) hb).trans (h j hj).1, ?_⟩
  have := (h j hj).2
  simp only [World.frozen?, hb] at this ⊢
  exact this

/-- Two indexes come back, in whatever order; the counter has gone on by one at most. -/
def TwoOf (a b c s : Nat) (w : World) (e : Ending) (w' : World) : Prop :=
  ∃ x y t : Nat, e = .returned (.tuple #[.int .i64 (x : Nat), .int .i64 (y : Nat)]) ∧ ((x = a ∧ y = b) ∨ (x = b ∧ y = a)) ∧ t ≤ s + 1 ∧ CntAt w' c t ∧ Upd (fun k => k = c) w w'
def OneOf (P : Nat → Prop) (m c : Nat) (w : World) (e : Ending) (w' : World) : Prop :=
  ∃ x t : Nat, e = .returned (.int .i64 (x : Nat)) ∧ P x ∧ t ≤ m ∧ CntAt w' c t ∧ Upd (fun k => k = c) w w'

set_option maxHeartbeats 4000000 in
set_option maxRecDepth 100000 in
theorem order2_u (g off cap n c s a b : Nat) (d : Array Int) (w : World) (hH : Holds encU w g off d) (hd : d.size = n) (hc : CntAt w c s) (hs : s ≤ 1000) (ha : a < n) (hb : b < n) (hn : n ≤ 1000) :
    Calls Try.prog 45 #[.slice (some ⟨g, off, none⟩) n cap, .int .i64 a, .int .i64 b, .pointer (some ⟨c, 0, none⟩)] w (TwoOf a b c s w) := by
  obtain ⟨G, HG, hc1, hf1⟩ := rw_fam (rw_start hH (by omega)) hH hd hd
  have HD := Lib.hid hd
  have k1 := hc.cell
  have k2 := hc.frozen
  clear hd
  go_enter Try.func45, Try.ntmps45
  go_wp2_with fail
  go_quiet ((go_at_call 34; first | exact Calls.quiet_of_same (less_u _ _ _) | exact quiet_again (less_u _ _ _)))
  go_wp2_with fail
  · go_ret2
    exact ⟨b, a, s + 1, rfl, .inr ⟨rfl, rfl⟩, Nat.le_refl _, (hc.drewN _).set (s + 1), ((Upd.refl (fun k => k = c) w).drewN _).setCell (p := ⟨c, 0, none⟩) (fun _ => rfl) _⟩
  · go_ret2
    exact ⟨a, b, s, rfl, .inl ⟨rfl, rfl⟩, Nat.le_succ _, hc.drewN _, (Upd.refl _ _).drewN _⟩

set_option maxHeartbeats 4000000 in
set_option maxRecDepth 100000 in
theorem median_u (g off cap n c s a b z : Nat) (d : Array Int) (w : World) (hH : Holds encU w g off d) (hd : d.size = n) (hgc : g ≠ c) (hgl : g < w.heap.size) (hc : CntAt w c s) (hs : s ≤ 900) (ha : a < n) (hb : b < n) (hz : z < n) (hn : n ≤ 1000) :
    Calls Try.prog 43 #[.slice (some ⟨g, off, none⟩) n cap, .int .i64 a, .int .i64 b, .int .i64 z, .pointer (some ⟨c, 0, none⟩)] w (OneOf (fun x => x = a ∨ x = b ∨ x = z) (s + 3) c w) := by
  have C := fun (W : World) (t x y : Nat) (hu : Upd (fun k => k = c) w W) (h : CntAt W c t) (ht : t ≤ 1000) (hx : x < n) (hy : y < n) => order2_u g off cap n c t x y d W (holds_upd hH (fun e => hgc e) hgl hu) hd h ht hx hy hn
  clear hd
  go_enter Try.func43, Try.ntmps43
  go_wp2_with fail
  refine (C _ s a b (Upd.refl _ _) hc (by omega) ha hb).mono ?_
  rintro e w1 ⟨x1, y1, t1, rfl, hxy1, ht1, hc1, hu1⟩
  have hx1 : x1 < n := by omega
  have hy1 : y1 < n := by omega
  go_wp2_with fail
  refine (C _ t1 y1 z hu1 hc1 (by omega) hy1 hz).mono ?_
  rintro e w2 ⟨x2, y2, t2, rfl, hxy2, ht2, hc2, hu2⟩
  have hx2 : x2 < n := by omega
  have hu12 := hu1.trans hu2 (fun _ _ h => h)
  go_wp2_with fail
  refine (C _ t2 x1 x2 hu12 hc2 (by omega) hx1 hx2).mono ?_
  rintro e w3 ⟨x3, y3, t3, rfl, hxy3, ht3, hc3, hu3⟩
  go_wp2_with fail
  go_ret
  exact ⟨y3, t3, rfl, by omega, by omega, hc3, hu12.trans hu3 (fun _ _ h => h)⟩

set_option maxHeartbeats 4000000 in
set_option maxRecDepth 100000 in
theorem medianAdj_u (g off cap n c s a : Nat) (d : Array Int) (w : World) (hH : Holds encU w g off d) (hd : d.size = n) (hgc : g ≠ c) (hgl : g < w.heap.size) (hc : CntAt w c s) (hs : s ≤ 900) (ha0 : 1 ≤ a) (ha : a + 1 < n) (hn : n ≤ 1000) :
    Calls Try.prog 42 #[.slice (some ⟨g, off, none⟩) n cap, .int .i64 a, .pointer (some ⟨c, 0, none⟩)] w (OneOf (fun x => a ≤ x + 1 ∧ x ≤ a + 1) (s + 3) c w) := by
  have C := median_u g off cap n c s (a - 1) a (a + 1) d w hH hd hgc hgl hc hs (by omega) (by omega) ha hn
  rw [show ((a - 1 : Nat) : Int) = (a : Int) - 1 from by omega, show ((a + 1 : Nat) : Int) = (a : Int) + 1 from by omega] at C
  clear hd
  go_enter Try.func42, Try.ntmps42
  go_wp2_with fail
  refine C.mono ?_
  rintro e w1 ⟨x, t, rfl, hx, ht, hc1, hu1⟩
  go_wp2_with fail
  go_ret
  exact ⟨x, t, rfl, by omega, ht, hc1, hu1⟩

/-- A pivot within the range, and a hint. -/
def PivOut (a b : Nat) (w : World) (e : Ending) (w' : World) : Prop :=
  ∃ (p : Nat) (h : Int), e = .returned (.tuple #[.int .i64 (p : Nat), .int .i64 h]) ∧ a ≤ p ∧ p < b ∧ (h = 0 ∨ h = 1 ∨ h = 2) ∧ Below w.heap.size w w'

set_option maxHeartbeats 8000000 in
set_option maxRecDepth 100000 in
theorem choosePivot_u (g off cap n a b : Nat) (d : Array Int) (w : World) (hH : Holds encU w g off d) (hd : d.size = n) (hab : a + 12 < b) (hb : b ≤ n) (hn : n ≤ 1000) :
    Calls Try.prog 31 #[.slice (some ⟨g, off, none⟩) n cap, .int .i64 a, .int .i64 b] w (PivOut a b w) := by
  have hgl : g < w.heap.size := rw_lt (rw_start hH (by omega))
  have hw0 : Below w.heap.size w (w.alloc (.cells #[.int .i64 0] 3)) := (Below.refl _ _).alloc (Nat.le_refl _) _
  have hc0 : CntAt (w.alloc (.cells #[.int .i64 0] 3)) w.heap.size 0 := heap_alloc_new w _
  obtain ⟨W0, hW0⟩ : ∃ W0, W0 = w.alloc (.cells #[.int .i64 0] 3) := ⟨_, rfl⟩
  rw [← hW0] at hw0 hc0
  have hgl0 : g < W0.heap.size := by have := hw0.size; omega
  have hH0 : Holds encU W0 g off d := holds_upd hH (F := fun _ => False) id hgl (Upd.of_below _ hw0)
  have C1 := fun (W : World) (t x : Nat) (hu : Upd (fun k => k = w.heap.size) W0 W) (h : CntAt W w.heap.size t) (ht : t ≤ 900) (hx0 : 1 ≤ x) (hx : x + 1 < n) =>
    medianAdj_u g off cap n w.heap.size t x d W (holds_upd hH0 (fun e => by omega) hgl0 hu) hd (by omega) (Nat.lt_of_lt_of_le hgl0 hu.size) h ht hx0 hx hn
  have C2 := fun (W : World) (t x y z : Nat) (hu : Upd (fun k => k = w.heap.size) W0 W) (h : CntAt W w.heap.size t) (ht : t ≤ 900) (hx : x < n) (hy : y < n) (hz : z < n) =>
    median_u g off cap n w.heap.size t x y z d W (holds_upd hH0 (fun e => by omega) hgl0 hu) hd (by omega) (Nat.lt_of_lt_of_le hgl0 hu.size) h ht hx hy hz hn
  have fin : ∀ {W : World}, Upd (fun k => k = w.heap.size) W0 W → Below w.heap.size w W := fun hu => hw0.trans (hu.to_below hw0.size (fun k e => by omega))
  obtain ⟨I, hI⟩ : ∃ I, I = a + (b - a) / 4 := ⟨_, rfl⟩
  obtain ⟨J, hJ⟩ : ∃ J, J = a + (b - a) / 4 * 2 := ⟨_, rfl⟩
  obtain ⟨K, hK⟩ : ∃ K, K = a + (b - a) / 4 * 3 := ⟨_, rfl⟩
  have eI : (a : Int) + ((b : Int) - (a : Int)) / 4 = (I : Int) := by omega
  have eJ : (a : Int) + ((b : Int) - (a : Int)) / 4 * 2 = (J : Int) := by omega
  have eK : (a : Int) + ((b : Int) - (a : Int)) / 4 * 3 = (K : Int) := by omega
  have bI : a < I ∧ I + 1 < J := by omega
  have bJ : J + 1 < K := by omega
  have bK : K + 1 < b := by omega
  have EI := Lib.hid eI
  have EJ := Lib.hid eJ
  have EK := Lib.hid eK
  have HW0 := Lib.hid hW0
  clear eI eJ eK hI hJ hK hW0 hd
  by_cases h50 : a + 50 ≤ b
  · have h2 : (50 : Int) ≤ (b : Int) - (a : Int) := by omega
    go_enter Try.func31, Try.ntmps31
    go_wp2_with fail
    simp only [EI.out, EJ.out, EK.out]
    rw [← HW0.out]
    refine (C1 W0 0 I (Upd.refl _ _) hc0 (by omega) (by omega) (by omega)).mono ?_
    rintro e w1 ⟨x1, t1, rfl, hx1, ht1, hc1, hu1⟩
    go_wp2_with fail
    refine (C1 _ t1 J hu1 hc1 (by omega) (by omega) (by omega)).mono ?_
    rintro e w2 ⟨x2, t2, rfl, hx2, ht2, hc2, hu2⟩
    have hu12 := hu1.trans hu2 (fun _ _ h => h)
    go_wp2_with fail
    refine (C1 _ t2 K hu12 hc2 (by omega) (by omega) (by omega)).mono ?_
    rintro e w3 ⟨x3, t3, rfl, hx3, ht3, hc3, hu3⟩
    have hu13 := hu12.trans hu3 (fun _ _ h => h)
    go_wp2_with fail
    refine (C2 _ t3 x1 x2 x3 hu13 hc3 (by omega) (by omega) (by omega) (by omega)).mono ?_
    rintro e w4 ⟨x4, t4, rfl, hx4, ht4, hc4, hu4⟩
    have hu14 := hu13.trans hu4 (fun _ _ h => h)
    have k1 := hc4.cell
    go_wp2_with fail
    all_goals go_ret2
    all_goals exact ⟨x4, _, rfl, by omega, by omega, by simp, fin hu14⟩
  · have h2 : (b : Int) - (a : Int) < 50 := by omega
    have h3 : (8 : Int) ≤ (b : Int) - (a : Int) := by omega
    go_enter Try.func31, Try.ntmps31
    go_wp2_with fail
    simp only [EI.out, EJ.out, EK.out]
    rw [← HW0.out]
    refine (C2 W0 0 I J K (Upd.refl _ _) hc0 (by omega) (by omega) (by omega) (by omega)).mono ?_
    rintro e w4 ⟨x4, t4, rfl, hx4, ht4, hc4, hu4⟩
    have k1 := hc4.cell
    go_wp2_with fail
    all_goals go_ret2
    all_goals exact ⟨x4, _, rfl, by omega, by omega, by simp, fin hu4⟩
end Go.Proofs.Ytoikjokdabpmoaa
