/- The reference's End, walked. -/
import Derived.Test.YtlabnbfcjpggeaaRef
namespace Go.Proofs.Ytlabnbfcjpggeaa
open Go.RowKit Go.Maps

/-- What the reference's three functions hand back. -/
def RNoted (w : World) (G : Nat → Prop) (err : Int) (rs : List Rec) (e : Ending) (w' : World) : Prop :=
  ∃ A' c' M, M.map (·.2) = rs ∧ e = .returned (.tuple #[.slice A' M.length c', .int .i64 err]) ∧ Below w.heap.size w w' ∧ Recs w' (fun k => G k ∨ w.heap.size ≤ k) A' M

theorem six_row_at {W : World} {B g i cl n : Nat} {L : List (RH × Rec)} {p : RH × Rec} (hp : L[i]? = some p) (h : W.ownsRow B 44 14 (.slice (some ⟨g, 0, none⟩) n cl) n (recsV L)) (ev er hd : Int) (ok : Bool) (bs : List I3) (A2 : Option Addr) (c2 : Nat) :
    (six W g (i * 14) ev er hd ok (.slice A2 bs.length c2)).ownsRow B 44 14 (.slice (some ⟨g, 0, none⟩) n cl) n (recsV (L.set i ({ p.1 with Ab := A2, cb := c2 }, ended p.2 ev er hd ok bs))) := by
  obtain ⟨e1, m1⟩ := recs_set (p.1, { p.2 with done := true }) hp 8 (.bool true) (by decide) rfl
  obtain ⟨e2, m2⟩ := recs_set (p.1, { p.2 with done := true, fin := ev }) m1 7 (.int .i64 ev) (by decide) rfl
  obtain ⟨e3, m3⟩ := recs_set (p.1, { p.2 with done := true, fin := ev, err := er }) m2 9 (.int .i64 er) (by decide) rfl
  obtain ⟨e4, m4⟩ := recs_set (p.1, { p.2 with done := true, fin := ev, err := er, ok := ok }) m3 10 (.bool ok) (by decide) rfl
  obtain ⟨e5, m5⟩ := recs_set (p.1, { p.2 with done := true, fin := ev, err := er, ok := ok, hnd := hd }) m4 11 (.int .u64 hd) (by decide) rfl
  obtain ⟨e6, _⟩ := recs_set ({ p.1 with Ab := A2, cb := c2 }, ended p.2 ev er hd ok bs) m5 12 (.slice A2 bs.length c2) (by decide) rfl
  simp only [List.set_set] at e2 e3 e4 e5 e6
  rw [e6, e5, e4, e3, e2, e1]
  exact ((((((h.stored (i * 14 + 8) (.bool true)).1.stored (i * 14 + 7) (.int .i64 ev)).1.stored (i * 14 + 9) (.int .i64 er)).1.stored (i * 14 + 9 + 1) (.bool ok)).1.stored (i * 14 + 9 + 2) (.int .u64 hd)).1.stored (i * 14 + 9 + 3) (.slice A2 bs.length c2)).1

theorem six_below {B : Nat} {w W : World} {g x : Nat} {ev er hd : Int} {ok : Bool} {v : Value} (h : Below B w W) (hg : B ≤ g) : Below B w (six W g x ev er hd ok v) :=
  (((((h.setCell (p := ⟨g, x + 8, none⟩) hg _).setCell (p := ⟨g, x + 7, none⟩) hg _).setCell (p := ⟨g, x + 9, none⟩) hg _).setCell (p := ⟨g, x + 9 + 1, none⟩) hg _).setCell (p := ⟨g, x + 9 + 2, none⟩) hg _).setCell (p := ⟨g, x + 9 + 3, none⟩) hg _

set_option maxRecDepth 100000 in
set_option maxHeartbeats 2000000 in
theorem refEnd_idle (L : List (RH × Rec)) (A : Option Addr) (c : Nat) (t ev er hd : Int) (ok : Bool) (Ax : Option Addr) (nx cx : Nat) (w : World) (G : Nat → Prop) (hl : L.length ≤ 1000) (hA : Recs w G A L) (hno : ∀ i, ¬ Und (L.map (·.2)) t i) :
    Calls Try.prog 13 #[.slice A L.length c, .int .i64 t, .agg #[.int .i64 er, .bool ok, .int .u64 hd, .slice Ax nx cx], .int .i64 ev] w (RNoted w G 6 (L.map (·.2))) := by
  have hbw : Below w.heap.size w (w.alloc (.cells #[.int .i64 er, .bool ok, .int .u64 hd, .slice Ax nx cx] 37)) := (Below.refl _ w).alloc (Nat.le_refl _) _
  have C := refUnder_any L A c t _ hl ((hA.below hbw).row.mono (fun _ _ _ => trivial))
  go_enter Try.func13, Try.ntmps13
  go_wp2_with fail
  refine C.mono ?_
  rintro e w1 ⟨hb1, h | ⟨_, rfl⟩⟩
  · obtain ⟨i, hi, _⟩ := h
    exact absurd hi (hno i)
  · go_wp2_with fail
    go_ret2
    have hb : Below w.heap.size w w1 := hbw.trans (hb1.mono (by simp))
    exact ⟨A, c, L, rfl, rfl, hb, (hA.below hb).mono (fun _ _ h => .inl h)⟩

set_option maxRecDepth 100000 in
set_option maxHeartbeats 4000000 in
theorem refEnd_ok (L : List (RH × Rec)) (A : Option Addr) (c : Nat) (t ev er hd : Int) (ok : Bool) (Ax : Option Addr) (cx : Nat) (bs : List I3) (w : World) (G : Nat → Prop) (hl : L.length ≤ 1000) (hA : Recs w G A L) (hx : SR w G Ax (duesV bs)) (i : Nat) (r : Rec)
    (hi : Und (L.map (·.2)) t i) (huq : ∀ j, Und (L.map (·.2)) t j → j = i) (hr : (L.map (·.2))[i]? = some r) :
    Calls Try.prog 13 #[.slice A L.length c, .int .i64 t, .agg #[.int .i64 er, .bool ok, .int .u64 hd, .slice Ax bs.length cx], .int .i64 ev] w (RNoted w G 0 ((L.map (·.2)).set i (ended r ev er hd ok bs))) := by
  obtain ⟨i0, hi0, hz0, hz1, hz2⟩ := info_parts info44
  have hbw : Below w.heap.size w (w.alloc (.cells #[.int .i64 er, .bool ok, .int .u64 hd, .slice Ax bs.length cx] 37)) := (Below.refl _ w).alloc (Nat.le_refl _) _
  have C := refUnder_any L A c t _ hl ((hA.below hbw).row.mono (fun _ _ _ => trivial))
  obtain ⟨p, hp, hpr⟩ : ∃ p, L[i]? = some p ∧ p.2 = r := by
    rw [List.getElem?_map] at hr
    cases h : L[i]? with
    | none => rw [h] at hr; cases hr
    | some p => rw [h] at hr; injection hr with hr; exact ⟨p, rfl, hr⟩
  subst hpr
  have hil := (List.getElem?_eq_some_iff.1 hp).1
  have hlen := flat_length recV 14 recV_len L
  go_enter Try.func13, Try.ntmps13
  go_wp2_with fail
  refine C.mono ?_
  rintro e w1 ⟨hb1, h | ⟨h, _⟩⟩
  case inr => exact absurd hi (h i)
  obtain ⟨j, hj, rfl⟩ := h
  obtain rfl := huq j hj
  have hb : Below w.heap.size w w1 := hbw.trans (hb1.mono (by simp))
  have hbs := hb.size
  have hcb : w1.heap[w.heap.size]? = some (.cells #[.int .i64 er, .bool ok, .int .u64 hd, .slice Ax bs.length cx] 37 (0, 0)) := (hb1.block w.heap.size (by simp)).trans (heap_alloc_new w _)
  have hwl : w.heap.size < w1.heap.size := by have := hb1.size; simp at this; omega
  have hi0' : ¬ ((j : Int) < 0) := by omega
  have hi1 : (0 : Int) ≤ (j : Int) := by omega
  have hi2 : (j : Int) < (L.length : Int) := by omega
  have hA1 := (hA.below hb).below ((Below.refl _ w1).alloc (Nat.le_refl _) (.cells #[] 44))
  have hown0 := World.ownsRow_made (e := 44) (size := 14) w1 #[] 0 (Nat.le_refl _) (by simp [maxLen]) rfl
  have hrone : ∀ u ∈ recsV L, u.oneCell' = true := recsV_one L
  have Hlen := Lib.hid hlen
  have Hp := Lib.hid hp
  clear hlen hp hr
  go_wp2_with (at_builtin; refine wpList_append_read rfl (.tmp 18) (.tmp 19) 40 rfl Try.underlying40 hi0 hz0 hz1 hz2 rfl (by decide) rfl hown0 rfl hA1.row Hlen.out hrone (by simp only [maxLen]; omega) (by omega) (by simp) ?_; intro v4 w4 hown4 hg4 hat4; obtain ⟨A4, c4, rfl⟩ := own_form hown4; rw [Nat.zero_add, List.nil_append] at hown4; obtain ⟨g4, rfl⟩ := own_pos hown4 (by omega); have hw14 : Below w1.heap.size w1 w4 := (((Below.refl _ _).alloc (Nat.le_refl _) _).grown hg4 (by simp) (fun k hk => by injection hk with hk; subst hk; exact Nat.le_refl _)); have hg4l := (hown4.lt g4 rfl).1; have hcb4 := (hw14.block w.heap.size (by omega)).trans hcb; have hk0 := cell_of_row w4 w.heap.size 0 _ 37 (0, 0) hcb4; have hk1 := cell_of_row w4 w.heap.size 1 _ 37 (0, 0) hcb4; have hk2 := cell_of_row w4 w.heap.size 2 _ 37 (0, 0) hcb4; have hk3 := cell_of_row w4 w.heap.size 3 _ 37 (0, 0) hcb4; simp at hk0 hk1 hk2 hk3; have hne : g4 ≠ w.heap.size := (by omega); have hne' : ¬ w.heap.size = g4 := (by omega); have hcell : ∀ k, k < 14 → w4.cell? ⟨g4, j * 14 + k, none⟩ = (recV p)[k]? := (fun k hk => (hown4.cellAt (j * 14 + k) (by omega)).trans (flat_at recV 14 recV_len L j p Hp.out k hk)); have hv7 := hcell 7 (by decide); have hv8 := hcell 8 (by decide); have hv9 := hcell 9 (by decide); have hv10 := hcell 10 (by decide); have hv11 := hcell 11 (by decide); have hv12 := hcell 12 (by decide); simp [recV] at hv7 hv8 hv9 hv10 hv11 hv12; have hvf := (fun o => hown4.frozenAt o); clear hcell)
  go_ret2
  have hbw4 : Below w.heap.size w (six w4 g4 (j * 14) ev er hd ok (.slice Ax bs.length cx)) := six_below (hb.trans (hw14.mono hbs)) (by omega)
  have hrowF := six_row_at Hp.out hown4 ev er hd ok bs Ax cx
  have hpm : p ∈ L := List.mem_iff_getElem?.2 ⟨j, Hp.out⟩
  refine ⟨some ⟨g4, 0, none⟩, c4, L.set j ({ p.1 with Ab := Ax, cb := cx }, ended p.2 ev er hd ok bs), by rw [List.map_set], by rw [List.length_set]; rfl, hbw4, ?_⟩
  refine ⟨SR.of_own hrowF _ (fun g hg => .inr (by injection hg with hg; subst hg; show w.heap.size ≤ g4; omega)), fun q hq => ?_, fun q hq => ?_⟩
  · rcases set_mem hq with rfl | ⟨k, _, hk⟩
    · exact (hx.below hbw4).mono (fun _ _ h => .inl h)
    · exact ((hA.batch q (List.mem_iff_getElem?.2 ⟨k, hk⟩)).below hbw4).mono (fun _ _ h => .inl h)
  · rcases set_mem hq with rfl | ⟨k, _, hk⟩
    · exact ((hA.acts p hpm).below hbw4).mono (fun _ _ h => .inl h)
    · exact ((hA.acts q (List.mem_iff_getElem?.2 ⟨k, hk⟩)).below hbw4).mono (fun _ _ h => .inl h)
end Go.Proofs.Ytlabnbfcjpggeaa
