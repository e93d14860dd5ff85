/- The reference's Act, walked. Printed by gen_refact.py. -/
import Derived.Test.YtlabnbfcjpggeaaRefFin
namespace Go.Proofs.Ytlabnbfcjpggeaa
open Go.RowKit Go.Maps

set_option maxRecDepth 100000 in
set_option maxHeartbeats 2000000 in
theorem refAct_idle (L : List (RH × Rec)) (A : Option Addr) (c : Nat) (t ev : Int) (a : I4) (w : World) (G : Nat → Prop) (hl : L.length ≤ 1000) (hA : Recs w G A L) (hno : ∀ i, ¬ Und (L.map (·.2)) t i) :
    Calls Try.prog 12 #[.slice A L.length c, .int .i64 t, .agg #[.int .i64 a.1, .int .u64 a.2.1, .int .i64 a.2.2.1, .int .i64 a.2.2.2], .int .i64 ev] w (RNoted w G 6 (L.map (·.2))) := by
  have hbw : Below w.heap.size w (w.alloc (.cells #[.int .i64 a.1, .int .u64 a.2.1, .int .i64 a.2.2.1, .int .i64 a.2.2.2] 34)) := (Below.refl _ w).alloc (Nat.le_refl _) _
  have C := refUnder_any L A c t _ hl ((hA.below hbw).row.mono (fun _ _ _ => trivial))
  go_enter Try.func12, Try.ntmps12
  go_wp2_with fail
  refine C.mono ?_
  rintro e w1 ⟨hb1, h | ⟨_, rfl⟩⟩
  · obtain ⟨i, hi, _⟩ := h
    exact absurd hi (hno i)
  · go_wp2_with fail
    go_ret2
    have hb : Below w.heap.size w w1 := hbw.trans (hb1.mono (by simp))
    exact ⟨A, c, L, rfl, rfl, hb, (hA.below hb).mono (fun _ _ h => .inl h)⟩

set_option maxRecDepth 100000 in
set_option maxHeartbeats 4000000 in
theorem refAct_ok (L : List (RH × Rec)) (A : Option Addr) (c : Nat) (t ev : Int) (a : I4) (w : World) (G : Nat → Prop) (hl : L.length ≤ 1000) (hA : Recs w G A L) (i : Nat) (r : Rec)
    (hi : Und (L.map (·.2)) t i) (huq : ∀ j, Und (L.map (·.2)) t j → j = i) (hr : (L.map (·.2))[i]? = some r) (hn : r.acts.length ≤ 1000) :
    Calls Try.prog 12 #[.slice A L.length c, .int .i64 t, .agg #[.int .i64 a.1, .int .u64 a.2.1, .int .i64 a.2.2.1, .int .i64 a.2.2.2], .int .i64 ev] w (RNoted w G 0 ((L.map (·.2)).set i { r with acts := r.acts ++ [(a.1, a.2.1, a.2.2.1, ev)] })) := by
  obtain ⟨a1, a2, a3, a4⟩ := a
  obtain ⟨i4, hj0, hy0, hy1, hy2⟩ := info_parts info44
  obtain ⟨i0, hi0, hz0, hz1, hz2⟩ := info_parts info34
  have hbw : Below w.heap.size w (w.alloc (.cells #[.int .i64 a1, .int .u64 a2, .int .i64 a3, .int .i64 a4] 34)) := (Below.refl _ w).alloc (Nat.le_refl _) _
  have C := refUnder_any L A c t _ hl ((hA.below hbw).row.mono (fun _ _ _ => trivial))
  obtain ⟨p, hp, hpr⟩ : ∃ p, L[i]? = some p ∧ p.2 = r := by
    rw [List.getElem?_map] at hr
    cases h : L[i]? with
    | none => rw [h] at hr; cases hr
    | some p => rw [h] at hr; injection hr with hr; exact ⟨p, rfl, hr⟩
  subst hpr
  have hil := (List.getElem?_eq_some_iff.1 hp).1
  have hlen := flat_length recV 14 recV_len L
  go_enter Try.func12, Try.ntmps12
  go_wp2_with fail
  refine C.mono ?_
  rintro e w1 ⟨hb1, h | ⟨h, _⟩⟩
  case inr => exact absurd hi (h i)
  obtain ⟨j, hj, rfl⟩ := h
  obtain rfl := huq j hj
  have hb : Below w.heap.size w w1 := hbw.trans (hb1.mono (by simp))
  have hbs := hb.size
  have hcb1 : w1.heap[w.heap.size]? = some (.cells #[.int .i64 a1, .int .u64 a2, .int .i64 a3, .int .i64 a4] 34 (0, 0)) := (hb1.block w.heap.size (by simp)).trans (heap_alloc_new w _)
  have hwl1 : w.heap.size < w1.heap.size := by have := hb1.size; simp at this; omega
  have hi0' : ¬ ((j : Int) < 0) := by omega
  have hi1 : (0 : Int) ≤ (j : Int) := by omega
  have hi2 : (j : Int) < (L.length : Int) := by omega
  have hA1 := (hA.below hb).below ((Below.refl _ w1).alloc (Nat.le_refl _) (.cells #[] 44))
  have hown0 := World.ownsRow_made (e := 44) (size := 14) w1 #[] 0 (Nat.le_refl _) (by simp [maxLen]) rfl
  have hrone : ∀ u ∈ recsV L, u.oneCell' = true := recsV_one L
  have Hlen := Lib.hid hlen
  have Hp := Lib.hid hp
  clear hlen hp hr
  go_wp2_with (at_builtin; refine wpList_append_read rfl (.tmp 18) (.tmp 19) 40 rfl Try.underlying40 hj0 hy0 hy1 hy2 rfl (by decide) rfl hown0 rfl hA1.row Hlen.out hrone (by simp only [maxLen]; omega) (by omega) (by simp) ?_; intro v3 w3 hown3 hg3 hat3; obtain ⟨A3, c3, rfl⟩ := own_form hown3; rw [Nat.zero_add, List.nil_append] at hown3; obtain ⟨g3, rfl⟩ := own_pos hown3 (by omega); have hw13 : Below w1.heap.size w1 w3 := (((Below.refl _ _).alloc (Nat.le_refl _) _).grown hg3 (by simp) (fun k hk => by injection hk with hk; subst hk; exact Nat.le_refl _)); have hg3l := (hown3.lt g3 rfl).1; have hcb3 := (hw13.block w.heap.size (by omega)).trans hcb1; have hk3 := cell_of_row w3 w.heap.size 3 _ 34 (0, 0) hcb3; simp at hk3; have hkf : w3.frozen? ⟨w.heap.size, 3, none⟩ = false := by simp [World.frozen?, hcb3])
  obtain ⟨W, hW⟩ : ∃ W, W = w3.setCell ⟨w.heap.size, 3, none⟩ (.int .i64 ev) := ⟨_, rfl⟩
  have hbW : Below w.heap.size w W := by rw [hW]; exact (hb.trans (hw13.mono hbs)).setCell (p := ⟨w.heap.size, 3, none⟩) (Nat.le_refl _) _
  have hset : Upd (fun k => k = w.heap.size) w3 W := by rw [hW]; exact (Upd.refl (fun k => k = w.heap.size) w3).setCell (p := ⟨w.heap.size, 3, none⟩) (fun _ => rfl) _
  have hownW := own_upd hset hown3 (fun x hx e => by injection hx with hx; subst hx; have h2 : w1.heap.size ≤ g3 := hg3l; have e' : g3 = w.heap.size := e; omega)
  have hcb : W.heap[w.heap.size]? = some (.cells #[.int .i64 a1, .int .u64 a2, .int .i64 a3, .int .i64 ev] 34 (0, 0)) := by
    rw [hW]
    have h := heap_setCell_same w3 w.heap.size 3 _ 34 (.int .i64 ev) hcb3
    show (w3.setCell ⟨w.heap.size, 3, none⟩ (.int .i64 ev)).heap[w.heap.size]? = _
    simpa using h
  have hWs : w3.heap.size ≤ W.heap.size := hset.size
  have h3s := hw13.size
  have hwl : w.heap.size < W.heap.size := by omega
  have f1 := cell_of_row W w.heap.size 0 _ 34 (0, 0) hcb
  have f2 := cell_of_row W w.heap.size 1 _ 34 (0, 0) hcb
  have f3 := cell_of_row W w.heap.size 2 _ 34 (0, 0) hcb
  have f4 := cell_of_row W w.heap.size 3 _ 34 (0, 0) hcb
  simp at f1 f2 f3 f4
  have hpm : p ∈ L := List.mem_iff_getElem?.2 ⟨j, Hp.out⟩
  have hAa := (hA.acts p hpm).below hbW
  obtain ⟨bA, oA, rfl, hbA, _, hcA⟩ := sr_at recV 14 recV_len (by decide) hA.row hbW Hp.out
  have hq13 := hcA 13 _ rfl
  simp only [aSl] at hq13
  have hneA : ¬ g3 = bA := by omega
  have hbAW : bA < W.heap.size := by omega
  have hbA1 : ¬ bA = W.heap.size := by omega
  have hbA2 : ¬ bA = W.heap.size + 1 := by omega
  have hwl2 : ¬ w.heap.size = W.heap.size := by omega
  have hwl3 : ¬ w.heap.size = W.heap.size + 1 := by omega
  have HW := Lib.hid hW
  clear hW hcA hA1
  rw [← HW.out]
  go_region_law (first
    | (refine step_append_read rfl (.tmp 25) (.tmp 30) 42 rfl Try.underlying42 hi0 hz0 hz1 hz2 rfl (by decide) (by rfl) (by rfl) (World.ownsRow_made (e := 34) (size := 4) W.drew #[] 0 (Nat.le_refl _) (by simp [maxLen]) rfl) (by exact (hAa.below (Below.alloc ((Below.refl W.heap.size W).drew) (by simp <;> omega) (.cells #[] 34)))) (actsV_len _) (actsV_one _) (by simp only [maxLen]; omega) (by omega) (by simp <;> omega) ?_; intro v4 w4 hown4 hg4 hat4; rw [Nat.zero_add, List.nil_append] at hown4; have hw14 : Below W.heap.size W w4 := Below.grown (Below.alloc ((Below.refl W.heap.size W).drew) (by simp <;> omega) (.cells #[] 34)) hg4 (by simp <;> omega) (fun q hq => by injection hq with hq; subst hq; simp <;> omega); have hz14 := hw14.size; have hcb4 := (hw14.block w.heap.size hwl).trans hcb; have b1 := cell_of_row w4 w.heap.size 0 _ 34 (0, 0) hcb4; have b2 := cell_of_row w4 w.heap.size 1 _ 34 (0, 0) hcb4; have b3 := cell_of_row w4 w.heap.size 2 _ 34 (0, 0) hcb4; have b4 := cell_of_row w4 w.heap.size 3 _ 34 (0, 0) hcb4; simp at b1 b2 b3 b4)
    | (refine step_append_read rfl (.tmp 25) (.tmp 30) 42 rfl Try.underlying42 hi0 hz0 hz1 hz2 rfl (by decide) (by rfl) (by rfl) (World.ownsRow.alloc (World.ownsRow_made (e := 34) (size := 4) W.drew #[] 0 (Nat.le_refl _) (by simp [maxLen]) rfl) _) (by exact (hAa.below (Below.alloc (Below.alloc ((Below.refl W.heap.size W).drew) (by simp <;> omega) (.cells #[] 34)) (by simp <;> omega) (.cells #[.int .i64 a1, .int .u64 a2, .int .i64 a3, .int .i64 ev] 34)))) (actsV_len _) (actsV_one _) (by simp only [maxLen]; omega) (by omega) (by simp <;> omega) ?_; intro v4 w4 hown4 hg4 hat4; rw [Nat.zero_add, List.nil_append] at hown4; have hw14 : Below W.heap.size W w4 := Below.grown (Below.alloc (Below.alloc ((Below.refl W.heap.size W).drew) (by simp <;> omega) (.cells #[] 34)) (by simp <;> omega) (.cells #[.int .i64 a1, .int .u64 a2, .int .i64 a3, .int .i64 ev] 34)) hg4 (by simp <;> omega) (fun q hq => by injection hq with hq; subst hq; simp <;> omega); have hz14 := hw14.size; have hcb4 := (hw14.block w.heap.size hwl).trans hcb; have b1 := cell_of_row w4 w.heap.size 0 _ 34 (0, 0) hcb4; have b2 := cell_of_row w4 w.heap.size 1 _ 34 (0, 0) hcb4; have b3 := cell_of_row w4 w.heap.size 2 _ 34 (0, 0) hcb4; have b4 := cell_of_row w4 w.heap.size 3 _ 34 (0, 0) hcb4; simp at b1 b2 b3 b4; have hr1 : SR w4 (fun k => k = W.heap.size + 1) (some ⟨W.heap.size + 1, 0, none⟩) #[.int .i64 a1, .int .u64 a2, .int .i64 a3, .int .i64 ev].toList := (SR.of_block (heap_two W _ _)).upd ((Upd.refl (fun k => k = W.heap.size) _).grown hg4 (fun k hk _ => by injection hk with hk; exact hk.symm)) (fun k h _ e => by omega))
    | (refine step_append_read rfl (.tmp 25) (.tmp 30) 42 rfl Try.underlying42 hi0 hz0 hz1 hz2 rfl (by decide) (by rfl) (by rfl) (own_made' 34 4 _ (W.heap.size + 1) (by simp)) (by exact (hAa.below (Below.alloc (Below.alloc ((Below.refl W.heap.size W).drew) (by simp <;> omega) (.cells #[.int .i64 a1, .int .u64 a2, .int .i64 a3, .int .i64 ev] 34)) (by simp <;> omega) (.cells #[] 34)))) (actsV_len _) (actsV_one _) (by simp only [maxLen]; omega) (by omega) (by simp <;> omega) ?_; intro v4 w4 hown4 hg4 hat4; rw [Nat.zero_add, List.nil_append] at hown4; have hw14 : Below W.heap.size W w4 := Below.grown (Below.alloc (Below.alloc ((Below.refl W.heap.size W).drew) (by simp <;> omega) (.cells #[.int .i64 a1, .int .u64 a2, .int .i64 a3, .int .i64 ev] 34)) (by simp <;> omega) (.cells #[] 34)) hg4 (by simp <;> omega) (fun q hq => by injection hq with hq; subst hq; simp <;> omega); have hz14 := hw14.size; have hcb4 := (hw14.block w.heap.size hwl).trans hcb; have b1 := cell_of_row w4 w.heap.size 0 _ 34 (0, 0) hcb4; have b2 := cell_of_row w4 w.heap.size 1 _ 34 (0, 0) hcb4; have b3 := cell_of_row w4 w.heap.size 2 _ 34 (0, 0) hcb4; have b4 := cell_of_row w4 w.heap.size 3 _ 34 (0, 0) hcb4; simp at b1 b2 b3 b4; have hr1 : SR w4 (fun k => k = W.heap.size) (some ⟨W.heap.size, 0, none⟩) #[.int .i64 a1, .int .u64 a2, .int .i64 a3, .int .i64 ev].toList := (SR.of_block (heap_one W _ _)).upd ((Upd.refl (fun k => k = W.heap.size + 1) _).grown hg4 (fun k hk _ => by injection hk with hk; exact hk.symm)) (fun k h _ e => by omega))
    | (refine step_append_read (m := 1) rfl (.tmp 31) (.tmp 33) 42 rfl Try.underlying42 hi0 hz0 hz1 hz2 rfl (by decide) (by rfl) (by rfl) (World.ownsRow.alloc hown4 _) (SR.of_block (heap_alloc_new w4 _)) (by rfl) (by simp [Value.oneCell']) (by simp only [maxLen]; omega) (by omega) (by first | omega | exact hz14 | (have h4 := hg4.size; simp at h4; omega) | (simp <;> omega)) ?_; intro v5 w5 hown5 hg5 hat5; have hw15 : Below W.heap.size W w5 := Below.grown (by first | exact hw14 | exact Below.alloc hw14 (by omega) _) hg5 (by first | omega | exact hz14 | (have h4 := hg4.size; simp at h4; omega) | (simp <;> omega)) (fun q hq => by have := (hown4.lt q hq).1; (try simp at this); omega); obtain ⟨A5, c5, rfl⟩ := own_form hown5; have hG : ∀ g, (Value.slice A5 (p.2.acts.length + 1) c5).ownBlock = some g → W.heap.size ≤ g := (fun g hg => by have := (hown5.lt g hg).1; (try simp at this); omega); have hrow5 := own_below hw15 hownW; have hv13 := (hrow5.cellAt (j * 14 + 13) (by have := Hlen.out; omega)).trans (flat_at recV 14 recV_len L j p Hp.out 13 (by decide)); simp [recV] at hv13; have hvf5 := (fun o => hrow5.frozenAt o))
    | (refine step_append_read (m := 1) rfl (.tmp 31) (.tmp 33) 42 rfl Try.underlying42 hi0 hz0 hz1 hz2 rfl (by decide) (by rfl) (by rfl) (hown4) (hr1) (by rfl) (by simp [Value.oneCell']) (by simp only [maxLen]; omega) (by omega) (by first | omega | exact hz14 | (have h4 := hg4.size; simp at h4; omega) | (simp <;> omega)) ?_; intro v5 w5 hown5 hg5 hat5; have hw15 : Below W.heap.size W w5 := Below.grown (by first | exact hw14 | exact Below.alloc hw14 (by omega) _) hg5 (by first | omega | exact hz14 | (have h4 := hg4.size; simp at h4; omega) | (simp <;> omega)) (fun q hq => by have := (hown4.lt q hq).1; (try simp at this); omega); obtain ⟨A5, c5, rfl⟩ := own_form hown5; have hG : ∀ g, (Value.slice A5 (p.2.acts.length + 1) c5).ownBlock = some g → W.heap.size ≤ g := (fun g hg => by have := (hown5.lt g hg).1; (try simp at this); omega); have hrow5 := own_below hw15 hownW; have hv13 := (hrow5.cellAt (j * 14 + 13) (by have := Hlen.out; omega)).trans (flat_at recV 14 recV_len L j p Hp.out 13 (by decide)); simp [recV] at hv13; have hvf5 := (fun o => hrow5.frozenAt o)))
  all_goals go_wp2_with fail
  all_goals go_ret2
  all_goals exact refact_close hA hbW hw15 hownW Hp.out (by omega) hown5 hG
end Go.Proofs.Ytlabnbfcjpggeaa
