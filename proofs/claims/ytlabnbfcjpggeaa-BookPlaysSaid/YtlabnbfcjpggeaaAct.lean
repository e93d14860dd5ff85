/- (*Book).Act, walked. -/
import Derived.Test.YtlabnbfcjpggeaaBegin
import Derived.Test.YtlabnbfcjpggeaaLaws2
namespace Go.Proofs.Ytlabnbfcjpggeaa
open Go.RowKit Go.Maps

theorem Act_nil (t ev : Int) (a : I4) (w : World) : Calls Try.prog 8 #[.pointer none, .int .i64 t, .agg #[.int .i64 a.1, .int .u64 a.2.1, .int .i64 a.2.2.1, .int .i64 a.2.2.2], .int .i64 ev] w fun e w' => e = .returned (.int .i64 6) ∧ Below w.heap.size w w' := by
  obtain ⟨a1, a2, a3, a4⟩ := a
  go_enter Try.func8, Try.ntmps8
  go_wp2_with fail
  refine (of_nil t _).mono ?_
  rintro e w1 ⟨rfl, rfl⟩
  go_wp2_with fail
  go_ret
  exact ⟨rfl, (Below.refl _ _).alloc (Nat.le_refl _) _⟩

set_option maxHeartbeats 1000000 in
theorem Act_idle {w : World} {F : Nat → Prop} {bp bm : Nat} {Al : Option Addr} {cl : Nat} {L : List (RH × Rec)} (hb : BookAt w F bp bm Al cl L) (t ev : Int) (a : I4) (ht : wf64 t) (hno : ∀ i, ¬ Und (L.map (·.2)) t i) :
    Calls Try.prog 8 #[.pointer (some ⟨bp, 0, none⟩), .int .i64 t, .agg #[.int .i64 a.1, .int .u64 a.2.1, .int .i64 a.2.2.1, .int .i64 a.2.2.2], .int .i64 ev] w (Noted w F bp bm 6 (L.map (·.2))) := by
  obtain ⟨a1, a2, a3, a4⟩ := a
  have hb1 := hb.below ((Below.refl _ w).alloc (Nat.le_refl _) (.cells #[.int .i64 a1, .int .u64 a2, .int .i64 a3, .int .i64 a4] 34))
  have C := of_none hb1 t ht hno
  go_enter Try.func8, Try.ntmps8
  go_wp2_with fail
  refine C.mono ?_
  rintro e w1 ⟨rfl, rfl⟩
  go_wp2_with fail
  go_ret
  exact noted_same hb ((Below.refl _ _).alloc (Nat.le_refl _) _) 6

set_option maxRecDepth 100000 in
set_option maxHeartbeats 2000000 in
theorem Act_ok {w : World} {F : Nat → Prop} {bp bm : Nat} {Al : Option Addr} {cl : Nat} {L : List (RH × Rec)} (hb : BookAt w F bp bm Al cl L) (t ev : Int) (a : I4) (ht : wf64 t) (i : Nat) (r : Rec) (hi : Und (L.map (·.2)) t i) (hr : (L.map (·.2))[i]? = some r) (hn : r.acts.length ≤ 1000) :
    Calls Try.prog 8 #[.pointer (some ⟨bp, 0, none⟩), .int .i64 t, .agg #[.int .i64 a.1, .int .u64 a.2.1, .int .i64 a.2.2.1, .int .i64 a.2.2.2], .int .i64 ev] w (Noted w F bp bm 0 ((L.map (·.2)).set i { r with acts := r.acts ++ [(a.1, a.2.1, a.2.2.1, ev)] })) := by
  obtain ⟨a1, a2, a3, a4⟩ := a
  obtain ⟨i0, hi0, hz0, hz1, hz2⟩ := info_parts info34
  obtain ⟨p, hp, _, _⟩ := und_get hi
  obtain rfl : p.2 = r := by rw [List.getElem?_map, hp] at hr; injection hr
  have hil : i < L.length := (List.getElem?_eq_some_iff.1 hp).1
  obtain ⟨g, rfl⟩ := own_pos hb.row (by omega)
  have hpm : p ∈ L := List.mem_iff_getElem?.2 ⟨i, hp⟩
  have hb1 := hb.below ((Below.refl _ w).alloc (Nat.le_refl _) (.cells #[.int .i64 a1, .int .u64 a2, .int .i64 a3, .int .i64 a4] 34))
  have C := of_some hb1 t ht i hi hil
  obtain ⟨W1, hW1⟩ : ∃ W1, W1 = w.alloc (.cells #[.int .i64 a1, .int .u64 a2, .int .i64 a3, .int .i64 ev] 34) := ⟨_, rfl⟩
  have hbw : Below w.heap.size w W1 := by rw [hW1]; exact (Below.refl _ w).alloc (Nat.le_refl _) _
  have hbW := hb.below hbw
  have hact := hbW.acts p hpm
  have hcell : ∀ j, j < 14 → W1.cell? ⟨g, i * 14 + j, none⟩ = (recV p)[j]? := fun j hj => by
    rw [hbW.row.cellAt (i * 14 + j) (by omega)]
    exact flat_at recV 14 recV_len L i p hp j hj
  have h13 := hcell 13 (by decide)
  have h13' : W1.cell? ⟨g, i * 14 + 13, none⟩ = some (.slice p.1.Aa p.2.acts.length p.1.ca) := h13
  have hz : w.heap.size + 1 ≤ W1.heap.size := by rw [hW1]; simp
  have hcb : W1.heap[w.heap.size]? = some (.cells #[.int .i64 a1, .int .u64 a2, .int .i64 a3, .int .i64 ev] 34 (0, 0)) := by rw [hW1]; exact heap_alloc_new w _
  have hk0 := cell_of_row W1 w.heap.size 0 _ 34 (0, 0) hcb
  have hk1 := cell_of_row W1 w.heap.size 1 _ 34 (0, 0) hcb
  have hk2 := cell_of_row W1 w.heap.size 2 _ 34 (0, 0) hcb
  have hk3 := cell_of_row W1 w.heap.size 3 _ 34 (0, 0) hcb
  simp at hk0 hk1 hk2 hk3
  clear h13 hcell
  have HW := Lib.hid hW1
  clear hW1 hcb
  go_enter Try.func8, Try.ntmps8
  go_wp2_with fail
  refine C.mono ?_
  rintro e w1 ⟨rfl, rfl⟩
  go_wp2_with fail
  rw [← HW.out]
  have hrw := hbW.row
  have hgw : g < W1.heap.size := own_lt hrw rfl
  have hlow : ∀ (k : Nat) (q : RH × Rec), L[k]? = some q → ∀ x, (aSl q).ownBlock = some x → x < w.heap.size := fun k q hq x hx => own_lt (hb.acts q (List.mem_iff_getElem?.2 ⟨k, hq⟩)) hx
  go_region_law (refine step_append_lies _ (by rfl) _ _ _ (by rfl) 0 34 i0 _ 4 32 Try.underlying42 hi0 hz0 hz1 hz2 rfl (by omega) (.slice p.1.Aa p.2.acts.length p.1.ca) p.2.acts.length (actsV p.2.acts) (by rfl) (World.ownsRow.alloc (World.ownsRow.drew hact) _) ⟨W1.heap.size, 0, none⟩ 1 1 [.int .i64 a1, .int .u64 a2, .int .i64 a3, .int .i64 ev] (by rfl) (by rfl) (World.news_of_block (cs := #[.int .i64 a1, .int .u64 a2, .int .i64 a3, .int .i64 ev]) (t := 34) (fr := (0, 0)) (heap_alloc_new W1 _)) (by simp [Value.oneCell']) (by omega) (by simp only [maxLen]; omega) (by omega) (by simp) (W1.heap.size + 1) (by simp) ?_; intro gg cap w4 hown4 hgrow4 hat4 hlt4; have hu4 : Upd (fun k => (aSl p).ownBlock = some k) W1 w4 := ((Upd.refl _ W1).drew.alloc _).grown hgrow4 (fun k hk _ => hk); have hrow4 := own_upd hu4 hrw (fun x hx e => own_ne hact hrw (by decide) e hx); have hv0 := (hrow4.cellAt (i * 14 + 13) (by omega)).trans (flat_at recV 14 recV_len L i p hp 13 (by decide)); simp [recV] at hv0; have hvf := hrow4.frozenAt (i * 14 + 13))
  all_goals go_wp2_with fail
  all_goals go_ret
  all_goals
    have hcl := act_close (a := (a1, a2, a3, ev)) hbW (w := w) ((Upd.refl (fun _ => False) w).below hbw) hlow hp hown4 hu4 (by
      rcases hat4 with h | h
      · exact .inl h
      · exact .inr (by omega))
    exact ⟨rfl, _, _, _, by rw [List.map_set], hcl.1, hcl.2⟩

end Go.Proofs.Ytlabnbfcjpggeaa
