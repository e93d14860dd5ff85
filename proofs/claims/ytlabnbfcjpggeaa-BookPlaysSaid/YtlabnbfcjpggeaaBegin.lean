/- (*Book).Begin, walked. -/
import Derived.Test.YtlabnbfcjpggeaaLaws
import Derived.StillTailTactics
import Derived.Deep.RegionLaw
import Derived.Deep.AppendLies
namespace Go.Proofs.Ytlabnbfcjpggeaa
open Go.RowKit Go.Maps

/-- A note is answered so, and the book then holds these records. -/
def Noted (w : World) (F : Nat → Prop) (bp bm : Nat) (err : Int) (rs : List Rec) (e : Ending) (w' : World) : Prop :=
  e = .returned (.int .i64 err) ∧ ∃ Al cl L', L'.map (·.2) = rs ∧ BookAt w' (fun k => F k ∨ w.heap.size ≤ k) bp bm Al cl L' ∧ Upd F w w'
theorem noted_same {w w' : World} {F : Nat → Prop} {bp bm : Nat} {Al : Option Addr} {cl : Nat} {L : List (RH × Rec)} (hb : BookAt w F bp bm Al cl L) (hw : Below w.heap.size w w') (err : Int) : Noted w F bp bm err (L.map (·.2)) (.returned (.int .i64 err)) w' :=
  ⟨rfl, Al, cl, L, rfl, (hb.below hw).mono (fun _ h => .inl h), Upd.of_below F hw⟩
/-- What Begin makes. -/
def fresh (t : Int) (c : I5) (ev : Int) : Rec := { thr := t, call := c, beg := ev, fin := 0, done := false, err := 0, ok := false, hnd := 0, batch := [], acts := [] }

/-- A drawn region that reads, and whose last operation writes: in a world that is a letter. -/
theorem still_tail {P : Program} {id : Nat} {Q : Exit → Act → World → Prop} {a : Act} {w : World} {l : List Oper} (n : Nat) (hm : P.follows .mixedOrders = true) (hB : Region.lexTailB .any l.toArray n = true) (W : World) (hW : W = w.drew)
    (h : wpStill P l.toArray W (fun a' => wpList P l.toArray Q (l.drop n) a' W) (l.take n) a) : (Code.region id l.toArray true).wp P Q a w := by
  subst hW
  exact wp_region_still_tail n hm hB h

theorem Begin_nil (t ev : Int) (c : I5) (w : World) : Calls Try.prog 7 #[.pointer none, .int .i64 t, .agg #[.int .i64 c.1, .int .i64 c.2.1, .int .u64 c.2.2.1, .int .u64 c.2.2.2.1, .int .i64 c.2.2.2.2], .int .i64 ev] w fun e w' => e = .returned (.int .i64 6) ∧ Below w.heap.size w w' := by
  obtain ⟨c1, c2, c3, c4, c5⟩ := c
  go_enter Try.func7, Try.ntmps7
  go_wp2
  go_ret
  exact ⟨rfl, (Below.refl _ _).alloc (Nat.le_refl _) _⟩

set_option maxHeartbeats 1000000 in
theorem Begin_busy {w : World} {F : Nat → Prop} {bp bm : Nat} {Al : Option Addr} {cl : Nat} {L : List (RH × Rec)} (hb : BookAt w F bp bm Al cl L) (t ev : Int) (c : I5) (ht : wf64 t) (i : Nat) (hi : Und (L.map (·.2)) t i) :
    Calls Try.prog 7 #[.pointer (some ⟨bp, 0, none⟩), .int .i64 t, .agg #[.int .i64 c.1, .int .i64 c.2.1, .int .u64 c.2.2.1, .int .u64 c.2.2.2.1, .int .i64 c.2.2.2.2], .int .i64 ev] w (Noted w F bp bm 5 (L.map (·.2))) := by
  obtain ⟨c1, c2, c3, c4, c5⟩ := c
  have hb1 := hb.below ((Below.refl _ w).alloc (Nat.le_refl _) (.cells #[.int .i64 c1, .int .i64 c2, .int .u64 c3, .int .u64 c4, .int .i64 c5] 31))
  obtain ⟨D, hown, hg, _⟩ := hb1.map
  have hhas : Maps.has D (.int .i64 t) = true := (hg.1 t ht).2 ⟨i, hi⟩
  have hkey := keyOf_int_mk (P := Try.prog) Try.underlying3 ht
  have hc1 := hb1.cell1
  have Hh := Lib.hid hhas
  clear hhas hg hb1
  go_enter Try.func7, Try.ntmps7
  go_wp2_with (at_lookup; refine wpList_lookup_own_ok_int _ rfl (.tmp 17) (.tmp 18) 59 rfl 3 3 .i64 law Try.underlying59 Try.underlying3 (zeroE _) bm _ D rfl hown _ _ rfl hkey ?_; intro c hat hwc; rw [Hh.out])
  go_ret
  exact noted_same hb ((Below.refl _ _).alloc (Nat.le_refl _) _) 5

set_option maxRecDepth 100000 in
set_option maxHeartbeats 2000000 in
theorem Begin_ok {w : World} {F : Nat → Prop} {bp bm : Nat} {Al : Option Addr} {cl : Nat} {L : List (RH × Rec)} (hb : BookAt w F bp bm Al cl L) (t ev : Int) (c : I5) (ht : wf64 t) (hno : ∀ i, ¬ Und (L.map (·.2)) t i) (hn : L.length ≤ 1000) :
    Calls Try.prog 7 #[.pointer (some ⟨bp, 0, none⟩), .int .i64 t, .agg #[.int .i64 c.1, .int .i64 c.2.1, .int .u64 c.2.2.1, .int .u64 c.2.2.2.1, .int .i64 c.2.2.2.2], .int .i64 ev] w (Noted w F bp bm 0 (L.map (·.2) ++ [fresh t c ev])) := by
  obtain ⟨c1, c2, c3, c4, c5⟩ := c
  obtain ⟨i0, hi0, hz0, hz1, hz2'⟩ := info_parts info44
  have hbw : Below w.heap.size w (w.alloc (.cells #[.int .i64 c1, .int .i64 c2, .int .u64 c3, .int .u64 c4, .int .i64 c5] 31)) := (Below.refl _ w).alloc (Nat.le_refl _) _
  have hb1 := hb.below hbw
  obtain ⟨D, hown, hg, hwf⟩ := hb1.map
  have hhas : Maps.has D (.int .i64 t) = false := by
    rw [← Bool.not_eq_true, hg.1 t ht]; rintro ⟨i, hi⟩; exact hno i hi
  have hkey := keyOf_int_mk (P := Try.prog) Try.underlying3 ht
  have hc0 := hb1.cell0
  have hc1 := hb1.cell1
  have Hh := Lib.hid hhas
  clear hhas
  have hnil := fun W => run_eql_map_nil (P := Try.prog) W 59 3 3 (some bm) Try.underlying59
  obtain ⟨W2, hW2⟩ : ∃ W2, W2 = (w.alloc (.cells #[.int .i64 c1, .int .i64 c2, .int .u64 c3, .int .u64 c4, .int .i64 c5] 31)).drew := ⟨_, rfl⟩
  have hb2 : BookAt W2 F bp bm Al cl L := by rw [hW2]; exact hb1.upd ((Upd.refl (fun _ => False) _).drew) (fun _ _ _ => id)
  have hown2 : W2.ownsMap Try.prog 3 (plainElem Try.prog 3) bm (L.map (·.2)).length D := by rw [hW2]; exact hown.drew
  have hx0 := hb2.cell0
  have hx1 := hb2.cell1
  have HW := Lib.hid hW2
  clear hW2
  go_enter Try.func7, Try.ntmps7
  go_wp2_with (at_lookup; refine wpList_lookup_own_ok_int _ rfl (.tmp 17) (.tmp 18) 59 rfl 3 3 .i64 law Try.underlying59 Try.underlying3 (zeroE _) bm _ D rfl hown _ _ rfl hkey ?_; intro c hat hwc; rw [Hh.out])
  refine still_tail 10 (by kernel_rfl) (by kernel_rfl) W2 HW.out ?_
  simp only [List.take_succ_cons, List.take_zero, List.drop_succ_cons, List.drop_zero]
  repeat still_step
  refine wpStill_nil ?_
  go_wp2_with (at_mapUpdate; refine wpList_mapUpdate_own _ rfl (.tmp 35) (.tmp 36) (.tmp 41) 59 rfl 3 3 law Try.underlying59 _ bm _ D rfl hown2 (by simp [maxLen]; omega) _ _ _ rfl rfl hkey _ [] (plainElem_int Try.underlying3 (WalkArith.wf_i64 (by omega))) ?_; intro w3 hown3 hgrow3)
  have hbmlt : bm < w.heap.size := (by
    obtain ⟨D', h', _⟩ := hb.map
    exact h'.lt)
  have hu3 : Upd (fun k => k = bm) W2 w3 := (Upd.refl _ _).grown hgrow3 (fun k hk _ => by injection hk with hk; exact hk.symm)
  have hne : bp ≠ bm := by
    intro e
    obtain ⟨D', ⟨es, cl', h', _⟩, _⟩ := hb.map
    have hf := hb.fields
    rw [e, h'] at hf
    cases hf
  have hrow3 : w3.ownsRow 0 44 14 (.slice Al L.length cl) L.length (recsV L) := own_upd hu3 hb2.row (fun g hg e => by
    obtain ⟨D', ⟨es, cl', h', _⟩, _⟩ := hb2.map
    subst e
    exact own_heap_ne hb2.row h' (fun cur h => by cases h) hg)
  have hz2 : W2.heap.size = w.heap.size + 1 := by rw [HW.out]; simp
  have hz3 : w.heap.size + 1 ≤ w3.heap.size := by have := hu3.size; omega
  have hf3 : w3.heap[bp]? = some (.cells #[.slice Al L.length cl, .map (some bm)] 61 (0, 0)) := hu3.heap hb2.fields hne
  have hy0 : w3.cell? ⟨bp, 0, none⟩ = some (.slice Al L.length cl) := cell_of_row w3 bp 0 _ 61 (0, 0) hf3
  have hyf : w3.frozen? ⟨bp, 0, none⟩ = false := by simp [World.frozen?, hf3]
  have hcb : w3.heap[w.heap.size]? = some (.cells #[.int .i64 c1, .int .i64 c2, .int .u64 c3, .int .u64 c4, .int .i64 c5] 31 (0, 0)) := by
    refine hu3.heap ?_ (by omega)
    rw [HW.out]
    exact heap_alloc_new w _
  have hk0 := cell_of_row w3 w.heap.size 0 _ 31 (0, 0) hcb
  have hk1 := cell_of_row w3 w.heap.size 1 _ 31 (0, 0) hcb
  have hk2 := cell_of_row w3 w.heap.size 2 _ 31 (0, 0) hcb
  have hk3 := cell_of_row w3 w.heap.size 3 _ 31 (0, 0) hcb
  have hk4 := cell_of_row w3 w.heap.size 4 _ 31 (0, 0) hcb
  simp at hk0 hk1 hk2 hk3 hk4
  have hbp3 : bp < w3.heap.size := by have := hb.lt; omega
  have hne4 : ¬ (Value.slice Al L.length cl).ownBlock = some bp := fun e => own_heap_ne hrow3 hf3 (fun cur h => by injection h with _ h; exact absurd h (by decide)) e
  go_region_law (refine step_append_lies _ (by rfl) _ _ _ (by rfl) 0 44 i0 _ 14 144 Try.underlying40 hi0 hz0 hz1 hz2' rfl (by omega) (.slice Al L.length cl) L.length (recsV L) (by rfl) (hrow3.drew.alloc _) ⟨w3.heap.size, 0, none⟩ 1 1 [.int .i64 t, .int .i64 c1, .int .i64 c2, .int .u64 c3, .int .u64 c4, .int .i64 c5, .int .i64 ev, .int .i64 0, .bool false, .int .i64 0, .bool false, .int .u64 0, .slice none 0 0, .slice none 0 0] (by rfl) (by rfl) (World.news_of_block (cs := #[.int .i64 t, .int .i64 c1, .int .i64 c2, .int .u64 c3, .int .u64 c4, .int .i64 c5, .int .i64 ev, .int .i64 0, .bool false, .int .i64 0, .bool false, .int .u64 0, .slice none 0 0, .slice none 0 0]) (t := 44) (fr := (0, 0)) (heap_alloc_new w3 _)) (by simp [Value.oneCell']) (by omega) (by simp only [maxLen]; omega) (by omega) (by simp) (w3.heap.size + 1) (by simp) ?_; intro gg cap w4 hown4 hgrow4 hat4 hlt4; have hu4 : Upd (fun k => (Value.slice Al L.length cl).ownBlock = some k) w3 w4 := ((Upd.refl _ w3).drew.alloc _).grown hgrow4 (fun k hk _ => hk); have hf4 := hu4.heap hf3 hne4; have hv0 := cell_of_row w4 bp 0 _ 61 (0, 0) hf4; simp at hv0; have hvf : w4.frozen? ⟨bp, 0, none⟩ = false := by simp [World.frozen?, hf4])
  all_goals go_wp2_with fail
  all_goals go_ret
  all_goals
    have hcl := begin_close (r := fresh t (c1, c2, c3, c4, c5) ev) hb2 (w := w) (by rw [HW.out]; exact ((Upd.refl (fun _ => False) w).alloc _).drew) hown2 hg hwf hno ht rfl rfl rfl hown3 hgrow3 hown4 hu4 (by
      rcases hat4 with h | h
      · exact .inl h
      · exact .inr (by omega))
    exact ⟨rfl, _, _, _, by rw [List.map_append]; rfl, hcl.1, hcl.2⟩

end Go.Proofs.Ytlabnbfcjpggeaa
