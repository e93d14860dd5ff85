/- (*Book).End, walked. -/
import Derived.Test.YtlabnbfcjpggeaaAct
import Derived.Test.YtlabnbfcjpggeaaLaws3
import Derived.RegionTactic
import Derived.BigRegion
namespace Go.Proofs.Ytlabnbfcjpggeaa
open Go.RowKit Go.Maps

theorem End_nil (t ev er hd : Int) (ok : Bool) (Ax : Option Addr) (nx cx : Nat) (w : World) : Calls Try.prog 9 #[.pointer none, .int .i64 t, .agg #[.int .i64 er, .bool ok, .int .u64 hd, .slice Ax nx cx], .int .i64 ev] w fun e w' => e = .returned (.int .i64 6) ∧ Below w.heap.size w w' := by
  go_enter Try.func9, Try.ntmps9
  go_wp2_with fail
  refine (of_nil t _).mono ?_
  rintro e w1 ⟨rfl, rfl⟩
  go_wp2_with fail
  go_ret
  exact ⟨rfl, (Below.refl _ _).alloc (Nat.le_refl _) _⟩

set_option maxHeartbeats 1000000 in
theorem End_idle {w : World} {F : Nat → Prop} {bp bm : Nat} {Al : Option Addr} {cl : Nat} {L : List (RH × Rec)} (hb : BookAt w F bp bm Al cl L) (t ev er hd : Int) (ok : Bool) (Ax : Option Addr) (nx cx : Nat) (ht : wf64 t) (hno : ∀ i, ¬ Und (L.map (·.2)) t i) :
    Calls Try.prog 9 #[.pointer (some ⟨bp, 0, none⟩), .int .i64 t, .agg #[.int .i64 er, .bool ok, .int .u64 hd, .slice Ax nx cx], .int .i64 ev] w (Noted w F bp bm 6 (L.map (·.2))) := by
  have hb1 := hb.below ((Below.refl _ w).alloc (Nat.le_refl _) (.cells #[.int .i64 er, .bool ok, .int .u64 hd, .slice Ax nx cx] 37))
  have C := of_none hb1 t ht hno
  go_enter Try.func9, Try.ntmps9
  go_wp2_with fail
  refine C.mono ?_
  rintro e w1 ⟨rfl, rfl⟩
  go_wp2_with fail
  go_ret
  exact noted_same hb ((Below.refl _ _).alloc (Nat.le_refl _) _) 6

set_option maxRecDepth 100000 in
set_option maxHeartbeats 2000000 in
theorem End_ok {w : World} {F G : Nat → Prop} {bp bm : Nat} {Al : Option Addr} {cl : Nat} {L : List (RH × Rec)} (hb : BookAt w F bp bm Al cl L) (t ev er hd : Int) (ok : Bool) (Ax : Option Addr) (cx : Nat) (bs : List I3) (ht : wf64 t) (i : Nat) (r : Rec) (hi : Und (L.map (·.2)) t i) (hr : (L.map (·.2))[i]? = some r)
    (hx : SR w G Ax (duesV bs)) (hn : bs.length * 24 ≤ 140737488355328) :
    Calls Try.prog 9 #[.pointer (some ⟨bp, 0, none⟩), .int .i64 t, .agg #[.int .i64 er, .bool ok, .int .u64 hd, .slice Ax bs.length cx], .int .i64 ev] w (Noted w F bp bm 0 ((L.map (·.2)).set i (ended r ev er hd ok bs))) := by
  obtain ⟨p, hp, hpt, hpd⟩ := und_get hi
  obtain rfl : p.2 = r := by rw [List.getElem?_map, hp] at hr; injection hr
  have hil : i < L.length := (List.getElem?_eq_some_iff.1 hp).1
  obtain ⟨g, rfl⟩ := own_pos hb.row (by omega)
  have hpm : p ∈ L := List.mem_iff_getElem?.2 ⟨i, hp⟩
  obtain ⟨W1, hW1⟩ : ∃ W1, W1 = w.alloc (.cells #[.int .i64 er, .bool ok, .int .u64 hd, .slice Ax bs.length cx] 37) := ⟨_, rfl⟩
  have hbw : Below w.heap.size w W1 := by rw [hW1]; exact (Below.refl _ w).alloc (Nat.le_refl _) _
  have hbW := hb.below hbw
  have hxW := hx.below hbw
  have hz : w.heap.size + 1 ≤ W1.heap.size := by rw [hW1]; simp
  have hcb : W1.heap[w.heap.size]? = some (.cells #[.int .i64 er, .bool ok, .int .u64 hd, .slice Ax bs.length cx] 37 (0, 0)) := by rw [hW1]; exact heap_alloc_new w _
  have C := of_some hbW t ht i hi hil
  have K := fun (c : Nat) => cloneDue_any G Ax bs.length c (duesV bs) W1 (duesV_len bs) (duesV_one bs) hn hxW
  have HW := Lib.hid hW1
  clear hW1
  go_enter Try.func9, Try.ntmps9
  go_wp2_with fail
  rw [← HW.out]
  refine C.mono ?_
  rintro e w1 ⟨rfl, rfl⟩
  have hk3 := cell_of_row W1 w.heap.size 3 _ 37 (0, 0) hcb
  simp at hk3
  go_wp2_with fail
  refine (K _).mono ?_
  rintro e W2 ⟨A2, c2, rfl, hown2, hb2⟩
  have hcb2 := (hb2.block w.heap.size (by omega)).trans hcb
  have hm0 := cell_of_row W2 w.heap.size 0 _ 37 (0, 0) hcb2
  have hm1 := cell_of_row W2 w.heap.size 1 _ 37 (0, 0) hcb2
  have hm2 := cell_of_row W2 w.heap.size 2 _ 37 (0, 0) hcb2
  have hm3 := cell_of_row W2 w.heap.size 3 _ 37 (0, 0) hcb2
  simp at hm0 hm1 hm2 hm3
  have hmf : W2.frozen? ⟨w.heap.size, 3, none⟩ = false := by simp [World.frozen?, hcb2]
  go_wp2_with fail
  obtain ⟨W3, hW3⟩ : ∃ W3, W3 = W2.setCell ⟨w.heap.size, 3, none⟩ (.slice A2 bs.length c2) := ⟨_, rfl⟩
  have hbw2 : Below w.heap.size w W2 := hbw.trans (hb2.mono (by omega))
  have hbw3 : Below w.heap.size w W3 := by rw [hW3]; exact hbw2.setCell (p := ⟨w.heap.size, 3, none⟩) (Nat.le_refl _) _
  have hb3 := hb.below hbw3
  have hset3 : Upd (fun k => k = w.heap.size) W2 W3 := by rw [hW3]; exact (Upd.refl (fun k => k = w.heap.size) W2).setCell (p := ⟨w.heap.size, 3, none⟩) (fun _ => rfl) _
  have hown3 := own_upd hset3 hown2 (fun x hx e => by subst e; exact own_heap_ne hown2 hcb2 (fun cur h => by injection h with _ h; exact absurd h (by decide)) hx)
  have hcb3 : W3.heap[w.heap.size]? = some (.cells #[.int .i64 er, .bool ok, .int .u64 hd, .slice A2 bs.length c2] 37 (0, 0)) := by
    rw [hW3]
    have h := heap_setCell_same W2 w.heap.size 3 _ 37 (.slice A2 bs.length c2) hcb2
    show (W2.setCell ⟨w.heap.size, 3, none⟩ (.slice A2 bs.length c2)).heap[w.heap.size]? = _
    simpa using h
  have hq0 := cell_of_row W3 w.heap.size 0 _ 37 (0, 0) hcb3
  have hq1 := cell_of_row W3 w.heap.size 1 _ 37 (0, 0) hcb3
  have hq2 := cell_of_row W3 w.heap.size 2 _ 37 (0, 0) hcb3
  have hq3 := cell_of_row W3 w.heap.size 3 _ 37 (0, 0) hcb3
  simp at hq0 hq1 hq2 hq3
  have hrow := hb3.row
  have hcell : ∀ j, j < 14 → W3.cell? ⟨g, i * 14 + j, none⟩ = (recV p)[j]? := fun j hj => by
    rw [hrow.cellAt (i * 14 + j) (by omega)]
    exact flat_at recV 14 recV_len L i p hp j hj
  have hv7 := hcell 7 (by decide)
  have hv8 := hcell 8 (by decide)
  have hv9 := hcell 9 (by decide)
  have hv10 := hcell 10 (by decide)
  have hv11 := hcell 11 (by decide)
  have hv12 := hcell 12 (by decide)
  simp [recV] at hv7 hv8 hv9 hv10 hv11 hv12
  have hvf := fun o => hrow.frozenAt o
  obtain ⟨D, hmown, hg, hwf⟩ := hb3.map
  have hkey := keyOf_int_mk (P := Try.prog) Try.underlying3 ht
  have hc1 := hb3.cell1
  have hgw : g < w.heap.size := own_lt hb.row rfl
  have hne : g ≠ w.heap.size := by omega
  have H3 := Lib.hid hW3
  clear hW3 hcell
  rw [← H3.out]
  have hne' : ¬ w.heap.size = g := by omega
  go_region
  obtain ⟨W4, hW4⟩ : ∃ W4, W4 = (six W3 g (i * 14) ev er hd ok (.slice A2 bs.length c2)).drew := ⟨_, rfl⟩
  have hbpg : bp ≠ g := fun e => by subst e; exact own_heap_ne hb3.row hb3.fields (fun cur h => by injection h with _ h; exact absurd h (by decide)) rfl
  have hbmg : bm ≠ g := fun e => by
    obtain ⟨es, clk, hmh, _⟩ := hmown
    subst e
    exact own_heap_ne hb3.row hmh (fun cur h => by cases h) rfl
  have hu4 : Upd (fun k => k = g) W3 W4 := by rw [hW4]; exact (six_upd W3 g (i * 14) ev er hd ok _).drew
  have hm4 := map_upd hu4 hmown hbmg
  have hc4 := cell_of_row W4 bp 1 _ 61 (0, 0) (hu4.heap hb3.fields hbpg)
  simp at hc4
  have H4 := Lib.hid hW4
  unfold six at hW4
  rw [← hW4]
  clear hW4
  go_wp2_with (at_delete; refine wpList_delete_own _ rfl (.tmp 33) (.tmp 34) 59 3 rfl 3 law Try.underlying59 _ bm _ D rfl hm4 _ _ rfl hkey ?_; intro w5 hown5 hturn5)
  go_ret
  have hg5 := hturn5.grown
  rw [H4.out] at hg5
  rw [← hpt] at hown5
  have hcl := end_close hb3 (w := w) (by
    have h := (Upd.refl (fun _ => False) w).below hbw2
    rw [H3.out]
    exact h.setCell (p := ⟨w.heap.size, 3, none⟩) (fun h => absurd h (Nat.lt_irrefl _)) _) hp hpd hown3 (by omega) hmown hg hwf hown5 hg5
  exact ⟨rfl, _, _, _, by rw [List.map_set], hcl.1, hcl.2⟩

end Go.Proofs.Ytlabnbfcjpggeaa
