/- awake, walked: it answers true. -/
import Derived.Test.YtoikjokdabpmoaaDo
namespace Go.Proofs.Ytoikjokdabpmoaa
open Go.RowKit Go.Maps

theorem ModAt.own {w : World} {F : Nat → Prop} {mp bl bw : Nat} {T : List Tm} (h : ModAt w F mp bl bw T) : ModAt w (fun k => k = mp ∨ k = bl ∨ k = bw) mp bl bw T :=
  { h with fm := .inl rfl, fl := .inr (.inl rfl), fw := .inr (.inr rfl) }
theorem ModAt.upd' {w : World} {F : Nat → Prop} {mp bl bw : Nat} {T : List Tm} (h : ModAt w F mp bl bw T) {b : Nat} (hb : w.heap.size ≤ b) : ¬ (b = mp ∨ b = bl ∨ b = bw) := by
  have := h.ltp
  have := h.ltl
  have := h.ltw
  omega
theorem box4 {W : World} {b : Nat} {a c d e : Value} (h : W.heap[b]? = some (.cells #[a, c, d, e] 28 (0, 0))) : W.cell? ⟨b, 0, none⟩ = some a ∧ W.cell? ⟨b, 1, none⟩ = some c ∧ W.cell? ⟨b, 2, none⟩ = some d ∧ W.cell? ⟨b, 3, none⟩ = some e :=
  ⟨cell_of_row W b 0 _ 28 (0, 0) h, cell_of_row W b 1 _ 28 (0, 0) h, cell_of_row W b 2 _ 28 (0, 0) h, cell_of_row W b 3 _ 28 (0, 0) h⟩

abbrev T1 : List Tm := [⟨5, 7, true⟩]
abbrev T2 : List Tm := [⟨5, 7, false⟩]
theorem aw1 : legalB [] 1 5 7 0 = true ∧ doT [] 1 5 7 0 = T1 := ⟨rfl, rfl⟩
theorem aw2 : legalB T1 2 5 7 6 = false ∧ doT T1 2 5 7 6 = T1 := ⟨rfl, rfl⟩
theorem aw3 : legalB T1 2 5 7 7 = true ∧ doT T1 2 5 7 7 = T2 := ⟨rfl, rfl⟩
theorem aw4 : legalB T2 3 5 0 9 = false ∧ doT T2 3 5 0 9 = T2 := ⟨rfl, rfl⟩
theorem aw5 : legalB T2 4 5 0 9 = true ∧ doT T2 4 5 0 9 = T2 := ⟨rfl, rfl⟩
theorem aw6 : legalB T2 1 5 7 9 = false ∧ doT T2 1 5 7 9 = T2 := ⟨rfl, rfl⟩

theorem aw_boxes (W1 : World) : ∃ W3, W3 = (W1.alloc (.cells #[.int .i64 1, .int .u64 5, .int .i64 7, .int .i64 0] 28)).alloc (.cells #[.int .i64 2, .int .u64 5, .int .i64 7, .int .i64 0] 28) ∧ Below W1.heap.size W1 W3 ∧
    W3.heap[W1.heap.size]? = some (.cells #[.int .i64 1, .int .u64 5, .int .i64 7, .int .i64 0] 28 (0, 0)) ∧ W3.heap[W1.heap.size + 1]? = some (.cells #[.int .i64 2, .int .u64 5, .int .i64 7, .int .i64 0] 28 (0, 0)) := by
  refine ⟨_, rfl, ((Below.refl _ _).alloc (Nat.le_refl _) _).alloc (by simp) _, (Below.heap_alloc _ _ _ (by simp)).trans (heap_alloc_new W1 _), ?_⟩
  have := heap_alloc_new (W1.alloc (.cells #[.int .i64 1, .int .u64 5, .int .i64 7, .int .i64 0] 28)) (.cells #[.int .i64 2, .int .u64 5, .int .i64 7, .int .i64 0] 28)
  simpa using this

set_option maxRecDepth 100000 in
set_option maxHeartbeats 16000000 in
theorem awake_any (w : World) : Calls Try.prog 5 #[] w (Answer true w) := by
  have hml : ∀ T : List Tm, T.length ≤ 1 → T.length < maxLen := fun T h => by simp only [maxLen]; omega
  go_enter Try.func5, Try.ntmps5
  go_wp2_with fail
  refine (New_any w).mono ?_
  rintro e W1 ⟨mp, bl, bw, rfl, hN, hb1⟩
  obtain ⟨W3, hW3, hb13, hA, hB⟩ := aw_boxes W1
  have HW3 := Lib.hid hW3
  clear hW3
  have hM3 := (hN.own).below hb13
  have hnA := hN.upd' (b := W1.heap.size) (Nat.le_refl _)
  have hnB := hN.upd' (b := W1.heap.size + 1) (Nat.le_succ _)
  have HF := Lib.hid (And.intro hN.fm (And.intro hN.fl hN.fw))
  go_wp2_with fail
  rw [← HW3.out]
  have C := Do_any hM3 1 5 7 0 0 (by decide) (hml _ (by decide))
  rw [aw1.1, aw1.2] at C
  refine C.mono ?_
  rintro e w4 ⟨rfl, hM4, hu4⟩
  have hA4 := hu4.heap hA hnA
  have hB4 := hu4.heap hB hnB
  obtain ⟨b0, b1, b2, b3⟩ := box4 hB4
  clear C
  go_wp2_with fail
  have C := Do_any hM4 2 5 7 0 6 (by decide) (hml _ (by decide))
  rw [aw2.1, aw2.2] at C
  refine C.mono ?_
  rintro e w5 ⟨rfl, hM5, hu5⟩
  have hA5 := hu5.heap hA4 hnA
  have hB5 := hu5.heap hB4 hnB
  obtain ⟨c0, c1, c2, c3⟩ := box4 hB5
  clear C
  go_wp2_with fail
  have C := Legal_any hM5 2 5 7 0 7 (by decide)
  rw [aw3.1] at C
  refine C.mono ?_
  rintro e w6 ⟨rfl, hb6⟩
  have hM6 := hM5.below hb6
  have hA6 := (Upd.of_below (fun _ => False) hb6).heap hA5 id
  have hB6 := (Upd.of_below (fun _ => False) hb6).heap hB5 id
  obtain ⟨d0, d1, d2, d3⟩ := box4 hB6
  clear C
  go_wp2_with fail
  have C := Do_any hM6 2 5 7 0 7 (by decide) (hml _ (by decide))
  rw [aw3.1, aw3.2] at C
  refine C.mono ?_
  rintro e w7 ⟨rfl, hM7, hu7⟩
  have hA7 := hu7.heap hA6 hnA
  clear C
  go_wp2_with fail
  have C := Do_any hM7 3 5 0 0 9 (by decide) (hml _ (by decide))
  rw [aw4.1, aw4.2] at C
  refine C.mono ?_
  rintro e w8 ⟨rfl, hM8, hu8⟩
  have hA8 := hu8.heap hA7 hnA
  clear C
  go_wp2_with fail
  have C := Do_any hM8 4 5 0 0 9 (by decide) (hml _ (by decide))
  rw [aw5.1, aw5.2] at C
  refine C.mono ?_
  rintro e w9 ⟨rfl, hM9, hu9⟩
  have hA9 := hu9.heap hA8 hnA
  obtain ⟨e0, e1, e2, e3⟩ := box4 hA9
  clear C
  go_wp2_with fail
  have C := Do_any hM9 1 5 7 0 9 (by decide) (hml _ (by decide))
  rw [aw6.1, aw6.2] at C
  refine C.mono ?_
  rintro e w10 ⟨rfl, hM10, hu10⟩
  clear C
  go_wp2_with fail
  go_ret
  refine ⟨rfl, ?_⟩
  have u : Upd (fun k => w.heap.size ≤ k) w w10 := by
    have cv : ∀ (a b : World), Upd (fun k => k = mp ∨ k = bl ∨ k = bw) a b → Upd (fun k => w.heap.size ≤ k) a b := fun a b h => h.mono (fun i _ e => by
      obtain ⟨f1, f2, f3⟩ := HF.out
      rcases e with rfl | rfl | rfl <;> assumption)
    have st : ∀ (b c : World), Upd (fun k => w.heap.size ≤ k) w b → Upd (fun k => w.heap.size ≤ k) b c → Upd (fun k => w.heap.size ≤ k) w c := fun b c h k => h.trans k (fun _ _ e => e)
    have u3 := (Upd.of_below (fun k => w.heap.size ≤ k) hb1).trans (Upd.of_below (fun k => w.heap.size ≤ k) hb13) (fun _ _ e => e)
    have u6 := st _ _ (st _ _ (st _ _ u3 (cv _ _ hu4)) (cv _ _ hu5)) (Upd.of_below _ hb6)
    exact st _ _ (st _ _ (st _ _ (st _ _ u6 (cv _ _ hu7)) (cv _ _ hu8)) (cv _ _ hu9)) (cv _ _ hu10)
  exact u.to_below (Nat.le_refl _) (fun i e => e)
end Go.Proofs.Ytoikjokdabpmoaa
