/- The reference's Do, walked. -/
import Derived.Test.YtoikjokdabpmoaaRf2
import Derived.Deep.AppendLies
namespace Go.Proofs.Ytoikjokdabpmoaa
open Go.RowKit Go.Maps

theorem info54 : (Try.prog.info? 54).map (fun i => (i.zero, i.size, i.bytes)) = some (some (.agg #[.int .u64 0, .int .i64 0, .bool false]), 3, 24) := by kernel_rfl
/-- The reference's timers are handed back. -/
def RDone (T : List Tm) (w : World) (G : Nat → Prop) (e : Ending) (w' : World) : Prop :=
  ∃ A' c', e = .returned (.slice A' T.length c') ∧ SR w' (fun k => G k ∨ w.heap.size ≤ k) A' (tmsV T) ∧ Below w.heap.size w w'
theorem tmsV_one (T : List Tm) : ∀ u ∈ tmsV T, u.oneCell' = true := by
  intro u hu
  obtain ⟨t, _, hu⟩ := List.mem_flatMap.1 hu
  simp only [tmV, List.mem_cons, List.not_mem_nil, or_false] at hu
  rcases hu with rfl | rfl | rfl <;> rfl
theorem kill_set {T : List Tm} (hd : T.Pairwise (fun a b => a.h ≠ b.h)) {i : Nat} {t : Tm} (hi : T[i]? = some t) : kill T t.h = T.set i { t with live := false } := by
  apply List.ext_getElem?
  intro j
  unfold kill
  rw [List.getElem?_map, List.getElem?_set]
  by_cases e : i = j
  · subst e
    rw [hi, if_pos rfl, if_pos (List.getElem?_eq_some_iff.1 hi).1]
    simp
  · rw [if_neg e]
    cases hj : T[j]? with
    | none => rfl
    | some u =>
      have : u.h ≠ t.h := fun e2 => e (at_place hd hi hj e2).symm
      simp [this]

set_option maxRecDepth 100000 in
set_option maxHeartbeats 16000000 in
theorem rdo_any {T : List Tm} (hd : T.Pairwise (fun a b => a.h ≠ b.h)) (G : Nat → Prop) (A : Option Addr) (c : Nat) (k h dl st now : Int) (w : World) (hl : T.length ≤ 999) (hA : SR w G A (tmsV T)) :
    Calls Try.prog 13 #[.slice A T.length c, .agg #[.int .i64 k, .int .u64 h, .int .i64 dl, .int .i64 st], .int .i64 now] w (RDone (doT T k h dl now) w G) := by
  obtain ⟨i0, hi0, hz0, hz1, hz2⟩ := info_parts info54
  obtain ⟨W1, hW1⟩ : ∃ W1, W1 = w.alloc (.cells #[.int .i64 k, .int .u64 h, .int .i64 dl, .int .i64 st] 28) := ⟨_, rfl⟩
  have hb1 : Below w.heap.size w W1 := by rw [hW1]; exact (Below.refl _ w).alloc (Nat.le_refl _) _
  have hA1 := hA.below hb1
  have hx : W1.heap[w.heap.size]? = some (.cells #[.int .i64 k, .int .u64 h, .int .i64 dl, .int .i64 st] 28 (0, 0)) := by rw [hW1]; exact heap_alloc_new w _
  have hs1 : W1.heap.size = w.heap.size + 1 := by rw [hW1]; simp
  have x0 := cell_of_row W1 w.heap.size 0 _ 28 (0, 0) hx
  have x1 := cell_of_row W1 w.heap.size 1 _ 28 (0, 0) hx
  have x2 := cell_of_row W1 w.heap.size 2 _ 28 (0, 0) hx
  have x3 := cell_of_row W1 w.heap.size 3 _ 28 (0, 0) hx
  simp at x0 x1 x2 x3
  have HW := Lib.hid hW1
  have HX := Lib.hid hx
  clear hW1 hx
  have hcall := rlegal_any hd A c k h dl st now W1 (by omega) (hA1.mono (fun _ _ _ => trivial))
  cases hL : legalB T k h dl now with
  | false =>
    rw [hL] at hcall
    have HD : Hid (doT T k h dl now = T) := Lib.hid (by unfold doT; rw [hL]; rfl)
    clear hL
    go_enter Try.func13, Try.ntmps13
    go_wp2_with (go_at_call 12; rw [← HW.out]; refine hcall.mono ?_; rintro e w2 ⟨rfl, hb2⟩)
    go_ret
    have hb := hb1.trans (hb2.mono (by omega))
    rw [HD.out]
    exact ⟨A, c, rfl, (hA.below hb).mono (fun _ _ h => .inl h), hb⟩
  | true =>
    rw [hL] at hcall
    by_cases k3 : 3 < k
    · have HD : Hid (doT T k h dl now = T) := Lib.hid (by unfold doT; rw [if_pos hL, if_neg (by omega), if_neg (by omega)])
      clear hL
      go_enter Try.func13, Try.ntmps13
      go_wp2_with (go_at_call 12; rw [← HW.out]; refine hcall.mono ?_; rintro e w2 ⟨rfl, hb2⟩; have hx2 := (hb2.block w.heap.size (by omega)).trans HX.out; have v0 := cell_of_row w2 w.heap.size 0 _ 28 (0, 0) hx2; simp at v0)
      go_ret
      have hb := hb1.trans (hb2.mono (by omega))
      rw [HD.out]
      exact ⟨A, c, rfl, (hA.below hb).mono (fun _ _ h => .inl h), hb⟩
    · by_cases k1 : k = 1
      · have t1 : (k == 1) = true := by simp [k1]
        have HD : Hid (doT T k h dl now = T ++ [⟨h, dl, true⟩]) := Lib.hid (by unfold doT; rw [if_pos hL, if_pos k1])
        clear hL k1
        have Hlen := Lib.hid (flat_length tmV 3 (fun _ => rfl) T)
        have hone := tmsV_one T
        go_enter Try.func13, Try.ntmps13
        go_wp2_with (first
          | (go_at_call 12; rw [← HW.out]; refine hcall.mono ?_; rintro e w2 ⟨rfl, hb2⟩; have hx2 := (hb2.block w.heap.size (by omega)).trans HX.out; have v0 := cell_of_row w2 w.heap.size 0 _ 28 (0, 0) hx2; simp at v0; have hA2 := (hA1.below hb2).below ((Below.refl _ w2).alloc (Nat.le_refl _) (.cells #[] 54)); have hown0 := World.ownsRow_made (e := 54) (size := 3) w2 #[] 0 (Nat.le_refl _) (by simp [maxLen]) rfl)
          | (at_builtin; refine wpList_append_read rfl (.tmp 19) (.tmp 20) 36 rfl Try.underlying36 hi0 hz0 hz1 hz2 rfl (by decide) rfl hown0 rfl hA2 Hlen.out hone (by simp only [maxLen]; omega) (by omega) (by simp) ?_; intro v4 w4 hown4 hg4 hat4; obtain ⟨A4, c4, rfl⟩ := own_form hown4; rw [Nat.zero_add, List.nil_append] at hown4; have hw24 : Below w2.heap.size w2 w4 := (((Below.refl _ _).alloc (Nat.le_refl _) _).grown hg4 (by simp) (fun k hk => by injection hk with hk; subst hk; exact Nat.le_refl _)); have hx4 := (hw24.block w.heap.size (by have := hb2.size; omega)).trans hx2; have u0 := cell_of_row w4 w.heap.size 0 _ 28 (0, 0) hx4; have u1 := cell_of_row w4 w.heap.size 1 _ 28 (0, 0) hx4; have u2 := cell_of_row w4 w.heap.size 2 _ 28 (0, 0) hx4; simp at u0 u1 u2; have hs4 := hw24.size)
          | (at_builtin; refine wpList_append_own_at _ rfl (.tmp 25) (.tmp 31) 36 rfl w2.heap.size 54 i0 _ 3 24 Try.underlying36 hi0 hz0 hz1 hz2 rfl (by decide) _ T.length _ rfl (hown4.alloc _) ⟨w4.heap.size, 0, none⟩ 1 1 [.int .u64 h, .int .i64 dl, .bool true] rfl rfl (World.news_of_block (cs := #[.int .u64 h, .int .i64 dl, .bool true]) (t := 54) (fr := (0, 0)) (heap_alloc_new w4 _)) (by simp [Value.oneCell']) (by simp only [maxLen]; omega) (by omega) (by simp; omega) ?_; intro v5 w5 hown5 hg5 hnil5 hat5; obtain ⟨A5, c5, rfl⟩ := own_form hown5))
        go_ret
        have hs2 := hb2.size
        have hb4 : Below w.heap.size w w4 := hb1.trans ((hb2.mono (by omega)).trans (hw24.mono (by omega)))
        have hb5 : Below w.heap.size w w5 := (hb4.alloc (by have := hb4.size; omega) _).grown hg5 (by have := hb4.size; simp; omega) (fun q hq => Nat.le_trans (by omega) (hown4.lt q hq).1)
        rw [HD.out]
        exact ⟨A5, c5, by simp, (SR.of_own hown5 (fun q => G q ∨ w.heap.size ≤ q) (fun q hq => .inr (Nat.le_trans (by omega) (hown5.lt q hq).1))) |> fun h => by simpa using h, hb5⟩
      · have t1 : (k == 1) = false := by simp [k1]
        have hk : k = 2 ∨ k = 3 := by
          unfold legalB at hL
          rw [if_neg k1] at hL
          split at hL
          · exact .inl (by assumption)
          · split at hL
            · exact .inr (by assumption)
            · split at hL
              · omega
              · simp at hL; omega
        have hlv : liveB T h = true := by
          unfold legalB at hL
          rcases hk with rfl | rfl
          · simp at hL; exact hL.1.1
          · simpa using hL
        obtain ⟨i, t, hi, rfl⟩ := were_at (were_of_live hlv)
        have HD : Hid (doT T k t.h dl now = T.set i { t with live := false }) := Lib.hid (by unfold doT; rw [if_pos hL, if_neg k1, if_pos hk, kill_set hd hi])
        have hfind := fun W (hW : SR W (fun _ => True) A (tmsV T)) => find_at hd A c (w := W) (by omega) hW hi
        have hil := (List.getElem?_eq_some_iff.1 hi).1
        have hi1 : (0 : Int) ≤ (i : Int) := Int.natCast_nonneg _
        have hi2 : (i : Int) < (T.length : Int) := by omega
        have Hlen := Lib.hid (flat_length tmV 3 (fun _ => rfl) T)
        have hone := tmsV_one T
        have HI := Lib.hid hi
        clear hL k1 hk hlv hi
        go_enter Try.func13, Try.ntmps13
        go_wp2_with (first
          | (go_at_call 12; rw [← HW.out]; refine hcall.mono ?_; rintro e w2 ⟨rfl, hb2⟩; have hx2 := (hb2.block w.heap.size (by omega)).trans HX.out; have v0 := cell_of_row w2 w.heap.size 0 _ 28 (0, 0) hx2; simp at v0; have hA2 := (hA1.below hb2).below ((Below.refl _ w2).alloc (Nat.le_refl _) (.cells #[] 54)); have hown0 := World.ownsRow_made (e := 54) (size := 3) w2 #[] 0 (Nat.le_refl _) (by simp [maxLen]) rfl)
          | (at_builtin; refine wpList_append_read rfl (.tmp 19) (.tmp 20) 36 rfl Try.underlying36 hi0 hz0 hz1 hz2 rfl (by decide) rfl hown0 rfl hA2 Hlen.out hone (by simp only [maxLen]; omega) (by omega) (by simp) ?_; intro v4 w4 hown4 hg4 hat4; obtain ⟨A4, c4, rfl⟩ := own_form hown4; rw [Nat.zero_add, List.nil_append] at hown4; obtain ⟨g4, rfl⟩ := own_pos hown4 (by omega); have hw24 : Below w2.heap.size w2 w4 := (((Below.refl _ _).alloc (Nat.le_refl _) _).grown hg4 (by simp) (fun k hk => by injection hk with hk; subst hk; exact Nat.le_refl _)); have hx4 := (hw24.block w.heap.size (by have := hb2.size; omega)).trans hx2; have u0 := cell_of_row w4 w.heap.size 0 _ 28 (0, 0) hx4; have u1 := cell_of_row w4 w.heap.size 1 _ 28 (0, 0) hx4; simp at u0 u1; have hs4 := hw24.size; have hf4 := hfind w4 ((hA1.below (hb2.trans (hw24.mono hb2.size))).mono (fun _ _ _ => trivial)))
          | (go_at_call 18; refine hf4.mono ?_; rintro e w5 ⟨rfl, hb45⟩; have hown5 := own_below hb45 hown4; have p2 := (hown5.cellAt (i * 3 + 2) (by omega)).trans (flat_at tmV 3 (fun _ => rfl) T i t HI.out 2 (by decide)); simp [tmV] at p2; have p3 := hown5.frozenAt (i * 3 + 2)))
        go_ret
        have hs2 := hb2.size
        have hb4 : Below w.heap.size w w4 := hb1.trans ((hb2.mono (by omega)).trans (hw24.mono (by omega)))
        have hg := (hown4.lt g4 rfl).1
        have hb5 : Below w.heap.size w (w5.setCell ⟨g4, i * 3 + 2, none⟩ (.bool false)) := (hb4.trans (hb45.mono hb4.size)).setCell (p := ⟨g4, i * 3 + 2, none⟩) (by show w.heap.size ≤ g4; omega) _
        have hown6 := (hown5.stored (i * 3 + 2) (.bool false)).1
        rw [← flat_set tmV 3 (fun _ => rfl) T i t { t with live := false } HI.out 2 (.bool false) (by decide) rfl] at hown6
        rw [HD.out]
        exact ⟨some ⟨g4, 0, none⟩, c4, by simp, SR.of_own hown6 (fun q => G q ∨ w.heap.size ≤ q) (fun q hq => .inr (Nat.le_trans (by omega) (hown6.lt q hq).1)), hb5⟩
end Go.Proofs.Ytoikjokdabpmoaa
