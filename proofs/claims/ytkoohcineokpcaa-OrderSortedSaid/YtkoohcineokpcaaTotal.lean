/- OrderTotal, walked: it answers true. -/
import Derived.Test.YtkoohcineokpcaaCmp
import Derived.Below
import Derived.Deep.RegionHeld3
import Derived.Deep.DeepCutAuto
import Derived.Laws.StructEq
namespace Go.Proofs.Ytkoohcineokpcaa
open Go.RowKit

/-- New blocks, and draws: no more. -/
def Gr (w w' : World) : Prop := ∃ q os, w' = Sort.grow (w.drewN q) os
theorem Gr.below {w w' : World} (h : Gr w w') : Below w.heap.size w w' := by
  obtain ⟨q, os, rfl⟩ := h
  refine ⟨rfl, rfl, rfl, by simp, fun j hj => ?_⟩
  show (w.heap ++ os)[j]? = _
  rw [Array.getElem?_append_left hj]
theorem Gr.cell {w w' : World} (h : Gr w w') {b o : Nat} (hb : b < w.heap.size) : w'.cell? ⟨b, o, none⟩ = w.cell? ⟨b, o, none⟩ := h.below.cell (p := ⟨b, o, none⟩) hb
theorem Gr.size {w w' : World} (h : Gr w w') : w.heap.size ≤ w'.heap.size := h.below.size

theorem Gr.refl (w : World) : Gr w w := ⟨0, #[], by simp [World.drewN]⟩
theorem drewN_grow (w : World) (os : Array Obj) (q : Nat) : (Sort.grow w os).drewN q = Sort.grow (w.drewN q) os := rfl
theorem Gr.trans {a b c : World} (h : Gr a b) (k : Gr b c) : Gr a c := by
  obtain ⟨q, os, rfl⟩ := h
  obtain ⟨q', os', rfl⟩ := k
  exact ⟨q + q', os ++ os', by rw [drewN_grow, Sort.grow_grow, World.drewN_drewN]⟩

theorem Cmp_is {x1 x2 y1 y2 r : Int} (h : ck (x1, x2) (y1, y2) = r) (w : World) : Calls Try.prog 6 #[.agg #[.int .i64 x1, .int .u64 x2], .agg #[.int .i64 y1, .int .u64 y2]] w fun e w' =>
    e = .returned (.int .i64 r) ∧ Gr w w' := by
  subst h
  exact Cmp_any (x1, x2) (y1, y2) w

theorem awake_any (w : World) : Calls Try.prog 7 #[] w fun e w' => e = .returned (.bool true) ∧ Gr w w' := by
  have h1 := fun w => Cmp_is (x1 := 5) (x2 := 9) (y1 := 6) (y2 := 0) (r := -1) (by decide) w
  have h2 := fun w => Cmp_is (x1 := 5) (x2 := 9) (y1 := 5) (y2 := 8) (r := 1) (by decide) w
  go_enter Try.func7, Try.ntmps7
  go_wp2_with fail
  refine (h1 _).mono ?_
  rintro e w1 ⟨rfl, g1⟩
  go_wp2_with fail
  refine (h2 _).mono ?_
  rintro e w2 ⟨rfl, g2⟩
  go_wp2_with fail
  go_ret
  exact ⟨rfl, g1.trans g2⟩

theorem eq_key (a1 a2 b1 b2 : Int) (W : World) : (binOp .eql 24 (.agg #[.int .i64 a1, .int .u64 a2]) (.agg #[.int .i64 b1, .int .u64 b2])).run Try.prog W = .ok (.bool (a1 == b1 && a2 == b2)) W := by
  have u3 := Try.underlying3
  have u22 := Try.underlying22
  have hS : Try.prog.underlying 24 = some (.struct (Try.prog.fieldsOf 24)) := by kernel_rfl
  have hp : Try.prog.stoodInHeld 24 = false := by kernel_rfl
  rw [run_eql_struct, show (10000 : Nat) = 9999 + 1 from rfl, run_equalIn_agg W 9999 24 _ _ hS hp]
  simp only [Program.fieldsOf, Try.underlying24]
  go_simp
  by_cases h1 : a1 = b1 <;> by_cases h2 : a2 = b2 <;> simp [h1, h2]

theorem keyGuard : Try.prog.eqGuardType Try.prog.depth 24 = false := by kernel_rfl

/-- What a region of OrderTotal keeps. -/
theorem keep7 {w0 w w' : World} {n : Nat} {u0 u1 u2 u3 u4 u5 : Value}
    (h : w.cell? ⟨n, 0, none⟩ = some u0 ∧ w.cell? ⟨n, 1, none⟩ = some u1 ∧ w.cell? ⟨n + 1, 0, none⟩ = some u2 ∧ w.cell? ⟨n + 1, 1, none⟩ = some u3 ∧ w.cell? ⟨n + 2, 0, none⟩ = some u4 ∧ w.cell? ⟨n + 2, 1, none⟩ = some u5 ∧ n + 3 ≤ w.heap.size ∧ Below n w0 w)
    (hg : Gr w w') :
    w'.cell? ⟨n, 0, none⟩ = some u0 ∧ w'.cell? ⟨n, 1, none⟩ = some u1 ∧ w'.cell? ⟨n + 1, 0, none⟩ = some u2 ∧ w'.cell? ⟨n + 1, 1, none⟩ = some u3 ∧ w'.cell? ⟨n + 2, 0, none⟩ = some u4 ∧ w'.cell? ⟨n + 2, 1, none⟩ = some u5 ∧ n + 3 ≤ w'.heap.size ∧ Below n w0 w' := by
  obtain ⟨h0, h1, h2, h3, h4, h5, h6, h7⟩ := h
  exact ⟨(hg.cell (by omega)).trans h0, (hg.cell (by omega)).trans h1, (hg.cell (by omega)).trans h2, (hg.cell (by omega)).trans h3, (hg.cell (by omega)).trans h4, (hg.cell (by omega)).trans h5, Nat.le_trans h6 hg.size, h7.trans (hg.below.mono (by omega))⟩

theorem start7 (w : World) (u0 u1 u2 u3 u4 u5 : Value) (t : TypeId) :
    let W := (((w.alloc (.cells #[u0, u1] t)).alloc (.cells #[u2, u3] t)).alloc (.cells #[u4, u5] t)).drew
    W.cell? ⟨w.heap.size, 0, none⟩ = some u0 ∧ W.cell? ⟨w.heap.size, 1, none⟩ = some u1 ∧ W.cell? ⟨w.heap.size + 1, 0, none⟩ = some u2 ∧ W.cell? ⟨w.heap.size + 1, 1, none⟩ = some u3 ∧ W.cell? ⟨w.heap.size + 2, 0, none⟩ = some u4 ∧ W.cell? ⟨w.heap.size + 2, 1, none⟩ = some u5 ∧ w.heap.size + 3 ≤ W.heap.size ∧ Below w.heap.size w W := by
  refine ⟨?_, ?_, ?_, ?_, ?_, ?_, by simp, ((((Below.refl _ _).alloc (Nat.le_refl _) _).alloc (by simp) _).alloc (by simp; omega) _).drew⟩
  all_goals go_simp

set_option maxHeartbeats 2000000 in
theorem total_gt (a1 a2 b1 b2 c1 c2 x y : Int) (w : World) (hx : ck (a1, a2) (b1, b2) = x) (hy : ck (b1, b2) (a1, a2) = y) (h : x = 1) (h' : y = -1) (hne : (a1 == b1 && a2 == b2) = false) :
    Calls Try.prog 3 #[.agg #[.int .i64 a1, .int .u64 a2], .agg #[.int .i64 b1, .int .u64 b2], .agg #[.int .i64 c1, .int .u64 c2]] w fun e w' =>
    e = .returned (.bool true) ∧ Below w.heap.size w w' := by
  have C1 := fun w => Cmp_is hx w
  have C2 := fun w => Cmp_is hy w
  have E := eq_key a1 a2 b1 b2
  rw [hne] at E
  have G := keyGuard
  clear hx hy hne
  subst h h'
  go_enter Try.func3, Try.ntmps3
  go_wp2_with fail
  go_region_held3 (fun w' => w'.cell? ⟨w.heap.size, 0, none⟩ = some (.int .i64 a1) ∧ w'.cell? ⟨w.heap.size, 1, none⟩ = some (.int .u64 a2) ∧ w'.cell? ⟨w.heap.size + 1, 0, none⟩ = some (.int .i64 b1) ∧ w'.cell? ⟨w.heap.size + 1, 1, none⟩ = some (.int .u64 b2) ∧ w'.cell? ⟨w.heap.size + 2, 0, none⟩ = some (.int .i64 c1) ∧ w'.cell? ⟨w.heap.size + 2, 1, none⟩ = some (.int .u64 c2) ∧ w.heap.size + 3 ≤ w'.heap.size ∧ Below w.heap.size w w')
    (first | exact keep7 (by assumption) hg | exact start7 w _ _ _ _ _ _ 24)
    (first | (go_at_call 6; (with_reducible refine (C1 _).mono ?_); rintro e w' ⟨rfl, hg⟩) | (go_at_call 6; (with_reducible refine (C2 _).mono ?_); rintro e w' ⟨rfl, hg⟩))
  all_goals go_split_ands
  all_goals go_wp2_with fail
  all_goals (refine (awake_any _).mono ?_; rintro e w3 ⟨rfl, hg3⟩; go_wp2_with fail; go_ret; exact ⟨rfl, Below.trans (by assumption) (hg3.below.mono (by omega))⟩)

set_option maxHeartbeats 2000000 in
theorem total_eq (a1 a2 c1 c2 : Int) (w : World) (hx : ck (a1, a2) (a1, a2) = 0) :
    Calls Try.prog 3 #[.agg #[.int .i64 a1, .int .u64 a2], .agg #[.int .i64 a1, .int .u64 a2], .agg #[.int .i64 c1, .int .u64 c2]] w fun e w' =>
    e = .returned (.bool true) ∧ Below w.heap.size w w' := by
  have C1 := fun w => Cmp_is hx w
  have E := eq_key a1 a2 a1 a2
  rw [show (a1 == a1 && a2 == a2) = true by simp] at E
  have G := keyGuard
  clear hx
  go_enter Try.func3, Try.ntmps3
  go_wp2_with fail
  go_region_held3 (fun w' => w'.cell? ⟨w.heap.size, 0, none⟩ = some (.int .i64 a1) ∧ w'.cell? ⟨w.heap.size, 1, none⟩ = some (.int .u64 a2) ∧ w'.cell? ⟨w.heap.size + 1, 0, none⟩ = some (.int .i64 a1) ∧ w'.cell? ⟨w.heap.size + 1, 1, none⟩ = some (.int .u64 a2) ∧ w'.cell? ⟨w.heap.size + 2, 0, none⟩ = some (.int .i64 c1) ∧ w'.cell? ⟨w.heap.size + 2, 1, none⟩ = some (.int .u64 c2) ∧ w.heap.size + 3 ≤ w'.heap.size ∧ Below w.heap.size w w')
    (first | exact keep7 (by assumption) hg | exact start7 w _ _ _ _ _ _ 24)
    (first | (go_at_call 6; (with_reducible refine (C1 _).mono ?_); rintro e w' ⟨rfl, hg⟩))
  all_goals go_split_ands
  all_goals go_wp2_with fail
  all_goals (refine (awake_any _).mono ?_; rintro e w3 ⟨rfl, hg3⟩; go_wp2_with fail; go_ret; exact ⟨rfl, Below.trans (by assumption) (hg3.below.mono (by omega))⟩)

set_option maxHeartbeats 2000000 in
theorem total_lt_ge (a1 a2 b1 b2 c1 c2 x y z : Int) (w : World) (hx : ck (a1, a2) (b1, b2) = x) (hy : ck (b1, b2) (a1, a2) = y) (hz : ck (b1, b2) (c1, c2) = z) (h : x = -1) (h' : y = 1) (hz0 : 0 ≤ z) (hne : (a1 == b1 && a2 == b2) = false) :
    Calls Try.prog 3 #[.agg #[.int .i64 a1, .int .u64 a2], .agg #[.int .i64 b1, .int .u64 b2], .agg #[.int .i64 c1, .int .u64 c2]] w fun e w' =>
    e = .returned (.bool true) ∧ Below w.heap.size w w' := by
  have C1 := fun w => Cmp_is hx w
  have C2 := fun w => Cmp_is hy w
  have C3 := fun w => Cmp_is hz w
  have E := eq_key a1 a2 b1 b2
  rw [hne] at E
  have G := keyGuard
  clear hx hy hz hne
  subst h h'
  go_enter Try.func3, Try.ntmps3
  go_wp2_with fail
  go_region_held3 (fun w' => w'.cell? ⟨w.heap.size, 0, none⟩ = some (.int .i64 a1) ∧ w'.cell? ⟨w.heap.size, 1, none⟩ = some (.int .u64 a2) ∧ w'.cell? ⟨w.heap.size + 1, 0, none⟩ = some (.int .i64 b1) ∧ w'.cell? ⟨w.heap.size + 1, 1, none⟩ = some (.int .u64 b2) ∧ w'.cell? ⟨w.heap.size + 2, 0, none⟩ = some (.int .i64 c1) ∧ w'.cell? ⟨w.heap.size + 2, 1, none⟩ = some (.int .u64 c2) ∧ w.heap.size + 3 ≤ w'.heap.size ∧ Below w.heap.size w w')
    (first | exact keep7 (by assumption) hg | exact start7 w _ _ _ _ _ _ 24)
    (first | (go_at_call 6; (with_reducible refine (C1 _).mono ?_); rintro e w' ⟨rfl, hg⟩) | (go_at_call 6; (with_reducible refine (C2 _).mono ?_); rintro e w' ⟨rfl, hg⟩))
  all_goals go_split_ands
  all_goals go_wp2_with fail
  all_goals (with_reducible refine (C3 _).mono ?_)
  all_goals (rintro e w2 ⟨rfl, hg2⟩; go_wp2_with fail)
  all_goals (refine (awake_any _).mono ?_; rintro e w3 ⟨rfl, hg3⟩; go_wp2_with fail; go_ret; exact ⟨rfl, Below.trans (Below.trans (by assumption) (hg2.below.mono (by omega))) (hg3.below.mono (by have := hg2.size; omega))⟩)

set_option maxHeartbeats 2000000 in
theorem total_lt_lt (a1 a2 b1 b2 c1 c2 x y z u : Int) (w : World) (hx : ck (a1, a2) (b1, b2) = x) (hy : ck (b1, b2) (a1, a2) = y) (hz : ck (b1, b2) (c1, c2) = z) (hu : ck (a1, a2) (c1, c2) = u) (h : x = -1) (h' : y = 1) (hz0 : z = -1) (hu0 : u = -1) (hne : (a1 == b1 && a2 == b2) = false) :
    Calls Try.prog 3 #[.agg #[.int .i64 a1, .int .u64 a2], .agg #[.int .i64 b1, .int .u64 b2], .agg #[.int .i64 c1, .int .u64 c2]] w fun e w' =>
    e = .returned (.bool true) ∧ Below w.heap.size w w' := by
  have C1 := fun w => Cmp_is hx w
  have C2 := fun w => Cmp_is hy w
  have C3 := fun w => Cmp_is hz w
  have C4 := fun w => Cmp_is hu w
  have E := eq_key a1 a2 b1 b2
  rw [hne] at E
  have G := keyGuard
  clear hx hy hz hu hne
  subst h h' hz0 hu0
  go_enter Try.func3, Try.ntmps3
  go_wp2_with fail
  go_region_held3 (fun w' => w'.cell? ⟨w.heap.size, 0, none⟩ = some (.int .i64 a1) ∧ w'.cell? ⟨w.heap.size, 1, none⟩ = some (.int .u64 a2) ∧ w'.cell? ⟨w.heap.size + 1, 0, none⟩ = some (.int .i64 b1) ∧ w'.cell? ⟨w.heap.size + 1, 1, none⟩ = some (.int .u64 b2) ∧ w'.cell? ⟨w.heap.size + 2, 0, none⟩ = some (.int .i64 c1) ∧ w'.cell? ⟨w.heap.size + 2, 1, none⟩ = some (.int .u64 c2) ∧ w.heap.size + 3 ≤ w'.heap.size ∧ Below w.heap.size w w')
    (first | exact keep7 (by assumption) hg | exact start7 w _ _ _ _ _ _ 24)
    (first | (go_at_call 6; (with_reducible refine (C1 _).mono ?_); rintro e w' ⟨rfl, hg⟩) | (go_at_call 6; (with_reducible refine (C2 _).mono ?_); rintro e w' ⟨rfl, hg⟩))
  all_goals go_split_ands
  all_goals go_wp2_with fail
  all_goals (with_reducible refine (C3 _).mono ?_)
  all_goals (rintro e w2 ⟨rfl, hg2⟩; have K := keep7 (w0 := w) (w := w') (n := w.heap.size) (u0 := .int .i64 a1) (u1 := .int .u64 a2) (u2 := .int .i64 b1) (u3 := .int .u64 b2) (u4 := .int .i64 c1) (u5 := .int .u64 c2) ⟨by assumption, by assumption, by assumption, by assumption, by assumption, by assumption, by assumption, by assumption⟩ hg2; go_split_ands; go_wp2_with fail)
  all_goals (with_reducible refine (C4 _).mono ?_)
  all_goals (rintro e w4 ⟨rfl, hg4⟩; go_wp2_with fail)
  all_goals (refine (awake_any _).mono ?_; rintro e w3 ⟨rfl, hg3⟩; go_wp2_with fail; go_ret; exact ⟨rfl, Below.trans (Below.trans (by assumption) (hg4.below.mono (by omega))) (hg3.below.mono (by have := hg4.size; omega))⟩)

end Go.Proofs.Ytkoohcineokpcaa
