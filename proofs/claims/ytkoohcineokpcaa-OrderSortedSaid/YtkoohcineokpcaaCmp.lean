/- What order.Cmp, and what it calls, answers, in whatever memory. -/
import Derived.Test.YtkoohcineokpcaaProg
import Derived.WalkKit
import Derived.WalkSpells
import Derived.BigQuiet
import Derived.Deep.QuietTactic
import Derived.Sort.Grow
import Derived.KernelRfl
namespace Go.Proofs.Ytkoohcineokpcaa
open Go.RowKit

/-- Two numbers, held against each other. -/
def c3 (x y : Int) : Int := if x < y then -1 else if y < x then 1 else 0
theorem c3_lt {x y : Int} (h : x < y) : c3 x y = -1 := by unfold c3; rw [if_pos h]
theorem c3_gt {x y : Int} (h : y < x) : c3 x y = 1 := by unfold c3; rw [if_neg (by omega), if_pos h]
theorem c3_eq (x : Int) : c3 x x = 0 := by unfold c3; rw [if_neg (by omega), if_neg (by omega)]
theorem c3_cases (x y : Int) : (x < y ∧ c3 x y = -1) ∨ (y < x ∧ c3 x y = 1) ∨ (x = y ∧ c3 x y = 0) := by
  unfold c3; by_cases h : x < y
  · simp [h]
  · by_cases h2 : y < x
    · simp [h, h2]
    · simp [h, h2]; omega
/-- The first of two numbers that is not 0. -/
def f1 (a b : Int) : Int := if a = 0 then b else a
/-- Two keys, held against each other. -/
def ck (a b : Int × Int) : Int := f1 (c3 a.1 b.1) (c3 a.2 b.2)

theorem isNaN_int (x : Int) (w : World) : Calls Try.prog 26 #[.int .i64 x] w fun e w' => e = .returned (.bool false) ∧ w = w' := by
  go_enter Try.func26, Try.ntmps26
  go_wp2
  go_ret
  simp
theorem isNaN_uint (x : Int) (w : World) : Calls Try.prog 27 #[.int .u64 x] w fun e w' => e = .returned (.bool false) ∧ w = w' := by
  go_enter Try.func27, Try.ntmps27
  go_wp2
  go_ret
  simp

theorem compare_int (x y : Int) (w : World) : Calls Try.prog 22 #[.int .i64 x, .int .i64 y] w fun e w' => e = .returned (.int .i64 (c3 x y)) ∧ w = w' := by
  by_cases h : x < y
  · rw [c3_lt h]
    go_enter Try.func22, Try.ntmps22
    go_wp2_with (go_at_call 26; refine (isNaN_int _ _).mono ?_; rintro e w' ⟨rfl, rfl⟩)
    go_ret
    exact ⟨rfl, rfl⟩
  · by_cases h2 : y < x
    · rw [c3_gt h2]
      go_enter Try.func22, Try.ntmps22
      go_wp2_with (go_at_call 26; refine (isNaN_int _ _).mono ?_; rintro e w' ⟨rfl, rfl⟩)
      go_ret
      exact ⟨rfl, rfl⟩
    · obtain rfl : x = y := by omega
      rw [c3_eq]
      go_enter Try.func22, Try.ntmps22
      go_wp2_with (go_at_call 26; refine (isNaN_int _ _).mono ?_; rintro e w' ⟨rfl, rfl⟩)
      go_ret
      exact ⟨rfl, rfl⟩
theorem compare_uint (x y : Int) (w : World) : Calls Try.prog 23 #[.int .u64 x, .int .u64 y] w fun e w' => e = .returned (.int .i64 (c3 x y)) ∧ w = w' := by
  by_cases h : x < y
  · rw [c3_lt h]
    go_enter Try.func23, Try.ntmps23
    go_wp2_with (go_at_call 27; refine (isNaN_uint _ _).mono ?_; rintro e w' ⟨rfl, rfl⟩)
    go_ret
    exact ⟨rfl, rfl⟩
  · by_cases h2 : y < x
    · rw [c3_gt h2]
      go_enter Try.func23, Try.ntmps23
      go_wp2_with (go_at_call 27; refine (isNaN_uint _ _).mono ?_; rintro e w' ⟨rfl, rfl⟩)
      go_ret
      exact ⟨rfl, rfl⟩
    · obtain rfl : x = y := by omega
      rw [c3_eq]
      go_enter Try.func23, Try.ntmps23
      go_wp2_with (go_at_call 27; refine (isNaN_uint _ _).mono ?_; rintro e w' ⟨rfl, rfl⟩)
      go_ret
      exact ⟨rfl, rfl⟩

theorem hold_int (x y : Int) (w : World) : Calls Try.prog 17 #[.int .i64 x, .int .i64 y] w fun e w' => e = .returned (.int .i64 (c3 x y)) ∧ w = w' := by
  go_enter Try.func17, Try.ntmps17
  go_wp2_with (go_at_call 22; refine (compare_int _ _ _).mono ?_; rintro e w' ⟨rfl, rfl⟩)
  go_ret
  exact ⟨rfl, rfl⟩
theorem hold_uint (x y : Int) (w : World) : Calls Try.prog 18 #[.int .u64 x, .int .u64 y] w fun e w' => e = .returned (.int .i64 (c3 x y)) ∧ w = w' := by
  go_enter Try.func18, Try.ntmps18
  go_wp2_with (go_at_call 23; refine (compare_uint _ _ _).mono ?_; rintro e w' ⟨rfl, rfl⟩)
  go_ret
  exact ⟨rfl, rfl⟩

theorem first_any (a b : Int) (w : World) : Calls Try.prog 16 #[.int .i64 a, .int .i64 b] w fun e w' => e = .returned (.int .i64 (f1 a b)) ∧ w = w' := by
  by_cases h : a = 0
  · subst h
    rw [show f1 0 b = b from if_pos rfl]
    go_enter Try.func16, Try.ntmps16
    go_wp2
    go_ret
    exact ⟨rfl, rfl⟩
  · rw [show f1 a b = a from if_neg h]
    have h' : (a != 0) = true := by simpa using h
    go_enter Try.func16, Try.ntmps16
    go_wp2
    go_ret
    exact ⟨rfl, rfl⟩

/-- A key, as a value. -/
def kv (x : Int × Int) : Value := .agg #[.int .i64 x.1, .int .u64 x.2]

set_option maxHeartbeats 1000000 in
theorem Cmp_any (x y : Int × Int) (w : World) : Calls Try.prog 6 #[.agg #[.int .i64 x.1, .int .u64 x.2], .agg #[.int .i64 y.1, .int .u64 y.2]] w fun e w' =>
    e = .returned (.int .i64 (ck x y)) ∧ ∃ q os, w' = Sort.grow (w.drewN q) os := by
  obtain ⟨x1, x2⟩ := x
  obtain ⟨y1, y2⟩ := y
  have hck : ck (x1, x2) (y1, y2) = f1 (c3 x1 y1) (c3 x2 y2) := rfl
  rw [hck]
  clear hck
  go_enter Try.func6, Try.ntmps6
  go_wp2_with fail
  go_quiet (first
    | (go_at_call 17; exact Calls.quiet_of_same ((hold_int _ _ _).mono fun _ _ h => ⟨h.1, h.2.symm⟩))
    | (go_at_call 18; exact Calls.quiet_of_same ((hold_uint _ _ _).mono fun _ _ h => ⟨h.1, h.2.symm⟩))
    | (go_at_call 16; exact Calls.quiet_of_same ((first_any _ _ _).mono fun _ _ h => ⟨h.1, h.2.symm⟩)))
  go_wp2
  go_ret
  refine ⟨rfl, nq, #[.cells #[.int .i64 x1, .int .u64 x2] 24, .cells #[.int .i64 y1, .int .u64 y2] 24], ?_⟩
  rw [Sort.alloc_eq_grow, Sort.alloc_eq_grow, Sort.grow_grow]
  rfl

end Go.Proofs.Ytkoohcineokpcaa
