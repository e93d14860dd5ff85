/- What the document's Less, Cmp, Place answer. -/
import Derived.Test.YtkoohcineokpcaaKeys
import Derived.Test.YtkoohcineokpcaaTotalProof
namespace Go.Proofs.Ytkoohcineokpcaa
open Go.RowKit

/-- Is a key less than another one? -/
def ltk (x y : Int × Int) : Bool := decide (ck x y < 0)
theorem ltk_iff (a1 a2 b1 b2 : Int) : ltk (a1, a2) (b1, b2) = true ↔ (a1 < b1 ∨ a1 = b1 ∧ a2 < b2) := by
  unfold ltk ck f1
  rcases c3_cases a1 b1 with ⟨h, e⟩ | ⟨h, e⟩ | ⟨h, e⟩ <;> rcases c3_cases a2 b2 with ⟨h', e'⟩ | ⟨h', e'⟩ | ⟨h', e'⟩ <;> simp [e, e'] <;> omega
theorem ltk_of {a1 a2 b1 b2 : Int} (h : a1 < b1 ∨ a1 = b1 ∧ a2 < b2) : ltk (a1, a2) (b1, b2) = true := (ltk_iff ..).2 h
theorem ltk_not {a1 a2 b1 b2 : Int} (h : ¬ (a1 < b1 ∨ a1 = b1 ∧ a2 < b2)) : ltk (a1, a2) (b1, b2) = false := by
  rw [← Bool.not_eq_true, ltk_iff]; exact h

set_option maxHeartbeats 1000000 in
theorem Less_any (a1 a2 b1 b2 : Int) (w : World) : Calls Try.prog 21 #[.agg #[.int .i64 a1, .int .u64 a2], .agg #[.int .i64 b1, .int .u64 b2]] w fun e w' =>
    e = .returned (.bool (ltk (a1, a2) (b1, b2))) ∧ Gr w w' := by
  have hgr : Gr w ((w.alloc (.cells #[.int .i64 a1, .int .u64 a2] 24)).alloc (.cells #[.int .i64 b1, .int .u64 b2] 24)) :=
    ⟨0, #[.cells #[.int .i64 a1, .int .u64 a2] 24, .cells #[.int .i64 b1, .int .u64 b2] 24], by rw [Sort.alloc_eq_grow, Sort.alloc_eq_grow, Sort.grow_grow]; rfl⟩
  by_cases h : a1 < b1
  · rw [ltk_of (.inl h)]
    go_enter Try.func21, Try.ntmps21
    go_wp2
    go_ret
    exact ⟨rfl, hgr⟩
  · by_cases h2 : a1 = b1
    · subst h2
      by_cases h3 : a2 < b2
      · rw [ltk_of (.inr ⟨rfl, h3⟩)]
        go_enter Try.func21, Try.ntmps21
        go_wp2
        go_ret
        exact ⟨rfl, hgr⟩
      · rw [ltk_not (by omega)]
        go_enter Try.func21, Try.ntmps21
        go_wp2
        go_ret
        exact ⟨rfl, hgr⟩
    · rw [ltk_not (by omega)]
      have h2' : (a1 == b1) = false := by simpa using h2
      go_enter Try.func21, Try.ntmps21
      go_wp2
      go_ret
      exact ⟨rfl, hgr⟩

theorem Less_is {a1 a2 b1 b2 : Int} {r : Bool} (h : ltk (a1, a2) (b1, b2) = r) (w : World) : Calls Try.prog 21 #[.agg #[.int .i64 a1, .int .u64 a2], .agg #[.int .i64 b1, .int .u64 b2]] w fun e w' =>
    e = .returned (.bool r) ∧ Gr w w' := by
  subst h; exact Less_any a1 a2 b1 b2 w

theorem two_boxes {w w1 : World} {u0 u1 u2 u3 : Value} {t : TypeId} (hg : Gr ((w.alloc (.cells #[u0, u1] t)).alloc (.cells #[u2, u3] t)) w1) :
    w1.cell? ⟨w.heap.size, 0, none⟩ = some u0 ∧ w1.cell? ⟨w.heap.size, 1, none⟩ = some u1 ∧ w1.cell? ⟨w.heap.size + 1, 0, none⟩ = some u2 ∧ w1.cell? ⟨w.heap.size + 1, 1, none⟩ = some u3 := by
  refine ⟨(hg.cell (by simp; omega)).trans ?_, (hg.cell (by simp; omega)).trans ?_, (hg.cell (by simp)).trans ?_, (hg.cell (by simp)).trans ?_⟩
  all_goals go_simp

set_option maxHeartbeats 1000000 in
theorem refCmp_any (a1 a2 b1 b2 : Int) (w : World) : Calls Try.prog 11 #[.agg #[.int .i64 a1, .int .u64 a2], .agg #[.int .i64 b1, .int .u64 b2]] w fun e w' =>
    e = .returned (.int .i64 (ck (a1, a2) (b1, b2))) ∧ Gr w w' := by
  have hgr : Gr w ((w.alloc (.cells #[.int .i64 a1, .int .u64 a2] 24)).alloc (.cells #[.int .i64 b1, .int .u64 b2] 24)) :=
    ⟨0, #[.cells #[.int .i64 a1, .int .u64 a2] 24, .cells #[.int .i64 b1, .int .u64 b2] 24], by rw [Sort.alloc_eq_grow, Sort.alloc_eq_grow, Sort.grow_grow]; rfl⟩
  rcases ck_cases a1 a2 b1 b2 with ⟨h, e⟩ | ⟨h, e⟩ | ⟨h, e⟩
  · rw [e]
    have C := fun W => Less_is (ltk_of h) W
    clear e
    go_enter Try.func11, Try.ntmps11
    go_wp2_with fail
    refine (C _).mono ?_
    rintro e w1 ⟨rfl, hg⟩
    go_wp2_with fail
    go_ret
    exact ⟨rfl, hgr.trans hg⟩
  · rw [e]
    have C := fun W => Less_is (r := false) (ltk_not (a1 := a1) (a2 := a2) (b1 := b1) (b2 := b2) (by omega)) W
    have C2 := fun W => Less_is (ltk_of (a1 := b1) (a2 := b2) (b1 := a1) (b2 := a2) (by omega)) W
    clear e
    go_enter Try.func11, Try.ntmps11
    go_wp2_with fail
    refine (C _).mono ?_
    rintro e w1 ⟨rfl, hg⟩
    obtain ⟨d0, d1, d2, d3⟩ := two_boxes hg
    go_wp2_with fail
    refine (C2 _).mono ?_
    rintro e w2 ⟨rfl, hg2⟩
    go_wp2_with fail
    go_ret
    exact ⟨rfl, (hgr.trans hg).trans hg2⟩
  · rw [e]
    obtain ⟨rfl, rfl⟩ := h
    have C := fun W => Less_is (r := false) (ltk_not (a1 := a1) (a2 := a2) (b1 := a1) (b2 := a2) (by omega)) W
    clear e
    go_enter Try.func11, Try.ntmps11
    go_wp2_with fail
    refine (C _).mono ?_
    rintro e w1 ⟨rfl, hg⟩
    obtain ⟨d0, d1, d2, d3⟩ := two_boxes hg
    go_wp2_with fail
    refine (C _).mono ?_
    rintro e w2 ⟨rfl, hg2⟩
    go_wp2_with fail
    go_ret
    exact ⟨rfl, (hgr.trans hg).trans hg2⟩

end Go.Proofs.Ytkoohcineokpcaa
