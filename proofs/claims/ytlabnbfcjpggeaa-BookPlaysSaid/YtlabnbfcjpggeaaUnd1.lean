/- The comparison that the book's Under hands to the sort, walked. -/
import Derived.Test.YtlabnbfcjpggeaaOf
import Derived.BigQuiet
import Derived.Deep.QuietTactic
import Derived.Shelf.SlSortCmp.Insertion
import Derived.Shelf.SlIterI.Collect
namespace Go.Proofs.Ytlabnbfcjpggeaa
open Go.RowKit Go.Maps Go.Shelf

/-- The place that the map tells of a thread. -/
def plc (D : DataW Unit) (x : Int) : Int := match D.atKey (.int .i64 x) (.lit (.int .i64 0)) with
  | .lit (.int .i64 c) => c
  | _ => 0
theorem plc_of {D : DataW Unit} {x c : Int} (h : D.atKey (.int .i64 x) (.lit (.int .i64 0)) = .lit (.int .i64 c)) : plc D x = c := by unfold plc; rw [h]
def cmpI (a b : Int) : Int := if a < b then -1 else if b < a then 1 else 0

theorem isNaN_any (x : Int) (w : World) : Calls Try.prog 34 #[.int .i64 x] w fun e w' => e = .returned (.bool false) ∧ w = w' := by
  go_enter Try.func34, Try.ntmps34
  go_wp2
  go_ret
  exact ⟨by simp, rfl⟩

theorem compare_any (x y : Int) (w : World) : Calls Try.prog 28 #[.int .i64 x, .int .i64 y] w fun e w' => e = .returned (.int .i64 (cmpI x y)) ∧ w = w' := by
  have ret : ∀ {a b : Int}, a = b → Ending.returned (.int .i64 a) = .returned (.int .i64 b) := fun h => by rw [h]
  by_cases h : x < y
  · go_enter Try.func28, Try.ntmps28
    go_wp2_with (go_at_call 34; refine (isNaN_any _ _).mono ?_; rintro e w' ⟨rfl, rfl⟩)
    go_ret
    exact ⟨ret (by simp [cmpI, h]), rfl⟩
  · by_cases h2 : y < x
    · go_enter Try.func28, Try.ntmps28
      go_wp2_with (go_at_call 34; refine (isNaN_any _ _).mono ?_; rintro e w' ⟨rfl, rfl⟩)
      go_ret
      exact ⟨ret (by simp [cmpI, h, h2]), rfl⟩
    · go_enter Try.func28, Try.ntmps28
      go_wp2_with (go_at_call 34; refine (isNaN_any _ _).mono ?_; rintro e w' ⟨rfl, rfl⟩)
      go_ret
      exact ⟨ret (by unfold cmpI; rw [if_neg (by omega), if_neg (by omega)]), rfl⟩

/-- What the comparison reads. -/
structure UndAt (w : World) (bx bp bm n : Nat) (D : DataW Unit) : Prop where
  box : w.cell? ⟨bx, 0, none⟩ = some (.pointer (some ⟨bp, 0, none⟩))
  fld : w.cell? ⟨bp, 1, none⟩ = some (.map (some bm))
  map : w.ownsMap (H := Unit) Try.prog 3 (plainElem Try.prog 3) bm n D

theorem owns_drewN {w : World} {bm n : Nat} {D : DataW Unit} (h : w.ownsMap (H := Unit) Try.prog 3 (plainElem Try.prog 3) bm n D) (k : Nat) : (w.drewN k).ownsMap (H := Unit) Try.prog 3 (plainElem Try.prog 3) bm n D := h

theorem und_lookup {w : World} {bm n : Nat} {D : DataW Unit} (h : w.ownsMap (H := Unit) Try.prog 3 (plainElem Try.prog 3) bm n D) (x : Int) (hx : wf64 x) : (Instr.lookup 59 (.map (some bm)) (.int .i64 x) false).run Try.prog w = .ok (.int .i64 (plc D x)) w := by
  obtain ⟨c, h1, h2, _⟩ := h.lookup_int law Try.underlying59 Try.underlying3 (zeroE w) (keyOf_int_mk (P := Try.prog) Try.underlying3 hx)
  rw [plc_of h2]
  exact h1

set_option maxHeartbeats 1000000 in
theorem less_any {w : World} {bx bp bm n : Nat} {D : DataW Unit} (h : UndAt w bx bp bm n D) (x y : Int) (hx : wf64 x) (hy : wf64 y) :
    Calls Try.prog 27 #[.int .i64 x, .int .i64 y, .pointer (some ⟨bx, 0, none⟩)] w fun e w' => e = .returned (.int .i64 (cmpI (plc D x) (plc D y))) ∧ ∃ q, w' = w.drewN q := by
  have c0 := h.box
  have c1 := h.fld
  have lx := fun k => und_lookup (owns_drewN h.map k) x hx
  have ly := fun k => und_lookup (owns_drewN h.map k) y hy
  go_enter Try.func27, Try.ntmps27
  go_wp2_with fail
  go_quiet ((go_at_call 28; exact Calls.quiet_of_same ((compare_any _ _ _).mono fun e w' ⟨h1, h2⟩ => ⟨h1, h2.symm⟩)))
  go_wp2_with fail
  go_ret
  exact ⟨rfl, _, rfl⟩
end Go.Proofs.Ytlabnbfcjpggeaa
