/- The reference's comparisons, walked where both sides read alike. -/
import Derived.Test.YtlabnbfcjpggeaaOpen
namespace Go.Proofs.Ytlabnbfcjpggeaa
open Go.RowKit Go.Maps

theorem sr_at {α : Type} (f : α → List Value) (k : Nat) (hk : ∀ x, (f x).length = k) (hk0 : 0 < k) {w wr : World} {G : Nat → Prop} {A : Option Addr} {l : List α} {i : Nat} {x : α} (h : SR w G A (l.flatMap f)) (hb : Below w.heap.size w wr) (hi : l[i]? = some x) :
    ∃ b off, A = some ⟨b, off, none⟩ ∧ b < w.heap.size ∧ G b ∧ ∀ j v, (f x)[j]? = some v → wr.cell? ⟨b, off + i * k + j, none⟩ = some v := by
  have hlt := (List.getElem?_eq_some_iff.1 hi).1
  obtain ⟨b, off, hA, hG, hbl, hc⟩ := h (by rw [flat_length f k hk]; exact Nat.mul_pos (by omega) hk0)
  obtain ⟨b', off', hA', _, _, hc'⟩ := (h.below hb) (by rw [flat_length f k hk]; exact Nat.mul_pos (by omega) hk0)
  rw [hA] at hA'
  injection hA' with hA'
  injection hA' with h1 h2
  subst h1 h2
  refine ⟨b, off, hA, hbl, hG, fun j v hj => ?_⟩
  have hj' : j < k := by have := (List.getElem?_eq_some_iff.1 hj).1; rw [hk] at this; exact this
  rw [Nat.add_assoc]
  exact hc' (i * k + j) v ((flat_at f k hk l i x hi j hj').trans hj)

theorem ne_due (a1 a2 a3 : Int) (W : World) : (binOp .neq 39 (.agg #[.int .u64 a1, .int .i64 a2, .int .u64 a3]) (.agg #[.int .u64 a1, .int .i64 a2, .int .u64 a3])).run Try.prog W = .ok (.bool false) W := by
  have u3 := Try.underlying3
  have u29 := Try.underlying29
  have hS : Try.prog.underlying 39 = some (.struct (Try.prog.fieldsOf 39)) := by kernel_rfl
  have hp : Try.prog.stoodInHeld 39 = false := by kernel_rfl
  rw [run_neq_struct, show (10000 : Nat) = 9999 + 1 from rfl, run_equalIn_agg W 9999 39 _ _ hS hp]
  simp only [Program.fieldsOf, Try.underlying39]
  go_simp
theorem ne_act (a1 a2 a3 a4 : Int) (W : World) : (binOp .neq 34 (.agg #[.int .i64 a1, .int .u64 a2, .int .i64 a3, .int .i64 a4]) (.agg #[.int .i64 a1, .int .u64 a2, .int .i64 a3, .int .i64 a4])).run Try.prog W = .ok (.bool false) W := by
  have u3 := Try.underlying3
  have u29 := Try.underlying29
  have hS : Try.prog.underlying 34 = some (.struct (Try.prog.fieldsOf 34)) := by kernel_rfl
  have hp : Try.prog.stoodInHeld 34 = false := by kernel_rfl
  rw [run_neq_struct, show (10000 : Nat) = 9999 + 1 from rfl, run_equalIn_agg W 9999 34 _ _ hS hp]
  simp only [Program.fieldsOf, Try.underlying34]
  go_simp
theorem eq_call (a1 a2 a3 a4 a5 : Int) (W : World) : (binOp .eql 31 (.agg #[.int .i64 a1, .int .i64 a2, .int .u64 a3, .int .u64 a4, .int .i64 a5]) (.agg #[.int .i64 a1, .int .i64 a2, .int .u64 a3, .int .u64 a4, .int .i64 a5])).run Try.prog W = .ok (.bool true) W := by
  have u3 := Try.underlying3
  have u29 := Try.underlying29
  have hS : Try.prog.underlying 31 = some (.struct (Try.prog.fieldsOf 31)) := by kernel_rfl
  have hp : Try.prog.stoodInHeld 31 = false := by kernel_rfl
  rw [run_eql_struct, show (10000 : Nat) = 9999 + 1 from rfl, run_equalIn_agg W 9999 31 _ _ hS hp]
  simp only [Program.fieldsOf, Try.underlying31]
  go_simp
theorem actGuard : Try.prog.eqGuardType Try.prog.depth 34 = false := by kernel_rfl
theorem callGuard : Try.prog.eqGuardType Try.prog.depth 31 = false := by kernel_rfl

def intsV (l : List Int) : List Value := l.flatMap fun x => [.int .i64 x]
set_option maxHeartbeats 1000000 in
theorem sameDue_any (l : List I3) (A B : Option Addr) (ca cb : Nat) (w : World) (hA : SR w (fun _ => True) A (duesV l)) (hB : SR w (fun _ => True) B (duesV l)) (hn : l.length * 24 ≤ 140737488355328) :
    Calls Try.prog 35 #[.slice A l.length ca, .slice B l.length cb] w fun e w' => e = .returned (.bool true) ∧ Below w.heap.size w w' := by
  have G := dueGuard
  go_enter Try.func35, Try.ntmps35
  go_wp2_with fail
  go_loopw [5] (fun v5 wr => ∃ i : Nat, i ≤ l.length ∧ v5 = .int .i64 i ∧ Below w.heap.size w wr) (fun v5 _ => l.length - (intOf v5).toNat)
  case atStart => exact ⟨0, Nat.zero_le _, rfl, Below.refl _ _⟩
  case round =>
    obtain ⟨i, hil, rfl, hbw⟩ := hrel
    by_cases hlt : i < l.length
    · obtain ⟨x, hx⟩ : ∃ x, l[i]? = some x := ⟨_, List.getElem?_eq_getElem hlt⟩
      obtain ⟨b, off, rfl, _, _, hc⟩ := sr_at dueV 3 (fun _ => rfl) (by decide) hA hbw hx
      obtain ⟨b', off', rfl, _, _, hc'⟩ := sr_at dueV 3 (fun _ => rfl) (by decide) hB hbw hx
      have q0 := hc 0 _ rfl
      rw [Nat.add_zero] at q0
      have q1 := hc 1 _ rfl
      have q2 := hc 2 _ rfl
      have p0 := hc' 0 _ rfl
      rw [Nat.add_zero] at p0
      have p1 := hc' 1 _ rfl
      have p2 := hc' 2 _ rfl
      have E := ne_due x.1 x.2.1 x.2.2
      have hi1 : (0 : Int) ≤ (i : Int) := Int.natCast_nonneg _
      have hi2 : (i : Int) < (l.length : Int) := by omega
      clear hc hc' hx
      go_wp2_with fail
      go_region
      go_wp2_with fail
      go_roundw
      case rel => exact ⟨i + 1, by omega, by go_num, hbw.drew⟩
      case measure => simp [intOf]; omega
    · obtain rfl : i = l.length := by omega
      go_wp2_with fail
      go_ret
      exact ⟨rfl, hbw⟩
set_option maxHeartbeats 1000000 in
theorem sameAct_any (l : List I4) (A B : Option Addr) (ca cb : Nat) (w : World) (hA : SR w (fun _ => True) A (actsV l)) (hB : SR w (fun _ => True) B (actsV l)) (hn : l.length * 24 ≤ 140737488355328) :
    Calls Try.prog 30 #[.slice A l.length ca, .slice B l.length cb] w fun e w' => e = .returned (.bool true) ∧ Below w.heap.size w w' := by
  have G := actGuard
  go_enter Try.func30, Try.ntmps30
  go_wp2_with fail
  go_loopw [5] (fun v5 wr => ∃ i : Nat, i ≤ l.length ∧ v5 = .int .i64 i ∧ Below w.heap.size w wr) (fun v5 _ => l.length - (intOf v5).toNat)
  case atStart => exact ⟨0, Nat.zero_le _, rfl, Below.refl _ _⟩
  case round =>
    obtain ⟨i, hil, rfl, hbw⟩ := hrel
    by_cases hlt : i < l.length
    · obtain ⟨x, hx⟩ : ∃ x, l[i]? = some x := ⟨_, List.getElem?_eq_getElem hlt⟩
      obtain ⟨b, off, rfl, _, _, hc⟩ := sr_at actV 4 (fun _ => rfl) (by decide) hA hbw hx
      obtain ⟨b', off', rfl, _, _, hc'⟩ := sr_at actV 4 (fun _ => rfl) (by decide) hB hbw hx
      have q0 := hc 0 _ rfl
      rw [Nat.add_zero] at q0
      have q1 := hc 1 _ rfl
      have q2 := hc 2 _ rfl
      have q3 := hc 3 _ rfl
      have p0 := hc' 0 _ rfl
      rw [Nat.add_zero] at p0
      have p1 := hc' 1 _ rfl
      have p2 := hc' 2 _ rfl
      have p3 := hc' 3 _ rfl
      have E := ne_act x.1 x.2.1 x.2.2.1 x.2.2.2
      have hi1 : (0 : Int) ≤ (i : Int) := Int.natCast_nonneg _
      have hi2 : (i : Int) < (l.length : Int) := by omega
      clear hc hc' hx
      go_wp2_with fail
      go_region
      go_wp2_with fail
      go_roundw
      case rel => exact ⟨i + 1, by omega, by go_num, hbw.drew⟩
      case measure => simp [intOf]; omega
    · obtain rfl : i = l.length := by omega
      go_wp2_with fail
      go_ret
      exact ⟨rfl, hbw⟩
set_option maxHeartbeats 1000000 in
theorem sameInt_any (l : List Int) (A B : Option Addr) (ca cb : Nat) (w : World) (hA : SR w (fun _ => True) A (intsV l)) (hB : SR w (fun _ => True) B (intsV l)) (hn : l.length * 24 ≤ 140737488355328) :
    Calls Try.prog 15 #[.slice A l.length ca, .slice B l.length cb] w fun e w' => e = .returned (.bool true) ∧ Below w.heap.size w w' := by
  go_enter Try.func15, Try.ntmps15
  go_wp2_with fail
  go_loopw [5] (fun v5 wr => ∃ i : Nat, i ≤ l.length ∧ v5 = .int .i64 i ∧ Below w.heap.size w wr) (fun v5 _ => l.length - (intOf v5).toNat)
  case atStart => exact ⟨0, Nat.zero_le _, rfl, Below.refl _ _⟩
  case round =>
    obtain ⟨i, hil, rfl, hbw⟩ := hrel
    by_cases hlt : i < l.length
    · obtain ⟨x, hx⟩ : ∃ x, l[i]? = some x := ⟨_, List.getElem?_eq_getElem hlt⟩
      obtain ⟨b, off, rfl, _, _, hc⟩ := sr_at (fun (x : Int) => [Value.int .i64 x]) 1 (fun _ => rfl) (by decide) hA hbw hx
      obtain ⟨b', off', rfl, _, _, hc'⟩ := sr_at (fun (x : Int) => [Value.int .i64 x]) 1 (fun _ => rfl) (by decide) hB hbw hx
      have q0 := hc 0 _ rfl
      rw [Nat.add_zero, Nat.mul_one] at q0
      have p0 := hc' 0 _ rfl
      rw [Nat.add_zero, Nat.mul_one] at p0
      have hi1 : (0 : Int) ≤ (i : Int) := Int.natCast_nonneg _
      have hi2 : (i : Int) < (l.length : Int) := by omega
      clear hc hc' hx
      go_wp2_with fail
      go_region
      go_wp2_with fail
      go_roundw
      case rel => exact ⟨i + 1, by omega, by go_num, hbw.drew⟩
      case measure => simp [intOf]; omega
    · obtain rfl : i = l.length := by omega
      go_wp2_with fail
      go_ret
      exact ⟨rfl, hbw⟩
end Go.Proofs.Ytlabnbfcjpggeaa
