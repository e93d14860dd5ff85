/- OrderTotal answers true at whatever three keys, and leaves what it was handed. No condition. -/
import Derived.Test.YtkoohcineokpcaaRows
import Derived.Test.YtkoohcineokpcaaTotal
import Derived.WalkKit
import Derived.ProofKit
import Derived.OpenShut
import Derived.ChangeOld
import Derived.Below
import Derived.Lib.SmallJoins
namespace Go.Proofs.Ytkoohcineokpcaa
open Go.ChangeShapes Go.WideShapes Go.ChangeAt Go.RowKit Go.Joins

theorem ck_cases (a1 a2 b1 b2 : Int) : ((a1 < b1 ∨ a1 = b1 ∧ a2 < b2) ∧ ck (a1, a2) (b1, b2) = -1) ∨ ((b1 < a1 ∨ a1 = b1 ∧ b2 < a2) ∧ ck (a1, a2) (b1, b2) = 1) ∨ ((a1 = b1 ∧ a2 = b2) ∧ ck (a1, a2) (b1, b2) = 0) := by
  unfold ck f1
  rcases c3_cases a1 b1 with ⟨h, e⟩ | ⟨h, e⟩ | ⟨h, e⟩ <;> rcases c3_cases a2 b2 with ⟨h', e'⟩ | ⟨h', e'⟩ | ⟨h', e'⟩ <;> simp [e, e'] <;> omega
theorem ck_of_lt {a1 a2 b1 b2 : Int} (h : a1 < b1 ∨ a1 = b1 ∧ a2 < b2) : ck (a1, a2) (b1, b2) = -1 := by
  rcases ck_cases a1 a2 b1 b2 with ⟨_, e⟩ | ⟨h', _⟩ | ⟨h', _⟩
  · exact e
  · omega
  · omega
theorem ck_of_gt {a1 a2 b1 b2 : Int} (h : b1 < a1 ∨ a1 = b1 ∧ b2 < a2) : ck (a1, a2) (b1, b2) = 1 := by
  rcases ck_cases a1 a2 b1 b2 with ⟨h', _⟩ | ⟨_, e⟩ | ⟨h', _⟩
  · omega
  · exact e
  · omega

theorem total_any (a1 a2 b1 b2 c1 c2 : Int) (w : World) :
    Calls Try.prog 3 #[.agg #[.int .i64 a1, .int .u64 a2], .agg #[.int .i64 b1, .int .u64 b2], .agg #[.int .i64 c1, .int .u64 c2]] w fun e w' =>
    e = .returned (.bool true) ∧ Below w.heap.size w w' := by
  rcases ck_cases a1 a2 b1 b2 with ⟨h, e⟩ | ⟨h, e⟩ | ⟨h, e⟩
  · have hne : (a1 == b1 && a2 == b2) = false := by simp; omega
    have e' : ck (b1, b2) (a1, a2) = 1 := ck_of_gt (by omega)
    rcases ck_cases b1 b2 c1 c2 with ⟨k, f⟩ | ⟨k, f⟩ | ⟨k, f⟩
    · exact total_lt_lt _ _ _ _ _ _ _ _ _ _ w e e' f (ck_of_lt (by omega)) rfl rfl rfl rfl hne
    · exact total_lt_ge _ _ _ _ _ _ _ _ _ w e e' f rfl rfl (by omega) hne
    · exact total_lt_ge _ _ _ _ _ _ _ _ _ w e e' f rfl rfl (by omega) hne
  · have hne : (a1 == b1 && a2 == b2) = false := by simp; omega
    exact total_gt _ _ _ _ _ _ _ _ w e (ck_of_lt (by omega)) rfl rfl hne
  · obtain ⟨rfl, rfl⟩ := h
    exact total_eq _ _ _ _ w e

theorem own : ownKnob Try.prog.godebug = none := by kernel_rfl
theorem laidOut : laidOutB Try.prog = true := by kernel_rfl
theorem cells24 : Try.prog.cellsOf 24 = 2 := by kernel_rfl

namespace orderTotal
set_option maxRecDepth 100000 in
theorem lifted (os : Os) (started : os.Started) (H : Type) (enc : TypeId × Value → H) :
    ReturnsInHanded {} Try.checked os 3 .any (Rows.orderTotalSpec.pre6 enc Try.prog Try.f3 Rows.orderTotalRow.domain false) (Rows.orderTotalSpec.post enc Try.prog Try.f3 false true false false) := by
  refine returnsInHanded_of_change (C := Try.checked) own started (by kernel_rfl) Try.func3
    (ChangeSpec.witness6 (enc := enc) (C := Try.checked) false ⟨#[], #[.agg #[.int .i64 0, .int .u64 0], .agg #[.int .i64 0, .int .u64 0], .agg #[.int .i64 0, .int .u64 0]], []⟩ 8 (by kernel_rfl) (by kernel_rfl) (by kernel_rfl) (by kernel_rfl)) ?_
  intro W base args ds gs before hval0 hW hcnd _
  have hval : ∀ (j : Nat) t v, Try.f3.params[j]? = some t → args[j]? = some v → Value.okWide Try.prog W .any base t v := hval0
  have hW' := hW
  obtain ⟨p, q, hA0, hV, rfl, hfz, hnd⟩ := hW
  have hA : DataW.TrodAll enc Try.prog W 0 (fun _ => true) true Try.f3.params.toList args.toList ds p := hA0
  rw [Try.params3] at hA hval
  obtain ⟨v0, vs0, d0, ds0, p0, q0, hargs, rfl, rfl, h0, r0⟩ := trodAll_cons hA
  obtain ⟨v1, vs1, d1, ds1, p1, q1, rfl, rfl, rfl, h1, r1⟩ := trodAll_cons r0
  obtain ⟨v2, vs2, d2, ds2, p2, q2, rfl, rfl, rfl, h2, r2⟩ := trodAll_cons r1
  obtain ⟨rfl, rfl, rfl⟩ := trodAll_nil r2
  obtain rfl : args = #[v0, v1, v2] := by cases args; simp_all
  obtain ⟨rfl, rfl⟩ := trodVars_none hV
  have k0 := h0
  have lt0 : ∀ x ∈ p0, x.block < W.heap.size := by obtain ⟨m, hm⟩ := k0; exact DataW.trod_lt m _ _ _ hm
  have k1 := h1
  have lt1 : ∀ x ∈ p1, x.block < W.heap.size := by obtain ⟨m, hm⟩ := k1; exact DataW.trod_lt m _ _ _ hm
  have k2 := h2
  have lt2 : ∀ x ∈ p2, x.block < W.heap.size := by obtain ⟨m, hm⟩ := k2; exact DataW.trod_lt m _ _ _ hm
  obtain ⟨a0, a1, y0, y1, m0, rfl, _, _, ha0, ha1⟩ := open_agg2 Try.underlying24 (by kernel_rfl) cells24 (hval 0 24 v0 rfl rfl) h0
  obtain ⟨b0, b1, z0, z1, m1, rfl, _, _, hb0, hb1⟩ := open_agg2 Try.underlying24 (by kernel_rfl) cells24 (hval 1 24 v1 rfl rfl) h1
  obtain ⟨c0, c1, u0, u1, m2, rfl, _, _, hc0, hc1⟩ := open_agg2 Try.underlying24 (by kernel_rfl) cells24 (hval 2 24 v2 rfl rfl) h2
  obtain ⟨n0, e0, _, _⟩ := DataW.trod_int Try.underlying3 ha0
  obtain ⟨n1, e1, _, _⟩ := DataW.trod_int Try.underlying22 ha1
  obtain ⟨n2, e2, _, _⟩ := DataW.trod_int Try.underlying3 hb0
  obtain ⟨n3, e3, _, _⟩ := DataW.trod_int Try.underlying22 hb1
  obtain ⟨n4, e4, _, _⟩ := DataW.trod_int Try.underlying3 hc0
  obtain ⟨n5, e5, _, _⟩ := DataW.trod_int Try.underlying22 hc1
  simp at e0 e1 e2 e3 e4 e5
  subst e0 e1 e2 e3 e4 e5
  clear hA0 hval0
  refine (total_any n0 n1 n2 n3 n4 n5 W).mono fun e W' ⟨he, bel⟩ => ?_
  subst he
  exact ⟨_, rfl, _, _, _, [], _, [], hW', trodAll_mk1 (shut_bool Try.underlying4 _), (trodAll_cons_mk (Below.trod laidOut (by kernel_rfl) (of_decide_eq_true (by kernel_rfl)) k0 bel lt0) (trodAll_cons_mk (Below.trod laidOut (by kernel_rfl) (of_decide_eq_true (by kernel_rfl)) k1 bel lt1) (trodAll_cons_mk (Below.trod laidOut (by kernel_rfl) (of_decide_eq_true (by kernel_rfl)) k2 bel lt2) trodAll_mk0))), rfl, bel.frame _, fun h => by cases h⟩

theorem proved : Rows.OrderTotalSaid :=
  OpenClaim.holds_of_wide 3 Try.f3 rfl rfl rfl rfl rfl rfl rfl ⟨rfl, rfl, rfl, rfl, rfl⟩ rfl rfl rfl rfl rfl (by kernel_rfl) Try.func3 (by kernel_rfl)
    (of_decide_eq_true (by kernel_rfl)) (by unfold Func.isWrapper; first | (rw [if_pos (by decide +kernel)]; kernel_rfl) | (rw [if_neg (by decide +kernel)]; exact ⟨rfl, rfl⟩))
    (fun os started H enc _ => lifted os started H enc)
end orderTotal
end Go.Proofs.Ytkoohcineokpcaa
