/- OrderTells answers true at whatever list and two keys, and leaves what it was handed. No condition. -/
import Derived.Test.YtkoohcineokpcaaTells
import Derived.Deep.SlicePairs
namespace Go.Proofs.Ytkoohcineokpcaa
open Go.ChangeShapes Go.WideShapes Go.ChangeAt Go.RowKit Go.Joins Go.Deep

theorem addr_of_cell {w : World} {a : Addr} {v : Value} (h : w.cell? a = some v) : ∃ b off, a = ⟨b, off, none⟩ := by
  obtain ⟨b, off, f⟩ := a
  obtain rfl : f = none := by simpa using World.cell?_spot h
  exact ⟨b, off, rfl⟩

theorem cells3 : Try.prog.cellsOf 3 = 1 := by kernel_rfl
theorem cells22 : Try.prog.cellsOf 22 = 1 := by kernel_rfl

/-- A slice of keys that came in, as the walks read it. -/
theorem open_keys {H : Type} {enc : TypeId × Value → H} {W : World} {A : Option Addr} {n c : Nat} {d : DataW H} {p : List MemPlace}
    (hj : DataW.Trod enc Try.prog W 0 (fun _ => true) true 28 (.slice A n c) d p) : ∃ ks : List (Int × Int), ks.length = n ∧ KS W W.heap.size A ks := by
  obtain ⟨fuel, hf⟩ := hj
  rcases open_slice_pairs Try.underlying28 Try.underlying24 cells24 rfl rfl cells3 cells22 hf with ⟨hcs, _⟩ | ⟨a, len, cap, m, k, V0, V1, D0, D1, P0, P1, hcs, _, hl, _, hm, _, hc⟩
  · simp [Value.cells] at hcs
    obtain ⟨rfl, rfl, rfl⟩ := hcs
    exact ⟨[], rfl, fun h => absurd h (by simp)⟩
  · simp [Value.cells] at hcs
    obtain ⟨rfl, rfl, rfl⟩ := hcs
    have hm' : n ≤ m := by simp at hm; omega
    have hi : ∀ i, i < n → ∃ x : Int × Int, W.cell? (a.add (i * 2)) = some (.int .i64 x.1) ∧ W.cell? (a.add (i * 2 + 1)) = some (.int .u64 x.2) := fun i hin => by
      obtain ⟨h0, h1, t0, t1⟩ := hc i (by omega)
      obtain ⟨x0, e0, _, _⟩ := DataW.trod_int Try.underlying3 t0
      obtain ⟨x1, e1, _, _⟩ := DataW.trod_int Try.underlying22 t1
      simp at e0 e1
      exact ⟨(x0, x1), by rw [h0, e0], by rw [h1, e1]⟩
    let f : Nat → Int × Int := fun i => if h : i < n then (hi i h).choose else (0, 0)
    have hfs : ∀ i, i < n → W.cell? (a.add (i * 2)) = some (.int .i64 (f i).1) ∧ W.cell? (a.add (i * 2 + 1)) = some (.int .u64 (f i).2) := fun i h => by
      simp only [f, dif_pos h]
      exact (hi i h).choose_spec
    refine ⟨(List.range n).map f, by simp, fun hn => ?_⟩
    simp at hn
    obtain ⟨b, off, ha⟩ := addr_of_cell (hfs 0 hn).1
    have ha0 : a = ⟨b, off, none⟩ := by rw [← ha]; simp [Addr.add]
    subst ha0
    refine ⟨b, off, rfl, ?_, fun k x hx => ?_⟩
    · have h := World.block_lt_of_cell? W _ (hfs 0 hn).1
      simpa [Addr.add] using h
    · have hk : k < n := by have := (List.getElem?_eq_some_iff.1 hx).1; simpa using this
      rw [List.getElem?_map, List.getElem?_range hk] at hx
      simp at hx
      subst hx
      obtain ⟨g0, g1⟩ := hfs k hk
      have e1 : ((⟨b, off, none⟩ : Addr).add (k * 2)) = ⟨b, off + k * 2, none⟩ := by unfold Addr.add; by_cases h0 : k * 2 = 0 <;> simp [h0]
      have e2 : ((⟨b, off, none⟩ : Addr).add (k * 2 + 1)) = ⟨b, off + k * 2 + 1, none⟩ := by unfold Addr.add; simp; omega
      rw [e1] at g0
      rw [e2] at g1
      exact ⟨g0, g1⟩

set_option maxHeartbeats 2000000 in
theorem tells_long (A : Option Addr) (n c : Nat) (a1 a2 b1 b2 : Int) (w : World) (hn : 500 < n) :
    Calls Try.prog 5 #[.slice A n c, .agg #[.int .i64 a1, .int .u64 a2], .agg #[.int .i64 b1, .int .u64 b2]] w fun e w' => e = .returned (.bool true) ∧ Below w.heap.size w w' := by
  have hd : (500 : Int) < (n : Int) := by omega
  go_enter Try.func5, Try.ntmps5
  go_wp2_with fail
  refine (awake_any _).mono ?_
  rintro e w1 ⟨rfl, hg⟩
  go_wp2_with fail
  go_ret
  exact ⟨rfl, (((Below.refl _ _).alloc (Nat.le_refl _) _).alloc (by simp) _).trans (hg.below.mono (by simp; omega))⟩

namespace orderTells
theorem walk (A : Option Addr) (n c : Nat) (ks : List (Int × Int)) (a1 a2 b1 b2 : Int) (w : World) (hl : ks.length = n) (hk : KS w w.heap.size A ks) :
    Calls Try.prog 5 #[.slice A n c, .agg #[.int .i64 a1, .int .u64 a2], .agg #[.int .i64 b1, .int .u64 b2]] w fun e w' => e = .returned (.bool true) ∧ Below w.heap.size w w' := by
  subst hl
  rcases Nat.lt_or_ge 500 ks.length with h | h
  · exact tells_long A _ c a1 a2 b1 b2 w h
  · exact tells_any A c ks a1 a2 b1 b2 w h hk

set_option maxRecDepth 100000 in
theorem lifted (os : Os) (started : os.Started) (H : Type) (enc : TypeId × Value → H) :
    ReturnsInHanded {} Try.checked os 5 .any (Rows.orderTellsSpec.pre6 enc Try.prog Try.f5 Rows.orderTellsRow.domain false) (Rows.orderTellsSpec.post enc Try.prog Try.f5 false true false false) := by
  refine returnsInHanded_of_change (C := Try.checked) own started (by kernel_rfl) Try.func5
    (ChangeSpec.witness6 (enc := enc) (C := Try.checked) false ⟨#[], #[.slice none 0 0, .agg #[.int .i64 0, .int .u64 0], .agg #[.int .i64 0, .int .u64 0]], []⟩ 8 (by kernel_rfl) (by kernel_rfl) (by kernel_rfl) (by kernel_rfl)) ?_
  intro W base args ds gs before hval0 hW hcnd _
  have hval : ∀ (j : Nat) t v, Try.f5.params[j]? = some t → args[j]? = some v → Value.okWide Try.prog W .any base t v := hval0
  have hW' := hW
  obtain ⟨p, q, hA0, hV, rfl, hfz, hnd⟩ := hW
  have hA : DataW.TrodAll enc Try.prog W 0 (fun _ => true) true Try.f5.params.toList args.toList ds p := hA0
  rw [Try.params5] at hA hval
  obtain ⟨v0, vs0, d0, ds0, p0, q0, hargs, rfl, rfl, h0, r0⟩ := trodAll_cons hA
  obtain ⟨v1, vs1, d1, ds1, p1, q1, rfl, rfl, rfl, h1, r1⟩ := trodAll_cons r0
  obtain ⟨v2, vs2, d2, ds2, p2, q2, rfl, rfl, rfl, h2, r2⟩ := trodAll_cons r1
  obtain ⟨rfl, rfl, rfl⟩ := trodAll_nil r2
  obtain rfl : args = #[v0, v1, v2] := by cases args; simp_all
  obtain ⟨rfl, rfl⟩ := trodVars_none hV
  have k0 := h0
  have lt0 : ∀ x ∈ p0, x.block < W.heap.size := by obtain ⟨m, hm⟩ := k0; exact DataW.trod_lt m _ _ _ hm
  have k1 := h1
  have lt1 : ∀ x ∈ p1, x.block < W.heap.size := by obtain ⟨m, hm⟩ := k1; exact DataW.trod_lt m _ _ _ hm
  have k2 := h2
  have lt2 : ∀ x ∈ p2, x.block < W.heap.size := by obtain ⟨m, hm⟩ := k2; exact DataW.trod_lt m _ _ _ hm
  obtain ⟨A, len, cap, rfl⟩ := okWide_slice Try.underlying28 (hval 0 28 v0 rfl rfl)
  obtain ⟨ks, hl, hk⟩ := open_keys h0
  obtain ⟨b0, b1, z0, z1, m1, rfl, _, _, hb0, hb1⟩ := open_agg2 Try.underlying24 (by kernel_rfl) cells24 (hval 1 24 v1 rfl rfl) h1
  obtain ⟨c0, c1, u0, u1, m2, rfl, _, _, hc0, hc1⟩ := open_agg2 Try.underlying24 (by kernel_rfl) cells24 (hval 2 24 v2 rfl rfl) h2
  obtain ⟨n2, e2, _, _⟩ := DataW.trod_int Try.underlying3 hb0
  obtain ⟨n3, e3, _, _⟩ := DataW.trod_int Try.underlying22 hb1
  obtain ⟨n4, e4, _, _⟩ := DataW.trod_int Try.underlying3 hc0
  obtain ⟨n5, e5, _, _⟩ := DataW.trod_int Try.underlying22 hc1
  simp at e2 e3 e4 e5
  subst e2 e3 e4 e5
  clear hA0 hval0
  refine (walk A len cap ks n2 n3 n4 n5 W hl hk).mono fun e W' ⟨he, bel⟩ => ?_
  subst he
  exact ⟨_, rfl, _, _, _, [], _, [], hW', trodAll_mk1 (shut_bool Try.underlying4 _), (trodAll_cons_mk (Below.trod laidOut (by kernel_rfl) (of_decide_eq_true (by kernel_rfl)) k0 bel lt0) (trodAll_cons_mk (Below.trod laidOut (by kernel_rfl) (of_decide_eq_true (by kernel_rfl)) k1 bel lt1) (trodAll_cons_mk (Below.trod laidOut (by kernel_rfl) (of_decide_eq_true (by kernel_rfl)) k2 bel lt2) trodAll_mk0))), rfl, bel.frame _, fun h => by cases h⟩

theorem proved : Rows.OrderTellsSaid :=
  OpenClaim.holds_of_wide 5 Try.f5 rfl rfl rfl rfl rfl rfl rfl ⟨rfl, rfl, rfl, rfl, rfl⟩ rfl rfl rfl rfl rfl (by kernel_rfl) Try.func5 (by kernel_rfl)
    (of_decide_eq_true (by kernel_rfl)) (by unfold Func.isWrapper; first | (rw [if_pos (by decide +kernel)]; kernel_rfl) | (rw [if_neg (by decide +kernel)]; exact ⟨rfl, rfl⟩))
    (fun os started H enc _ => lifted os started H enc)
end orderTells
end Go.Proofs.Ytkoohcineokpcaa
