/- OrderTells, walked: it answers true. -/
import Derived.Test.YtkoohcineokpcaaSort
namespace Go.Proofs.Ytkoohcineokpcaa
open Go.RowKit

theorem keepT {w0 w w' : World} {n : Nat} {u0 u1 u2 u3 : Value}
    (h : w.cell? ⟨n, 0, none⟩ = some u0 ∧ w.cell? ⟨n, 1, none⟩ = some u1 ∧ w.cell? ⟨n + 1, 0, none⟩ = some u2 ∧ w.cell? ⟨n + 1, 1, none⟩ = some u3 ∧ n + 2 ≤ w.heap.size ∧ Below n w0 w)
    (hg : Below w.heap.size w w') :
    w'.cell? ⟨n, 0, none⟩ = some u0 ∧ w'.cell? ⟨n, 1, none⟩ = some u1 ∧ w'.cell? ⟨n + 1, 0, none⟩ = some u2 ∧ w'.cell? ⟨n + 1, 1, none⟩ = some u3 ∧ n + 2 ≤ w'.heap.size ∧ Below n w0 w' := by
  obtain ⟨h0, h1, h2, h3, h6, h7⟩ := h
  exact ⟨(hg.cell (p := ⟨n, 0, none⟩) (by simp; omega)).trans h0, (hg.cell (p := ⟨n, 1, none⟩) (by simp; omega)).trans h1, (hg.cell (p := ⟨n + 1, 0, none⟩) (by simp; omega)).trans h2, (hg.cell (p := ⟨n + 1, 1, none⟩) (by simp; omega)).trans h3, Nat.le_trans h6 hg.size, h7.trans (hg.mono (by omega))⟩
theorem startT (w : World) (u0 u1 u2 u3 : Value) (t : TypeId) :
    let W := ((w.alloc (.cells #[u0, u1] t)).alloc (.cells #[u2, u3] t)).drew
    W.cell? ⟨w.heap.size, 0, none⟩ = some u0 ∧ W.cell? ⟨w.heap.size, 1, none⟩ = some u1 ∧ W.cell? ⟨w.heap.size + 1, 0, none⟩ = some u2 ∧ W.cell? ⟨w.heap.size + 1, 1, none⟩ = some u3 ∧ w.heap.size + 2 ≤ W.heap.size ∧ Below w.heap.size w W := by
  refine ⟨?_, ?_, ?_, ?_, by simp, (((Below.refl _ _).alloc (Nat.le_refl _) _).alloc (by simp) _).drew⟩
  all_goals go_simp
theorem ksOf {w0 w : World} {n : Nat} {u0 u1 u2 u3 : Value} {A : Option Addr} {ks : List (Int × Int)} (hk : KS w0 n A ks)
    (h : w.cell? ⟨n, 0, none⟩ = some u0 ∧ w.cell? ⟨n, 1, none⟩ = some u1 ∧ w.cell? ⟨n + 1, 0, none⟩ = some u2 ∧ w.cell? ⟨n + 1, 1, none⟩ = some u3 ∧ n + 2 ≤ w.heap.size ∧ Below n w0 w) : KS w w.heap.size A ks :=
  (hk.below h.2.2.2.2.2).more (by omega)

set_option maxRecDepth 100000 in
set_option maxHeartbeats 8000000 in
theorem tells_any (A : Option Addr) (c : Nat) (ks : List (Int × Int)) (a1 a2 b1 b2 : Int) (w : World) (hn : ks.length ≤ 500) (hk : KS w w.heap.size A ks) :
    Calls Try.prog 5 #[.slice A ks.length c, .agg #[.int .i64 a1, .int .u64 a2], .agg #[.int .i64 b1, .int .u64 b2]] w fun e w' => e = .returned (.bool true) ∧ Below w.heap.size w w' := by
  have hd : ¬ (500 : Int) < (ks.length : Int) := by omega
  have hsl : (srt ks).length ≤ 1000 := by rw [srt_length]; omega
  go_enter Try.func5, Try.ntmps5
  go_wp2_with fail
  go_region_held3 (fun w' => w'.cell? ⟨w.heap.size, 0, none⟩ = some (.int .i64 a1) ∧ w'.cell? ⟨w.heap.size, 1, none⟩ = some (.int .u64 a2) ∧ w'.cell? ⟨w.heap.size + 1, 0, none⟩ = some (.int .i64 b1) ∧ w'.cell? ⟨w.heap.size + 1, 1, none⟩ = some (.int .u64 b2) ∧ w.heap.size + 2 ≤ w'.heap.size ∧ Below w.heap.size w w')
    (first | exact keepT (by assumption) hg | exact startT w _ _ _ _ 24)
    (first
      | (go_at_call 6; (with_reducible refine (Cmp_is rfl _).mono ?_); rintro e w' ⟨rfl, hgr⟩; have hg := hgr.below)
      | (go_at_call 11; (with_reducible refine (refCmp_any a1 a2 b1 b2 _).mono ?_); rintro e w' ⟨rfl, hgr⟩; have hg := hgr.below)
      | (go_at_call 10; (with_reducible refine (Place_any A c ks a1 a2 _ (by omega) (ksOf hk (by assumption))).mono ?_); rintro e w' ⟨rfl, hg⟩)
      | (go_at_call 12; (with_reducible refine (refPlace_any A c ks a1 a2 _ (by omega) (ksOf hk (by assumption))).mono ?_); rintro e w' ⟨rfl, hg⟩)
      | (go_at_call 13; (with_reducible refine (Rising_any A c ks _ (by omega) (ksOf hk (by assumption))).mono ?_); rintro e w' ⟨rfl, hg⟩)
      | (go_at_call 14; (with_reducible refine (refRising_any A c ks _ (by omega) (ksOf hk (by assumption))).mono ?_); rintro e w' ⟨rfl, hg⟩)
      | (go_at_call 8; (with_reducible refine (Sort_any A c ks _ (by omega) (ksOf hk (by assumption))).mono ?_); rintro e w' ⟨A1, c1, rfl, ho1, hg⟩; have hkS := KS.of_own ho1; (try have hkR2 := (hkR.below hg).more hg.size))
      | (go_at_call 15; (with_reducible refine (refSort_any A c ks _ (by omega) (ksOf hk (by assumption))).mono ?_); rintro e w' ⟨A2, c2, rfl, ho2, hg⟩; have hkR := KS.of_own ho2; (try have hkS2 := (hkS.below hg).more hg.size))
      | (go_at_call 9; (first | (with_reducible refine (Same_any A1 A2 c1 c2 (srt ks) (srt ks) _ hsl hsl hkS hkR2).mono ?_) | (with_reducible refine (Same_any A1 A2 c1 c2 (srt ks) (srt ks) _ hsl hsl hkS2 hkR).mono ?_)); rintro e w' ⟨rfl, hg⟩)
      | (go_at_call 7; (with_reducible refine (awake_any _).mono ?_); rintro e w' ⟨rfl, hgr⟩; have hg := hgr.below))
  all_goals go_split_ands
  all_goals go_wp2_with fail
  all_goals go_ret
  all_goals exact ⟨rfl, by assumption⟩

end Go.Proofs.Ytkoohcineokpcaa
