/- What the document's Place, both Risings, and the document's Same answer. -/
import Derived.Test.YtkoohcineokpcaaKeys2
namespace Go.Proofs.Ytkoohcineokpcaa
open Go.RowKit

theorem cnt_snoc_ltk (l : List (Int × Int)) (y x : Int × Int) : cnt (l ++ [y]) x = cnt l x + if ltk y x = true then 1 else 0 := by
  rw [cnt_snoc]; unfold ltk; simp

/-- What a region keeps that reads four cells. -/
theorem keep4 {w0 w w' : World} {n b o b' o' : Nat} {u0 u1 u2 u3 : Value}
    (h : w.cell? ⟨b, o, none⟩ = some u0 ∧ w.cell? ⟨b, o + 1, none⟩ = some u1 ∧ w.cell? ⟨b', o', none⟩ = some u2 ∧ w.cell? ⟨b', o' + 1, none⟩ = some u3 ∧ b < w.heap.size ∧ b' < w.heap.size ∧ n ≤ w.heap.size ∧ Below n w0 w)
    (hg : Gr w w') :
    w'.cell? ⟨b, o, none⟩ = some u0 ∧ w'.cell? ⟨b, o + 1, none⟩ = some u1 ∧ w'.cell? ⟨b', o', none⟩ = some u2 ∧ w'.cell? ⟨b', o' + 1, none⟩ = some u3 ∧ b < w'.heap.size ∧ b' < w'.heap.size ∧ n ≤ w'.heap.size ∧ Below n w0 w' := by
  obtain ⟨h0, h1, h2, h3, h4, h5, h6, h7⟩ := h
  have := hg.size
  exact ⟨(hg.cell h4).trans h0, (hg.cell h4).trans h1, (hg.cell h5).trans h2, (hg.cell h5).trans h3, by omega, by omega, by omega, h7.trans (hg.below.mono h6)⟩
theorem keep4_drew {w0 w : World} {n b o b' o' : Nat} {u0 u1 u2 u3 : Value}
    (h0 : w.cell? ⟨b, o, none⟩ = some u0) (h1 : w.cell? ⟨b, o + 1, none⟩ = some u1) (h2 : w.cell? ⟨b', o', none⟩ = some u2) (h3 : w.cell? ⟨b', o' + 1, none⟩ = some u3) (h4 : b < w.heap.size) (h5 : b' < w.heap.size) (h6 : n ≤ w.heap.size) (h7 : Below n w0 w) :
    w.drew.cell? ⟨b, o, none⟩ = some u0 ∧ w.drew.cell? ⟨b, o + 1, none⟩ = some u1 ∧ w.drew.cell? ⟨b', o', none⟩ = some u2 ∧ w.drew.cell? ⟨b', o' + 1, none⟩ = some u3 ∧ b < w.drew.heap.size ∧ b' < w.drew.heap.size ∧ n ≤ w.drew.heap.size ∧ Below n w0 w.drew :=
  ⟨h0, h1, h2, h3, h4, h5, h6, h7.drew⟩

set_option maxHeartbeats 1000000 in
theorem refPlace_any (A : Option Addr) (c : Nat) (ks : List (Int × Int)) (x1 x2 : Int) (w : World) (hn : ks.length ≤ 1000) (hk : KS w w.heap.size A ks) :
    Calls Try.prog 12 #[.slice A ks.length c, .agg #[.int .i64 x1, .int .u64 x2]] w fun e w' => e = .returned (.int .i64 (cnt ks (x1, x2) : Nat)) ∧ Below w.heap.size w w' := by
  go_enter Try.func12, Try.ntmps12
  go_wp2_with fail
  go_loopw [5, 6] (fun v5 v6 wr => ∃ k : Nat, k ≤ ks.length ∧ v6 = .int .i64 k ∧ v5 = .int .i64 (cnt (ks.take k) (x1, x2) : Nat) ∧ w.heap.size + 1 ≤ wr.heap.size ∧ wr.cell? ⟨w.heap.size, 0, none⟩ = some (.int .i64 x1) ∧ wr.cell? ⟨w.heap.size, 1, none⟩ = some (.int .u64 x2) ∧ Below w.heap.size w wr)
    (fun _ v6 _ => ks.length - (intOf v6).toNat)
  case atStart => exact ⟨0, Nat.zero_le _, rfl, rfl, by simp, by go_simp, by go_simp, (Below.refl _ _).alloc (Nat.le_refl _) _⟩
  case round =>
    obtain ⟨k, hkl, rfl, rfl, hsz, hc0, hc1, hbl⟩ := hrel
    by_cases hlt : k < ks.length
    · obtain ⟨b, off, rfl, hb, hcs⟩ := hk.below hbl (by omega)
      obtain ⟨hx1, hx2⟩ := hcs k ks[k] (List.getElem?_eq_getElem hlt)
      clear hcs hk
      have hcb : cnt (ks.take k) (x1, x2) ≤ 1000 := Nat.le_trans (cnt_le _ _) (by rw [List.length_take]; omega)
      have hs := cnt_snoc_ltk (ks.take k) (ks[k].1, ks[k].2) (x1, x2)
      rw [show (ks.take k ++ [(ks[k].1, ks[k].2)]) = ks.take (k + 1) from (List.take_succ_eq_append_getElem hlt).symm] at hs
      have Hs := Lib.hid hs
      clear hs
      have C := fun W => Less_is (a1 := ks[k].1) (a2 := ks[k].2) (b1 := x1) (b2 := x2) rfl W
      have hi0 : (0 : Int) ≤ (k : Int) := Int.natCast_nonneg _
      have hi1 : (k : Int) < (ks.length : Int) := by omega
      generalize hr : ltk (ks[k].1, ks[k].2) (x1, x2) = r at C Hs
      clear hr
      cases r
      all_goals
        go_wp2_with fail
        go_region_held3 (fun w' => w'.cell? ⟨b, off + k * 2, none⟩ = some (.int .i64 ks[k].1) ∧ w'.cell? ⟨b, off + k * 2 + 1, none⟩ = some (.int .u64 ks[k].2) ∧ w'.cell? ⟨w.heap.size, 0, none⟩ = some (.int .i64 x1) ∧ w'.cell? ⟨w.heap.size, 0 + 1, none⟩ = some (.int .u64 x2) ∧ b < w'.heap.size ∧ w.heap.size < w'.heap.size ∧ w.heap.size ≤ w'.heap.size ∧ Below w.heap.size w w')
          (first | exact keep4 (by assumption) hg | exact keep4_drew hx1 hx2 hc0 hc1 (by omega) (by omega) (by omega) hbl)
          (first | (go_at_call 21; (with_reducible refine (C _).mono ?_); rintro e w' ⟨rfl, hg⟩))
        go_split_ands
        go_wp2_with fail
        go_roundw
        case rel => exact ⟨k + 1, by omega, by go_num, by rw [Hs.out]; go_num, by omega, by assumption, by assumption, by assumption⟩
        case measure => simp [intOf]; omega
    · obtain rfl : k = ks.length := by omega
      rw [List.take_of_length_le (Nat.le_refl _)]
      go_wp2_with fail
      go_ret
      exact ⟨rfl, hbl⟩

end Go.Proofs.Ytkoohcineokpcaa
