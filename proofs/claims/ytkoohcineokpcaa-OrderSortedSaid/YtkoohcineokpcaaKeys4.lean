/- What order.Rising and the document's Rising answer: the same. -/
import Derived.Test.YtkoohcineokpcaaKeys3
import Derived.IntWalk
namespace Go.Proofs.Ytkoohcineokpcaa
open Go.RowKit

/-- Does the key at place j + 1 lie above the one ahead of it? -/
def upAt (l : List (Int × Int)) (j : Nat) : Bool := ltk (l.getD j (0, 0)) (l.getD (j + 1) (0, 0))
/-- Is each key less than the one behind it? -/
def rises (l : List (Int × Int)) : Bool := (List.range (l.length - 1)).all (upAt l)
theorem rises_true {l : List (Int × Int)} (h : ∀ j, j + 1 < l.length → upAt l j = true) : rises l = true := by
  unfold rises; rw [List.all_eq_true]; intro j hj; exact h j (by rw [List.mem_range] at hj; omega)
theorem rises_false {l : List (Int × Int)} (j : Nat) (hj : j + 1 < l.length) (h : upAt l j = false) : rises l = false := by
  unfold rises; rw [← Bool.not_eq_true, List.all_eq_true]; intro hh; rw [hh j (by rw [List.mem_range]; omega)] at h; cases h
theorem upAt_of {l : List (Int × Int)} {j : Nat} (h : j + 1 < l.length) : upAt l j = ltk ((l[j]'(by omega)).1, (l[j]'(by omega)).2) (l[j + 1].1, l[j + 1].2) := by
  unfold upAt; rw [List.getD_eq_getElem?_getD, List.getD_eq_getElem?_getD, List.getElem?_eq_getElem h, List.getElem?_eq_getElem (by omega : j < l.length)]; rfl

theorem drewN_below {B : Nat} {w w' : World} (h : Below B w w') (n : Nat) : Below B w (w'.drewN n) := ⟨h.os, h.tape, h.output, h.size, h.block⟩
theorem ret_bool {a b : Bool} (h : a = b) : Ending.returned (.bool a) = .returned (.bool b) := by rw [h]

set_option maxHeartbeats 1000000 in
theorem refRising_any (A : Option Addr) (c : Nat) (ks : List (Int × Int)) (w : World) (hn : ks.length ≤ 1000) (hk : KS w w.heap.size A ks) :
    Calls Try.prog 14 #[.slice A ks.length c] w fun e w' => e = .returned (.bool (rises ks)) ∧ Below w.heap.size w w' := by
  go_enter Try.func14, Try.ntmps14
  go_wp2_with fail
  go_loopw [3] (fun v3 wr => ∃ k : Nat, 1 ≤ k ∧ v3 = .int .i64 k ∧ Hid (∀ j, j + 1 < k → j + 1 < ks.length → upAt ks j = true) ∧ Below w.heap.size w wr)
    (fun v3 _ => ks.length - (intOf v3).toNat)
  case atStart => exact ⟨1, Nat.le_refl _, rfl, Lib.hid (fun j h => absurd h (by omega)), Below.refl _ _⟩
  case round =>
    obtain ⟨k, hk1, rfl, Hup, hbl⟩ := hrel
    by_cases hlt : k < ks.length
    · obtain ⟨j, rfl⟩ : ∃ j, k = j + 1 := ⟨k - 1, by omega⟩
      obtain ⟨b, off, rfl, hb, hcs⟩ := hk.below hbl (by omega)
      obtain ⟨hx1, hx2⟩ := hcs j ks[j] (List.getElem?_eq_getElem (by omega))
      obtain ⟨hy1, hy2⟩ := hcs (j + 1) ks[j + 1] (List.getElem?_eq_getElem hlt)
      clear hcs hk
      have hbs := hbl.size
      have C := fun W => Less_is (a1 := ks[j].1) (a2 := ks[j].2) (b1 := ks[j + 1].1) (b2 := ks[j + 1].2) (upAt_of hlt).symm W
      have hi0 : (0 : Int) ≤ (j : Int) := Int.natCast_nonneg _
      have hi1 : (j : Int) + 1 < (ks.length : Int) := by omega
      have hl1 : (ks.length : Int) ≤ 1000 := by omega
      have hw1 : IntKind.i64.wrap (j : Int) = (j : Int) := IntWalk.i64_in _ (by omega)
      have hw2 : IntKind.i64.wrap ((j : Int) + 1) = (j : Int) + 1 := IntWalk.i64_in _ (by omega)
      have hw3 : ((j : Int) + 1).toNat = j + 1 := by omega
      have hw4 : (0 : Int) ≤ (j : Int) + 1 := by omega
      have hw5 : (j : Int) < (ks.length : Int) := by omega
      rcases Bool.eq_false_or_eq_true (upAt ks j) with hr | hr
      · rw [hr] at C
        have Hr := Lib.hid hr
        clear hr
        go_wp2_with fail
        go_region_held3 (fun w' => w'.cell? ⟨b, off + j * 2, none⟩ = some (.int .i64 ks[j].1) ∧ w'.cell? ⟨b, off + j * 2 + 1, none⟩ = some (.int .u64 ks[j].2) ∧ w'.cell? ⟨b, off + (j + 1) * 2, none⟩ = some (.int .i64 ks[j + 1].1) ∧ w'.cell? ⟨b, off + (j + 1) * 2 + 1, none⟩ = some (.int .u64 ks[j + 1].2) ∧ b < w'.heap.size ∧ b < w'.heap.size ∧ w.heap.size ≤ w'.heap.size ∧ Below w.heap.size w w')
          (first | exact keep4 (by assumption) hg | exact keep4_drew hx1 hx2 hy1 hy2 (by omega) (by omega) (by omega) hbl)
          (first | (go_at_call 21; (with_reducible refine (C _).mono ?_); rintro e w' ⟨rfl, hg⟩))
        go_split_ands
        go_wp2_with fail
        go_roundw
        case rel => exact ⟨j + 1 + 1, by omega, by go_num, Lib.hid (fun i h1 h2 => by
          rcases Nat.lt_or_ge i j with h | h
          · exact Hup.out i (by omega) h2
          · obtain rfl : i = j := by omega
            exact Hr.out), by assumption⟩
        case measure => simp [intOf]; omega
      · rw [hr] at C
        have Hr := Lib.hid (rises_false j hlt hr)
        clear hr
        go_wp2_with fail
        go_region_held3 (fun w' => w'.cell? ⟨b, off + j * 2, none⟩ = some (.int .i64 ks[j].1) ∧ w'.cell? ⟨b, off + j * 2 + 1, none⟩ = some (.int .u64 ks[j].2) ∧ w'.cell? ⟨b, off + (j + 1) * 2, none⟩ = some (.int .i64 ks[j + 1].1) ∧ w'.cell? ⟨b, off + (j + 1) * 2 + 1, none⟩ = some (.int .u64 ks[j + 1].2) ∧ b < w'.heap.size ∧ b < w'.heap.size ∧ w.heap.size ≤ w'.heap.size ∧ Below w.heap.size w w')
          (first | exact keep4 (by assumption) hg | exact keep4_drew hx1 hx2 hy1 hy2 (by omega) (by omega) (by omega) hbl)
          (first | (go_at_call 21; (with_reducible refine (C _).mono ?_); rintro e w' ⟨rfl, hg⟩))
        go_split_ands
        go_wp2_with fail
        go_ret
        exact ⟨ret_bool Hr.out.symm, by assumption⟩
    · have Hr := Lib.hid (rises_true (l := ks) (fun j h => Hup.out j (by omega) h))
      go_wp2_with fail
      go_ret
      exact ⟨ret_bool Hr.out.symm, hbl⟩

set_option maxHeartbeats 1000000 in
theorem Rising_any (A : Option Addr) (c : Nat) (ks : List (Int × Int)) (w : World) (hn : ks.length ≤ 1000) (hk : KS w w.heap.size A ks) :
    Calls Try.prog 13 #[.slice A ks.length c] w fun e w' => e = .returned (.bool (rises ks)) ∧ Below w.heap.size w w' := by
  go_enter Try.func13, Try.ntmps13
  go_wp2_with fail
  go_loopw [3, 6] (fun _ v6 wr => ∃ k : Nat, k ≤ ks.length ∧ v6 = .int .i64 k ∧ Hid (∀ j, j + 1 < k → j + 1 < ks.length → upAt ks j = true) ∧ Below w.heap.size w wr)
    (fun _ v6 _ => ks.length - (intOf v6).toNat)
  case atStart => exact ⟨0, Nat.zero_le _, rfl, Lib.hid (fun j h => absurd h (by omega)), Below.refl _ _⟩
  case round =>
    obtain ⟨k, hk1, rfl, Hup, hbl⟩ := hrel
    by_cases hlt : k < ks.length
    · rcases Nat.eq_zero_or_pos k with h0 | h0
      · subst h0
        have hd : decide ((0 : Int) < 0) = false := rfl
        go_wp2_with fail
        go_quiet (fail)
        go_wp2_with fail
        go_roundw
        case rel => exact ⟨1, by omega, by go_num, Lib.hid (fun j h => absurd h (by omega)), drewN_below hbl _⟩
        case measure => simp [intOf]; omega
      · obtain ⟨j, rfl⟩ : ∃ j, k = j + 1 := ⟨k - 1, by omega⟩
        obtain ⟨b, off, rfl, hb, hcs⟩ := hk.below hbl (by omega)
        obtain ⟨hx1, hx2⟩ := hcs j ks[j] (List.getElem?_eq_getElem (by omega))
        obtain ⟨hy1, hy2⟩ := hcs (j + 1) ks[j + 1] (List.getElem?_eq_getElem hlt)
        clear hcs hk
        have hbs := hbl.size
        have C := fun W => Cmp_is (x1 := ks[j].1) (x2 := ks[j].2) (y1 := ks[j + 1].1) (y2 := ks[j + 1].2) rfl W
        have hu : upAt ks j = decide (ck (ks[j].1, ks[j].2) (ks[j + 1].1, ks[j + 1].2) < 0) := upAt_of hlt
        generalize hr : ck (ks[j].1, ks[j].2) (ks[j + 1].1, ks[j + 1].2) = r at C hu
        clear hr
        have hi0 : (0 : Int) ≤ (j : Int) := Int.natCast_nonneg _
        have hi1 : (j : Int) + 1 < (ks.length : Int) := by omega
        have hl1 : (ks.length : Int) ≤ 1000 := by omega
        have hd : decide ((0 : Int) < (j : Int) + 1) = true := decide_eq_true (by omega)
        have hw1 : IntKind.i64.wrap (j : Int) = (j : Int) := IntWalk.i64_in _ (by omega)
        have hw2 : IntKind.i64.wrap ((j : Int) + 1) = (j : Int) + 1 := IntWalk.i64_in _ (by omega)
        have hw3 : ((j : Int) + 1).toNat = j + 1 := by omega
        have hw4 : (0 : Int) ≤ (j : Int) + 1 := by omega
        have hw5 : (j : Int) < (ks.length : Int) := by omega
        by_cases hr0 : r < 0
        · have Hr := Lib.hid (hu.trans (decide_eq_true hr0))
          clear hu
          go_wp2_with fail
          go_region_held3 (fun w' => w'.cell? ⟨b, off + j * 2, none⟩ = some (.int .i64 ks[j].1) ∧ w'.cell? ⟨b, off + j * 2 + 1, none⟩ = some (.int .u64 ks[j].2) ∧ w'.cell? ⟨b, off + (j + 1) * 2, none⟩ = some (.int .i64 ks[j + 1].1) ∧ w'.cell? ⟨b, off + (j + 1) * 2 + 1, none⟩ = some (.int .u64 ks[j + 1].2) ∧ b < w'.heap.size ∧ b < w'.heap.size ∧ w.heap.size ≤ w'.heap.size ∧ Below w.heap.size w w')
            (first | exact keep4 (by assumption) hg | exact keep4_drew hx1 hx2 hy1 hy2 (by omega) (by omega) (by omega) hbl)
            (first | (go_at_call 6; (with_reducible refine (C _).mono ?_); rintro e w' ⟨rfl, hg⟩))
          go_split_ands
          go_wp2_with fail
          go_roundw
          case rel => exact ⟨j + 1 + 1, by omega, by go_num, Lib.hid (fun i h1 h2 => by
            rcases Nat.lt_or_ge i j with h | h
            · exact Hup.out i (by omega) h2
            · obtain rfl : i = j := by omega
              exact Hr.out), by assumption⟩
          case measure => simp [intOf]; omega
        · have Hr := Lib.hid (rises_false j hlt (hu.trans (decide_eq_false hr0)))
          clear hu
          go_wp2_with fail
          go_region_held3 (fun w' => w'.cell? ⟨b, off + j * 2, none⟩ = some (.int .i64 ks[j].1) ∧ w'.cell? ⟨b, off + j * 2 + 1, none⟩ = some (.int .u64 ks[j].2) ∧ w'.cell? ⟨b, off + (j + 1) * 2, none⟩ = some (.int .i64 ks[j + 1].1) ∧ w'.cell? ⟨b, off + (j + 1) * 2 + 1, none⟩ = some (.int .u64 ks[j + 1].2) ∧ b < w'.heap.size ∧ b < w'.heap.size ∧ w.heap.size ≤ w'.heap.size ∧ Below w.heap.size w w')
            (first | exact keep4 (by assumption) hg | exact keep4_drew hx1 hx2 hy1 hy2 (by omega) (by omega) (by omega) hbl)
            (first | (go_at_call 6; (with_reducible refine (C _).mono ?_); rintro e w' ⟨rfl, hg⟩))
          go_split_ands
          go_wp2_with fail
          go_ret
          exact ⟨ret_bool Hr.out.symm, by assumption⟩
    · have Hr := Lib.hid (rises_true (l := ks) (fun j h => Hup.out j (by omega) h))
      go_wp2_with fail
      go_ret
      exact ⟨ret_bool Hr.out.symm, hbl⟩

end Go.Proofs.Ytkoohcineokpcaa
