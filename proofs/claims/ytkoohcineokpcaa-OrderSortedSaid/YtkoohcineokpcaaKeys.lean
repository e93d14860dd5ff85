/- Slices of keys, read; what order.Less, order.Place and their like answer. -/
import Derived.Test.YtkoohcineokpcaaTotal
import Derived.LoopTactic
import Derived.Laws.AppendOwn
import Derived.Laws.OwnMore
import Derived.Lib.Hide
namespace Go.Proofs.Ytkoohcineokpcaa
open Go.RowKit

/-- The cells of keys, one behind the other. -/
def kcells (ks : List (Int × Int)) : List Value := ks.flatMap fun x => [.int .i64 x.1, .int .u64 x.2]
theorem kcells_length (ks : List (Int × Int)) : (kcells ks).length = ks.length * 2 := by
  induction ks with
  | nil => rfl
  | cons x l ih => simp only [kcells, List.flatMap_cons, List.length_append, List.length_cons, List.length_nil] at *; omega
theorem kcells_append (a b : List (Int × Int)) : kcells (a ++ b) = kcells a ++ kcells b := by simp [kcells]
theorem kcells_at (ks : List (Int × Int)) (k : Nat) (x : Int × Int) (h : ks[k]? = some x) : (kcells ks)[k * 2]? = some (.int .i64 x.1) ∧ (kcells ks)[k * 2 + 1]? = some (.int .u64 x.2) := by
  induction ks generalizing k with
  | nil => simp at h
  | cons y l ih =>
    have e : kcells (y :: l) = [.int .i64 y.1, .int .u64 y.2] ++ kcells l := by simp [kcells]
    rw [e]
    cases k with
    | zero => simp at h; subst h; simp
    | succ k =>
      simp at h
      obtain ⟨h1, h2⟩ := ih k h
      rw [List.getElem?_append_right (by simp; omega), List.getElem?_append_right (by simp; omega)]
      simp only [List.length_cons, List.length_nil]
      rw [show (k + 1) * 2 - (0 + 1 + 1) = k * 2 from by omega, show (k + 1) * 2 + 1 - (0 + 1 + 1) = k * 2 + 1 from by omega]
      exact ⟨h1, h2⟩

/-- A slice of keys, as it reads: below block B. -/
def KS (w : World) (B : Nat) (A : Option Addr) (ks : List (Int × Int)) : Prop :=
  0 < ks.length → ∃ b off, A = some ⟨b, off, none⟩ ∧ b < B ∧ ∀ k x, ks[k]? = some x → w.cell? ⟨b, off + k * 2, none⟩ = some (.int .i64 x.1) ∧ w.cell? ⟨b, off + k * 2 + 1, none⟩ = some (.int .u64 x.2)
theorem KS.below {w w' : World} {B : Nat} {A : Option Addr} {ks : List (Int × Int)} (h : KS w B A ks) (hb : Below B w w') : KS w' B A ks := fun hn => by
  obtain ⟨b, off, e, hlt, hc⟩ := h hn
  exact ⟨b, off, e, hlt, fun k x hx => ⟨(hb.cell (p := ⟨b, _, none⟩) hlt).trans (hc k x hx).1, (hb.cell (p := ⟨b, _, none⟩) hlt).trans (hc k x hx).2⟩⟩
theorem KS.more {w : World} {B B' : Nat} {A : Option Addr} {ks : List (Int × Int)} (h : KS w B A ks) (hB : B ≤ B') : KS w B' A ks := fun hn => by
  obtain ⟨b, off, e, hlt, hc⟩ := h hn
  exact ⟨b, off, e, by omega, hc⟩

/-- How many keys are less than one. -/
def cnt (l : List (Int × Int)) (x : Int × Int) : Nat := l.countP fun y => decide (ck y x < 0)
theorem cnt_snoc (l : List (Int × Int)) (y x : Int × Int) : cnt (l ++ [y]) x = cnt l x + if ck y x < 0 then 1 else 0 := by
  unfold cnt; rw [List.countP_append]; by_cases h : ck y x < 0 <;> simp [h]
theorem cnt_le (l : List (Int × Int)) (x : Int × Int) : cnt l x ≤ l.length := List.countP_le_length

set_option maxHeartbeats 1000000 in
theorem Place_any (A : Option Addr) (c : Nat) (ks : List (Int × Int)) (x1 x2 : Int) (w : World) (hn : ks.length ≤ 1000) (hk : KS w w.heap.size A ks) :
    Calls Try.prog 10 #[.slice A ks.length c, .agg #[.int .i64 x1, .int .u64 x2]] w fun e w' => e = .returned (.int .i64 (cnt ks (x1, x2) : Nat)) ∧ Below w.heap.size w w' := by
  go_enter Try.func10, Try.ntmps10
  go_wp2_with fail
  go_loopw [5, 7, 10] (fun v5 v7 v10 wr => ∃ k : Nat, k ≤ ks.length ∧ v10 = .int .i64 k ∧ v5 = .int .i64 (cnt (ks.take k) (x1, x2) : Nat) ∧ w.heap.size + 1 ≤ wr.heap.size ∧ wr.cell? ⟨w.heap.size, 0, none⟩ = some (.int .i64 x1) ∧ wr.cell? ⟨w.heap.size, 1, none⟩ = some (.int .u64 x2) ∧ Below w.heap.size w wr)
    (fun _ _ v10 _ => ks.length - (intOf v10).toNat)
  case atStart => exact ⟨0, Nat.zero_le _, rfl, rfl, by simp, by go_simp, by go_simp, (Below.refl _ _).alloc (Nat.le_refl _) _⟩
  case round =>
    obtain ⟨k, hkl, rfl, rfl, hsz, hc0, hc1, hbl⟩ := hrel
    by_cases hlt : k < ks.length
    · obtain ⟨b, off, rfl, hb, hcs⟩ := hk.below hbl (by omega)
      obtain ⟨hx1, hx2⟩ := hcs k ks[k] (List.getElem?_eq_getElem hlt)
      clear hcs hk
      have hc0' : (wr.alloc (.cells #[.int .i64 ks[k].1, .int .u64 ks[k].2] 24)).cell? ⟨w.heap.size, 0, none⟩ = some (.int .i64 x1) := (World.cell?_alloc_lt _ _ _ (by simp; omega)).trans hc0
      have hc1' : (wr.alloc (.cells #[.int .i64 ks[k].1, .int .u64 ks[k].2] 24)).cell? ⟨w.heap.size, 1, none⟩ = some (.int .u64 x2) := (World.cell?_alloc_lt _ _ _ (by simp; omega)).trans hc1
      have hcb : cnt (ks.take k) (x1, x2) ≤ 1000 := Nat.le_trans (cnt_le _ _) (by rw [List.length_take]; omega)
      have hs := cnt_snoc (ks.take k) (ks[k].1, ks[k].2) (x1, x2)
      rw [show (ks.take k ++ [(ks[k].1, ks[k].2)]) = ks.take (k + 1) from (List.take_succ_eq_append_getElem hlt).symm] at hs
      have Hs := Lib.hid hs
      clear hs
      have C := fun W => Cmp_is (x1 := ks[k].1) (x2 := ks[k].2) (y1 := x1) (y2 := x2) rfl W
      have hbo : Below w.heap.size w (wr.alloc (.cells #[.int .i64 ks[k].1, .int .u64 ks[k].2] 24)) := hbl.alloc (by omega) _
      go_wp2_with fail
      refine (C _).mono ?_
      rintro e w1 ⟨rfl, hg⟩
      go_wp2_with fail
      all_goals
        have hb1 : Below w.heap.size w w1 := hbo.trans (hg.below.mono (by simp; omega))
        have hz1 := hg.size
        have hd0 := (hg.cell (b := w.heap.size) (o := 0) (by simp; omega)).trans hc0'
        have hd1 := (hg.cell (b := w.heap.size) (o := 1) (by simp; omega)).trans hc1'
        simp at hz1
        go_roundw
        case rel => exact ⟨k + 1, by omega, by go_num, by rw [Hs.out]; first | (rw [if_pos (by assumption)]; go_num) | (rw [if_neg (by omega)]; go_num), by omega, hd0, hd1, hb1⟩
        case measure => simp [intOf]; omega
    · obtain rfl : k = ks.length := by omega
      rw [List.take_of_length_le (Nat.le_refl _)]
      go_wp2_with fail
      go_ret
      exact ⟨rfl, hbl⟩

end Go.Proofs.Ytkoohcineokpcaa
