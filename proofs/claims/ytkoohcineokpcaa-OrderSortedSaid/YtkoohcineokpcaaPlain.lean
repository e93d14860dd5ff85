/- Sorted lists of keys: no program in sight. -/
import Derived.Test.YtkoohcineokpcaaKeys5
namespace Go.Proofs.Ytkoohcineokpcaa

/-- Not greater. -/
def lek (x y : Int × Int) : Bool := !ltk y x
theorem lek_iff (x y : Int × Int) : lek x y = true ↔ (x.1 < y.1 ∨ x.1 = y.1 ∧ x.2 ≤ y.2) := by
  have h := ltk_iff y.1 y.2 x.1 x.2
  unfold lek
  rw [Bool.not_eq_true', ← Bool.not_eq_true]
  show ¬ ltk (y.1, y.2) (x.1, x.2) = true ↔ _
  rw [h]; omega
theorem ltk_iff' (x y : Int × Int) : ltk x y = true ↔ (x.1 < y.1 ∨ x.1 = y.1 ∧ x.2 < y.2) := ltk_iff x.1 x.2 y.1 y.2
theorem lek_trans (a b c : Int × Int) (h : lek a b = true) (k : lek b c = true) : lek a c = true := by rw [lek_iff] at *; omega
theorem lek_total (a b : Int × Int) : (lek a b || lek b a) = true := by rw [Bool.or_eq_true, lek_iff, lek_iff]; omega
theorem lek_antisymm (a b : Int × Int) (h : lek a b = true) (k : lek b a = true) : a = b := by rw [lek_iff] at *; exact Prod.ext (by omega) (by omega)
theorem lek_refl (a : Int × Int) : lek a a = true := by rw [lek_iff]; omega
theorem lek_of_ltk {a b : Int × Int} (h : ltk a b = true) : lek a b = true := by rw [lek_iff]; rw [ltk_iff'] at h; omega
theorem lek_of_not {a b : Int × Int} (h : ltk a b = false) : lek b a = true := by unfold lek; rw [h]; rfl

/-- The keys of a list, sorted. -/
def srt (l : List (Int × Int)) : List (Int × Int) := l.mergeSort lek
theorem srt_perm (l : List (Int × Int)) : (srt l).Perm l := List.mergeSort_perm l lek
theorem srt_length (l : List (Int × Int)) : (srt l).length = l.length := (srt_perm l).length_eq
theorem srt_sorted (l : List (Int × Int)) : (srt l).Pairwise (fun a b => lek a b = true) := List.pairwise_mergeSort lek_trans lek_total l
/-- There is one sorted permutation. -/
theorem srt_unique {l t : List (Int × Int)} (hp : t.Perm l) (hs : t.Pairwise (fun a b => lek a b = true)) : t = srt l :=
  List.Perm.eq_of_pairwise (fun a b _ _ h k => lek_antisymm a b h k) hs (srt_sorted l) (hp.trans (srt_perm l).symm)

/-- A key that is put where it belongs. -/
theorem srt_insert (l : List (Int × Int)) (x : Int × Int) (k : Nat) (hk : k ≤ (srt l).length) (hlo : ∀ j y, j < k → (srt l)[j]? = some y → lek y x = true) (hhi : ∀ j y, k ≤ j → (srt l)[j]? = some y → ltk x y = true) :
    (srt l).take k ++ x :: (srt l).drop k = srt (l ++ [x]) := by
  refine srt_unique ?_ ?_
  · have h1 : ((srt l).take k ++ x :: (srt l).drop k).Perm (x :: ((srt l).take k ++ (srt l).drop k)) := List.perm_middle
    rw [List.take_append_drop] at h1
    refine h1.trans (((srt_perm l).cons x).trans ?_)
    exact (List.perm_append_comm (l₁ := [x]) (l₂ := l))
  · have hs := srt_sorted l
    rw [← List.take_append_drop k (srt l), List.pairwise_append] at hs
    obtain ⟨hs1, hs2, hs3⟩ := hs
    rw [List.pairwise_append]
    refine ⟨hs1, ?_, ?_⟩
    · rw [List.pairwise_cons]
      refine ⟨fun y hy => ?_, hs2⟩
      obtain ⟨i, hi⟩ := List.mem_iff_getElem?.1 hy
      rw [List.getElem?_drop] at hi
      exact lek_of_ltk (hhi _ y (Nat.le_add_right k i) hi)
    · intro a ha b hb
      obtain ⟨i, hi⟩ := List.mem_iff_getElem?.1 ha
      have hik : i < k := by
        have := (List.getElem?_eq_some_iff.1 hi).1
        rw [List.length_take] at this; omega
      rw [List.getElem?_take_of_lt hik] at hi
      have hax := hlo i a hik hi
      rcases List.mem_cons.1 hb with rfl | hb
      · exact hax
      · exact hs3 a ha b hb

/-- Of sorted keys, whatever stands ahead of one that is not greater than x is not greater. -/
theorem srt_lo (l : List (Int × Int)) (x : Int × Int) (k : Nat) (h : ∀ y, 0 < k → (srt l)[k - 1]? = some y → lek y x = true) (hk : k ≤ (srt l).length) : ∀ j y, j < k → (srt l)[j]? = some y → lek y x = true := by
  intro j y hj hy
  have hk1 : (srt l)[k - 1]? = some ((srt l)[k - 1]'(by omega)) := List.getElem?_eq_getElem (by omega)
  have hlast := h _ (by omega) hk1
  rcases Nat.lt_or_ge j (k - 1) with hlt | hge
  · have := (List.pairwise_iff_getElem.1 (srt_sorted l)) j (k - 1) (by omega) (by omega) hlt
    obtain ⟨hl, he⟩ := List.getElem?_eq_some_iff.1 hy
    rw [he] at this
    exact lek_trans _ _ _ this hlast
  · obtain rfl : j = k - 1 := by omega
    rw [hk1] at hy
    injection hy with hy
    subst hy
    exact hlast

theorem kcells_set (t : List (Int × Int)) (k : Nat) (x : Int × Int) : kcells (t.set k x) = ((kcells t).set (k * 2) (.int .i64 x.1)).set (k * 2 + 1) (.int .u64 x.2) := by
  induction t generalizing k with
  | nil => simp [kcells]
  | cons y l ih =>
    have e : ∀ z (m : List (Int × Int)), kcells (z :: m) = .int .i64 z.1 :: .int .u64 z.2 :: kcells m := fun z m => by simp [kcells]
    cases k with
    | zero => simp [e]
    | succ k =>
      rw [List.set_cons_succ, e, e, ih, show (k + 1) * 2 = k * 2 + 1 + 1 from by omega, show k * 2 + 1 + 1 + 1 = (k * 2 + 1) + 1 + 1 from rfl]
      simp only [List.set_cons_succ]

/-- One step of the shift. -/
theorem shift_step (S : List (Int × Int)) (j : Nat) (h : Int × Int) (hj : j < S.length) : (S.take (j + 1) ++ h :: S.drop (j + 1)).set (j + 1) S[j] = S.take j ++ S[j] :: S.drop j := by
  have hl : (S.take (j + 1)).length = j + 1 := by rw [List.length_take]; omega
  rw [List.set_append_right _ _ (by omega), hl, Nat.sub_self, List.set_cons_zero, List.take_succ_eq_append_getElem hj, List.append_assoc, List.drop_eq_getElem_cons hj]
  rfl
theorem shift_at (S : List (Int × Int)) (j : Nat) (h : Int × Int) (hj : j < S.length) : (S.take (j + 1) ++ h :: S.drop (j + 1))[j]? = some S[j] := by
  rw [List.getElem?_append_left (by rw [List.length_take]; omega), List.getElem?_take_of_lt (by omega), List.getElem?_eq_getElem hj]
theorem shift_end (S : List (Int × Int)) (k : Nat) (h x : Int × Int) (hk : k ≤ S.length) : (S.take k ++ h :: S.drop k).set k x = S.take k ++ x :: S.drop k := by
  have hl : (S.take k).length = k := by rw [List.length_take]; omega
  rw [List.set_append_right _ _ (by omega), hl, Nat.sub_self, List.set_cons_zero]

end Go.Proofs.Ytkoohcineokpcaa
