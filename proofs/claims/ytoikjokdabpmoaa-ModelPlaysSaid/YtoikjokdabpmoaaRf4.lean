/- The reference's Due, walked. -/
import Derived.Test.YtoikjokdabpmoaaRf3
namespace Go.Proofs.Ytoikjokdabpmoaa
open Go.RowKit Go.Maps

/-- The handles of the timers that are live and due, rising; by the list alone. -/
def Lst (T : List Tm) (now : Int) (S : List Int) : Prop := S.Pairwise (· < ·) ∧ ∀ h, h ∈ S ↔ ∃ t ∈ T, t.h = h ∧ t.live = true ∧ t.dl ≤ now
/-- x put at place j. -/
def ins (S : List Int) (x : Int) (j : Nat) : List Int := S.take j ++ x :: S.drop j
theorem ins_length (S : List Int) (x : Int) (j : Nat) (hj : j ≤ S.length) : (ins S x j).length = S.length + 1 := by
  simp [ins]; omega
theorem ins_end (S : List Int) (x : Int) : ins S x S.length = S ++ [x] := by simp [ins]
theorem ins_at (S : List Int) (x : Int) (j : Nat) (hj : j ≤ S.length) : (ins S x j)[j]? = some x := by
  unfold ins
  rw [List.getElem?_append_right (by simp; omega)]
  simp [Nat.min_eq_left hj]
theorem ins_before (S : List Int) (x : Int) (j k : Nat) (hj : j ≤ S.length) (hk : k < j) : (ins S x j)[k]? = S[k]? := by
  unfold ins
  rw [List.getElem?_append_left (by simp; omega), List.getElem?_take, if_pos hk]
theorem ins_step (S : List Int) (x y : Int) (j : Nat) (hj : j + 1 ≤ S.length) (hy : S[j]? = some y) : ((ins S x (j + 1)).set (j + 1) y).set j x = ins S x j := by
  obtain ⟨hl, he⟩ := List.getElem?_eq_some_iff.1 hy
  apply List.ext_getElem?
  intro k
  unfold ins
  rcases Nat.lt_trichotomy k j with h | h | h
  · rw [List.getElem?_set_ne (by omega), List.getElem?_set_ne (by omega), List.getElem?_append_left (by simp; omega), List.getElem?_append_left (by simp; omega), List.getElem?_take, List.getElem?_take, if_pos (by omega), if_pos (by omega)]
  · subst h
    rw [List.getElem?_set_self (by simp; omega), List.getElem?_append_right (by simp; omega)]
    simp [Nat.min_eq_left (Nat.le_of_lt hl)]
  · rcases Nat.lt_or_ge k (j + 2) with h2 | h2
    · obtain rfl : k = j + 1 := by omega
      rw [List.getElem?_set_ne (by omega), List.getElem?_set_self (by simp; omega), List.getElem?_append_right (by simp; omega)]
      simp only [List.length_take, Nat.min_eq_left (Nat.le_of_lt hl)]
      rw [show j + 1 - j = 0 + 1 from by omega, List.getElem?_cons_succ, List.getElem?_drop]
      exact hy.symm
    · rw [List.getElem?_set_ne (by omega), List.getElem?_set_ne (by omega), List.getElem?_append_right (by simp; omega), List.getElem?_append_right (by simp; omega)]
      simp only [List.length_take, Nat.min_eq_left (Nat.le_of_lt hl), Nat.min_eq_left hj]
      obtain ⟨m, rfl⟩ : ∃ m, k = j + 2 + m := ⟨k - (j + 2), by omega⟩
      rw [show j + 2 + m - (j + 1) = m + 1 from by omega, show j + 2 + m - j = (m + 1) + 1 from by omega, List.getElem?_cons_succ, List.getElem?_cons_succ, List.getElem?_drop, List.getElem?_drop]
      congr 1
      omega
theorem ins_sorted {S : List Int} {x : Int} {j : Nat} (hS : S.Pairwise (· < ·)) (h1 : ∀ y ∈ S.take j, y < x) (h2 : ∀ y ∈ S.drop j, x < y) : (ins S x j).Pairwise (· < ·) := by
  unfold ins
  refine List.pairwise_append.2 ⟨hS.sublist (List.take_sublist _ _), List.pairwise_cons.2 ⟨h2, hS.sublist (List.drop_sublist _ _)⟩, fun a ha b hb => ?_⟩
  rcases List.mem_cons.1 hb with rfl | hb
  · exact h1 a ha
  · exact Int.lt_trans (h1 a ha) (h2 b hb)
theorem ins_mem {S : List Int} {x : Int} {j : Nat} (y : Int) : y ∈ ins S x j ↔ y = x ∨ y ∈ S := by
  unfold ins
  rw [List.mem_append, List.mem_cons]
  constructor
  · rintro (h | h | h)
    · exact .inr (List.mem_of_mem_take h)
    · exact .inl h
    · exact .inr (List.mem_of_mem_drop h)
  · rintro (h | h)
    · exact .inr (.inl h)
    · rw [← List.take_append_drop j S, List.mem_append] at h
      rcases h with h | h
      · exact .inl h
      · exact .inr (.inr h)
/-- All ahead of a place lie below x, if the last of them does. -/
theorem take_below {S : List Int} {x y : Int} {j : Nat} (hS : S.Pairwise (· < ·)) (hy : S[j]? = some y) (hxy : y < x) : ∀ z ∈ S.take (j + 1), z < x := by
  intro z hz
  obtain ⟨hl, he⟩ := List.getElem?_eq_some_iff.1 hy
  obtain ⟨k, hk, e⟩ := List.mem_take_iff_getElem.1 hz
  rw [List.pairwise_iff_getElem] at hS
  rcases Nat.lt_or_ge k j with h | h
  · have := hS k j (by omega) hl h
    omega
  · obtain rfl : k = j := by omega
    omega
theorem lst_skip {T : List Tm} {i : Nat} {t : Tm} {now : Int} {S : List Int} (hi : T[i]? = some t) (h : Lst (T.take i) now S) (hno : ¬ (t.live = true ∧ t.dl ≤ now)) : Lst (T.take (i + 1)) now S := by
  obtain ⟨hl, he⟩ := List.getElem?_eq_some_iff.1 hi
  refine ⟨h.1, fun x => ?_⟩
  rw [h.2 x, List.take_succ_eq_append_getElem hl, he]
  constructor
  · rintro ⟨u, hu, e⟩
    exact ⟨u, List.mem_append_left _ hu, e⟩
  · rintro ⟨u, hu, e⟩
    rcases List.mem_append.1 hu with hu | hu
    · exact ⟨u, hu, e⟩
    · rw [List.mem_singleton.1 hu] at e
      exact absurd e.2 hno
theorem lst_ins {T : List Tm} {i j : Nat} {t : Tm} {now : Int} {S : List Int} (hi : T[i]? = some t) (h : Lst (T.take i) now S) (hy : t.live = true ∧ t.dl ≤ now) (hs : (ins S t.h j).Pairwise (· < ·)) : Lst (T.take (i + 1)) now (ins S t.h j) := by
  obtain ⟨hl, he⟩ := List.getElem?_eq_some_iff.1 hi
  refine ⟨hs, fun x => ?_⟩
  rw [ins_mem, h.2 x, List.take_succ_eq_append_getElem hl, he]
  constructor
  · rintro (rfl | ⟨u, hu, e⟩)
    · exact ⟨t, List.mem_append_right _ (List.mem_singleton.2 rfl), rfl, hy⟩
    · exact ⟨u, List.mem_append_left _ hu, e⟩
  · rintro ⟨u, hu, e⟩
    rcases List.mem_append.1 hu with hu | hu
    · exact .inr ⟨u, hu, e⟩
    · rw [List.mem_singleton.1 hu] at e
      exact .inl e.1.symm
theorem lst_not {T : List Tm} (hd : T.Pairwise (fun a b => a.h ≠ b.h)) {i : Nat} {t : Tm} {now : Int} {S : List Int} (hi : T[i]? = some t) (h : Lst (T.take i) now S) : t.h ∉ S := by
  intro hm
  obtain ⟨u, hu, e, _⟩ := (h.2 t.h).1 hm
  obtain ⟨k, hk, e2⟩ := List.mem_take_iff_getElem.1 hu
  have hk' : T[k]? = some u := by rw [List.getElem?_eq_getElem (by omega), e2]
  have := at_place hd hi hk' e
  omega
theorem lst_lists {T : List Tm} (hd : T.Pairwise (fun a b => a.h ≠ b.h)) {now : Int} {S : List Int} (h : Lst T now S) : Lists T (fun d => decide (d ≤ now)) S := by
  refine ⟨h.1, fun x => ?_⟩
  rw [h.2 x]
  constructor
  · rintro ⟨t, ht, rfl, hl, hn⟩
    obtain ⟨i, hi⟩ := List.mem_iff_getElem?.1 ht
    rw [at_live hd hi, at_dl hd hi]
    exact ⟨hl, by simpa using hn⟩
  · rintro ⟨hl, hn⟩
    obtain ⟨i, t, hi, rfl⟩ := were_at (were_of_live hl)
    rw [at_live hd hi] at hl
    rw [at_dl hd hi] at hn
    exact ⟨t, List.mem_of_getElem? hi, rfl, hl, by simpa using hn⟩
end Go.Proofs.Ytoikjokdabpmoaa
