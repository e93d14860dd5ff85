/- A row of the call's own, as the sort's contract reads it, and back. -/
import Derived.Test.YtkoohcineokpcaaRefSort
import Derived.Test.YtkoohcineokpcaaLay
import Derived.Shelf.SlSortCmp.WholeK
namespace Go.Proofs.Ytkoohcineokpcaa
open Go.Shelf Go.Lib Go.Sort

section
theorem flatMap_length {α : Type} (enc : α → List Value) (k : Nat) (hk : ∀ x, (enc x).length = k) (l : List α) : (l.flatMap enc).length = l.length * k := by
  induction l with
  | nil => simp
  | cons x l ih => rw [List.flatMap_cons, List.length_append, hk, ih, List.length_cons, Nat.succ_mul, Nat.add_comm]
variable {α : Type} [Inhabited α]
theorem flatMap_get (enc : α → List Value) (k : Nat) (hk0 : 0 < k) (hk : ∀ x, (enc x).length = k) (l : List α) (t : Nat) (ht : t < l.length * k) : (l.flatMap enc)[t]? = (enc (l[t / k]!))[t % k]? := by
  induction l generalizing t with
  | nil => simp at ht
  | cons x l ih =>
    rw [List.flatMap_cons]
    rcases Nat.lt_or_ge t k with h | h
    · rw [List.getElem?_append_left (by rw [hk]; exact h), Nat.div_eq_of_lt h, Nat.mod_eq_of_lt h]
      rfl
    · obtain ⟨u, rfl⟩ : ∃ u, t = u + k := ⟨t - k, by omega⟩
      rw [List.getElem?_append_right (by rw [hk]; exact h), hk, Nat.add_sub_cancel, ih u (by rw [List.length_cons, Nat.succ_mul] at ht; omega), Nat.add_div_right _ hk0, Nat.add_mod_right]
      rfl
theorem flatK_eq (enc : α → List Value) (k : Nat) (hk0 : 0 < k) (hk : ∀ x, (enc x).length = k) (l : List α) : (flatK enc k l.toArray).toList = l.flatMap enc := by
  apply List.ext_getElem?
  intro t
  rcases Nat.lt_or_ge t (l.length * k) with h | h
  · rw [flatMap_get enc k hk0 hk l t h, Array.getElem?_toList]
    have hm : t % k < (enc l[t / k]!).length := by rw [hk]; exact Nat.mod_lt _ hk0
    have hs : t < (flatK enc k l.toArray).size := by simpa using h
    have h1 := get_flatK enc k l.toArray t (by simpa using h)
    rw [getElem!_pos _ t hs] at h1
    rw [Array.getElem?_eq_getElem hs, h1]
    have e : (l.toArray)[t / k]! = l[t / k]! := by simp
    rw [e, List.getElem?_eq_getElem hm, getElem!_pos (enc l[t / k]!) (t % k) hm]
  · rw [List.getElem?_eq_none (by simpa using h), List.getElem?_eq_none (by rw [flatMap_length enc k hk]; exact h)]
end

theorem holdsK_of_own {α : Type} [Inhabited α] {enc : α → List Value} {k : Nat} (hk0 : 0 < k) (hk : ∀ x, (enc x).length = k) {w : World} {base g n cap : Nat} {e : TypeId} {l : List α} (hl : l.length = n)
    (h : w.ownsRow base e k (.slice (some ⟨g, 0, none⟩) n cap) n (l.flatMap enc)) : HoldsK enc k w g 0 l.toArray := by
  intro j hj
  have hj' : j < l.length * k := by simpa using hj
  refine ⟨?_, by rw [Nat.zero_add]; exact h.frozenAt j⟩
  rw [Nat.zero_add, h.cellAt j (by rw [← hl]; exact hj'), ← flatK_eq enc k hk0 hk l, Array.getElem?_toList, Array.getElem?_eq_getElem hj, getElem!_pos _ j hj]
  rfl

theorem own_sortedK {w : World} {base g n cap size m : Nat} {e : TypeId} {os : Array Obj} {xs : List Value} {F : Array Value}
    (h : w.ownsRow base e size (.slice (some ⟨g, 0, none⟩) n cap) n xs) (hF : F.size = n * size) :
    (grow (putRow id (Sort.ahead w m) g 0 F) os).ownsRow base e size (.slice (some ⟨g, 0, none⟩) n cap) n F.toList ∧ w.grownBy (grow (putRow id (Sort.ahead w m) g 0 F) os) (some g) := by
  rcases h.2 with ⟨h0, _⟩ | ⟨g', cap', cur, hv, hb, hh, h1, h2, h3, h4⟩
  · cases h0
  · injection hv with e1 _ e3
    injection e1 with e1
    injection e1 with e1
    subst e1 e3
    have hg : g < w.heap.size := (Array.getElem?_eq_some_iff.1 hh).1
    refine ⟨⟨by simpa using hF, .inr ⟨g, cap, putCells id 0 F cur, rfl, hb, ?_, h1, h2, by simp [putCells, h3], ?_⟩⟩, rfl, rfl, rfl, by simp, fun k hk hne => ?_⟩
    · rw [heap_grow_old _ _ (by simpa using hg)]
      simp [putRow, mapBlock, Sort.ahead, Array.getElem?_modify, hh, onCells]
    · have hle : F.size ≤ cur.size := by rw [hF, h3]; exact Nat.mul_le_mul_right _ h1
      rw [← hF]
      apply List.ext_getElem?
      intro j
      by_cases hj : j < F.size
      · rw [List.getElem?_take_of_lt hj, Array.getElem?_toList, Array.getElem?_toList]
        have hj2 : j < cur.size := by omega
        simp [putCells, hj, hj2]
      · rw [List.getElem?_take_eq_none (by omega), List.getElem?_eq_none (by simp; omega)]
    · rw [heap_grow_old _ _ (by simpa using hk)]
      have : g ≠ k := fun e => hne (by rw [e])
      simp [putRow, mapBlock, Sort.ahead, Array.getElem?_modify, this]

end Go.Proofs.Ytkoohcineokpcaa
