/- The reference's find; Same, where both sides read alike. -/
import Derived.Test.YtoikjokdabpmoaaLive
namespace Go.Proofs.Ytoikjokdabpmoaa
open Go.RowKit Go.Maps

theorem flat_length {α : Type} (f : α → List Value) (k : Nat) (hk : ∀ x, (f x).length = k) (l : List α) : (l.flatMap f).length = l.length * k := by
  induction l with
  | nil => simp
  | cons x l ih => rw [List.flatMap_cons, List.length_append, hk, ih, List.length_cons, Nat.succ_mul, Nat.add_comm]
theorem flat_at {α : Type} (f : α → List Value) (k : Nat) (hk : ∀ x, (f x).length = k) (l : List α) (i : Nat) (x : α) (hx : l[i]? = some x) (j : Nat) (hj : j < k) : (l.flatMap f)[i * k + j]? = (f x)[j]? := by
  induction l generalizing i with
  | nil => simp at hx
  | cons y l ih =>
    rw [List.flatMap_cons]
    cases i with
    | zero => simp at hx; subst hx; rw [Nat.zero_mul, Nat.zero_add, List.getElem?_append_left (by rw [hk]; exact hj)]
    | succ i =>
      simp at hx
      rw [List.getElem?_append_right (by rw [hk, Nat.succ_mul]; omega), hk, show (i + 1) * k + j - k = i * k + j from by rw [Nat.succ_mul]; omega]
      exact ih i hx
theorem flat_set {α : Type} (f : α → List Value) (k : Nat) (hk : ∀ x, (f x).length = k) (l : List α) (i : Nat) (x y : α) (hx : l[i]? = some x) (j : Nat) (v : Value) (hj : j < k) (hy : f y = (f x).set j v) : (l.set i y).flatMap f = (l.flatMap f).set (i * k + j) v := by
  induction l generalizing i with
  | nil => simp at hx
  | cons z l ih =>
    cases i with
    | zero =>
      simp at hx
      subst hx
      rw [List.set_cons_zero, List.flatMap_cons, List.flatMap_cons, hy, Nat.zero_mul, Nat.zero_add, List.set_append_left _ _ (by rw [hk]; exact hj)]
    | succ i =>
      simp at hx
      rw [List.set_cons_succ, List.flatMap_cons, List.flatMap_cons, ih i hx, List.set_append_right _ _ (by rw [hk, Nat.succ_mul]; omega), hk, show (i + 1) * k + j - k = i * k + j from by rw [Nat.succ_mul]; omega]
theorem sr_at {α : Type} (f : α → List Value) (k : Nat) (hk : ∀ x, (f x).length = k) (hk0 : 0 < k) {w wr : World} {G : Nat → Prop} {A : Option Addr} {l : List α} {i : Nat} {x : α} (h : SR w G A (l.flatMap f)) (hb : Below w.heap.size w wr) (hi : l[i]? = some x) :
    ∃ b off, A = some ⟨b, off, none⟩ ∧ b < w.heap.size ∧ G b ∧ ∀ j v, (f x)[j]? = some v → wr.cell? ⟨b, off + i * k + j, none⟩ = some v := by
  have hlt := (List.getElem?_eq_some_iff.1 hi).1
  obtain ⟨b, off, hA, hG, hbl, hc⟩ := h (by rw [flat_length f k hk]; exact Nat.mul_pos (by omega) hk0)
  obtain ⟨b', off', hA', _, _, hc'⟩ := (h.below hb) (by rw [flat_length f k hk]; exact Nat.mul_pos (by omega) hk0)
  rw [hA] at hA'
  injection hA' with hA'
  injection hA' with h1 h2
  subst h1 h2
  refine ⟨b, off, hA, hbl, hG, fun j v hj => ?_⟩
  have hj' : j < k := by have := (List.getElem?_eq_some_iff.1 hj).1; rw [hk] at this; exact this
  rw [Nat.add_assoc]
  exact hc' (i * k + j) v ((flat_at f k hk l i x hi j hj').trans hj)

/-- A timer's cells. -/
abbrev tmV (t : Tm) : List Value := [.int .u64 t.h, .int .i64 t.dl, .bool t.live]
abbrev tmsV (T : List Tm) : List Value := T.flatMap tmV
/-- What find gives. -/
def Found (T : List Tm) (h : Int) (r : Int) : Prop := (wereB T h = false ∧ r = -1) ∨ ∃ (i : Nat) (t : Tm), T[i]? = some t ∧ t.h = h ∧ r = i

set_option maxRecDepth 100000 in
set_option maxHeartbeats 2000000 in
theorem find_any (T : List Tm) (A : Option Addr) (c : Nat) (h : Int) (w : World) (hl : T.length ≤ 1000) (hA : SR w (fun _ => True) A (tmsV T)) :
    Calls Try.prog 18 #[.slice A T.length c, .int .u64 h] w fun e w' => (∃ r, e = .returned (.int .i64 r) ∧ Found T h r) ∧ Below w.heap.size w w' := by
  go_enter Try.func18, Try.ntmps18
  go_wp2_with fail
  go_loopw [5] (fun v5 wr => ∃ i : Nat, i ≤ T.length ∧ v5 = .int .i64 i ∧ Below w.heap.size w wr ∧ Hid (∀ (j : Nat) (t : Tm), j < i → T[j]? = some t → t.h ≠ h)) (fun v5 _ => T.length - (intOf v5).toNat)
  case atStart => exact ⟨0, Nat.zero_le _, rfl, Below.refl _ _, Lib.hid (fun j _ hj => absurd hj (Nat.not_lt_zero j))⟩
  case round =>
    obtain ⟨i, hil, rfl, hbw, Hno⟩ := hrel
    by_cases hlt : i < T.length
    · obtain ⟨x, hx⟩ : ∃ x, T[i]? = some x := ⟨_, List.getElem?_eq_getElem hlt⟩
      obtain ⟨b, off, rfl, _, _, hc⟩ := sr_at tmV 3 (fun _ => rfl) (by decide) hA hbw hx
      have q0 := hc 0 _ rfl
      rw [Nat.add_zero] at q0
      have hi1 : (0 : Int) ≤ (i : Int) := Int.natCast_nonneg _
      have hi2 : (i : Int) < (T.length : Int) := by omega
      by_cases hu : x.h = h
      · have h1 : (x.h == h) = true := by simp [hu]
        have Hf : Hid (Found T h i) := Lib.hid (.inr ⟨i, x, hx, hu, rfl⟩)
        clear hc hx hu
        go_wp2_with fail
        go_ret
        exact ⟨⟨i, rfl, Hf.out⟩, hbw⟩
      · have h1 : (x.h == h) = false := by simp [hu]
        have hnext : Hid (∀ (j : Nat) (t : Tm), j < i + 1 → T[j]? = some t → t.h ≠ h) := Lib.hid (fun j t hj ht => by
          rcases Nat.lt_or_ge j i with h' | h'
          · exact Hno.out j t h' ht
          · obtain rfl : j = i := by omega
            rw [hx] at ht
            injection ht with ht
            subst ht
            exact hu)
        clear hc hx hu
        go_wp2_with fail
        go_roundw
        case rel => exact ⟨i + 1, by omega, by go_num, hbw, hnext⟩
        case measure => simp [intOf]; omega
    · obtain rfl : i = T.length := by omega
      go_wp2_with fail
      go_ret
      refine ⟨⟨-1, rfl, .inl ⟨?_, rfl⟩⟩, hbw⟩
      unfold wereB
      rw [List.any_eq_false]
      intro t ht
      obtain ⟨j, hj, he⟩ := List.mem_iff_getElem.1 ht
      have := Hno.out j t hj (by rw [List.getElem?_eq_getElem hj, he])
      simpa using this

theorem one_flat (ss : List Int) : (ss.map encW) = ss.flatMap fun x => [encW x] := by
  induction ss with
  | nil => rfl
  | cons a r ih => simp [ih]

set_option maxHeartbeats 1000000 in
theorem same_any (l : List Int) (A B : Option Addr) (ca cb : Nat) (w : World) (hA : SR w (fun _ => True) A (l.map encW)) (hB : SR w (fun _ => True) B (l.map encW)) (hn : l.length ≤ 1000) :
    Calls Try.prog 10 #[.slice A l.length ca, .slice B l.length cb] w fun e w' => e = .returned (.bool true) ∧ Below w.heap.size w w' := by
  rw [one_flat] at hA hB
  go_enter Try.func10, Try.ntmps10
  go_wp2_with fail
  go_loopw [5] (fun v5 wr => ∃ i : Nat, i ≤ l.length ∧ v5 = .int .i64 i ∧ Below w.heap.size w wr) (fun v5 _ => l.length - (intOf v5).toNat)
  case atStart => exact ⟨0, Nat.zero_le _, rfl, Below.refl _ _⟩
  case round =>
    obtain ⟨i, hil, rfl, hbw⟩ := hrel
    by_cases hlt : i < l.length
    · obtain ⟨x, hx⟩ : ∃ x, l[i]? = some x := ⟨_, List.getElem?_eq_getElem hlt⟩
      obtain ⟨b, off, rfl, _, _, hc⟩ := sr_at (fun x => [encW x]) 1 (fun _ => rfl) (by decide) hA hbw hx
      obtain ⟨b', off', rfl, _, _, hc'⟩ := sr_at (fun x => [encW x]) 1 (fun _ => rfl) (by decide) hB hbw hx
      have q0 := hc 0 _ rfl
      have p0 := hc' 0 _ rfl
      rw [Nat.add_zero, Nat.mul_one] at q0 p0
      have hi1 : (0 : Int) ≤ (i : Int) := Int.natCast_nonneg _
      have hi2 : (i : Int) < (l.length : Int) := by omega
      have hbd := hbw.drew
      clear hc hc' hx
      go_wp2_with fail
      go_region
      all_goals go_wp2_with fail
      all_goals go_roundw
      case rel => exact ⟨i + 1, by omega, by go_num, hbd⟩
      case measure => simp [intOf]; omega
    · obtain rfl : i = l.length := by omega
      go_wp2_with fail
      go_ret
      exact ⟨rfl, hbw⟩
end Go.Proofs.Ytoikjokdabpmoaa
