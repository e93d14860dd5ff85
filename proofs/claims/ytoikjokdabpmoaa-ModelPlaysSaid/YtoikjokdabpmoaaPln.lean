/- Plain laws: rising lists with the same members are one; how the timers go on; what is counted. -/
import Derived.Test.YtoikjokdabpmoaaRf4
namespace Go.Proofs.Ytoikjokdabpmoaa

theorem rise_ext : ∀ (a b : List Int), a.Pairwise (· < ·) → b.Pairwise (· < ·) → (∀ x, x ∈ a ↔ x ∈ b) → a = b
  | [], [], _, _, _ => rfl
  | [], y :: b, _, _, h => absurd ((h y).2 (by simp)) (by simp)
  | x :: a, [], _, _, h => absurd ((h x).1 (by simp)) (by simp)
  | x :: a, y :: b, ha, hb, h => by
    rw [List.pairwise_cons] at ha hb
    have hxy : x = y := by
      rcases List.mem_cons.1 ((h x).1 (by simp)) with e | e
      · exact e
      · rcases List.mem_cons.1 ((h y).2 (by simp)) with e2 | e2
        · exact e2.symm
        · have := hb.1 x e
          have := ha.1 y e2
          omega
    subst hxy
    congr 1
    refine rise_ext a b ha.2 hb.2 fun z => ?_
    constructor
    · intro hz
      rcases List.mem_cons.1 ((h z).1 (List.mem_cons_of_mem _ hz)) with e | e
      · have := ha.1 z hz; omega
      · exact e
    · intro hz
      rcases List.mem_cons.1 ((h z).2 (List.mem_cons_of_mem _ hz)) with e | e
      · have := hb.1 z hz; omega
      · exact e
theorem lists_one {T : List Tm} {p q : Int → Bool} {a b : List Int} (ha : Lists T p a) (hb : Lists T q b) (hpq : ∀ h, liveB T h = true → p (dlOf T h) = q (dlOf T h)) : a = b :=
  rise_ext a b ha.1 hb.1 fun x => by
    rw [ha.2 x, hb.2 x]
    constructor
    · rintro ⟨h1, h2⟩; exact ⟨h1, (hpq x h1) ▸ h2⟩
    · rintro ⟨h1, h2⟩; exact ⟨h1, (hpq x h1).symm ▸ h2⟩

/-- All deadlines lie in their kind. -/
def Dls (T : List Tm) : Prop := ∀ t ∈ T, t.dl ≤ 9223372036854775807
theorem dls_kill {T : List Tm} (h : Dls T) (x : Int) : Dls (kill T x) := fun t ht => by
  unfold kill at ht
  obtain ⟨u, hu, rfl⟩ := List.mem_map.1 ht
  split
  · exact h u hu
  · exact h u hu
theorem dls_do {T : List Tm} (h : Dls T) (k x dl now : Int) (hdl : dl ≤ 9223372036854775807) : Dls (doT T k x dl now) := by
  unfold doT
  split
  · split
    · intro t ht
      rcases List.mem_append.1 ht with ht | ht
      · exact h t ht
      · rw [List.mem_singleton.1 ht]; exact hdl
    · split
      · exact dls_kill h x
      · exact h
  · exact h
theorem dl_le {T : List Tm} (h : Dls T) (x : Int) : dlOf T x ≤ 9223372036854775807 := by
  unfold dlOf
  cases hf : T.find? fun t => t.h == x with
  | none => decide
  | some t => exact h t (List.mem_of_find?_eq_some hf)
theorem do_length (T : List Tm) (k x dl now : Int) : (doT T k x dl now).length ≤ T.length + 1 := by
  unfold doT
  split
  · split
    · simp
    · split
      · simp [kill]
      · exact Nat.le_succ _
  · exact Nat.le_succ _

theorem live_put (T : List Tm) (x h dl : Int) : liveB (T ++ [⟨x, dl, true⟩]) h = (liveB T h || x == h) := by rw [liveB_append]; simp
/-- The counts of one handle: how often it has been made, how often it has ended. -/
def nMade (T : List Tm) (h : Int) : Int := if wereB T h = true then 1 else 0
def nGone (T : List Tm) (h : Int) : Int := if wereB T h = true ∧ liveB T h = false then 1 else 0
theorem legal_live {T : List Tm} {k h dl now : Int} (hl : legalB T k h dl now = true) (hk : k = 2 ∨ k = 3) : liveB T h = true := by
  unfold legalB at hl
  rcases hk with rfl | rfl
  · simp at hl; exact hl.1.1
  · simpa using hl
/-- An act on another handle, or one that is not taken, or that is no making and no end: nothing is counted. -/
theorem count_other {T : List Tm} {k x dl now h : Int} (hx : x ≠ h ∨ legalB T k x dl now = false) : nMade (doT T k x dl now) h = nMade T h ∧ nGone (doT T k x dl now) h = nGone T h := by
  rcases hx with hx | hx
  · have h1 : wereB (doT T k x dl now) h = wereB T h := by
      unfold doT
      split
      · split
        · rw [wereB_append]; simp [hx]
        · split
          · exact kill_were T x h
          · rfl
      · rfl
    have h2 : liveB (doT T k x dl now) h = liveB T h := by
      unfold doT
      split
      · split
        · rw [liveB_append]; simp [hx]
        · split
          · rw [kill_live]; simp [Ne.symm hx]
          · rfl
      · rfl
    unfold nMade nGone
    rw [h1, h2]
    exact ⟨rfl, rfl⟩
  · have : doT T k x dl now = T := by unfold doT; rw [hx]; rfl
    rw [this]
    exact ⟨rfl, rfl⟩
theorem count_made {T : List Tm} {h dl now : Int} (hl : legalB T 1 h dl now = true) : nMade T h = 0 ∧ nGone T h = 0 ∧ nMade (doT T 1 h dl now) h = 1 ∧ nGone (doT T 1 h dl now) h = 0 := by
  have hno : wereB T h = false := by simpa [legalB] using hl
  have hd : doT T 1 h dl now = T ++ [⟨h, dl, true⟩] := by unfold doT; rw [if_pos hl, if_pos rfl]
  rw [hd]
  unfold nMade nGone
  rw [wereB_append, liveB_append, hno]
  simp
theorem count_gone {T : List Tm} {k h dl now : Int} (hl : legalB T k h dl now = true) (hk : k = 2 ∨ k = 3) : nMade T h = 1 ∧ nGone T h = 0 ∧ nMade (doT T k h dl now) h = 1 ∧ nGone (doT T k h dl now) h = 1 := by
  have hlv := legal_live hl hk
  have hw := were_of_live hlv
  have hd : doT T k h dl now = kill T h := by unfold doT; rw [if_pos hl, if_neg (by omega), if_pos hk]
  rw [hd]
  unfold nMade nGone
  rw [kill_were, kill_live, hw, hlv]
  simp
theorem count_rest {T : List Tm} {k dl now : Int} (hk : k ≠ 1 ∧ k ≠ 2 ∧ k ≠ 3) (x : Int) : doT T k x dl now = T := by
  unfold doT
  split
  · rw [if_neg hk.1, if_neg (by omega)]
  · rfl
/-- In the end: what is live of one handle is what was made less what has ended. -/
theorem count_live (T : List Tm) (h : Int) : (if liveB T h = true then (1 : Int) else 0) = nMade T h - nGone T h := by
  unfold nMade nGone
  cases hl : liveB T h with
  | true => rw [were_of_live hl]; simp
  | false => cases wereB T h <;> simp
end Go.Proofs.Ytoikjokdabpmoaa
