/- The reference's Legal, walked. -/
import Derived.Test.YtoikjokdabpmoaaRf1
namespace Go.Proofs.Ytoikjokdabpmoaa
open Go.RowKit Go.Maps

theorem only_one {T : List Tm} (hd : T.Pairwise (fun a b => a.h ≠ b.h)) {i : Nat} {t : Tm} (hi : T[i]? = some t) : ∀ x ∈ T, x.h = t.h → x = t := by
  intro x hx e
  have ht := List.mem_of_getElem? hi
  have key : ∀ (l : List Tm), l.Pairwise (fun a b => a.h ≠ b.h) → ∀ a ∈ l, ∀ b ∈ l, a.h = b.h → a = b := by
    intro l
    induction l with
    | nil => intro _ a ha; cases ha
    | cons y r ih =>
      intro hp a ha b hb hab
      rw [List.pairwise_cons] at hp
      rcases List.mem_cons.1 ha with ea | ha'
      · rcases List.mem_cons.1 hb with eb | hb'
        · rw [ea, eb]
        · subst ea; exact absurd hab (hp.1 b hb')
      · rcases List.mem_cons.1 hb with eb | hb'
        · subst eb; exact absurd hab.symm (hp.1 a ha')
        · exact ih hp.2 a ha' b hb' hab
  exact key T hd x hx t ht e
theorem at_live {T : List Tm} (hd : T.Pairwise (fun a b => a.h ≠ b.h)) {i : Nat} {t : Tm} (hi : T[i]? = some t) : liveB T t.h = t.live := by
  cases hl : t.live with
  | true =>
    unfold liveB
    rw [List.any_eq_true]
    exact ⟨t, List.mem_of_getElem? hi, by simp [hl]⟩
  | false =>
    unfold liveB
    rw [List.any_eq_false]
    intro x hx h
    simp at h
    have := only_one hd hi x hx h.1
    rw [this, hl] at h
    cases h.2
theorem at_were {T : List Tm} {i : Nat} {t : Tm} (hi : T[i]? = some t) : wereB T t.h = true := by
  unfold wereB
  rw [List.any_eq_true]
  exact ⟨t, List.mem_of_getElem? hi, by simp⟩
theorem at_dl {T : List Tm} (hd : T.Pairwise (fun a b => a.h ≠ b.h)) {i : Nat} {t : Tm} (hi : T[i]? = some t) : dlOf T t.h = t.dl := by
  unfold dlOf
  cases hf : T.find? (fun x => x.h == t.h) with
  | none =>
    rw [List.find?_eq_none] at hf
    exact absurd (by simp) (hf t (List.mem_of_getElem? hi))
  | some x =>
    have h1 := List.find?_some hf
    have h2 := List.mem_of_find?_eq_some hf
    have := only_one hd hi x h2 (by simpa using h1)
    rw [this]
    rfl

theorem at_place {T : List Tm} (hd : T.Pairwise (fun a b => a.h ≠ b.h)) {i j : Nat} {t u : Tm} (hi : T[i]? = some t) (hj : T[j]? = some u) (e : u.h = t.h) : j = i := by
  obtain ⟨h1, e1⟩ := List.getElem?_eq_some_iff.1 hi
  obtain ⟨h2, e2⟩ := List.getElem?_eq_some_iff.1 hj
  rw [List.pairwise_iff_getElem] at hd
  rcases Nat.lt_trichotomy j i with h | h | h
  · exact absurd (by rw [e1, e2]; exact e) (hd j i h2 h1 h)
  · exact h
  · exact absurd (by rw [e1, e2]; exact e.symm) (hd i j h1 h2 h)
theorem find_none {T : List Tm} (A : Option Addr) (c : Nat) {h : Int} {w : World} (hl : T.length ≤ 1000) (hA : SR w (fun _ => True) A (tmsV T)) (hno : wereB T h = false) :
    Calls Try.prog 18 #[.slice A T.length c, .int .u64 h] w fun e w' => e = .returned (.int .i64 (-1)) ∧ Below w.heap.size w w' := by
  refine (find_any T A c h w hl hA).mono ?_
  rintro e w' ⟨⟨r, rfl, hf⟩, hb⟩
  refine ⟨?_, hb⟩
  rcases hf with ⟨_, rfl⟩ | ⟨i, t, hi, rfl, rfl⟩
  · rfl
  · rw [at_were hi] at hno; cases hno
theorem find_at {T : List Tm} (hd : T.Pairwise (fun a b => a.h ≠ b.h)) (A : Option Addr) (c : Nat) {w : World} (hl : T.length ≤ 1000) (hA : SR w (fun _ => True) A (tmsV T)) {i : Nat} {t : Tm} (hi : T[i]? = some t) :
    Calls Try.prog 18 #[.slice A T.length c, .int .u64 t.h] w fun e w' => e = .returned (.int .i64 i) ∧ Below w.heap.size w w' := by
  refine (find_any T A c t.h w hl hA).mono ?_
  rintro e w' ⟨⟨r, rfl, hf⟩, hb⟩
  refine ⟨?_, hb⟩
  rcases hf with ⟨hno, rfl⟩ | ⟨j, u, hj, hu, rfl⟩
  · rw [at_were hi] at hno; cases hno
  · rw [at_place hd hi hj hu]
theorem were_at {T : List Tm} {h : Int} (hw : wereB T h = true) : ∃ (i : Nat) (t : Tm), T[i]? = some t ∧ t.h = h := by
  unfold wereB at hw
  obtain ⟨t, ht, e⟩ := List.any_eq_true.1 hw
  obtain ⟨i, hi⟩ := List.mem_iff_getElem?.1 ht
  exact ⟨i, t, hi, by simpa using e⟩

set_option maxRecDepth 100000 in
set_option maxHeartbeats 16000000 in
theorem rlegal_any {T : List Tm} (hd : T.Pairwise (fun a b => a.h ≠ b.h)) (A : Option Addr) (c : Nat) (k h dl st now : Int) (w : World) (hl : T.length ≤ 1000) (hA : SR w (fun _ => True) A (tmsV T)) :
    Calls Try.prog 12 #[.slice A T.length c, .agg #[.int .i64 k, .int .u64 h, .int .i64 dl, .int .i64 st], .int .i64 now] w (Answer (legalB T k h dl now) w) := by
  obtain ⟨W1, hW1⟩ : ∃ W1, W1 = w.alloc (.cells #[.int .i64 k, .int .u64 h, .int .i64 dl, .int .i64 st] 28) := ⟨_, rfl⟩
  have hb1 : Below w.heap.size w W1 := by rw [hW1]; exact (Below.refl _ w).alloc (Nat.le_refl _) _
  have hA1 := hA.below hb1
  have hx : W1.heap[w.heap.size]? = some (.cells #[.int .i64 k, .int .u64 h, .int .i64 dl, .int .i64 st] 28 (0, 0)) := by rw [hW1]; exact heap_alloc_new w _
  have hs1 : W1.heap.size = w.heap.size + 1 := by rw [hW1]; simp
  have x1 := cell_of_row W1 w.heap.size 1 _ 28 (0, 0) hx
  simp at x1
  have HW := Lib.hid hW1
  have HX := Lib.hid hx
  clear hW1 hx
  cases hw : wereB T h with
  | false =>
    have hlv := live_were hw
    have hcall := find_none A c hl hA1 hw
    have hL : legalB T k h dl now = (if k = 1 then true else if k = 2 then false else if k = 3 then false else if k = 4 then true else decide (k = 5)) := by simp [legalB, hw, hlv]
    have HL := Lib.hid hL
    clear hL hw hlv
    by_cases k1 : k = 1
    · have t1 : (k == 1) = true := by simp [k1]
      have HR : Hid (legalB T k h dl now = true) := Lib.hid (by rw [HL.out, if_pos k1])
      clear k1
      go_enter Try.func12, Try.ntmps12
      go_wp2_with (go_at_call 18; rw [← HW.out]; refine hcall.mono ?_; rintro e w2 ⟨rfl, hb2⟩; have hx2 := (hb2.block w.heap.size (by omega)).trans HX.out; have v0 := cell_of_row w2 w.heap.size 0 _ 28 (0, 0) hx2; have v2 := cell_of_row w2 w.heap.size 2 _ 28 (0, 0) hx2; simp at v0 v2)
      all_goals go_ret
      all_goals exact ⟨by rw [HR.out]; first | rfl | exact congrArg (fun b => Ending.returned (Value.bool b)) (decide_eq_false (by omega)), (hb1.trans (hb2.mono (by omega)))⟩
    · have t1 : (k == 1) = false := by simp [k1]
      by_cases k2 : k = 2
      · have t2 : (k == 2) = true := by simp [k2]
        have HR : Hid (legalB T k h dl now = false) := Lib.hid (by rw [HL.out, if_neg k1, if_pos k2])
        clear k1 k2
        go_enter Try.func12, Try.ntmps12
        go_wp2_with (go_at_call 18; rw [← HW.out]; refine hcall.mono ?_; rintro e w2 ⟨rfl, hb2⟩; have hx2 := (hb2.block w.heap.size (by omega)).trans HX.out; have v0 := cell_of_row w2 w.heap.size 0 _ 28 (0, 0) hx2; have v2 := cell_of_row w2 w.heap.size 2 _ 28 (0, 0) hx2; simp at v0 v2)
        go_region
        all_goals go_wp2_with fail
        all_goals go_ret
        all_goals exact ⟨by rw [HR.out]; first | rfl | exact congrArg (fun b => Ending.returned (Value.bool b)) (decide_eq_false (by omega)), (hb1.trans (hb2.mono (by omega))).drew⟩
      · have t2 : (k == 2) = false := by simp [k2]
        by_cases k3 : k = 3
        · have t3 : (k == 3) = true := by simp [k3]
          have HR : Hid (legalB T k h dl now = false) := Lib.hid (by rw [HL.out, if_neg k1, if_neg k2, if_pos k3])
          clear k1 k2 k3
          go_enter Try.func12, Try.ntmps12
          go_wp2_with (go_at_call 18; rw [← HW.out]; refine hcall.mono ?_; rintro e w2 ⟨rfl, hb2⟩; have hx2 := (hb2.block w.heap.size (by omega)).trans HX.out; have v0 := cell_of_row w2 w.heap.size 0 _ 28 (0, 0) hx2; have v2 := cell_of_row w2 w.heap.size 2 _ 28 (0, 0) hx2; simp at v0 v2)
          all_goals go_ret
          all_goals exact ⟨by rw [HR.out]; first | rfl | exact congrArg (fun b => Ending.returned (Value.bool b)) (decide_eq_false (by omega)), (hb1.trans (hb2.mono (by omega)))⟩
        · have t3 : (k == 3) = false := by simp [k3]
          by_cases k4 : k = 4
          · have t4 : (k == 4) = true := by simp [k4]
            have HR : Hid (legalB T k h dl now = true) := Lib.hid (by rw [HL.out, if_neg k1, if_neg k2, if_neg k3, if_pos k4])
            clear k1 k2 k3 k4
            go_enter Try.func12, Try.ntmps12
            go_wp2_with (go_at_call 18; rw [← HW.out]; refine hcall.mono ?_; rintro e w2 ⟨rfl, hb2⟩; have hx2 := (hb2.block w.heap.size (by omega)).trans HX.out; have v0 := cell_of_row w2 w.heap.size 0 _ 28 (0, 0) hx2; have v2 := cell_of_row w2 w.heap.size 2 _ 28 (0, 0) hx2; simp at v0 v2)
            all_goals go_ret
            all_goals exact ⟨by rw [HR.out]; first | rfl | exact congrArg (fun b => Ending.returned (Value.bool b)) (decide_eq_false (by omega)), (hb1.trans (hb2.mono (by omega)))⟩
          · have t4 : (k == 4) = false := by simp [k4]
            have HR : Hid (legalB T k h dl now = (k == 5)) := Lib.hid (by rw [HL.out, if_neg k1, if_neg k2, if_neg k3, if_neg k4]; rfl)
            clear k1 k2 k3 k4
            go_enter Try.func12, Try.ntmps12
            go_wp2_with (go_at_call 18; rw [← HW.out]; refine hcall.mono ?_; rintro e w2 ⟨rfl, hb2⟩; have hx2 := (hb2.block w.heap.size (by omega)).trans HX.out; have v0 := cell_of_row w2 w.heap.size 0 _ 28 (0, 0) hx2; have v2 := cell_of_row w2 w.heap.size 2 _ 28 (0, 0) hx2; simp at v0 v2)
            all_goals go_ret
            all_goals exact ⟨by rw [HR.out]; first | rfl | exact congrArg (fun b => Ending.returned (Value.bool b)) (decide_eq_false (by omega)), (hb1.trans (hb2.mono (by omega)))⟩
  | true =>
    obtain ⟨i, t, hi, rfl⟩ := were_at hw
    have hlv := at_live hd hi
    have hdl := at_dl hd hi
    have hcall := find_at hd A c hl hA1 hi
    have hL : legalB T k t.h dl now = (if k = 1 then false else if k = 2 then t.live && t.dl == dl && decide (t.dl ≤ now) else if k = 3 then t.live else if k = 4 then !t.live else decide (k = 5)) := by simp [legalB, hw, hlv, hdl]
    have HL := Lib.hid hL
    have hi1 : (0 : Int) ≤ (i : Int) := Int.natCast_nonneg _
    have hi2 : (i : Int) < (T.length : Int) := by have := (List.getElem?_eq_some_iff.1 hi).1; omega
    clear hL hw hlv hdl
    obtain ⟨b, off, rfl, _, _, hc⟩ := sr_at tmV 3 (fun _ => rfl) (by decide) hA1 (Below.refl _ W1) hi
    by_cases k1 : k = 1
    · have t1 : (k == 1) = true := by simp [k1]
      have HR : Hid (legalB T k t.h dl now = false) := Lib.hid (by rw [HL.out, if_pos k1])
      clear k1
      go_enter Try.func12, Try.ntmps12
      go_wp2_with (go_at_call 18; rw [← HW.out]; refine hcall.mono ?_; rintro e w2 ⟨rfl, hb2⟩; have hx2 := (hb2.block w.heap.size (by omega)).trans HX.out; have v0 := cell_of_row w2 w.heap.size 0 _ 28 (0, 0) hx2; have v2 := cell_of_row w2 w.heap.size 2 _ 28 (0, 0) hx2; simp at v0 v2; obtain ⟨b', off', hbo, _, _, hc2⟩ := sr_at tmV 3 (fun _ => rfl) (by decide) (hA1.below hb2) (Below.refl _ w2) hi; injection hbo with hbo; injection hbo with e1 e2; subst e1 e2; have q1 := hc2 1 _ rfl; have q2 := hc2 2 _ rfl; clear hc2)
      all_goals go_ret
      all_goals exact ⟨by rw [HR.out]; first | rfl | exact congrArg (fun b => Ending.returned (Value.bool b)) (decide_eq_false (by omega)), (hb1.trans (hb2.mono (by omega)))⟩
    · have t1 : (k == 1) = false := by simp [k1]
      by_cases k2 : k = 2
      · have t2 : (k == 2) = true := by simp [k2]
        cases hlive : t.live with
        | false =>
          have HR : Hid (legalB T k t.h dl now = false) := Lib.hid (by rw [HL.out, if_neg k1, if_pos k2, hlive]; rfl)
          clear k1 k2
          go_enter Try.func12, Try.ntmps12
          go_wp2_with (go_at_call 18; rw [← HW.out]; refine hcall.mono ?_; rintro e w2 ⟨rfl, hb2⟩; have hx2 := (hb2.block w.heap.size (by omega)).trans HX.out; have v0 := cell_of_row w2 w.heap.size 0 _ 28 (0, 0) hx2; have v2 := cell_of_row w2 w.heap.size 2 _ 28 (0, 0) hx2; simp at v0 v2; obtain ⟨b', off', hbo, _, _, hc2⟩ := sr_at tmV 3 (fun _ => rfl) (by decide) (hA1.below hb2) (Below.refl _ w2) hi; injection hbo with hbo; injection hbo with e1 e2; subst e1 e2; have q1 := hc2 1 _ rfl; have q2 := hc2 2 _ rfl; rw [hlive] at q2; clear hc2)
          go_region
          all_goals go_wp2_with fail
          all_goals go_ret
          all_goals exact ⟨by rw [HR.out]; first | rfl | exact congrArg (fun b => Ending.returned (Value.bool b)) (decide_eq_false (by omega)), (hb1.trans (hb2.mono (by omega))).drew⟩
        | true =>
          by_cases hdl : t.dl = dl
          · have t4 : (t.dl == dl) = true := by simp [hdl]
            have HR : Hid (legalB T k t.h dl now = decide (dl ≤ now)) := Lib.hid (by rw [HL.out, if_neg k1, if_pos k2, hlive, hdl]; simp)
            clear k1 k2 hdl
            go_enter Try.func12, Try.ntmps12
            go_wp2_with (go_at_call 18; rw [← HW.out]; refine hcall.mono ?_; rintro e w2 ⟨rfl, hb2⟩; have hx2 := (hb2.block w.heap.size (by omega)).trans HX.out; have v0 := cell_of_row w2 w.heap.size 0 _ 28 (0, 0) hx2; have v2 := cell_of_row w2 w.heap.size 2 _ 28 (0, 0) hx2; simp at v0 v2; obtain ⟨b', off', hbo, _, _, hc2⟩ := sr_at tmV 3 (fun _ => rfl) (by decide) (hA1.below hb2) (Below.refl _ w2) hi; injection hbo with hbo; injection hbo with e1 e2; subst e1 e2; have q1 := hc2 1 _ rfl; have q2 := hc2 2 _ rfl; rw [hlive] at q2; clear hc2)
            go_region
            all_goals go_wp2_with fail
            all_goals go_ret
            all_goals exact ⟨by rw [HR.out]; first | rfl | exact congrArg (fun b => Ending.returned (Value.bool b)) (decide_eq_false (by omega)), (hb1.trans (hb2.mono (by omega))).drew⟩
          · have t4 : (t.dl == dl) = false := by simp [hdl]
            have HR : Hid (legalB T k t.h dl now = false) := Lib.hid (by rw [HL.out, if_neg k1, if_pos k2, hlive, t4]; rfl)
            clear k1 k2 hdl
            go_enter Try.func12, Try.ntmps12
            go_wp2_with (go_at_call 18; rw [← HW.out]; refine hcall.mono ?_; rintro e w2 ⟨rfl, hb2⟩; have hx2 := (hb2.block w.heap.size (by omega)).trans HX.out; have v0 := cell_of_row w2 w.heap.size 0 _ 28 (0, 0) hx2; have v2 := cell_of_row w2 w.heap.size 2 _ 28 (0, 0) hx2; simp at v0 v2; obtain ⟨b', off', hbo, _, _, hc2⟩ := sr_at tmV 3 (fun _ => rfl) (by decide) (hA1.below hb2) (Below.refl _ w2) hi; injection hbo with hbo; injection hbo with e1 e2; subst e1 e2; have q1 := hc2 1 _ rfl; have q2 := hc2 2 _ rfl; rw [hlive] at q2; clear hc2)
            go_region
            all_goals go_wp2_with fail
            all_goals go_ret
            all_goals exact ⟨by rw [HR.out]; first | rfl | exact congrArg (fun b => Ending.returned (Value.bool b)) (decide_eq_false (by omega)), (hb1.trans (hb2.mono (by omega))).drew⟩
      · have t2 : (k == 2) = false := by simp [k2]
        by_cases k3 : k = 3
        · have t3 : (k == 3) = true := by simp [k3]
          have HR : Hid (legalB T k t.h dl now = t.live) := Lib.hid (by rw [HL.out, if_neg k1, if_neg k2, if_pos k3])
          clear k1 k2 k3
          go_enter Try.func12, Try.ntmps12
          go_wp2_with (go_at_call 18; rw [← HW.out]; refine hcall.mono ?_; rintro e w2 ⟨rfl, hb2⟩; have hx2 := (hb2.block w.heap.size (by omega)).trans HX.out; have v0 := cell_of_row w2 w.heap.size 0 _ 28 (0, 0) hx2; have v2 := cell_of_row w2 w.heap.size 2 _ 28 (0, 0) hx2; simp at v0 v2; obtain ⟨b', off', hbo, _, _, hc2⟩ := sr_at tmV 3 (fun _ => rfl) (by decide) (hA1.below hb2) (Below.refl _ w2) hi; injection hbo with hbo; injection hbo with e1 e2; subst e1 e2; have q1 := hc2 1 _ rfl; have q2 := hc2 2 _ rfl; clear hc2)
          all_goals go_ret
          all_goals exact ⟨by rw [HR.out]; first | rfl | exact congrArg (fun b => Ending.returned (Value.bool b)) (decide_eq_false (by omega)), (hb1.trans (hb2.mono (by omega)))⟩
        · have t3 : (k == 3) = false := by simp [k3]
          by_cases k4 : k = 4
          · have t4 : (k == 4) = true := by simp [k4]
            have HR : Hid (legalB T k t.h dl now = !t.live) := Lib.hid (by rw [HL.out, if_neg k1, if_neg k2, if_neg k3, if_pos k4])
            clear k1 k2 k3 k4
            go_enter Try.func12, Try.ntmps12
            go_wp2_with (go_at_call 18; rw [← HW.out]; refine hcall.mono ?_; rintro e w2 ⟨rfl, hb2⟩; have hx2 := (hb2.block w.heap.size (by omega)).trans HX.out; have v0 := cell_of_row w2 w.heap.size 0 _ 28 (0, 0) hx2; have v2 := cell_of_row w2 w.heap.size 2 _ 28 (0, 0) hx2; simp at v0 v2; obtain ⟨b', off', hbo, _, _, hc2⟩ := sr_at tmV 3 (fun _ => rfl) (by decide) (hA1.below hb2) (Below.refl _ w2) hi; injection hbo with hbo; injection hbo with e1 e2; subst e1 e2; have q1 := hc2 1 _ rfl; have q2 := hc2 2 _ rfl; clear hc2)
            all_goals go_ret
            all_goals exact ⟨by rw [HR.out]; first | rfl | exact congrArg (fun b => Ending.returned (Value.bool b)) (decide_eq_false (by omega)), (hb1.trans (hb2.mono (by omega)))⟩
          · have t4 : (k == 4) = false := by simp [k4]
            have HR : Hid (legalB T k t.h dl now = (k == 5)) := Lib.hid (by rw [HL.out, if_neg k1, if_neg k2, if_neg k3, if_neg k4]; rfl)
            clear k1 k2 k3 k4
            go_enter Try.func12, Try.ntmps12
            go_wp2_with (go_at_call 18; rw [← HW.out]; refine hcall.mono ?_; rintro e w2 ⟨rfl, hb2⟩; have hx2 := (hb2.block w.heap.size (by omega)).trans HX.out; have v0 := cell_of_row w2 w.heap.size 0 _ 28 (0, 0) hx2; have v2 := cell_of_row w2 w.heap.size 2 _ 28 (0, 0) hx2; simp at v0 v2; obtain ⟨b', off', hbo, _, _, hc2⟩ := sr_at tmV 3 (fun _ => rfl) (by decide) (hA1.below hb2) (Below.refl _ w2) hi; injection hbo with hbo; injection hbo with e1 e2; subst e1 e2; have q1 := hc2 1 _ rfl; have q2 := hc2 2 _ rfl; clear hc2)
            all_goals go_ret
            all_goals exact ⟨by rw [HR.out]; first | rfl | exact congrArg (fun b => Ending.returned (Value.bool b)) (decide_eq_false (by omega)), (hb1.trans (hb2.mono (by omega)))⟩
end Go.Proofs.Ytoikjokdabpmoaa
