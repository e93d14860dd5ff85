/- (*Model).Do, walked. -/
import Derived.Test.YtoikjokdabpmoaaLegal
import Derived.Test.YtoikjokdabpmoaaEnt
import Derived.WalkSpells
namespace Go.Proofs.Ytoikjokdabpmoaa
open Go.RowKit Go.Maps

/-- The model has turned. -/
def Turned (b : Bool) (w : World) (F : Nat → Prop) (mp bl bw : Nat) (T : List Tm) (e : Ending) (w' : World) : Prop := e = .returned (.bool b) ∧ ModAt w' F mp bl bw T ∧ Upd F w w'

theorem liveB_append (T : List Tm) (t : Tm) (h : Int) : liveB (T ++ [t]) h = (liveB T h || (t.h == h && t.live)) := by simp [liveB]
theorem wereB_append (T : List Tm) (t : Tm) (h : Int) : wereB (T ++ [t]) h = (wereB T h || t.h == h) := by simp [wereB]
theorem live_were {T : List Tm} {h : Int} (hn : wereB T h = false) : liveB T h = false := by
  unfold wereB at hn
  unfold liveB
  rw [List.any_eq_false] at hn ⊢
  intro t ht
  have := hn t ht
  simp at this ⊢
  exact fun e => absurd e this
theorem dlOf_append_old {T : List Tm} {t : Tm} {h : Int} (hw : wereB T h = true) : dlOf (T ++ [t]) h = dlOf T h := by
  unfold dlOf
  rw [List.find?_append]
  unfold wereB at hw
  rw [List.any_eq_true] at hw
  obtain ⟨x, hx, he⟩ := hw
  cases hf : T.find? fun t => t.h == h with
  | none => rw [List.find?_eq_none] at hf; exact absurd he (hf x hx)
  | some y => rfl
theorem dlOf_append_new {T : List Tm} {t : Tm} (hw : wereB T t.h = false) : dlOf (T ++ [t]) t.h = t.dl := by
  unfold dlOf
  rw [List.find?_append]
  unfold wereB at hw
  rw [List.any_eq_false] at hw
  have : T.find? (fun x => x.h == t.h) = none := List.find?_eq_none.2 hw
  rw [this]
  simp
theorem lit_ne {h x : Int} (e : x ≠ h) : (Lit.int .u64 x) ≠ .int .u64 h := fun e2 => e (by injection e2)
theorem were_of_live {T : List Tm} {h : Int} (hl : liveB T h = true) : wereB T h = true := by
  cases hw : wereB T h with
  | true => rfl
  | false => rw [live_were hw] at hl; cases hl

theorem liveD_put {D : DataW Unit} {T : List Tm} (hI : IsMap D) (hD : LiveD D T) (h dl : Int) (hno : wereB T h = false) : LiveD (D.put (.int .u64 h) (.lit (.int .i64 dl))) (T ++ [⟨h, dl, true⟩]) := by
  refine ⟨fun x => ?_, fun x hx => ?_⟩
  · rw [liveB_append]
    by_cases e : x = h
    · subst e
      rw [has_put_same hI (show WideAt.IsKeyLit (.int .u64 x) from trivial)]
      simp
    · rw [has_put_other (lit_ne e), hD.1 x]
      simp [Ne.symm e]
  · rw [liveB_append] at hx
    by_cases e : x = h
    · subst e
      rw [atKey_put_same hI (show WideAt.IsKeyLit (.int .u64 x) from trivial), dlOf_append_new (t := ⟨x, dl, true⟩) hno]
    · have hx' : liveB T x = true := by simpa [Ne.symm e] using hx
      rw [atKey_put_other (lit_ne e), hD.2 x hx', dlOf_append_old (were_of_live hx')]
theorem wereD_put {D : DataW Unit} {T : List Tm} (hI : IsMap D) (hD : WereD D T) (h dl : Int) (lv : Bool) : WereD (D.put (.int .u64 h) (.lit (.int .i64 dl))) (T ++ [⟨h, dl, lv⟩]) := by
  intro x
  rw [wereB_append]
  by_cases e : x = h
  · subst e
    rw [has_put_same hI (show WideAt.IsKeyLit (.int .u64 x) from trivial)]
    simp
  · rw [has_put_other (lit_ne e), hD x]
    simp [Ne.symm e]
theorem kill_were (T : List Tm) (h x : Int) : wereB (kill T h) x = wereB T x := by
  unfold wereB kill
  rw [List.any_map]
  congr 1
  funext t
  simp only [Function.comp]
  split <;> rfl
theorem kill_live (T : List Tm) (h x : Int) : liveB (kill T h) x = (liveB T x && !(x == h)) := by
  unfold liveB kill
  rw [List.any_map]
  induction T with
  | nil => rfl
  | cons t r ih =>
    simp only [List.any_cons, Function.comp] at ih ⊢
    rw [ih]
    by_cases e2 : x = h
    · have e2' : (x == h) = true := by simp [e2]
      rw [e2']
      by_cases e : t.h = h
      · rw [if_pos e]; simp
      · rw [if_neg e, e2]; simp [e]
    · have e2' : (x == h) = false := by simp [e2]
      rw [e2']
      by_cases e : t.h = h
      · rw [if_pos e, e]; simp [Ne.symm e2]
      · rw [if_neg e]; simp
theorem kill_dl (T : List Tm) (h x : Int) : dlOf (kill T h) x = dlOf T x := by
  unfold dlOf kill
  rw [List.find?_map]
  have : ((fun t : Tm => t.h == x) ∘ fun t => if t.h = h then { t with live := false } else t) = fun t : Tm => t.h == x := by
    funext t
    simp only [Function.comp]
    split <;> rfl
  rw [this]
  cases T.find? fun t => t.h == x with
  | none => rfl
  | some y =>
    simp only [Option.map_some, Option.getD_some]
    split <;> rfl
theorem liveD_del {D : DataW Unit} {T : List Tm} (hD : LiveD D T) (h : Int) : LiveD (D.del (.int .u64 h)) (kill T h) := by
  refine ⟨fun x => ?_, fun x hx => ?_⟩
  · rw [kill_live]
    by_cases e : x = h
    · subst e
      rw [has_del_same]
      simp
    · rw [has_del_other (lit_ne e), hD.1 x]
      simp [e]
  · rw [kill_live] at hx
    have e : x ≠ h := by rintro rfl; simp at hx
    have hx' : liveB T x = true := by simpa [e] using hx
    rw [atKey_del_other (lit_ne e), hD.2 x hx', kill_dl]

theorem ModAt.nel {w : World} {F : Nat → Prop} {mp bl bw : Nat} {T : List Tm} (h : ModAt w F mp bl bw T) {b : Nat} {o : Obj} (hb : w.heap[b]? = some o) (ho : ∀ es c, o ≠ .map es c) : b ≠ bl ∧ b ≠ bw := by
  obtain ⟨D, ⟨es, c, hm, _⟩, _⟩ := h.live
  obtain ⟨E, ⟨es2, c2, hm2, _⟩, _⟩ := h.were
  constructor
  · rintro rfl; rw [hm] at hb; injection hb with hb; exact ho es c hb.symm
  · rintro rfl; rw [hm2] at hb; injection hb with hb; exact ho es2 c2 hb.symm
theorem MapAt.isMap {w : World} {b n : Nat} {D : DataW Unit} (h : MapAt w b n D) : IsMap D := by
  obtain ⟨es, c, _, _, _, rfl⟩ := h
  exact ⟨_, rfl⟩

/-- A timer noted: an entry in each map, then its value. -/
theorem ModAt.noted {W : World} {F : Nat → Prop} {mp bl bw : Nat} {T : List Tm} (hM : ModAt W F mp bl bw T) {h : Int} (hh : wfU h) (hn : T.length < maxLen) (hno : wereB T h = false) (dl : Int) :
    ∃ (s1 s2 : Nat) (WE WS WF WG : World),
      (Instr.mapEntry 42 (.map (some bl)) (.int .u64 h)).run Try.prog W = .ok (.tuple #[.agg #[.int .i64 0], .int .i64 s1]) WE ∧
      (Instr.entryStore 42 (.map (some bl)) (.int .i64 s1) (.agg #[.int .i64 dl])).run Try.prog WE = .ok () WS ∧
      (Instr.mapEntry 42 (.map (some bw)) (.int .u64 h)).run Try.prog WS = .ok (.tuple #[.agg #[.int .i64 0], .int .i64 s2]) WF ∧
      (Instr.entryStore 42 (.map (some bw)) (.int .i64 s2) (.agg #[.int .i64 dl])).run Try.prog WF = .ok () WG ∧
      (∀ X, X = WE ∨ X = WS ∨ X = WF ∨ X = WG → Upd (fun k => k = bl ∨ k = bw) W X) ∧ ModAt WG F mp bl bw (T ++ [⟨h, dl, true⟩]) := by
  obtain ⟨D, hm, hD⟩ := hM.live
  obtain ⟨E, hm2, hE⟩ := hM.were
  obtain ⟨s1, WE, WS, r1, r2, hS, u1, u2⟩ := entry_new hm hn hh (by rw [hD.1 h]; exact live_were hno) dl
  have hm2S : MapAt WS bw T.length E := map_upd u2 hm2 (Ne.symm hM.ne)
  obtain ⟨s2, WF, WG, r3, r4, hG, u3, u4⟩ := entry_new hm2S hn hh (by rw [hE h]; exact hno) dl
  have v2 : Upd (fun k => k = bl ∨ k = bw) W WS := u2.mono fun _ _ e => .inl e
  have v3 : Upd (fun k => k = bl ∨ k = bw) W WF := v2.trans u3 fun _ _ e => .inr e
  have v4 : Upd (fun k => k = bl ∨ k = bw) W WG := v2.trans u4 fun _ _ e => .inr e
  obtain ⟨n1, n2⟩ := hM.nel hM.fields (fun _ _ e => by cases e)
  refine ⟨s1, s2, WE, WS, WF, WG, r1, r2, r3, r4, ?_, ?_⟩
  · rintro X (rfl | rfl | rfl | rfl)
    · exact u1.mono fun _ _ e => .inl e
    · exact v2
    · exact v3
    · exact v4
  · refine { fields := v4.heap hM.fields (by rintro (e | e) <;> contradiction), live := ⟨_, by simpa using map_upd u4 hS hM.ne, liveD_put hm.isMap hD h dl hno⟩, were := ⟨_, by simpa using hG, wereD_put hm2.isMap hE h dl true⟩, ne := hM.ne, dist := ?_, wf := ?_, fm := hM.fm, fl := hM.fl, fw := hM.fw }
    · refine List.pairwise_append.2 ⟨hM.dist, List.pairwise_singleton _ _, fun a ha b hb => ?_⟩
      rw [List.mem_singleton.1 hb]
      unfold wereB at hno
      rw [List.any_eq_false] at hno
      simpa using hno a ha
    · intro t ht
      rcases List.mem_append.1 ht with ht | ht
      · exact hM.wf t ht
      · rw [List.mem_singleton.1 ht]; exact hh
/-- A timer struck. -/
theorem ModAt.struck {W : World} {F : Nat → Prop} {mp bl bw : Nat} {T : List Tm} (hM : ModAt W F mp bl bw T) {h : Int} (hh : wfU h) (ty : TypeId) :
    ∃ W', (Builtin.delete_ #[42, 23] ty #[.map (some bl), .int .u64 h]).run Try.prog W = .ok (.tuple #[]) W' ∧ Upd (· = bl) W W' ∧ ModAt W' F mp bl bw (kill T h) := by
  obtain ⟨D, hm, hD⟩ := hM.live
  obtain ⟨E, hm2, hE⟩ := hM.were
  obtain ⟨W', r, hm', u⟩ := drop_any hm hh ty
  obtain ⟨n1, n2⟩ := hM.nel hM.fields (fun _ _ e => by cases e)
  refine ⟨W', r, u, { fields := u.heap hM.fields n1, live := ⟨_, by simpa [kill] using hm', liveD_del hD h⟩, were := ⟨E, by simpa [kill] using map_upd u hm2 (Ne.symm hM.ne), fun x => by rw [kill_were]; exact hE x⟩, ne := hM.ne, dist := ?_, wf := ?_, fm := hM.fm, fl := hM.fl, fw := hM.fw }⟩
  · unfold kill
    rw [List.pairwise_map]
    refine hM.dist.imp fun hab => ?_
    split <;> split <;> exact hab
  · intro t ht
    unfold kill at ht
    obtain ⟨x, hx, rfl⟩ := List.mem_map.1 ht
    split
    · exact hM.wf x hx
    · exact hM.wf x hx

theorem Do_nil (k h dl st now : Int) (w : World) : Calls Try.prog 9 #[.pointer none, .agg #[.int .i64 k, .int .u64 h, .int .i64 dl, .int .i64 st], .int .i64 now] w (Answer false w) := by
  go_enter Try.func9, Try.ntmps9
  go_wp2_with (go_at_call 11; refine (Legal_nil k h dl st now _).mono ?_; rintro e w' ⟨rfl, hb⟩)
  go_ret
  refine ⟨rfl, ((Below.refl _ w).alloc (Nat.le_refl _) _).trans (hb.mono (by simp))⟩

set_option maxRecDepth 100000 in
set_option maxHeartbeats 16000000 in
theorem Do_any {w : World} {F : Nat → Prop} {mp bl bw : Nat} {T : List Tm} (hM : ModAt w F mp bl bw T) (k h dl st now : Int) (hh : wfU h) (hn : T.length < maxLen) :
    Calls Try.prog 9 #[.pointer (some ⟨mp, 0, none⟩), .agg #[.int .i64 k, .int .u64 h, .int .i64 dl, .int .i64 st], .int .i64 now] w (Turned (legalB T k h dl now) w F mp bl bw (doT T k h dl now)) := by
  obtain ⟨W1, hW1⟩ : ∃ W1, W1 = w.alloc (.cells #[.int .i64 k, .int .u64 h, .int .i64 dl, .int .i64 st] 28) := ⟨_, rfl⟩
  have hb1 : Below w.heap.size w W1 := by rw [hW1]; exact (Below.refl _ w).alloc (Nat.le_refl _) _
  have hM1 := hM.below hb1
  have hx : W1.heap[w.heap.size]? = some (.cells #[.int .i64 k, .int .u64 h, .int .i64 dl, .int .i64 st] 28 (0, 0)) := by rw [hW1]; exact heap_alloc_new w _
  have hs1 : W1.heap.size = w.heap.size + 1 := by rw [hW1]; simp
  have x0 := cell_of_row W1 w.heap.size 0 _ 28 (0, 0) hx
  have x1 := cell_of_row W1 w.heap.size 1 _ 28 (0, 0) hx
  have x2 := cell_of_row W1 w.heap.size 2 _ 28 (0, 0) hx
  have x3 := cell_of_row W1 w.heap.size 3 _ 28 (0, 0) hx
  simp at x0 x1 x2 x3
  have HW := Lib.hid hW1
  have HX := Lib.hid hx
  clear hW1 hx
  have hcall := Legal_any hM1 k h dl st now hh
  have hnil := fun W => run_eql_map_nil (P := Try.prog) W 42 23 46 (some bw) Try.underlying42
  cases hL : legalB T k h dl now with
  | false =>
    rw [hL] at hcall
    go_enter Try.func9, Try.ntmps9

    go_wp2_with (go_at_call 11; rw [← HW.out]; refine hcall.mono ?_; rintro e w2 ⟨rfl, hb2⟩)
    go_ret
    have hb := hb1.trans (hb2.mono (by omega))
    exact ⟨rfl, by unfold doT; rw [hL]; exact hM.below hb, Upd.of_below F hb⟩
  | true =>
    rw [hL] at hcall
    by_cases k1 : k = 1
    · have t1 : (k == 1) = true := by simp [k1]
      have hw0 : wereB T h = false := by simpa [legalB, k1] using hL
      have hd : doT T k h dl now = T ++ [⟨h, dl, true⟩] := by unfold doT; rw [if_pos hL, if_pos k1]
      have HD := Lib.hid hd
      have H0 := Lib.hid hw0
      clear hd hw0 hL k1
      go_enter Try.func9, Try.ntmps9

      go_wp2_with (go_at_call 11; rw [← HW.out]; refine hcall.mono ?_; rintro e w2 ⟨rfl, hb2⟩; have hM2 := hM1.below hb2; have y1 := hM2.cell1; have hx2 := (hb2.block w.heap.size (by omega)).trans HX.out; have v0 := cell_of_row w2 w.heap.size 0 _ 28 (0, 0) hx2; have v1 := cell_of_row w2 w.heap.size 1 _ 28 (0, 0) hx2; have v2 := cell_of_row w2 w.heap.size 2 _ 28 (0, 0) hx2; simp at v0 v1 v2)
      obtain ⟨W6, hW6⟩ : ∃ W6, W6 = w2.alloc (.cells #[.int .i64 dl] 46) := ⟨_, rfl⟩
      have hb26 : Below w2.heap.size w2 W6.drew := by rw [hW6]; exact ((Below.refl _ _).alloc (Nat.le_refl _) _).drew
      have hM6 := hM2.below hb26
      have hx6 := (hb26.block w.heap.size (by have := hb2.size; omega)).trans hx2
      have hd6 : W6.drew.heap[w2.heap.size]? = some (.cells #[.int .i64 dl] 46 (0, 0)) := by rw [hW6]; exact heap_alloc_new w2 _
      obtain ⟨s1, s2, WE, WS, WF, WG, r1, r2, r3, r4, hU, hMG⟩ := hM6.noted hh hn H0.out dl
      have cs : ∀ X, Upd (fun k => k = bl ∨ k = bw) W6.drew X → X.cell? ⟨mp, 0, none⟩ = some (.map (some bl)) ∧ X.cell? ⟨mp, 1, none⟩ = some (.map (some bw)) ∧ X.cell? ⟨w.heap.size, 1, none⟩ = some (.int .u64 h) ∧ X.cell? ⟨w2.heap.size, 0, none⟩ = some (.int .i64 dl) := fun X hX => by
        have n0 := hM6.nel hM6.fields (fun _ _ e => by cases e)
        have n1 := hM6.nel hx6 (fun _ _ e => by cases e)
        have n2 := hM6.nel hd6 (fun _ _ e => by cases e)
        have q0 := hX.heap hM6.fields (by rintro (e | e) <;> omega)
        have q1 := hX.heap hx6 (by rintro (e | e) <;> omega)
        have q2 := hX.heap hd6 (by rintro (e | e) <;> omega)
        have c0 := cell_of_row X mp 0 _ 44 (0, 0) q0
        have c1 := cell_of_row X mp 1 _ 44 (0, 0) q0
        have c2 := cell_of_row X w.heap.size 1 _ 28 (0, 0) q1
        have c3 := cell_of_row X w2.heap.size 0 _ 46 (0, 0) q2
        exact ⟨c0, c1, c2, c3⟩
      obtain ⟨d0, d1, d2, d3⟩ := cs W6.drew (Upd.refl _ _)
      obtain ⟨e0, e1, e2, e3⟩ := cs WE (hU _ (.inl rfl))
      obtain ⟨f0, f1, f2, f3⟩ := cs WS (hU _ (.inr (.inl rfl)))
      obtain ⟨g0, g1, g2, g3⟩ := cs WF (hU _ (.inr (.inr (.inl rfl))))
      have hUG := Lib.hid (hU WG (.inr (.inr (.inr rfl))))
      have HB := Lib.hid ((hb1.trans (hb2.mono (by omega))).trans (hb26.mono (by have := hb2.size; omega)))
      have HF := Lib.hid (And.intro hM.fl hM.fw)
      rw [← hW6]
      clear hW6 hU cs hnil x0 x1 x2 x3 hM1 hM v0 v1 v2 hx2 hx6 hd6 y1
      have HMG := Lib.hid hMG
      clear hMG
      go_region
      all_goals go_wp2_with fail
      all_goals go_ret
      all_goals exact ⟨rfl, HD.out ▸ HMG.out, (Upd.of_below F HB.out).trans hUG.out (fun i _ e => e.elim (fun e => e ▸ HF.out.1) (fun e => e ▸ HF.out.2))⟩
    · have t1 : (k == 1) = false := by simp [k1]
      by_cases k23 : k = 2 ∨ k = 3
      · have hd : doT T k h dl now = kill T h := by unfold doT; rw [if_pos hL, if_neg k1, if_pos k23]
        have HD := Lib.hid hd
        have HK := Lib.hid k23
        have t23 : ((k == 2) = true) ∨ ((k == 2) = false ∧ (k == 3) = true) := by
          rcases k23 with e | e
          · exact .inl (by simp [e])
          · exact .inr ⟨by simp [e], by simp [e]⟩
        clear hd hL k1 k23
        rcases t23 with t2 | ⟨t2, t3⟩
        all_goals
          go_enter Try.func9, Try.ntmps9
          go_wp2_with (go_at_call 11; rw [← HW.out]; refine hcall.mono ?_; rintro e w2 ⟨rfl, hb2⟩; have hM2 := hM1.below hb2; have y1 := hM2.cell1; have hx2 := (hb2.block w.heap.size (by omega)).trans HX.out; have v0 := cell_of_row w2 w.heap.size 0 _ 28 (0, 0) hx2; simp at v0)
          have hbd : Below w2.heap.size w2 w2.drew := (Below.refl _ _).drew
          have hM6 := hM2.below hbd
          have hx6 := (hbd.block w.heap.size (by have := hb2.size; omega)).trans hx2
          obtain ⟨W9, r9, u9, hM9⟩ := hM6.struck hh 0
          have d0 := hM6.cell0
          have d1 := cell_of_row w2.drew w.heap.size 1 _ 28 (0, 0) hx6
          simp at d1
          have HB := Lib.hid ((hb1.trans (hb2.mono (by omega))).trans (hbd.mono (by have := hb2.size; omega)))
          have HF := Lib.hid hM.fl
          have HU := Lib.hid u9
          have HM := Lib.hid hM9
          clear hM9 u9 hM2 hM1 hM x0 x1 x2 x3 v0 hx2 hx6 y1
          go_region
          all_goals go_wp2_with fail
          all_goals go_ret
          all_goals exact ⟨rfl, HD.out ▸ HM.out, (Upd.of_below F HB.out).trans HU.out (by rintro i _ rfl; exact HF.out)⟩
      · have hd : doT T k h dl now = T := by unfold doT; rw [if_pos hL, if_neg k1, if_neg k23]
        have HD := Lib.hid hd
        have k2 : ¬ k = 2 := fun e => k23 (Or.inl e)
        have k3 : ¬ k = 3 := fun e => k23 (Or.inr e)
        have t2 : (k == 2) = false := by simp [k2]
        have t3 : (k == 3) = false := by simp [k3]
        clear k2 k3
        clear hd hL k1 k23
        go_enter Try.func9, Try.ntmps9
        go_wp2_with (go_at_call 11; rw [← HW.out]; refine hcall.mono ?_; rintro e w2 ⟨rfl, hb2⟩; have hM2 := hM1.below hb2; have y1 := hM2.cell1; have hx2 := (hb2.block w.heap.size (by omega)).trans HX.out; have v0 := cell_of_row w2 w.heap.size 0 _ 28 (0, 0) hx2; simp at v0)
        go_ret
        have hb := hb1.trans (hb2.mono (by omega))
        exact ⟨rfl, by rw [HD.out]; exact hM.below hb, Upd.of_below F hb⟩
end Go.Proofs.Ytoikjokdabpmoaa
