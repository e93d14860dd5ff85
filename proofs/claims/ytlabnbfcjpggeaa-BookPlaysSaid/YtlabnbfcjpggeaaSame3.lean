/- The reference's Same of histories, walked where both sides read alike; its Under and Threads. -/
import Derived.Test.YtlabnbfcjpggeaaSame2
namespace Go.Proofs.Ytlabnbfcjpggeaa
open Go.RowKit Go.Maps

/-- Records as somebody reads them. -/
structure Recs (w : World) (G : Nat → Prop) (A : Option Addr) (L : List (RH × Rec)) : Prop where
  row : SR w G A (recsV L)
  batch : ∀ p ∈ L, SR w G p.1.Ab (duesV p.2.batch)
  acts : ∀ p ∈ L, SR w G p.1.Aa (actsV p.2.acts)
theorem Recs.upd {w w' : World} {G F : Nat → Prop} {A : Option Addr} {L : List (RH × Rec)} (h : Recs w G A L) (hu : Upd F w w') (hd : ∀ k, G k → k < w.heap.size → ¬ F k) : Recs w' G A L :=
  ⟨h.row.upd hu hd, fun p hp => (h.batch p hp).upd hu hd, fun p hp => (h.acts p hp).upd hu hd⟩
theorem Recs.below {w w' : World} {G : Nat → Prop} {A : Option Addr} {L : List (RH × Rec)} (h : Recs w G A L) (hb : Below w.heap.size w w') : Recs w' G A L :=
  ⟨h.row.below hb, fun p hp => (h.batch p hp).below hb, fun p hp => (h.acts p hp).below hb⟩
theorem Recs.mono {w : World} {G G' : Nat → Prop} {A : Option Addr} {L : List (RH × Rec)} (h : Recs w G A L) (hG : ∀ k, k < w.heap.size → G k → G' k) : Recs w G' A L :=
  ⟨h.row.mono hG, fun p hp => (h.batch p hp).mono hG, fun p hp => (h.acts p hp).mono hG⟩

set_option maxRecDepth 100000 in
set_option maxHeartbeats 4000000 in
theorem sameRec_any (L M : List (RH × Rec)) (A B : Option Addr) (ca cb : Nat) (w : World) (hLM : L.map (·.2) = M.map (·.2)) (hl : L.length ≤ 1000) (hA : Recs w (fun _ => True) A L) (hB : Recs w (fun _ => True) B M)
    (hn : ∀ p ∈ L, p.2.batch.length * 24 ≤ 140737488355328 ∧ p.2.acts.length * 24 ≤ 140737488355328) :
    Calls Try.prog 14 #[.slice A L.length ca, .slice B M.length cb] w fun e w' => e = .returned (.bool true) ∧ Below w.heap.size w w' := by
  have hlen : M.length = L.length := by have h := congrArg List.length hLM; rw [List.length_map, List.length_map] at h; exact h.symm
  rw [hlen]
  go_enter Try.func14, Try.ntmps14
  go_wp2_with fail
  go_loopw [5] (fun v5 wr => ∃ i : Nat, i ≤ L.length ∧ v5 = .int .i64 i ∧ Below w.heap.size w wr) (fun v5 _ => L.length - (intOf v5).toNat)
  case atStart => exact ⟨0, Nat.zero_le _, rfl, Below.refl _ _⟩
  case round =>
    obtain ⟨i, hil, rfl, hbw⟩ := hrel
    by_cases hlt : i < L.length
    · obtain ⟨x, hx⟩ : ∃ x, L[i]? = some x := ⟨_, List.getElem?_eq_getElem hlt⟩
      obtain ⟨y, hy⟩ : ∃ y, M[i]? = some y := ⟨_, List.getElem?_eq_getElem (by omega)⟩
      have hxy : x.2 = y.2 := by
        have h := congrArg (·[i]?) hLM
        simp only [List.getElem?_map, hx, hy] at h
        injection h
      have hxm : x ∈ L := List.mem_iff_getElem?.2 ⟨i, hx⟩
      have hym : y ∈ M := List.mem_iff_getElem?.2 ⟨i, hy⟩
      obtain ⟨b, off, rfl, _, _, hc⟩ := sr_at recV 14 recV_len (by decide) hA.row hbw hx
      obtain ⟨b', off', rfl, _, _, hc'⟩ := sr_at recV 14 recV_len (by decide) hB.row hbw hy
      have C := fun (W : World) (h : Below w.heap.size w W) => one_any x y W hxy ((hA.batch x hxm).below h) ((hB.batch y hym).below h) ((hA.acts x hxm).below h) ((hB.acts y hym).below h) (hn x hxm).1 (hn x hxm).2
      simp only [recA, recV, bSl, aSl] at C
      have hws := hbw.size
      have cC := fun d os => Calls.regrown_of (C _ (hbw.trans ((below_regrown wr d os).mono hws)))
      have q0 := cell_regrown (hc 0 _ rfl)
      have p0 := cell_regrown (hc' 0 _ rfl)
      have q1 := cell_regrown (hc 1 _ rfl)
      have p1 := cell_regrown (hc' 1 _ rfl)
      have q2 := cell_regrown (hc 2 _ rfl)
      have p2 := cell_regrown (hc' 2 _ rfl)
      have q3 := cell_regrown (hc 3 _ rfl)
      have p3 := cell_regrown (hc' 3 _ rfl)
      have q4 := cell_regrown (hc 4 _ rfl)
      have p4 := cell_regrown (hc' 4 _ rfl)
      have q5 := cell_regrown (hc 5 _ rfl)
      have p5 := cell_regrown (hc' 5 _ rfl)
      have q6 := cell_regrown (hc 6 _ rfl)
      have p6 := cell_regrown (hc' 6 _ rfl)
      have q7 := cell_regrown (hc 7 _ rfl)
      have p7 := cell_regrown (hc' 7 _ rfl)
      have q8 := cell_regrown (hc 8 _ rfl)
      have p8 := cell_regrown (hc' 8 _ rfl)
      have q9 := cell_regrown (hc 9 _ rfl)
      have p9 := cell_regrown (hc' 9 _ rfl)
      have q10 := cell_regrown (hc 10 _ rfl)
      have p10 := cell_regrown (hc' 10 _ rfl)
      have q11 := cell_regrown (hc 11 _ rfl)
      have p11 := cell_regrown (hc' 11 _ rfl)
      have q12 := cell_regrown (hc 12 _ rfl)
      have p12 := cell_regrown (hc' 12 _ rfl)
      have q13 := cell_regrown (hc 13 _ rfl)
      have p13 := cell_regrown (hc' 13 _ rfl)
      rw [Nat.add_zero] at q0 p0
      simp only [bSl, aSl] at q12 q13 p12 p13
      have hi1 : (0 : Int) ≤ (i : Int) := Int.natCast_nonneg _
      have hi2 : (i : Int) < (L.length : Int) := by omega
      clear hc hc' hx hy hxy hLM C hlen
      go_wp2_with fail
      refine wp_region_quiet_below (by kernel_rfl) (by kernel_rfl) ?_
      repeat (go_big_quiet_step (exact cC _ _))
      refine wpQuiet_nil ?_
      intro _ hw'
      obtain ⟨⟨dq, osq⟩, hw''⟩ := hw'
      subst hw''
      have hbq := hbw.trans ((below_regrown wr dq osq).mono hws)
      go_wp2_with fail
      go_roundw
      case rel => exact ⟨i + 1, by omega, by go_num, hbq⟩
      case measure => simp [intOf]; omega
    · obtain rfl : i = L.length := by omega
      go_wp2_with fail
      go_ret
      exact ⟨rfl, hbw⟩
end Go.Proofs.Ytlabnbfcjpggeaa
