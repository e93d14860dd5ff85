/- pdqsort at uint64, walked: the range is permuted, and sorted. -/
import Derived.Test.YtoikjokdabpmoaaSrt8
import Derived.Sort.LotD3
import Derived.Deep.DeepCutAuto
namespace Go.Proofs.Ytoikjokdabpmoaa
open Go.RowKit Go.Sort

theorem swo_lt : SWO ltInt where
  irrefl x := by simp [ltInt]
  trans x y z h1 h2 := by simp [ltInt] at *; omega
  ntrans x y z h1 h2 := by simp [ltInt] at *; omega

/-- Whatever sorts the range that is left sorts the whole. -/
def Cont (a b : Nat) (d : Array Int) (x y : Nat) (dk : Array Int) : Prop := ∀ R, PermIn x y dk R → SortedIn ltInt x y R → PermIn a b d R ∧ SortedIn ltInt a b R
theorem cont_perm {a b x y : Nat} {d dk D : Array Int} (h : Cont a b d x y dk) (hp : PermIn x y dk D) : Cont a b d x y D := fun R hR hs => h R (permIn_trans _ _ _ x y hp hR) hs

theorem ins_none (g off cap a : Nat) (n : Nat) (w : World) (hsz : n ≤ 1000) (ha : a ≤ n) :
    Calls Try.prog 28 #[.slice (some ⟨g, off, none⟩) n cap, .int .i64 a, .int .i64 a] w fun e w' => e = .returned (.tuple #[]) ∧ w' = w := by
  go_enter Try.func28, Try.ntmps28
  go_wp2_with fail
  go_loopw [6] (fun v6 wr => v6 = .int .i64 ((a : Int) + 1) ∧ wr = w) (fun _ _ => 0)
  case atStart => exact ⟨rfl, rfl⟩
  case round =>
    obtain ⟨rfl, rfl⟩ := hrel
    go_wp2_with fail
    go_end0
    exact ⟨rfl, rfl⟩
theorem ins_all (g off cap a b : Nat) (d : Array Int) (w : World) (hH : Holds encU w g off d) (hab : a ≤ b) (hb : b ≤ d.size) (hsz : d.size ≤ 1000) (h0 : 0 < d.size) :
    Calls Try.prog 28 #[.slice (some ⟨g, off, none⟩) d.size cap, .int .i64 a, .int .i64 b] w fun e w' => e = .returned (.tuple #[]) ∧ Rw w g off (insertionSort ltInt d a b) w' := by
  rcases Nat.eq_or_lt_of_le hab with rfl | h
  · refine (ins_none g off cap a d.size w hsz hb).mono fun e w' ⟨he, hw⟩ => ⟨he, ?_⟩
    rw [hw]
    unfold insertionSort
    rw [insOuter_stop _ _ _ _ _ (by omega)]
    exact rw_start hH h0
  · exact insertion_u g off cap a b d w hH h hb hsz

def SortOut (w : World) (g off a b : Nat) (d : Array Int) (e : Ending) (w' : World) : Prop := e = .returned (.tuple #[]) ∧ ∃ d', PermIn a b d d' ∧ SortedIn ltInt a b d' ∧ Rw w g off d' w'

set_option maxHeartbeats 200000000 in
set_option maxRecDepth 100000 in
theorem pdq_u (g off cap : Nat) (N : Nat) : ∀ (a b lim : Nat) (d : Array Int) (w : World), Holds encU w g off d → b - a ≤ N → a ≤ b → b ≤ d.size → (0 < d.size ∧ d.size ≤ 1000) → lim ≤ 1000 → Below ltInt a b d →
    Calls Try.prog 26 #[.slice (some ⟨g, off, none⟩) d.size cap, .int .i64 a, .int .i64 b, .int .i64 lim] w (SortOut w g off a b d) := by
  induction N with
  | zero => 
    intro a b lim d w hH hN hab hb hsz0 hlim hB
    obtain rfl : a = b := by omega
    have CI := ins_all g off cap a a d w hH (Nat.le_refl _) hb hsz0.2 hsz0.1
    have hi := insertionSort_holds (lt := ltInt) swo_lt d a a (Nat.le_refl _) hb
    have HI := Lib.hid hi
    obtain ⟨n, hn⟩ : ∃ n, n = d.size := ⟨_, rfl⟩
    rw [← hn] at CI ⊢
    clear hn hi
    go_enter Try.func26, Try.ntmps26
    go_wp2_with fail
    go_loopw [1, 2] (fun v1 v2 wr => v1 = .int .i64 a ∧ v2 = .int .i64 a ∧ wr = w) (fun _ _ _ => 0)
    case atStart => exact ⟨rfl, rfl, rfl⟩
    case round =>
      obtain ⟨rfl, rfl, rfl⟩ := hrel
      go_wp2_with fail
      refine CI.mono ?_
      rintro e W1 ⟨rfl, hR1⟩
      go_wp2_with fail
      refine bodyPost_ret (results_none rfl _ _ _) rfl ?_
      exact ⟨rfl, _, HI.out.1, HI.out.2, hR1⟩
  | succ N ih =>
    intro a b lim0 d w hH hN hab hb hsz0 hlim hB
    obtain ⟨n, hn⟩ : ∃ n, n = d.size := ⟨_, rfl⟩
    obtain ⟨hsz1, hsz⟩ := hsz0
    have hst := rw_start hH hsz1
    rw [← hn] at hsz hsz1 hb ⊢
    have HN := Lib.hid hn
    have HB0 := Lib.hid hB
    clear hn hB
    go_enter Try.func26, Try.ntmps26
    go_wp2_with fail
    go_loopw [1, 2, 3, 8, 9] (fun v1 v2 v3 v8 v9 wr => ∃ (x y lim : Nat) (wb wp : Bool) (dk : Array Int), v1 = .int .i64 x ∧ v2 = .int .i64 y ∧ v3 = .int .i64 lim ∧ lim ≤ 1000 ∧ v8 = .bool wb ∧ v9 = .bool wp ∧ a ≤ x ∧ x ≤ y ∧ y ≤ b ∧ Hid (dk.size = n) ∧ Rw w g off dk wr ∧ Hid (Below ltInt x y dk) ∧ Hid (Cont a b d x y dk)) (fun v1 v2 _ _ _ _ => (intOf v2).toNat - (intOf v1).toNat)
    case atStart => exact ⟨a, b, lim0, true, true, d, rfl, rfl, rfl, hlim, rfl, rfl, Nat.le_refl _, hab, Nat.le_refl _, Lib.hid HN.out.symm, hst, HB0, Lib.hid (fun R h1 h2 => ⟨h1, h2⟩)⟩
    case round =>
      obtain ⟨x, y, lim, wb, wp, dk, rfl, rfl, rfl, hlm, rfl, rfl, hax, hxy, hyb, Hs, hR, HB, HC⟩ := hrel
      by_cases h12 : y - x ≤ 12
      · have h13 : (y : Int) - (x : Int) ≤ 12 := by omega
        have hhk := rw_holds hR hH (by rw [Hs.out, HN.out])
        have CI := ins_all g off cap x y dk _ hhk hxy (by rw [Hs.out]; omega) (by rw [Hs.out]; omega) (by rw [Hs.out]; omega)
        rw [Hs.out] at CI
        have hi := insertionSort_holds (lt := ltInt) swo_lt dk x y hxy (by rw [Hs.out]; omega)
        have HF := Lib.hid (HC.out _ hi.1 hi.2)
        have HZ := Lib.hid hi.1.1
        clear hi hhk
        go_wp2_with fail
        refine CI.mono ?_
        rintro e W1 ⟨rfl, hR1⟩
        have hR2 := rw_trans hR hR1 HZ.out
        go_wp2_with fail
        refine bodyPost_ret (results_none rfl _ _ _) rfl ?_
        exact ⟨rfl, _, HF.out.1, HF.out.2, hR2⟩
      · rcases Nat.eq_zero_or_pos lim with hl | hl
        · subst hl
          have h13 : (12 : Int) < (y : Int) - (x : Int) := by omega
          have hhk := rw_holds hR hH (by rw [Hs.out, HN.out])
          have CI := heapSort_u g off cap x y dk _ hhk (by omega) (by rw [Hs.out]; omega) (by rw [Hs.out]; omega)
          rw [Hs.out] at CI
          have hi := heapSort_holds (lt := ltInt) swo_lt dk x y hxy (by rw [Hs.out]; omega)
          have HF := Lib.hid (HC.out _ hi.1 hi.2)
          have HZ := Lib.hid hi.1.1
          clear hi hhk
          go_wp2_with fail
          refine CI.mono ?_
          rintro e W1 ⟨rfl, hR1⟩
          have hR2 := rw_trans hR hR1 HZ.out
          go_wp2_with fail
          refine bodyPost_ret (results_none rfl _ _ _) rfl ?_
          exact ⟨rfl, _, HF.out.1, HF.out.2, hR2⟩
        · have h13 : (12 : Int) < (y : Int) - (x : Int) := by omega
          have hl0 : ((lim : Int) == 0) = false := beq_eq_false_iff_ne.2 (by omega)
          go_upto_if 35 with (fail)
          go_cut [3] (fun s3 wc => ∃ (lm : Nat) (d1 : Array Int), s3 = .int .i64 (lm : Nat) ∧ lm ≤ 1000 ∧ Hid (d1.size = n) ∧ Rw w g off d1 wc ∧ Hid (PermIn x y dk d1))
          case first =>
            cases wb with
            | false =>
              have hhk := rw_holds hR hH (by rw [Hs.out, HN.out])
              have CB := break_u g off cap n x y dk _ hhk Hs.out (by omega) (by omega) (by omega)
              go_wp2_with fail
              refine CB.mono ?_
              rintro e W1 ⟨rfl, d1, hp1', hR1'⟩
              have hR1 := rw_trans hR hR1' hp1'.1
              have Hs1 : Hid (d1.size = n) := Lib.hid (by rw [hp1'.1]; exact Hs.out)
              have HP1 := Lib.hid hp1'
              clear CB hR1' hp1' hhk
              go_wp2_with fail
              go_meet
              exact ⟨lim - 1, d1, by congr 1; omega, by omega, Hs1, hR1, HP1⟩
            | true =>
              go_wp2_with fail
              go_meet
              exact ⟨lim, dk, rfl, hlm, Hs, hR, Lib.hid (permIn_refl dk x y)⟩
          case rest =>
            obtain ⟨lm, d1, rfl, hlm', Hs1, hR1, HP1⟩ := hcut
            have hh1 := rw_holds hR1 hH (by rw [Hs1.out, HN.out])
            have CC := choosePivot_u g off cap n x y d1 _ hh1 Hs1.out (by omega) (by omega) (by omega)
            go_wp2_with fail
            refine CC.mono ?_
            rintro e W2 ⟨p, h, rfl, hp1, hp2, hh, hbw⟩
            have hR2 := rw_upd hR1 (Upd.of_below (fun _ => False) hbw) (fun _ h => h.elim)
            clear CC hh1 hR1 hbw
            go_upto_if 50 with (fail)
            go_cut [11, 12] (fun s11 s12 wc => ∃ (P : Nat) (q : Int) (D : Array Int), s11 = .int .i64 (P : Nat) ∧ s12 = .int .i64 q ∧ x ≤ P ∧ P < y ∧ (q = 0 ∨ q = 1) ∧ Hid (D.size = n) ∧ Rw w g off D wc ∧ Hid (PermIn x y dk D))
            case first =>
              rcases hh with hh | hh | hh
              · subst hh
                go_wp2_with fail
                go_meet
                exact ⟨p, 0, d1, rfl, rfl, hp1, hp2, .inl rfl, Hs1, hR2, HP1⟩
              · subst hh
                go_wp2_with fail
                go_meet
                exact ⟨p, 1, d1, rfl, rfl, hp1, hp2, .inr rfl, Hs1, hR2, HP1⟩
              · subst hh
                have hh2 := rw_holds hR2 hH (by rw [Hs1.out, HN.out])
                have CR := reverse_u g off cap x y d1 _ hh2 (by omega) (by rw [Hs1.out]; omega) (by rw [Hs1.out]; omega)
                rw [Hs1.out] at CR
                have hpr := Lib.hid (reverseRange_holds (α := Int) d1 x y (by omega) (by rw [Hs1.out]; omega))
                go_wp2_with fail
                refine CR.mono ?_
                rintro e W3 ⟨rfl, hR3⟩
                have hR30 := rw_trans hR2 hR3 hpr.out.1
                clear CR hR3 hh2
                go_wp2_with fail
                go_meet
                exact ⟨y - 1 - (p - x), 1, reverseRange d1 x y, by congr 1; omega, rfl, by omega, by omega, .inr rfl, Lib.hid (by rw [hpr.out.1]; exact Hs1.out), hR30, Lib.hid (permIn_trans _ _ _ x y HP1.out hpr.out)⟩
            case rest =>
              clear hR2 Hs1 HP1 hh hp1 hp2
              obtain ⟨P, q, D, rfl, rfl, hP1, hP2, hq, HsD, hRD, HPD⟩ := hcut
              have HBD : Hid (Below ltInt x y D) := Lib.hid (HB.out.perm (by rw [Hs.out]; omega) HPD.out)
              have HGD : Hid (Cont a b d x y D) := Lib.hid (cont_perm HC.out HPD.out)
              clear HPD
              go_upto_region 15 with (fail)
              go_cut [68] (fun s68 wc => s68 = .bool (wb && wp && (q == 1)) ∧ Rw w g off D wc)
              case first =>
                cases wb <;> cases wp <;> rcases hq with hq | hq <;> subst hq
                all_goals go_wp2_with fail
                all_goals go_meet
                all_goals exact ⟨by first | rfl | simp, hRD⟩
              case rest =>
                clear hRD
                obtain ⟨rfl, hRD⟩ := hcut
                obtain ⟨T, hT⟩ : ∃ T, T = (wb && wp && (q == 1)) := ⟨_, rfl⟩
                rw [← hT]
                clear hT
                go_upto_if 68 with (fail)
                go_cut [13] (fun _ wc => ∃ E : Array Int, Hid (E.size = n) ∧ Rw w g off E wc ∧ Hid (Below ltInt x y E) ∧ Hid (Cont a b d x y E))
                case first =>
                  cases T with
                  | false =>
                    go_wp2_with fail
                    go_meet
                    exact ⟨D, HsD, hRD, HBD, HGD⟩
                  | true =>
                    have hhI := rw_holds hRD hH (by rw [HsD.out, HN.out])
                    have CI := partIns_u g off cap x y D _ hhI (by omega) (by rw [HsD.out]; omega) (by rw [HsD.out]; omega)
                    rw [HsD.out] at CI
                    have hpi := partialInsertionSort_holds (lt := ltInt) swo_lt D x y (by omega) (by rw [HsD.out]; omega) HBD.out
                    have HPI := Lib.hid hpi
                    clear hpi hhI
                    go_wp2_with fail
                    refine CI.mono ?_
                    rintro e W4 ⟨rfl, hR4⟩
                    have hR5 := rw_trans hRD hR4 HPI.out.1.1
                    clear CI hR4
                    cases hok : (partialInsertionSort ltInt D x y).2 with
                    | true =>
                      have HF := Lib.hid (HGD.out _ HPI.out.1 (HPI.out.2 hok))
                      clear hok
                      go_wp2_with fail
                      refine bodyPost_ret (results_none rfl _ _ _) rfl ?_
                      exact ⟨rfl, _, HF.out.1, HF.out.2, hR5⟩
                    | false =>
                      clear hok
                      go_wp2_with fail
                      go_meet
                      exact ⟨_, Lib.hid (by rw [HPI.out.1.1]; exact HsD.out), hR5, Lib.hid (HBD.out.perm (by rw [HsD.out]; omega) HPI.out.1), Lib.hid (cont_perm HGD.out HPI.out.1)⟩
                case rest =>
                  clear hRD HsD HBD HGD
                  obtain ⟨E, HsD, hRD, HBD, HGD⟩ := hcut
                  clear D
                  obtain ⟨D, hDE⟩ : ∃ D, D = E := ⟨_, rfl⟩
                  subst hDE
                  obtain ⟨G, HG, hc, hf⟩ := rw_fam hRD hH HsD.out HN.out.symm
                  have hPn : P < n := by omega
                  rcases Nat.eq_zero_or_pos x with hx0 | hx0
                  · subst hx0
                    go_wp2_with fail
                    go_quiet ((go_at_call 34; first | exact Calls.quiet_of_same (less_u _ _ _) | exact quiet_again (less_u _ _ _)))
                    go_wp2_with fail
                    have HWD := rw_drewN hRD nq
                    clear hc hf HG hRD
                    have hhD := rw_holds HWD hH (by rw [HsD.out, HN.out])
                    have CP := part_u g off cap 0 y P D _ hhD hP1 hP2 (by rw [HsD.out]; omega) (by rw [HsD.out]; omega)
                    rw [HsD.out] at CP
                    obtain ⟨mid, ap, D4, hx⟩ : ∃ mid ap D4, partition ltInt D 0 y P = (mid, ap, D4) := ⟨_, _, _, rfl⟩
                    have hr := round_part swo_lt (partition_holds ltInt) hP1 hP2 (by rw [HsD.out]; omega) HBD.out hx
                    rw [hx] at CP
                    obtain ⟨hm1, hm2, hs5, hB5a, hB5b, hK5a, hK5b⟩ := hr
                    have HB5a := Lib.hid hB5a
                    have HB5b := Lib.hid hB5b
                    have HK5 := Lib.hid (And.intro hK5a hK5b)
                    clear hB5a hB5b hK5a hK5b hx hhD
                    refine CP.mono ?_
                    rintro e W4 ⟨rfl, hR4⟩
                    have hR5 := rw_trans HWD hR4 hs5
                    clear CP hR4
                    rcases Nat.lt_or_ge (mid - 0) (y - mid) with hlr | hlr
                    · have q1 : decide ((mid : Int) < (y : Int) - (mid : Int)) = true := by simp; omega
                      have hh5 := rw_holds hR5 hH (by rw [hs5, HsD.out, HN.out])
                      have C5 := ih 0 mid lm D4 _ hh5 (by omega) (by omega) (by rw [hs5, HsD.out]; omega) (by rw [hs5, HsD.out]; omega) (by omega) HB5a.out
                      rw [hs5, HsD.out] at C5
                      go_wp2_with fail
                      refine C5.mono ?_
                      rintro e W5 ⟨rfl, L, hpL, hsL, hR6⟩
                      have hsz6 : L.size = n := by rw [hpL.1, hs5]; exact HsD.out
                      have hR7 := rw_trans hR5 hR6 hpL.1
                      have hk := HK5.out.1 L hpL hsL
                      have HBk := Lib.hid hk.1
                      have HGk : Hid (Cont a b d (mid + 1) y L) := Lib.hid (fun R h1 h2 => HGD.out R (hk.2 R h1 h2).1 (hk.2 R h1 h2).2)
                      have Hs6 := Lib.hid hsz6
                      clear hk hpL hsL hsz6 C5 hh5
                      go_wp2_with fail
                      go_roundw
                      case rel => exact ⟨mid + 1, y, lm, _, _, L, by go_num, rfl, rfl, by omega, rfl, rfl, by omega, by omega, by omega, Hs6, hR7, HBk, HGk⟩
                      case measure => simp [intOf] <;> omega
                    · have q1 : decide ((mid : Int) < (y : Int) - (mid : Int)) = false := by simp; omega
                      have hh5 := rw_holds hR5 hH (by rw [hs5, HsD.out, HN.out])
                      have C5 := ih (mid + 1) y lm D4 _ hh5 (by omega) (by omega) (by rw [hs5, HsD.out]; omega) (by rw [hs5, HsD.out]; omega) (by omega) HB5b.out
                      rw [hs5, HsD.out, show ((mid + 1 : Nat) : Int) = (mid : Int) + 1 from by omega] at C5
                      go_wp2_with fail
                      refine C5.mono ?_
                      rintro e W5 ⟨rfl, L, hpL, hsL, hR6⟩
                      have hsz6 : L.size = n := by rw [hpL.1, hs5]; exact HsD.out
                      have hR7 := rw_trans hR5 hR6 hpL.1
                      have hk := HK5.out.2 L hpL hsL
                      have HBk := Lib.hid hk.1
                      have HGk : Hid (Cont a b d 0 mid L) := Lib.hid (fun R h1 h2 => HGD.out R (hk.2 R h1 h2).1 (hk.2 R h1 h2).2)
                      have Hs6 := Lib.hid hsz6
                      clear hk hpL hsL hsz6 C5 hh5
                      go_wp2_with fail
                      go_roundw
                      case rel => exact ⟨0, mid, lm, _, _, L, rfl, rfl, rfl, by omega, rfl, rfl, by omega, by omega, by omega, Hs6, hR7, HBk, HGk⟩
                      case measure => simp [intOf] <;> omega
                  · have hxn : x < n := by omega
                    go_wp2_with fail
                    go_quiet ((go_at_call 34; first | exact Calls.quiet_of_same (less_u _ _ _) | exact quiet_again (less_u _ _ _)))
                    go_wp2_with fail
                    · have hl : ltInt (G (x - 1)) (G P) = false := of_not_true (by assumption)
                      have HWD := rw_drewN hRD nq
                      clear hc hf hRD
                      have hhD := rw_holds HWD hH (by rw [HsD.out, HN.out])
                      have CP := partEq_u g off cap x y P D _ hhD hP1 hP2 (by rw [HsD.out]; omega) (by rw [HsD.out]; omega)
                      rw [HsD.out] at CP
                      obtain ⟨mid, D4, hx⟩ : ∃ mid D4, partitionEqual ltInt D x y P = (mid, D4) := ⟨_, _, rfl⟩
                      have hr := round_eq swo_lt (partitionEqual_holds ltInt) hx0 hP1 hP2 (by rw [HsD.out]; omega) HBD.out (by rw [← HG.out, ← HG.out]; exact hl) hx
                      rw [hx] at CP
                      obtain ⟨hm1, hm2, hs5, hB5, hK5⟩ := hr
                      have HB5 := Lib.hid hB5
                      have HGk : Hid (Cont a b d mid y D4) := Lib.hid (fun R h1 h2 => HGD.out R (hK5 R h1 h2).1 (hK5 R h1 h2).2)
                      have Hs6 : Hid (D4.size = n) := Lib.hid (by rw [hs5]; exact HsD.out)
                      refine CP.mono ?_
                      rintro e W4 ⟨rfl, hR4⟩
                      have hR5 := rw_trans HWD hR4 hs5
                      clear CP hR4 hB5 hK5 hx hhD
                      go_wp2_with fail
                      go_roundw
                      case rel => exact ⟨mid, y, lm, _, _, D4, rfl, rfl, rfl, by omega, rfl, rfl, by omega, by omega, by omega, Hs6, hR5, HB5, HGk⟩
                      case measure => simp [intOf] <;> omega
                    · have HWD := rw_drewN hRD nq
                      clear hc hf HG hRD
                      have hhD := rw_holds HWD hH (by rw [HsD.out, HN.out])
                      have CP := part_u g off cap x y P D _ hhD hP1 hP2 (by rw [HsD.out]; omega) (by rw [HsD.out]; omega)
                      rw [HsD.out] at CP
                      obtain ⟨mid, ap, D4, hx⟩ : ∃ mid ap D4, partition ltInt D x y P = (mid, ap, D4) := ⟨_, _, _, rfl⟩
                      have hr := round_part swo_lt (partition_holds ltInt) hP1 hP2 (by rw [HsD.out]; omega) HBD.out hx
                      rw [hx] at CP
                      obtain ⟨hm1, hm2, hs5, hB5a, hB5b, hK5a, hK5b⟩ := hr
                      have HB5a := Lib.hid hB5a
                      have HB5b := Lib.hid hB5b
                      have HK5 := Lib.hid (And.intro hK5a hK5b)
                      clear hB5a hB5b hK5a hK5b hx hhD
                      refine CP.mono ?_
                      rintro e W4 ⟨rfl, hR4⟩
                      have hR5 := rw_trans HWD hR4 hs5
                      clear CP hR4
                      rcases Nat.lt_or_ge (mid - x) (y - mid) with hlr | hlr
                      · have q1 : decide ((mid : Int) - (x : Int) < (y : Int) - (mid : Int)) = true := by simp; omega
                        have hh5 := rw_holds hR5 hH (by rw [hs5, HsD.out, HN.out])
                        have C5 := ih x mid lm D4 _ hh5 (by omega) (by omega) (by rw [hs5, HsD.out]; omega) (by rw [hs5, HsD.out]; omega) (by omega) HB5a.out
                        rw [hs5, HsD.out] at C5
                        go_wp2_with fail
                        refine C5.mono ?_
                        rintro e W5 ⟨rfl, L, hpL, hsL, hR6⟩
                        have hsz6 : L.size = n := by rw [hpL.1, hs5]; exact HsD.out
                        have hR7 := rw_trans hR5 hR6 hpL.1
                        have hk := HK5.out.1 L hpL hsL
                        have HBk := Lib.hid hk.1
                        have HGk : Hid (Cont a b d (mid + 1) y L) := Lib.hid (fun R h1 h2 => HGD.out R (hk.2 R h1 h2).1 (hk.2 R h1 h2).2)
                        have Hs6 := Lib.hid hsz6
                        clear hk hpL hsL hsz6 C5 hh5
                        go_wp2_with fail
                        go_roundw
                        case rel => exact ⟨mid + 1, y, lm, _, _, L, by go_num, rfl, rfl, by omega, rfl, rfl, by omega, by omega, by omega, Hs6, hR7, HBk, HGk⟩
                        case measure => simp [intOf] <;> omega
                      · have q1 : decide ((mid : Int) - (x : Int) < (y : Int) - (mid : Int)) = false := by simp; omega
                        have hh5 := rw_holds hR5 hH (by rw [hs5, HsD.out, HN.out])
                        have C5 := ih (mid + 1) y lm D4 _ hh5 (by omega) (by omega) (by rw [hs5, HsD.out]; omega) (by rw [hs5, HsD.out]; omega) (by omega) HB5b.out
                        rw [hs5, HsD.out, show ((mid + 1 : Nat) : Int) = (mid : Int) + 1 from by omega] at C5
                        go_wp2_with fail
                        refine C5.mono ?_
                        rintro e W5 ⟨rfl, L, hpL, hsL, hR6⟩
                        have hsz6 : L.size = n := by rw [hpL.1, hs5]; exact HsD.out
                        have hR7 := rw_trans hR5 hR6 hpL.1
                        have hk := HK5.out.2 L hpL hsL
                        have HBk := Lib.hid hk.1
                        have HGk : Hid (Cont a b d x mid L) := Lib.hid (fun R h1 h2 => HGD.out R (hk.2 R h1 h2).1 (hk.2 R h1 h2).2)
                        have Hs6 := Lib.hid hsz6
                        clear hk hpL hsL hsz6 C5 hh5
                        go_wp2_with fail
                        go_roundw
                        case rel => exact ⟨x, mid, lm, _, _, L, rfl, rfl, rfl, by omega, rfl, rfl, by omega, by omega, by omega, Hs6, hR7, HBk, HGk⟩
                        case measure => simp [intOf] <;> omega
end Go.Proofs.Ytoikjokdabpmoaa
