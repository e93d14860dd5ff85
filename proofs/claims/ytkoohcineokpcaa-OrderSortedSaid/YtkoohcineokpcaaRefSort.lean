/- The document's Sort, walked: the keys, sorted, in memory of its own. -/
import Derived.Test.YtkoohcineokpcaaPlain
import Derived.Deep.LoopGhost
import Derived.Deep.AppendLies
namespace Go.Proofs.Ytkoohcineokpcaa
open Go.RowKit

theorem own_cell {w : World} {base g n c : Nat} {t : List (Int × Int)} (h : w.ownsRow base 24 2 (.slice (some ⟨g, 0, none⟩) n c) n (kcells t)) (hl : t.length = n) {j : Nat} {x : Int × Int} (hx : t[j]? = some x) :
    w.cell? ⟨g, j * 2, none⟩ = some (.int .i64 x.1) ∧ w.cell? ⟨g, j * 2 + 1, none⟩ = some (.int .u64 x.2) := by
  have hj : j < t.length := (List.getElem?_eq_some_iff.1 hx).1
  obtain ⟨h1, h2⟩ := kcells_at t j x hx
  exact ⟨(h.cellAt (j * 2) (by omega)).trans h1, (h.cellAt (j * 2 + 1) (by omega)).trans h2⟩
theorem own_store {w : World} {base g n c : Nat} {t : List (Int × Int)} (h : w.ownsRow base 24 2 (.slice (some ⟨g, 0, none⟩) n c) n (kcells t)) (j : Nat) (x : Int × Int) :
    ((w.setCell ⟨g, j * 2, none⟩ (.int .i64 x.1)).setCell ⟨g, j * 2 + 1, none⟩ (.int .u64 x.2)).ownsRow base 24 2 (.slice (some ⟨g, 0, none⟩) n c) n (kcells (t.set j x)) := by
  rw [kcells_set]
  exact ((h.stored _ _).1.stored _ _).1

theorem own_succ {W : World} {base : Nat} {v : Value} {k : Nat} {xs : List Value} (h : W.ownsRow base 24 2 v (k + 1) xs) : ∃ g cap, v = .slice (some ⟨g, 0, none⟩) (k + 1) cap := by
  rcases h.2 with ⟨_, h0⟩ | ⟨g, cap, _, rfl, _⟩
  · omega
  · exact ⟨g, cap, rfl⟩
theorem Below.set2 {B : Nat} {w w' : World} (h : Below B w w') {p q : Addr} (hp : B ≤ p.block) (hq : B ≤ q.block) (u v : Value) : Below B w ((w'.setCell p u).setCell q v) := (h.setCell hp u).setCell hq v

theorem Gr.own {w w' : World} (hg : Gr w w') {base n : Nat} {v : Value} {xs : List Value} (h : w.ownsRow base 24 2 v n xs) : w'.ownsRow base 24 2 v n xs := by
  refine h.kept (row := none) ⟨hg.below.os, hg.below.tape, hg.below.output, hg.size, fun k hk _ => hg.below.block k hk⟩ ?_
  rcases hv : v.ownBlock with _ | g
  · exact .inl rfl
  · exact .inr (by simp)

/-- keep4, and that the world has but grown. -/
theorem keep4g {w0 wr w w' : World} {n b o b' o' : Nat} {u0 u1 u2 u3 : Value}
    (h : w.cell? ⟨b, o, none⟩ = some u0 ∧ w.cell? ⟨b, o + 1, none⟩ = some u1 ∧ w.cell? ⟨b', o', none⟩ = some u2 ∧ w.cell? ⟨b', o' + 1, none⟩ = some u3 ∧ b < w.heap.size ∧ b' < w.heap.size ∧ n ≤ w.heap.size ∧ Below n w0 w ∧ Gr wr w)
    (hg : Gr w w') :
    w'.cell? ⟨b, o, none⟩ = some u0 ∧ w'.cell? ⟨b, o + 1, none⟩ = some u1 ∧ w'.cell? ⟨b', o', none⟩ = some u2 ∧ w'.cell? ⟨b', o' + 1, none⟩ = some u3 ∧ b < w'.heap.size ∧ b' < w'.heap.size ∧ n ≤ w'.heap.size ∧ Below n w0 w' ∧ Gr wr w' := by
  obtain ⟨h0, h1, h2, h3, h4, h5, h6, h7, h8⟩ := h
  have := hg.size
  exact ⟨(hg.cell h4).trans h0, (hg.cell h4).trans h1, (hg.cell h5).trans h2, (hg.cell h5).trans h3, by omega, by omega, by omega, h7.trans (hg.below.mono h6), h8.trans hg⟩
theorem keep4g_drew {w0 w : World} {n b o b' o' : Nat} {u0 u1 u2 u3 : Value}
    (h0 : w.cell? ⟨b, o, none⟩ = some u0) (h1 : w.cell? ⟨b, o + 1, none⟩ = some u1) (h2 : w.cell? ⟨b', o', none⟩ = some u2) (h3 : w.cell? ⟨b', o' + 1, none⟩ = some u3) (h4 : b < w.heap.size) (h5 : b' < w.heap.size) (h6 : n ≤ w.heap.size) (h7 : Below n w0 w) :
    w.drew.cell? ⟨b, o, none⟩ = some u0 ∧ w.drew.cell? ⟨b, o + 1, none⟩ = some u1 ∧ w.drew.cell? ⟨b', o', none⟩ = some u2 ∧ w.drew.cell? ⟨b', o' + 1, none⟩ = some u3 ∧ b < w.drew.heap.size ∧ b' < w.drew.heap.size ∧ n ≤ w.drew.heap.size ∧ Below n w0 w.drew ∧ Gr w w.drew :=
  ⟨h0, h1, h2, h3, h4, h5, h6, h7.drew, ⟨1, #[], by simp [World.drewN]⟩⟩

theorem shift_mid (S : List (Int × Int)) (k : Nat) (h : Int × Int) (hk : k ≤ S.length) : (S.take k ++ h :: S.drop k)[k]? = some h := by
  have hl : (S.take k).length = k := by rw [List.length_take]; omega
  rw [List.getElem?_append_right (by omega), hl, Nat.sub_self]
  rfl

set_option maxRecDepth 100000 in
set_option maxHeartbeats 2000000 in
theorem refSort_any (A : Option Addr) (c : Nat) (ks : List (Int × Int)) (w : World) (hn : ks.length ≤ 1000) (hk : KS w w.heap.size A ks) :
    Calls Try.prog 15 #[.slice A ks.length c] w (OwnKeys w (srt ks)) := by
  obtain ⟨i0, hi0, hz0, hz1, hz2⟩ := info_parts info24
  go_enter Try.func15, Try.ntmps15
  go_wp2_with fail
  go_loopw [3, 4, 5] (fun v3 v4 _ wr => ∃ (i : Nat) (A' : Option Addr) (c' : Nat), i ≤ ks.length ∧ v4 = .int .i64 i ∧ v3 = .slice A' i c' ∧ wr.ownsRow w.heap.size 24 2 (.slice A' i c') i (kcells (srt (ks.take i))) ∧ Below w.heap.size w wr)
    (fun _ v4 _ _ => ks.length - (intOf v4).toNat)
  case atStart => exact ⟨0, none, 0, Nat.zero_le _, rfl, rfl, ⟨by simp [srt, kcells], .inl ⟨rfl, rfl⟩⟩, Below.refl _ _⟩
  case round =>
    obtain ⟨i, A', c', hil, rfl, rfl, hown, hbl⟩ := hrel
    by_cases hlt : i < ks.length
    · obtain ⟨b, off, rfl, hb, hcs⟩ := hk.below hbl (by omega)
      obtain ⟨hx1, hx2⟩ := hcs i ks[i] (List.getElem?_eq_getElem hlt)
      clear hcs
      have hbs := hbl.size
      have hi0' : (0 : Int) ≤ (i : Int) := Int.natCast_nonneg _
      have hi1 : (i : Int) < (ks.length : Int) := by omega
      go_wp2_with (at_builtin; refine wpList_append_own_at _ rfl (.tmp 14) (.tmp 19) 28 rfl w.heap.size 24 i0 _ 2 16 Try.underlying28 hi0 hz0 hz1 hz2 rfl (by decide) _ i _ rfl (hown.alloc _) ⟨wr.heap.size, 0, none⟩ 1 1 [.int .i64 ks[i].1, .int .u64 ks[i].2] rfl rfl (World.news_of_block (cs := #[.int .i64 ks[i].1, .int .u64 ks[i].2]) (t := 24) (fr := (0, 0)) (heap_alloc_new wr _)) (by simp [Value.oneCell']) (by simp only [maxLen]; omega) (by omega) (by simp; omega) ?_; intro v1 w1 hown1 hg1 hnil1 hat1)
      obtain ⟨g, c1, rfl⟩ := own_succ hown1
      have hgb : w.heap.size ≤ g := (hown1.lt g rfl).1
      have hb1 : Below w.heap.size w w1 := (hbl.alloc (by omega) _).grown hg1 (by simp; omega) (fun q hq => (hown.lt q hq).1)
      have hS := srt_length (ks.take i)
      have htl : (ks.take i).length = i := by rw [List.length_take]; omega
      rw [htl] at hS
      have hins := srt_insert (ks.take i) ks[i]
      rw [← List.take_succ_eq_append_getElem hlt] at hins
      have hlo0 := srt_lo (ks.take i) ks[i]
      have hown2 : w1.ownsRow w.heap.size 24 2 (.slice (some ⟨g, 0, none⟩) (i + 1) c1) (i + 1) (kcells ((srt (ks.take i)).take i ++ ks[i] :: (srt (ks.take i)).drop i)) := by
        rw [List.take_of_length_le (by omega), List.drop_eq_nil_of_le (by omega), kcells_append]
        simpa [kcells] using hown1
      generalize srt (ks.take i) = S at hS hins hlo0 hown2
      clear hown1 hg1 hnil1 hat1 hown htl hx1 hx2
      have HS := Lib.hid hS
      have Hins := Lib.hid hins
      have Hlo := Lib.hid hlo0
      clear hS hins hlo0
      have hSlen : S.length ≤ i := by rw [HS.out]; exact Nat.le_refl _
      have hSlen2 : i ≤ S.length := by rw [HS.out]; exact Nat.le_refl _
      go_loopw [5] (fun v5 wi => ∃ (k : Nat) (h : Int × Int), k ≤ i ∧ v5 = .int .i64 k ∧ wi.ownsRow w.heap.size 24 2 (.slice (some ⟨g, 0, none⟩) (i + 1) c1) (i + 1) (kcells (S.take k ++ h :: S.drop k)) ∧ Hid (∀ j y, k ≤ j → S[j]? = some y → ltk ks[i] y = true) ∧ Below w.heap.size w wi)
        (fun v5 _ => (intOf v5).toNat)
      case atStart => exact ⟨i, ks[i], Nat.le_refl _, rfl, hown2, Lib.hid (fun j y h1 h2 => by rw [List.getElem?_eq_none (by omega)] at h2; cases h2), hb1⟩
      case round =>
        clear hown2 hb1
        obtain ⟨k, h, hki, rfl, hown, Hhi, hbi⟩ := hrel
        have hbis := hbi.size
        have hTl : (S.take k ++ h :: S.drop k).length = i + 1 := by
          rw [List.length_append, List.length_cons, List.length_take, List.length_drop]; omega
        have HTl := Lib.hid hTl
        clear hTl
        have hfz := fun o => hown.frozenAt o
        have hi2 : (i : Int) < 1000 := by omega
        obtain ⟨_, _, hbo, hb', hcs⟩ := hk.below hbi (by omega)
        obtain ⟨rfl, rfl⟩ : b = _ ∧ off = _ := by injection hbo with hbo; injection hbo with e1 e2; exact ⟨e1, e2⟩
        clear hbo
        obtain ⟨hx1, hx2⟩ := hcs i ks[i] (List.getElem?_eq_getElem hlt)
        clear hcs
        have hne : g ≠ b := by omega
        obtain ⟨ho1, ho2⟩ := own_cell hown HTl.out (shift_mid S k h (by omega))
        rcases Nat.eq_zero_or_pos k with h0 | h0
        · subst h0
          have hd : decide ((0 : Int) < 0) = false := rfl
          simp only [Nat.zero_mul, Nat.zero_add] at ho1 ho2
          have hend := own_store hown 0 ks[i]
          rw [shift_end S 0 h ks[i] (by omega), Hins.out 0 (by omega) (fun j y h => absurd h (by omega)) (fun j y h1 h2 => Hhi.out j y h1 h2)] at hend
          have hbe := Below.set2 hbi (p := ⟨g, 0 * 2, none⟩) (q := ⟨g, 0 * 2 + 1, none⟩) hgb hgb (.int .i64 ks[i].1) (.int .u64 ks[i].2)
          go_wp2_with fail
          go_quiet (fail)
          go_wp2_with fail
          go_roundw
          case rel => exact ⟨i + 1, some ⟨g, 0, none⟩, c1, by omega, by go_num, rfl, hend, drewN_below hbe nq⟩
          case measure => simp [intOf]; omega
        · obtain ⟨j, rfl⟩ : ∃ j, k = j + 1 := ⟨k - 1, by omega⟩
          obtain ⟨hs1, hs2⟩ := own_cell hown HTl.out (shift_at S j h (by omega))
          have hbg : b < wr.heap.size := by omega
          have hgw : g < wr.heap.size := World.block_lt_of_cell? wr _ hs1
          have C := fun W => Less_is (a1 := ks[i].1) (a2 := ks[i].2) (b1 := S[j].1) (b2 := S[j].2) rfl W
          have hd : decide ((0 : Int) < (j : Int) + 1) = true := decide_eq_true (by omega)
          have hj0 : (0 : Int) ≤ (j : Int) := Int.natCast_nonneg _
          have hj1 : (j : Int) < (i : Int) + 1 := by omega
          have hj2 : (j : Int) + 1 < (i : Int) + 1 := by omega
          have hw1 : IntKind.i64.wrap (j : Int) = (j : Int) := IntWalk.i64_in _ (by omega)
          have hw2 : IntKind.i64.wrap ((j : Int) + 1) = (j : Int) + 1 := IntWalk.i64_in _ (by omega)
          have hw3 : ((j : Int) + 1).toNat = j + 1 := by omega
          have hw4 : (0 : Int) ≤ (j : Int) + 1 := by omega
          cases hr : ltk (ks[i].1, ks[i].2) (S[j].1, S[j].2)
          · rw [hr] at C
            have Hr := Lib.hid hr
            clear hr
            go_wp2_with fail
            go_region_held3 (fun w' => w'.cell? ⟨b, off + i * 2, none⟩ = some (.int .i64 ks[i].1) ∧ w'.cell? ⟨b, off + i * 2 + 1, none⟩ = some (.int .u64 ks[i].2) ∧ w'.cell? ⟨g, j * 2, none⟩ = some (.int .i64 S[j].1) ∧ w'.cell? ⟨g, j * 2 + 1, none⟩ = some (.int .u64 S[j].2) ∧ b < w'.heap.size ∧ g < w'.heap.size ∧ w.heap.size ≤ w'.heap.size ∧ Below w.heap.size w w' ∧ Gr wr w')
              (first | exact keep4g (by assumption) hg | exact keep4g_drew hx1 hx2 hs1 hs2 hbg hgw hbis hbi)
              (first | (go_at_call 21; (with_reducible refine (C _).mono ?_); rintro e w' ⟨rfl, hg⟩))
            go_split_ands
            have hgx : Gr wr w' := by assumption
            have hbx : Below w.heap.size w w' := by assumption
            have hown' := hgx.own hown
            have hfz' := fun o => hown'.frozenAt o
            obtain ⟨hp1, hp2⟩ := own_cell hown' HTl.out (shift_mid S (j + 1) h (by omega))
            have hend := own_store hown' (j + 1) ks[i]
            rw [shift_end S (j + 1) h ks[i] (by omega), Hins.out (j + 1) (by omega) (Hlo.out (j + 1) (fun y _ hy => by
              rw [Nat.add_sub_cancel, List.getElem?_eq_getElem (by omega : j < S.length)] at hy
              injection hy with hy
              subst hy
              exact lek_of_not Hr.out) (by omega)) (fun j y h1 h2 => Hhi.out j y h1 h2)] at hend
            have hbe := Below.set2 hbx (p := ⟨g, (j + 1) * 2, none⟩) (q := ⟨g, (j + 1) * 2 + 1, none⟩) hgb hgb (.int .i64 ks[i].1) (.int .u64 ks[i].2)
            go_wp2_with fail
            go_roundw
            case rel => exact ⟨i + 1, some ⟨g, 0, none⟩, c1, by omega, by go_num, rfl, hend, hbe⟩
            case measure => simp [intOf]; omega
          · rw [hr] at C
            have Hr := Lib.hid hr
            clear hr
            go_wp2_with fail
            go_region_held3 (fun w' => w'.cell? ⟨b, off + i * 2, none⟩ = some (.int .i64 ks[i].1) ∧ w'.cell? ⟨b, off + i * 2 + 1, none⟩ = some (.int .u64 ks[i].2) ∧ w'.cell? ⟨g, j * 2, none⟩ = some (.int .i64 S[j].1) ∧ w'.cell? ⟨g, j * 2 + 1, none⟩ = some (.int .u64 S[j].2) ∧ b < w'.heap.size ∧ g < w'.heap.size ∧ w.heap.size ≤ w'.heap.size ∧ Below w.heap.size w w' ∧ Gr wr w')
              (first | exact keep4g (by assumption) hg | exact keep4g_drew hx1 hx2 hs1 hs2 hbg hgw hbis hbi)
              (first | (go_at_call 21; (with_reducible refine (C _).mono ?_); rintro e w' ⟨rfl, hg⟩))
            go_split_ands
            have hgx : Gr wr w' := by assumption
            have hbx : Below w.heap.size w w' := by assumption
            have hown' := hgx.own hown
            have hfz' := fun o => hown'.frozenAt o
            obtain ⟨hp1, hp2⟩ := own_cell hown' HTl.out (shift_mid S (j + 1) h (by omega))
            have hend := own_store hown' (j + 1) S[j]
            rw [shift_step S j h (by omega)] at hend
            have hbe := Below.set2 hbx (p := ⟨g, (j + 1) * 2, none⟩) (q := ⟨g, (j + 1) * 2 + 1, none⟩) hgb hgb (.int .i64 S[j].1) (.int .u64 S[j].2)
            go_wp2_with fail
            go_roundw
            case rel => exact ⟨j, S[j], by omega, by go_num, hend, Lib.hid (fun q y h1 h2 => by
              rcases Nat.lt_or_ge j q with hq | hq
              · exact Hhi.out q y hq h2
              · obtain rfl : j = q := by omega
                rw [List.getElem?_eq_getElem (by omega : j < S.length)] at h2
                injection h2 with h2
                subst h2
                exact Hr.out), hbe⟩
            case measure => simp [intOf]
    · obtain rfl : i = ks.length := by omega
      rw [List.take_of_length_le (Nat.le_refl _)] at hown
      go_wp2_with fail
      go_ret
      exact ⟨A', c', by rw [srt_length]; rfl, by rw [srt_length]; exact hown, hbl⟩

end Go.Proofs.Ytkoohcineokpcaa
