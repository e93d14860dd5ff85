/- The reference's Under and Threads, walked. -/
import Derived.Test.YtlabnbfcjpggeaaSame3
namespace Go.Proofs.Ytlabnbfcjpggeaa
open Go.RowKit Go.Maps

theorem info3 : (Try.prog.info? 3).map (fun i => (i.zero, i.size, i.bytes)) = some (some (.int .i64 0), 1, 8) := by kernel_rfl
/-- The threads under way, in the order of their records. -/
def thrs (l : List Rec) : List Int := (l.filter fun r => !r.done).map (·.thr)

theorem thrs_take {l : List Rec} {i : Nat} {r : Rec} (h : l[i]? = some r) : thrs (l.take (i + 1)) = thrs (l.take i) ++ (if r.done then [] else [r.thr]) := by
  have hlt := (List.getElem?_eq_some_iff.1 h).1
  have he := (List.getElem?_eq_some_iff.1 h).2
  rw [List.take_succ_eq_append_getElem hlt, he]
  unfold thrs
  rw [List.filter_append, List.map_append]
  congr 1
  cases hd : r.done <;> simp [List.filter, hd]

set_option maxRecDepth 100000 in
set_option maxHeartbeats 2000000 in
theorem refUnder_any (L : List (RH × Rec)) (A : Option Addr) (c : Nat) (t : Int) (w : World) (hl : L.length ≤ 1000) (hA : SR w (fun _ => True) A (recsV L)) :
    Calls Try.prog 23 #[.slice A L.length c, .int .i64 t] w fun e w' => Below w.heap.size w w' ∧
      ((∃ i : Nat, Und (L.map (·.2)) t i ∧ e = .returned (.int .i64 i)) ∨ ((∀ i, ¬ Und (L.map (·.2)) t i) ∧ e = .returned (.int .i64 (-1)))) := by
  go_enter Try.func23, Try.ntmps23
  go_wp2_with fail
  go_loopw [5] (fun v5 wr => ∃ i : Nat, i ≤ L.length ∧ v5 = .int .i64 i ∧ Below w.heap.size w wr ∧ Hid (∀ j, j < i → ¬ Und (L.map (·.2)) t j)) (fun v5 _ => L.length - (intOf v5).toNat)
  case atStart => exact ⟨0, Nat.zero_le _, rfl, Below.refl _ _, Lib.hid (fun j hj => absurd hj (Nat.not_lt_zero j))⟩
  case round =>
    obtain ⟨i, hil, rfl, hbw, Hno⟩ := hrel
    by_cases hlt : i < L.length
    · obtain ⟨x, hx⟩ : ∃ x, L[i]? = some x := ⟨_, List.getElem?_eq_getElem hlt⟩
      obtain ⟨b, off, rfl, _, _, hc⟩ := sr_at recV 14 recV_len (by decide) hA hbw hx
      have hxs : (L.map (·.2))[i]? = some x.2 := by rw [List.getElem?_map, hx]; rfl
      have q0 := hc 0 _ rfl
      rw [Nat.add_zero] at q0
      have q8 := hc 8 _ rfl
      have hi1 : (0 : Int) ≤ (i : Int) := Int.natCast_nonneg _
      have hi2 : (i : Int) < (L.length : Int) := by omega
      by_cases hu : x.2.thr = t ∧ x.2.done = false
      · have hund : Und (L.map (·.2)) t i := ⟨x.2, hxs, hu.1, hu.2⟩
        have h1 : (x.2.thr == t) = true := by simp [hu.1]
        have h2 := hu.2
        rw [h2] at q8
        have Hund := Lib.hid hund
        clear hc hx hxs hund hu h2
        go_wp2_with fail
        go_ret
        exact ⟨hbw, .inl ⟨i, Hund.out, rfl⟩⟩
      · have hnext : Hid (∀ j, j < i + 1 → ¬ Und (L.map (·.2)) t j) := Lib.hid (fun j hj => by
          rcases Nat.lt_or_ge j i with h | h
          · exact Hno.out j h
          · obtain rfl : j = i := by omega
            rintro ⟨r, hr, h1, h2⟩
            rw [hxs] at hr
            injection hr with hr
            subst hr
            exact hu ⟨h1, h2⟩)
        by_cases ht : x.2.thr = t
        · have hd : x.2.done = true := by cases h : x.2.done <;> simp_all
          have h1 : (x.2.thr == t) = true := by simp [ht]
          rw [hd] at q8
          clear hc hx hxs hu ht hd
          go_wp2_with fail
          go_roundw
          case rel => exact ⟨i + 1, by omega, by go_num, hbw, hnext⟩
          case measure => simp [intOf]; omega
        · have h1 : (x.2.thr == t) = false := by simp [ht]
          clear hc hx hxs hu ht
          go_wp2_with fail
          go_roundw
          case rel => exact ⟨i + 1, by omega, by go_num, hbw, hnext⟩
          case measure => simp [intOf]; omega
    · obtain rfl : i = L.length := by omega
      go_wp2_with fail
      go_ret
      refine ⟨hbw, .inr ⟨fun j hj => ?_, rfl⟩⟩
      obtain ⟨r, hr, _⟩ := id hj
      have h := (List.getElem?_eq_some_iff.1 hr).1
      rw [List.length_map] at h
      exact Hno.out j h hj

set_option maxRecDepth 100000 in
set_option maxHeartbeats 2000000 in
theorem threads_any (L : List (RH × Rec)) (A : Option Addr) (c : Nat) (w : World) (hl : L.length ≤ 1000) (hA : SR w (fun _ => True) A (recsV L)) :
    Calls Try.prog 17 #[.slice A L.length c] w fun e w' => Below w.heap.size w w' ∧
      ∃ A' c', e = .returned (.slice A' (thrs (L.map (·.2))).length c') ∧ w'.ownsRow w.heap.size 3 1 (.slice A' (thrs (L.map (·.2))).length c') (thrs (L.map (·.2))).length (intsV (thrs (L.map (·.2)))) := by
  obtain ⟨i0, hi0, hz0, hz1, hz2⟩ := info_parts info3
  go_enter Try.func17, Try.ntmps17
  go_wp2_with fail
  go_loopw [3, 4] (fun v3 v4 wr => ∃ (i n : Nat) (T : List Int) (A' : Option Addr) (c' : Nat), i ≤ L.length ∧ n ≤ i ∧ v4 = .int .i64 i ∧ v3 = .slice A' n c' ∧ Hid (T = thrs ((L.map (·.2)).take i)) ∧ Hid (T.length = n) ∧ wr.ownsRow w.heap.size 3 1 (.slice A' n c') n (intsV T) ∧ Below w.heap.size w wr)
    (fun _ v4 _ => L.length - (intOf v4).toNat)
  case atStart => exact ⟨0, 0, [], none, 0, Nat.zero_le _, Nat.le_refl _, rfl, rfl, Lib.hid (by simp [thrs]), Lib.hid rfl, ⟨by simp [intsV], .inl ⟨rfl, rfl⟩⟩, Below.refl _ _⟩
  case round =>
    obtain ⟨i, n, T, A', c', hil, hni, rfl, rfl, HT, HTl, hown, hbw⟩ := hrel
    by_cases hlt : i < L.length
    · obtain ⟨x, hx⟩ : ∃ x, L[i]? = some x := ⟨_, List.getElem?_eq_getElem hlt⟩
      obtain ⟨b, off, rfl, hbl, _, hc⟩ := sr_at recV 14 recV_len (by decide) hA hbw hx
      have hxs : (L.map (·.2))[i]? = some x.2 := by rw [List.getElem?_map, hx]; rfl
      have hstep := thrs_take hxs
      rw [← HT.out] at hstep
      have q0 := hc 0 _ rfl
      rw [Nat.add_zero] at q0
      have q8 := hc 8 _ rfl
      have hi1 : (0 : Int) ≤ (i : Int) := Int.natCast_nonneg _
      have hi2 : (i : Int) < (L.length : Int) := by omega
      have hws := hbw.size
      cases hd : x.2.done with
      | true =>
        rw [hd] at q8
        rw [hd, if_pos rfl, List.append_nil] at hstep
        have HS := Lib.hid hstep.symm
        clear hc hx hxs hd hstep
        go_wp2_with fail
        go_roundw
        case rel => exact ⟨i + 1, n, T, A', c', by omega, by omega, by go_num, rfl, HS, HTl, hown, hbw⟩
        case measure => simp [intOf]; omega
      | false =>
        rw [hd] at q8
        rw [hd, if_neg (by decide)] at hstep
        have HS := Lib.hid hstep.symm
        clear hc hx hxs hd hstep
        go_wp2_with (at_builtin; refine wpList_append_own_at _ rfl (.tmp 17) (.tmp 23) 54 rfl w.heap.size 3 i0 _ 1 8 Try.underlying54 hi0 hz0 hz1 hz2 rfl (by decide) _ n _ rfl (hown.alloc _) ⟨wr.heap.size, 0, none⟩ 1 1 [.int .i64 x.2.thr] rfl rfl (World.news_of_block (cs := #[.int .i64 x.2.thr]) (t := 3) (fr := (0, 0)) (heap_alloc_new wr _)) (by simp [Value.oneCell']) (by simp only [maxLen]; omega) (by omega) (by simp; omega) ?_; intro v1 w1 hown1 hg1 hnil1 hat1)
        obtain ⟨g, c1, rfl⟩ := own_succ hown1
        have hb1 : Below w.heap.size w w1 := (hbw.alloc (by omega) _).grown hg1 (by simp; omega) (fun q hq => (hown.lt q hq).1)
        go_wp2_with fail
        go_roundw
        case rel => exact ⟨i + 1, n + 1, T ++ [x.2.thr], some ⟨g, 0, none⟩, c1, by omega, by omega, by go_num, rfl, HS, Lib.hid (by simp [HTl.out]), by simpa [intsV] using hown1, hb1⟩
        case measure => simp [intOf]; omega
    · obtain rfl : i = L.length := by omega
      have hT : T = thrs (L.map (·.2)) := by
        have h := HT.out
        rwa [List.take_of_length_le (by simp)] at h
      go_wp2_with fail
      go_ret
      refine ⟨hbw, A', c', ?_, ?_⟩
      · rw [← hT, HTl.out]; rfl
      · rw [← hT, HTl.out]; exact hown
end Go.Proofs.Ytlabnbfcjpggeaa
