/- (*Model).Copy, walked. -/
import Derived.Test.YtoikjokdabpmoaaLive
import Derived.Maps.RangeWalk
import Derived.Maps.Ext
namespace Go.Proofs.Ytoikjokdabpmoaa
open Go.RowKit Go.Maps

/-- A model of one's own that holds the same timers. -/
def Copied (T : List Tm) (w : World) (e : Ending) (w' : World) : Prop :=
  ∃ np nl nw, e = .returned (.pointer (some ⟨np, 0, none⟩)) ∧ ModAt w' (fun k => w.heap.size ≤ k) np nl nw T ∧ Below w.heap.size w w'

theorem Copy_nil (w : World) : Calls Try.prog 7 #[.pointer none] w fun e w' => e = .returned (.pointer none) ∧ w' = w := by
  go_enter Try.func7, Try.ntmps7
  go_wp2_with fail
  go_ret
  exact ⟨rfl, rfl⟩

theorem map_zero {w : World} {b : Nat} {D : DataW Unit} (h : MapAt w b 0 D) : D = .map [] := by
  obtain ⟨es, c, _, _, hs, rfl⟩ := h
  have : es = #[] := by simpa using hs
  subst this
  rfl
theorem everR_inv' (v : Value) (y : DataW Unit × List MemPlace) (h : everR v = some y) : ∃ c : Int, v = (fun c : Int => Value.agg #[.int .i64 c]) c := by
  obtain ⟨d, ps⟩ := y
  obtain ⟨c, rfl, _⟩ := everR_inv h
  exact ⟨c, rfl⟩

/-- Where a copy of a map stands: what has come lies in the new map. -/
structure Half (B r b n nb : Nat) (D0 Dout : DataW Unit) (left : Lit → Bool) (cnt : Nat) (wr : World) : Prop where
  src : wr.ranges Try.prog 23 everR b r n D0 left cnt
  le : cnt ≤ Maps.size D0
  out : MapAt wr nb (Maps.size D0 - cnt) Dout
  agree : Agree Dout D0 left

/-- A round's store: the box is laid, the entry stored. -/
theorem Half.step {B r b n nb : Nat} {D0 Dout : DataW Unit} {left left' : Lit → Bool} {cnt cnt' : Nat} {wr w1 : World} (H : Half B r b n nb D0 Dout left cnt wr) (hr : b ≠ nb) (hrn : r ≠ nb) (hmax : Maps.size D0 ≤ 1000)
    {x c : Int} (hkey : keyOf Try.prog 23 (.int .u64 x) = some (.int .u64 x)) (hat : ∀ zd, D0.atKey (.int .u64 x) zd = .lit (.int .i64 c)) (hrg1 : w1.ranges Try.prog 23 everR b r n D0 left' cnt') (hlt : cnt' < cnt) (hl : left' = fun z => left z && !z.sameKey (.int .u64 x)) (hg1 : wr.grownBy w1 (some r)) :
    ∃ W', (Instr.mapUpdate 42 (.map (some nb)) (.int .u64 x) (.agg #[.int .i64 c])).run Try.prog (w1.alloc (.cells #[.int .i64 c] 46)).drew = .ok () W' ∧ (∃ Dout', Half B r b n nb D0 Dout' left' cnt' W') ∧ (w1.alloc (.cells #[.int .i64 c] 46)).drew.grownBy W' (some nb) := by
  have hg : w1.grownBy (w1.alloc (.cells #[.int .i64 c] 46)).drew none := ⟨rfl, rfl, rfl, by simp, fun k hk _ => (Below.heap_alloc w1 _ k hk)⟩
  have ho := (H.out.kept hg1 (by simpa using Ne.symm hrn)).kept hg (by simp)
  have hs := H.le
  obtain ⟨W', hrun, ho', hg2⟩ := ho.update lawU Try.underlying42 (by simp only [maxLen]; omega) hkey (everR_mk c)
  refine ⟨W', hrun, ⟨_, { src := (hrg1.kept hg (by simp) (by simp)).kept hg2 (by simpa using hr) (by simpa using hrn), le := by omega, out := ho'.mono (by omega), agree := ?_ }⟩, hg2⟩
  rw [hl]
  exact agree_step H.agree H.out.isMap trivial hat

set_option maxRecDepth 100000 in
set_option maxHeartbeats 4000000 in
theorem Copy_any {w : World} {F : Nat → Prop} {mp bl bw : Nat} {T : List Tm} (hM : ModAt w F mp bl bw T) (hn : T.length ≤ 1000) : Calls Try.prog 7 #[.pointer (some ⟨mp, 0, none⟩)] w (Copied T w) := by
  go_enter Try.func7, Try.ntmps7
  go_wp2_with (first
    | (go_at_call 6; refine (New_any w).mono ?_; rintro e W1 ⟨np, nl, nw, rfl, hN, hb1⟩; have hM1 := hM.below hb1; obtain ⟨D0, hm0, hD0⟩ := hM1.live; obtain ⟨E0, hm1, hE0⟩ := hM1.were; obtain ⟨A0, hn0, _⟩ := hN.live; obtain ⟨B0, hn1, _⟩ := hN.were; have y0 := hM1.cell0; have hA0 := map_zero hn0; have hB0 := map_zero hn1; subst hA0 hB0)
    | (at_range; refine wpList_range_own _ rfl _ 42 rfl 23 46 lawU Try.underlying42 _ bl T.length D0 rfl hm0 ?_; intro w0 hrg0 hg0 hs0))
  go_frame
  have hfn := hN.fields
  have hltn : np < W1.heap.size := hN.ltp
  have hltl : nl < W1.heap.size := hN.ltl
  have hltw : nw < W1.heap.size := hN.ltw
  have hnel := hN.nel hN.fields (fun _ _ e => by cases e)
  have hfm := hM1.fields
  have hnem := hM.ltp
  have hfmn : w.heap.size ≤ np := hN.fm
  have hfml : w.heap.size ≤ nl := hN.fl
  have hfmw : w.heap.size ≤ nw := hN.fw
  have hlb := hM.ltl
  have hlw := hM.ltw
  have hsz0 := Nat.le_trans (size_le hm0) hn
  have hsz1 := Nat.le_trans (size_le hm1) hn
  go_loopw [4] (fun _ wr => ∃ (left : Lit → Bool) (cnt : Nat) (Dout : DataW Unit), Half w.heap.size W1.heap.size bl T.length nl D0 Dout left cnt wr ∧ Upd (fun k => k = nl) W1 wr ∧ W1.heap.size < wr.heap.size)
    (fun _ wr => wr.rangeLeft bl W1.heap.size)
  case atStart =>
    exact ⟨_, _, .map [], { src := hrg0, le := Nat.le_refl _, out := (hn0.kept hg0 (by simp)).mono (Nat.zero_le _), agree := agree_start D0 }, (Upd.refl _ _).grown hg0 (by simp), by omega⟩
  case round =>
    obtain ⟨left, cnt, Dout, H, hu, hgt⟩ := hrel
    go_wp2_with (first
      | (at_next; refine wpList_next_ranges _ rfl _ rfl 23 lawU everR encW (fun c : Int => Value.agg #[.int .i64 c]) (fun key kl hk => by obtain ⟨x, hx, _⟩ := Maps.keyOf_int_inv Try.underlying23 hk; exact ⟨x, hx⟩) everR_inv' bl W1.heap.size T.length _ _ _ rfl H.src ?_ ?_)
      | go_in)
    · intro hc0 hl0
      obtain ⟨V, hV⟩ : ∃ V, V = wr := ⟨_, rfl⟩
      subst hV
      subst hc0
      have hDe := agree_end H.agree hl0 (H.out.canon lawU) (hm0.canon lawU)
      subst hDe
      have hL := H.out
      have hmw : MapAt V bw T.length E0 := map_upd hu hm1 (by omega)
      have hnw : MapAt V nw 0 (.map []) := map_upd hu hn1 (Ne.symm hN.ne)
      have z1 : V.cell? ⟨mp, 1, none⟩ = some (.map (some bw)) := cell_of_row V mp 1 _ 44 (0, 0) (hu.heap hfm (by omega))
      clear H
      go_wp2_with (at_range; refine wpList_range_own _ rfl _ 42 rfl 23 46 lawU Try.underlying42 _ bw T.length E0 rfl hmw ?_; intro w5 hrg5 hg5 hs5)
      go_frame
      go_loopw [6] (fun _ wr' => ∃ (left : Lit → Bool) (cnt : Nat) (Eout : DataW Unit), Half w.heap.size V.heap.size bw T.length nw E0 Eout left cnt wr' ∧ Upd (fun k => k = nw) V wr' ∧ V.heap.size < wr'.heap.size)
        (fun _ wr' => wr'.rangeLeft bw V.heap.size)
      case atStart =>
        exact ⟨_, _, .map [], { src := hrg5, le := Nat.le_refl _, out := (hnw.kept hg5 (by simp)).mono (Nat.zero_le _), agree := agree_start E0 }, (Upd.refl _ _).grown hg5 (by simp), by omega⟩
      case round =>
        obtain ⟨left, cnt, Eout, H, hu2, hgt2⟩ := hrel
        go_wp2_with (first
          | (at_next; refine wpList_next_ranges _ rfl _ rfl 23 lawU everR encW (fun c : Int => Value.agg #[.int .i64 c]) (fun key kl hk => by obtain ⟨x, hx, _⟩ := Maps.keyOf_int_inv Try.underlying23 hk; exact ⟨x, hx⟩) everR_inv' bw V.heap.size T.length _ _ _ rfl H.src ?_ ?_)
          | go_in)
        · intro hc0 hl0
          subst hc0
          have hEe := agree_end H.agree hl0 (H.out.canon lawU) (hm1.canon lawU)
          subst hEe
          have hW := H.out
          have hu12 : Upd (fun k => k = nl ∨ k = nw) W1 wr := (hu.mono fun _ _ e => .inl e).trans hu2 (fun _ _ e => .inr e)
          clear H
          go_wp2_with fail
          go_ret
          refine ⟨np, nl, nw, rfl, ?_, hb1.trans ((hu12.to_below (B := w.heap.size) hb1.size (fun i e => by rcases e with rfl | rfl <;> assumption)))⟩
          exact { fields := hu12.heap hfn (by rintro (e | e) <;> omega), live := ⟨_, (map_upd hu2 hL hN.ne).mono (by have := size_le hm0; omega), hD0⟩, were := ⟨_, hW.mono (by have := size_le hm1; omega), hE0⟩, ne := hN.ne, dist := hM.dist, wf := hM.wf, fm := hfmn, fl := hfml, fw := hfmw }
        · intro x c kl yd yp w1 cnt1 hkey hlk hR hat hrg1 hlt hg1 hs1 hen
          obtain ⟨x', ex, rfl, hwx⟩ := Maps.keyOf_int_inv Try.underlying23 hkey
          obtain rfl : x = x' := by simpa [encW] using ex
          obtain ⟨c', ec, rfl⟩ := everR_inv hR
          obtain rfl : c = c' := by simpa using ec
          have hwr := hu.size
          obtain ⟨W', hrun, ⟨Eout', H'⟩, hg2⟩ := H.step (x := x) (c := c) (by omega) (by omega) hsz1 hkey hat hrg1 hlt rfl hg1
          have hX : Below w1.heap.size w1 (w1.alloc (.cells #[.int .i64 c] 46)).drew := Below.drew ((Below.refl _ _).alloc (Nat.le_refl _) _)
          have hu1 : Upd (fun k => k = nw) V (w1.alloc (.cells #[.int .i64 c] 46)).drew := (hu2.grown hg1 (fun k e hk => by injection e with e; omega)).below hX
          have q0 := cell_of_row _ np 1 _ 44 (0, 0) (hu1.heap (hu.heap hfn (by omega)) (by omega))
          have q1 : (w1.alloc (.cells #[.int .i64 c] 46)).drew.cell? ⟨w1.heap.size, 0, none⟩ = some (.int .i64 c) := cell_of_row _ w1.heap.size 0 _ 46 (0, 0) (heap_alloc_new w1 _)
          have hu' : Upd (fun k => k = nw) V W' := hu1.grown hg2 (fun k e _ => by injection e with e; exact e.symm)
          have hgt' : V.heap.size < W'.heap.size := by have := hg2.size; have := hg1.size; simp at *; omega
          have hme : W'.rangeLeft bw V.heap.size < wr.rangeLeft bw V.heap.size := by rw [H'.src.left_eq, H.src.left_eq]; exact hlt
          have HH := Lib.hid H'
          have HU := Lib.hid (And.intro hu' hgt')
          have HM := Lib.hid hme
          clear H' hu' hgt' hme hu1 hX H hu2 hR hat hkey hrg1 hg2
          simp at q0
          go_wp2_with fail
          go_region
          all_goals go_wp2_with fail
          all_goals go_roundw
          case rel => exact ⟨_, cnt1, Eout', HH.out, HU.out.1, HU.out.2⟩
          case measure => exact HM.out
    · intro x c kl yd yp w1 cnt1 hkey hlk hR hat hrg1 hlt hg1 hs1 hen
      obtain ⟨x', ex, rfl, hwx⟩ := Maps.keyOf_int_inv Try.underlying23 hkey
      obtain rfl : x = x' := by simpa [encW] using ex
      obtain ⟨c', ec, rfl⟩ := everR_inv hR
      obtain rfl : c = c' := by simpa using ec
      obtain ⟨W', hrun, ⟨Dout', H'⟩, hg2⟩ := H.step (x := x) (c := c) (by omega) (by omega) hsz0 hkey hat hrg1 hlt rfl hg1
      have hX : Below w1.heap.size w1 (w1.alloc (.cells #[.int .i64 c] 46)).drew := Below.drew ((Below.refl _ _).alloc (Nat.le_refl _) _)
      have hu1 : Upd (fun k => k = nl) W1 (w1.alloc (.cells #[.int .i64 c] 46)).drew := (hu.grown hg1 (fun k e hk => by injection e with e; omega)).below hX
      have q0 := cell_of_row _ np 0 _ 44 (0, 0) (hu1.heap hfn (by omega))
      have q1 : (w1.alloc (.cells #[.int .i64 c] 46)).drew.cell? ⟨w1.heap.size, 0, none⟩ = some (.int .i64 c) := cell_of_row _ w1.heap.size 0 _ 46 (0, 0) (heap_alloc_new w1 _)
      have hu' : Upd (fun k => k = nl) W1 W' := hu1.grown hg2 (fun k e _ => by injection e with e; exact e.symm)
      have hgt' : W1.heap.size < W'.heap.size := by have := hg2.size; have := hg1.size; simp at *; omega
      have hme : W'.rangeLeft bl W1.heap.size < wr.rangeLeft bl W1.heap.size := by rw [H'.src.left_eq, H.src.left_eq]; exact hlt
      have HH := Lib.hid H'
      have HU := Lib.hid (And.intro hu' hgt')
      have HM := Lib.hid hme
      clear H' hu' hgt' hme hu1 hX H hu hR hat hkey hrg1 hg2
      simp at q0
      go_wp2_with fail
      go_region
      all_goals go_wp2_with fail
      all_goals go_roundw
      case rel => exact ⟨_, cnt1, Dout', HH.out, HU.out.1, HU.out.2⟩
      case measure => exact HM.out
end Go.Proofs.Ytoikjokdabpmoaa
