/- What an end does to a book that lies in memory: outside the walk. -/
import Derived.Test.YtlabnbfcjpggeaaLaws2
import Derived.OwnWalk
namespace Go.Proofs.Ytlabnbfcjpggeaa
open Go.RowKit Go.Maps

/-- The record, ended. -/
def ended (r : Rec) (ev er hd : Int) (ok : Bool) (bs : List I3) : Rec := { r with done := true, fin := ev, err := er, ok := ok, hnd := hd, batch := bs }

/-- The six stores. -/
def six (W : World) (g o : Nat) (ev er hd : Int) (ok : Bool) (v : Value) : World :=
  (((((W.setCell ⟨g, o + 8, none⟩ (.bool true)).setCell ⟨g, o + 7, none⟩ (.int .i64 ev)).setCell ⟨g, o + 9, none⟩ (.int .i64 er)).setCell ⟨g, o + 9 + 1, none⟩ (.bool ok)).setCell ⟨g, o + 9 + 2, none⟩ (.int .u64 hd)).setCell ⟨g, o + 9 + 3, none⟩ v

theorem six_upd (W : World) (g o : Nat) (ev er hd : Int) (ok : Bool) (v : Value) : Upd (fun k => k = g) W (six W g o ev er hd ok v) :=
  ((((((Upd.refl (fun k => k = g) W).setCell (p := ⟨g, o + 8, none⟩) (fun _ => rfl) _).setCell (p := ⟨g, o + 7, none⟩) (fun _ => rfl) _).setCell (p := ⟨g, o + 9, none⟩) (fun _ => rfl) _).setCell (p := ⟨g, o + 9 + 1, none⟩) (fun _ => rfl) _).setCell (p := ⟨g, o + 9 + 2, none⟩) (fun _ => rfl) _).setCell (p := ⟨g, o + 9 + 3, none⟩) (fun _ => rfl) _

theorem recs_set {M : List (RH × Rec)} {i : Nat} {x : RH × Rec} (y : RH × Rec) (hx : M[i]? = some x) (j : Nat) (v : Value) (hj : j < 14) (hy : recV y = (recV x).set j v) : recsV (M.set i y) = (recsV M).set (i * 14 + j) v ∧ (M.set i y)[i]? = some y :=
  ⟨flat_set recV 14 recV_len M i x y hx j v hj hy, List.getElem?_set_self (List.getElem?_eq_some_iff.1 hx).1⟩

theorem six_row {W : World} {g i cl n : Nat} {L : List (RH × Rec)} {p : RH × Rec} (hp : L[i]? = some p) (h : W.ownsRow 0 44 14 (.slice (some ⟨g, 0, none⟩) n cl) n (recsV L)) (ev er hd : Int) (ok : Bool) (bs : List I3) (A2 : Option Addr) (c2 : Nat) :
    (six W g (i * 14) ev er hd ok (.slice A2 bs.length c2)).ownsRow 0 44 14 (.slice (some ⟨g, 0, none⟩) n cl) n (recsV (L.set i ({ p.1 with Ab := A2, cb := c2 }, ended p.2 ev er hd ok bs))) := by
  obtain ⟨e1, m1⟩ := recs_set (p.1, { p.2 with done := true }) hp 8 (.bool true) (by decide) rfl
  obtain ⟨e2, m2⟩ := recs_set (p.1, { p.2 with done := true, fin := ev }) m1 7 (.int .i64 ev) (by decide) rfl
  obtain ⟨e3, m3⟩ := recs_set (p.1, { p.2 with done := true, fin := ev, err := er }) m2 9 (.int .i64 er) (by decide) rfl
  obtain ⟨e4, m4⟩ := recs_set (p.1, { p.2 with done := true, fin := ev, err := er, ok := ok }) m3 10 (.bool ok) (by decide) rfl
  obtain ⟨e5, m5⟩ := recs_set (p.1, { p.2 with done := true, fin := ev, err := er, ok := ok, hnd := hd }) m4 11 (.int .u64 hd) (by decide) rfl
  obtain ⟨e6, _⟩ := recs_set ({ p.1 with Ab := A2, cb := c2 }, ended p.2 ev er hd ok bs) m5 12 (.slice A2 bs.length c2) (by decide) rfl
  simp only [List.set_set] at e2 e3 e4 e5 e6
  rw [e6, e5, e4, e3, e2, e1]
  exact ((((((h.stored (i * 14 + 8) (.bool true)).1.stored (i * 14 + 7) (.int .i64 ev)).1.stored (i * 14 + 9) (.int .i64 er)).1.stored (i * 14 + 9 + 1) (.bool ok)).1.stored (i * 14 + 9 + 2) (.int .u64 hd)).1.stored (i * 14 + 9 + 3) (.slice A2 bs.length c2)).1

theorem end_close {w W3 W5 : World} {F : Nat → Prop} {bp bm g i B : Nat} {cl : Nat} {L : List (RH × Rec)} {p : RH × Rec} {ev er hd : Int} {ok : Bool} {bs : List I3} {A2 : Option Addr} {c2 : Nat} {D : DataW Unit}
    (hb : BookAt W3 F bp bm (some ⟨g, 0, none⟩) cl L) (hu3 : Upd (fun _ => False) w W3) (hp : L[i]? = some p) (hd0 : p.2.done = false)
    (hown3 : W3.ownsRow B 39 3 (.slice A2 bs.length c2) bs.length (duesV bs)) (hB : w.heap.size ≤ B)
    (hm3 : W3.ownsMap (H := Unit) Try.prog 3 (plainElem Try.prog 3) bm (L.map (·.2)).length D) (hg : Good D (L.map (·.2))) (hwf : ∀ r ∈ L.map (·.2), wf64 r.thr)
    (hm5 : W5.ownsMap (H := Unit) Try.prog 3 (plainElem Try.prog 3) bm (L.map (·.2)).length (D.del (.int .i64 p.2.thr))) (hg5 : (six W3 g (i * 14) ev er hd ok (.slice A2 bs.length c2)).drew.grownBy W5 (some bm)) :
    let p' : RH × Rec := ({ p.1 with Ab := A2, cb := c2 }, ended p.2 ev er hd ok bs)
    BookAt W5 (fun k => F k ∨ w.heap.size ≤ k) bp bm (some ⟨g, 0, none⟩) cl (L.set i p') ∧ Upd F w W5 := by
  intro p'
  have hpm : p ∈ L := List.mem_iff_getElem?.2 ⟨i, hp⟩
  have hi2 : (L.map (·.2))[i]? = some p.2 := by rw [List.getElem?_map, hp]; rfl
  have htidy : Tidy D := World.ownsMap.tidy hm3 law
  obtain ⟨es3, clk3, hmh, _⟩ := hm3
  obtain ⟨es5, clk5, hmh5, hmr5⟩ := hm5
  have hbpg : bp ≠ g := fun e => by subst e; exact own_heap_ne hb.row hb.fields (fun cur h => by injection h with _ h; exact absurd h (by decide)) rfl
  have hbmg : bm ≠ g := fun e => by subst e; exact own_heap_ne hb.row hmh (fun cur h => by cases h) rfl
  have hbpm : bp ≠ bm := fun e => by
    have hf := hb.fields
    rw [e, hmh] at hf
    cases hf
  have hu4 : Upd (fun k => k = g) W3 (six W3 g (i * 14) ev er hd ok (.slice A2 bs.length c2)).drew := (six_upd W3 g (i * 14) ev er hd ok _).drew
  have hu5 : Upd (fun k => k = bm) (six W3 g (i * 14) ev er hd ok (.slice A2 bs.length c2)).drew W5 := (Upd.refl _ _).grown hg5 (fun k hk _ => by injection hk with hk; exact hk.symm)
  have hm4 := hu4.heap hmh hbmg
  have hrow4 : (six W3 g (i * 14) ev er hd ok (.slice A2 bs.length c2)).drew.ownsRow 0 44 14 (.slice (some ⟨g, 0, none⟩) L.length cl) L.length (recsV (L.set i p')) := World.ownsRow.drew (six_row hp hb.row ev er hd ok bs A2 c2)
  have hL' : (L.set i p').map (·.2) = (L.map (·.2)).set i p'.2 := by rw [List.map_set]
  have other : ∀ {b e size n : Nat} {v : Value} {xs : List Value}, e ≠ 44 → W3.ownsRow b e size v n xs → W5.ownsRow b e size v n xs := by
    intro b e size n v xs h44 h
    have h4 := own_upd hu4 h (fun x hx e' => by subst e'; exact own_ne hb.row h h44.symm rfl hx)
    exact own_upd hu5 h4 (fun x hx e' => by subst e'; exact own_heap_ne h4 hm4 (fun cur h => by cases h) hx)
  have hnew := other (by decide) hown3
  constructor
  · refine { fields := ?_, row := ?_, map := ⟨D.del (.int .i64 p.2.thr), ⟨es5, clk5, hmh5, by simpa using hmr5⟩, by rw [hL']; exact good_del htidy hg hi2 hd0 (hwf p.2 (List.mem_map.2 ⟨p, hpm, rfl⟩)) rfl rfl, ?_⟩, batch := ?_, acts := ?_, apart := ?_, fb := .inl hb.fb, fm := .inl hb.fm, fr := ?_, fs := ?_ }
    · rw [List.length_set]
      exact hu5.heap (hu4.heap hb.fields hbpg) hbpm
    · rw [List.length_set]
      exact own_upd hu5 hrow4 (fun x hx e' => by subst e'; exact own_heap_ne hrow4 hm4 (fun cur h => by cases h) hx)
    · rw [hL']
      intro x hx
      rcases set_mem hx with rfl | ⟨k, _, hk⟩
      · exact hwf p.2 (List.mem_map.2 ⟨p, hpm, rfl⟩)
      · exact hwf x (List.mem_iff_getElem?.2 ⟨k, hk⟩)
    · intro q hq
      rcases set_mem hq with rfl | ⟨k, _, hk⟩
      · exact own_base hnew (fun _ _ => Nat.zero_le _)
      · exact other (by decide) (hb.batch q (List.mem_iff_getElem?.2 ⟨k, hk⟩))
    · intro q hq
      rcases set_mem hq with rfl | ⟨k, _, hk⟩
      · exact other (by decide) (hb.acts p hpm)
      · exact other (by decide) (hb.acts q (List.mem_iff_getElem?.2 ⟨k, hk⟩))
    · intro k1 k2 q1 q2 h1 h2 x hx1 hx2
      have old : ∀ (k : Nat) (q : RH × Rec), (L.set i p')[k]? = some q → (aSl q).ownBlock = some x → ∃ q', L[k]? = some q' ∧ (aSl q').ownBlock = some x := by
        intro k q hk hx
        rcases set_get hk with ⟨rfl, rfl⟩ | ⟨_, hk⟩
        · exact ⟨p, hp, hx⟩
        · exact ⟨q, hk, hx⟩
      obtain ⟨r1, hr1, hx1'⟩ := old k1 q1 h1 hx1
      obtain ⟨r2, hr2, hx2'⟩ := old k2 q2 h2 hx2
      exact hb.apart k1 k2 r1 r2 hr1 hr2 x hx1' hx2'
    · rw [List.length_set]
      exact fun x hx => .inl (hb.fr x hx)
    · intro q hq
      rcases set_mem hq with rfl | ⟨k, _, hk⟩
      · refine ⟨fun x hx => .inr (Nat.le_trans hB (hown3.lt x hx).1), fun x hx => .inl ((hb.fs p hpm).2 x hx)⟩
      · have hqm := List.mem_iff_getElem?.2 ⟨k, hk⟩
        exact ⟨fun x hx => .inl ((hb.fs q hqm).1 x hx), fun x hx => .inl ((hb.fs q hqm).2 x hx)⟩
  · have h1 : Upd F w W3 := hu3.mono (fun _ _ h => h.elim)
    exact (h1.trans hu4 (fun k _ e => by rw [e]; exact hb.fr g rfl)).trans hu5 (fun k _ e => by rw [e]; exact hb.fm)

end Go.Proofs.Ytlabnbfcjpggeaa
