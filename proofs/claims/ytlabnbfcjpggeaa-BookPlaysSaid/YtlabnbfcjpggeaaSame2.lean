/- The reference's comparisons of records, walked where both sides read alike. -/
import Derived.Test.YtlabnbfcjpggeaaSame
namespace Go.Proofs.Ytlabnbfcjpggeaa
open Go.RowKit Go.Maps

def ansV (r : Rec) (A : Option Addr) (c : Nat) : Value := .agg #[.int .i64 r.err, .bool r.ok, .int .u64 r.hnd, .slice A r.batch.length c]
set_option maxHeartbeats 1000000 in
theorem sameAnswer_any (e h : Int) (ok : Bool) (l : List I3) (A B : Option Addr) (ca cb : Nat) (w : World) (hA : SR w (fun _ => True) A (duesV l)) (hB : SR w (fun _ => True) B (duesV l)) (hn : l.length * 24 ≤ 140737488355328) :
    Calls Try.prog 29 #[.agg #[.int .i64 e, .bool ok, .int .u64 h, .slice A l.length ca], .agg #[.int .i64 e, .bool ok, .int .u64 h, .slice B l.length cb]] w fun e w' => e = .returned (.bool true) ∧ Below w.heap.size w w' := by
  have C := fun (w' : World) (hb : Below w.heap.size w w') => sameDue_any l A B ca cb w' (hA.below hb) (hB.below hb) hn
  go_enter Try.func29, Try.ntmps29
  go_wp2_with fail
  refine (C _ (((Below.refl _ _).alloc (Nat.le_refl _) _).alloc (by simp) _)).mono ?_
  rintro e w1 ⟨rfl, hw1⟩
  go_wp2_with fail
  go_ret
  exact ⟨rfl, (((Below.refl _ _).alloc (Nat.le_refl _) _).alloc (by simp) _).trans (hw1.mono (by simp; omega))⟩

theorem cell_box1 (w : World) (xs ys : Array Value) (t u : TypeId) (j : Nat) {v : Value} (h : xs[j]? = some v) : ((w.alloc (.cells xs t)).alloc (.cells ys u)).cell? ⟨w.heap.size, j, none⟩ = some v := by
  have e : ((w.alloc (.cells xs t)).alloc (.cells ys u)).heap[w.heap.size]? = some (.cells xs t) := by
    show ((w.heap.push (.cells xs t)).push (.cells ys u))[w.heap.size]? = _
    rw [Array.getElem?_push, if_neg (by simp), Array.getElem?_push_size]
  simp only [World.cell?, e]
  exact h
theorem cell_box2 (w : World) (xs ys : Array Value) (t u : TypeId) (j : Nat) {v : Value} (h : ys[j]? = some v) : ((w.alloc (.cells xs t)).alloc (.cells ys u)).cell? ⟨w.heap.size + 1, j, none⟩ = some v := by
  have e : ((w.alloc (.cells xs t)).alloc (.cells ys u)).heap[w.heap.size + 1]? = some (.cells ys u) := by
    show ((w.heap.push (.cells xs t)).push (.cells ys u))[w.heap.size + 1]? = _
    rw [Array.getElem?_push, if_pos (by simp)]
  simp only [World.cell?, e]
  exact h
def recA (p : RH × Rec) : Value := .agg (recV p).toArray

set_option maxRecDepth 100000 in
set_option maxHeartbeats 1000000 in
theorem one_any (p q : RH × Rec) (w : World) (hpq : p.2 = q.2) (hA : SR w (fun _ => True) p.1.Ab (duesV p.2.batch)) (hB : SR w (fun _ => True) q.1.Ab (duesV q.2.batch))
    (hA2 : SR w (fun _ => True) p.1.Aa (actsV p.2.acts)) (hB2 : SR w (fun _ => True) q.1.Aa (actsV q.2.acts)) (hn : p.2.batch.length * 24 ≤ 140737488355328) (hn2 : p.2.acts.length * 24 ≤ 140737488355328) :
    Calls Try.prog 24 #[recA p, recA q] w fun e w' => e = .returned (.bool true) ∧ Below w.heap.size w w' := by
  obtain ⟨ph, r⟩ := p
  obtain ⟨qh, r'⟩ := q
  simp only at hpq
  subst hpq
  have C1 := fun (w' : World) (hb : Below w.heap.size w w') => sameAnswer_any r.err r.hnd r.ok r.batch ph.Ab qh.Ab ph.cb qh.cb w' (hA.below hb) (hB.below hb) hn
  have C2 := fun (w' : World) (hb : Below w.heap.size w w') => sameAct_any r.acts ph.Aa qh.Aa ph.ca qh.ca w' (hA2.below hb) (hB2.below hb) hn2
  have E := eq_call r.call.1 r.call.2.1 r.call.2.2.1 r.call.2.2.2.1 r.call.2.2.2.2
  have G := callGuard
  simp only [recA, recV, bSl, aSl]
  go_enter Try.func24, Try.ntmps24
  go_wp2_with fail
  refine (C1 _ (((Below.refl _ _).alloc (Nat.le_refl _) _).alloc (by simp) _)).mono ?_
  rintro e w1 ⟨rfl, hw1⟩
  have n1 : w1.cell? ⟨w.heap.size, 13, none⟩ = some (.slice ph.Aa r.acts.length ph.ca) := by
    exact (hw1.cell (p := ⟨w.heap.size, 13, none⟩) (by simp; omega)).trans (cell_box1 w _ _ _ _ 13 rfl)
  have n2 : w1.cell? ⟨w.heap.size + 1, 13, none⟩ = some (.slice qh.Aa r.acts.length qh.ca) := by
    exact (hw1.cell (p := ⟨w.heap.size + 1, 13, none⟩) (by simp)).trans (cell_box2 w _ _ _ _ 13 rfl)
  go_wp2_with fail
  refine (C2 _ ((((Below.refl _ _).alloc (Nat.le_refl _) _).alloc (by simp) _).trans (hw1.mono (by simp; omega)))).mono ?_
  rintro e w2 ⟨rfl, hw2⟩
  go_wp2_with fail
  go_ret
  exact ⟨rfl, ((((Below.refl _ _).alloc (Nat.le_refl _) _).alloc (by simp) _).trans (hw1.mono (by simp; omega))).trans (hw2.mono (by have := hw1.size; simp at this; omega))⟩
end Go.Proofs.Ytlabnbfcjpggeaa
