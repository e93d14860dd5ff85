/- What the reference's Act leaves: plain. -/
import Derived.Test.YtlabnbfcjpggeaaRefBegin
namespace Go.Proofs.Ytlabnbfcjpggeaa
open Go.RowKit Go.Maps

theorem refact_close {w W w5 : World} {G : Nat → Prop} {A A5 : Option Addr} {L : List (RH × Rec)} {p : RH × Rec} {j g3 c3 c5 B b5 : Nat} {a1 a2 a3 ev : Int} (hA : Recs w G A L) (hbW : Below w.heap.size w W) (hw15 : Below W.heap.size W w5)
    (hownW : W.ownsRow B 44 14 (.slice (some ⟨g3, 0, none⟩) L.length c3) L.length (recsV L)) (hp : L[j]? = some p) (hg3 : w.heap.size ≤ g3)
    (hown5 : w5.ownsRow b5 34 4 (.slice A5 (p.2.acts.length + 1) c5) (p.2.acts.length + 1) (actsV p.2.acts ++ [.int .i64 a1, .int .u64 a2, .int .i64 a3, .int .i64 ev]))
    (hG : ∀ g, (Value.slice A5 (p.2.acts.length + 1) c5).ownBlock = some g → W.heap.size ≤ g) :
    RNoted w G 0 ((L.map (·.2)).set j { p.2 with acts := p.2.acts ++ [(a1, a2, a3, ev)] }) (.returned (.tuple #[.slice (some ⟨g3, 0, none⟩) L.length c3, .int .i64 0])) (w5.setCell ⟨g3, j * 14 + 13, none⟩ (.slice A5 (p.2.acts.length + 1) c5)) := by
  have hs := hbW.size
  have hg3W : g3 < W.heap.size := own_lt hownW rfl
  have hpm : p ∈ L := List.mem_iff_getElem?.2 ⟨j, hp⟩
  have hb5 : Below w.heap.size w w5 := hbW.trans (hw15.mono hs)
  have hbF : Below w.heap.size w (w5.setCell ⟨g3, j * 14 + 13, none⟩ (.slice A5 (p.2.acts.length + 1) c5)) := hb5.setCell (p := ⟨g3, j * 14 + 13, none⟩) hg3 _
  have hu : Upd (fun k => k = g3) w5 (w5.setCell ⟨g3, j * 14 + 13, none⟩ (.slice A5 (p.2.acts.length + 1) c5)) := (Upd.refl (fun k => k = g3) w5).setCell (p := ⟨g3, j * 14 + 13, none⟩) (fun _ => rfl) _
  obtain ⟨e, m⟩ := recs_set (({ p.1 with Aa := A5, ca := c5 }, { p.2 with acts := p.2.acts ++ [(a1, a2, a3, ev)] }) : RH × Rec) hp 13 (.slice A5 (p.2.acts.length + 1) c5) (by decide) (by simp [recV, aSl, bSl])
  have hrowF := ((own_below hw15 hownW).stored (j * 14 + 13) (.slice A5 (p.2.acts.length + 1) c5)).1
  rw [← e] at hrowF
  refine (fun (hR : Recs (w5.setCell ⟨g3, j * 14 + 13, none⟩ (.slice A5 (p.2.acts.length + 1) c5)) (fun k => G k ∨ w.heap.size ≤ k) (some ⟨g3, 0, none⟩) (L.set j (({ p.1 with Aa := A5, ca := c5 }, { p.2 with acts := p.2.acts ++ [(a1, a2, a3, ev)] }) : RH × Rec))) => ⟨some ⟨g3, 0, none⟩, c3, L.set j (({ p.1 with Aa := A5, ca := c5 }, { p.2 with acts := p.2.acts ++ [(a1, a2, a3, ev)] }) : RH × Rec), by rw [List.map_set], by rw [List.length_set], hbF, hR⟩) ?_
  refine ⟨SR.of_own hrowF _ (fun g hg => .inr (by injection hg with hg; subst hg; exact hg3)), fun q hq => ?_, fun q hq => ?_⟩
  · rcases set_mem hq with rfl | ⟨k, _, hk⟩
    · exact ((hA.batch p hpm).below hbF).mono (fun _ _ h => .inl h)
    · exact ((hA.batch q (List.mem_iff_getElem?.2 ⟨k, hk⟩)).below hbF).mono (fun _ _ h => .inl h)
  · rcases set_mem hq with rfl | ⟨k, _, hk⟩
    · have h5 : SR w5 (fun k => W.heap.size ≤ k) A5 (actsV (p.2.acts ++ [(a1, a2, a3, ev)])) := by
        have he : actsV (p.2.acts ++ [(a1, a2, a3, ev)]) = actsV p.2.acts ++ [.int .i64 a1, .int .u64 a2, .int .i64 a3, .int .i64 ev] := by simp [actsV, actV]
        rw [he]
        exact SR.of_own hown5 _ hG
      exact (h5.upd hu (fun k h _ e => by omega)).mono (fun k _ h => .inr (by omega))
    · exact ((hA.acts q (List.mem_iff_getElem?.2 ⟨k, hk⟩)).below hbF).mono (fun _ _ h => .inl h)
end Go.Proofs.Ytlabnbfcjpggeaa
