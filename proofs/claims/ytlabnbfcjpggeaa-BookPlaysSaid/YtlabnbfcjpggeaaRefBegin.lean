/- The reference's Begin, walked. -/
import Derived.Test.YtlabnbfcjpggeaaRefEnd
import Derived.Deep.AppendLies
namespace Go.Proofs.Ytlabnbfcjpggeaa
open Go.RowKit Go.Maps

/-- append of a slice that reads as cells, at a step of a region that draws its order. -/
theorem step_append_read {P : Program} {w : World} {ops : Array Oper} {o : Oper} {a : Act} {K : Act → World → Prop} {Q : Exit → Act → World → Prop} {E : Prop} (hgd : o.guard = none) (s x : Operand) (t : TypeId)
    (ho : o.op = .call { callee := .builtin .append, args := #[s, x], argTypes := #[t, t] }) {base e size bytes n m c : Nat} {i : TypeInfo} {z v : Value} {xs news : List Value} {G : Nat → Prop} {A : Option Addr}
    (ht : P.underlying t = some (.slice e)) (hi : P.info? e = some i) (hz : i.zero = some z) (hsize : i.size = size) (hby : i.bytes = bytes) (hzs : z.cells.size = size) (hsz : 0 < size)
    (hs : a.eval s = v) (hx : a.eval x = .slice A m c) (hown : w.ownsRow base e size v n xs) (hr : SR w G A news) (hl : news.length = m * size) (h1 : ∀ u ∈ news, u.oneCell' = true) (h63 : n + m ≤ maxLen) (hb : (n + m) * bytes ≤ 140737488355328) (hbase : base ≤ w.heap.size)
    (h : ∀ v' w', w'.ownsRow base e size v' (n + m) (xs ++ news) → w.grownBy w' v.ownBlock → (v'.ownBlock = v.ownBlock ∨ v'.ownBlock = some w.heap.size) → K (a.put o.dst v') w') :
    if Region.wanted o (yielded ops a.tmps) = true then Oper.wp P o a w K Q else E := by
  have hw : Region.wanted o (yielded ops a.tmps) = true := by simp [Region.wanted, hgd]
  rw [if_pos hw]
  obtain ⟨v', w', hrun, h2, h3, h4⟩ := run_append_read (c := c) o.type ht hi hz hsize hby hzs hsz hown hr hl h1 h63 hb hbase
  unfold Oper.wp execOp
  simp only [ho, resolve, invoke, builtin, Sem.run_bind, Sem.run_pure, Result.andThen_ok, List.map_toArray, List.map_cons, List.map_nil, hs, hx, hrun]
  exact h v' w' h2 h3 h4

theorem SR.of_block {w : World} {b : Nat} {cs : Array Value} {t : TypeId} {fr : Nat × Nat} (h : w.heap[b]? = some (.cells cs t fr)) : SR w (fun k => k = b) (some ⟨b, 0, none⟩) cs.toList := fun _ =>
  ⟨b, 0, rfl, rfl, (Array.getElem?_eq_some_iff.1 h).1, fun j v hj => by rw [Nat.zero_add]; simpa using (cell_of_row w b j _ t fr h).trans (by simpa using hj)⟩
theorem heap_one (w : World) (a b : Obj) : ((w.drew.alloc a).alloc b).heap[w.heap.size]? = some a := by
  show ((w.heap.push a).push b)[w.heap.size]? = _
  rw [Array.getElem?_push, if_neg (by simp), Array.getElem?_push_size]
theorem heap_two (w : World) (a b : Obj) : ((w.drew.alloc a).alloc b).heap[w.heap.size + 1]? = some b := by
  show ((w.heap.push a).push b)[w.heap.size + 1]? = _
  rw [Array.getElem?_push, if_pos (by simp)]
theorem own_made' (e size : Nat) (W : World) (N : Nat) (hN : W.heap.size = N) : (W.alloc (.cells #[] e)).ownsRow N e size (.slice (some ⟨N, 0, none⟩) 0 0) 0 [] := by
  subst hN
  have h := World.ownsRow_made (e := e) (size := size) W #[] 0 (Nat.le_refl _) (by simp [maxLen]) (by simp)
  exact h

set_option maxRecDepth 100000 in
set_option maxHeartbeats 2000000 in
theorem refBegin_busy (L : List (RH × Rec)) (A : Option Addr) (c : Nat) (t ev : Int) (k : I5) (w : World) (G : Nat → Prop) (hl : L.length ≤ 1000) (hA : Recs w G A L) (i : Nat) (hi : Und (L.map (·.2)) t i) :
    Calls Try.prog 11 #[.slice A L.length c, .int .i64 t, .agg #[.int .i64 k.1, .int .i64 k.2.1, .int .u64 k.2.2.1, .int .u64 k.2.2.2.1, .int .i64 k.2.2.2.2], .int .i64 ev] w (RNoted w G 5 (L.map (·.2))) := by
  have hbw : Below w.heap.size w (w.alloc (.cells #[.int .i64 k.1, .int .i64 k.2.1, .int .u64 k.2.2.1, .int .u64 k.2.2.2.1, .int .i64 k.2.2.2.2] 31)) := (Below.refl _ w).alloc (Nat.le_refl _) _
  have C := refUnder_any L A c t _ hl ((hA.below hbw).row.mono (fun _ _ _ => trivial))
  go_enter Try.func11, Try.ntmps11
  go_wp2_with fail
  refine C.mono ?_
  rintro e w1 ⟨hb1, h | ⟨h, _⟩⟩
  case inr => exact absurd hi (h i)
  obtain ⟨j, _, rfl⟩ := h
  have h0 : (0 : Int) ≤ (j : Int) := by omega
  go_wp2_with fail
  go_ret2
  have hb : Below w.heap.size w w1 := hbw.trans (hb1.mono (by simp))
  exact ⟨A, c, L, rfl, rfl, hb, (hA.below hb).mono (fun _ _ h => .inl h)⟩

set_option maxRecDepth 100000 in
set_option maxHeartbeats 4000000 in
theorem refBegin_ok (L : List (RH × Rec)) (A : Option Addr) (c : Nat) (t ev : Int) (k : I5) (w : World) (G : Nat → Prop) (hl : L.length ≤ 1000) (hA : Recs w G A L) (hno : ∀ i, ¬ Und (L.map (·.2)) t i) :
    Calls Try.prog 11 #[.slice A L.length c, .int .i64 t, .agg #[.int .i64 k.1, .int .i64 k.2.1, .int .u64 k.2.2.1, .int .u64 k.2.2.2.1, .int .i64 k.2.2.2.2], .int .i64 ev] w (RNoted w G 0 (L.map (·.2) ++ [fresh t k ev])) := by
  obtain ⟨k1, k2, k3, k4, k5⟩ := k
  obtain ⟨i0, hi0, hz0, hz1, hz2⟩ := info_parts info44
  have hbw : Below w.heap.size w (w.alloc (.cells #[.int .i64 k1, .int .i64 k2, .int .u64 k3, .int .u64 k4, .int .i64 k5] 31)) := (Below.refl _ w).alloc (Nat.le_refl _) _
  have C := refUnder_any L A c t _ hl ((hA.below hbw).row.mono (fun _ _ _ => trivial))
  have hlen := flat_length recV 14 recV_len L
  go_enter Try.func11, Try.ntmps11
  go_wp2_with fail
  refine C.mono ?_
  rintro e w1 ⟨hb1, h | ⟨_, rfl⟩⟩
  · obtain ⟨i, hi, _⟩ := h
    exact absurd hi (hno i)
  have hb : Below w.heap.size w w1 := hbw.trans (hb1.mono (by simp))
  have hbs := hb.size
  have hcb : w1.heap[w.heap.size]? = some (.cells #[.int .i64 k1, .int .i64 k2, .int .u64 k3, .int .u64 k4, .int .i64 k5] 31 (0, 0)) := (hb1.block w.heap.size (by simp)).trans (heap_alloc_new w _)
  have hwl : w.heap.size < w1.heap.size := by have := hb1.size; simp at this; omega
  have hrone : ∀ u ∈ recsV L, u.oneCell' = true := recsV_one L
  have hA1 := hA.below hb
  have Hlen := Lib.hid hlen
  clear hlen
  have g1 := cell_of_row w1 w.heap.size 0 _ 31 (0, 0) hcb
  have g2 := cell_of_row w1 w.heap.size 1 _ 31 (0, 0) hcb
  have g3 := cell_of_row w1 w.heap.size 2 _ 31 (0, 0) hcb
  have g4 := cell_of_row w1 w.heap.size 3 _ 31 (0, 0) hcb
  have g5 := cell_of_row w1 w.heap.size 4 _ 31 (0, 0) hcb
  simp at g1 g2 g3 g4 g5
  go_wp2_with fail
  go_region_law (first
    | (refine step_append_read rfl (.tmp 15) (.tmp 16) 40 rfl Try.underlying40 hi0 hz0 hz1 hz2 rfl (by decide) (by rfl) (by rfl) (World.ownsRow_made (e := 44) (size := 14) w1.drew #[] 0 (Nat.le_refl _) (by simp [maxLen]) rfl) (by exact (hA1.row.below (Below.alloc ((Below.refl w1.heap.size w1).drew) (by simp <;> omega) (.cells #[] 44)))) Hlen.out hrone (by simp only [maxLen]; omega) (by omega) (by simp <;> omega) ?_; intro v4 w4 hown4 hg4 hat4; rw [Nat.zero_add, List.nil_append] at hown4; have hw14 : Below w1.heap.size w1 w4 := Below.grown (Below.alloc ((Below.refl w1.heap.size w1).drew) (by simp <;> omega) (.cells #[] 44)) hg4 (by simp <;> omega) (fun q hq => by injection hq with hq; subst hq; simp <;> omega); have hz14 := hw14.size; have hcb4 := (hw14.block w.heap.size hwl).trans hcb; have b1 := cell_of_row w4 w.heap.size 0 _ 31 (0, 0) hcb4; have b2 := cell_of_row w4 w.heap.size 1 _ 31 (0, 0) hcb4; have b3 := cell_of_row w4 w.heap.size 2 _ 31 (0, 0) hcb4; have b4 := cell_of_row w4 w.heap.size 3 _ 31 (0, 0) hcb4; have b5 := cell_of_row w4 w.heap.size 4 _ 31 (0, 0) hcb4; simp at b1 b2 b3 b4 b5)
    | (refine step_append_read rfl (.tmp 15) (.tmp 16) 40 rfl Try.underlying40 hi0 hz0 hz1 hz2 rfl (by decide) (by rfl) (by rfl) (World.ownsRow.alloc (World.ownsRow_made (e := 44) (size := 14) w1.drew #[] 0 (Nat.le_refl _) (by simp [maxLen]) rfl) _) (by exact (hA1.row.below (Below.alloc (Below.alloc ((Below.refl w1.heap.size w1).drew) (by simp <;> omega) (.cells #[] 44)) (by simp <;> omega) (.cells #[.int .i64 t, .int .i64 k1, .int .i64 k2, .int .u64 k3, .int .u64 k4, .int .i64 k5, .int .i64 ev, .int .i64 0, .bool false, .int .i64 0, .bool false, .int .u64 0, .slice none 0 0, .slice none 0 0] 44)))) Hlen.out hrone (by simp only [maxLen]; omega) (by omega) (by simp <;> omega) ?_; intro v4 w4 hown4 hg4 hat4; rw [Nat.zero_add, List.nil_append] at hown4; have hw14 : Below w1.heap.size w1 w4 := Below.grown (Below.alloc (Below.alloc ((Below.refl w1.heap.size w1).drew) (by simp <;> omega) (.cells #[] 44)) (by simp <;> omega) (.cells #[.int .i64 t, .int .i64 k1, .int .i64 k2, .int .u64 k3, .int .u64 k4, .int .i64 k5, .int .i64 ev, .int .i64 0, .bool false, .int .i64 0, .bool false, .int .u64 0, .slice none 0 0, .slice none 0 0] 44)) hg4 (by simp <;> omega) (fun q hq => by injection hq with hq; subst hq; simp <;> omega); have hz14 := hw14.size; have hcb4 := (hw14.block w.heap.size hwl).trans hcb; have b1 := cell_of_row w4 w.heap.size 0 _ 31 (0, 0) hcb4; have b2 := cell_of_row w4 w.heap.size 1 _ 31 (0, 0) hcb4; have b3 := cell_of_row w4 w.heap.size 2 _ 31 (0, 0) hcb4; have b4 := cell_of_row w4 w.heap.size 3 _ 31 (0, 0) hcb4; have b5 := cell_of_row w4 w.heap.size 4 _ 31 (0, 0) hcb4; simp at b1 b2 b3 b4 b5; have hr1 : SR w4 (fun k => k = w1.heap.size + 1) (some ⟨w1.heap.size + 1, 0, none⟩) #[.int .i64 t, .int .i64 k1, .int .i64 k2, .int .u64 k3, .int .u64 k4, .int .i64 k5, .int .i64 ev, .int .i64 0, .bool false, .int .i64 0, .bool false, .int .u64 0, .slice none 0 0, .slice none 0 0].toList := (SR.of_block (heap_two w1 _ _)).upd ((Upd.refl (fun k => k = w1.heap.size) _).grown hg4 (fun k hk _ => by injection hk with hk; exact hk.symm)) (fun k h _ e => by omega))
    | (refine step_append_read rfl (.tmp 15) (.tmp 16) 40 rfl Try.underlying40 hi0 hz0 hz1 hz2 rfl (by decide) (by rfl) (by rfl) (own_made' 44 14 _ (w1.heap.size + 1) (by simp)) (by exact (hA1.row.below (Below.alloc (Below.alloc ((Below.refl w1.heap.size w1).drew) (by simp <;> omega) (.cells #[.int .i64 t, .int .i64 k1, .int .i64 k2, .int .u64 k3, .int .u64 k4, .int .i64 k5, .int .i64 ev, .int .i64 0, .bool false, .int .i64 0, .bool false, .int .u64 0, .slice none 0 0, .slice none 0 0] 44)) (by simp <;> omega) (.cells #[] 44)))) Hlen.out hrone (by simp only [maxLen]; omega) (by omega) (by simp <;> omega) ?_; intro v4 w4 hown4 hg4 hat4; rw [Nat.zero_add, List.nil_append] at hown4; have hw14 : Below w1.heap.size w1 w4 := Below.grown (Below.alloc (Below.alloc ((Below.refl w1.heap.size w1).drew) (by simp <;> omega) (.cells #[.int .i64 t, .int .i64 k1, .int .i64 k2, .int .u64 k3, .int .u64 k4, .int .i64 k5, .int .i64 ev, .int .i64 0, .bool false, .int .i64 0, .bool false, .int .u64 0, .slice none 0 0, .slice none 0 0] 44)) (by simp <;> omega) (.cells #[] 44)) hg4 (by simp <;> omega) (fun q hq => by injection hq with hq; subst hq; simp <;> omega); have hz14 := hw14.size; have hcb4 := (hw14.block w.heap.size hwl).trans hcb; have b1 := cell_of_row w4 w.heap.size 0 _ 31 (0, 0) hcb4; have b2 := cell_of_row w4 w.heap.size 1 _ 31 (0, 0) hcb4; have b3 := cell_of_row w4 w.heap.size 2 _ 31 (0, 0) hcb4; have b4 := cell_of_row w4 w.heap.size 3 _ 31 (0, 0) hcb4; have b5 := cell_of_row w4 w.heap.size 4 _ 31 (0, 0) hcb4; simp at b1 b2 b3 b4 b5; have hr1 : SR w4 (fun k => k = w1.heap.size) (some ⟨w1.heap.size, 0, none⟩) #[.int .i64 t, .int .i64 k1, .int .i64 k2, .int .u64 k3, .int .u64 k4, .int .i64 k5, .int .i64 ev, .int .i64 0, .bool false, .int .i64 0, .bool false, .int .u64 0, .slice none 0 0, .slice none 0 0].toList := (SR.of_block (heap_one w1 _ _)).upd ((Upd.refl (fun k => k = w1.heap.size + 1) _).grown hg4 (fun k hk _ => by injection hk with hk; exact hk.symm)) (fun k h _ e => by omega))
    | (refine step_append_read (m := 1) rfl (.tmp 17) (.tmp 22) 40 rfl Try.underlying40 hi0 hz0 hz1 hz2 rfl (by decide) (by rfl) (by rfl) (World.ownsRow.alloc hown4 _) (SR.of_block (heap_alloc_new w4 _)) (by rfl) (by simp [Value.oneCell']) (by simp only [maxLen]; omega) (by omega) (by first | omega | exact hz14 | (have h4 := hg4.size; simp at h4; omega) | (simp <;> omega)) ?_; intro v5 w5 hown5 hg5 hat5; have hw15 : Below w1.heap.size w1 w5 := Below.grown (by first | exact hw14 | exact Below.alloc hw14 (by omega) _) hg5 (by first | omega | exact hz14 | (have h4 := hg4.size; simp at h4; omega) | (simp <;> omega)) (fun q hq => by have := (hown4.lt q hq).1; (try simp at this); omega); obtain ⟨A5, c5, rfl⟩ := own_form hown5; have hG : ∀ g, (Value.slice A5 (L.length + 1) c5).ownBlock = some g → w1.heap.size ≤ g := (fun g hg => by have := (hown5.lt g hg).1; (try simp at this); omega))
    | (refine step_append_read (m := 1) rfl (.tmp 17) (.tmp 22) 40 rfl Try.underlying40 hi0 hz0 hz1 hz2 rfl (by decide) (by rfl) (by rfl) (hown4) (hr1) (by rfl) (by simp [Value.oneCell']) (by simp only [maxLen]; omega) (by omega) (by first | omega | exact hz14 | (have h4 := hg4.size; simp at h4; omega) | (simp <;> omega)) ?_; intro v5 w5 hown5 hg5 hat5; have hw15 : Below w1.heap.size w1 w5 := Below.grown (by first | exact hw14 | exact Below.alloc hw14 (by omega) _) hg5 (by first | omega | exact hz14 | (have h4 := hg4.size; simp at h4; omega) | (simp <;> omega)) (fun q hq => by have := (hown4.lt q hq).1; (try simp at this); omega); obtain ⟨A5, c5, rfl⟩ := own_form hown5; have hG : ∀ g, (Value.slice A5 (L.length + 1) c5).ownBlock = some g → w1.heap.size ≤ g := (fun g hg => by have := (hown5.lt g hg).1; (try simp at this); omega)))
  all_goals go_wp2_with fail
  all_goals go_ret2
  all_goals
    have hbF := hb.trans (hw15.mono hbs)
    refine ⟨A5, c5, L ++ [((⟨none, 0, none, 0⟩ : RH), fresh t (k1, k2, k3, k4, k5) ev)], by rw [List.map_append]; rfl, by rw [List.length_append]; rfl, hbF, ?_, fun q hq => ?_, fun q hq => ?_⟩
    · have he : recsV (L ++ [((⟨none, 0, none, 0⟩ : RH), fresh t (k1, k2, k3, k4, k5) ev)]) = recsV L ++ [.int .i64 t, .int .i64 k1, .int .i64 k2, .int .u64 k3, .int .u64 k4, .int .i64 k5, .int .i64 ev, .int .i64 0, .bool false, .int .i64 0, .bool false, .int .u64 0, .slice none 0 0, .slice none 0 0] := by
        simp [recsV, recV, fresh, bSl, aSl]
      rw [he]
      exact SR.of_own hown5 _ (fun g hg => .inr (by have := hG g hg; omega))
    · rcases List.mem_append.1 hq with h | h
      · exact ((hA.batch q h).below hbF).mono (fun _ _ h => .inl h)
      · simp at h; subst h; exact SR.nil _ _ _
    · rcases List.mem_append.1 hq with h | h
      · exact ((hA.acts q h).below hbF).mono (fun _ _ h => .inl h)
      · simp at h; subst h; exact SR.nil _ _ _
end Go.Proofs.Ytlabnbfcjpggeaa
