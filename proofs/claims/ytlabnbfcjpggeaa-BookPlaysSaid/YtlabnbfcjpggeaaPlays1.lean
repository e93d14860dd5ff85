/- Book and reference side by side: outside the walk. -/
import Derived.Test.YtlabnbfcjpggeaaUnd4
import Derived.Test.YtlabnbfcjpggeaaRefAct
import Derived.Test.YtlabnbfcjpggeaaOpenP
namespace Go.Proofs.Ytlabnbfcjpggeaa
open Go.RowKit Go.Maps

/-- How large a history is behind i notes. -/
def Bd (i : Nat) (rs : List Rec) : Prop := rs.length ≤ i ∧ ∀ r ∈ rs, r.acts.length ≤ i ∧ r.batch.length * 24 ≤ 140737488351232
theorem Bd.next {i : Nat} {rs : List Rec} (h : Bd i rs) : Bd (i + 1) rs := ⟨by have := h.1; omega, fun r hr => ⟨by have := (h.2 r hr).1; omega, (h.2 r hr).2⟩⟩
theorem Bd.snoc {i : Nat} {rs : List Rec} (h : Bd i rs) (t ev : Int) (c : I5) : Bd (i + 1) (rs ++ [fresh t c ev]) := ⟨by have := h.1; simp; omega, fun r hr => by
  rcases List.mem_append.1 hr with hr | hr
  · exact h.next.2 r hr
  · simp at hr; subst hr; simp [fresh]⟩
theorem Bd.put {i : Nat} {rs : List Rec} (h : Bd i rs) {k : Nat} {r : Rec} (h1 : r.acts.length ≤ i + 1) (h2 : r.batch.length * 24 ≤ 140737488351232) : Bd (i + 1) (rs.set k r) := ⟨by have := h.1; simp; omega, fun x hx => by
  rcases set_mem hx with rfl | ⟨q, _, hq⟩
  · exact ⟨h1, h2⟩
  · exact h.next.2 x (List.mem_iff_getElem?.2 ⟨q, hq⟩)⟩

/-- What holds at each round's head. -/
def PInv (w : World) (bp bm i : Nat) (A : Option Addr) (n : Nat) (wr : World) : Prop :=
  ∃ (F : Nat → Prop) (Al : Option Addr) (cl : Nat) (L M : List (RH × Rec)), BookAt wr F bp bm Al cl L ∧ (∀ k, F k → w.heap.size ≤ k ∧ k < wr.heap.size) ∧ Recs wr (fun k => ¬ F k) A M ∧ M.map (·.2) = L.map (·.2) ∧ M.length = n ∧ Bd i (L.map (·.2)) ∧ Below w.heap.size w wr

theorem PInv.below {w wr wr' : World} {bp bm i n : Nat} {A : Option Addr} (h : PInv w bp bm i A n wr) (hb : Below wr.heap.size wr wr') : PInv w bp bm i A n wr' := by
  obtain ⟨F, Al, cl, L, M, h1, h2, h3, h4, h5, h6, h7⟩ := h
  exact ⟨F, Al, cl, L, M, h1.below hb, fun k h => ⟨(h2 k h).1, Nat.lt_of_lt_of_le (h2 k h).2 hb.size⟩, h3.below hb, h4, h5, h6, h7.trans (hb.mono h7.size)⟩

theorem mid_recs {W w2 : World} {F : Nat → Prop} {A : Option Addr} {M : List (RH × Rec)} (hR : Recs W (fun k => ¬ F k) A M) (hu : Upd F W w2) : Recs w2 (fun k => ¬ ((F k ∨ W.heap.size ≤ k) ∧ k < w2.heap.size)) A M :=
  ((hR.mono (G' := fun k => ¬ F k ∧ k < W.heap.size) (fun _ hk h => ⟨h, hk⟩)).upd hu (fun _ h _ => h.1)).mono (fun k _ h e => by
    rcases e.1 with e1 | e1
    · exact h.1 e1
    · omega)
theorem mid_sr {w W w2 : World} {F : Nat → Prop} {A : Option Addr} {cs : List Value} (hA : SR w (fun _ => True) A cs) (hW : Below w.heap.size w W) (hF : ∀ k, F k → w.heap.size ≤ k) (hu : Upd F W w2) : SR w2 (fun k => ¬ ((F k ∨ W.heap.size ≤ k) ∧ k < w2.heap.size)) A cs :=
  (((hA.mono (G' := fun k => k < w.heap.size) (fun _ hk _ => hk)).below hW).upd hu (fun k h _ e => by have := hF k e; omega)).mono (fun k _ h e => by
    have := hW.size
    rcases e.1 with e1 | e1
    · have := hF k e1; omega
    · omega)
theorem fin_inv {w W w2 w3 : World} {F : Nat → Prop} {bp bm i : Nat} {Al : Option Addr} {cl : Nat} {L M : List (RH × Rec)} {A : Option Addr} {rs : List Rec} (hW : Below w.heap.size w W) (hF : ∀ k, F k → w.heap.size ≤ k)
    (hb2 : BookAt w2 (fun k => F k ∨ W.heap.size ≤ k) bp bm Al cl L) (hL : L.map (·.2) = rs) (hu : Upd F W w2) (hb3 : Below w2.heap.size w2 w3)
    (hR : Recs w3 (fun k => (¬ ((F k ∨ W.heap.size ≤ k) ∧ k < w2.heap.size)) ∨ w2.heap.size ≤ k) A M) (hM : M.map (·.2) = rs) (hbd : Bd i rs) : PInv w bp bm i A M.length w3 := by
  have h1 := hW.size
  have h2 := hu.size
  have h3 : Below w.heap.size w w2 := hW.trans (hu.to_below h1 hF)
  refine ⟨_, Al, cl, L, M, hb2.low.below hb3, fun k h => ?_, hR.mono (fun k _ h e => ?_), by rw [hM, hL], rfl, by rw [hL]; exact hbd, h3.trans (hb3.mono h3.size)⟩
  · refine ⟨?_, Nat.lt_of_lt_of_le h.2 hb3.size⟩
    rcases h.1 with e | e
    · exact hF k e
    · omega
  · rcases h with h | h
    · exact h e
    · have := e.2; omega

theorem book_one {w : World} {F : Nat → Prop} {bp bm : Nat} {Al : Option Addr} {cl : Nat} {L : List (RH × Rec)} (hb : BookAt w F bp bm Al cl L) {t : Int} {i : Nat} (hi : Und (L.map (·.2)) t i) : ∀ j, Und (L.map (·.2)) t j → j = i := fun j hj => by
  obtain ⟨D, _, hg, hwf⟩ := hb.map
  exact und_one hg hwf hi hj

theorem begin_both {W : World} {F : Nat → Prop} {bp bm : Nat} {Al : Option Addr} {cl : Nat} {L : List (RH × Rec)} (hk : BookAt W F bp bm Al cl L) (M : List (RH × Rec)) (hML : M.map (·.2) = L.map (·.2)) (hl : L.length ≤ 100) (t ev : Int) (c : I5) (ht : wf64 t) :
    ∃ err rs, Calls Try.prog 7 #[.pointer (some ⟨bp, 0, none⟩), .int .i64 t, .agg #[.int .i64 c.1, .int .i64 c.2.1, .int .u64 c.2.2.1, .int .u64 c.2.2.2.1, .int .i64 c.2.2.2.2], .int .i64 ev] W (Noted W F bp bm err rs) ∧
      (∀ A cc G w', Recs w' G A M → Calls Try.prog 11 #[.slice A M.length cc, .int .i64 t, .agg #[.int .i64 c.1, .int .i64 c.2.1, .int .u64 c.2.2.1, .int .u64 c.2.2.2.1, .int .i64 c.2.2.2.2], .int .i64 ev] w' (RNoted w' G err rs)) ∧ ∀ i, Bd i (L.map (·.2)) → Bd (i + 1) rs := by
  have hlen : M.length = L.length := by have h := congrArg List.length hML; rwa [List.length_map, List.length_map] at h
  rcases Classical.em (∃ i, Und (L.map (·.2)) t i) with ⟨i, hi⟩ | hno
  · exact ⟨5, _, Begin_busy hk t ev c ht i hi, fun A cc G w' h => by rw [← hML]; exact refBegin_busy M A cc t ev c w' G (by omega) h i (by rw [hML]; exact hi), fun i h => h.next⟩
  · exact ⟨0, _, Begin_ok hk t ev c ht (fun i h => hno ⟨i, h⟩) (by omega), fun A cc G w' h => by rw [← hML]; exact refBegin_ok M A cc t ev c w' G (by omega) h (by rw [hML]; exact fun i h => hno ⟨i, h⟩), fun i h => h.snoc t ev c⟩

theorem act_both {W : World} {F : Nat → Prop} {bp bm : Nat} {Al : Option Addr} {cl : Nat} {L : List (RH × Rec)} (hk : BookAt W F bp bm Al cl L) (M : List (RH × Rec)) (hML : M.map (·.2) = L.map (·.2)) {n : Nat} (hbd : Bd n (L.map (·.2))) (hn : n ≤ 100) (t ev : Int) (a : I4) (ht : wf64 t) :
    ∃ err rs, Calls Try.prog 8 #[.pointer (some ⟨bp, 0, none⟩), .int .i64 t, .agg #[.int .i64 a.1, .int .u64 a.2.1, .int .i64 a.2.2.1, .int .i64 a.2.2.2], .int .i64 ev] W (Noted W F bp bm err rs) ∧
      (∀ A cc G w', Recs w' G A M → Calls Try.prog 12 #[.slice A M.length cc, .int .i64 t, .agg #[.int .i64 a.1, .int .u64 a.2.1, .int .i64 a.2.2.1, .int .i64 a.2.2.2], .int .i64 ev] w' (RNoted w' G err rs)) ∧ Bd (n + 1) rs := by
  have hlen : M.length = L.length := by have h := congrArg List.length hML; rwa [List.length_map, List.length_map] at h
  have hl : L.length ≤ n := by have := hbd.1; rwa [List.length_map] at this
  rcases Classical.em (∃ i, Und (L.map (·.2)) t i) with ⟨i, hi⟩ | hno
  · obtain ⟨r, hr, _⟩ := id hi
    have hrb := hbd.2 r (List.mem_iff_getElem?.2 ⟨i, hr⟩)
    exact ⟨0, _, Act_ok hk t ev a ht i r hi hr (by omega), fun A cc G w' h => by rw [← hML]; exact refAct_ok M A cc t ev a w' G (by omega) h i r (by rw [hML]; exact hi) (by rw [hML]; exact book_one hk hi) (by rw [hML]; exact hr) (by omega), hbd.put (by simp; omega) hrb.2⟩
  · exact ⟨6, _, Act_idle hk t ev a ht (fun i h => hno ⟨i, h⟩), fun A cc G w' h => by rw [← hML]; exact refAct_idle M A cc t ev a w' G (by omega) h (by rw [hML]; exact fun i h => hno ⟨i, h⟩), hbd.next⟩

theorem end_both {W : World} {F : Nat → Prop} {bp bm : Nat} {Al : Option Addr} {cl : Nat} {L : List (RH × Rec)} (hk : BookAt W F bp bm Al cl L) (M : List (RH × Rec)) (hML : M.map (·.2) = L.map (·.2)) {n : Nat} (hbd : Bd n (L.map (·.2))) (hn : n ≤ 100) (t ev er hd : Int) (ok : Bool) (Ax : Option Addr) (cx : Nat) (bs : List I3) (ht : wf64 t) (hx : SR W (fun _ => True) Ax (duesV bs)) (hbs : bs.length * 24 ≤ 140737488351232) :
    ∃ err rs, Calls Try.prog 9 #[.pointer (some ⟨bp, 0, none⟩), .int .i64 t, .agg #[.int .i64 er, .bool ok, .int .u64 hd, .slice Ax bs.length cx], .int .i64 ev] W (Noted W F bp bm err rs) ∧
      (∀ A cc G w', Recs w' G A M → SR w' G Ax (duesV bs) → Calls Try.prog 13 #[.slice A M.length cc, .int .i64 t, .agg #[.int .i64 er, .bool ok, .int .u64 hd, .slice Ax bs.length cx], .int .i64 ev] w' (RNoted w' G err rs)) ∧ Bd (n + 1) rs := by
  have hlen : M.length = L.length := by have h := congrArg List.length hML; rwa [List.length_map, List.length_map] at h
  have hl : L.length ≤ n := by have := hbd.1; rwa [List.length_map] at this
  rcases Classical.em (∃ i, Und (L.map (·.2)) t i) with ⟨i, hi⟩ | hno
  · obtain ⟨r, hr, _⟩ := id hi
    have hrb := hbd.2 r (List.mem_iff_getElem?.2 ⟨i, hr⟩)
    exact ⟨0, _, End_ok hk t ev er hd ok Ax cx bs ht i r hi hr hx (by omega), fun A cc G w' h hx' => by rw [← hML]; exact refEnd_ok M A cc t ev er hd ok Ax cx bs w' G (by omega) h hx' i r (by rw [hML]; exact hi) (by rw [hML]; exact book_one hk hi) (by rw [hML]; exact hr), hbd.put (by simp [ended]; omega) hbs⟩
  · exact ⟨6, _, End_idle hk t ev er hd ok Ax bs.length cx ht (fun i h => hno ⟨i, h⟩), fun A cc G w' h _ => by rw [← hML]; exact refEnd_idle M A cc t ev er hd ok Ax bs.length cx w' G (by omega) h (by rw [hML]; exact fun i h => hno ⟨i, h⟩), hbd.next⟩

theorem thrs_len (l : List Rec) : (thrs l).length = open_ l := by simp [thrs, open_]
theorem recs_of_own {w : World} {B : Nat} {A : Option Addr} {c : Nat} {M : List (RH × Rec)} (h : RecsOwn w B A c M) : Recs w (fun _ => True) A M :=
  ⟨SR.of_own h.row _ (fun _ _ => trivial), fun p hp => SR.of_own (h.batch p hp) _ (fun _ _ => trivial), fun p hp => SR.of_own (h.acts p hp) _ (fun _ _ => trivial)⟩

/-- The five calls of a round's test. -/
theorem test_calls {w wr : World} {bp bm i n : Nat} {A : Option Addr} (h : PInv w bp bm i A n wr) (hi : i ≤ 101) :
    ∃ rs : List Rec, rs.length = n ∧ n ≤ i ∧ (thrs rs).length ≤ n ∧
      (∀ W, Below wr.heap.size wr W → Calls Try.prog 10 #[.pointer (some ⟨bp, 0, none⟩)] W fun e W' => ∃ A2 c2, e = .returned (.slice A2 n c2) ∧ Below W.heap.size W W' ∧ ∀ W2, Below W'.heap.size W' W2 → ∀ cc, Calls Try.prog 14 #[.slice A2 n c2, .slice A n cc] W2 fun e W3 => e = .returned (.bool true) ∧ Below W2.heap.size W2 W3) ∧
      (∀ W, Below wr.heap.size wr W → Calls Try.prog 16 #[.pointer (some ⟨bp, 0, none⟩)] W (ThrOut W rs)) ∧
      (∀ W, Below wr.heap.size wr W → ∀ cc, Calls Try.prog 17 #[.slice A n cc] W (ThrOut W rs)) ∧
      (∀ W, Below wr.heap.size wr W → Calls Try.prog 18 #[.pointer (some ⟨bp, 0, none⟩)] W fun e W' => e = .returned (.int .i64 ((n : Int) - ((thrs rs).length : Int))) ∧ Below W.heap.size W W') := by
  obtain ⟨F, Al, cl, L, M, h1, h2, h3, h4, h5, h6, h7⟩ := h
  have hlen : M.length = L.length := by have h := congrArg List.length h4; rwa [List.length_map, List.length_map] at h
  have hl : L.length ≤ i := by have := h6.1; rwa [List.length_map] at this
  subst h5
  refine ⟨L.map (·.2), by rw [List.length_map]; exact hlen.symm, by omega, ?_, fun W hW => ?_, fun W hW => Under_any (h1.below hW) (by omega), fun W hW cc => ?_, fun W hW => ?_⟩
  · rw [thrs_len]
    have := open_le (L.map (·.2))
    rw [List.length_map] at this
    omega
  · refine (All_any (h1.below hW) (by omega) (fun p hp => ?_) (fun p hp => ?_)).mono ?_
    · have := (h6.2 p.2 (List.mem_map.2 ⟨p, hp, rfl⟩)).1; omega
    · have := (h6.2 p.2 (List.mem_map.2 ⟨p, hp, rfl⟩)).2; omega
    · rintro e W' ⟨A2, c2, N, hN, rfl, hN2, hb⟩
      have hNl : N.length = M.length := by have h := congrArg List.length hN; rw [List.length_map, List.length_map] at h; omega
      rw [hNl]
      refine ⟨A2, c2, rfl, hb, fun W2 hW2 cc => ?_⟩
      rw [← hNl]
      have hs := sameRec_any N M A2 A c2 cc W2 (by rw [hN, h4]) (by omega) ((recs_of_own hN2).below hW2) ((((h3.mono (fun _ _ _ => trivial)).below hW).below hb).below hW2) (fun p hp => by
        have hm : p.2 ∈ L.map (·.2) := by rw [← hN]; exact List.mem_map.2 ⟨p, hp, rfl⟩
        have := h6.2 p.2 hm
        omega)
      rw [hNl] at hs ⊢
      exact hs
  · rw [← h4]
    refine (threads_any M A cc W (by omega) ((h3.below hW).row.mono (fun _ _ _ => trivial))).mono ?_
    rintro e W' ⟨hb, A', c', rfl, hr⟩
    exact ⟨A', c', rfl, hr, hb⟩
  · refine (Done_any (h1.below hW) (by omega)).mono ?_
    rintro e W' ⟨rfl, hb⟩
    refine ⟨?_, hb⟩
    rw [thrs_len, hlen]
end Go.Proofs.Ytlabnbfcjpggeaa
