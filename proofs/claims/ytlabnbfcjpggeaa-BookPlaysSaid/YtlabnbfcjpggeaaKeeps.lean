/- BookKeeps, walked: it answers true. -/
import Derived.Test.YtlabnbfcjpggeaaDone
import Derived.Laws.StructEq
import Derived.Lib.QuietBelow
namespace Go.Proofs.Ytlabnbfcjpggeaa
open Go.RowKit Go.Maps

theorem map_lt {w : World} {bm n : Nat} {D : DataW Unit} {k : TypeId} {R : Value → Option (DataW Unit × List MemPlace)} (h : w.ownsMap Try.prog k R bm n D) : bm < w.heap.size := h.lt
/-- A book's blocks lie in the memory that there is. -/
theorem BookAt.low {w : World} {F : Nat → Prop} {bp bm : Nat} {Al : Option Addr} {cl : Nat} {L : List (RH × Rec)} (h : BookAt w F bp bm Al cl L) : BookAt w (fun k => F k ∧ k < w.heap.size) bp bm Al cl L :=
  { h with
    fb := ⟨h.fb, h.lt⟩
    fm := ⟨h.fm, by obtain ⟨D, hm, _⟩ := h.map; exact hm.lt⟩
    fr := fun g e => ⟨h.fr g e, own_lt h.row e⟩
    fs := fun p hp => ⟨fun g e => ⟨(h.fs p hp).1 g e, own_lt (h.batch p hp) e⟩, fun g e => ⟨(h.fs p hp).2 g e, own_lt (h.acts p hp) e⟩⟩ }

/-- What is noted: its numbers, and where its batch lies. -/
structure OpD where
  kind : Int
  thr : Int
  ev : Int
  call : I5
  act : I4
  err : Int
  ok : Bool
  hnd : Int
  Ab : Option Addr
  nb : Nat
  cb : Nat
def opV (o : OpD) : List Value :=
  [.int .i64 o.kind, .int .i64 o.thr, .int .i64 o.ev, .int .i64 o.call.1, .int .i64 o.call.2.1, .int .u64 o.call.2.2.1, .int .u64 o.call.2.2.2.1, .int .i64 o.call.2.2.2.2, .int .i64 o.act.1, .int .u64 o.act.2.1, .int .i64 o.act.2.2.1, .int .i64 o.act.2.2.2, .int .i64 o.err, .bool o.ok, .int .u64 o.hnd, .slice o.Ab o.nb o.cb]
theorem opV_len (o : OpD) : (opV o).length = 16 := rfl
def opsV (l : List OpD) : List Value := l.flatMap opV

/-- The first record of BookKeeps. -/
def r0 (bs : List I3) : Rec := ended { fresh (-7) (4, 0, 0, 0, 0) 0 with acts := [(2, 0, 0, 1)] } 2 0 0 false bs

/-- What holds at each round's head. -/
def KInv (w : World) (bs : List I3) (bp bm : Nat) (i : Nat) (wr : World) : Prop :=
  ∃ F Al cl L rest, BookAt wr F bp bm Al cl L ∧ (∀ k, F k → w.heap.size ≤ k) ∧ L.map (·.2) = r0 bs :: rest ∧ L.length ≤ i + 1 ∧ (∀ r ∈ L.map (·.2), r.acts.length ≤ i + 1 ∧ r.batch.length ≤ 100) ∧ Below w.heap.size w wr

theorem KInv.same {w : World} {bs : List I3} {bp bm i : Nat} {wr wr' : World} (h : KInv w bs bp bm i wr) (hb : Below wr.heap.size wr wr') : KInv w bs bp bm (i + 1) wr' := by
  obtain ⟨F, Al, cl, L, rest, h1, h2, h3, h4, h5, h6⟩ := h
  exact ⟨F, Al, cl, L, rest, h1.below hb, h2, h3, by omega, fun r hr => ⟨by have := (h5 r hr).1; omega, (h5 r hr).2⟩, h6.trans (hb.mono h6.size)⟩
theorem KInv.kept {w : World} {bs : List I3} {bp bm i : Nat} {wr wr' : World} {F : Nat → Prop} {L : List (RH × Rec)} {rest : List Rec} {Al' : Option Addr} {cl' : Nat} {L' : List (RH × Rec)}
    (h2 : ∀ k, F k → w.heap.size ≤ k) (h3 : L.map (·.2) = r0 bs :: rest) (h4 : L.length ≤ i + 1) (h5 : ∀ r ∈ L.map (·.2), r.acts.length ≤ i + 1 ∧ r.batch.length ≤ 100) (h6 : Below w.heap.size w wr)
    (hL : L'.map (·.2) = L.map (·.2)) (hb : BookAt wr' (fun k => F k ∨ wr.heap.size ≤ k) bp bm Al' cl' L') (hu : Upd F wr wr') : KInv w bs bp bm (i + 1) wr' := by
  have hs := h6.size
  refine ⟨_, Al', cl', L', rest, hb, fun k h => by rcases h with h | h; exact h2 k h; omega, by rw [hL, h3], ?_, ?_, h6.trans (hu.to_below hs h2)⟩
  · have h := congrArg List.length hL
    simp at h
    omega
  · intro r hr
    rw [hL] at hr
    exact ⟨by have := (h5 r hr).1; omega, (h5 r hr).2⟩
theorem KInv.begun {w : World} {bs : List I3} {bp bm i : Nat} {wr wr' : World} {F : Nat → Prop} {L : List (RH × Rec)} {rest : List Rec} {t ev : Int} {c : I5} {Al' : Option Addr} {cl' : Nat} {L' : List (RH × Rec)}
    (h2 : ∀ k, F k → w.heap.size ≤ k) (h3 : L.map (·.2) = r0 bs :: rest) (h4 : L.length ≤ i + 1) (h5 : ∀ r ∈ L.map (·.2), r.acts.length ≤ i + 1 ∧ r.batch.length ≤ 100) (h6 : Below w.heap.size w wr)
    (hL : L'.map (·.2) = L.map (·.2) ++ [fresh t c ev]) (hb : BookAt wr' (fun k => F k ∨ wr.heap.size ≤ k) bp bm Al' cl' L') (hu : Upd F wr wr') : KInv w bs bp bm (i + 1) wr' := by
  have hs := h6.size
  refine ⟨_, Al', cl', L', rest ++ [fresh t c ev], hb, fun k h => by rcases h with h | h; exact h2 k h; omega, by rw [hL, h3]; rfl, ?_, ?_, h6.trans (hu.to_below hs h2)⟩
  · have h := congrArg List.length hL
    simp at h
    omega
  · intro r hr
    rw [hL, List.mem_append] at hr
    rcases hr with hr | hr
    · exact ⟨by have := (h5 r hr).1; omega, (h5 r hr).2⟩
    · simp at hr; subst hr; simp [fresh]
theorem KInv.acted {w : World} {bs : List I3} {bp bm i k : Nat} {wr wr' : World} {F : Nat → Prop} {L : List (RH × Rec)} {rest : List Rec} {a : I4} {r : Rec} {Al' : Option Addr} {cl' : Nat} {L' : List (RH × Rec)}
    (h2 : ∀ k, F k → w.heap.size ≤ k) (h3 : L.map (·.2) = r0 bs :: rest) (h4 : L.length ≤ i + 1) (h5 : ∀ r ∈ L.map (·.2), r.acts.length ≤ i + 1 ∧ r.batch.length ≤ 100) (h6 : Below w.heap.size w wr)
    (hk : (L.map (·.2))[k]? = some r) (hd : r.done = false)
    (hL : L'.map (·.2) = (L.map (·.2)).set k { r with acts := r.acts ++ [a] }) (hb : BookAt wr' (fun k => F k ∨ wr.heap.size ≤ k) bp bm Al' cl' L') (hu : Upd F wr wr') : KInv w bs bp bm (i + 1) wr' := by
  have hs := h6.size
  have hk0 : k ≠ 0 := fun e => by
    subst e
    rw [h3] at hk
    simp at hk
    rw [← hk] at hd
    cases hd
  obtain ⟨j, rfl⟩ : ∃ j, k = j + 1 := ⟨k - 1, by omega⟩
  refine ⟨_, Al', cl', L', rest.set j { r with acts := r.acts ++ [a] }, hb, fun k h => by rcases h with h | h; exact h2 k h; omega, by rw [hL, h3]; rfl, ?_, ?_, h6.trans (hu.to_below hs h2)⟩
  · have h := congrArg List.length hL
    simp at h
    omega
  · intro x hx
    rw [hL] at hx
    have hr := h5 r (List.mem_iff_getElem?.2 ⟨_, hk⟩)
    rcases set_mem hx with rfl | ⟨q, _, hq⟩
    · simp
      omega
    · have hq' := h5 x (List.mem_iff_getElem?.2 ⟨q, hq⟩)
      omega

theorem eq_due (a1 a2 a3 : Int) (W : World) : (binOp .eql 39 (.agg #[.int .u64 a1, .int .i64 a2, .int .u64 a3]) (.agg #[.int .u64 a1, .int .i64 a2, .int .u64 a3])).run Try.prog W = .ok (.bool true) W := by
  have u3 := Try.underlying3
  have u29 := Try.underlying29
  have hS : Try.prog.underlying 39 = some (.struct (Try.prog.fieldsOf 39)) := by kernel_rfl
  have hp : Try.prog.stoodInHeld 39 = false := by kernel_rfl
  rw [run_eql_struct, show (10000 : Nat) = 9999 + 1 from rfl, run_equalIn_agg W 9999 39 _ _ hS hp]
  simp only [Program.fieldsOf, Try.underlying39]
  go_simp
theorem dueGuard : Try.prog.eqGuardType Try.prog.depth 39 = false := by kernel_rfl

theorem ops_cells {w wr : World} {A : Option Addr} {ops : List OpD} {i : Nat} {o : OpD} (h : SR w (fun _ => True) A (opsV ops)) (hb : Below w.heap.size w wr) (hi : ops[i]? = some o) :
    ∃ b off, A = some ⟨b, off, none⟩ ∧ ∀ j v, (opV o)[j]? = some v → wr.cell? ⟨b, off + i * 16 + j, none⟩ = some v := by
  have hlt := (List.getElem?_eq_some_iff.1 hi).1
  obtain ⟨b, off, hA, _, _, hc⟩ := h.below hb (by rw [opsV, flat_length opV 16 opV_len]; omega)
  refine ⟨b, off, hA, fun j v hj => ?_⟩
  have hj16 : j < 16 := by have := (List.getElem?_eq_some_iff.1 hj).1; rw [opV_len] at this; exact this
  rw [Nat.add_assoc]
  exact hc (i * 16 + j) v ((flat_at opV 16 opV_len ops i o hi j hj16).trans hj)

set_option maxRecDepth 100000 in
set_option maxHeartbeats 4000000 in
theorem keeps_any (A B : Option Addr) (ca cb : Nat) (ops : List OpD) (bs : List I3) (w : World) (hn : ops.length ≤ 100) (hb0 : 0 < bs.length) (hb1 : bs.length ≤ 100)
    (ho : SR w (fun _ => True) A (opsV ops)) (hbs : SR w (fun _ => True) B (duesV bs)) (hwf : ∀ o ∈ ops, wf64 o.thr) :
    Calls Try.prog 3 #[.slice A ops.length ca, .slice B bs.length cb] w fun e w' => e = .returned (.bool true) ∧ Below w.heap.size w w' := by
  have t7 : wf64 (-7) := by decide
  obtain ⟨i0, hi0, hz0, hz1, hz2⟩ := info_parts info39
  have hd1 : ¬ (100 : Int) < (ops.length : Int) := by omega
  have hd2 : ((bs.length : Int) == 0) = false := beq_eq_false_iff_ne.2 (by omega)
  have hd3 : ¬ (100 : Int) < (bs.length : Int) := by omega
  go_enter Try.func3, Try.ntmps3
  go_wp2_with fail
  refine (New_any w).mono ?_
  rintro e w1 ⟨bp, bm, rfl, hk1, hw1⟩
  go_wp2_with fail
  refine (Begin_ok hk1 (-7) 0 (4, 0, 0, 0, 0) t7 (fun i ⟨r, hr, _⟩ => by simp at hr) (by simp)).mono ?_
  rintro e w2 ⟨rfl, A2, c2, L2, hL2, hk2, hu2⟩
  have hw2 : Below w.heap.size w w2 := hw1.trans (hu2.to_below hw1.size (fun k h => h))
  have hund2 : Und (L2.map (·.2)) (-7) 0 := by rw [hL2]; exact ⟨_, rfl, rfl, rfl⟩
  have hget2 : (L2.map (·.2))[0]? = some (fresh (-7) (4, 0, 0, 0, 0) 0) := by rw [hL2]; rfl
  have HL2 := Lib.hid hL2
  clear hL2
  have hw1s := hw1.size
  have hw2s := hw2.size
  go_wp2_with fail
  refine (Act_ok hk2 (-7) 1 (2, 0, 0, 0) t7 0 _ hund2 hget2 (by simp [fresh])).mono ?_
  rintro e w3 ⟨rfl, A3, c3, L3, hL3, hk3, hu3⟩
  rw [HL2.out] at hL3
  have hw3 : Below w.heap.size w w3 := hw2.trans (hu3.to_below hw2s (fun k h => by rcases h with h | h <;> omega))
  have hw3s := hw3.size
  have hund3 : Und (L3.map (·.2)) (-7) 0 := by rw [hL3]; exact ⟨_, rfl, rfl, rfl⟩
  have hget3 : (L3.map (·.2))[0]? = some { fresh (-7) (4, 0, 0, 0, 0) 0 with acts := [(2, 0, 0, 1)] } := by rw [hL3]; rfl
  have HL3 := Lib.hid hL3
  clear hL3 hund2 hget2
  have hbs3 : SR (w3.alloc (.cells #[] 39)) (fun _ => True) B (duesV bs) := (hbs.upd (hw3.mono (Nat.le_refl _) |> fun h => Upd.of_below (fun _ => False) h) (fun _ _ _ => id)).below ((Below.refl _ _).alloc (Nat.le_refl _) _)
  have hown0 := World.ownsRow_made (e := 39) (size := 3) w3 #[] 0 (Nat.le_refl _) (by simp [maxLen]) rfl
  have hbl := duesV_len bs
  have Hbl := Lib.hid hbl
  clear hbl
  go_wp2_with (at_builtin; refine wpList_append_read rfl (.tmp 32) (.tmp 33) 23 rfl Try.underlying23 hi0 hz0 hz1 hz2 rfl (by decide) rfl hown0 rfl hbs3 Hbl.out (duesV_one bs) (by simp only [maxLen]; omega) (by omega) (by simp) ?_; intro v4 w4 hown4 hg4 hat4; obtain ⟨A4, c4, rfl⟩ := own_form hown4)
  rw [Nat.zero_add, List.nil_append] at hown4
  have hw34 : Below w3.heap.size w3 w4 := ((Below.refl _ _).alloc (Nat.le_refl _) _).grown hg4 (by simp) (fun k hk => by injection hk with hk; subst hk; exact Nat.le_refl _)
  have hk4 := (hk3.low).below hw34
  have hw4s := hw34.size
  refine (End_ok hk4 (-7) 2 0 0 false A4 c4 bs t7 0 _ hund3 hget3 (SR.of_own hown4 (fun _ => True) (fun _ _ => trivial)) (by omega)).mono ?_
  rintro e w5 ⟨rfl, A5, c5, L5, hL5, hk5, hu5⟩
  rw [HL3.out] at hL5
  have hL5' : L5.map (·.2) = [r0 bs] := hL5
  obtain ⟨gm, rfl⟩ := own_pos hown4 hb0
  have hgm := hown4.lt gm rfl
  have hown5 := own_upd hu5 hown4 (fun g hg e => by
    injection hg with hg
    subst hg
    have h2 : gm < w3.heap.size := e.2
    omega)
  have hw4 : Below w.heap.size w w4 := hw3.trans (hw34.mono hw3s)
  have hw4s' := hw4.size
  have hw5 : Below w.heap.size w w5 := hw4.trans (hu5.to_below hw4s' (fun k h => by rcases h with ⟨(h | h) | h, _⟩ <;> omega))
  obtain ⟨d, bs', hbc⟩ : ∃ d bs', bs = d :: bs' := by
    cases bs with
    | nil => simp at hb0
    | cons d bs' => exact ⟨d, bs', rfl⟩
  have hm0 : w5.cell? ⟨gm, 0, none⟩ = some (.int .u64 d.1) := by
    rw [hown5.cellAt 0 (by omega), hbc]
    rfl
  have hmf := hown5.frozenAt 0
  have HL5 := Lib.hid hL5'
  have Hbc := Lib.hid hbc
  clear hL5 hL5' hbc hund3 hget3
  have hi0' : (0 : Int) < (bs.length : Int) := by omega
  go_wp2_with fail
  obtain ⟨W6, hW6⟩ : ∃ W6, W6 = w5.setCell ⟨gm, 0, none⟩ (.int .u64 (IntKind.u64.wrap (d.1 + 1))) := ⟨_, rfl⟩
  have hu6 : Upd (fun k => k = gm) w5 W6 := by rw [hW6]; exact (Upd.refl (fun k => k = gm) w5).setCell (p := ⟨gm, 0, none⟩) (fun _ => rfl) _
  have hk6 := hk5.upd hu6 (fun k _ h e => by
    subst e
    rcases h with ⟨_, h⟩ | h
    · have h2 : k < w3.heap.size := h
      omega
    · omega)
  have hw6 : Below w.heap.size w W6 := hw5.trans (hu6.to_below hw5.size (fun k e => by omega))
  have hw6s := hw6.size
  rw [← hW6]
  have hl5 : L5.length = 1 := by have h := congrArg List.length HL5.out; simpa using h
  have hall : ∀ p ∈ L5, p.2.acts.length ≤ 1000 ∧ p.2.batch.length * 24 ≤ 140737488355328 := fun p hp => by
    have h : p.2 ∈ L5.map (·.2) := List.mem_map.2 ⟨p, hp, rfl⟩
    rw [HL5.out] at h
    simp at h
    rw [h]
    simp [r0, ended, fresh]
    omega
  have Hl5 := Lib.hid hl5
  clear hl5 hW6 hm0 hmf
  refine (All_any hk6 (by rw [Hl5.out]; omega) (fun p hp => (hall p hp).1) (fun p hp => (hall p hp).2)).mono ?_
  rintro e w7 ⟨A7, c7, M, hM, rfl, hM7, hw7⟩
  have hk7 := (hk6.low).below hw7
  have hw7' : Below w.heap.size w w7 := hw6.trans (hw7.mono hw6s)
  have hMl : M.length = 1 := by have h := congrArg List.length hM; rw [List.length_map, List.length_map, Hl5.out] at h; exact h
  rw [HL5.out] at hM
  obtain ⟨q, hq⟩ : ∃ q, M[0]? = some q := ⟨_, List.getElem?_eq_getElem (by omega)⟩
  have hq2 : q.2 = r0 bs := by
    have h : (M.map (·.2))[0]? = some q.2 := by rw [List.getElem?_map, hq]; rfl
    rw [hM] at h
    simp at h
    exact h.symm
  have hqm : q ∈ M := List.mem_iff_getElem?.2 ⟨0, hq⟩
  have hrow := hM7.row
  have hqb := hM7.batch q hqm
  have hqa := hM7.acts q hqm
  obtain ⟨gt, rfl⟩ := own_pos hrow (by omega)
  have hcell : ∀ j, j < 14 → w7.cell? ⟨gt, 0 * 14 + j, none⟩ = (recV q)[j]? := fun j hj => (hrow.cellAt (0 * 14 + j) (by omega)).trans (flat_at recV 14 recV_len M 0 q hq j hj)
  have hc12 := hcell 12 (by decide)
  have hc13 := hcell 13 (by decide)
  simp [recV, bSl, aSl, hq2, r0, ended, fresh] at hc12 hc13
  simp only [bSl, aSl, hq2, r0, ended, fresh] at hqb hqa
  obtain ⟨gb, hgb⟩ := own_pos hqb (by omega)
  obtain ⟨ga, hga⟩ := own_pos hqa (by simp)
  rw [hgb] at hc12 hqb
  rw [hga] at hc13 hqa
  have hd0 : w7.cell? ⟨gb, 0, none⟩ = some (.int .u64 d.1) := by
    rw [hqb.cellAt 0 (by omega), Hbc.out]
    rfl
  have hdf := hqb.frozenAt 0
  have ha0 : w7.cell? ⟨ga, 0, none⟩ = some (.int .i64 2) := by
    rw [hqa.cellAt 0 (by simp)]
    rfl
  have haf := hqa.frozenAt 0
  have hgbl := hqb.lt gb rfl
  have hgal := hqa.lt ga rfl
  have hgtl := hrow.lt gt rfl
  have hba : gb ≠ ga := fun e => own_ne hqb hqa (by decide) rfl (by rw [e]; rfl)
  have hbt : gb ≠ gt := fun e => own_ne hqb hrow (by decide) rfl (by rw [e]; rfl)
  have HMl := Lib.hid hMl
  clear hMl hM hq hq2 hcell hqm hgb hga
  rw [HMl.out]
  have hlb : ((bs.length : Int) != (bs.length : Int)) = false := by simp
  go_wp2_with fail
  have hw8 : Below w.heap.size w ((w7.setCell ⟨gb, 0, none⟩ (.int .u64 (IntKind.u64.wrap (d.1 + 2)))).setCell ⟨ga, 0, none⟩ (.int .i64 9)) := (hw7'.setCell (p := ⟨gb, 0, none⟩) (by simp; omega) _).setCell (p := ⟨ga, 0, none⟩) (by simp; omega) _
  have hk8 := hk7.upd (((Upd.refl (fun k => k = gb ∨ k = ga) w7).setCell (p := ⟨gb, 0, none⟩) (fun _ => .inl rfl) (.int .u64 (IntKind.u64.wrap (d.1 + 2)))).setCell (p := ⟨ga, 0, none⟩) (fun _ => .inr rfl) (.int .i64 9)) (fun k _ h e => by
    have h2 : k < W6.heap.size := h.2
    rcases e with e | e <;> omega)
  have hstart : KInv w bs bp bm 0 ((w7.setCell ⟨gb, 0, none⟩ (.int .u64 (IntKind.u64.wrap (d.1 + 2)))).setCell ⟨ga, 0, none⟩ (.int .i64 9)) :=
    ⟨_, _, _, L5, [], hk8, fun k h => by
      rcases h.1 with ⟨(⟨(h | h) | h, _⟩), _⟩ | h <;> omega, HL5.out, by rw [Hl5.out]; omega, fun r hr => by rw [HL5.out] at hr; simp at hr; subst hr; simp [r0, ended, fresh]; omega, hw8⟩
  go_loopw [8, 9] (fun v8 _ wr => ∃ i : Nat, i ≤ ops.length ∧ v8 = .int .i64 i ∧ KInv w bs bp bm i wr) (fun v8 _ _ => ops.length - (intOf v8).toNat)
  case atStart => exact ⟨0, Nat.zero_le _, rfl, hstart⟩
  case round =>
    obtain ⟨i, hil, rfl, hinv⟩ := hrel
    obtain ⟨F, Al, cl, L, rest, hk, hF, hL, hLn, hLa, hwr⟩ := id hinv
    have hwrs := hwr.size
    by_cases hlt : i < ops.length
    · obtain ⟨o, ho_i, hoV⟩ : ∃ o, ops[i]? = some o ∧ o ∈ ops := ⟨_, List.getElem?_eq_getElem hlt, List.getElem_mem _⟩
      obtain ⟨b, off, rfl, hcs⟩ := ops_cells ho hwr ho_i
      have q0 := hcs 0 _ rfl
      rw [Nat.add_zero] at q0
      have q1 := hcs 1 _ rfl
      have q2 := hcs 2 _ rfl
      have q3 := hcs 3 _ rfl
      have q4 := hcs 4 _ rfl
      have q5 := hcs 5 _ rfl
      have q6 := hcs 6 _ rfl
      have q7 := hcs 7 _ rfl
      have q8 := hcs 8 _ rfl
      have q9 := hcs 9 _ rfl
      have q10 := hcs 10 _ rfl
      have q11 := hcs 11 _ rfl
      have q12 := hcs 12 _ rfl
      have q13 := hcs 13 _ rfl
      have q14 := hcs 14 _ rfl
      have q15 := hcs 15 _ rfl
      have hi1 : (0 : Int) ≤ (i : Int) := Int.natCast_nonneg _
      have hi2 : (i : Int) < (ops.length : Int) := by omega
      have ht := hwf o hoV
      have hbw := (Below.refl wr.heap.size wr).alloc (Nat.le_refl _) (.cells #[.int .i64 o.kind, .int .i64 o.thr, .int .i64 o.ev, .int .i64 o.call.1, .int .i64 o.call.2.1, .int .u64 o.call.2.2.1, .int .u64 o.call.2.2.2.1, .int .i64 o.call.2.2.2.2, .int .i64 o.act.1, .int .u64 o.act.2.1, .int .i64 o.act.2.2.1, .int .i64 o.act.2.2.2, .int .i64 o.err, .bool o.ok, .int .u64 o.hnd, .slice o.Ab o.nb o.cb] 46)
      have hkA := hk.below hbw
      have hinA := fun (w' : World) (h : Below wr.heap.size wr w') => hinv.same h
      go_wp2_with fail
      · rcases Classical.em (∃ k, Und (L.map (·.2)) o.thr k) with ⟨k, hund⟩ | hno
        · refine (Begin_busy hkA o.thr o.ev o.call ht k hund).mono ?_
          rintro e w8 ⟨rfl, A8, c8, L8, hL8, hk8, hu8⟩
          have hnext := KInv.kept hF hL hLn hLa (hwr.trans (hbw.mono hwrs)) hL8 hk8 hu8
          go_wp2_with fail
          go_roundw
          case rel => exact ⟨i + 1, by omega, by go_num, hnext⟩
          case measure => simp [intOf]; omega
        · refine (Begin_ok hkA o.thr o.ev o.call ht (fun k h => hno ⟨k, h⟩) (by omega)).mono ?_
          rintro e w8 ⟨rfl, A8, c8, L8, hL8, hk8, hu8⟩
          have hnext := KInv.begun hF hL hLn hLa (hwr.trans (hbw.mono hwrs)) hL8 hk8 hu8
          go_wp2_with fail
          go_roundw
          case rel => exact ⟨i + 1, by omega, by go_num, hnext⟩
          case measure => simp [intOf]; omega
      · rcases Classical.em (∃ k, Und (L.map (·.2)) o.thr k) with ⟨k, hund⟩ | hno
        · obtain ⟨r, hr, hr1, hr2⟩ := id hund
          refine (Act_ok hkA o.thr o.ev o.act ht k r hund hr (by have := (hLa r (List.mem_iff_getElem?.2 ⟨k, hr⟩)).1; omega)).mono ?_
          rintro e w8 ⟨rfl, A8, c8, L8, hL8, hk8, hu8⟩
          have hnext := KInv.acted hF hL hLn hLa (hwr.trans (hbw.mono hwrs)) hr hr2 hL8 hk8 hu8
          go_wp2_with fail
          go_roundw
          case rel => exact ⟨i + 1, by omega, by go_num, hnext⟩
          case measure => simp [intOf]; omega
        · refine (Act_idle hkA o.thr o.ev o.act ht (fun k h => hno ⟨k, h⟩)).mono ?_
          rintro e w8 ⟨rfl, A8, c8, L8, hL8, hk8, hu8⟩
          have hnext := KInv.kept hF hL hLn hLa (hwr.trans (hbw.mono hwrs)) hL8 hk8 hu8
          go_wp2_with fail
          go_roundw
          case rel => exact ⟨i + 1, by omega, by go_num, hnext⟩
          case measure => simp [intOf]; omega
      · have hnext := hinA _ hbw
        exact ⟨⟨i + 1, by omega, by go_num, hnext⟩, by simp [intOf]; omega⟩
    · obtain rfl : i = ops.length := by omega
      have hbsr := hbs.below (hwr.mono (Nat.le_refl _))
      clear hinv
      go_wp2_with fail
      have hLl : 1 ≤ L.length := by have h := congrArg List.length hL; simp at h; omega
      refine (All_any hk (by omega) (fun p hp => by have := (hLa p.2 (List.mem_map.2 ⟨p, hp, rfl⟩)).1; omega) (fun p hp => by have := (hLa p.2 (List.mem_map.2 ⟨p, hp, rfl⟩)).2; omega)).mono ?_
      rintro e w8 ⟨A8, c8, N, hN, rfl, hN8, hw8⟩
      have hw8' : Below w.heap.size w w8 := hwr.trans (hw8.mono hwrs)
      have hw8s := hw8'.size
      have hNl : N.length = L.length := by have h := congrArg List.length hN; rwa [List.length_map, List.length_map] at h
      rw [hL] at hN
      obtain ⟨q, hq⟩ : ∃ q, N[0]? = some q := ⟨_, List.getElem?_eq_getElem (by omega)⟩
      have hq2 : q.2 = r0 bs := by
        have h : (N.map (·.2))[0]? = some q.2 := by rw [List.getElem?_map, hq]; rfl
        rw [hN] at h
        simp at h
        exact h.symm
      have hqm : q ∈ N := List.mem_iff_getElem?.2 ⟨0, hq⟩
      have hrow := hN8.row
      have hqb := hN8.batch q hqm
      have hqa := hN8.acts q hqm
      obtain ⟨gt8, rfl⟩ := own_pos hrow (by omega)
      have hcell : ∀ j, j < 14 → w8.cell? ⟨gt8, 0 * 14 + j, none⟩ = (recV q)[j]? := fun j hj => (hrow.cellAt (0 * 14 + j) (by omega)).trans (flat_at recV 14 recV_len N 0 q hq j hj)
      have n0 := hcell 0 (by decide)
      have n7 := hcell 7 (by decide)
      have n8 := hcell 8 (by decide)
      have n12 := hcell 12 (by decide)
      have n13 := hcell 13 (by decide)
      simp [recV, bSl, aSl, hq2, r0, ended, fresh] at n0 n7 n8 n12 n13
      simp only [bSl, aSl, hq2, r0, ended, fresh] at hqb hqa
      obtain ⟨gb8, hgb8⟩ := own_pos hqb (by omega)
      obtain ⟨ga8, hga8⟩ := own_pos hqa (by simp)
      rw [hgb8] at n12 hqb
      rw [hga8] at n13 hqa
      have d0 : w8.cell? ⟨gb8, 0, none⟩ = some (.int .u64 d.1) := by
        rw [hqb.cellAt 0 (by omega), Hbc.out]
        rfl
      have d1 : w8.cell? ⟨gb8, 1, none⟩ = some (.int .i64 d.2.1) := by
        rw [hqb.cellAt 1 (by omega), Hbc.out]
        rfl
      have d2 : w8.cell? ⟨gb8, 2, none⟩ = some (.int .u64 d.2.2) := by
        rw [hqb.cellAt 2 (by omega), Hbc.out]
        rfl
      have a0 : w8.cell? ⟨ga8, 0, none⟩ = some (.int .i64 2) := by
        rw [hqa.cellAt 0 (by simp)]
        rfl
      obtain ⟨bB, oB, rfl, _, _, hcB⟩ := hbs.below (hw8'.mono (Nat.le_refl _)) (by rw [Hbl.out]; omega)
      have b0 := hcB 0 (.int .u64 d.1) (by rw [Hbc.out]; rfl)
      have b1 := hcB 1 (.int .i64 d.2.1) (by rw [Hbc.out]; rfl)
      have b2 := hcB 2 (.int .u64 d.2.2) (by rw [Hbc.out]; rfl)
      rw [Nat.add_zero] at b0
      have p0 := cell_regrown n0
      have p7 := cell_regrown n7
      have p8 := cell_regrown n8
      have p12 := cell_regrown n12
      have p13 := cell_regrown n13
      have pd0 := cell_regrown d0
      have pd1 := cell_regrown d1
      have pd2 := cell_regrown d2
      have pa0 := cell_regrown a0
      have pb0 := cell_regrown b0
      have pb1 := cell_regrown b1
      have pb2 := cell_regrown b2
      have E := eq_due d.1 d.2.1 d.2.2
      have G := dueGuard
      have cA := fun k os => Calls.regrown_of (awake_any (Sort.grow (redrawn w8 k) os))
      have hNp : (1 : Int) ≤ (N.length : Int) := by omega
      have hNp0 : (0 : Int) < (N.length : Int) := by omega
      clear n0 n7 n8 n12 n13 d0 d1 d2 a0 b0 b1 b2 hcB hcell hq hq2 hqm hN hNl
      go_wp2_with fail
      refine wp_region_quiet_below (by kernel_rfl) (by kernel_rfl) ?_
      repeat (go_big_quiet_step (exact cA _ _))
      refine wpQuiet_nil ?_
      intro _ hw'
      obtain ⟨⟨dq, osq⟩, hw''⟩ := hw'
      subst hw''
      have hbq := hw8'.trans ((below_regrown w8 dq osq).mono hw8s)
      go_wp2_with fail
      go_ret
      exact ⟨rfl, hbq⟩

end Go.Proofs.Ytlabnbfcjpggeaa
