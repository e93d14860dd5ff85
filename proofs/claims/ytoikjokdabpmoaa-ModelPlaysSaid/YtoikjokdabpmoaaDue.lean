/- (*Model).Due, walked. -/
import Derived.Test.YtoikjokdabpmoaaLive
import Derived.Test.YtoikjokdabpmoaaLay
namespace Go.Proofs.Ytoikjokdabpmoaa
open Go.RowKit Go.Maps Go.Shelf

theorem field46 (c : Int) (w : World) : (Instr.field 46 (.agg #[.int .i64 c]) 0).run Try.prog w = .ok (.int .i64 c) w := by kernel_rfl
/-- Due's closure reads. -/
theorem gives20 {W : World} {F : Nat → Prop} {mp bl bw : Nat} {T : List Tm} (hM : ModAt W F mp bl bw T) (bm bn : Nat) (now : Int) (hm : W.cell? ⟨bm, 0, none⟩ = some (.pointer (some ⟨mp, 0, none⟩))) (hnow : W.cell? ⟨bn, 0, none⟩ = some (.int .i64 now)) (h : Int) (hh : wfU h) :
    FnGives Try.prog 20 #[.pointer (some ⟨bm, 0, none⟩), .pointer (some ⟨bn, 0, none⟩)] #[.int .u64 h] (.bool (decide (now < xOf T h))) W := by
  show Calls Try.prog 20 #[.int .u64 h, .pointer (some ⟨bm, 0, none⟩), .pointer (some ⟨bn, 0, none⟩)] W _
  have hMD := hM.below (Below.drew (Below.refl W.heap.size W))
  have r := hMD.look_plain h hh
  have y0 := hMD.cell0
  have z0 : W.drew.cell? ⟨bm, 0, none⟩ = some (.pointer (some ⟨mp, 0, none⟩)) := hm
  have z1 : W.drew.cell? ⟨bn, 0, none⟩ = some (.int .i64 now) := hnow
  have hf := field46 (xOf T h) W.drew
  clear hMD hM hm hnow
  go_enter Try.func20, Try.ntmps20
  go_wp2_with fail
  go_region
  all_goals go_wp2_with fail
  all_goals go_ret
  all_goals exact ⟨rfl, 1, rfl⟩

abbrev WU := {x : Int // wfU x}
instance : Inhabited WU := ⟨⟨0, by decide⟩⟩
abbrev encS : WU → Value := fun x => .int .u64 x.1

theorem sortWorld_upd {w : World} (blk off n : Nat) (dk : Array WU) (os : Array Obj) : Upd (· = blk) w (sortWorld encS w blk off n dk os) := by
  refine ⟨rfl, rfl, rfl, ?_, fun k hk hn => ?_⟩
  · show w.heap.size ≤ ((Sort.putRow encS (Sort.ahead w n) blk off dk).heap ++ os).size
    rw [Array.size_append, Sort.size_putRow]
    exact Nat.le_add_right _ _
  · show ((Sort.putRow encS (Sort.ahead w n) blk off dk).heap ++ os)[k]? = w.heap[k]?
    rw [Array.getElem?_append_left (by rw [Sort.size_putRow]; exact hk)]
    show (w.heap.modify blk _)[k]? = _
    rw [Array.getElem?_modify, if_neg (Ne.symm hn)]

theorem find_nil (v : Value) (w : World) (c : Nat) : Calls Try.prog 24 #[.slice none 0 c, v] w fun e w' => e = .returned (.int .i64 (-1)) ∧ w' = w := by
  go_enter Try.func24, Try.ntmps24
  go_wp2_with fail
  go_loopg [5, 8] 0 (fun _ _ s8 wr => s8 = .int .i64 0 ∧ wr = w)
  case atStart => exact ⟨rfl, rfl⟩
  case round =>
    obtain ⟨rfl, rfl⟩ := hrel
    go_wp2_with fail
    go_ret
    exact ⟨rfl, rfl⟩
theorem delete_nil (v : Value) (w : World) (c : Nat) : Calls Try.prog 19 #[.slice none 0 c, v] w fun e w' => e = .returned (.slice none 0 c) ∧ w' = w := by
  go_enter Try.func19, Try.ntmps19
  go_wp2_with (go_at_call 24; refine (find_nil v w c).mono ?_; rintro e w' ⟨rfl, rfl⟩)
  go_ret
  exact ⟨rfl, rfl⟩

theorem lists_wf {T : List Tm} {p : Int → Bool} {ss : List Int} (hL : Lists T p ss) (hw : ∀ t ∈ T, wfU t.h) : ∀ x ∈ ss, wfU x := fun x hx => by
  have h := ((hL.2 x).1 hx).1
  unfold liveB at h
  obtain ⟨t, ht, e⟩ := List.any_eq_true.1 h
  simp at e
  rw [← e.1]
  exact hw t ht
theorem lists_filter {T : List Tm} {ss : List Int} (hL : Lists T (fun _ => true) ss) (now : Int) : Lists T (fun d => decide (d ≤ now)) (ss.filter fun x => !decide (now < xOf T x)) := by
  refine ⟨hL.1.filter _, fun h => ?_⟩
  rw [List.mem_filter, hL.2 h]
  constructor
  · rintro ⟨⟨hl, _⟩, h2⟩
    unfold xOf at h2
    rw [if_pos hl] at h2
    exact ⟨hl, by simp at h2 ⊢; omega⟩
  · rintro ⟨hl, h2⟩
    refine ⟨⟨hl, rfl⟩, ?_⟩
    unfold xOf
    rw [if_pos hl]
    simp at h2 ⊢
    omega
/-- The words of a row, as a list of words that lie in their kind. -/
def subs (ss : List Int) (h : ∀ x ∈ ss, wfU x) : List WU := ss.attachWith wfU h
theorem subs_val (ss : List Int) (h : ∀ x ∈ ss, wfU x) : (subs ss h).map (·.1) = ss := List.attachWith_map_subtype_val h
theorem subs_filter (ss : List Int) (h : ∀ x ∈ ss, wfU x) (q : Int → Bool) : ((subs ss h).filter fun x => q x.1).map (·.1) = ss.filter q := by
  have := List.filter_map (f := fun x : WU => x.1) (p := q) (l := subs ss h)
  rw [subs_val] at this
  rw [this]
  rfl

theorem delete_any {w : World} {base g cap : Nat} {ss : List Int} {F : Nat → Prop} {mp bl bw : Nat} {T : List Tm} (hM : ModAt w F mp bl bw T) (hrow : w.ownsRow base 23 1 (.slice (some ⟨g, 0, none⟩) ss.length cap) ss.length (ss.map encW)) (hwf : ∀ x ∈ ss, wfU x) (hn : ss.length ≤ 1000) (hg : ¬ F g)
    (bm bn : Nat) (now : Int) (hbm : bm < w.heap.size) (hbn : bn < w.heap.size) (hgm : bm ≠ g) (hgn : bn ≠ g) (hm : w.cell? ⟨bm, 0, none⟩ = some (.pointer (some ⟨mp, 0, none⟩))) (hnow : w.cell? ⟨bn, 0, none⟩ = some (.int .i64 now)) :
    Calls Try.prog 19 #[.slice (some ⟨g, 0, none⟩) ss.length cap, .func (.func 20) #[] #[.pointer (some ⟨bm, 0, none⟩), .pointer (some ⟨bn, 0, none⟩)]] w fun e w' =>
      e = .returned (.slice (some ⟨g, 0, none⟩) (ss.filter fun x => !decide (now < xOf T x)).length cap) ∧ SR w' (fun k => k = g) (some ⟨g, 0, none⟩) ((ss.filter fun x => !decide (now < xOf T x)).map encW) ∧ Upd (· = g) w w' := by
  have eg : ∀ args w, (callFunc 20 args).run Try.prog w = .ok (.enter 20 args) w := enters_of Try.func20 (by kernel_rfl) rfl
  have hlt : g < w.heap.size := (hrow.lt g rfl).2
  have hcap : ss.length ≤ cap := by
    rcases hrow.2 with ⟨hv, _⟩ | ⟨g', cap', cur, hv, _, _, h, _⟩
    · cases hv
    · injection hv with _ _ e; omega
  have hsz : (subs ss hwf).toArray.size = ss.length := by simp [subs]
  have hH : Sort.Holds encS w g 0 (subs ss hwf).toArray := fun j hj => by
    have hj' : j < ss.length := by rw [hsz] at hj; exact hj
    obtain ⟨h1, h2⟩ := holds_own rfl hrow j (by simpa using hj')
    refine ⟨?_, h2⟩
    rw [h1]
    congr 1
    show Value.int .u64 (ss.toArray[j]!) = Value.int .u64 ((subs ss hwf).toArray[j]!).1
    congr 1
    rw [getElem!_pos ss.toArray j (by simpa using hj'), getElem!_pos (subs ss hwf).toArray j hj]
    simp [subs]
  have hM1 := hM
  have key : ∀ (W : World) (F' : Nat → Prop), (∀ k, F' k → k = g ∨ w.heap.size ≤ k) → Upd F' w W → ∀ x : WU, FnGives Try.prog 20 #[.pointer (some ⟨bm, 0, none⟩), .pointer (some ⟨bn, 0, none⟩)] #[encS x] (.bool (decide (now < xOf T x.1))) W := fun W F' hF hU x => by
    refine gives20 (hM1.upd hU (fun k hk hf h => ?_)) bm bn now ?_ ?_ x.1 x.2
    · rcases hF k h with e | e
      · exact hg (e ▸ hf)
      · omega
    · rw [hU.cell (p := ⟨bm, 0, none⟩) hbm (fun h => (hF _ h).elim hgm (fun e => absurd hbm (Nat.not_lt.2 e)))]; exact hm
    · rw [hU.cell (p := ⟨bn, 0, none⟩) hbn (fun h => (hF _ h).elim hgn (fun e => absurd hbn (Nat.not_lt.2 e)))]; exact hnow
  have hcon := AnyE.slices_DeleteFunc delL encS (fun _ => rfl) (fun x => decide (now < xOf T x.1)) 20 #[.pointer (some ⟨bm, 0, none⟩), .pointer (some ⟨bn, 0, none⟩)] eg ⟨0, by decide⟩ Try.zeroValue23 g 0 cap (subs ss hwf).toArray w
    (fun W x hb => key W (fun _ => False) (fun k h => h.elim) (Upd.of_below _ hb) x)
    (fun n os dk x _ => key _ (· = g) (fun k h => .inl h) (sortWorld_upd g 0 n dk os) x) hH (by rw [hsz]; omega) (by rw [hsz]; exact hcap)
  change Calls Try.prog 19 _ _ _ at hcon
  rw [hsz] at hcon
  refine hcon.mono ?_
  rintro e w' ⟨rfl, q, rfl⟩
  have hf := subs_filter ss hwf (fun x => !decide (now < xOf T x))
  have hfl : ((subs ss hwf).filter fun x => !decide (now < xOf T x.1)).length = (ss.filter fun x => !decide (now < xOf T x)).length := by rw [← hf, List.length_map]
  have hle : (ss.filter fun x => !decide (now < xOf T x)).length ≤ ss.length := List.length_filter_le _ _
  refine ⟨by rw [← hfl], fun hpos => ⟨g, 0, rfl, rfl, ?_, fun j v hj => ?_⟩, ?_⟩
  · rw [Sort.size_putRow]; exact hlt
  · have hj' : j < (ss.filter fun x => !decide (now < xOf T x)).length := by
      have := (List.getElem?_eq_some_iff.1 hj).1
      simpa using this
    have hh := (Sort.holds_putRow encS (Sort.ahead w q) g 0 (subs ss hwf).toArray (((subs ss hwf).filter fun x => !decide (now < xOf T x.1)) ++ List.replicate (ss.length - ((subs ss hwf).filter fun x => !decide (now < xOf T x.1)).length) (⟨0, by decide⟩ : WU)).toArray hH (by rw [hsz]; simp only [List.size_toArray, List.length_append, List.length_replicate, hfl]; omega) j (by simp only [List.size_toArray, List.length_append, List.length_replicate, hfl]; omega)).1
    rw [show (subs ss hwf).toArray.toList = subs ss hwf from rfl]
    rw [hh, ← hj, ← hf, List.map_map, getElem!_pos _ j (by simp only [List.size_toArray, List.length_append, List.length_replicate, hfl]; omega), List.getElem_toArray, List.getElem_append_left (by omega), List.getElem?_map, List.getElem?_eq_getElem (by omega)]
    rfl
  · exact (sortWorld_upd g 0 q _ #[]).trans (Upd.refl _ _) (fun _ _ h => h) |> fun h => by
      unfold sortWorld at h
      rw [Sort.grow_empty] at h
      exact h

theorem Due_nil (now : Int) (w : World) : Calls Try.prog 15 #[.pointer none, .int .i64 now] w fun e w' => e = .returned (.slice none 0 0) ∧ Below w.heap.size w w' := by
  go_enter Try.func15, Try.ntmps15
  go_wp2_with (first | (go_at_call 8; refine (Live_nil _).mono ?_; rintro e w' ⟨rfl, rfl⟩) | (go_at_call 19; refine (delete_nil _ _ _).mono ?_; rintro e w' ⟨rfl, rfl⟩))
  go_ret
  exact ⟨rfl, ((Below.refl _ w).alloc (Nat.le_refl _) _).alloc (by simp) _⟩

set_option maxHeartbeats 1000000 in
theorem Due_any {w : World} {F : Nat → Prop} {mp bl bw : Nat} {T : List Tm} (hM : ModAt w F mp bl bw T) (hn : T.length ≤ 1000) (now : Int) : Calls Try.prog 15 #[.pointer (some ⟨mp, 0, none⟩), .int .i64 now] w (Listed T (fun d => decide (d ≤ now)) w) := by
  obtain ⟨W2, hW2⟩ : ∃ W2, W2 = (w.alloc (.cells #[.pointer (some ⟨mp, 0, none⟩)] 25)).alloc (.cells #[.int .i64 now] 3) := ⟨_, rfl⟩
  have hb2 : Below w.heap.size w W2 := by rw [hW2]; exact ((Below.refl _ w).alloc (Nat.le_refl _) _).alloc (by simp) _
  have hs2 : W2.heap.size = w.heap.size + 2 := by rw [hW2]; simp
  have h0 : W2.heap[w.heap.size]? = some (.cells #[.pointer (some ⟨mp, 0, none⟩)] 25 (0, 0)) := by
    rw [hW2, Below.heap_alloc _ _ _ (by simp)]
    exact heap_alloc_new w _
  have h1 : W2.heap[w.heap.size + 1]? = some (.cells #[.int .i64 now] 3 (0, 0)) := by
    rw [hW2]
    have := heap_alloc_new (w.alloc (.cells #[.pointer (some ⟨mp, 0, none⟩)] 25)) (.cells #[.int .i64 now] 3)
    simpa using this
  have hM2 := hM.below hb2
  have C := Live_own hM2 hn
  have c0 := cell_of_row W2 w.heap.size 0 _ 25 (0, 0) h0
  have c1 := cell_of_row W2 (w.heap.size + 1) 0 _ 3 (0, 0) h1
  simp at c0 c1
  have HW := Lib.hid hW2
  have HB := Lib.hid hb2
  clear hW2 hb2 h0 h1
  go_enter Try.func15, Try.ntmps15
  go_wp2_with (go_at_call 8; rw [← HW.out]; refine C.mono ?_; rintro e w3 ⟨A, c, ss, rfl, hL, hl, hrow, hb3⟩; have HL := Lib.hid hL; have HR := Lib.hid hrow; have HN := Lib.hid hl; have HB3 := Lib.hid hb3; clear hL hrow hl hb3)
  have hwf := lists_wf HL.out hM.wf
  cases A with
  | none =>
    have hss : ss.length = 0 := by
      rcases HR.out.2 with ⟨_, h⟩ | ⟨g, cap, cur, h, _⟩
      · exact h
      · cases h
    have hnil := List.eq_nil_of_length_eq_zero hss
    subst hnil
    go_wp2_with (go_at_call 19; refine (delete_nil _ _ _).mono ?_; rintro e w' ⟨rfl, rfl⟩)
    go_ret
    exact ⟨none, c, [], rfl, lists_filter HL.out now, by simp, SR.nil _ _ _, HB.out.trans (HB3.out.mono (by omega))⟩
  | some ad =>
    obtain ⟨g, e⟩ : ∃ g, ad = ⟨g, 0, none⟩ := by
      rcases HR.out.2 with ⟨h, _⟩ | ⟨g, cap, cur, h, _⟩
      · cases h
      · injection h with h; injection h with h; exact ⟨g, h⟩
    subst e
    have hg := (HR.out.lt g rfl).1
    have hM3 : ModAt w3 (fun k => F k ∧ k < w.heap.size) mp bl bw T := by
      have := hM2.below HB3.out
      exact { this with fm := ⟨hM.fm, hM.ltp⟩, fl := ⟨hM.fl, hM.ltl⟩, fw := ⟨hM.fw, hM.ltw⟩ }
    have CD := delete_any hM3 HR.out hwf HN.out (fun h => by omega) w.heap.size (w.heap.size + 1) now (by have := HB3.out.size; omega) (by have := HB3.out.size; omega) (by omega) (by omega) ((HB3.out.cell (p := ⟨w.heap.size, 0, none⟩) (by show w.heap.size < _; omega)).trans c0) ((HB3.out.cell (p := ⟨w.heap.size + 1, 0, none⟩) (by show w.heap.size + 1 < _; omega)).trans c1)
    have hlf := lists_filter HL.out now
    have hle : (ss.filter fun x => !decide (now < xOf T x)).length ≤ ss.length := List.length_filter_le _ _
    have HLF := Lib.hid hlf
    have HLE := Lib.hid hle
    clear hM3 hM2 hM C c0 c1 hwf hlf hle
    generalize (ss.filter fun x => !decide (now < xOf T x)) = r at CD HLF HLE
    go_wp2_with (go_at_call 19; refine CD.mono ?_; rintro e w4 ⟨rfl, hSR, hu⟩)
    go_ret
    exact ⟨some ⟨g, 0, none⟩, c, r, rfl, HLF.out, Nat.le_trans HLE.out HN.out, hSR.mono (fun k _ e => by subst e; omega), (HB.out.trans (HB3.out.mono (by omega))).trans ((hu.to_below (Nat.le_trans (by omega) HB3.out.size) (fun i e => by omega)))⟩
end Go.Proofs.Ytoikjokdabpmoaa
