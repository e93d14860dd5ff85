/- slices.AppendSeq, Collect and Sorted over the keys of a map of words, walked. -/
import Derived.Test.YtoikjokdabpmoaaItr
import Derived.Test.YtoikjokdabpmoaaSrtA
namespace Go.Proofs.Ytoikjokdabpmoaa
open Go.RowKit Go.Maps Go.Shelf Go.Sort

attribute [local go_sem] Oper.semAt_some

theorem info23 : (Try.prog.info? 23).map (fun i => (i.zero, i.size, i.bytes)) = some (some (.int .u64 0), 1, 8) := by kernel_rfl

/-- What the loop keeps between two rounds: the box holds what has come. -/
def ApI (w : World) (N : Nat) (pre : List Int) (W : World) : Prop :=
  ((∃ v, Boxed W w.heap.size 31 v ∧ W.ownsRow w.heap.size 23 1 v pre.length (pre.map encW) ∧ pre.length ≤ N) ∧ Below w.heap.size w W)
theorem apI_own (w : World) (N : Nat) {B : Nat} (hB : w.heap.size ≤ B) : OwnFrom B (ApI w N) :=
  OwnFrom.and (Own.from (holdsRow_own w.heap.size w.heap.size 31 23 1 (fun pre : List Int => pre.length) (fun pre => pre.map encW) (fun pre _ => pre.length ≤ N)) B) (ownFrom_below (Nat.le_refl _) hB)

set_option maxRecDepth 100000 in
set_option maxHeartbeats 4000000 in
theorem appendSeq_u (n : Nat) (hn : 2 ≤ n) (lb : Array Value) (S Sp : List Int → Prop) (N : Nat) (hN : N ≤ 1000) (w : World) (hseq : SeqStopsK Fence.wide (n - 1) Try.prog 23 lb (fun x : Int => #[encW x]) KeepsWalks S Sp N w) :
    CallsIn Fence.wide n Try.prog 25 #[.slice none 0 0, .func (.func 23) #[] lb] w fun e w' => ∃ (v : Value) (ss : List Int), e = .returned v ∧ S ss ∧ ss.length ≤ N ∧ w'.ownsRow w.heap.size 23 1 v ss.length (ss.map encW) ∧ Below w.heap.size w w' := by
  have h1 : 1 ≤ n := by omega
  obtain ⟨i0, hi, hz0, hz1, hz2⟩ := info_parts info23
  refine callsIn_of_wp_marks Try.func25 rfl trivial ?_ rfl
  simp only [Try.ntmps25, List.size_toArray, List.length_cons, List.length_nil, Nat.reduceAdd, Nat.reduceSub, Array.replicate_succ, Array.replicate_zero, List.push_toArray, List.append_toArray, List.nil_append, List.cons_append]
  gi_wp2
  have hw0 : Below w.heap.size w (w.alloc (.cells #[.slice none 0 0] 31)) := (Below.refl _ w).alloc (Nat.le_refl _) _
  have hsz0 : (w.alloc (.cells #[.slice none 0 0] 31)).heap.size = w.heap.size + 1 := by simp
  refine wpIn_rangeFunc_ownF rfl h1 (gf := 23) (lb := lb) rfl trivial (enters_of Try.func23 (by kernel_rfl) rfl) hseq walksK_t walksK_b hw0 (fun _ => rfl)
    (ApI w N) (fun _ _ _ => False) (apI_own w N (by simp)) (fun _ _ _ _ _ h _ _ => h)
    ⟨⟨.slice none 0 0, Boxed.new w 31 _, World.ownsRow_nil _ _ _ _, Nat.zero_le _⟩, hw0⟩
    (fun x => { tmps := #[.slice none 0 0, .func (.func 23) #[] lb, .pointer (some ⟨w.heap.size, 0, none⟩), undef, .slice none 0 0, .int .u64 x, .func (.func 23) #[] lb, .int .u64 x, undef, undef, undef, undef, undef], defers := [] }) ?assign ?body ?done ?stop
  case assign =>
    intro l x W K hK
    gi_wp2
    exact hK
  case body =>
    rintro l pre x W ⟨⟨v, hv, hrow, _⟩, hB⟩ hlt
    have hc := hv.cell
    have hf := hv.frozen
    have hbs := hB.size
    gi_wp2_with (gi_at_builtin; refine wpListIn_append_own _ rfl _ _ 31 rfl w.heap.size 23 i0 (.int .u64 0) 1 8 Try.underlying31 hi hz0 hz1 hz2 rfl (by decide) _ _ _ rfl (hrow.alloc _) ⟨W.heap.size, 0, none⟩ 1 1 [.int .u64 x] rfl rfl (cell_one_new _ _ _) (by simp [Value.oneCell']) (by simp only [maxLen]; omega) (by omega) (by simp; omega) ?_; intro v' w1 hown' hgrow _; obtain ⟨g', cap', rfl⟩ := ownsRow_succ hown'; obtain ⟨hv1, hv2, hr2, hk2, hb2⟩ := hv.appended (by decide) hrow hbs (Nat.le_refl _) hown' hgrow; have hc1 := hv1.cell; have hf1 := hv1.frozen)
    exact ⟨hk2, hk2.walks, ⟨⟨_, hv2, by simpa using hr2, by simp; omega⟩, hB.trans hb2⟩⟩
  case done =>
    rintro D xs W hD hS ⟨⟨v, hv, hrow, hlen⟩, hB⟩ hK
    have hc := hv.cell
    have hf := hv.frozen
    gi_wp2
    refine ⟨by simp, .inl ⟨_, _, rfl, run_takeDeferred hK, ?_⟩⟩
    exact ⟨_, results_tmp rfl _ _ _, v, xs, rfl, hS, hlen, ownsRow_putObj hrow _ hK rfl, hB.trans (belowK_b (w := w) (Nat.le_refl _) W D _ _ (by simp at hD; omega) hK rfl rfl)⟩
  case stop =>
    rintro D c pre W _ _ h _
    exact h.elim

def Coll (w : World) (D : DataW Unit) (e : Ending) (w' : World) : Prop :=
  ∃ (v : Value) (ss : List Int), e = .returned v ∧ KeysU D ss ∧ ss.length ≤ 1000 ∧ w'.ownsRow w.heap.size 23 1 v ss.length (ss.map encW) ∧ Below w.heap.size w w'
theorem appendSeq_any {w : World} {Bm b nn : Nat} {D : DataW Unit} (hm : w.cell? ⟨Bm, 0, none⟩ = some (.map (some b))) (hown : MapAt w b nn D) (hs : Maps.size D ≤ 1000) :
    Calls Try.prog 25 #[.slice none 0 0, .func (.func 23) #[] #[.pointer (some ⟨Bm, 0, none⟩)]] w (Coll w D) :=
  ((callsIn_wide (n := 4)).1 (appendSeq_u 4 (by omega) #[.pointer (some ⟨Bm, 0, none⟩)] (KeysU D) (fun _ => True) (Maps.size D) hs w (keys_stops 3 (by omega) Bm b nn D w (World.block_lt_of_cell? w _ hm) hm hown))).mono
    fun _ _ ⟨v, ss, he, hk, hl, hr, hb⟩ => ⟨v, ss, he, hk, by omega, hr, hb⟩
theorem collect_any {w : World} {Bm b nn : Nat} {D : DataW Unit} (hm : w.cell? ⟨Bm, 0, none⟩ = some (.map (some b))) (hown : MapAt w b nn D) (hs : Maps.size D ≤ 1000) :
    Calls Try.prog 21 #[.func (.func 23) #[] #[.pointer (some ⟨Bm, 0, none⟩)]] w (Coll w D) := by
  have C := appendSeq_any hm hown hs
  clear hm hown
  go_enter Try.func21, Try.ntmps21
  go_wp2_with fail
  refine C.mono ?_
  rintro e w1 ⟨v, ss, rfl, hk, hl, hr, hb⟩
  have HK := Lib.hid hk
  clear hk
  go_wp2_with fail
  go_ret
  exact ⟨v, ss, rfl, HK.out, hl, hr, hb⟩

theorem holds_own {w : World} {base g n cap : Nat} {ss : List Int} (hl : ss.length = n) (h : w.ownsRow base 23 1 (.slice (some ⟨g, 0, none⟩) n cap) n (ss.map encW)) : Holds encU w g 0 ss.toArray := fun j hj => by
  have hj' : j < ss.length := by simpa using hj
  refine ⟨?_, by have := h.frozenAt j; simpa using this⟩
  have hc := h.cellAt j (by omega)
  rw [Nat.zero_add, hc, List.getElem?_map, List.getElem?_eq_getElem hj', getElem!_pos _ j hj]
  rfl
theorem own_rw {w w' : World} {base g n cap : Nat} {xs : List Value} {d : Array Int} (h : w.ownsRow base 23 1 (.slice (some ⟨g, 0, none⟩) n cap) n xs) (hR : Rw w g 0 d w') (hd : d.size = n) : w'.ownsRow base 23 1 (.slice (some ⟨g, 0, none⟩) n cap) n (d.toList.map encW) := by
  rcases h.2 with ⟨h0, _⟩ | ⟨g', cap', cur, hv, hb, hh, h1, h2, h3, h4⟩
  · cases h0
  · injection hv with e1 _ e3
    injection e1 with e1
    injection e1 with e1
    subst e1 e3
    obtain ⟨_, c, e, fr, hc, hc'⟩ := hR
    rw [hh] at hc
    injection hc with hc
    injection hc with q1 q2 q3
    subst q1 q2 q3
    refine ⟨by simp [hd], .inr ⟨g, cap, putCells encU 0 d cur, rfl, hb, hc', h1, h2, by simp [putCells, h3], ?_⟩⟩
    apply List.ext_getElem?
    intro j
    by_cases hj : j < n
    · have hjc : 0 + j < cur.size := by omega
      have := putCells_in 0 d cur j (by omega) hjc
      rw [Nat.zero_add] at this
      rw [List.getElem?_take_of_lt (by omega), Array.getElem?_toList, this, List.getElem?_map, Array.getElem?_toList, Array.getElem?_eq_getElem (by omega), getElem!_pos d j (by omega)]
      rfl
    · rw [List.getElem?_take_eq_none (by omega), List.getElem?_eq_none (by simp; omega)]

/-- A map's keys, each once, rising, in a slice of the call's own. -/
def SortKeys (w : World) (D : DataW Unit) (e : Ending) (w' : World) : Prop :=
  ∃ (A : Option Addr) (c : Nat) (ss : List Int), e = .returned (.slice A ss.length c) ∧ KeysU D ss ∧ ss.Pairwise (fun a b => a ≤ b) ∧ ss.length ≤ 1000 ∧ w'.ownsRow w.heap.size 23 1 (.slice A ss.length c) ss.length (ss.map encW) ∧ Below w.heap.size w w'
theorem keysU_perm {D : DataW Unit} {a b : List Int} (h : KeysU D a) (hp : b.Perm a) : KeysU D b := ⟨(hp.nodup_iff).2 h.1, fun x => by rw [hp.mem_iff]; exact h.2 x⟩

set_option maxHeartbeats 2000000 in
theorem sorted_any {w : World} {Bm b nn : Nat} {D : DataW Unit} (hm : w.cell? ⟨Bm, 0, none⟩ = some (.map (some b))) (hown : MapAt w b nn D) (hs : Maps.size D ≤ 1000) :
    Calls Try.prog 16 #[.func (.func 23) #[] #[.pointer (some ⟨Bm, 0, none⟩)]] w (SortKeys w D) := by
  have C := collect_any hm hown hs
  clear hm hown
  go_enter Try.func16, Try.ntmps16
  go_wp2_with fail
  refine C.mono ?_
  rintro e w1 ⟨v, ss, rfl, hk, hl, hrow, hb⟩
  have HK := Lib.hid hk
  clear hk C
  rcases hrow.2 with ⟨rfl, hz⟩ | ⟨gb, cap, cur, rfl, hbase, hgb, r1, r2, r3, r4⟩
  · have hss : ss = [] := List.eq_nil_of_length_eq_zero hz
    subst hss
    clear hz hrow
    go_wp2_with fail
    refine (sort_nil _ _ _).mono ?_
    rintro e w2 ⟨rfl, rfl⟩
    go_wp2_with fail
    go_ret
    exact ⟨none, 0, [], rfl, HK.out, List.Pairwise.nil, by simp, ⟨rfl, .inl ⟨rfl, rfl⟩⟩, hb⟩
  · rcases Nat.eq_zero_or_pos ss.length with h0 | h0
    · have hss : ss = [] := List.eq_nil_of_length_eq_zero h0
      subst hss
      clear hgb r3 r4 h0
      go_wp2_with fail
      refine (sort_nil _ _ _).mono ?_
      rintro e w2 ⟨rfl, rfl⟩
      go_wp2_with fail
      go_ret
      exact ⟨some ⟨gb, 0, none⟩, cap, [], rfl, HK.out, List.Pairwise.nil, by simp, hrow, hb⟩
    · have hH := holds_own rfl hrow
      have CS := sort_u gb 0 cap ss.length ss.toArray w1 hH (by simp) h0 hl
      have Hrow := Lib.hid hrow
      clear hgb r3 r4 hrow hH
      go_wp2_with fail
      refine CS.mono ?_
      rintro e w2 ⟨rfl, d', hp, hso, hR⟩
      have hdz : d'.size = ss.length := by have := hp.1; simpa using this
      have hperm : d'.toList.Perm ss := by
        have h := hp.2.2
        rw [← hdz, Array.extract_eq_self_of_le (Nat.le_refl _)] at h
        rw [hdz, Array.extract_eq_self_of_le (by simp)] at h
        simpa using h
      have hpw : d'.toList.Pairwise (fun a b => a ≤ b) := by
        rw [List.pairwise_iff_getElem]
        intro i j hi hj hij
        have h := hso i j (Nat.zero_le _) hij (by simp at hj; omega)
        rw [getElem!_pos d' i (by simpa using hi), getElem!_pos d' j (by simpa using hj)] at h
        simp [ltInt] at h
        simpa using h
      have hown2 := own_rw Hrow.out hR hdz
      have hb2 : Below w.heap.size w w2 := hb.trans (hR.1.to_below hb.size (fun k e => by omega))
      have hlen : d'.toList.length = ss.length := by simpa using hdz
      have Hlen := Lib.hid hlen
      have Hdz := Lib.hid hdz
      clear hlen hdz hp
      go_wp2_with fail
      go_ret
      exact ⟨some ⟨gb, 0, none⟩, cap, d'.toList, by rw [Hlen.out]; rfl, keysU_perm HK.out hperm, hpw, by rw [Hlen.out]; exact hl, by rw [Hlen.out]; exact hown2, hb2⟩

theorem keys_fn (mb : Option Nat) (w : World) : Calls Try.prog 17 #[.map mb] w fun e w' => e = .returned (.func (.func 23) #[] #[.pointer (some ⟨w.heap.size, 0, none⟩)]) ∧ w' = w.alloc (.cells #[.map mb] 42) := by
  go_enter Try.func17, Try.ntmps17
  go_wp2_with fail
  go_ret
  exact ⟨rfl, rfl⟩
end Go.Proofs.Ytoikjokdabpmoaa
