/- order.Sort, walked: the keys, sorted, in memory of its own. -/
import Derived.Test.YtkoohcineokpcaaBridge
import Derived.Shelf.SlSortCmp.NoneTotal
namespace Go.Proofs.Ytkoohcineokpcaa
open Go.Shelf Go.RowKit Go.Lib Go.Sort

/-- A key's two cells. -/
def encK (x : Int × Int) : List Value := [.int .i64 x.1, .int .u64 x.2]
theorem encK_len (x : Int × Int) : (encK x).length = 2 := rfl
theorem encK_one (x : Int × Int) : ∀ v ∈ encK x, v.oneCell' = true := fun v hv => by
  simp [encK] at hv
  rcases hv with rfl | rfl <;> rfl
theorem kcells_eq (l : List (Int × Int)) : l.flatMap encK = kcells l := rfl

theorem ltOf_ck : ltOf ck = ltk := by funext x y; rfl
theorem swo_ck : SWO (ltOf ck) where
  irrefl x := by rw [ltOf_ck, ← Bool.not_eq_true, ltk_iff']; omega
  trans x y z h1 h2 := by rw [ltOf_ck, ltk_iff'] at *; omega
  ntrans x y z h1 h2 := by rw [ltOf_ck, ← Bool.not_eq_true, ltk_iff'] at *; omega

theorem cmpLays (blk off size : Nat) (w : World) : CmpLays Try.prog 6 #[] encK 2 ck blk off size w := fun _ _ _ _ x y => Cmp_any x y _

set_option maxHeartbeats 2000000 in
theorem SortFunc_some (g c : Nat) (ks : List (Int × Int)) (w : World) (hn : ks.length ≤ 1000) (hH : HoldsK encK 2 w g 0 ks.toArray) (hg : g < w.heap.size) :
    Calls Try.prog 20 #[.slice (some ⟨g, 0, none⟩) ks.length c, .func (.func 6) #[] #[]] w fun e w' => e = .returned (.tuple #[]) ∧ ∃ n os, w' = grow (putRow id (Sort.ahead w n) g 0 (flatK encK 2 (srt ks).toArray)) os := by
  have eg : ∀ args w, (callFunc 6 args).run Try.prog w = .ok (.enter 6 args) w := enters_of Try.func6 (by kernel_rfl) rfl
  have hc := AnyQ.slices_SortFunc sortL 2 Try.isAgg24 Try.sizeOf24 encK encK_len encK_one ck swo_ck 6 #[] g 0 c ks.toArray w eg (cmpLays g 0 _ w) hH hg (by simp; omega)
  have hc' : Calls Try.prog 20 #[.slice (some ⟨g, 0, none⟩) ks.length c, .func (.func 6) #[] #[]] w _ := hc
  refine hc'.mono fun e w' ⟨he, d', n, os, hp, hs, hw⟩ => ⟨he, n, os, ?_⟩
  have hd : d'.toList = srt ks := by
    refine srt_unique ?_ ?_
    · have h := hp.2.2
      have hz := hp.1
      simp only [List.size_toArray] at h hz
      rw [Array.extract_eq_self_of_le (by omega), Array.extract_eq_self_of_le (by simp)] at h
      exact h
    · rw [List.pairwise_iff_getElem]
      intro i j hi hj hij
      have h := hs i j (Nat.zero_le _) hij (by have := hp.1; simp at this hj; simp; omega)
      rw [ltOf_ck] at h
      have h' := lek_of_not h
      rw [getElem!_pos d' i (by simpa using hi), getElem!_pos d' j (by simpa using hj)] at h'
      simpa using h'
  rw [← hd]
  exact hw

theorem SortFunc_none (A : Option Addr) (c : Nat) (w : World) : Calls Try.prog 20 #[.slice A 0 c, .func (.func 6) #[] #[]] w fun e w' => e = .returned (.tuple #[]) ∧ w' = w :=
  AnyF.slices_SortFunc_none sortL A c _ w

set_option maxHeartbeats 2000000 in
theorem Sort_any (A : Option Addr) (c : Nat) (ks : List (Int × Int)) (w : World) (hn : ks.length ≤ 1000) (hk : KS w w.heap.size A ks) :
    Calls Try.prog 8 #[.slice A ks.length c] w (OwnKeys w (srt ks)) := by
  go_enter Try.func8, Try.ntmps8
  go_wp2_with fail
  refine (Clone_any A c ks w hn hk).mono ?_
  rintro e w1 ⟨A1, c1, rfl, hown, hb⟩
  rcases hown.2 with ⟨hv, h0⟩ | ⟨g, cap, cur, hv, hbase, hh, _⟩
  · injection hv with e1 e2 e3
    subst e1 e3
    obtain rfl := List.eq_nil_of_length_eq_zero h0
    clear h0 e2
    go_wp2_with fail
    refine (SortFunc_none _ _ _).mono ?_
    rintro e w2 ⟨rfl, rfl⟩
    go_wp2_with fail
    go_ret
    exact ⟨none, 0, by rw [srt_length]; rfl, by simpa [srt, kcells] using hown, hb⟩
  · injection hv with e1 e2 e3
    subst e1 e3
    have hg : g < w1.heap.size := (Array.getElem?_eq_some_iff.1 hh).1
    have hS := SortFunc_some g c1 ks w1 hn (holdsK_of_own (by decide) encK_len rfl hown) hg
    go_wp2_with fail
    refine hS.mono ?_
    rintro e w2 ⟨rfl, n, os, rfl⟩
    obtain ⟨ho, hgr⟩ := own_sortedK (m := n) (os := os) (F := flatK encK 2 (srt ks).toArray) hown (by simp [srt_length])
    rw [flatK_eq encK 2 (by decide) encK_len, kcells_eq] at ho
    have hb2 := hb.grown hgr hb.size (fun k hk => by injection hk with hk; omega)
    go_wp2_with fail
    go_ret
    exact ⟨_, c1, by rw [srt_length]; rfl, by rw [srt_length]; exact ho, hb2⟩

end Go.Proofs.Ytkoohcineokpcaa
