/- What the document's Same answers, and slices.Clone at keys. -/
import Derived.Test.YtkoohcineokpcaaKeys4
import Derived.Maps.AppendAt
import Derived.OwnWalk
import Derived.Lib.SliceRun
namespace Go.Proofs.Ytkoohcineokpcaa
open Go.RowKit

theorem ne_key (a1 a2 b1 b2 : Int) (W : World) : (binOp .neq 24 (.agg #[.int .i64 a1, .int .u64 a2]) (.agg #[.int .i64 b1, .int .u64 b2])).run Try.prog W = .ok (.bool (!(a1 == b1 && a2 == b2))) W := by
  have u3 := Try.underlying3
  have u22 := Try.underlying22
  have hS : Try.prog.underlying 24 = some (.struct (Try.prog.fieldsOf 24)) := by kernel_rfl
  have hp : Try.prog.stoodInHeld 24 = false := by kernel_rfl
  rw [run_neq_struct, show (10000 : Nat) = 9999 + 1 from rfl, run_equalIn_agg W 9999 24 _ _ hS hp]
  simp only [Program.fieldsOf, Try.underlying24]
  go_simp
  by_cases h1 : a1 = b1 <;> by_cases h2 : a2 = b2 <;> simp [h1, h2]

set_option maxHeartbeats 1000000 in
theorem Same_any (A B : Option Addr) (c d : Nat) (ks ls : List (Int × Int)) (w : World) (hn : ks.length ≤ 1000) (hm : ls.length ≤ 1000) (hk : KS w w.heap.size A ks) (hl : KS w w.heap.size B ls) :
    Calls Try.prog 9 #[.slice A ks.length c, .slice B ls.length d] w fun e w' => e = .returned (.bool (decide (ks = ls))) ∧ Below w.heap.size w w' := by
  by_cases hlen : ks.length = ls.length
  · have hd : ((ks.length : Int) != (ls.length : Int)) = false := by simp [hlen]
    have Hlen := Lib.hid hlen
    clear hlen
    have hle : ks.length ≤ ls.length := by rw [Hlen.out]; exact Nat.le_refl _
    have hle' : ls.length ≤ ks.length := by rw [Hlen.out]; exact Nat.le_refl _
    go_enter Try.func9, Try.ntmps9
    go_wp2_with fail
    go_loopw [5] (fun v5 wr => ∃ k : Nat, k ≤ ks.length ∧ v5 = .int .i64 k ∧ Hid (ks.take k = ls.take k) ∧ Below w.heap.size w wr)
      (fun v5 _ => ks.length - (intOf v5).toNat)
    case atStart => exact ⟨0, Nat.zero_le _, rfl, Lib.hid rfl, Below.refl _ _⟩
    case round =>
      obtain ⟨k, hkl, rfl, He, hbl⟩ := hrel
      by_cases hlt : k < ks.length
      · have hlt2 : k < ls.length := by omega
        obtain ⟨b, off, rfl, hb, hcs⟩ := hk.below hbl (by omega)
        obtain ⟨hx1, hx2⟩ := hcs k ks[k] (List.getElem?_eq_getElem hlt)
        obtain ⟨b', off', rfl, hb', hcs'⟩ := hl.below hbl (by omega)
        obtain ⟨hy1, hy2⟩ := hcs' k ls[k] (List.getElem?_eq_getElem hlt2)
        clear hcs hcs' hk hl
        have hi0 : (0 : Int) ≤ (k : Int) := Int.natCast_nonneg _
        have hi1 : (k : Int) < (ks.length : Int) := by omega
        have hi2 : (k : Int) < (ls.length : Int) := by omega
        have E := ne_key ks[k].1 ks[k].2 ls[k].1 ls[k].2
        have G := keyGuard
        by_cases heq : ks[k] = ls[k]
        · rw [show (!(ks[k].1 == ls[k].1 && ks[k].2 == ls[k].2)) = false by simp [heq]] at E
          have Hs : Hid (ks.take (k + 1) = ls.take (k + 1)) := Lib.hid (by rw [List.take_succ_eq_append_getElem hlt, List.take_succ_eq_append_getElem hlt2, He.out, heq])
          clear heq
          go_wp2_with fail
          go_quiet (fail)
          go_wp2_with fail
          go_roundw
          case rel => exact ⟨k + 1, by omega, by go_num, Hs, drewN_below hbl _⟩
          case measure => simp [intOf]; omega
        · rw [show (!(ks[k].1 == ls[k].1 && ks[k].2 == ls[k].2)) = true by
            by_cases h1 : ks[k].1 = ls[k].1
            · have h2 : ks[k].2 ≠ ls[k].2 := fun h2 => heq (Prod.ext h1 h2)
              simp [h1, h2]
            · simp [h1]] at E
          have Hr : Hid (decide (ks = ls) = false) := Lib.hid (decide_eq_false fun h => heq (by subst h; rfl))
          clear heq
          go_wp2_with fail
          go_quiet (fail)
          go_wp2_with fail
          go_ret
          exact ⟨ret_bool Hr.out.symm, drewN_below hbl _⟩
      · have Hr : Hid (decide (ks = ls) = true) := Lib.hid (decide_eq_true (by
          have h := He.out
          rw [List.take_of_length_le (by omega), List.take_of_length_le (by omega)] at h
          exact h))
        go_wp2_with fail
        go_ret
        exact ⟨ret_bool Hr.out.symm, hbl⟩
  · have hd : ((ks.length : Int) != (ls.length : Int)) = true := by rw [bne_iff_ne]; omega
    have Hr : Hid (decide (ks = ls) = false) := Lib.hid (decide_eq_false fun h => hlen (by rw [h]))
    clear hlen
    go_enter Try.func9, Try.ntmps9
    go_wp2_with fail
    go_ret
    exact ⟨ret_bool Hr.out.symm, Below.refl _ _⟩

/-- A slice of the call's own that holds keys. -/
def OwnKeys (w0 : World) (ks : List (Int × Int)) (e : Ending) (w' : World) : Prop :=
  ∃ A c, e = .returned (.slice A ks.length c) ∧ w'.ownsRow w0.heap.size 24 2 (.slice A ks.length c) ks.length (kcells ks) ∧ Below w0.heap.size w0 w'

theorem KS.of_own {w : World} {base c : Nat} {A : Option Addr} {ks : List (Int × Int)} (h : w.ownsRow base 24 2 (.slice A ks.length c) ks.length (kcells ks)) : KS w w.heap.size A ks := fun hn => by
  rcases h.2 with ⟨hv, h0⟩ | ⟨g, cap, cur, hv, _, hh, _⟩
  · omega
  · have hlt : g < w.heap.size := by
      rcases Nat.lt_or_ge g w.heap.size with h1 | h1
      · exact h1
      · rw [Array.getElem?_eq_none h1] at hh; cases hh
    have hA : A = some ⟨g, 0, none⟩ := by injection hv
    subst hA
    refine ⟨g, 0, rfl, hlt, fun k x hx => ?_⟩
    obtain ⟨h1, h2⟩ := kcells_at ks k x hx
    have c1 := h.cells (g := g) rfl _ _ h1
    have c2 := h.cells (g := g) rfl _ _ h2
    have e1 : ((⟨g, 0, none⟩ : Addr).add (k * 2)) = ⟨g, 0 + k * 2, none⟩ := by unfold Addr.add; by_cases h0 : k * 2 = 0 <;> simp [h0]
    have e2 : ((⟨g, 0, none⟩ : Addr).add (k * 2 + 1)) = ⟨g, 0 + k * 2 + 1, none⟩ := by unfold Addr.add; simp
    rw [e1] at c1
    rw [e2] at c2
    exact ⟨c1, c2⟩

theorem info24 : (Try.prog.info? 24).map (fun i => (i.zero, i.size, i.bytes)) = some (some (.agg #[.int .i64 0, .int .u64 0]), 2, 16) := by kernel_rfl

theorem news_of_KS {w : World} {B : Nat} {ad : Addr} {ks : List (Int × Int)} (h : KS w B (some ad) ks) : ∀ j u, (kcells ks)[j]? = some u → w.cell? (ad.add j) = some u := by
  intro j u hj
  have hl : j < ks.length * 2 := by
    rw [← kcells_length]; exact (List.getElem?_eq_some_iff.1 hj).1
  obtain ⟨b, off, e, hb, hc⟩ := h (by omega)
  injection e with e
  subst e
  have hk : ks[j / 2]? = some (ks[j / 2]'(by omega)) := List.getElem?_eq_getElem (by omega)
  obtain ⟨c1, c2⟩ := hc _ _ hk
  obtain ⟨d1, d2⟩ := kcells_at _ _ _ hk
  have ea : ((⟨b, off, none⟩ : Addr).add j) = ⟨b, off + j, none⟩ := by unfold Addr.add; by_cases h0 : j = 0 <;> simp [h0]
  rw [ea]
  rcases Nat.mod_two_eq_zero_or_one j with h0 | h0
  · have e : j / 2 * 2 = j := by omega
    rw [e] at c1 d1
    rw [c1, ← hj, ← d1]
  · have e : j / 2 * 2 + 1 = j := by omega
    rw [show off + j / 2 * 2 + 1 = off + j by omega] at c2
    rw [e] at d2
    rw [c2, ← hj, ← d2]
theorem kcells_one (ks : List (Int × Int)) : ∀ u ∈ kcells ks, u.oneCell' = true := by
  intro u hu
  unfold kcells at hu
  rw [List.mem_flatMap] at hu
  obtain ⟨x, _, hx⟩ := hu
  simp at hx
  rcases hx with rfl | rfl <;> rfl

theorem own_form {w : World} {base n : Nat} {v : Value} {xs : List Value} (h : w.ownsRow base 24 2 v n xs) : ∃ A c, v = .slice A n c := by
  rcases h.2 with ⟨hv, h0⟩ | ⟨g, cap, cur, hv, _⟩
  · exact ⟨none, 0, by rw [hv, h0]⟩
  · exact ⟨_, _, hv⟩

set_option maxHeartbeats 1000000 in
theorem Clone_any (A : Option Addr) (c : Nat) (ks : List (Int × Int)) (w : World) (hn : ks.length ≤ 1000) (hk : KS w w.heap.size A ks) :
    Calls Try.prog 19 #[.slice A ks.length c] w (OwnKeys w ks) := by
  obtain ⟨i0, hi0, hz0, hz1, hz2⟩ := info_parts info24
  rcases A with _ | ad
  · have h0 : ks = [] := by
      rcases Nat.eq_zero_or_pos ks.length with h | h
      · exact List.eq_nil_of_length_eq_zero h
      · obtain ⟨b, off, e, _⟩ := hk h; cases e
    subst h0
    have E := fun W => Lib.run_eql_slice_nil (P := Try.prog) W 28 24 none 0 c 0 0 Try.underlying28
    go_enter Try.func19, Try.ntmps19
    go_wp2_with fail
    go_ret
    exact ⟨none, 0, rfl, ⟨rfl, .inl ⟨rfl, rfl⟩⟩, Below.refl _ _⟩
  · have E := fun W => Lib.run_eql_slice_nil (P := Try.prog) W 28 24 (some ad) ks.length c 0 0 Try.underlying28
    have hnews : ∀ j u, (kcells ks)[j]? = some u → (w.alloc (.cells #[] 24)).cell? (ad.add j) = some u := fun j u hj => by
      have hc := news_of_KS hk j u hj
      exact (World.cell?_alloc_lt _ _ _ (World.block_lt_of_cell? w _ hc)).trans hc
    have hown0 := World.ownsRow_made (e := 24) (size := 2) w #[] 0 (Nat.le_refl _) (by simp [maxLen]) rfl
    have hkl := kcells_length ks
    have Hkl := Lib.hid hkl
    clear hkl
    go_enter Try.func19, Try.ntmps19
    go_wp2_with (at_builtin; refine wpList_append_own_at _ rfl (.tmp 5) (.tmp 6) 28 rfl w.heap.size 24 i0 _ 2 16 Try.underlying28 hi0 hz0 hz1 hz2 rfl (by decide) _ 0 [] rfl hown0 ad ks.length c (kcells ks) rfl Hkl.out hnews (kcells_one ks) (by simp only [maxLen]; omega) (by omega) (by simp) ?_; intro v1 w1 hown1 hg1 hnil1 hat1; obtain ⟨A1, c1, rfl⟩ := own_form hown1)
    go_ret
    refine ⟨A1, c1, by simp, by simpa using hown1, ((Below.refl _ _).alloc (Nat.le_refl _) _).grown hg1 (by simp) (fun k hk => ?_)⟩
    injection hk with hk
    subst hk
    exact Nat.le_refl _

end Go.Proofs.Ytkoohcineokpcaa
