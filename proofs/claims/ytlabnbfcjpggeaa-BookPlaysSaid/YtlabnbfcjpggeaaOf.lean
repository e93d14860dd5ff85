/- Which record is a thread's own, walked. -/
import Derived.Test.YtlabnbfcjpggeaaNew
namespace Go.Proofs.Ytlabnbfcjpggeaa
open Go.RowKit Go.Maps

theorem law : Keyed Try.prog 3 := int_keyed Try.underlying3
theorem zeroE (w : World) : (zeroValue 3).run Try.prog w = .ok (.int .i64 0) w := by kernel_rfl

theorem BookAt.cell0 {w : World} {F : Nat → Prop} {bp bm : Nat} {Al : Option Addr} {cl : Nat} {L : List (RH × Rec)} (h : BookAt w F bp bm Al cl L) : w.cell? ⟨bp, 0, none⟩ = some (.slice Al L.length cl) := cell_of_row w bp 0 _ 61 (0, 0) h.fields
theorem BookAt.cell1 {w : World} {F : Nat → Prop} {bp bm : Nat} {Al : Option Addr} {cl : Nat} {L : List (RH × Rec)} (h : BookAt w F bp bm Al cl L) : w.cell? ⟨bp, 1, none⟩ = some (.map (some bm)) := cell_of_row w bp 1 _ 61 (0, 0) h.fields
theorem BookAt.frozen {w : World} {F : Nat → Prop} {bp bm : Nat} {Al : Option Addr} {cl : Nat} {L : List (RH × Rec)} (h : BookAt w F bp bm Al cl L) (o : Nat) : w.frozen? ⟨bp, o, none⟩ = false := by simp [World.frozen?, h.fields]
theorem BookAt.lt {w : World} {F : Nat → Prop} {bp bm : Nat} {Al : Option Addr} {cl : Nat} {L : List (RH × Rec)} (h : BookAt w F bp bm Al cl L) : bp < w.heap.size := (Array.getElem?_eq_some_iff.1 h.fields).1

set_option maxHeartbeats 1000000 in
theorem of_none {w : World} {F : Nat → Prop} {bp bm : Nat} {Al : Option Addr} {cl : Nat} {L : List (RH × Rec)} (hb : BookAt w F bp bm Al cl L) (t : Int) (ht : wf64 t) (hno : ∀ i, ¬ Und (L.map (·.2)) t i) :
    Calls Try.prog 19 #[.pointer (some ⟨bp, 0, none⟩), .int .i64 t] w fun e w' => e = .returned (.pointer none) ∧ w = w' := by
  obtain ⟨D, hown, hg, _⟩ := hb.map
  have hhas : Maps.has D (.int .i64 t) = false := by
    rw [← Bool.not_eq_true, hg.1 t ht]; rintro ⟨i, hi⟩; exact hno i hi
  have hkey := keyOf_int_mk (P := Try.prog) Try.underlying3 ht
  have hc1 := hb.cell1
  have Hh := Lib.hid hhas
  clear hhas hg hb
  go_enter Try.func19, Try.ntmps19
  go_wp2_with (at_lookup; refine wpList_lookup_own_ok_int _ rfl (.tmp 13) (.tmp 14) 59 rfl 3 3 .i64 law Try.underlying59 Try.underlying3 (zeroE _) bm _ D rfl hown _ _ rfl hkey ?_; intro c hat hwc; rw [Hh.out])
  go_ret
  exact ⟨rfl, rfl⟩

set_option maxHeartbeats 1000000 in
theorem of_some {w : World} {F : Nat → Prop} {bp bm g : Nat} {cl : Nat} {L : List (RH × Rec)} (hb : BookAt w F bp bm (some ⟨g, 0, none⟩) cl L) (t : Int) (ht : wf64 t) (i : Nat) (hi : Und (L.map (·.2)) t i) (hil : i < L.length) :
    Calls Try.prog 19 #[.pointer (some ⟨bp, 0, none⟩), .int .i64 t] w fun e w' => e = .returned (.pointer (some ⟨g, i * 14, none⟩)) ∧ w = w' := by
  obtain ⟨D, hown, hg, _⟩ := hb.map
  have hhas : Maps.has D (.int .i64 t) = true := (hg.1 t ht).2 ⟨i, hi⟩
  have hat0 := hg.2.1 t i ht hi
  have hkey := keyOf_int_mk (P := Try.prog) Try.underlying3 ht
  have hc0 := hb.cell0
  have hc1 := hb.cell1
  have Hh := Lib.hid hhas
  have Ha := Lib.hid hat0
  have hi0 : (0 : Int) ≤ (i : Int) := Int.natCast_nonneg _
  have hi1 : (i : Int) < (L.length : Int) := by omega
  clear hhas hg hb hat0
  go_enter Try.func19, Try.ntmps19
  go_wp2_with (at_lookup; refine wpList_lookup_own_ok_int _ rfl (.tmp 13) (.tmp 14) 59 rfl 3 3 .i64 law Try.underlying59 Try.underlying3 (zeroE _) bm _ D rfl hown _ _ rfl hkey ?_; intro c hat hwc; rw [Hh.out]; rw [Ha.out] at hat; injection hat with hat; injection hat with _ hat; subst hat)
  go_ret
  exact ⟨rfl, rfl⟩

theorem of_nil (t : Int) (w : World) : Calls Try.prog 19 #[.pointer none, .int .i64 t] w fun e w' => e = .returned (.pointer none) ∧ w = w' := by
  go_enter Try.func19, Try.ntmps19
  go_wp2
  go_ret
  exact ⟨rfl, rfl⟩

end Go.Proofs.Ytlabnbfcjpggeaa
