/- slices.Sort at uint64, walked. -/
import Derived.Test.YtoikjokdabpmoaaSrt9
import Derived.Test.YtoikjokdabpmoaaSrt5
namespace Go.Proofs.Ytoikjokdabpmoaa
open Go.RowKit Go.Sort

theorem ins_nil (A : Option Addr) (c : Nat) (w : World) : Calls Try.prog 28 #[.slice A 0 c, .int .i64 0, .int .i64 0] w fun e w' => e = .returned (.tuple #[]) ∧ w = w' := by
  go_enter Try.func28, Try.ntmps28
  go_wp2_with fail
  go_loopw [6] (fun v6 wr => v6 = .int .i64 1 ∧ w = wr) (fun _ _ => 0)
  case atStart => exact ⟨rfl, rfl⟩
  case round =>
    obtain ⟨rfl, rfl⟩ := hrel
    go_wp2_with fail
    go_end0
    exact ⟨rfl, rfl⟩
set_option maxRecDepth 100000 in
set_option maxHeartbeats 2000000 in
theorem pdq_nil (A : Option Addr) (c : Nat) (lim : Int) (w : World) : Calls Try.prog 26 #[.slice A 0 c, .int .i64 0, .int .i64 0, .int .i64 lim] w fun e w' => e = .returned (.tuple #[]) ∧ w = w' := by
  go_enter Try.func26, Try.ntmps26
  go_wp2_with fail
  go_loopw [1, 2] (fun v1 v2 wr => v1 = .int .i64 0 ∧ v2 = .int .i64 0 ∧ w = wr) (fun _ _ _ => 0)
  case atStart => exact ⟨rfl, rfl, rfl⟩
  case round =>
    obtain ⟨rfl, rfl, rfl⟩ := hrel
    go_wp2_with fail
    refine (ins_nil A c _).mono ?_
    rintro e w1 ⟨rfl, rfl⟩
    go_wp2_with fail
    refine bodyPost_ret (results_none rfl _ _ _) rfl ?_
    exact ⟨rfl, rfl⟩
theorem sort_nil (A : Option Addr) (c : Nat) (w : World) : Calls Try.prog 22 #[.slice A 0 c] w fun e w' => e = .returned (.tuple #[]) ∧ w = w' := by
  have C := fun W => len_u 0 (by omega) W
  go_enter Try.func22, Try.ntmps22
  go_wp2_with fail
  refine (C _).mono ?_
  rintro e w1 ⟨rfl, rfl⟩
  go_wp2_with fail
  refine (pdq_nil A c _ _).mono ?_
  rintro e w1 ⟨rfl, rfl⟩
  go_wp2_with fail
  go_end0
  exact ⟨rfl, rfl⟩

set_option maxHeartbeats 2000000 in
theorem sort_u (g off cap n : Nat) (d : Array Int) (w : World) (hH : Holds encU w g off d) (hd : d.size = n) (h0 : 0 < n) (hn : n ≤ 1000) :
    Calls Try.prog 22 #[.slice (some ⟨g, off, none⟩) n cap] w (SortOut w g off 0 n d) := by
  have hlb : bitsLen n ≤ 62 := (bitsLen_le_iff n 62).2 (by omega)
  have C := fun W => len_u n hn W
  have C2 := pdq_u g off cap n 0 n (bitsLen n) d w hH (by omega) (by omega) (by omega) ⟨by omega, by omega⟩ (by omega) (Or.inl rfl)
  rw [hd] at C2
  have wr : IntKind.u64.wrap (n : Int) = n := by simp [IntKind.wrap, IntKind.bits, IntKind.signed]; omega
  clear hd
  go_enter Try.func22, Try.ntmps22
  go_wp2_with fail
  refine (C _).mono ?_
  rintro e w1 ⟨rfl, rfl⟩
  go_wp2_with fail
  refine C2.mono ?_
  rintro e w2 ⟨rfl, d', h1, h2, h3⟩
  go_wp2_with fail
  go_end0
  exact ⟨rfl, d', h1, h2, h3⟩
end Go.Proofs.Ytoikjokdabpmoaa
