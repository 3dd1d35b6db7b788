/- math/bits.Len of small numbers; spread.Step, spread.turn walked. -/
import Derived.Test.YtohgnohifojdbaaCe1
import Derived.Test.YtohgnohifojdbaaCe2
import Derived.Lib.Strings
import Derived.Lib.Slices
import Derived.Lib.Small
import Derived.Lib.Walk
import Derived.Lib.BitFns
namespace Go.Proofs.Ytohgnohifojdbaa
set_option maxRecDepth 8000
open Go.RowKit Go
set_option linter.unusedVariables false

set_option maxRecDepth 100000 in
theorem len64_low (x : Int) (w : World) (h0 : 0 ≤ x) (h1 : x ≤ 255) :
    Calls Try.prog 44 #[.int .u64 x] w fun e w' => e = .returned (.int .i64 (Lib.bitLen x.toNat)) ∧ w' = w := by
  have e8 := hide (Lib.len8_of x h0 h1)
  have hb := hide (Lib.bitLen_le8 ⟨x.toNat, by omega⟩)
  have g1 : ¬ 4294967296 ≤ x := by omega
  have g2 : ¬ 65536 ≤ x := by omega
  have g3 : ¬ 256 ≤ x := by omega
  go_enter Try.func44, Try.ntmps44
  go_wp2
  go_ret
  refine ⟨ret_int ?_, rfl⟩
  have h2 := hb.out
  rw [e8.out]
  unfold wrap64
  change Lib.bitLen x.toNat ≤ 8 at h2
  omega
set_option maxRecDepth 100000 in
theorem len64_mid (x z : Int) (w : World) (h0 : 256 ≤ x) (h1 : x < 65536) (hz : x / 256 = z) :
    Calls Try.prog 44 #[.int .u64 x] w fun e w' => e = .returned (.int .i64 (Lib.bitLen x.toNat)) ∧ w' = w := by
  have z0 : 0 ≤ z := by omega
  have z1 : z ≤ 255 := by omega
  have e8 := hide (Lib.len8_of z z0 z1)
  have hb : Hid (Lib.bitLen z.toNat ≤ 8) := Lib.bitLen_le8 ⟨z.toNat, by omega⟩
  have hs := Lib.bitLen_shift8 x.toNat (by omega) (by omega)
  rw [show x.toNat / 256 = z.toNat by omega] at hs
  have HS := hide hs
  have g1 : ¬ 4294967296 ≤ x := by omega
  have g2 : ¬ 65536 ≤ x := by omega
  clear h1 hs
  go_enter Try.func44, Try.ntmps44
  go_wp2
  go_ret
  refine ⟨ret_int ?_, rfl⟩
  have h2 := hb.out
  rw [HS.out, e8.out]
  unfold wrap64
  omega
theorem lenB_any (x : Nat) (w : World) (h1 : x < 65536) :
    Calls Try.prog 16 #[.int .u64 (x : Int)] w fun e w' => e = .returned (.int .i64 (Lib.bitLen x)) ∧ w' = w := by
  have HL : Hid (∀ W, Calls Try.prog 44 #[.int .u64 (x : Int)] W fun e w' => e = .returned (.int .i64 (Lib.bitLen x)) ∧ w' = W) := by
    intro W
    by_cases h : x < 256
    · have := len64_low (x : Int) W (by omega) (by omega)
      rwa [Int.toNat_natCast] at this
    · have := len64_mid (x : Int) ((x : Int) / 256) W (by omega) (by omega) rfl
      rwa [Int.toNat_natCast] at this
  go_enter Try.func16, Try.ntmps16
  go_wp2_with fail
  refine (HL.out _).mono ?_
  rintro e w1 ⟨rfl, rfl⟩
  go_wp2
  go_ret
  exact ⟨rfl, rfl⟩

/-- The step between visited indices. -/
def stepN (s : Nat) : Nat := if s < 16 then 1 else s / 2 + s / 8 + 3

set_option maxHeartbeats 400000 in
theorem step_any (s : Nat) (w : World) (h0 : 1 ≤ s) (h1 : s ≤ 512) :
    Calls Try.prog 73 #[.int .i64 (s : Int)] w fun e w' => e = .returned (.int .i64 (stepN s : Int)) ∧ w' = w := by
  have hm : min (max (s : Int) 1) 512 = (s : Int) := by omega
  by_cases hs : s < 16
  · have h2 : (s : Int) < 16 := by omega
    have HE := hide (show (stepN s : Int) = 1 by unfold stepN; rw [if_pos hs]; rfl)
    clear h0 h1 hs
    go_enter Try.func73, Try.ntmps73
    go_wp2
    go_ret
    exact ⟨ret_int HE.out.symm, rfl⟩
  · have h2 : ¬ (s : Int) < 16 := by omega
    have HE := hide (show (stepN s : Int) = ((s / 2 + s / 8 + 3 : Nat) : Int) by unfold stepN; rw [if_neg hs])
    have HS := hide h1
    clear h0 hs
    go_enter Try.func73, Try.ntmps73
    go_wp2
    go_ret
    refine ⟨ret_int ?_, rfl⟩
    rw [HE.out]
    have := HS.out
    omega
end Go.Proofs.Ytohgnohifojdbaa
