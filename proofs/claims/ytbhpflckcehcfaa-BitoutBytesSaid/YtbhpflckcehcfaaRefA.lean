/- The reference model's package portmanteauref02 walked: May, Bits. -/
import Derived.Test.YtbhpflckcehcfaaChecked
import Derived.Test.YtbhpflckcehcfaaLib
import Derived.StillTailTactics
namespace Go.Proofs.Ytbhpflckcehcfaa
open Go.RowKit
set_option linter.unusedVariables false

theorem info_bool : (Try.prog.info? 4).map (fun i => (i.zero, i.size, i.bytes)) = some (some (.bool false), 1, 1) := by kernel_rfl

/-- Does v fit into n bits? -/
def mayB (v n : Int) : Bool := decide (0 ≤ n) && decide (n ≤ 64) && decide (v.toNat < 2 ^ n.toNat)

set_option maxHeartbeats 400000 in
theorem may_any (v n : Int) (w : World) (hv : 0 ≤ v) (hv' : v < 18446744073709551616) :
    Calls Try.prog 22 #[.int .u64 v, .int .i64 n] w fun e w' => e = .returned (.bool (mayB v n)) ∧ w = w' := by
  by_cases h0 : n < 0
  · have hf : mayB v n = false := by simp [mayB]; omega
    have HF := hide hf
    clear hf
    go_enter Try.func22, Try.ntmps22
    go_wp2
    go_ret
    exact ⟨ret_bool HF.out.symm, rfl⟩
  · by_cases h64 : 64 < n
    · have hf : mayB v n = false := by simp [mayB]; omega
      have HF := hide hf
      clear hf
      go_enter Try.func22, Try.ntmps22
      go_wp2
      go_ret
      exact ⟨ret_bool HF.out.symm, rfl⟩
    · obtain ⟨n, rfl⟩ := Int.eq_ofNat_of_zero_le (by omega : 0 ≤ n)
      obtain ⟨v, rfl⟩ := Int.eq_ofNat_of_zero_le hv
      go_enter Try.func22, Try.ntmps22
      go_wp2
      go_loop [0, 5] (fun x i => ∃ k : Nat, k ≤ n ∧ i = .int .i64 k ∧ x = .int .u64 ((v / 2 ^ k : Nat) : Int)) (fun _ i => n - (intOf i).toNat)
      case atStart => exact ⟨0, Nat.zero_le _, rfl, by simp⟩
      case round =>
        obtain ⟨k, hk, rfl, rfl⟩ := hrel
        by_cases hlt : k < n
        · obtain ⟨y, hy⟩ : ∃ y, y = v / 2 ^ k := ⟨_, rfl⟩
          have hyb : y ≤ v := by rw [hy]; exact Nat.div_le_self _ _
          rw [← hy]
          have HY := hide hy
          clear hy
          go_wp2
          go_round
          case rel => exact ⟨k + 1, by omega, by go_num, by rw [Nat.pow_succ, ← Nat.div_div_eq_div_mul, ← HY.out]; go_num⟩
          case measure => simp [intOf]; omega
        · obtain rfl : n = k := by omega
          obtain ⟨y, hy⟩ : ∃ y, y = v / 2 ^ n := ⟨_, rfl⟩
          rw [← hy]
          have HY := hide hy
          clear hy
          go_wp2
          go_ret
          refine ⟨ret_bool ?_, rfl⟩
          have e : ((y : Int) == 0) = decide (v < 2 ^ n) := by
            rw [HY.out, Bool.eq_iff_iff]
            simp only [beq_iff_eq, decide_eq_true_eq]
            rw [← Nat.div_eq_zero_iff_lt (Nat.pow_pos (by omega))]
            omega
          simp [mayB, e]
          omega

/-- The low n bits of v, the least significant first. -/
def bitsOf (v n : Nat) : List Bool := (List.range n).map fun i => v / 2 ^ i % 2 == 1
def bools (l : List Bool) : List Value := l.map Value.bool

theorem bitsOf_succ (v k : Nat) : bitsOf v (k + 1) = bitsOf v k ++ [v / 2 ^ k % 2 == 1] := by simp [bitsOf, List.range_succ]
theorem bitsOf_length (v k : Nat) : (bitsOf v k).length = k := by simp [bitsOf]

set_option maxHeartbeats 400000 in
theorem bits_any (v n : Int) (w : World) (hv : 0 ≤ v) (hv' : v < 18446744073709551616) (hn : 0 ≤ n) (hn' : n ≤ 64) :
    Calls Try.prog 23 #[.int .u64 v, .int .i64 n] w fun e w' => ∃ u, e = .returned u ∧ w'.ownsRow w.heap.size 4 1 u n.toNat (bools (bitsOf v.toNat n.toNat)) ∧ Below w.heap.size w w' := by
  obtain ⟨n, rfl⟩ := Int.eq_ofNat_of_zero_le hn
  obtain ⟨v, rfl⟩ := Int.eq_ofNat_of_zero_le hv
  obtain ⟨i0, hi, hz0, hz1, hz2⟩ := info_parts info_bool
  simp only [Int.toNat_natCast]
  go_enter Try.func23, Try.ntmps23
  go_wp2
  go_loopw [0, 5, 6] (fun x out i wr => ∃ k : Nat, k ≤ n ∧ i = .int .i64 k ∧ x = .int .u64 ((v / 2 ^ k : Nat) : Int) ∧ wr.ownsRow w.heap.size 4 1 out k (bools (bitsOf v k)) ∧ Below w.heap.size w wr) (fun _ _ i _ => n - (intOf i).toNat)
  case atStart => exact ⟨0, Nat.zero_le _, rfl, by simp, World.ownsRow_nil _ _ _ _, Below.refl _ _⟩
  case round =>
    obtain ⟨k, hk, rfl, rfl, hown, hb⟩ := hrel
    obtain ⟨y, hy⟩ : ∃ y, y = v / 2 ^ k := ⟨_, rfl⟩
    have hyv : y < 18446744073709551616 := by have : v / 2 ^ k ≤ v := Nat.div_le_self _ _; omega
    rw [← hy]
    have HY := hide hy
    have hsz := hb.size
    have HB := hide hb
    clear hy hb hv'
    by_cases hlt : k < n
    · go_wp2_with (at_builtin; refine wpList_append_any _ rfl (.tmp 12) (.tmp 16) _ rfl w.heap.size 4 i0 _ 1 1 Try.underlying33 hi hz0 hz1 hz2 rfl (by omega) u5 k _ rfl (hown.alloc _) (wr.heap.size + 1) (some ⟨wr.heap.size, 0, none⟩) 1 1 [.bool ((y : Int) % 2 == 1)] rfl (reads_new wr _ _) (by simp [Value.oneCell']) (by unfold maxLen; omega) (by omega) (by simp; omega) ?_; intro v' w3 hown3 hg3 hat)
      go_roundw
      case rel =>
        have hlt := hown.lt
        refine ⟨k + 1, by omega, by go_num, by rw [Nat.pow_succ, ← Nat.div_div_eq_div_mul, ← HY.out]; go_num, ?_, ?_⟩
        · rw [bitsOf_succ, bools, List.map_append, ← HY.out]
          simp only [List.map_cons, List.map_nil]
          have e : ((y : Int) % 2 == 1) = (y % 2 == 1) := by rw [Bool.eq_iff_iff]; simp; omega
          rw [e] at hown3
          exact hown3
        · exact HB.out.trans ((Chg.grown ((Chg.refl (fun b => w.heap.size ≤ b) wr).alloc _) hg3 (fun j hj => .inl (hlt j hj).1)).below (fun _ h => h) hsz)
      case measure => simp [intOf]; omega
    · obtain rfl : n = k := by omega
      go_wp2
      go_ret
      exact ⟨_, rfl, hown, HB.out⟩
end Go.Proofs.Ytbhpflckcehcfaa
