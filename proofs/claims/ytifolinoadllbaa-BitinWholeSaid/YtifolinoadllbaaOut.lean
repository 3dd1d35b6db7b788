/- Package bitout walked: hold.add, hold.whole, Writer.Put, Len, Bytes, Close; slices.Clone of bytes. -/
import Derived.Test.YtifolinoadllbaaChecked
import Derived.Test.YtifolinoadllbaaLib
namespace Go.Proofs.Ytifolinoadllbaa
open Go.RowKit
set_option linter.unusedVariables false

/-! ### Plain: the stream as a number -/
/-- The number whose bytes (least significant first) these are. -/
def leN : List Nat → Nat
  | [] => 0
  | b :: bs => b + 256 * leN bs

theorem leN_append (a b : List Nat) : leN (a ++ b) = leN a + 256 ^ a.length * leN b := by
  induction a with
  | nil => simp [leN]
  | cons x xs ih =>
    simp only [List.cons_append, leN, ih, List.length_cons, Nat.pow_succ, Nat.mul_add]
    have : 256 * (256 ^ xs.length * leN b) = 256 ^ xs.length * 256 * leN b := by rw [Nat.mul_comm (256 ^ xs.length) 256, Nat.mul_assoc]
    omega

theorem info_u8 : (Try.prog.info? 5).map (fun i => (i.zero, i.size, i.bytes)) = some (some (.int .u8 0), 1, 1) := by kernel_rfl

theorem or_add (v x n : Nat) (hv : v < 2 ^ n) : v ||| x * 2 ^ n = v + x * 2 ^ n := by
  have h := Nat.two_pow_add_eq_or_of_lt hv x
  rw [Nat.or_comm, Nat.mul_comm x, ← h]
  omega

theorem pow_bound (x n : Nat) (hx : x < 4294967296) (hn : n < 8) : x * 2 ^ n < 549755813888 ∧ 2 ^ n ≤ 128 := by
  have h : 2 ^ n ≤ 2 ^ 7 := Nat.pow_le_pow_right (by omega) (by omega)
  have h2 : (2:Nat) ^ 7 = 128 := by decide
  rw [h2] at h
  refine ⟨?_, h⟩
  have : x * 2 ^ n ≤ 4294967295 * 128 := Nat.mul_le_mul (by omega) h
  omega

/-! ### hold.add -/
theorem add_num (v x n : Nat) (hv : v < 2 ^ n) (hn : n < 8) (hx : x < 4294967296) :
    bits BinOp.or IntKind.u64 (v : Int) (IntKind.u64.wrap ((x : Int) * 2 ^ n)) = ((v + x * 2 ^ n : Nat) : Int) := by
  obtain ⟨h1, h2⟩ := pow_bound x n hx hn
  have hw : IntKind.u64.wrap ((x : Int) * 2 ^ n) = ((x * 2 ^ n : Nat) : Int) := by
    have he : ((x : Int) * 2 ^ n) = ((x * 2 ^ n : Nat) : Int) := by simp
    rw [he, IntKind.wrap_u64]
    omega
  rw [hw, u64_or_nat v (x * 2 ^ n) (by omega) (by omega), or_add v x n hv]

set_option maxHeartbeats 400000 in
theorem add_any (g : Nat) (v n : Nat) (sl : Value) (x m : Int) (w : World)
    (h : w.heap[g]? = some (.cells #[.int .u64 v, .int .i64 n, sl] 64 (0, 0))) (hv : v < 2 ^ n) (hn : n < 8) (hx0 : 0 ≤ x) (hx : x < 4294967296) (hm0 : 0 ≤ m) (hm : m ≤ 32) :
    Calls Try.prog 40 #[.pointer (some ⟨g, 0, none⟩), .int .u64 x, .int .i64 m] w fun e w' => e = .returned (.tuple #[]) ∧
      w'.heap[g]? = some (.cells #[.int .u64 ((v + x.toNat * 2 ^ n : Nat) : Int), .int .i64 ((n : Int) + m), sl] 64 (0, 0)) ∧ w.grownBy w' (some g) := by
  obtain ⟨x, rfl⟩ := Int.eq_ofNat_of_zero_le hx0
  have c0 := cell_blk h 0
  have c1 := cell_blk h 1
  have f0 := frozen_blk h 0
  have f1 := frozen_blk h 1
  simp only [List.getElem?_toArray, List.getElem?_cons_zero, List.getElem?_cons_succ] at c0 c1
  have H := hide h
  clear h
  have HV := hide hv
  clear hv
  go_enter Try.func40, Try.ntmps40
  go_wp2
  go_region
  all_goals go_wp2
  go_end0
  have e := add_num v x n HV.out hn (by omega)
  refine ⟨rfl, ?_, ?_⟩
  · have s1 := set_blk (set_blk H.out 0 (.int .u64 ((v + x * 2 ^ n : Nat) : Int))) 1 (.int .i64 ((n : Int) + m))
    simp only [Int.toNat_natCast]
    rw [← e] at s1 ⊢
    exact s1
  · exact ⟨rfl, rfl, rfl, by simp [World.setCell], fun k _ hk => by
      have hk' : k ≠ g := fun e => hk (by rw [e])
      exact (Below.heap_setCell _ _ _ _ hk').trans (Below.heap_setCell _ _ _ _ hk')⟩

/-! ### hold.whole -/
set_option maxHeartbeats 400000 in
theorem whole_no (g : Nat) (v n : Nat) (sl : Value) (w : World)
    (h : w.heap[g]? = some (.cells #[.int .u64 v, .int .i64 n, sl] 64 (0, 0))) (hn : n < 8) :
    Calls Try.prog 41 #[.pointer (some ⟨g, 0, none⟩)] w fun e w' => e = .returned (.tuple #[.int .u8 0, .bool false]) ∧ w = w' := by
  have c1 := cell_blk h 1
  simp only [List.getElem?_toArray, List.getElem?_cons_zero, List.getElem?_cons_succ] at c1
  clear h
  go_enter Try.func41, Try.ntmps41
  go_wp2
  go_ret2
  exact ⟨rfl, rfl⟩

set_option maxHeartbeats 400000 in
theorem whole_yes (g : Nat) (v n : Nat) (sl : Value) (w : World)
    (h : w.heap[g]? = some (.cells #[.int .u64 v, .int .i64 n, sl] 64 (0, 0))) (hn : 8 ≤ n) (hn' : n ≤ 64) (hv : v < 18446744073709551616) :
    Calls Try.prog 41 #[.pointer (some ⟨g, 0, none⟩)] w fun e w' => e = .returned (.tuple #[.int .u8 ((v % 256 : Nat) : Int), .bool true]) ∧
      w'.heap[g]? = some (.cells #[.int .u64 ((v / 256 : Nat) : Int), .int .i64 ((n - 8 : Nat) : Int), sl] 64 (0, 0)) ∧ w.grownBy w' (some g) := by
  have c0 := cell_blk h 0
  have c1 := cell_blk h 1
  have f0 := frozen_blk h 0
  have f1 := frozen_blk h 1
  simp only [List.getElem?_toArray, List.getElem?_cons_zero, List.getElem?_cons_succ] at c0 c1
  have H := hide h
  clear h
  go_enter Try.func41, Try.ntmps41
  go_wp2
  go_ret2
  refine ⟨?_, ?_, ?_⟩
  · simp
  · have s1 := set_blk (set_blk H.out 0 (.int .u64 ((v / 256 : Nat) : Int))) 1 (.int .i64 ((n - 8 : Nat) : Int))
    have e1 : ((v / 256 : Nat) : Int) = (v : Int) / 256 := by omega
    have e2 : ((n - 8 : Nat) : Int) = (n : Int) - 8 := by omega
    rw [e1, e2] at s1 ⊢
    exact s1
  · exact ⟨rfl, rfl, rfl, by simp [World.setCell], fun k _ hk => by
      have hk' : k ≠ g := fun e => hk (by rw [e])
      exact (Below.heap_setCell _ _ _ _ hk').trans (Below.heap_setCell _ _ _ _ hk')⟩
end Go.Proofs.Ytifolinoadllbaa
