/- Texts put together: RefA, RefB, RefC, RefD. -/
import Derived.Test.YtemiaagaggjbiaaChecked
import Derived.Test.YtemiaagaggjbiaaLib
import Derived.StillTailTactics
import Derived.Deep.RegionHeld3
import Derived.Deep.DrawnRows
import Derived.Test.YtemiaagaggjbiaaOutM
import Derived.Lib.Strings
namespace Go.Proofs.Ytemiaagaggjbiaa
section
set_option maxRecDepth 8000
open Go.RowKit
set_option linter.unusedVariables false

theorem info_bool : (Try.prog.info? 4).map (fun i => (i.zero, i.size, i.bytes)) = some (some (.bool false), 1, 1) := by kernel_rfl

/-- Does v fit into n bits? -/
def mayB (v n : Int) : Bool := decide (0 ≤ n) && decide (n ≤ 64) && decide (v.toNat < 2 ^ n.toNat)

/-- The low n bits of v, the least significant first. -/
def bitsOf (v n : Nat) : List Bool := (List.range n).map fun i => v / 2 ^ i % 2 == 1
def bools (l : List Bool) : List Value := l.map Value.bool

theorem bitsOf_succ (v k : Nat) : bitsOf v (k + 1) = bitsOf v k ++ [v / 2 ^ k % 2 == 1] := by simp [bitsOf, List.range_succ]
theorem bitsOf_length (v k : Nat) : (bitsOf v k).length = k := by simp [bitsOf]

set_option maxHeartbeats 400000 in
theorem bits_any (v n : Int) (w : World) (hv : 0 ≤ v) (hv' : v < 18446744073709551616) (hn : 0 ≤ n) (hn' : n ≤ 64) :
    Calls Try.prog 61 #[.int .u64 v, .int .i64 n] w fun e w' => ∃ u, e = .returned u ∧ w'.ownsRow w.heap.size 4 1 u n.toNat (bools (bitsOf v.toNat n.toNat)) ∧ Below w.heap.size w w' := by
  obtain ⟨n, rfl⟩ := Int.eq_ofNat_of_zero_le hn
  obtain ⟨v, rfl⟩ := Int.eq_ofNat_of_zero_le hv
  obtain ⟨i0, hi, hz0, hz1, hz2⟩ := info_parts info_bool
  simp only [Int.toNat_natCast]
  go_enter Try.func61, Try.ntmps61
  go_wp2
  go_loopw [0, 5, 6] (fun x out i wr => ∃ k : Nat, k ≤ n ∧ i = .int .i64 k ∧ x = .int .u64 ((v / 2 ^ k : Nat) : Int) ∧ wr.ownsRow w.heap.size 4 1 out k (bools (bitsOf v k)) ∧ Below w.heap.size w wr) (fun _ _ i _ => n - (intOf i).toNat)
  case atStart => exact ⟨0, Nat.zero_le _, rfl, by simp, World.ownsRow_nil _ _ _ _, Below.refl _ _⟩
  case round =>
    obtain ⟨k, hk, rfl, rfl, hown, hb⟩ := hrel
    obtain ⟨y, hy⟩ : ∃ y, y = v / 2 ^ k := ⟨_, rfl⟩
    have hyv : y < 18446744073709551616 := by have : v / 2 ^ k ≤ v := Nat.div_le_self _ _; omega
    rw [← hy]
    have HY := hide hy
    have hsz := hb.size
    have HB := hide hb
    clear hy hb hv'
    by_cases hlt : k < n
    · go_wp2_with (at_builtin; refine wpList_append_any _ rfl (.tmp 12) (.tmp 16) _ rfl w.heap.size 4 i0 _ 1 1 Try.underlying41 hi hz0 hz1 hz2 rfl (by omega) u5 k _ rfl (hown.alloc _) (wr.heap.size + 1) (some ⟨wr.heap.size, 0, none⟩) 1 1 [.bool ((y : Int) % 2 == 1)] rfl (reads_new wr _ _) (by simp [Value.oneCell']) (by unfold maxLen; omega) (by omega) (by simp; omega) ?_; intro v' w3 hown3 hg3 hat)
      go_roundw
      case rel =>
        have hlt := hown.lt
        refine ⟨k + 1, by omega, by go_num, by rw [Nat.pow_succ, ← Nat.div_div_eq_div_mul, ← HY.out]; go_num, ?_, ?_⟩
        · rw [bitsOf_succ, bools, List.map_append, ← HY.out]
          simp only [List.map_cons, List.map_nil]
          have e : ((y : Int) % 2 == 1) = (y % 2 == 1) := by rw [Bool.eq_iff_iff]; simp; omega
          rw [e] at hown3
          exact hown3
        · exact HB.out.trans ((Chg.grown ((Chg.refl (fun b => w.heap.size ≤ b) wr).alloc _) hg3 (fun j hj => .inl (hlt j hj).1)).below (fun _ h => h) hsz)
      case measure => simp [intOf]; omega
    · obtain rfl : n = k := by omega
      go_wp2
      go_ret
      exact ⟨_, rfl, hown, HB.out⟩
end

section
set_option maxRecDepth 8000
open Go.RowKit
set_option linter.unusedVariables false

/-! ### A slice of calls of Put -/
def putCells (xs : List (Int × Int)) : List Value := xs.flatMap fun p => [.int .u64 p.1, .int .i64 p.2]
def OkPuts (xs : List (Int × Int)) : Prop := ∀ p ∈ xs, (0 ≤ p.1 ∧ p.1 < 18446744073709551616) ∧ (-9223372036854775808 ≤ p.2 ∧ p.2 < 9223372036854775808)
def allBits (xs : List (Int × Int)) : List Bool := xs.flatMap fun p => if mayB p.1 p.2 then bitsOf p.1.toNat p.2.toNat else []

theorem putCells_at : ∀ (xs : List (Int × Int)) (k : Nat) (h : k < xs.length), (putCells xs)[k * 2]? = some (.int .u64 xs[k].1) ∧ (putCells xs)[k * 2 + 1]? = some (.int .i64 xs[k].2)
  | [], k, h => absurd h (by simp)
  | p :: xs, 0, h => ⟨rfl, rfl⟩
  | p :: xs, k + 1, h => by
    have ih := putCells_at xs k (by simpa using h)
    have e : (k + 1) * 2 = k * 2 + 1 + 1 := by omega
    rw [e]
    exact ih
theorem putCells_length (xs : List (Int × Int)) : (putCells xs).length = xs.length * 2 := by
  induction xs with
  | nil => rfl
  | cons p xs ih =>
    have : putCells (p :: xs) = .int .u64 p.1 :: .int .i64 p.2 :: putCells xs := rfl
    rw [this, List.length_cons, List.length_cons, ih, List.length_cons]
    omega

/-- The two cells of element k. -/
theorem put_cells {w : World} {B n : Nat} {A : Option Addr} {xs : List (Int × Int)} (h : Reads w B 2 A n (putCells xs)) (hn : n = xs.length) {k : Nat} (hk : k < n) :
    ∃ b off x m, A = some ⟨b, off, none⟩ ∧ b < B ∧ w.cell? ⟨b, off + k * 2, none⟩ = some (.int .u64 x) ∧ w.cell? ⟨b, off + k * 2 + 1, none⟩ = some (.int .i64 m) ∧ xs[k]? = some (x, m) := by
  obtain ⟨b, off, rfl, hb, hc⟩ := h.open_ (by omega) (by omega)
  have hkl : k < xs.length := by omega
  obtain ⟨h1, h2⟩ := putCells_at xs k hkl
  exact ⟨b, off, xs[k].1, xs[k].2, rfl, hb, hc _ _ h1, by rw [Nat.add_assoc]; exact hc _ _ h2, List.getElem?_eq_getElem hkl⟩

theorem allBits_append (a b : List (Int × Int)) : allBits (a ++ b) = allBits a ++ allBits b := by simp [allBits]
theorem allBits_snoc {xs : List (Int × Int)} {k : Nat} {p : Int × Int} (h : xs[k]? = some p) : allBits (xs.take (k + 1)) = allBits (xs.take k) ++ (if mayB p.1 p.2 then bitsOf p.1.toNat p.2.toNat else []) := by
  rw [List.take_add_one, h]
  simp [allBits]
theorem mayB_le {v n : Int} (h : mayB v n = true) : 0 ≤ n ∧ n ≤ 64 ∧ v.toNat < 2 ^ n.toNat := by
  simp [mayB] at h
  omega
theorem allBits_le (xs : List (Int × Int)) : (allBits xs).length ≤ 64 * xs.length := by
  induction xs with
  | nil => simp [allBits]
  | cons p xs ih =>
    have e : allBits (p :: xs) = (if mayB p.1 p.2 then bitsOf p.1.toNat p.2.toNat else []) ++ allBits xs := rfl
    rw [e, List.length_append, List.length_cons]
    split
    · next h => have := mayB_le h; rw [bitsOf_length]; omega
    · simp; omega

theorem bools_one (l : List Bool) : ∀ u ∈ bools l, u.oneCell' = true := by
  intro u hu
  obtain ⟨b, _, rfl⟩ := List.mem_map.1 hu
  rfl

end

section
set_option maxRecDepth 8000
open Go.RowKit
set_option linter.unusedVariables false
attribute [local go_sem ↓] Go.wp_at_zero Go.wp_at_succ

/-- The number with these bits, the least significant first. -/
def natOf : List Bool → Nat
  | [] => 0
  | b :: l => b.toNat + 2 * natOf l

theorem natOf_append (a b : List Bool) : natOf (a ++ b) = natOf a + 2 ^ a.length * natOf b := by
  induction a with
  | nil => simp [natOf]
  | cons x xs ih =>
    simp only [List.cons_append, natOf, ih, List.length_cons, Nat.pow_succ]
    have : 2 ^ xs.length * 2 * natOf b = 2 * (2 ^ xs.length * natOf b) := by rw [Nat.mul_comm (2 ^ xs.length) 2, Nat.mul_assoc]
    omega
theorem natOf_lt (l : List Bool) : natOf l < 2 ^ l.length := by
  induction l with
  | nil => simp [natOf]
  | cons x xs ih =>
    simp only [natOf, List.length_cons, Nat.pow_succ]
    have : x.toNat ≤ 1 := by cases x <;> simp
    omega
theorem natOf_snoc (l : List Bool) (b : Bool) : natOf (l ++ [b]) = natOf l + b.toNat * 2 ^ l.length := by
  rw [natOf_append]; simp only [natOf, Nat.mul_zero, Nat.add_zero]; rw [Nat.mul_comm]

theorem pack_length (L N : Nat) : (pack L N).length = (L + 7) / 8 := by simp [pack]

/-- The bytes before bit k is laid in: a new byte where k is a multiple of 8. -/
def packExt (k N : Nat) : List Nat := if k % 8 = 0 then pack k N ++ [0] else pack k N

theorem packExt_eq (k N : Nat) (h : N < 2 ^ k) : packExt k N = pack (k + 1) N := by
  unfold packExt pack
  split
  · next h8 =>
    have e1 : (k + 7) / 8 = k / 8 := by omega
    have e2 : (k + 1 + 7) / 8 = k / 8 + 1 := by omega
    rw [e1, e2, List.range_succ, List.map_append]
    simp only [List.map_cons, List.map_nil]
    have e3 : N / 256 ^ (k / 8) = 0 := by
      rw [pow_256]
      have : 8 * (k / 8) = k := by omega
      rw [this]
      exact Nat.div_eq_of_lt h
    rw [e3]
  · next h8 =>
    have e2 : (k + 1 + 7) / 8 = (k + 7) / 8 := by omega
    rw [e2]

theorem pack_set (k N : Nat) (h : N < 2 ^ k) : pack (k + 1) (N + 2 ^ k) = (pack (k + 1) N).set (k / 8) (N / 256 ^ (k / 8) + 2 ^ (k % 8)) ∧ N / 256 ^ (k / 8) + 2 ^ (k % 8) < 256 ∧ (pack (k + 1) N)[k / 8]? = some (N / 256 ^ (k / 8)) := by
  have hk : k = 8 * (k / 8) + k % 8 := by omega
  have hr : k % 8 < 8 := by omega
  generalize k / 8 = q at *
  generalize k % 8 = r at *
  have hp : 2 ^ k = 256 ^ q * 2 ^ r := by rw [hk, Nat.pow_add, pow_256]
  have hlt : N / 256 ^ q < 2 ^ r := Nat.div_lt_of_lt_mul (by rw [← hp]; exact h)
  have hr2 : 2 ^ (r + 1) ≤ 2 ^ 8 := Nat.pow_le_pow_right (by omega) (by omega)
  have h8 : (2:Nat) ^ 8 = 256 := by decide
  rw [Nat.pow_succ] at hr2
  have hN256 : N / 256 ^ q % 256 = N / 256 ^ q := Nat.mod_eq_of_lt (by omega)
  have hlen : (k + 1 + 7) / 8 = q + 1 := by omega
  refine ⟨?_, by omega, ?_⟩
  · unfold pack
    rw [hlen]
    refine List.ext_getElem? fun i => ?_
    rw [List.getElem?_set]
    rcases Nat.lt_trichotomy i q with hi | rfl | hi
    · rw [if_neg (by omega), List.getElem?_map, List.getElem?_map]
      simp only [List.getElem?_range (show i < q + 1 by omega), Option.map_some]
      congr 1
      have e : 2 ^ k = 256 ^ i * (256 * (256 ^ (q - i - 1) * 2 ^ r)) := by
        rw [hp, ← Nat.mul_assoc 256, ← Nat.pow_succ', ← Nat.mul_assoc, ← Nat.pow_add]
        congr 2
        omega
      rw [e, Nat.add_mul_div_left _ _ (Nat.pow_pos (by omega)), Nat.add_mul_mod_self_left]
    · rw [if_pos rfl]
      simp only [List.length_map, List.length_range, Nat.lt_succ_self, if_true, List.getElem?_map, List.getElem?_range (Nat.lt_succ_self i), Option.map_some]
      rw [hp, Nat.add_mul_div_left _ _ (Nat.pow_pos (by omega)), Nat.mod_eq_of_lt (by omega)]
    · rw [if_neg (by omega), List.getElem?_eq_none (by simp; omega), List.getElem?_eq_none (by simp; omega)]
  · unfold pack
    rw [hlen, List.getElem?_map, List.getElem?_range (Nat.lt_succ_self q), Option.map_some, hN256]

theorem u8s_append (a b : List Nat) : u8s (a ++ b) = u8s a ++ u8s b := by simp [u8s]
theorem u8s_set (a : List Nat) (i x : Nat) : u8s (a.set i x) = (u8s a).set i (.int .u8 (x : Int)) := by simp [u8s, List.map_set]
theorem u8s_at {a : List Nat} {i x : Nat} (h : a[i]? = some x) : (u8s a)[i]? = some (.int .u8 (x : Int)) := by simp [u8s, h]

theorem bool_cells {w : World} {B n : Nat} {A : Option Addr} {l : List Bool} (h : Reads w B 1 A n (bools l)) {k : Nat} (hk : k < n) :
    ∃ b off x, A = some ⟨b, off, none⟩ ∧ b < B ∧ w.cell? ⟨b, off + k, none⟩ = some (.bool x) ∧ l[k]? = some x := by
  obtain ⟨b, off, rfl, hb, hc⟩ := h.open_ (by omega) (by omega)
  have hl : (bools l).length = n := by have := h.1; omega
  have hkl : k < l.length := by simp [bools] at hl; omega
  refine ⟨b, off, l[k], rfl, hb, hc _ _ ?_, List.getElem?_eq_getElem hkl⟩
  simp [bools, hkl]

def eight : List Value := [.int .u8 1, .int .u8 2, .int .u8 4, .int .u8 8, .int .u8 16, .int .u8 32, .int .u8 64, .int .u8 128]
theorem eight_at (r : Nat) (hr : r < 8) : eight[r]? = some (.int .u8 ((2 ^ r : Nat) : Int)) := by
  rcases (by omega : r = 0 ∨ r = 1 ∨ r = 2 ∨ r = 3 ∨ r = 4 ∨ r = 5 ∨ r = 6 ∨ r = 7) with rfl | rfl | rfl | rfl | rfl | rfl | rfl | rfl <;> rfl

theorem rbytes_ext {w : World} {B e N0 M k N : Nat} {v : Value} (h : packExt k N = pack (k + 1) N) (hk : k % 8 = 0) (hM : M = N0 + 1) (ho : w.ownsRow B e 1 v (N0 + 1) (u8s (pack k N) ++ [.int .u8 0])) : w.ownsRow B e 1 v M (u8s (pack (k + 1) N)) := by
  subst hM
  rw [← h, packExt, if_pos hk, u8s_append]
  exact ho
theorem take_snoc_some {α : Type} {l : List α} {k : Nat} {x : α} (h : l[k]? = some x) : l.take (k + 1) = l.take k ++ [x] := by
  rw [List.take_add_one, h]; rfl

set_option maxHeartbeats 2000000 in
theorem rbytes_any (A : Option Addr) (n c : Nat) (l : List Bool) (w : World) (hr : Reads w w.heap.size 1 A n (bools l)) (hn : n ≤ 100000000) :
    Calls Try.prog 42 #[.slice A n c] w fun e w' => ∃ u, e = .returned u ∧ w'.ownsRow w.heap.size 5 1 u (pack n (natOf l)).length (u8s (pack n (natOf l))) ∧ Below w.heap.size w w' := by
  obtain ⟨i0, hi, hz0, hz1, hz2⟩ := info_parts info_u8
  have HR := hide hr
  clear hr
  go_enter Try.func42, Try.ntmps42
  go_wp2
  go_loopw [3, 4] (fun out i wr => ∃ k : Nat, k ≤ n ∧ i = .int .i64 k ∧ wr.ownsRow w.heap.size 5 1 out (pack k (natOf (l.take k))).length (u8s (pack k (natOf (l.take k)))) ∧ Below w.heap.size w wr) (fun _ i _ => n - (intOf i).toNat)
  case atStart => exact ⟨0, Nat.zero_le _, rfl, World.ownsRow_nil _ _ _ _, Below.refl _ _⟩
  case round =>
    obtain ⟨k, hk, rfl, hown, hb⟩ := hrel
    have hsz := hb.size
    have HB := hide hb
    have HO := hide hown
    clear hb hown
    by_cases hlt : k < n
    · obtain ⟨b, off, x, rfl, hbb, k0, hx⟩ := bool_cells (HR.out.below HB.out) hlt
      have HX := hide hx
      cases x with
      | false =>
        obtain ⟨q, hq⟩ : ∃ q : Nat, q = k / 8 := ⟨_, rfl⟩
        obtain ⟨r, hr⟩ : ∃ r : Nat, r = k % 8 := ⟨_, rfl⟩
        have hq' : (k : Int) / 8 = (q : Int) := by omega
        have hr' : (k : Int) % 8 = (r : Int) := by omega
        have hr8 : r < 8 := by omega
        have hNlt : natOf (l.take k) < 2 ^ k := Nat.lt_of_lt_of_le (natOf_lt _) (Nat.pow_le_pow_right (by omega) (List.length_take_le _ _))
        have hset := pack_set k _ hNlt
        rw [← hq, ← hr] at hset
        have hext := packExt_eq k _ hNlt
        have hlen := pack_length (k + 1) (natOf (l.take k))
        have hlen0 := pack_length k (natOf (l.take k))
        obtain ⟨M, hM⟩ : ∃ M, M = (pack (k + 1) (natOf (l.take k))).length := ⟨_, rfl⟩
        have hM1 : M = q + 1 := by omega
        have HSET := hide hset
        have HEXT := hide hext
        have HLEN0 := hide hlen0
        have HQ := hide hq
        have HRR := hide hr
        have HX := hide hx
        have HM := hide hM1
        have HM2 := hide hM
        have hkb : q ≤ 100000000 := by omega
        have hqM : (q : Int) < (M : Int) := by omega
        have hq0 : (0 : Int) ≤ (q : Int) := by omega
        have hr8' : (r : Int) < 8 := by omega
        have hr0' : (0 : Int) ≤ (r : Int) := by omega
        clear hx hq hr hset hext hNlt hlen hlen0 hM hM1
        by_cases h0 : r = 0
        · have hz : ((r : Int) == 0) = true := by simp [h0]
          obtain ⟨N0, hN0⟩ : ∃ N0, N0 = (pack k (natOf (l.take k))).length := ⟨_, rfl⟩
          have hN0q : N0 = q := by have := HLEN0.out; have := HQ.out; have := HRR.out; omega
          have ho0 := HO.out
          rw [← hN0] at ho0
          have HO0 := hide ho0
          have HNQ := hide hN0q
          have hN0b : N0 ≤ 100000000 := by omega
          have hlim1 : N0 + 1 ≤ maxLen := by unfold maxLen; omega
          clear ho0 hN0 hN0q
          go_wp2_with (at_builtin; refine wpList_append_any _ rfl (.tmp 14) (.tmp 15) _ rfl w.heap.size 5 i0 _ 1 1 Try.underlying25 hi hz0 hz1 hz2 rfl Nat.zero_lt_one u3 N0 _ rfl (HO0.out.alloc _) (wr.heap.size + 1) (some ⟨wr.heap.size, 0, none⟩) 1 1 [.int .u8 0] rfl (reads_new wr _ _) (by simp [Value.oneCell']) hlim1 (by omega) (by simp; omega) ?_; intro v' WE hown3 hg3 hat; have hbe : Below w.heap.size w WE := (HB.out.alloc hsz _).grown hg3 (by simp; omega) (fun j hj => (HO0.out.lt j hj).1); have kE := (hg3.cell (a := ⟨b, off + k, none⟩) (v := .bool false) ((World.cell?_alloc_lt wr _ _ (Nat.lt_of_lt_of_le hbb hsz)).trans k0) (fun e => by have := (HO0.out.lt b e.symm).1; omega)); have hEE : WE.ownsRow w.heap.size 5 1 v' M (u8s (pack (k + 1) (natOf (l.take k)))) := rbytes_ext HEXT.out (by rw [← HRR.out]; exact h0) (by rw [HM.out, ← HNQ.out]) hown3; clear hown3 hg3 hat; obtain ⟨G, cE, rfl, hGb, hGl⟩ := hEE.form (by rw [HM.out]; omega); have HOE := hide hEE; have HBE := hide hbe; clear hEE hbe)
          go_roundw
          case rel =>
            refine ⟨k + 1, by omega, by go_num, ?_, HBE.out⟩
            have e : natOf (l.take (k + 1)) = natOf (l.take k) := by rw [take_snoc_some HX.out, natOf_snoc]; simp
            rw [e, ← HM2.out]
            exact HOE.out
          case measure => simp [intOf]; omega
        · have hz : ((r : Int) == 0) = false := by simp; omega
          have hEE : wr.ownsRow w.heap.size 5 1 u3 M (u8s (pack (k + 1) (natOf (l.take k)))) := by
            have h1 := HO.out
            have h2 := HEXT.out
            rw [packExt, if_neg (by have := HRR.out; omega)] at h2
            rw [h2, ← HM2.out] at h1
            exact h1
          obtain ⟨G, cE, rfl, hGb, hGl⟩ := hEE.form (by have := HM.out; omega)
          have HOE := hide hEE
          have HBE := HB
          clear hEE
          obtain ⟨WE, hWE⟩ : ∃ WE, WE = wr := ⟨_, rfl⟩
          subst hWE
          go_wp2
          go_roundw
          case rel =>
            refine ⟨k + 1, by omega, by go_num, ?_, HBE.out⟩
            have e : natOf (l.take (k + 1)) = natOf (l.take k) := by rw [take_snoc_some HX.out, natOf_snoc]; simp
            rw [e, ← HM2.out]
            exact HOE.out
          case measure => simp [intOf]; omega
      | true =>
        obtain ⟨q, hq⟩ : ∃ q : Nat, q = k / 8 := ⟨_, rfl⟩
        obtain ⟨r, hr⟩ : ∃ r : Nat, r = k % 8 := ⟨_, rfl⟩
        have hq' : (k : Int) / 8 = (q : Int) := by omega
        have hr' : (k : Int) % 8 = (r : Int) := by omega
        have hr8 : r < 8 := by omega
        have hNlt : natOf (l.take k) < 2 ^ k := Nat.lt_of_lt_of_le (natOf_lt _) (Nat.pow_le_pow_right (by omega) (List.length_take_le _ _))
        have hset := pack_set k _ hNlt
        rw [← hq, ← hr] at hset
        have hext := packExt_eq k _ hNlt
        have hlen := pack_length (k + 1) (natOf (l.take k))
        have hlen0 := pack_length k (natOf (l.take k))
        obtain ⟨M, hM⟩ : ∃ M, M = (pack (k + 1) (natOf (l.take k))).length := ⟨_, rfl⟩
        have hM1 : M = q + 1 := by omega
        have HSET := hide hset
        have HEXT := hide hext
        have HLEN0 := hide hlen0
        have HQ := hide hq
        have HRR := hide hr
        have HX := hide hx
        have HM := hide hM1
        have HM2 := hide hM
        have hkb : q ≤ 100000000 := by omega
        have hqM : (q : Int) < (M : Int) := by omega
        have hq0 : (0 : Int) ≤ (q : Int) := by omega
        have hr8' : (r : Int) < 8 := by omega
        have hr0' : (0 : Int) ≤ (r : Int) := by omega
        clear hx hq hr hset hext hNlt hlen hlen0 hM hM1
        by_cases h0 : r = 0
        · have hz : ((r : Int) == 0) = true := by simp [h0]
          obtain ⟨N0, hN0⟩ : ∃ N0, N0 = (pack k (natOf (l.take k))).length := ⟨_, rfl⟩
          have hN0q : N0 = q := by have := HLEN0.out; have := HQ.out; have := HRR.out; omega
          have ho0 := HO.out
          rw [← hN0] at ho0
          have HO0 := hide ho0
          have HNQ := hide hN0q
          have hN0b : N0 ≤ 100000000 := by omega
          have hlim1 : N0 + 1 ≤ maxLen := by unfold maxLen; omega
          clear ho0 hN0 hN0q
          go_wp2_with (at_builtin; refine wpList_append_any _ rfl (.tmp 14) (.tmp 15) _ rfl w.heap.size 5 i0 _ 1 1 Try.underlying25 hi hz0 hz1 hz2 rfl Nat.zero_lt_one u3 N0 _ rfl (HO0.out.alloc _) (wr.heap.size + 1) (some ⟨wr.heap.size, 0, none⟩) 1 1 [.int .u8 0] rfl (reads_new wr _ _) (by simp [Value.oneCell']) hlim1 (by omega) (by simp; omega) ?_; intro v' WE hown3 hg3 hat; have hbe : Below w.heap.size w WE := (HB.out.alloc hsz _).grown hg3 (by simp; omega) (fun j hj => (HO0.out.lt j hj).1); have kE := (hg3.cell (a := ⟨b, off + k, none⟩) (v := .bool true) ((World.cell?_alloc_lt wr _ _ (Nat.lt_of_lt_of_le hbb hsz)).trans k0) (fun e => by have := (HO0.out.lt b e.symm).1; omega)); have hEE : WE.ownsRow w.heap.size 5 1 v' M (u8s (pack (k + 1) (natOf (l.take k)))) := rbytes_ext HEXT.out (by rw [← HRR.out]; exact h0) (by rw [HM.out, ← HNQ.out]) hown3; clear hown3 hg3 hat; obtain ⟨G, cE, rfl, hGb, hGl⟩ := hEE.form (by rw [HM.out]; omega); have HOE := hide hEE; have HBE := hide hbe; clear hEE hbe)
          have hold := HSET.out.2.2
          obtain ⟨old, ho⟩ : ∃ old, old = natOf (l.take k) / 256 ^ q := ⟨_, rfl⟩
          obtain ⟨p, hp⟩ : ∃ p, p = 2 ^ r := ⟨_, rfl⟩
          have hop : old + p < 256 := by rw [ho, hp]; exact HSET.out.2.1
          rw [← ho] at hold
          have hoq : WE.cell? ⟨G, q, none⟩ = some (.int .u8 (old : Int)) := by
            have h1 := HOE.out.cellAt q (by have := HM.out; omega)
            rw [u8s_at hold] at h1
            exact h1
          have hfz := HOE.out.frozenAt q
          have h8 := eight_at r hr8
          rw [← hp] at h8
          have H8 := hide h8
          have n1 := World.new_ne WE _ hoq
          have HP := hide hp
          have HOL := hide ho
          clear hold ho hp h8
          have hidx : ∀ W : World, (W.alloc (.cells #[.int .u8 1, .int .u8 2, .int .u8 4, .int .u8 8, .int .u8 16, .int .u8 32, .int .u8 64, .int .u8 128] 5)).cell? ⟨W.heap.size, r, none⟩ = some (.int .u8 (p : Int)) := fun W => (cell_blk (heap_alloc_new W _) r).trans (by simpa [eight] using H8.out)
          have hw1 : (k : Int).tdiv 8 = (q : Int) := by rw [Int.tdiv_eq_ediv_of_nonneg (by omega)]; exact hq'
          have hw2 : (k : Int).tmod 8 = (r : Int) := by rw [Int.tmod_eq_emod_of_nonneg (by omega)]; exact hr'
          have hw3 : IntKind.i64.wrap (q : Int) = (q : Int) := IntWalk.i64_in _ (by omega)
          have hw4 : IntKind.i64.wrap (r : Int) = (r : Int) := IntWalk.i64_in _ (by omega)
          have hw5 : IntKind.u8.wrap ((old : Int) + (p : Int)) = (old : Int) + (p : Int) := by rw [IntKind.wrap_u8]; omega
          go_region
          go_wp2
          go_roundw
          case rel =>
            refine ⟨k + 1, by omega, by go_num, ?_, ?_⟩
            · have e : natOf (l.take (k + 1)) = natOf (l.take k) + 2 ^ k := by
                rw [take_snoc_some HX.out, natOf_snoc, List.length_take, Nat.min_eq_left (Nat.le_of_lt (List.getElem?_eq_some_iff.1 HX.out).1)]; simp
              have hst := (((HOE.out.stored q (.int .u8 ((old + p : Nat) : Int))).1.alloc (.cells #[.int .u8 1, .int .u8 2, .int .u8 4, .int .u8 8, .int .u8 16, .int .u8 32, .int .u8 64, .int .u8 128] 5)).drew)
              have e2 : u8s (pack (k + 1) (natOf (l.take (k + 1)))) = (u8s (pack (k + 1) (natOf (l.take k)))).set q (.int .u8 ((old + p : Nat) : Int)) := by
                rw [e, HSET.out.1, u8s_set, HOL.out, HP.out]
              have e3 : (pack (k + 1) (natOf (l.take (k + 1)))).length = M := by rw [HM2.out, pack_length, pack_length]
              rw [e2, e3]
              first
                | exact hst
                | (have hp1 : p = 1 := by rw [HP.out, h0]
                   rw [hp1] at hst ⊢
                   have e5 : ((old : Int) + 1) % 256 = ((old + 1 : Nat) : Int) := by omega
                   rw [e5]
                   exact hst)
            · exact ((HBE.out.setCell (p := ⟨G, q, none⟩) hGb _).alloc (by simpa using HBE.out.size) _).drew
          case measure => simp [intOf]; omega
        · have hz : ((r : Int) == 0) = false := by simp; omega
          have hEE : wr.ownsRow w.heap.size 5 1 u3 M (u8s (pack (k + 1) (natOf (l.take k)))) := by
            have h1 := HO.out
            have h2 := HEXT.out
            rw [packExt, if_neg (by have := HRR.out; omega)] at h2
            rw [h2, ← HM2.out] at h1
            exact h1
          obtain ⟨G, cE, rfl, hGb, hGl⟩ := hEE.form (by have := HM.out; omega)
          have HOE := hide hEE
          have HBE := HB
          clear hEE
          obtain ⟨WE, hWE⟩ : ∃ WE, WE = wr := ⟨_, rfl⟩
          subst hWE
          go_wp2
          have hold := HSET.out.2.2
          obtain ⟨old, ho⟩ : ∃ old, old = natOf (l.take k) / 256 ^ q := ⟨_, rfl⟩
          obtain ⟨p, hp⟩ : ∃ p, p = 2 ^ r := ⟨_, rfl⟩
          have hop : old + p < 256 := by rw [ho, hp]; exact HSET.out.2.1
          rw [← ho] at hold
          have hoq : WE.cell? ⟨G, q, none⟩ = some (.int .u8 (old : Int)) := by
            have h1 := HOE.out.cellAt q (by have := HM.out; omega)
            rw [u8s_at hold] at h1
            exact h1
          have hfz := HOE.out.frozenAt q
          have h8 := eight_at r hr8
          rw [← hp] at h8
          have H8 := hide h8
          have n1 := World.new_ne WE _ hoq
          have HP := hide hp
          have HOL := hide ho
          clear hold ho hp h8
          have hidx : ∀ W : World, (W.alloc (.cells #[.int .u8 1, .int .u8 2, .int .u8 4, .int .u8 8, .int .u8 16, .int .u8 32, .int .u8 64, .int .u8 128] 5)).cell? ⟨W.heap.size, r, none⟩ = some (.int .u8 (p : Int)) := fun W => (cell_blk (heap_alloc_new W _) r).trans (by simpa [eight] using H8.out)
          have hw1 : (k : Int).tdiv 8 = (q : Int) := by rw [Int.tdiv_eq_ediv_of_nonneg (by omega)]; exact hq'
          have hw2 : (k : Int).tmod 8 = (r : Int) := by rw [Int.tmod_eq_emod_of_nonneg (by omega)]; exact hr'
          have hw3 : IntKind.i64.wrap (q : Int) = (q : Int) := IntWalk.i64_in _ (by omega)
          have hw4 : IntKind.i64.wrap (r : Int) = (r : Int) := IntWalk.i64_in _ (by omega)
          have hw5 : IntKind.u8.wrap ((old : Int) + (p : Int)) = (old : Int) + (p : Int) := by rw [IntKind.wrap_u8]; omega
          go_region
          go_wp2
          go_roundw
          case rel =>
            refine ⟨k + 1, by omega, by go_num, ?_, ?_⟩
            · have e : natOf (l.take (k + 1)) = natOf (l.take k) + 2 ^ k := by
                rw [take_snoc_some HX.out, natOf_snoc, List.length_take, Nat.min_eq_left (Nat.le_of_lt (List.getElem?_eq_some_iff.1 HX.out).1)]; simp
              have hst := (((HOE.out.stored q (.int .u8 ((old + p : Nat) : Int))).1.alloc (.cells #[.int .u8 1, .int .u8 2, .int .u8 4, .int .u8 8, .int .u8 16, .int .u8 32, .int .u8 64, .int .u8 128] 5)).drew)
              have e2 : u8s (pack (k + 1) (natOf (l.take (k + 1)))) = (u8s (pack (k + 1) (natOf (l.take k)))).set q (.int .u8 ((old + p : Nat) : Int)) := by
                rw [e, HSET.out.1, u8s_set, HOL.out, HP.out]
              have e3 : (pack (k + 1) (natOf (l.take (k + 1)))).length = M := by rw [HM2.out, pack_length, pack_length]
              rw [e2, e3]
              first
                | exact hst
                | (have hp1 : p = 1 := by rw [HP.out, h0]
                   rw [hp1] at hst ⊢
                   have e5 : ((old : Int) + 1) % 256 = ((old + 1 : Nat) : Int) := by omega
                   rw [e5]
                   exact hst)
            · exact ((HBE.out.setCell (p := ⟨G, q, none⟩) hGb _).alloc (by simpa using HBE.out.size) _).drew
          case measure => simp [intOf]; omega
    · obtain rfl : k = n := by omega
      have hl : (bools l).length = k := by have := HR.out.1; omega
      have hl' : l.length = k := by simpa [bools] using hl
      have HL := hide hl'
      clear hl hl'
      go_wp2
      go_ret
      have ho := HO.out
      rw [← HL.out, List.take_length, HL.out] at ho
      exact ⟨_, rfl, ho, HB.out⟩

theorem rbytes_own {B : Nat} {A : Option Addr} {n c : Nat} {l : List Bool} (w : World) (h : w.ownsRow B 4 1 (.slice A n c) n (bools l)) (hn : n ≤ 100000000) :
    Calls Try.prog 42 #[.slice A n c] w fun e w' => ∃ u, e = .returned u ∧ w'.ownsRow w.heap.size 5 1 u (pack n (natOf l)).length (u8s (pack n (natOf l))) ∧ Below w.heap.size w w' :=
  rbytes_any A n c l w (Reads.of_own h) hn

set_option maxHeartbeats 1000000 in
theorem rclose_any (A : Option Addr) (n c : Nat) (l : List Bool) (w : World) (hr : Reads w w.heap.size 1 A n (bools l)) (hn : n ≤ 10000000) :
    Calls Try.prog 21 #[.slice A n c] w fun e w' => ∃ u, e = .returned u ∧ w'.ownsRow w.heap.size 5 1 u (pack (n + 1) (natOf l + 2 ^ n)).length (u8s (pack (n + 1) (natOf l + 2 ^ n))) ∧ Below w.heap.size w w' := by
  obtain ⟨i0, hi, hz0, hz1, hz2⟩ := info_parts info_bool
  have hl : l.length = n := by have := hr.1; simpa [bools] using this
  have hnat : natOf (l ++ [true]) = natOf l + 2 ^ n := by rw [natOf_snoc, hl]; simp
  have HR := hide hr
  have HN := hide hnat
  clear hr hl hnat
  go_enter Try.func21, Try.ntmps21
  go_wp2_with (first
    | (at_builtin; refine wpList_append_any _ rfl (.const (.slice none 0 0)) (.tmp 3) _ rfl w.heap.size 4 i0 _ 1 1 Try.underlying41 hi hz0 hz1 hz2 rfl Nat.zero_lt_one (.slice none 0 0) 0 _ rfl (World.ownsRow_nil _ _ _ _) w.heap.size A n c _ rfl HR.out (bools_one _) (by unfold maxLen; omega) (by omega) (Nat.le_refl _) ?_; intro v1 w1 hown1 hg1 hat1; have hb1 : Below w.heap.size w w1 := (Below.refl _ _).grown hg1 (Nat.le_refl _) (by simp [Value.ownBlock]); have hsz1 := hb1.size; obtain ⟨N1, hN1⟩ : ∃ N1, N1 = 0 + n := ⟨_, rfl⟩; have hNb : N1 ≤ 10000000 := (by omega); rw [← hN1] at hown1; have HN1 := hide hN1; have HB1 := hide hb1; have HO1 := hide hown1; clear hown1 hg1 hat1 hb1 hN1)
    | (at_builtin; refine wpList_append_any _ rfl (.tmp 4) (.tmp 5) _ rfl w.heap.size 4 i0 _ 1 1 Try.underlying41 hi hz0 hz1 hz2 rfl Nat.zero_lt_one v1 N1 _ rfl (HO1.out.alloc _) (w1.heap.size + 1) (some ⟨w1.heap.size, 0, none⟩) 1 1 [.bool true] rfl (reads_new w1 _ _) (by simp [Value.oneCell']) (by unfold maxLen; omega) (by omega) (by simp; omega) ?_; intro v2 w2 hown2 hg2 hat2; have hlt1 := HO1.out.lt; have hb2 : Below w.heap.size w w2 := (HB1.out.alloc hsz1 _).grown hg2 (by simp; omega) (fun k hk => (hlt1 k hk).1); have hsz2 := hb2.size; obtain ⟨A2, c2, rfl⟩ := own_form hown2; obtain ⟨N2, hN2⟩ : ∃ N2, N2 = N1 + 1 := ⟨_, rfl⟩; have hNb2 : N2 ≤ 10000001 := (by omega); rw [← hN2] at hown2; rw [← hN2]; have hown2' : w2.ownsRow w.heap.size 4 1 (.slice A2 N2 c2) N2 (bools (l ++ [true])) := (by rw [bools, List.map_append]; exact hown2); have HC := hide (rbytes_own w2 hown2' (by omega)); have HN2 := hide hN2; have HB2 := hide hb2; clear hown2 hown2' hg2 hat2 hb2 hN2 hlt1)
    | (go_at_call 42; refine HC.out.mono ?_; rintro e w3 ⟨u, rfl, hown3, hb3⟩))
  go_ret
  have e : N2 = n + 1 := by have := HN1.out; have := HN2.out; omega
  rw [e, HN.out] at hown3
  exact ⟨u, rfl, own_base hown3 (fun k hk => by have := (hown3.lt k hk).1; omega), HB2.out.trans (hb3.mono hsz2)⟩
end

section
set_option maxRecDepth 8000
open Go.RowKit
set_option linter.unusedVariables false

def strOf (xs : List Nat) : ByteArray := ⟨(xs.map UInt8.ofNat).toArray⟩

theorem run_string_reads {P : Program} (w : World) (src dst e : TypeId) {B n : Nat} {A : Option Addr} (c : Nat) {xs : List Nat} (h : Reads w B 1 A n (u8s xs))
    (hs : P.underlying src = some (.slice e)) (he : P.underlying e = some (.int .u8)) (hd : P.underlying dst = some .string) :
    (convert src dst (.slice A n c)).run P w = .ok (.string (strOf xs)) w := by
  have hl : xs.length = n := by have := h.1; simpa [u8s] using this
  rw [run_convert_bytes_string w src dst e A n c hs he hd]
  rcases A with _ | a
  · have h0 : n = 0 := by
      rcases Nat.eq_zero_or_pos n with h0 | h0
      · exact h0
      · obtain ⟨ad, h, _⟩ := h.2 h0; cases h
    have hx : xs = [] := List.eq_nil_of_length_eq_zero (by omega)
    subst hx
    simp [Conv.bytesToString, strOf]
    rfl
  · have hl2 : (loadCells a n).run P w = .ok ((xs.map fun b : Nat => (b : Int)).map (Value.int .u8)).toArray w := by
      have := run_loadCells_list (P := P) w a (u8s xs) (fun j v hj => by
        have hn : 0 < n := by
          rcases Nat.eq_zero_or_pos n with h0 | h0
          · have hx : xs = [] := List.eq_nil_of_length_eq_zero (by omega)
            subst hx; simp [u8s] at hj
          · exact h0
        obtain ⟨ad, ha, _, hc⟩ := h.2 hn
        injection ha with ha
        subst ha
        exact hc j v hj)
      have e1 : (u8s xs).length = n := by simpa [u8s] using hl
      rw [e1] at this
      rw [this]
      simp [u8s]
    rw [run_bytesToString w a n c _ hl2, foldl_push_bytes]
    simp [strOf, ByteArray.empty, ByteArray.emptyWithCapacity]
    rfl

theorem strOf_eq (xs ys : List Nat) (hx : ∀ b ∈ xs, b < 256) (hy : ∀ b ∈ ys, b < 256) : strOf xs = strOf ys ↔ xs = ys := by
  constructor
  · intro h
    have h1 : (xs.map UInt8.ofNat) = (ys.map UInt8.ofNat) := by
      have := congrArg (fun s : ByteArray => s.data.toList) h
      simpa [strOf] using this
    have h2 := congrArg (List.map UInt8.toNat) h1
    simp only [List.map_map] at h2
    have e : ∀ l : List Nat, (∀ b ∈ l, b < 256) → l.map (UInt8.toNat ∘ UInt8.ofNat) = l := fun l hl => by
      conv => rhs; rw [← List.map_id l]
      exact List.map_congr_left fun b hb => by simp; have := hl b hb; omega
    rw [e xs hx, e ys hy] at h2
    exact h2
  · intro h; rw [h]

set_option maxHeartbeats 400000 in
theorem same_any {B : Nat} (A1 A2 : Option Addr) (n1 c1 n2 c2 : Nat) (xs ys : List Nat) (w : World) (h1 : Reads w B 1 A1 n1 (u8s xs)) (h2 : Reads w B 1 A2 n2 (u8s ys)) (hx : ∀ b ∈ xs, b < 256) (hy : ∀ b ∈ ys, b < 256) :
    Calls Try.prog 20 #[.slice A1 n1 c1, .slice A2 n2 c2] w fun e w' => e = .returned (.bool (decide (xs = ys))) ∧ w = w' := by
  have r1 := run_string_reads (P := Try.prog) w 25 9 5 c1 h1 Try.underlying25 Try.underlying5 Try.underlying9
  have r2 := run_string_reads (P := Try.prog) w 25 9 5 c2 h2 Try.underlying25 Try.underlying5 Try.underlying9
  have he := strOf_eq xs ys hx hy
  obtain ⟨s1, hs1⟩ : ∃ s, s = strOf xs := ⟨_, rfl⟩
  obtain ⟨s2, hs2⟩ : ∃ s, s = strOf ys := ⟨_, rfl⟩
  rw [← hs1] at r1 he
  rw [← hs2] at r2 he
  have HE := hide he
  clear h1 h2 hx hy he hs1 hs2
  go_enter Try.func20, Try.ntmps20
  go_wp2
  go_ret
  refine ⟨ret_bool ?_, rfl⟩
  rw [Bool.eq_iff_iff]
  simp only [beq_iff_eq, decide_eq_true_eq]
  exact ⟨fun h => HE.out.1 (ByteArray.ext (Array.ext' (by rw [← Lib.toList_data, ← Lib.toList_data]; exact h))), fun h => by rw [HE.out.2 h]⟩

theorem same_own {B1 B2 e1 e2 : Nat} (v1 v2 : Value) (xs ys : List Nat) (w : World) (h1 : w.ownsRow B1 e1 1 v1 xs.length (u8s xs)) (h2 : w.ownsRow B2 e2 1 v2 ys.length (u8s ys)) (hx : ∀ b ∈ xs, b < 256) (hy : ∀ b ∈ ys, b < 256) :
    Calls Try.prog 20 #[v1, v2] w fun e w' => e = .returned (.bool (decide (xs = ys))) ∧ w = w' := by
  obtain ⟨A1, c1, rfl⟩ := own_form h1
  obtain ⟨A2, c2, rfl⟩ := own_form h2
  exact same_any A1 A2 _ c1 _ c2 xs ys w (Reads.of_own h1) (Reads.of_own h2) hx hy

theorem pack_byte (L N : Nat) : ∀ b ∈ pack L N, b < 256 := by
  intro b hb
  obtain ⟨i, _, rfl⟩ := List.mem_map.1 hb
  exact Nat.mod_lt _ (by omega)

end

end Go.Proofs.Ytemiaagaggjbiaa
