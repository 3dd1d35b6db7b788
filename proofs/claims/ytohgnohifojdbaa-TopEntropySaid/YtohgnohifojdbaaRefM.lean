/- Texts put together: RefA, RefB, RefC, RefD. -/
import Derived.Test.YtohgnohifojdbaaChecked
import Derived.Test.YtohgnohifojdbaaLib
import Derived.StillTailTactics
import Derived.Deep.RegionHeld3
import Derived.Deep.DrawnRows
import Derived.Test.YtohgnohifojdbaaOutM
import Derived.Lib.Strings
namespace Go.Proofs.Ytohgnohifojdbaa
section
set_option maxRecDepth 8000
open Go.RowKit
set_option linter.unusedVariables false

theorem info_bool : (Try.prog.info? 4).map (fun i => (i.zero, i.size, i.bytes)) = some (some (.bool false), 1, 1) := by kernel_rfl

/-- Does v fit into n bits? -/
def mayB (v n : Int) : Bool := decide (0 ≤ n) && decide (n ≤ 64) && decide (v.toNat < 2 ^ n.toNat)

/-- The low n bits of v, the least significant first. -/
def bitsOf (v n : Nat) : List Bool := (List.range n).map fun i => v / 2 ^ i % 2 == 1
def bools (l : List Bool) : List Value := l.map Value.bool

theorem bitsOf_succ (v k : Nat) : bitsOf v (k + 1) = bitsOf v k ++ [v / 2 ^ k % 2 == 1] := by simp [bitsOf, List.range_succ]
theorem bitsOf_length (v k : Nat) : (bitsOf v k).length = k := by simp [bitsOf]

end

section
set_option maxRecDepth 8000
open Go.RowKit
set_option linter.unusedVariables false

/-! ### A slice of calls of Put -/
def putCells (xs : List (Int × Int)) : List Value := xs.flatMap fun p => [.int .u64 p.1, .int .i64 p.2]
def OkPuts (xs : List (Int × Int)) : Prop := ∀ p ∈ xs, (0 ≤ p.1 ∧ p.1 < 18446744073709551616) ∧ (-9223372036854775808 ≤ p.2 ∧ p.2 < 9223372036854775808)
def allBits (xs : List (Int × Int)) : List Bool := xs.flatMap fun p => if mayB p.1 p.2 then bitsOf p.1.toNat p.2.toNat else []

theorem putCells_at : ∀ (xs : List (Int × Int)) (k : Nat) (h : k < xs.length), (putCells xs)[k * 2]? = some (.int .u64 xs[k].1) ∧ (putCells xs)[k * 2 + 1]? = some (.int .i64 xs[k].2)
  | [], k, h => absurd h (by simp)
  | p :: xs, 0, h => ⟨rfl, rfl⟩
  | p :: xs, k + 1, h => by
    have ih := putCells_at xs k (by simpa using h)
    have e : (k + 1) * 2 = k * 2 + 1 + 1 := by omega
    rw [e]
    exact ih
theorem putCells_length (xs : List (Int × Int)) : (putCells xs).length = xs.length * 2 := by
  induction xs with
  | nil => rfl
  | cons p xs ih =>
    have : putCells (p :: xs) = .int .u64 p.1 :: .int .i64 p.2 :: putCells xs := rfl
    rw [this, List.length_cons, List.length_cons, ih, List.length_cons]
    omega

/-- The two cells of element k. -/
theorem put_cells {w : World} {B n : Nat} {A : Option Addr} {xs : List (Int × Int)} (h : Reads w B 2 A n (putCells xs)) (hn : n = xs.length) {k : Nat} (hk : k < n) :
    ∃ b off x m, A = some ⟨b, off, none⟩ ∧ b < B ∧ w.cell? ⟨b, off + k * 2, none⟩ = some (.int .u64 x) ∧ w.cell? ⟨b, off + k * 2 + 1, none⟩ = some (.int .i64 m) ∧ xs[k]? = some (x, m) := by
  obtain ⟨b, off, rfl, hb, hc⟩ := h.open_ (by omega) (by omega)
  have hkl : k < xs.length := by omega
  obtain ⟨h1, h2⟩ := putCells_at xs k hkl
  exact ⟨b, off, xs[k].1, xs[k].2, rfl, hb, hc _ _ h1, by rw [Nat.add_assoc]; exact hc _ _ h2, List.getElem?_eq_getElem hkl⟩

theorem allBits_append (a b : List (Int × Int)) : allBits (a ++ b) = allBits a ++ allBits b := by simp [allBits]
theorem allBits_snoc {xs : List (Int × Int)} {k : Nat} {p : Int × Int} (h : xs[k]? = some p) : allBits (xs.take (k + 1)) = allBits (xs.take k) ++ (if mayB p.1 p.2 then bitsOf p.1.toNat p.2.toNat else []) := by
  rw [List.take_add_one, h]
  simp [allBits]
theorem mayB_le {v n : Int} (h : mayB v n = true) : 0 ≤ n ∧ n ≤ 64 ∧ v.toNat < 2 ^ n.toNat := by
  simp [mayB] at h
  omega
theorem allBits_le (xs : List (Int × Int)) : (allBits xs).length ≤ 64 * xs.length := by
  induction xs with
  | nil => simp [allBits]
  | cons p xs ih =>
    have e : allBits (p :: xs) = (if mayB p.1 p.2 then bitsOf p.1.toNat p.2.toNat else []) ++ allBits xs := rfl
    rw [e, List.length_append, List.length_cons]
    split
    · next h => have := mayB_le h; rw [bitsOf_length]; omega
    · simp; omega

theorem bools_one (l : List Bool) : ∀ u ∈ bools l, u.oneCell' = true := by
  intro u hu
  obtain ⟨b, _, rfl⟩ := List.mem_map.1 hu
  rfl

end

section
set_option maxRecDepth 8000
open Go.RowKit
set_option linter.unusedVariables false
attribute [local go_sem ↓] Go.wp_at_zero Go.wp_at_succ

/-- The number with these bits, the least significant first. -/
def natOf : List Bool → Nat
  | [] => 0
  | b :: l => b.toNat + 2 * natOf l

theorem natOf_append (a b : List Bool) : natOf (a ++ b) = natOf a + 2 ^ a.length * natOf b := by
  induction a with
  | nil => simp [natOf]
  | cons x xs ih =>
    simp only [List.cons_append, natOf, ih, List.length_cons, Nat.pow_succ]
    have : 2 ^ xs.length * 2 * natOf b = 2 * (2 ^ xs.length * natOf b) := by rw [Nat.mul_comm (2 ^ xs.length) 2, Nat.mul_assoc]
    omega
theorem natOf_lt (l : List Bool) : natOf l < 2 ^ l.length := by
  induction l with
  | nil => simp [natOf]
  | cons x xs ih =>
    simp only [natOf, List.length_cons, Nat.pow_succ]
    have : x.toNat ≤ 1 := by cases x <;> simp
    omega
theorem natOf_snoc (l : List Bool) (b : Bool) : natOf (l ++ [b]) = natOf l + b.toNat * 2 ^ l.length := by
  rw [natOf_append]; simp only [natOf, Nat.mul_zero, Nat.add_zero]; rw [Nat.mul_comm]

theorem pack_length (L N : Nat) : (pack L N).length = (L + 7) / 8 := by simp [pack]

/-- The bytes before bit k is laid in: a new byte where k is a multiple of 8. -/
def packExt (k N : Nat) : List Nat := if k % 8 = 0 then pack k N ++ [0] else pack k N

theorem packExt_eq (k N : Nat) (h : N < 2 ^ k) : packExt k N = pack (k + 1) N := by
  unfold packExt pack
  split
  · next h8 =>
    have e1 : (k + 7) / 8 = k / 8 := by omega
    have e2 : (k + 1 + 7) / 8 = k / 8 + 1 := by omega
    rw [e1, e2, List.range_succ, List.map_append]
    simp only [List.map_cons, List.map_nil]
    have e3 : N / 256 ^ (k / 8) = 0 := by
      rw [pow_256]
      have : 8 * (k / 8) = k := by omega
      rw [this]
      exact Nat.div_eq_of_lt h
    rw [e3]
  · next h8 =>
    have e2 : (k + 1 + 7) / 8 = (k + 7) / 8 := by omega
    rw [e2]

theorem pack_set (k N : Nat) (h : N < 2 ^ k) : pack (k + 1) (N + 2 ^ k) = (pack (k + 1) N).set (k / 8) (N / 256 ^ (k / 8) + 2 ^ (k % 8)) ∧ N / 256 ^ (k / 8) + 2 ^ (k % 8) < 256 ∧ (pack (k + 1) N)[k / 8]? = some (N / 256 ^ (k / 8)) := by
  have hk : k = 8 * (k / 8) + k % 8 := by omega
  have hr : k % 8 < 8 := by omega
  generalize k / 8 = q at *
  generalize k % 8 = r at *
  have hp : 2 ^ k = 256 ^ q * 2 ^ r := by rw [hk, Nat.pow_add, pow_256]
  have hlt : N / 256 ^ q < 2 ^ r := Nat.div_lt_of_lt_mul (by rw [← hp]; exact h)
  have hr2 : 2 ^ (r + 1) ≤ 2 ^ 8 := Nat.pow_le_pow_right (by omega) (by omega)
  have h8 : (2:Nat) ^ 8 = 256 := by decide
  rw [Nat.pow_succ] at hr2
  have hN256 : N / 256 ^ q % 256 = N / 256 ^ q := Nat.mod_eq_of_lt (by omega)
  have hlen : (k + 1 + 7) / 8 = q + 1 := by omega
  refine ⟨?_, by omega, ?_⟩
  · unfold pack
    rw [hlen]
    refine List.ext_getElem? fun i => ?_
    rw [List.getElem?_set]
    rcases Nat.lt_trichotomy i q with hi | rfl | hi
    · rw [if_neg (by omega), List.getElem?_map, List.getElem?_map]
      simp only [List.getElem?_range (show i < q + 1 by omega), Option.map_some]
      congr 1
      have e : 2 ^ k = 256 ^ i * (256 * (256 ^ (q - i - 1) * 2 ^ r)) := by
        rw [hp, ← Nat.mul_assoc 256, ← Nat.pow_succ', ← Nat.mul_assoc, ← Nat.pow_add]
        congr 2
        omega
      rw [e, Nat.add_mul_div_left _ _ (Nat.pow_pos (by omega)), Nat.add_mul_mod_self_left]
    · rw [if_pos rfl]
      simp only [List.length_map, List.length_range, Nat.lt_succ_self, if_true, List.getElem?_map, List.getElem?_range (Nat.lt_succ_self i), Option.map_some]
      rw [hp, Nat.add_mul_div_left _ _ (Nat.pow_pos (by omega)), Nat.mod_eq_of_lt (by omega)]
    · rw [if_neg (by omega), List.getElem?_eq_none (by simp; omega), List.getElem?_eq_none (by simp; omega)]
  · unfold pack
    rw [hlen, List.getElem?_map, List.getElem?_range (Nat.lt_succ_self q), Option.map_some, hN256]

theorem u8s_append (a b : List Nat) : u8s (a ++ b) = u8s a ++ u8s b := by simp [u8s]
theorem u8s_set (a : List Nat) (i x : Nat) : u8s (a.set i x) = (u8s a).set i (.int .u8 (x : Int)) := by simp [u8s, List.map_set]
theorem u8s_at {a : List Nat} {i x : Nat} (h : a[i]? = some x) : (u8s a)[i]? = some (.int .u8 (x : Int)) := by simp [u8s, h]

theorem bool_cells {w : World} {B n : Nat} {A : Option Addr} {l : List Bool} (h : Reads w B 1 A n (bools l)) {k : Nat} (hk : k < n) :
    ∃ b off x, A = some ⟨b, off, none⟩ ∧ b < B ∧ w.cell? ⟨b, off + k, none⟩ = some (.bool x) ∧ l[k]? = some x := by
  obtain ⟨b, off, rfl, hb, hc⟩ := h.open_ (by omega) (by omega)
  have hl : (bools l).length = n := by have := h.1; omega
  have hkl : k < l.length := by simp [bools] at hl; omega
  refine ⟨b, off, l[k], rfl, hb, hc _ _ ?_, List.getElem?_eq_getElem hkl⟩
  simp [bools, hkl]

def eight : List Value := [.int .u8 1, .int .u8 2, .int .u8 4, .int .u8 8, .int .u8 16, .int .u8 32, .int .u8 64, .int .u8 128]
theorem eight_at (r : Nat) (hr : r < 8) : eight[r]? = some (.int .u8 ((2 ^ r : Nat) : Int)) := by
  rcases (by omega : r = 0 ∨ r = 1 ∨ r = 2 ∨ r = 3 ∨ r = 4 ∨ r = 5 ∨ r = 6 ∨ r = 7) with rfl | rfl | rfl | rfl | rfl | rfl | rfl | rfl <;> rfl

theorem rbytes_ext {w : World} {B e N0 M k N : Nat} {v : Value} (h : packExt k N = pack (k + 1) N) (hk : k % 8 = 0) (hM : M = N0 + 1) (ho : w.ownsRow B e 1 v (N0 + 1) (u8s (pack k N) ++ [.int .u8 0])) : w.ownsRow B e 1 v M (u8s (pack (k + 1) N)) := by
  subst hM
  rw [← h, packExt, if_pos hk, u8s_append]
  exact ho
theorem take_snoc_some {α : Type} {l : List α} {k : Nat} {x : α} (h : l[k]? = some x) : l.take (k + 1) = l.take k ++ [x] := by
  rw [List.take_add_one, h]; rfl

end

section
set_option maxRecDepth 8000
open Go.RowKit
set_option linter.unusedVariables false

def strOf (xs : List Nat) : ByteArray := ⟨(xs.map UInt8.ofNat).toArray⟩

theorem run_string_reads {P : Program} (w : World) (src dst e : TypeId) {B n : Nat} {A : Option Addr} (c : Nat) {xs : List Nat} (h : Reads w B 1 A n (u8s xs))
    (hs : P.underlying src = some (.slice e)) (he : P.underlying e = some (.int .u8)) (hd : P.underlying dst = some .string) :
    (convert src dst (.slice A n c)).run P w = .ok (.string (strOf xs)) w := by
  have hl : xs.length = n := by have := h.1; simpa [u8s] using this
  rw [run_convert_bytes_string w src dst e A n c hs he hd]
  rcases A with _ | a
  · have h0 : n = 0 := by
      rcases Nat.eq_zero_or_pos n with h0 | h0
      · exact h0
      · obtain ⟨ad, h, _⟩ := h.2 h0; cases h
    have hx : xs = [] := List.eq_nil_of_length_eq_zero (by omega)
    subst hx
    simp [Conv.bytesToString, strOf]
    rfl
  · have hl2 : (loadCells a n).run P w = .ok ((xs.map fun b : Nat => (b : Int)).map (Value.int .u8)).toArray w := by
      have := run_loadCells_list (P := P) w a (u8s xs) (fun j v hj => by
        have hn : 0 < n := by
          rcases Nat.eq_zero_or_pos n with h0 | h0
          · have hx : xs = [] := List.eq_nil_of_length_eq_zero (by omega)
            subst hx; simp [u8s] at hj
          · exact h0
        obtain ⟨ad, ha, _, hc⟩ := h.2 hn
        injection ha with ha
        subst ha
        exact hc j v hj)
      have e1 : (u8s xs).length = n := by simpa [u8s] using hl
      rw [e1] at this
      rw [this]
      simp [u8s]
    rw [run_bytesToString w a n c _ hl2, foldl_push_bytes]
    simp [strOf, ByteArray.empty, ByteArray.emptyWithCapacity]
    rfl

theorem strOf_eq (xs ys : List Nat) (hx : ∀ b ∈ xs, b < 256) (hy : ∀ b ∈ ys, b < 256) : strOf xs = strOf ys ↔ xs = ys := by
  constructor
  · intro h
    have h1 : (xs.map UInt8.ofNat) = (ys.map UInt8.ofNat) := by
      have := congrArg (fun s : ByteArray => s.data.toList) h
      simpa [strOf] using this
    have h2 := congrArg (List.map UInt8.toNat) h1
    simp only [List.map_map] at h2
    have e : ∀ l : List Nat, (∀ b ∈ l, b < 256) → l.map (UInt8.toNat ∘ UInt8.ofNat) = l := fun l hl => by
      conv => rhs; rw [← List.map_id l]
      exact List.map_congr_left fun b hb => by simp; have := hl b hb; omega
    rw [e xs hx, e ys hy] at h2
    exact h2
  · intro h; rw [h]

theorem pack_byte (L N : Nat) : ∀ b ∈ pack L N, b < 256 := by
  intro b hb
  obtain ⟨i, _, rfl⟩ := List.mem_map.1 hb
  exact Nat.mod_lt _ (by omega)

end

end Go.Proofs.Ytohgnohifojdbaa
