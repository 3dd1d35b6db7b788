/- Calls of Put as numbers. -/
import Derived.Test.YtohgnohifojdbaaRefM
import Derived.Test.YtohgnohifojdbaaL3M
namespace Go.Proofs.Ytohgnohifojdbaa
set_option maxRecDepth 8000
open Go.RowKit
set_option linter.unusedVariables false

/-! ### A slice of calls of Put -/
theorem bad_of {x m : Int} (hm : mayB x m = false) (hx0 : 0 ≤ x) (hm1 : m < 9223372036854775808) : m < 0 ∨ (0 ≤ m ∧ 64 < m) ∨ (0 ≤ m ∧ m < 64 ∧ (x / 2 ^ m.toNat != 0) = true) ∨ (m = 64 ∧ 18446744073709551616 ≤ x) := by
  by_cases h0 : m < 0
  · exact .inl h0
  · by_cases h64 : 64 < m
    · exact .inr (.inl ⟨by omega, h64⟩)
    · simp only [mayB, Bool.and_eq_false_iff, decide_eq_false_iff_not] at hm
      have h2 : ¬ x.toNat < 2 ^ m.toNat := by rcases hm with (hm | hm) | hm <;> first | omega | exact hm
      obtain ⟨x, rfl⟩ := Int.eq_ofNat_of_zero_le hx0
      obtain ⟨m, rfl⟩ := Int.eq_ofNat_of_zero_le (by omega : 0 ≤ m)
      simp only [Int.toNat_natCast] at h2 ⊢
      by_cases he : m = 64
      · subst he
        exact .inr (.inr (.inr ⟨by omega, by have : (2:Nat) ^ 64 = 18446744073709551616 := by decide
                                             omega⟩))
      · refine .inr (.inr (.inl ⟨by omega, by omega, ?_⟩))
        have e : ((x : Int) / 2 ^ m) = ((x / 2 ^ m : Nat) : Int) := by simp
        have hp : 0 < x / 2 ^ m := Nat.div_pos (by omega) (Nat.pow_pos (by omega))
        rw [e, bne_iff_ne]
        omega

theorem put_refuses {g : Nat} {x m : Int} (w : World) (hm : mayB x m = false) (hx0 : 0 ≤ x) (hx1 : x < 18446744073709551616) (hm1 : m < 9223372036854775808) :
    Calls Try.prog 35 #[.pointer (some ⟨g, 0, none⟩), .int .u64 x, .int .i64 m] w fun e w' => e = .returned (.int .i64 2) ∧ w = w' := by
  rcases bad_of hm hx0 hm1 with h | h | h | h
  · exact put_bad g x m w (.inl h) hx0 hx1
  · exact put_bad g x m w (.inr (.inl h)) hx0 hx1
  · exact put_bad g x m w (.inr (.inr h)) hx0 hx1
  · omega

theorem leN_snoc (a : List Nat) (x : Nat) : leN (a ++ [x]) = leN a + x * 2 ^ (8 * a.length) := by
  rw [leN_append, pow_256]; simp only [leN, Nat.mul_zero, Nat.add_zero]; rw [Nat.mul_comm]


/-- How many bits, and the number that they make, of valid calls. -/
def bl : List (Int × Int) → Nat
  | [] => 0
  | p :: ps => p.2.toNat + bl ps
def bn : List (Int × Int) → Nat
  | [] => 0
  | p :: ps => p.1.toNat + 2 ^ p.2.toNat * bn ps
def okAll (ps : List (Int × Int)) : Prop := ∀ p ∈ ps, mayB p.1 p.2 = true
theorem bl_append (a b : List (Int × Int)) : bl (a ++ b) = bl a + bl b := by
  induction a with
  | nil => simp [bl]
  | cons x xs ih => simp only [List.cons_append, bl, ih]; omega
theorem bn_append (a b : List (Int × Int)) : bn (a ++ b) = bn a + 2 ^ bl a * bn b := by
  induction a with
  | nil => simp [bl, bn]
  | cons x xs ih =>
    simp only [List.cons_append, bl, bn, ih, Nat.mul_add, Nat.pow_add]
    rw [Nat.mul_assoc]; omega
theorem bn_lt {ps : List (Int × Int)} (h : okAll ps) : bn ps < 2 ^ bl ps := by
  induction ps with
  | nil => simp [bl, bn]
  | cons p ps ih =>
    have h1 := (mayB_le (h p (by simp))).2.2
    have h2 := ih (fun q hq => h q (by simp [hq]))
    simp only [bl, bn, Nat.pow_add]
    have h3 : 2 ^ p.2.toNat * (bn ps + 1) ≤ 2 ^ p.2.toNat * 2 ^ bl ps := Nat.mul_le_mul_left _ h2
    rw [Nat.mul_add, Nat.mul_one] at h3
    omega
theorem bl_le {ps : List (Int × Int)} (h : okAll ps) : bl ps ≤ 64 * ps.length := by
  induction ps with
  | nil => simp [bl]
  | cons p ps ih =>
    have h1 := mayB_le (h p (by simp))
    have h2 := ih (fun q hq => h q (by simp [hq]))
    simp only [bl, List.length_cons]
    omega
theorem bl_snoc {ps : List (Int × Int)} {k : Nat} {x m : Int} (h : ps[k]? = some (x, m)) : bl (ps.take (k + 1)) = bl (ps.take k) + m.toNat := by
  rw [List.take_add_one, h, Option.toList_some, bl_append]; simp [bl]
theorem bn_snoc {ps : List (Int × Int)} {k : Nat} {x m : Int} (h : ps[k]? = some (x, m)) : bn (ps.take (k + 1)) = bn (ps.take k) + x.toNat * 2 ^ bl (ps.take k) := by
  rw [List.take_add_one, h, Option.toList_some, bn_append]; simp [bn, Nat.mul_comm]
theorem ok_snoc {ps : List (Int × Int)} {k : Nat} {x m : Int} (h : ps[k]? = some (x, m)) (h0 : okAll (ps.take k)) (h1 : mayB x m = true) : okAll (ps.take (k + 1)) := by
  rw [List.take_add_one, h, Option.toList_some]
  intro p hp
  rcases List.mem_append.1 hp with hp | hp
  · exact h0 p hp
  · rw [List.mem_singleton.1 hp]; exact h1
theorem bl_take_le (ps : List (Int × Int)) (k : Nat) : bl (ps.take k) ≤ bl ps := by
  have := bl_append (ps.take k) (ps.drop k)
  rw [List.take_append_drop] at this
  omega
/-- The value of call k, read where it was written. -/
theorem bn_read {ps : List (Int × Int)} (hok : okAll ps) {k : Nat} {x m : Int} (h : ps[k]? = some (x, m)) (c : Nat) :
    (bn ps + 2 ^ bl ps * c) / 2 ^ bl (ps.take k) % 2 ^ m.toNat = x.toNat := by
  have hk := (List.getElem?_eq_some_iff.1 h).1
  have e0 : ps = ps.take k ++ (x, m) :: ps.drop (k + 1) := by
    have h1 := List.drop_eq_getElem_cons hk
    rw [(List.getElem?_eq_some_iff.1 h).2] at h1
    rw [← h1, List.take_append_drop]
  have hx := (mayB_le (hok (x, m) (List.mem_of_getElem? h))).2.2
  have h2 : bn (ps.take k) < 2 ^ bl (ps.take k) := bn_lt (fun p hp => hok p (List.mem_of_mem_take hp))
  generalize hA : ps.take k = a at *
  generalize hB : ps.drop (k + 1) = b at *
  have e1 : bl ps = bl a + (m.toNat + bl b) := by rw [e0, bl_append]; rfl
  have e2 : bn ps = bn a + 2 ^ bl a * (x.toNat + 2 ^ m.toNat * bn b) := by rw [e0, bn_append]; rfl
  have e3 : bn ps + 2 ^ bl ps * c = bn a + 2 ^ bl a * (x.toNat + 2 ^ m.toNat * (bn b + 2 ^ bl b * c)) := by
    rw [e1, e2, Nat.pow_add, Nat.pow_add]
    simp only [Nat.mul_add, Nat.mul_assoc]
    omega
  rw [e3, Nat.add_mul_div_left _ _ (Nat.pow_pos (by omega)), Nat.div_eq_of_lt h2, Nat.zero_add, Nat.add_mul_mod_self_left, Nat.mod_eq_of_lt hx]

theorem leN_digits (N m : Nat) : leN ((List.range m).map fun i => N / 256 ^ i % 256) = N % 256 ^ m := by
  induction m with
  | zero => simp [leN, Nat.mod_one]
  | succ m ih =>
    rw [List.range_succ, List.map_append, List.map_singleton, leN_snoc, ih, List.length_map, List.length_range, ← pow_256, Nat.pow_succ, Nat.mod_mul, Nat.mul_comm (N / 256 ^ m % 256)]
theorem leN_packB {L N : Nat} (h : N < 2 ^ L) : leN (pack L N) = N := by
  unfold pack
  rw [leN_digits, pow_256, Nat.mod_eq_of_lt]
  exact Nat.lt_of_lt_of_le h (Nat.pow_le_pow_right (by omega) (by omega))
theorem pack_len (L N : Nat) : (pack L N).length = (L + 7) / 8 := by simp [pack]
/-- The last byte of a closed stream. -/
theorem close_last {L N : Nat} (h : N < 2 ^ L) : (pack (L + 1) (N + 2 ^ L)).getLastD 0 ≠ 0 ∧ L + 9 = 8 * (pack (L + 1) (N + 2 ^ L)).length + Lib.bitLen ((pack (L + 1) (N + 2 ^ L)).getLastD 0) := by
  have hlen : (pack (L + 1) (N + 2 ^ L)).length = L / 8 + 1 := by rw [pack_len]; omega
  have hl := last_of (n := L / 8 + 1) hlen.symm (by omega)
  rw [Nat.add_sub_cancel] at hl
  have he : (pack (L + 1) (N + 2 ^ L))[L / 8]? = some ((N + 2 ^ L) / 256 ^ (L / 8) % 256) := by
    unfold pack
    rw [List.getElem?_map, List.getElem?_range (by omega)]
    rfl
  rw [he] at hl
  have hx : (pack (L + 1) (N + 2 ^ L)).getLastD 0 = (N + 2 ^ L) / 256 ^ (L / 8) % 256 := by injection hl with hl; exact hl.symm
  rw [hx, hlen]
  have e : 2 ^ L = 256 ^ (L / 8) * 2 ^ (L % 8) := by rw [pow_256, ← Nat.pow_add]; congr 1; omega
  have hq : (N + 2 ^ L) / 256 ^ (L / 8) = N / 256 ^ (L / 8) + 2 ^ (L % 8) := by rw [e, Nat.add_mul_div_left _ _ (Nat.pow_pos (by omega))]
  have hN : N / 256 ^ (L / 8) < 2 ^ (L % 8) := Nat.div_lt_of_lt_mul (by rw [← e]; exact h)
  have hp : 2 ^ (L % 8) ≤ 2 ^ 7 := Nat.pow_le_pow_right (by omega) (by omega)
  have h27 : (2 : Nat) ^ 7 = 128 := by decide
  have hpos : 0 < 2 ^ (L % 8) := Nat.pow_pos (by omega)
  rw [hq]
  have h1 := fun hlo hhi => Lib.bitLen_shift (L % 8) (N / 256 ^ (L / 8) + 2 ^ (L % 8)) hlo hhi
  rw [Nat.add_div_right _ hpos, Nat.div_eq_of_lt hN] at h1
  have h2 : Lib.bitLen (0 + 1) = 1 := by decide
  rw [h2] at h1
  generalize N / 256 ^ (L / 8) = a at *
  generalize 2 ^ (L % 8) = b at *
  rw [Nat.mod_eq_of_lt (by omega)]
  refine ⟨by omega, ?_⟩
  rw [h1 (by omega) (by omega)]
  omega
end Go.Proofs.Ytohgnohifojdbaa
