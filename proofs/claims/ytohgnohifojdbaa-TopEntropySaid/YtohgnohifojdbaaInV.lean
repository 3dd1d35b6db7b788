/- Package bitin walked: row.value and its closure. -/
import Derived.Test.YtohgnohifojdbaaIn
namespace Go.Proofs.Ytohgnohifojdbaa
set_option maxRecDepth 8000
open Go.RowKit
set_option linter.unusedVariables false

/-- The closure's boxes: at, got, n, v, r; the row; a byte of its slice. -/
structure ValBoxes (w : World) (a0 a1 a2 a3 a4 : Nat) (at_ got n v : Nat) (g : Nat) : Prop where
  hat : w.heap[a0]? = some (.cells #[.int .i64 at_] 3 (0, 0))
  hgot : w.heap[a1]? = some (.cells #[.int .i64 got] 3 (0, 0))
  hn : w.heap[a2]? = some (.cells #[.int .i64 n] 3 (0, 0))
  hv : w.heap[a3]? = some (.cells #[.int .u64 v] 74 (0, 0))
  hr : w.heap[a4]? = some (.cells #[.pointer (some ⟨g, 0, none⟩)] 132 (0, 0))
  h01 : a0 ≠ a1
  h21 : a2 ≠ a1

theorem cell_one {w : World} {a : Nat} {v : Value} {t : TypeId} (h : w.heap[a]? = some (.cells #[v] t (0, 0))) : w.cell? ⟨a, 0, none⟩ = some v ∧ w.frozen? ⟨a, 0, none⟩ = false := ⟨(cell_blk h 0).trans rfl, frozen_blk h 0⟩

theorem mask_u64 (r : Nat) (hr : r ≤ 8) : IntKind.u64.wrap (IntKind.u64.wrap (2 ^ r) - 1) = ((2 ^ r - 1 : Nat) : Int) := by
  have h1 : 2 ^ r ≤ 2 ^ 8 := Nat.pow_le_pow_right (by omega) hr
  have h2 : (2:Nat) ^ 8 = 256 := by decide
  have h3 : 0 < 2 ^ r := Nat.pow_pos (by omega)
  have e0 : ((2 : Int) ^ r) = ((2 ^ r : Nat) : Int) := by simp
  have e1 : IntKind.u64.wrap (2 ^ r) = ((2 ^ r : Nat) : Int) := by rw [e0, IntKind.wrap_u64]; omega
  rw [e1, IntKind.wrap_u64]; omega

theorem and_mask (x r : Nat) (hx : x < 18446744073709551616) (hr : r ≤ 8) : bits BinOp.and IntKind.u64 (x : Int) ((2 ^ r - 1 : Nat) : Int) = ((x % 2 ^ r : Nat) : Int) := by
  have h1 : 2 ^ r ≤ 2 ^ 8 := Nat.pow_le_pow_right (by omega) hr
  have h2 : (2:Nat) ^ 8 = 256 := by decide
  have h3 : 0 < 2 ^ r := Nat.pow_pos (by omega)
  rw [u64_and_nat x (2 ^ r - 1) hx (by omega), Nat.and_two_pow_sub_one_eq_mod]

theorem shl_num (x got k : Nat) (hx : x < 2 ^ k) (h : got + k ≤ 64) : IntKind.u64.wrap ((x : Int) * 2 ^ got) = ((x * 2 ^ got : Nat) : Int) ∧ x * 2 ^ got < 18446744073709551616 := by
  have h1 : 2 ^ (got + k) ≤ 2 ^ 64 := Nat.pow_le_pow_right (by omega) h
  have h2 : (2:Nat) ^ 64 = 18446744073709551616 := by decide
  have h3 : (x + 1) * 2 ^ got ≤ 2 ^ k * 2 ^ got := Nat.mul_le_mul_right _ hx
  have h4 : 0 < 2 ^ got := Nat.pow_pos (by omega)
  rw [Nat.pow_add, Nat.mul_comm (2 ^ got)] at h1
  rw [Nat.add_mul, Nat.one_mul] at h3
  have hb : x * 2 ^ got < 18446744073709551616 := by omega
  have e0 : ((x : Int) * 2 ^ got) = ((x * 2 ^ got : Nat) : Int) := by simp
  refine ⟨?_, hb⟩
  rw [e0, IntKind.wrap_u64]
  omega

theorem or_num (v x got : Nat) (hv : v < 2 ^ got) (hb : x * 2 ^ got < 18446744073709551616) (hv64 : v < 18446744073709551616) :
    bits BinOp.or IntKind.u64 (v : Int) ((x * 2 ^ got : Nat) : Int) = ((v + x * 2 ^ got : Nat) : Int) := by
  rw [u64_or_nat v (x * 2 ^ got) hv64 hb, or_add v x got hv]

theorem ValBoxes.step {w : World} {a0 a1 a2 a3 a4 at_ got n v g : Nat} (h : ValBoxes w a0 a1 a2 a3 a4 at_ got n v g) (v' got' : Nat) :
    ValBoxes ((w.setCell ⟨a3, 0, none⟩ (.int .u64 v')).setCell ⟨a1, 0, none⟩ (.int .i64 got')).drew a0 a1 a2 a3 a4 at_ got' n v' g ∧
    Chg (fun b => b = a1 ∨ b = a3) w ((w.setCell ⟨a3, 0, none⟩ (.int .u64 v')).setCell ⟨a1, 0, none⟩ (.int .i64 got')).drew := by
  have n03 := blk_ne h.hat h.hv (by decide)
  have n13 := blk_ne h.hgot h.hv (by decide)
  have n23 := blk_ne h.hn h.hv (by decide)
  have n43 := blk_ne h.hr h.hv (by decide)
  have n41 := blk_ne h.hr h.hgot (by decide)
  refine ⟨⟨?_, ?_, ?_, ?_, ?_, h.h01, h.h21⟩, (((Chg.refl (fun b => b = a1 ∨ b = a3) w).setCell (p := ⟨a3, 0, none⟩) (.inl (.inr rfl)) _).setCell (p := ⟨a1, 0, none⟩) (.inl (.inl rfl)) _).drew⟩
  · exact set_far (set_far h.hat (p := ⟨a3, 0, none⟩) n03 _) (p := ⟨a1, 0, none⟩) h.h01 _
  · exact set_blk (set_far h.hgot (p := ⟨a3, 0, none⟩) n13 _) 0 _
  · exact set_far (set_far h.hn (p := ⟨a3, 0, none⟩) n23 _) (p := ⟨a1, 0, none⟩) h.h21 _
  · exact set_far (set_blk h.hv 0 _) (p := ⟨a1, 0, none⟩) (Ne.symm n13) _
  · exact set_far (set_far h.hr (p := ⟨a3, 0, none⟩) n43 _) (p := ⟨a1, 0, none⟩) n41 _

set_option maxHeartbeats 1000000 in
theorem byteOn_any {a0 a1 a2 a3 a4 at_ got n v g m c q s k x : Nat} {T : TypeId} {f t : Int} {b off : Nat} (w : World) (hB : ValBoxes w a0 a1 a2 a3 a4 at_ got n v g) (hR : RowAt w g T (some ⟨b, off, none⟩) m c f t)
    (hq : q = (at_ + got) / 8) (hs : s = (at_ + got) % 8) (hk : k = min (8 - s) (n - got)) (hgn : got < n) (hn : n ≤ 64) (hat : at_ ≤ 100000000000) (hqm : q < m)
    (hx : w.cell? ⟨b, off + q, none⟩ = some (.int .u8 (x : Int))) (hx8 : x < 256) (hv : v < 2 ^ got) :
    Calls Try.prog 68 #[.pointer (some ⟨a0, 0, none⟩), .pointer (some ⟨a1, 0, none⟩), .pointer (some ⟨a2, 0, none⟩), .pointer (some ⟨a3, 0, none⟩), .pointer (some ⟨a4, 0, none⟩)] w
      fun e w' => e = .returned (.tuple #[]) ∧ ValBoxes w' a0 a1 a2 a3 a4 at_ (got + k) n (v + x / 2 ^ s % 2 ^ k * 2 ^ got) g ∧ Chg (fun b => b = a1 ∨ b = a3) w w' := by
  obtain ⟨c0, _⟩ := cell_one hB.hat
  obtain ⟨c1, f1⟩ := cell_one hB.hgot
  obtain ⟨c2, _⟩ := cell_one hB.hn
  obtain ⟨c3, f3⟩ := cell_one hB.hv
  obtain ⟨c4, _⟩ := cell_one hB.hr
  obtain ⟨r0, _, _⟩ := hR.cells
  have h31 : a3 ≠ a1 := Ne.symm (blk_ne hB.hgot hB.hv (by decide))
  have hq' : ((at_ : Int) + (got : Int)) / 8 = (q : Int) := by omega
  have hs' : ((at_ : Int) + (got : Int)) % 8 = (s : Int) := by omega
  have hs8 : s < 8 := by omega
  have hk8 : k ≤ 8 := by omega
  have hk0 : 0 < k := by omega
  have hkn : got + k ≤ 64 := by omega
  have hv64 : v < 18446744073709551616 := lt64 hv (by omega)
  obtain ⟨p, hp⟩ : ∃ p, p = x / 2 ^ s % 2 ^ k := ⟨_, rfl⟩
  have hpk : p < 2 ^ k := by rw [hp]; exact Nat.mod_lt _ (Nat.pow_pos (by omega))
  obtain ⟨y, hy⟩ : ∃ y, y = x / 2 ^ s := ⟨_, rfl⟩
  have hyx : y < 256 := by rw [hy]; exact Nat.lt_of_le_of_lt (Nat.div_le_self _ _) hx8
  have e1 : (x : Int) / 2 ^ s = (y : Int) := by rw [hy]; simp
  have e2 := mask_u64 k hk8
  have e3 := and_mask y k (by omega) hk8
  rw [hy, ← hp, ← hy] at e3
  obtain ⟨e4, e5⟩ := shl_num p got k hpk hkn
  have e6 := or_num v p got hv e5 hv64
  have hw1 : IntKind.i64.wrap ((at_ : Int) + (got : Int)) = (at_ : Int) + (got : Int) := IntWalk.i64_in _ (by omega)
  have hw2 : ((at_ : Int) + (got : Int)).tdiv 8 = (q : Int) := by rw [Int.tdiv_eq_ediv_of_nonneg (by omega)]; exact hq'
  have hw3 : IntKind.i64.wrap (q : Int) = (q : Int) := IntWalk.i64_in _ (by omega)
  have hqm' : (q : Int) < (m : Int) := by omega
  have hq0' : (0 : Int) ≤ (q : Int) := by omega
  have HB := hide hB
  have HR := hide hR
  have HP := hide hp
  have HE6 := hide e6
  rcases Nat.lt_or_ge (n - got) (8 - s) with hc | hc
  · have hkc : (n : Int) - (got : Int) = (k : Int) := by omega
    have hkc2 : (k : Int) < 8 - (s : Int) := by omega
    clear hB hR hq hs hk hv hp hpk hy hc
    go_enter Try.func68, Try.ntmps68
    go_wp2
    go_region
    go_wp2
    go_end0
    have hst := HB.out.step (v + p * 2 ^ got) (got + k)
    have e7 : bits BinOp.or IntKind.u64 (v : Int) ((p : Int) * 2 ^ got) = ((v + p * 2 ^ got : Nat) : Int) := by simpa using HE6.out
    have e8 : (got : Int) + (k : Int) = ((got + k : Nat) : Int) := by omega
    rw [← HP.out, e7, e8]
    exact ⟨rfl, hst⟩
  · have hkc : 8 - (s : Int) = (k : Int) := by omega
    have hkc2 : (k : Int) ≤ (n : Int) - (got : Int) := by omega
    clear hB hR hq hs hk hv hp hpk hy hc
    go_enter Try.func68, Try.ntmps68
    go_wp2
    go_region
    go_wp2
    go_end0
    have hst := HB.out.step (v + p * 2 ^ got) (got + k)
    have e7 : bits BinOp.or IntKind.u64 (v : Int) ((p : Int) * 2 ^ got) = ((v + p * 2 ^ got : Nat) : Int) := by simpa using HE6.out
    have e8 : (got : Int) + (k : Int) = ((got + k : Nat) : Int) := by omega
    rw [← HP.out, e7, e8]
    exact ⟨rfl, hst⟩
end Go.Proofs.Ytohgnohifojdbaa
