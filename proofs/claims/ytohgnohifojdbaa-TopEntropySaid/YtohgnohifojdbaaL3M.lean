/- Texts put together: L3A, L3B, InZ, InZ2, L3Own, L3Nil. -/
import Derived.Test.YtohgnohifojdbaaInM
import Derived.OpenShut
namespace Go.Proofs.Ytohgnohifojdbaa
section
set_option maxRecDepth 8000
open Go.RowKit
set_option linter.unusedVariables false

theorem reads_one (w : World) (x : Nat) (t : TypeId) : Reads (w.alloc (.cells #[.int .u8 (x : Int)] t)) (w.alloc (.cells #[.int .u8 (x : Int)] t)).heap.size 1 (some ⟨w.heap.size, 0, none⟩) 1 (u8s [x]) := by
  rw [size_alloc_w]; exact reads_new w _ t
theorem reads_two (w : World) (x y : Nat) (t : TypeId) : Reads (w.alloc (.cells #[.int .u8 (x : Int), .int .u8 (y : Int)] t)) (w.alloc (.cells #[.int .u8 (x : Int), .int .u8 (y : Int)] t)).heap.size 1 (some ⟨w.heap.size, 0, none⟩) 2 (u8s [x, y]) := by
  refine ⟨rfl, fun _ => ⟨_, rfl, by simp, fun j u hu => ?_⟩⟩
  have hh := alloc_new w (.cells #[.int .u8 (x : Int), .int .u8 (y : Int)] t (0, 0)) rfl
  match j, hu with
  | 0, hu => exact (cell_blk hh 0).trans hu
  | 1, hu => exact (cell_blk hh 1).trans hu
theorem reads_zero (w : World) : Reads w w.heap.size 1 none 0 (u8s []) := Reads.none_

end

section
set_option maxRecDepth 8000
open Go.RowKit Go
set_option linter.unusedVariables false

theorem u8s_of {zs : List Int} (h : ∀ z ∈ zs, (Lit.int .u8 z).wf = true) : zs.map (Value.int .u8) = u8s (zs.map Int.toNat) ∧ ∀ b ∈ zs.map Int.toNat, b < 256 := by
  constructor
  · unfold u8s
    rw [List.map_map]
    refine List.map_congr_left fun z hz => ?_
    have := bounds_u8 (h z hz)
    show Value.int .u8 z = Value.int .u8 ((z.toNat : Nat) : Int)
    rw [Int.toNat_of_nonneg this.1]
  · intro b hb
    obtain ⟨z, hz, rfl⟩ := List.mem_map.1 hb
    have := bounds_u8 (h z hz)
    omega

def okN (f t : Nat) (n : Int) : Bool := decide (0 ≤ n ∧ n ≤ 64 ∧ f + n.toNat ≤ t)
def oF (N f t : Nat) (n : Int) : Nat × Int × Nat := if okN f t n then (N / 2 ^ f % 2 ^ n.toNat, 0, f + n.toNat) else (0, if n < 0 ∨ 64 < n then 2 else 3, f)
def oB (N f t : Nat) (n : Int) : Nat × Int × Nat := if okN f t n then (N / 2 ^ (t - n.toNat) % 2 ^ n.toNat, 0, t - n.toNat) else (0, if n < 0 ∨ 64 < n then 2 else 14, t)
def pk (N f t c : Nat) : Nat := N / 2 ^ (t - min c (t - f)) % 2 ^ (min c (t - f)) * 2 ^ (c - min c (t - f))

section
variable {w : World} {lo hi g : Nat} {T : TypeId} {bs : List Nat} {f t : Nat}
theorem ftake_out (h : Rdr w lo hi g T bs f t) (n : Int) :
    Calls Try.prog 67 #[.pointer (some ⟨g, 0, none⟩), .int .i64 n] w fun e w' =>
      e = .returned (.tuple #[.int .u64 (((oF (leN bs) f t n).1 : Nat) : Int), .int .i64 (oF (leN bs) f t n).2.1]) ∧ Rdr w' lo hi g T bs (oF (leN bs) f t n).2.2 t ∧ Chg (fun k => k = g) w w' := by
  by_cases hb : n < 0 ∨ (0 ≤ n ∧ 64 < n)
  · have e : oF (leN bs) f t n = (0, 2, f) := by
      unfold oF okN
      rw [if_neg (by simp; omega), if_pos (by omega)]
    rw [e]
    have h0 := h
    obtain ⟨A, m, c, hr, h1, h2, h3, h4⟩ := h
    exact (ftake_bad w n hb).mono fun e w' ⟨he, k, hk⟩ => ⟨he, hk ▸ h0.drewN k, hk ▸ (Chg.refl _ w).drewN k⟩
  · obtain ⟨k, rfl⟩ := Int.eq_ofNat_of_zero_le (show 0 ≤ n by omega)
    by_cases ht : f + k ≤ t
    · have e : oF (leN bs) f t k = (leN bs / 2 ^ f % 2 ^ k, 0, f + k) := by
        unfold oF okN
        rw [if_pos (by simp; omega)]
        simp
      have e' : oF (leN bs) f t ((k : Nat) : Int) = (leN bs / 2 ^ f % 2 ^ k, 0, f + k) := e
      rw [e']
      exact ftake_good h k (by simp at hb; omega) ht
    · have e : oF (leN bs) f t ((k : Nat) : Int) = (0, 3, f) := by
        unfold oF okN
        rw [if_neg (by simp; omega), if_neg (by simp at hb ⊢; omega)]
      rw [e]
      exact ftake_few h k (by simp at hb; omega) (by omega)
theorem btake_out (h : Rdr w lo hi g T bs f t) (n : Int) :
    Calls Try.prog 40 #[.pointer (some ⟨g, 0, none⟩), .int .i64 n] w fun e w' =>
      e = .returned (.tuple #[.int .u64 (((oB (leN bs) f t n).1 : Nat) : Int), .int .i64 (oB (leN bs) f t n).2.1]) ∧ Rdr w' lo hi g T bs f (oB (leN bs) f t n).2.2 ∧ Chg (fun k => k = g) w w' := by
  by_cases hb : n < 0 ∨ (0 ≤ n ∧ 64 < n)
  · have e : oB (leN bs) f t n = (0, 2, t) := by
      unfold oB okN
      rw [if_neg (by simp; omega), if_pos (by omega)]
    rw [e]
    have h0 := h
    obtain ⟨A, m, c, hr, h1, h2, h3, h4⟩ := h
    exact (btake_bad w n hb).mono fun e w' ⟨he, k, hk⟩ => ⟨he, hk ▸ h0.drewN k, hk ▸ (Chg.refl _ w).drewN k⟩
  · obtain ⟨k, rfl⟩ := Int.eq_ofNat_of_zero_le (show 0 ≤ n by omega)
    by_cases ht : f + k ≤ t
    · have e : oB (leN bs) f t ((k : Nat) : Int) = (leN bs / 2 ^ (t - k) % 2 ^ k, 0, t - k) := by
        unfold oB okN
        rw [if_pos (by simp; omega)]
        simp
      rw [e]
      exact btake_good h k (t - k) (by simp at hb; omega) (by omega) (by omega)
    · have e : oB (leN bs) f t ((k : Nat) : Int) = (0, 14, t) := by
        unfold oB okN
        rw [if_neg (by simp; omega), if_neg (by simp at hb ⊢; omega)]
      rw [e]
      exact btake_few h k (by simp at hb; omega) (by omega)
theorem bskip_out (h : Rdr w lo hi g T bs f t) (n : Int) :
    Calls Try.prog 64 #[.pointer (some ⟨g, 0, none⟩), .int .i64 n] w fun e w' =>
      e = .returned (.int .i64 (oB (leN bs) f t n).2.1) ∧ Rdr w' lo hi g T bs f (oB (leN bs) f t n).2.2 ∧ Chg (fun k => k = g) w w' := by
  have h0 := h
  obtain ⟨A, m, c, hr, h1, h2, h3, h4⟩ := h
  by_cases hb : n < 0 ∨ (0 ≤ n ∧ 64 < n)
  · have e : oB (leN bs) f t n = (0, 2, t) := by
      unfold oB okN
      rw [if_neg (by simp; omega), if_pos (by omega)]
    rw [e]
    exact (bskip_bad w n hb).mono fun e w' ⟨he, k, hk⟩ => ⟨he, hk ▸ h0.drewN k, hk ▸ (Chg.refl _ w).drewN k⟩
  · obtain ⟨k, rfl⟩ := Int.eq_ofNat_of_zero_le (show 0 ≤ n by omega)
    by_cases ht : f + k ≤ t
    · have e : oB (leN bs) f t ((k : Nat) : Int) = (leN bs / 2 ^ (t - k) % 2 ^ k, 0, t - k) := by
        unfold oB okN
        rw [if_pos (by simp; omega)]
        simp
      rw [e]
      exact (bskip_ok w hr k (by simp at hb; omega) (show t - k + k = t by omega) (by omega)).mono fun e w' ⟨he, hr', hc⟩ => ⟨he, ⟨A, m, c, hr', h1, h2, Nat.le_trans h3 hc.size, h4⟩, hc⟩
    · have e : oB (leN bs) f t ((k : Nat) : Int) = (0, 14, t) := by
        unfold oB okN
        rw [if_neg (by simp; omega), if_neg (by simp at hb ⊢; omega)]
      rw [e]
      exact (bskip_short w hr k (by simp at hb; omega) (by omega)).mono fun e w' ⟨he, k, hk⟩ => ⟨he, hk ▸ h0.drewN k, hk ▸ (Chg.refl _ w).drewN k⟩
end

theorem newb_nil (A : Option Addr) (n c : Nat) (bs : List Nat) (w : World) (hr : Reads w w.heap.size 1 A n (u8s bs)) (hn : n = bs.length) (h0 : bs.getLastD 0 = 0) (hm : n ≤ 1000000000) :
    Calls Try.prog 39 #[.slice A n c] w fun e w' => e = .returned (.tuple #[.pointer none, .int .i64 14]) ∧ Below w.heap.size w w' :=
  (newb_bad A n c bs w hr hn h0 hm).mono fun e w' ⟨h1, h2⟩ => ⟨h1, below_of_drewN h2⟩
end

section
set_option maxRecDepth 8000
open Go.RowKit
set_option linter.unusedVariables false

theorem i64_and7 (n : Int) : bits .and .i64 n 7 = n % 8 := by
  have h7 : (BitVec.ofInt 64 7).toNat = 2 ^ 3 - 1 := by decide
  have key : (BitVec.ofInt 64 n &&& BitVec.ofInt 64 7).toNat = (n % ((2 ^ 64 : Nat) : Int)).toNat % 2 ^ 3 := by
    rw [BitVec.toNat_and, BitVec.toNat_ofInt, h7, Nat.and_two_pow_sub_one_eq_mod]
  show IntKind.i64.wrap ((BitVec.ofInt 64 n &&& BitVec.ofInt 64 7).toNat : Nat) = n % 8
  rw [key, IntKind.wrap_i64]
  omega

/-! ### Nil receivers -/
theorem ftake_nil (n : Int) (w : World) : Calls Try.prog 67 #[.pointer none, .int .i64 n] w fun e w' => e = .returned (.tuple #[.int .u64 0, .int .i64 1]) ∧ w' = w := by
  go_enter Try.func67, Try.ntmps67
  go_wp2
  go_ret2
  exact ⟨rfl, rfl⟩
theorem align_nil (w : World) : Calls Try.prog 28 #[.pointer none] w fun e w' => e = .returned (.tuple #[.int .i64 0, .int .i64 1]) ∧ w' = w := by
  go_enter Try.func28, Try.ntmps28
  go_wp2
  go_ret2
  exact ⟨rfl, rfl⟩
theorem bskip_nil (n : Int) (w : World) : Calls Try.prog 64 #[.pointer none, .int .i64 n] w fun e w' => e = .returned (.int .i64 1) ∧ w' = w := by
  go_enter Try.func64, Try.ntmps64
  go_wp2
  go_ret
  exact ⟨rfl, rfl⟩
theorem btake_nil (n : Int) (w : World) : Calls Try.prog 40 #[.pointer none, .int .i64 n] w fun e w' => e = .returned (.tuple #[.int .u64 0, .int .i64 1]) ∧ w' = w := by
  go_enter Try.func40, Try.ntmps40
  go_wp2_with fail
  refine (bskip_nil n _).mono ?_
  rintro e w1 ⟨rfl, rfl⟩
  go_wp2
  go_ret2
  exact ⟨rfl, rfl⟩
theorem bleft_nil (w : World) : Calls Try.prog 42 #[.pointer none] w fun e w' => e = .returned (.int .i64 0) ∧ w' = w := by
  go_enter Try.func42, Try.ntmps42
  go_wp2
  go_ret
  exact ⟨rfl, rfl⟩

/-! ### Align -/
/-- How many bits there are up to the next whole byte. -/
def gap (f : Nat) : Nat := (8 - f % 8) % 8
theorem gap_int (f : Nat) : -(f : Int) % 8 = (gap f : Int) := by unfold gap; omega
theorem gap_le (f : Nat) : gap f < 8 := by unfold gap; omega
theorem gap_mod (f : Nat) : (f + gap f) % 8 = 0 := by unfold gap; omega
theorem gap_top {f m : Nat} (h : f ≤ 8 * m) : f + gap f ≤ 8 * m := by unfold gap; omega

set_option maxHeartbeats 1000000 in
theorem align_bad {g m c f t : Nat} {T : TypeId} {A : Option Addr} {bs : List Nat} (w : World) (hr : Rd w g T A m c bs f t) (ht : t = 8 * m) (hv : leN bs / 2 ^ f % 2 ^ gap f ≠ 0) :
    Calls Try.prog 28 #[.pointer (some ⟨g, 0, none⟩)] w fun e w' =>
      e = .returned (.tuple #[.int .i64 0, .int .i64 14]) ∧ Below w.heap.size w w' := by
  have h1 := hr.le; have h2 := hr.top; have h3 := hr.small
  have hw1 : IntKind.i64.wrap (-(f : Int)) = -(f : Int) := IntWalk.i64_in _ (by omega)
  have hg := gap_int f
  have hgl := gap_le f
  have hgt := gap_top (show f ≤ 8 * m by omega)
  have hb : bits .and .i64 (-(f : Int)) 7 = (gap f : Int) := by rw [i64_and7, hg]
  obtain ⟨d, hd⟩ : ∃ d, d = gap f := ⟨_, rfl⟩
  rw [← hd] at hb hgl hgt hv
  obtain ⟨p, hp⟩ : ∃ p, p = leN bs / 2 ^ f % 2 ^ d := ⟨_, rfl⟩
  have HV := hide (hr.drew.value f d (by omega) (by omega))
  rw [← hp] at HV hv
  have hpz : ((p : Int) == 0) = false := by simp; omega
  have hpz' : ¬ (p : Int) = 0 := by omega
  obtain ⟨k0, k1, k2⟩ := hr.row.cells
  clear hr k0 k2 hp hd hg hv
  go_enter Try.func28, Try.ntmps28
  go_wp2
  go_still_tail 9, (by kernel_rfl)
  go_wp2_with fail
  refine HV.out.mono ?_
  rintro e w1 ⟨rfl, hb1⟩
  have HB1 := hide hb1
  clear hb1
  go_wp2
  go_ret2
  exact ⟨rfl, (Below.refl _ w).drew.trans HB1.out⟩

set_option maxHeartbeats 1000000 in
theorem align_ok {g m c f t : Nat} {T : TypeId} {A : Option Addr} {bs : List Nat} (w : World) (hr : Rd w g T A m c bs f t) (ht : t = 8 * m) (hv : leN bs / 2 ^ f % 2 ^ gap f = 0) :
    Calls Try.prog 28 #[.pointer (some ⟨g, 0, none⟩)] w fun e w' =>
      e = .returned (.tuple #[.int .i64 (((f + gap f) / 8 : Nat) : Int), .int .i64 0]) ∧ Rd w' g T A m c bs (f + gap f) t ∧ Chg (fun k => k = g) w w' := by
  have h1 := hr.le; have h2 := hr.top; have h3 := hr.small
  have hw1 : IntKind.i64.wrap (-(f : Int)) = -(f : Int) := IntWalk.i64_in _ (by omega)
  have hg := gap_int f
  have hgl := gap_le f
  have hgt := gap_top (show f ≤ 8 * m by omega)
  have hb : bits .and .i64 (-(f : Int)) 7 = (gap f : Int) := by rw [i64_and7, hg]
  obtain ⟨d, hd⟩ : ∃ d, d = gap f := ⟨_, rfl⟩
  rw [← hd] at hb hgl hgt hv ⊢
  have hv1 := hr.drew.value f d (by omega) (by omega)
  rw [hv] at hv1
  have HV := hide hv1
  have hw2 : IntKind.i64.wrap ((f : Int) + (d : Int)) = ((f + d : Nat) : Int) := by rw [IntWalk.i64_in _ (by omega)]; omega
  obtain ⟨k0, k1, k2⟩ := hr.row.cells
  have HR := hide hr
  have HT := hide (show f + d ≤ t by omega)
  obtain ⟨s, hs⟩ : ∃ s, s = f + d := ⟨_, rfl⟩
  rw [← hs] at hw2 HT ⊢
  have hs64 : s < 1000000000000 := by omega
  have hq : (s : Int).tdiv 8 = ((s / 8 : Nat) : Int) := by
    rw [Int.tdiv_eq_ediv_of_nonneg (by omega)]; omega
  have hw3 : IntKind.i64.wrap ((s / 8 : Nat) : Int) = ((s / 8 : Nat) : Int) := IntWalk.i64_in _ (by omega)
  clear hr k0 k2 hd hg hv hv1 hs
  go_enter Try.func28, Try.ntmps28
  go_wp2
  go_still_tail 9, (by kernel_rfl)
  go_wp2_with fail
  refine HV.out.mono ?_
  rintro e w1 ⟨rfl, hb1⟩
  have hr1 := HR.out.drew.below hb1
  have HR2 := hide (hr1.set1 (f' := s) HT.out)
  obtain ⟨j0, j1, j2⟩ := hr1.row.cells
  have jf := frozen_blk hr1.row 1
  obtain ⟨i0, i1, i2⟩ := HR2.out.row.cells
  have HB1 := hide hb1
  clear hb1 hr1 j0 j2 i0 i2
  go_wp2
  go_ret2
  refine ⟨?_, HR2.out, ((Chg.of_below (S := fun k => k = g) ((Below.refl _ w).drew.trans HB1.out))).setCell (p := ⟨g, 1, none⟩) (.inl rfl) _⟩
  first | rfl | (congr 3; omega)

/-- What Align gives: the index of the byte, the error, the place. -/
def oA (N f : Nat) : Nat × Int × Nat := if N / 2 ^ f % 2 ^ gap f = 0 then ((f + gap f) / 8, 0, f + gap f) else (0, 14, f)

theorem align_out {w : World} {lo hi g : Nat} {T : TypeId} {bs : List Nat} {f t : Nat} (h : Rdr w lo hi g T bs f t) (ht : t = 8 * bs.length) :
    Calls Try.prog 28 #[.pointer (some ⟨g, 0, none⟩)] w fun e w' =>
      e = .returned (.tuple #[.int .i64 (((oA (leN bs) f).1 : Nat) : Int), .int .i64 (oA (leN bs) f).2.1]) ∧ Rdr w' lo hi g T bs (oA (leN bs) f).2.2 t ∧ Chg (fun k => k = g) w w' := by
  have h0 := h
  obtain ⟨A, m, c, hr, h1, h2, h3, h4⟩ := h
  by_cases hz : leN bs / 2 ^ f % 2 ^ gap f = 0
  · have e : oA (leN bs) f = ((f + gap f) / 8, 0, f + gap f) := by unfold oA; rw [if_pos hz]
    rw [e]
    exact (align_ok w hr (by rw [hr.len]; exact ht) hz).mono fun e w' ⟨he, hr', hc⟩ => ⟨he, ⟨A, m, c, hr', h1, h2, Nat.le_trans h3 hc.size, h4⟩, hc⟩
  · have e : oA (leN bs) f = (0, 14, f) := by unfold oA; rw [if_neg hz]
    rw [e]
    exact (align_bad w hr (by rw [hr.len]; exact ht) hz).mono fun e w' ⟨he, hb⟩ => ⟨he, h0.below hb, .of_below hb⟩

/-! ### A zero value -/
theorem rdr_zero (w : World) (T : TypeId) : Rdr (w.alloc (.cells #[.slice none 0 0, .int .i64 0, .int .i64 0] T (0, 0))) w.heap.size (w.heap.size + 1) w.heap.size T [] 0 0 :=
  ⟨none, 0, 0, ⟨alloc_new w _ rfl, Reads.none_, by simp, by simp, rfl, Nat.le_refl _, Nat.zero_le _, by omega⟩, Nat.le_refl _, by omega, by simp, by simp⟩
end

section
set_option maxRecDepth 8000
open Go.RowKit
set_option linter.unusedVariables false

end

section
set_option maxRecDepth 8000
open Go.RowKit Go
set_option linter.unusedVariables false

theorem byte_cells {w : World} {B n : Nat} {A : Option Addr} {l : List Nat} (h : Reads w B 1 A n (u8s l)) {k : Nat} (hk : k < n) :
    ∃ b off x, A = some ⟨b, off, none⟩ ∧ b < B ∧ w.cell? ⟨b, off + k, none⟩ = some (.int .u8 ((x : Nat) : Int)) ∧ l[k]? = some x := by
  obtain ⟨b, off, rfl, hb, hc⟩ := h.open_ (by omega) (by omega)
  have hl : (u8s l).length = n := by have := h.1; omega
  have hkl : k < l.length := by simp [u8s] at hl; omega
  refine ⟨b, off, l[k], rfl, hb, hc _ _ ?_, List.getElem?_eq_getElem hkl⟩
  simp [u8s, hkl]

theorem byte_digit {bs : List Nat} {k x : Nat} (h : ∀ b ∈ bs, b < 256) (hx : bs[k]? = some x) : leN bs / 2 ^ (8 * k) % 2 ^ 8 = x := by
  obtain ⟨hk, e⟩ := List.getElem?_eq_some_iff.1 hx
  have := leN_digit bs 0 k h hk
  rw [Nat.mul_zero, Nat.add_zero, pow_256] at this
  rw [show (2 : Nat) ^ 8 = 256 from rfl, this]
  simp [List.getD, hx]

theorem last_of {bs : List Nat} {n : Nat} (hn : n = bs.length) (h : 0 < n) : bs[n - 1]? = some (bs.getLastD 0) := by
  rw [List.getLastD_eq_getLast?, List.getLast?_eq_getElem?, ← hn]
  cases hx : bs[n - 1]? with
  | none => rw [List.getElem?_eq_none_iff] at hx; omega
  | some x => rfl

end

section
set_option maxRecDepth 8000
open Go.RowKit Go
set_option linter.unusedVariables false

/-- How many bits Peek looks at. -/
def clampN (n : Int) : Nat := (min (max n 0) 64).toNat
theorem clampN_int (n : Int) : min (max n 0) 64 = (clampN n : Int) := by unfold clampN; omega
theorem clampN_le (n : Int) : clampN n ≤ 64 := by unfold clampN; omega

end

end Go.Proofs.Ytohgnohifojdbaa
