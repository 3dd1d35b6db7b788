/- What a reader's call brings, for every n. -/
import Derived.Test.YtifolinoadllbaaL3A
import Derived.OpenShut
namespace Go.Proofs.Ytifolinoadllbaa
open Go.RowKit Go
set_option linter.unusedVariables false

theorem u8s_of {zs : List Int} (h : ∀ z ∈ zs, (Lit.int .u8 z).wf = true) : zs.map (Value.int .u8) = u8s (zs.map Int.toNat) ∧ ∀ b ∈ zs.map Int.toNat, b < 256 := by
  constructor
  · unfold u8s
    rw [List.map_map]
    refine List.map_congr_left fun z hz => ?_
    have := bounds_u8 (h z hz)
    show Value.int .u8 z = Value.int .u8 ((z.toNat : Nat) : Int)
    rw [Int.toNat_of_nonneg this.1]
  · intro b hb
    obtain ⟨z, hz, rfl⟩ := List.mem_map.1 hb
    have := bounds_u8 (h z hz)
    omega

def okN (f t : Nat) (n : Int) : Bool := decide (0 ≤ n ∧ n ≤ 64 ∧ f + n.toNat ≤ t)
def oF (N f t : Nat) (n : Int) : Nat × Int × Nat := if okN f t n then (N / 2 ^ f % 2 ^ n.toNat, 0, f + n.toNat) else (0, if n < 0 ∨ 64 < n then 2 else 3, f)
def oB (N f t : Nat) (n : Int) : Nat × Int × Nat := if okN f t n then (N / 2 ^ (t - n.toNat) % 2 ^ n.toNat, 0, t - n.toNat) else (0, if n < 0 ∨ 64 < n then 2 else 14, t)
def pk (N f t c : Nat) : Nat := N / 2 ^ (t - min c (t - f)) % 2 ^ (min c (t - f)) * 2 ^ (c - min c (t - f))

section
variable {w : World} {lo hi g : Nat} {T : TypeId} {bs : List Nat} {f t : Nat}
theorem ftake_out (h : Rdr w lo hi g T bs f t) (n : Int) :
    Calls Try.prog 21 #[.pointer (some ⟨g, 0, none⟩), .int .i64 n] w fun e w' =>
      e = .returned (.tuple #[.int .u64 (((oF (leN bs) f t n).1 : Nat) : Int), .int .i64 (oF (leN bs) f t n).2.1]) ∧ Rdr w' lo hi g T bs (oF (leN bs) f t n).2.2 t ∧ Chg (fun k => k = g) w w' := by
  by_cases hb : n < 0 ∨ (0 ≤ n ∧ 64 < n)
  · have e : oF (leN bs) f t n = (0, 2, f) := by
      unfold oF okN
      rw [if_neg (by simp; omega), if_pos (by omega)]
    rw [e]
    have h0 := h
    obtain ⟨A, m, c, hr, h1, h2, h3, h4⟩ := h
    exact (ftake_bad w n hb).mono fun e w' ⟨he, k, hk⟩ => ⟨he, hk ▸ h0.drewN k, hk ▸ (Chg.refl _ w).drewN k⟩
  · obtain ⟨k, rfl⟩ := Int.eq_ofNat_of_zero_le (show 0 ≤ n by omega)
    by_cases ht : f + k ≤ t
    · have e : oF (leN bs) f t k = (leN bs / 2 ^ f % 2 ^ k, 0, f + k) := by
        unfold oF okN
        rw [if_pos (by simp; omega)]
        simp
      have e' : oF (leN bs) f t ((k : Nat) : Int) = (leN bs / 2 ^ f % 2 ^ k, 0, f + k) := e
      rw [e']
      exact ftake_good h k (by simp at hb; omega) ht
    · have e : oF (leN bs) f t ((k : Nat) : Int) = (0, 3, f) := by
        unfold oF okN
        rw [if_neg (by simp; omega), if_neg (by simp at hb ⊢; omega)]
      rw [e]
      exact ftake_few h k (by simp at hb; omega) (by omega)
theorem btake_out (h : Rdr w lo hi g T bs f t) (n : Int) :
    Calls Try.prog 18 #[.pointer (some ⟨g, 0, none⟩), .int .i64 n] w fun e w' =>
      e = .returned (.tuple #[.int .u64 (((oB (leN bs) f t n).1 : Nat) : Int), .int .i64 (oB (leN bs) f t n).2.1]) ∧ Rdr w' lo hi g T bs f (oB (leN bs) f t n).2.2 ∧ Chg (fun k => k = g) w w' := by
  by_cases hb : n < 0 ∨ (0 ≤ n ∧ 64 < n)
  · have e : oB (leN bs) f t n = (0, 2, t) := by
      unfold oB okN
      rw [if_neg (by simp; omega), if_pos (by omega)]
    rw [e]
    have h0 := h
    obtain ⟨A, m, c, hr, h1, h2, h3, h4⟩ := h
    exact (btake_bad w n hb).mono fun e w' ⟨he, k, hk⟩ => ⟨he, hk ▸ h0.drewN k, hk ▸ (Chg.refl _ w).drewN k⟩
  · obtain ⟨k, rfl⟩ := Int.eq_ofNat_of_zero_le (show 0 ≤ n by omega)
    by_cases ht : f + k ≤ t
    · have e : oB (leN bs) f t ((k : Nat) : Int) = (leN bs / 2 ^ (t - k) % 2 ^ k, 0, t - k) := by
        unfold oB okN
        rw [if_pos (by simp; omega)]
        simp
      rw [e]
      exact btake_good h k (t - k) (by simp at hb; omega) (by omega) (by omega)
    · have e : oB (leN bs) f t ((k : Nat) : Int) = (0, 14, t) := by
        unfold oB okN
        rw [if_neg (by simp; omega), if_neg (by simp at hb ⊢; omega)]
      rw [e]
      exact btake_few h k (by simp at hb; omega) (by omega)
theorem bskip_out (h : Rdr w lo hi g T bs f t) (n : Int) :
    Calls Try.prog 17 #[.pointer (some ⟨g, 0, none⟩), .int .i64 n] w fun e w' =>
      e = .returned (.int .i64 (oB (leN bs) f t n).2.1) ∧ Rdr w' lo hi g T bs f (oB (leN bs) f t n).2.2 ∧ Chg (fun k => k = g) w w' := by
  have h0 := h
  obtain ⟨A, m, c, hr, h1, h2, h3, h4⟩ := h
  by_cases hb : n < 0 ∨ (0 ≤ n ∧ 64 < n)
  · have e : oB (leN bs) f t n = (0, 2, t) := by
      unfold oB okN
      rw [if_neg (by simp; omega), if_pos (by omega)]
    rw [e]
    exact (bskip_bad w n hb).mono fun e w' ⟨he, k, hk⟩ => ⟨he, hk ▸ h0.drewN k, hk ▸ (Chg.refl _ w).drewN k⟩
  · obtain ⟨k, rfl⟩ := Int.eq_ofNat_of_zero_le (show 0 ≤ n by omega)
    by_cases ht : f + k ≤ t
    · have e : oB (leN bs) f t ((k : Nat) : Int) = (leN bs / 2 ^ (t - k) % 2 ^ k, 0, t - k) := by
        unfold oB okN
        rw [if_pos (by simp; omega)]
        simp
      rw [e]
      exact (bskip_ok w hr k (by simp at hb; omega) (show t - k + k = t by omega) (by omega)).mono fun e w' ⟨he, hr', hc⟩ => ⟨he, ⟨A, m, c, hr', h1, h2, Nat.le_trans h3 hc.size, h4⟩, hc⟩
    · have e : oB (leN bs) f t ((k : Nat) : Int) = (0, 14, t) := by
        unfold oB okN
        rw [if_neg (by simp; omega), if_neg (by simp at hb ⊢; omega)]
      rw [e]
      exact (bskip_short w hr k (by simp at hb; omega) (by omega)).mono fun e w' ⟨he, k, hk⟩ => ⟨he, hk ▸ h0.drewN k, hk ▸ (Chg.refl _ w).drewN k⟩
theorem bpeek_out (h : Rdr w lo hi g T bs f t) (k : Nat) (hk : k ≤ 64) :
    Calls Try.prog 14 #[.pointer (some ⟨g, 0, none⟩), .int .i64 k] w fun e w' =>
      e = .returned (.int .u64 ((pk (leN bs) f t k : Nat) : Int)) ∧ Below w.heap.size w w' := by
  have hb := h.bounds
  by_cases ht : f + k ≤ t
  · have e : pk (leN bs) f t k = leN bs / 2 ^ (t - k) % 2 ^ k := by
      unfold pk
      rw [Nat.min_eq_left (by omega)]
      simp
    rw [e]
    exact bpeek_all h k (t - k) hk (by omega) (by omega)
  · have e : pk (leN bs) f t k = leN bs / 2 ^ f % 2 ^ (t - f) * 2 ^ (k - (t - f)) := by
      unfold pk
      rw [Nat.min_eq_right (by omega), show t - (t - f) = f by omega]
    rw [e]
    exact bpeek_few h k (t - f) (k - (t - f)) hk (by omega) (by omega) (by omega)
end

theorem newb_nil (A : Option Addr) (n c : Nat) (bs : List Nat) (w : World) (hr : Reads w w.heap.size 1 A n (u8s bs)) (hn : n = bs.length) (h0 : bs.getLastD 0 = 0) (hm : n ≤ 1000000000) :
    Calls Try.prog 12 #[.slice A n c] w fun e w' => e = .returned (.tuple #[.pointer none, .int .i64 14]) ∧ Below w.heap.size w w' :=
  (newb_bad A n c bs w hr hn h0 hm).mono fun e w' ⟨h1, h2⟩ => ⟨h1, below_of_drewN h2⟩
end Go.Proofs.Ytifolinoadllbaa
