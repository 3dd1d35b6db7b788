/- Readers of bits, bundled; portmanteaulaw03.took. -/
import Derived.Test.YtifolinoadllbaaInN
namespace Go.Proofs.Ytifolinoadllbaa
open Go.RowKit
set_option linter.unusedVariables false

/-- A reader whose blocks lie in lo .. hi-1. -/
def Rdr (w : World) (lo hi g : Nat) (T : TypeId) (bs : List Nat) (f t : Nat) : Prop :=
  ∃ A m c, Rd w g T A m c bs f t ∧ lo ≤ g ∧ g < hi ∧ hi ≤ w.heap.size ∧ ∀ ad, A = some ad → lo ≤ ad.block ∧ ad.block < g

theorem Rdr.chg {S : Nat → Prop} {w w' : World} {lo hi g : Nat} {T : TypeId} {bs : List Nat} {f t : Nat} (h : Rdr w lo hi g T bs f t) (hc : Chg S w w') (hS : ∀ b, S b → b < lo ∨ hi ≤ b) : Rdr w' lo hi g T bs f t := by
  obtain ⟨A, m, c, hr, h1, h2, h3, h4⟩ := h
  refine ⟨A, m, c, hr.chg hc (fun hs => by have := hS _ hs; omega) (fun ad ha hs => by have := hS _ hs; have := h4 ad ha; omega), h1, h2, Nat.le_trans h3 hc.size, h4⟩
theorem Rdr.below {w w' : World} {lo hi g : Nat} {T : TypeId} {bs : List Nat} {f t : Nat} (h : Rdr w lo hi g T bs f t) (hb : Below w.heap.size w w') : Rdr w' lo hi g T bs f t :=
  h.chg (S := fun _ => False) (.of_below hb) (fun _ h => h.elim)
theorem Rdr.drewN {w : World} {lo hi g : Nat} {T : TypeId} {bs : List Nat} {f t : Nat} (h : Rdr w lo hi g T bs f t) (k : Nat) : Rdr (w.drewN k) lo hi g T bs f t :=
  h.below (below_drewN (Below.refl _ _) _)
theorem Rdr.set {w w' : World} {lo hi g : Nat} {T : TypeId} {bs : List Nat} {f t f' t' : Nat} (h : Rdr w lo hi g T bs f t) (hs : w.heap.size ≤ w'.heap.size)
    (hr : ∀ A m c, Rd w g T A m c bs f t → Rd w' g T A m c bs f' t') : Rdr w' lo hi g T bs f' t' := by
  obtain ⟨A, m, c, hr0, h1, h2, h3, h4⟩ := h
  exact ⟨A, m, c, hr A m c hr0, h1, h2, Nat.le_trans h3 hs, h4⟩
theorem Rdr.low {w : World} {lo lo' hi g : Nat} {T : TypeId} {bs : List Nat} {f t : Nat} (h : Rdr w lo hi g T bs f t) (hl : lo' ≤ lo) : Rdr w lo' hi g T bs f t := by
  obtain ⟨A, m, c, hr0, h1, h2, h3, h4⟩ := h
  exact ⟨A, m, c, hr0, Nat.le_trans hl h1, h2, h3, fun ad ha => ⟨Nat.le_trans hl (h4 ad ha).1, (h4 ad ha).2⟩⟩
theorem Rdr.lt {w : World} {lo hi g : Nat} {T : TypeId} {bs : List Nat} {f t : Nat} (h : Rdr w lo hi g T bs f t) : lo ≤ g ∧ g < hi ∧ hi ≤ w.heap.size := by
  obtain ⟨A, m, c, hr0, h1, h2, h3, h4⟩ := h
  exact ⟨h1, h2, h3⟩
theorem Rdr.bounds {w : World} {lo hi g : Nat} {T : TypeId} {bs : List Nat} {f t : Nat} (h : Rdr w lo hi g T bs f t) : f ≤ t ∧ t ≤ 8 * bs.length ∧ bs.length ≤ 10000000000 := by
  obtain ⟨A, m, c, hr0, h1, h2, h3, h4⟩ := h
  have := hr0.le; have := hr0.top; have := hr0.len; have := hr0.small
  omega

section
variable {w : World} {lo hi g : Nat} {T : TypeId} {bs : List Nat} {f t : Nat}
theorem ftake_good (h : Rdr w lo hi g T bs f t) (n : Nat) (h64 : n ≤ 64) (hs : f + n ≤ t) :
    Calls Try.prog 21 #[.pointer (some ⟨g, 0, none⟩), .int .i64 n] w fun e w' =>
      e = .returned (.tuple #[.int .u64 ((leN bs / 2 ^ f % 2 ^ n : Nat) : Int), .int .i64 0]) ∧ Rdr w' lo hi g T bs (f + n) t ∧ Chg (fun k => k = g) w w' := by
  obtain ⟨A, m, c, hr, h1, h2, h3, h4⟩ := h
  exact (ftake_ok w hr n h64 hs).mono fun e w' ⟨he, hr', hc⟩ => ⟨he, ⟨A, m, c, hr', h1, h2, Nat.le_trans h3 hc.size, h4⟩, hc⟩
theorem ftake_few (h : Rdr w lo hi g T bs f t) (n : Nat) (h64 : n ≤ 64) (hs : t < f + n) :
    Calls Try.prog 21 #[.pointer (some ⟨g, 0, none⟩), .int .i64 n] w fun e w' =>
      e = .returned (.tuple #[.int .u64 0, .int .i64 3]) ∧ Rdr w' lo hi g T bs f t ∧ Chg (fun k => k = g) w w' := by
  have h0 := h
  obtain ⟨A, m, c, hr, h1, h2, h3, h4⟩ := h
  exact (ftake_short w hr n h64 hs).mono fun e w' ⟨he, k, hk⟩ => ⟨he, hk ▸ h0.drewN k, hk ▸ (Chg.refl _ w).drewN k⟩
theorem btake_good (h : Rdr w lo hi g T bs f t) (n t' : Nat) (h64 : n ≤ 64) (ht : t' + n = t) (hs : f ≤ t') :
    Calls Try.prog 18 #[.pointer (some ⟨g, 0, none⟩), .int .i64 n] w fun e w' =>
      e = .returned (.tuple #[.int .u64 ((leN bs / 2 ^ t' % 2 ^ n : Nat) : Int), .int .i64 0]) ∧ Rdr w' lo hi g T bs f t' ∧ Chg (fun k => k = g) w w' := by
  obtain ⟨A, m, c, hr, h1, h2, h3, h4⟩ := h
  exact (btake_ok w hr n h64 ht hs).mono fun e w' ⟨he, hr', hc⟩ => ⟨he, ⟨A, m, c, hr', h1, h2, Nat.le_trans h3 hc.size, h4⟩, hc⟩
theorem btake_few (h : Rdr w lo hi g T bs f t) (n : Nat) (h64 : n ≤ 64) (hs : t < f + n) :
    Calls Try.prog 18 #[.pointer (some ⟨g, 0, none⟩), .int .i64 n] w fun e w' =>
      e = .returned (.tuple #[.int .u64 0, .int .i64 14]) ∧ Rdr w' lo hi g T bs f t ∧ Chg (fun k => k = g) w w' := by
  have h0 := h
  obtain ⟨A, m, c, hr, h1, h2, h3, h4⟩ := h
  exact (btake_short w hr n h64 hs).mono fun e w' ⟨he, k, hk⟩ => ⟨he, hk ▸ h0.drewN k, hk ▸ (Chg.refl _ w).drewN k⟩
theorem bpeek_all (h : Rdr w lo hi g T bs f t) (k to_ : Nat) (hk64 : k ≤ 64) (hf : f ≤ to_) (ht : to_ + k = t) :
    Calls Try.prog 14 #[.pointer (some ⟨g, 0, none⟩), .int .i64 k] w fun e w' =>
      e = .returned (.int .u64 ((leN bs / 2 ^ to_ % 2 ^ k : Nat) : Int)) ∧ Below w.heap.size w w' := by
  obtain ⟨A, m, c, hr, h1, h2, h3, h4⟩ := h
  exact bpeek_full w hr hk64 hf ht
theorem bpeek_few (h : Rdr w lo hi g T bs f t) (k has d : Nat) (hk64 : k ≤ 64) (hh : f + has = t) (hlt : has < k) (hd : d + has = k) :
    Calls Try.prog 14 #[.pointer (some ⟨g, 0, none⟩), .int .i64 k] w fun e w' =>
      e = .returned (.int .u64 ((leN bs / 2 ^ f % 2 ^ has * 2 ^ d : Nat) : Int)) ∧ Below w.heap.size w w' := by
  obtain ⟨A, m, c, hr, h1, h2, h3, h4⟩ := h
  exact bpeek_part w hr hk64 hh hlt hd
theorem bleft_of (h : Rdr w lo hi g T bs f t) :
    Calls Try.prog 19 #[.pointer (some ⟨g, 0, none⟩)] w fun e w' => e = .returned (.int .i64 ((t - f : Nat) : Int)) ∧ ∃ k, w' = w.drewN k := by
  obtain ⟨A, m, c, hr, h1, h2, h3, h4⟩ := h
  exact bleft_any w hr
theorem fleft_of (h : Rdr w lo hi g T bs f t) :
    Calls Try.prog 28 #[.pointer (some ⟨g, 0, none⟩)] w fun e w' => e = .returned (.int .i64 ((t - f : Nat) : Int)) ∧ ∃ k, w' = w.drewN k := by
  obtain ⟨A, m, c, hr, h1, h2, h3, h4⟩ := h
  exact fleft_any w hr
theorem fat_of (h : Rdr w lo hi g T bs f t) :
    Calls Try.prog 27 #[.pointer (some ⟨g, 0, none⟩)] w fun e w' => e = .returned (.int .i64 f) ∧ ∃ k, w' = w.drewN k := by
  obtain ⟨A, m, c, hr, h1, h2, h3, h4⟩ := h
  exact fat_any w hr
theorem below_of_drewN {w w' : World} (h : ∃ k, w' = w.drewN k) : Below w.heap.size w w' := by
  obtain ⟨k, rfl⟩ := h
  exact below_drewN (Below.refl _ _) _
theorem bleft_below (h : Rdr w lo hi g T bs f t) :
    Calls Try.prog 19 #[.pointer (some ⟨g, 0, none⟩)] w fun e w' => e = .returned (.int .i64 ((t - f : Nat) : Int)) ∧ Below w.heap.size w w' :=
  (bleft_of h).mono fun _ _ ⟨h1, h2⟩ => ⟨h1, below_of_drewN h2⟩
theorem fleft_below (h : Rdr w lo hi g T bs f t) :
    Calls Try.prog 28 #[.pointer (some ⟨g, 0, none⟩)] w fun e w' => e = .returned (.int .i64 ((t - f : Nat) : Int)) ∧ Below w.heap.size w w' :=
  (fleft_of h).mono fun _ _ ⟨h1, h2⟩ => ⟨h1, below_of_drewN h2⟩
theorem fat_below (h : Rdr w lo hi g T bs f t) :
    Calls Try.prog 27 #[.pointer (some ⟨g, 0, none⟩)] w fun e w' => e = .returned (.int .i64 f) ∧ Below w.heap.size w w' :=
  (fat_of h).mono fun _ _ ⟨h1, h2⟩ => ⟨h1, below_of_drewN h2⟩
end

theorem newf_of (A : Option Addr) (n c : Nat) (bs : List Nat) (w : World) (hr : Reads w w.heap.size 1 A n (u8s bs)) (h8 : ∀ x ∈ bs, x < 256) (hn : n = bs.length) (hm : n ≤ 1000000000) :
    Calls Try.prog 20 #[.slice A n c] w fun e w' => ∃ g, e = .returned (.pointer (some ⟨g, 0, none⟩)) ∧ Rdr w' w.heap.size w'.heap.size g 57 bs 0 (8 * n) ∧ Below w.heap.size w w' :=
  (newf_any A n c bs w hr h8 hn hm).mono fun e w' ⟨g, A1, c1, he, hr1, h1, h2, h3⟩ => ⟨g, he, ⟨A1, n, c1, hr1, h1, lt_of_heap hr1.row, Nat.le_refl _, h2⟩, h3⟩

theorem newb_of (A : Option Addr) (n c : Nat) (bs : List Nat) (w : World) (hr : Reads w w.heap.size 1 A n (u8s bs)) (h8 : ∀ x ∈ bs, x < 256) (hn : n = bs.length) (h0 : bs.getLastD 0 ≠ 0) (hm : n ≤ 1000000000) {T : Nat} (hT : T + 9 = 8 * n + Lib.bitLen (bs.getLastD 0)) :
    Calls Try.prog 12 #[.slice A n c] w fun e w' => ∃ g, e = .returned (.tuple #[.pointer (some ⟨g, 0, none⟩), .int .i64 0]) ∧ Rdr w' w.heap.size w'.heap.size g 58 bs 0 T ∧ Below w.heap.size w w' :=
  (newb_ok A n c bs w hr h8 hn h0 hm hT).mono fun e w' ⟨g, A1, c1, he, hr1, h1, h2, h3⟩ => ⟨g, he, ⟨A1, n, c1, hr1, h1, lt_of_heap hr1.row, Nat.le_refl _, h2⟩, h3⟩

set_option maxHeartbeats 400000 in
theorem took_any (v e u f : Int) (w : World) :
    Calls Try.prog 22 #[.int .u64 v, .int .i64 e, .int .u64 u, .int .i64 f] w fun r w' => r = .returned (.bool (v == u && e == f)) ∧ w' = w := by
  go_enter Try.func22, Try.ntmps22
  go_wp2
  all_goals
    go_ret
    exact ⟨ret_bool (by simp [*]), rfl⟩
end Go.Proofs.Ytifolinoadllbaa
