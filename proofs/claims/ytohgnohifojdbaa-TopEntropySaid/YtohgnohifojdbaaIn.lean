/- Package bitin walked: row.left, row.may, row.value. -/
import Derived.Test.YtohgnohifojdbaaChecked
import Derived.Test.YtohgnohifojdbaaOutM
namespace Go.Proofs.Ytohgnohifojdbaa
set_option maxRecDepth 8000
open Go.RowKit
set_option linter.unusedVariables false

/-- A row lies in block g (of whatever struct): its bytes' slice, from, to. -/
def RowAt (w : World) (g : Nat) (T : TypeId) (A : Option Addr) (n c : Nat) (from_ to_ : Int) : Prop :=
  w.heap[g]? = some (.cells #[.slice A n c, .int .i64 from_, .int .i64 to_] T (0, 0))

theorem RowAt.cells {w : World} {g : Nat} {T : TypeId} {A : Option Addr} {n c : Nat} {f t : Int} (h : RowAt w g T A n c f t) :
    w.cell? ⟨g, 0, none⟩ = some (.slice A n c) ∧ w.cell? ⟨g, 1, none⟩ = some (.int .i64 f) ∧ w.cell? ⟨g, 2, none⟩ = some (.int .i64 t) := by
  refine ⟨(cell_blk h 0).trans rfl, (cell_blk h 1).trans rfl, (cell_blk h 2).trans rfl⟩

set_option maxHeartbeats 400000 in
theorem left_any {g : Nat} {T : TypeId} {A : Option Addr} {n c : Nat} {f t : Int} (w : World) (h : RowAt w g T A n c f t) (hf : 0 ≤ f) (hft : f ≤ t) (ht : t ≤ 100000000000) :
    Calls Try.prog 65 #[.pointer (some ⟨g, 0, none⟩)] w fun e w' => e = .returned (.int .i64 (t - f)) ∧ ∃ k, w' = w.drewN k := by
  obtain ⟨k0, k1, k2⟩ := h.cells
  clear h
  go_enter Try.func65, Try.ntmps65
  go_wp2
  go_quiet (fail)
  go_wp2
  go_ret
  exact ⟨rfl, _, rfl⟩

set_option maxHeartbeats 400000 in
theorem may_bad {g : Nat} (w : World) (n s : Int) (h : n < 0 ∨ (0 ≤ n ∧ 64 < n)) :
    Calls Try.prog 71 #[.pointer (some ⟨g, 0, none⟩), .int .i64 n, .int .i64 s] w fun e w' => e = .returned (.int .i64 2) ∧ ∃ k, w' = w.drewN k := by
  rcases h with h | ⟨h0, h⟩
  all_goals
    go_enter Try.func71, Try.ntmps71
    go_wp2
    go_ret
    exact ⟨rfl, 0, rfl⟩

set_option maxHeartbeats 400000 in
theorem may_short {g : Nat} {T : TypeId} {A : Option Addr} {m c : Nat} {f t : Int} (w : World) (n s : Int) (h : RowAt w g T A m c f t) (hf : 0 ≤ f) (hft : f ≤ t) (ht : t ≤ 100000000000) (h0 : 0 ≤ n) (h64 : n ≤ 64) (hs : t - f < n) :
    Calls Try.prog 71 #[.pointer (some ⟨g, 0, none⟩), .int .i64 n, .int .i64 s] w fun e w' => e = .returned (.int .i64 s) ∧ ∃ k, w' = w.drewN k := by
  have HL := hide (left_any w h hf hft ht)
  clear h
  go_enter Try.func71, Try.ntmps71
  go_wp2_with (go_at_call 65; refine HL.out.mono ?_; rintro e w1 ⟨rfl, k, rfl⟩)
  go_ret
  exact ⟨rfl, k, rfl⟩

set_option maxHeartbeats 400000 in
theorem may_ok {g : Nat} {T : TypeId} {A : Option Addr} {m c : Nat} {f t : Int} (w : World) (n s : Int) (h : RowAt w g T A m c f t) (hf : 0 ≤ f) (hft : f ≤ t) (ht : t ≤ 100000000000) (h0 : 0 ≤ n) (h64 : n ≤ 64) (hs : n ≤ t - f) :
    Calls Try.prog 71 #[.pointer (some ⟨g, 0, none⟩), .int .i64 n, .int .i64 s] w fun e w' => e = .returned (.int .i64 0) ∧ ∃ k, w' = w.drewN k := by
  have HL := hide (left_any w h hf hft ht)
  clear h
  go_enter Try.func71, Try.ntmps71
  go_wp2_with (go_at_call 65; refine HL.out.mono ?_; rintro e w1 ⟨rfl, k, rfl⟩)
  go_ret
  exact ⟨rfl, k, rfl⟩

/-- One byte more: the closure of row.value. -/
theorem byte_num (N at_ got k : Nat) (hk : (at_ + got) % 8 + k ≤ 8) :
    N / 2 ^ at_ % 2 ^ got + N / 256 ^ ((at_ + got) / 8) % 256 / 2 ^ ((at_ + got) % 8) % 2 ^ k * 2 ^ got = N / 2 ^ at_ % 2 ^ (got + k) := by
  have h1 : N / 256 ^ ((at_ + got) / 8) % 256 / 2 ^ ((at_ + got) % 8) % 2 ^ k = N / 2 ^ (at_ + got) % 2 ^ k := by
    have e : at_ + got = 8 * ((at_ + got) / 8) + (at_ + got) % 8 := by omega
    generalize (at_ + got) / 8 = q at *
    generalize (at_ + got) % 8 = s at *
    rw [e, Nat.pow_add, ← pow_256, ← Nat.div_div_eq_div_mul]
    generalize N / 256 ^ q = M
    have h256 : 256 = 2 ^ s * 2 ^ (8 - s) := by rw [← Nat.pow_add, show s + (8 - s) = 8 from by omega]
    rw [h256, Nat.mod_mul_right_div_self, Nat.mod_mod_of_dvd]
    exact Nat.pow_dvd_pow 2 (by omega)
  rw [h1, Nat.pow_add, Nat.pow_add, Nat.mod_mul, Nat.div_div_eq_div_mul, Nat.mul_comm (2 ^ got)]
end Go.Proofs.Ytohgnohifojdbaa
