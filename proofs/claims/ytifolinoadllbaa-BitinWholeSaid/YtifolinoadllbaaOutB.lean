/- The rest of package bitout walked: refusals, Len, Bytes, Close, slices.Clone. -/
import Derived.Test.YtifolinoadllbaaOutPutW
import Derived.WalkSpells
namespace Go.Proofs.Ytifolinoadllbaa
open Go.RowKit
set_option linter.unusedVariables false

set_option maxHeartbeats 400000 in
theorem put_nil (x m : Int) (w : World) :
    Calls Try.prog 29 #[.pointer none, .int .u64 x, .int .i64 m] w fun e w' => e = .returned (.int .i64 1) ∧ w = w' := by
  go_enter Try.func29, Try.ntmps29
  go_wp2
  go_ret
  exact ⟨rfl, rfl⟩

set_option maxHeartbeats 400000 in
theorem put_bad (g : Nat) (x m : Int) (w : World) (h : m < 0 ∨ (0 ≤ m ∧ 64 < m) ∨ (0 ≤ m ∧ m < 64 ∧ (x / 2 ^ m.toNat != 0) = true)) (hx : 0 ≤ x) (hx' : x < 18446744073709551616) :
    Calls Try.prog 29 #[.pointer (some ⟨g, 0, none⟩), .int .u64 x, .int .i64 m] w fun e w' => e = .returned (.int .i64 2) ∧ w = w' := by
  rcases h with h | ⟨h0, h⟩ | ⟨h0, h1, h2⟩
  · go_enter Try.func29, Try.ntmps29
    go_wp2
    go_ret
    exact ⟨rfl, rfl⟩
  · go_enter Try.func29, Try.ntmps29
    go_wp2
    go_ret
    exact ⟨rfl, rfl⟩
  · go_enter Try.func29, Try.ntmps29
    go_wp2
    go_ret
    exact ⟨rfl, rfl⟩

set_option maxHeartbeats 400000 in
theorem len_nil (w : World) :
    Calls Try.prog 32 #[.pointer none] w fun e w' => e = .returned (.int .i64 0) ∧ w = w' := by
  go_enter Try.func32, Try.ntmps32
  go_wp2
  go_ret
  exact ⟨rfl, rfl⟩

set_option maxHeartbeats 400000 in
theorem len_any {B g : Nat} {F : Option Nat} {bs : List Nat} {v n : Nat} (w : World) (h : WrR w B g F bs v n) (hl : bs.length ≤ 1000000000) :
    Calls Try.prog 32 #[.pointer (some ⟨g, 0, none⟩)] w fun e w' => e = .returned (.int .i64 ((8 * bs.length + n : Nat) : Int)) ∧ ∃ k, w' = w.drewN k := by
  obtain ⟨A, c, a1, a2, a3, a4, a5, a6, a7⟩ := h
  have k1 := cell_blk a1 1
  have k2 := cell_blk a1 2
  simp only [List.getElem?_toArray, List.getElem?_cons_zero, List.getElem?_cons_succ] at k1 k2
  clear a1 a2 a3 a4 a5 a6
  obtain ⟨N, hN⟩ : ∃ N, N = bs.length := ⟨_, rfl⟩
  rw [← hN] at k2 hl
  have HN := hide hN
  clear hN
  go_enter Try.func32, Try.ntmps32
  go_wp2
  go_quiet (fail)
  go_wp2
  go_ret
  exact ⟨ret_int (by rw [← HN.out]; simp), _, rfl⟩

/-! ### slices.Clone -/
theorem own_empty (w : World) (e : TypeId) (B : Nat) (hB : B ≤ w.heap.size) : (w.alloc (.cells #[] e)).ownsRow B e 1 (.slice (some ⟨w.heap.size, 0, none⟩) 0 0) 0 [] :=
  World.ownsRow_made w #[] 0 hB (by unfold maxLen; omega) (by simp)

set_option maxHeartbeats 400000 in
theorem clone_any (A : Option Addr) (n c : Nat) (xs : List Value) (w : World) (hr : Reads w w.heap.size 1 A n xs) (h1 : ∀ u ∈ xs, u.oneCell' = true) (hn : n ≤ 1000000000000) :
    Calls Try.prog 33 #[.slice A n c] w fun e w' => ∃ v, e = .returned v ∧ w'.ownsRow w.heap.size 5 1 v n xs ∧ Below w.heap.size w w' := by
  obtain ⟨i0, hi, hz0, hz1, hz2⟩ := info_parts info_u8
  rcases A with _ | a
  · have hn0 : n = 0 := by
      rcases Nat.eq_zero_or_pos n with h0 | h0
      · exact h0
      · obtain ⟨ad, h, _⟩ := hr.2 h0; cases h
    have hx : xs = [] := List.eq_nil_of_length_eq_zero (by rw [hr.1, hn0])
    clear hr h1
    subst hn0 hx
    have heq := fun w => Lib.run_eql_slice_nil (P := Try.prog) w 22 5 none 0 c 0 0 Try.underlying22
    go_enter Try.func33, Try.ntmps33
    go_wp2
    go_ret
    exact ⟨_, rfl, World.ownsRow_nil _ _ _ _, Below.refl _ _⟩
  · have heq := fun w => Lib.run_eql_slice_nil (P := Try.prog) w 22 5 (some a) n c 0 0 Try.underlying22
    have hown := own_empty w 5 w.heap.size (Nat.le_refl _)
    have hr' := hr.alloc (Nat.le_refl _) (.cells #[] 5)
    have HO := hide hown
    have HR := hide hr'
    have H1 := hide h1
    clear hown hr hr' h1
    go_enter Try.func33, Try.ntmps33
    go_wp2_with (at_builtin; refine wpList_append_any _ rfl (.tmp 5) (.tmp 6) _ rfl w.heap.size 5 i0 _ 1 1 Try.underlying22 hi hz0 hz1 hz2 rfl (by omega) (.slice (some ⟨w.heap.size, 0, none⟩) 0 0) 0 _ rfl HO.out w.heap.size (some a) n c xs rfl HR.out H1.out (by unfold maxLen; omega) (by omega) (by simp) ?_; intro v' w3 hown hg3 hat)
    go_ret
    refine ⟨_, rfl, by simpa using hown, ?_⟩
    exact (Chg.grown ((Chg.refl (fun _ => False) w).alloc _) hg3 (fun k hk => .inr (by simp [Value.ownBlock] at hk; omega))).keep

/-! ### Bytes -/
def tailBytes (v n : Nat) : List Nat := if 0 < n then [v] else []

theorem bytes_nil (w : World) :
    Calls Try.prog 30 #[.pointer none] w fun e w' => e = .returned (.slice none 0 0) ∧ w = w' := by
  go_enter Try.func30, Try.ntmps30
  go_wp2
  go_ret
  exact ⟨rfl, rfl⟩

theorem u8s_one (bs : List Nat) : ∀ u ∈ bs.map (fun b : Nat => Value.int .u8 (b : Int)), u.oneCell' = true := by
  intro u hu
  obtain ⟨b, _, rfl⟩ := List.mem_map.1 hu
  rfl

def u8s (bs : List Nat) : List Value := bs.map fun b : Nat => Value.int .u8 (b : Int)

set_option maxHeartbeats 1000000 in
theorem bytes_raw {B g : Nat} {F : Option Nat} {bs : List Nat} {v n : Nat} (w : World) (h : WrR w B g F bs v n) (hn : n < 8) (hl : bs.length ≤ 1000000000) :
    Calls Try.prog 30 #[.pointer (some ⟨g, 0, none⟩)] w fun e w' => ∃ u, e = .returned u ∧ w'.ownsRow w.heap.size 5 1 u (bs ++ tailBytes v n).length (u8s (bs ++ tailBytes v n)) ∧ Below w.heap.size w w' := by
  obtain ⟨i0, hi, hz0, hz1, hz2⟩ := info_parts info_u8
  have hgw := h.lt
  obtain ⟨A, c, a1, a2, a3, a4, a5, a6, a7⟩ := h
  have k0 := cell_blk a1 0
  have k1 := cell_blk a1 1
  have k2 := cell_blk a1 2
  simp only [List.getElem?_toArray, List.getElem?_cons_zero, List.getElem?_cons_succ] at k0 k1 k2
  have hv256 : v < 256 := Nat.lt_of_lt_of_le a6 (Nat.pow_le_pow_right (by omega) (by omega : n ≤ 8))
  have hrd := Reads.of_own a3
  have hcl := clone_any A bs.length c _ w hrd (u8s_one bs) (by omega)
  have HCL := hide hcl
  clear hcl hrd a1 a2 a3 a4 a5 a6
  by_cases hn0 : 0 < n
  · go_enter Try.func30, Try.ntmps30
    go_wp2_with (first
      | (go_at_call 33; refine HCL.out.mono ?_; rintro e w1 ⟨u, rfl, hown, hb⟩; have j0 := (hb.cell (p := ⟨g, 0, none⟩) hgw).trans k0; have j1 := (hb.cell (p := ⟨g, 1, none⟩) hgw).trans k1; have hsz := hb.size; have HBL := hide hb; clear hb)
      | (at_builtin; refine wpList_append_any _ rfl (.tmp 17) (.tmp 24) _ rfl w.heap.size 5 i0 _ 1 1 Try.underlying22 hi hz0 hz1 hz2 rfl (by omega) u bs.length _ rfl (hown.alloc _) (w1.heap.size + 1) (some ⟨w1.heap.size, 0, none⟩) 1 1 [.int .u8 (v : Int)] rfl (reads_new w1 _ _) (by simp [Value.oneCell']) (by unfold maxLen; omega) (by omega) (by simp; omega) ?_; intro v' w3 hown3 hg3 hat))
    go_ret
    have hlu := hown.lt
    refine ⟨_, rfl, by simpa [u8s, tailBytes, hn0] using hown3, ?_⟩
    exact (Chg.grown ((Chg.of_below (S := fun _ => False) HBL.out).alloc _) hg3 (fun k hk => .inr (hlu k hk).1)).keep
  · go_enter Try.func30, Try.ntmps30
    go_wp2_with (go_at_call 33; refine HCL.out.mono ?_; rintro e w1 ⟨u, rfl, hown, hb⟩; have j0 := (hb.cell (p := ⟨g, 0, none⟩) hgw).trans k0; have j1 := (hb.cell (p := ⟨g, 1, none⟩) hgw).trans k1; have HBL := hide hb; clear hb)
    go_ret
    refine ⟨_, rfl, by simpa [u8s, tailBytes, hn0] using hown, HBL.out⟩
end Go.Proofs.Ytifolinoadllbaa
