/- The reference model's Reader walked: First, Last. -/
import Derived.Test.YtifolinoadllbaaRfA
import Derived.Deep.RegionHeld3
import Derived.Deep.DrawnRows
namespace Go.Proofs.Ytifolinoadllbaa
open Go.RowKit
set_option linter.unusedVariables false

/-- A Reader of the model in block g: its unread bits L, how many it has read. -/
structure RfIn (w : World) (g : Nat) (A : Option Addr) (n c : Nat) (L : List Bool) (r : Nat) : Prop where
  row : w.heap[g]? = some (.cells #[.slice A n c, .int .i64 (r : Int)] 42 (0, 0))
  reads : Reads w w.heap.size 1 A n (bools L)
  len : n = L.length
  cap : n ≤ c
  far : ∀ ad, A = some ad → ad.block ≠ g
  read : r + n ≤ 100000000

theorem RfIn.cells {w : World} {g : Nat} {A : Option Addr} {n c : Nat} {L : List Bool} {r : Nat} (h : RfIn w g A n c L r) :
    w.cell? ⟨g, 0, none⟩ = some (.slice A n c) ∧ w.cell? ⟨g, 1, none⟩ = some (.int .i64 r) := ⟨(cell_blk h.row 0).trans rfl, (cell_blk h.row 1).trans rfl⟩

theorem bools_take (L : List Bool) (k : Nat) : (bools L).take (k * 1) = bools (L.take k) := by simp [bools, List.map_take]
theorem bools_drop (L : List Bool) (k : Nat) : (bools L).drop (k * 1) = bools (L.drop k) := by simp [bools, List.map_drop]

theorem RfIn.chg {S : Nat → Prop} {w w' : World} {g : Nat} {A : Option Addr} {n c : Nat} {L : List Bool} {r : Nat} (h : RfIn w g A n c L r) (hc : Chg S w w') (hg : ¬ S g) (hA : ∀ ad, A = some ad → ¬ S ad.block) : RfIn w' g A n c L r :=
  ⟨hc.heap h.row hg, (h.reads.chg hc (Nat.le_refl _) hA).more hc.size, h.len, h.cap, h.far, h.read⟩
theorem RfIn.drewN {w : World} {g : Nat} {A : Option Addr} {n c : Nat} {L : List Bool} {r : Nat} (h : RfIn w g A n c L r) (k : Nat) : RfIn (w.drewN k) g A n c L r := ⟨h.row, h.reads, h.len, h.cap, h.far, h.read⟩

theorem RfIn.drew {w : World} {g : Nat} {A : Option Addr} {n c : Nat} {L : List Bool} {r : Nat} (h : RfIn w g A n c L r) : RfIn w.drew g A n c L r := ⟨h.row, h.reads, h.len, h.cap, h.far, h.read⟩
theorem RfIn.set {w : World} {g : Nat} {A : Option Addr} {n c : Nat} {L : List Bool} {r : Nat} (h : RfIn w g A n c L r) {A' : Option Addr} {n' c' : Nat} {L' : List Bool} {r' : Nat} {z : Int}
    (hrd : Reads w w.heap.size 1 A' n' (bools L')) (hl : n' = L'.length) (hc : n' ≤ c') (hA : ∀ ad, A' = some ad → ∃ a0, A = some a0 ∧ ad.block = a0.block) (hr : r' + n' ≤ 100000000) (hz : z = (r' : Int)) :
    RfIn ((w.setCell ⟨g, 0, none⟩ (.slice A' n' c')).setCell ⟨g, 1, none⟩ (.int .i64 z)) g A' n' c' L' r' ∧
      Chg (fun k => k = g) w ((w.setCell ⟨g, 0, none⟩ (.slice A' n' c')).setCell ⟨g, 1, none⟩ (.int .i64 z)) := by
  subst hz
  have hch : Chg (fun k => k = g) w ((w.setCell ⟨g, 0, none⟩ (.slice A' n' c')).setCell ⟨g, 1, none⟩ (.int .i64 (r' : Int))) :=
    ((Chg.refl (fun k => k = g) w).setCell (p := ⟨g, 0, none⟩) (.inl rfl) _).setCell (p := ⟨g, 1, none⟩) (.inl rfl) _
  have hfar : ∀ ad, A' = some ad → ad.block ≠ g := by
    intro ad h1 h2
    obtain ⟨a0, h3, h4⟩ := hA ad h1
    exact h.far a0 h3 (h4 ▸ h2)
  refine ⟨⟨set_blk (set_blk h.row 0 _) 1 _, ?_, hl, hc, hfar, hr⟩, hch⟩
  exact (hrd.chg hch (Nat.le_refl _) (fun ad h1 h2 => hfar ad h1 h2)).more hch.size

theorem map_block {A : Option Addr} {k : Nat} : ∀ ad, A.map (fun x => x.add k) = some ad → ∃ a0, A = some a0 ∧ ad.block = a0.block := by
  intro ad h
  obtain ⟨a0, h1, h2⟩ := Option.map_eq_some_iff.1 h
  exact ⟨a0, h1, by rw [← h2, block_of_add]⟩
theorem same_block {A : Option Addr} : ∀ ad, A = some ad → ∃ a0, A = some a0 ∧ ad.block = a0.block := fun ad h => ⟨ad, h, rfl⟩

set_option maxHeartbeats 400000 in
theorem first_bad {g : Nat} (w : World) (n : Int) (h : n < 0 ∨ (0 ≤ n ∧ 64 < n)) :
    Calls Try.prog 26 #[.pointer (some ⟨g, 0, none⟩), .int .i64 n] w fun e w' => e = .returned (.tuple #[.int .u64 0, .int .i64 2]) ∧ w' = w := by
  rcases h with h | ⟨h0, h⟩
  all_goals
    go_enter Try.func26, Try.ntmps26
    go_wp2
    go_ret2
    exact ⟨rfl, rfl⟩
set_option maxHeartbeats 400000 in
theorem last_bad {g : Nat} (w : World) (n : Int) (h : n < 0 ∨ (0 ≤ n ∧ 64 < n)) :
    Calls Try.prog 16 #[.pointer (some ⟨g, 0, none⟩), .int .i64 n] w fun e w' => e = .returned (.tuple #[.int .u64 0, .int .i64 2]) ∧ w' = w := by
  rcases h with h | ⟨h0, h⟩
  all_goals
    go_enter Try.func16, Try.ntmps16
    go_wp2
    go_ret2
    exact ⟨rfl, rfl⟩
set_option maxHeartbeats 400000 in
theorem first_short {g c r m : Nat} {A : Option Addr} {L : List Bool} (w : World) (hr : RfIn w g A m c L r) (n : Nat) (h64 : n ≤ 64) (hs : m < n) :
    Calls Try.prog 26 #[.pointer (some ⟨g, 0, none⟩), .int .i64 n] w fun e w' => e = .returned (.tuple #[.int .u64 0, .int .i64 3]) ∧ w' = w := by
  obtain ⟨k0, k1⟩ := hr.cells
  have h1 : ¬ (n : Int) < 0 := by omega
  have h2 : ¬ (64 : Int) < (n : Int) := by omega
  have h3 : (m : Int) < (n : Int) := by omega
  clear hr k1 h64
  go_enter Try.func26, Try.ntmps26
  go_wp2
  go_ret2
  exact ⟨rfl, rfl⟩
set_option maxHeartbeats 400000 in
theorem last_short {g c r m : Nat} {A : Option Addr} {L : List Bool} (w : World) (hr : RfIn w g A m c L r) (n : Nat) (h64 : n ≤ 64) (hs : m < n) :
    Calls Try.prog 16 #[.pointer (some ⟨g, 0, none⟩), .int .i64 n] w fun e w' => e = .returned (.tuple #[.int .u64 0, .int .i64 14]) ∧ w' = w := by
  obtain ⟨k0, k1⟩ := hr.cells
  have h1 : ¬ (n : Int) < 0 := by omega
  have h2 : ¬ (64 : Int) < (n : Int) := by omega
  have h3 : (m : Int) < (n : Int) := by omega
  clear hr k1 h64
  go_enter Try.func16, Try.ntmps16
  go_wp2
  go_ret2
  exact ⟨rfl, rfl⟩

set_option maxHeartbeats 1000000 in
theorem first_ok {g c r m : Nat} {A : Option Addr} {L : List Bool} (w : World) (hr : RfIn w g A m c L r) (n : Nat) (h64 : n ≤ 64) (hs : n ≤ m) :
    Calls Try.prog 26 #[.pointer (some ⟨g, 0, none⟩), .int .i64 n] w fun e w' =>
      e = .returned (.tuple #[.int .u64 ((natOf (L.take n) : Nat) : Int), .int .i64 0]) ∧ (∃ A' c', RfIn w' g A' (m - n) c' (L.drop n) (r + n) ∧ ∀ ad, A' = some ad → ∃ a0, A = some a0 ∧ ad.block = a0.block) ∧ Chg (fun k => k = g) w w' := by
  have hcap := hr.cap
  have hrd := hr.read
  obtain ⟨k0, k1⟩ := hr.cells
  have kf0 := frozen_blk hr.row 0
  have kf1 := frozen_blk hr.row 1
  have hv := fun c' => value_of A n c' (L.take n) w (by rw [← bools_take]; exact hr.reads.head hs) (by rw [List.length_take, ← hr.len]; omega) h64
  have hcut := hr.reads.cut hs hr.cap
  rw [bools_drop] at hcut
  have HC := hide hcut
  have HLD := hide (show m - n = (L.drop n).length by rw [List.length_drop, ← hr.len])
  have HV := hide hv
  have HR := hide hr
  have hw1 : IntKind.i64.wrap ((r : Int) + (n : Int)) = (r : Int) + (n : Int) := IntWalk.i64_in _ (by omega)
  clear hr hv hcut
  go_enter Try.func26, Try.ntmps26
  go_wp2_with fail
  refine (HV.out _).mono ?_
  rintro e w1 ⟨rfl, rfl⟩
  clear HV
  by_cases hcn : c = n
  · have hmn : m = n := by omega
    have HC' := HC.out
    rw [if_pos hcn] at HC'
    have HD := hide HC'
    clear HC HC'
    go_wp2
    all_goals
      go_ret2
      have hx := HR.out.set (c' := c - n) HD.out HLD.out (by omega) same_block (r' := r + n) (z := (r : Int) + (n : Int)) (by omega) (by omega)
      refine ⟨rfl, ?_⟩
      simp only [hmn, hcn, Nat.sub_self] at hx ⊢
      exact ⟨⟨_, _, hx.1, same_block⟩, hx.2⟩
  · have HC' := HC.out
    rw [if_neg hcn, Nat.mul_one] at HC'
    have HD := hide HC'
    clear HC HC'
    go_wp2
    all_goals
      go_ret2
      have hx := HR.out.set (c' := c - n) HD.out HLD.out (by omega) map_block (r' := r + n) (z := (r : Int) + (n : Int)) (by omega) (by omega)
      exact ⟨rfl, ⟨_, _, hx.1, map_block⟩, hx.2⟩

set_option maxHeartbeats 400000 in
theorem last_ok {g c r m t : Nat} {A : Option Addr} {L : List Bool} (w : World) (hr : RfIn w g A m c L r) (n : Nat) (h64 : n ≤ 64) (hs : t + n = m) :
    Calls Try.prog 16 #[.pointer (some ⟨g, 0, none⟩), .int .i64 n] w fun e w' =>
      e = .returned (.tuple #[.int .u64 ((natOf (L.drop t) : Nat) : Int), .int .i64 0]) ∧ (∃ A' c', RfIn w' g A' t c' (L.take t) (r + n) ∧ ∀ ad, A' = some ad → ∃ a0, A = some a0 ∧ ad.block = a0.block) ∧ Chg (fun k => k = g) w w' := by
  have hcap := hr.cap
  have hrd := hr.read
  obtain ⟨k0, k1⟩ := hr.cells
  have kf0 := frozen_blk hr.row 0
  have kf1 := frozen_blk hr.row 1
  have hcut := hr.reads.cut (show t ≤ m by omega) hr.cap
  rw [bools_drop] at hcut
  have hv := fun (c' : Nat) (j : Nat) => value_of _ (m - t) c' (L.drop t) (w.drewN j) (hcut.drewN j) (by rw [List.length_drop, ← hr.len]) (by omega)
  have hhead := hr.reads.head (show t ≤ m by omega)
  rw [bools_take] at hhead
  have HH := hide hhead
  have HLT := hide (show t = (L.take t).length by rw [List.length_take, ← hr.len]; omega)
  have HR := hide hr
  have hw1 : IntKind.i64.wrap ((r : Int) + (n : Int)) = (r : Int) + (n : Int) := IntWalk.i64_in _ (by omega)
  have hw2 : IntKind.i64.wrap ((m : Int) - (n : Int)) = (t : Int) := by rw [IntWalk.i64_in _ (by omega)]; omega
  clear hhead hcut hr
  by_cases hct : c = t
  · obtain rfl : n = 0 := by omega
    obtain rfl : m = t := by omega
    subst hct
    rw [if_pos rfl, Nat.sub_self] at hv
    rw [show ((0 : Nat) : Int) = 0 from rfl] at hw1 hw2 ⊢
    have HV := hide hv
    clear hv hs h64
    go_enter Try.func16, Try.ntmps16
    go_wp2_with fail
    go_quiet ((go_at_call 38; exact quiet_left ((HV.out _ _).mono fun e w' ⟨h1, h2⟩ => ⟨h1, h2.symm⟩)))
    go_wp2_with fail
    obtain ⟨ws, hws⟩ : ∃ ws, ws = w.drewN nq := ⟨_, rfl⟩
    rw [← hws]
    have HR1 := hide (show RfIn ws g A c c L r by rw [hws]; exact HR.out.drewN _)
    have HH1 := hide (show Reads ws ws.heap.size 1 A c (bools (L.take c)) by rw [hws]; exact HH.out.drewN _)
    have HC1 := hide (show Chg (fun k => k = g) w ws by rw [hws]; exact (Chg.refl _ w).drewN _)
    obtain ⟨j0, j1⟩ := HR1.out.cells
    have jf0 := frozen_blk HR1.out.row 0
    have jf1 := frozen_blk HR1.out.row 1
    clear hws k0 k1 kf0 kf1
    go_region
    go_wp2
    go_ret2
    have hx := HR1.out.drew.set (A' := A) (n' := c) (c' := c) HH1.out HLT.out (by omega) same_block (r' := r + 0) (z := (r : Int) + 0) (by omega) (by omega)
    exact ⟨rfl, ⟨_, _, hx.1, same_block⟩, (HC1.out.drew).trans hx.2 (fun b hb => .inl hb)⟩
  · rw [if_neg hct, Nat.mul_one] at hv
    have HV := hide hv
    clear hv
    go_enter Try.func16, Try.ntmps16
    go_wp2_with fail
    go_quiet ((go_at_call 38; exact quiet_left ((HV.out _ _).mono fun e w' ⟨h1, h2⟩ => ⟨h1, h2.symm⟩)))
    go_wp2_with fail
    obtain ⟨ws, hws⟩ : ∃ ws, ws = w.drewN nq := ⟨_, rfl⟩
    rw [← hws]
    have HR1 := hide (show RfIn ws g A m c L r by rw [hws]; exact HR.out.drewN _)
    have HH1 := hide (show Reads ws ws.heap.size 1 A t (bools (L.take t)) by rw [hws]; exact HH.out.drewN _)
    have HC1 := hide (show Chg (fun k => k = g) w ws by rw [hws]; exact (Chg.refl _ w).drewN _)
    obtain ⟨j0, j1⟩ := HR1.out.cells
    have jf0 := frozen_blk HR1.out.row 0
    have jf1 := frozen_blk HR1.out.row 1
    clear hws k0 k1 kf0 kf1
    go_region
    go_wp2
    go_ret2
    have hx := HR1.out.drew.set (A' := A) (n' := t) (c' := c) HH1.out HLT.out (by omega) same_block (r' := r + n) (z := (r : Int) + (n : Int)) (by omega) (by omega)
    exact ⟨rfl, ⟨_, _, hx.1, same_block⟩, (HC1.out.drew).trans hx.2 (fun b hb => .inl hb)⟩
end Go.Proofs.Ytifolinoadllbaa
