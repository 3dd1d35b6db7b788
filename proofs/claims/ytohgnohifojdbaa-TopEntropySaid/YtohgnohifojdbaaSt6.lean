/- states.Coder.Predecessor walked. -/
import Derived.Test.YtohgnohifojdbaaSt5
namespace Go.Proofs.Ytohgnohifojdbaa
set_option maxRecDepth 8000
open Go.RowKit Go Go.Shelf
set_option linter.unusedVariables false

theorem posZ_at {pl : List Int} {s : Int} {S j k : Nat} (h : (posN pl s S)[j]? = some k) : (posZ pl s S)[j]? = some (k : Int) := by
  unfold posZ
  rw [List.getElem?_map, h]
  rfl

theorem i64_mask (x j : Nat) (hx : x < 2 ^ 32) (hj : j ≤ 10) : bits BinOp.and IntKind.i64 (x : Int) ((2 ^ j - 1 : Nat) : Int) = ((x % 2 ^ j : Nat) : Int) := by
  have h1 : 2 ^ j ≤ 2 ^ 10 := Nat.pow_le_pow_right (by omega) hj
  have h2 : (2 : Nat) ^ 10 = 1024 := by decide
  have h3 : (BitVec.ofInt 64 (x : Int)).toNat = x := by
    rw [BitVec.ofInt_natCast, BitVec.toNat_ofNat]; exact Nat.mod_eq_of_lt (by omega)
  have h4 : (BitVec.ofInt 64 ((2 ^ j - 1 : Nat) : Int)).toNat = 2 ^ j - 1 := by
    rw [BitVec.ofInt_natCast, BitVec.toNat_ofNat]; exact Nat.mod_eq_of_lt (by omega)
  show IntKind.i64.wrap ((BitVec.ofInt 64 (x : Int) &&& BitVec.ofInt 64 ((2 ^ j - 1 : Nat) : Int)).toNat : Int) = _
  have h5 : x % 2 ^ j ≤ x := Nat.mod_le _ _
  rw [BitVec.toNat_and, h3, h4, Nat.and_two_pow_sub_one_eq_mod, IntKind.wrap_i64]
  omega

set_option maxRecDepth 8000 in
set_option maxHeartbeats 4000000 in
theorem pred_ok {W : World} {g L st v n : Nat} {z : Int} {zs : List Int} (h : CoR W g L zs) (hT : okT (L : Int) zs) (hz : zs[v]? = some z) (hzn : absZ z = (n : Int)) (hn : 0 < n) (hst : st < 2 ^ L) :
    Calls Try.prog 34 #[.pointer (some ⟨g, 0, none⟩), .int .i64 (st : Int), .int .i64 (v : Int)] W fun e w' =>
      (∃ k : Nat, (posN (spreadL (2 ^ L) zs) (v : Int) (2 ^ L))[predX L n st - n]? = some k ∧ e = .returned (.tuple #[.agg #[.int .i64 (k : Int), .int .u64 (((st + 2 ^ L) % 2 ^ predN 64 (st + 2 ^ L) n : Nat) : Int), .int .i64 ((predN 64 (st + 2 ^ L) n : Nat) : Int)], .int .i64 0])) ∧ Below W.heap.size W w' := by
  obtain ⟨k, hk, hX1, hX2, hlen, hat, hNL, _⟩ := pred_cell hT hz hzn hn hst
  have hL : L ≤ 9 := by have := hT.1; omega
  obtain ⟨hp0, hp1⟩ := pow_len hL
  have hv : v < zs.length := by
    rcases Nat.lt_or_ge v zs.length with h1 | h1
    · exact h1
    · rw [List.getElem?_eq_none h1] at hz; cases hz
  obtain ⟨W0, hW0⟩ : ∃ W0, W0 = W.alloc (.cells #[.int .i64 0, .int .u64 0, .int .i64 0] 85 (0, 0)) := ⟨_, rfl⟩
  have g0 : W0.heap[W.heap.size]? = some (.cells #[.int .i64 0, .int .u64 0, .int .i64 0] 85 (0, 0)) := by rw [hW0]; exact heap_alloc_new W _
  have b0 : Below W.heap.size W W0 := by rw [hW0]; exact (Below.refl W.heap.size W).alloc (Nat.le_refl _) _
  have h' := h.below b0
  have HST := hide (state_ok h' hst)
  have HOF := hide (of_ok h' hv (by rw [posZ_length, ← hlen]) hn)
  obtain ⟨A, cA, P, cP, vals, h1, _, _, _⟩ := h'
  have hz1 := posZ_at hat
  have hleast := predN_least 64 (st + 2 ^ L) n
  obtain ⟨S, hS⟩ : ∃ S, S = 2 ^ L := ⟨_, rfl⟩
  rw [← hS] at h1 HOF hz1 hat hlen hst hp0 hp1 hleast hNL ⊢
  unfold predX at hX1 hX2 hz1 hat
  unfold predX
  rw [← hS] at hX1 hX2 hz1 hat
  rw [← hS]
  have k0 := cell_blk h1 0
  obtain ⟨x, hx⟩ : ∃ x, x = st + S := ⟨_, rfl⟩
  rw [← hx] at hX1 hX2 hz1 hat hleast ⊢
  have hwx : IntKind.i64.wrap ((st : Int) + (S : Int)) = (x : Int) := by rw [IntWalk.i64_in _ (by omega)]; omega
  have hx1024 : x < 1024 := by omega
  have hnS : n ≤ S := by rw [hlen]; exact posN_le _ _ _
  have HX1 := hide hX1
  have HX2 := hide hX2
  have HZ1 := hide hz1
  have HAT := hide hat
  have HLEAST := hide hleast
  have HLEN := hide (show (posZ (spreadL S zs) (v : Int) S).length = n by rw [posZ_length, ← hlen])
  have HB := hide b0
  have HG0 := hide g0
  have HW0 := hide hW0
  have hw2 : IntKind.i64.wrap (2 * (n : Int)) = ((2 * n : Nat) : Int) := by rw [IntWalk.i64_in _ (by omega)]; omega
  have hxn : n ≤ x := by omega
  clear h h1 hS hz hzn hk hX1 hX2 hlen hat hz1 hleast b0 hW0 g0 hx hT hv hNL
  go_enter Try.func34, Try.ntmps34
  go_wp2_with fail
  try rw [← HW0.out]
  refine HST.out.mono ?_
  rintro e w1 ⟨rfl, rfl⟩
  go_wp2_with fail
  refine HOF.out.mono ?_
  rintro e w2 ⟨A2, c2, rfl, hr2, rfl⟩
  have HR2 := hide hr2
  clear hr2 HST HOF
  go_wp2
  go_loopw [12] (fun nv wr => ∃ j : Nat, nv = .int .i64 j ∧ wr = w2 ∧ ∀ i, i < j → 2 * n ≤ x / 2 ^ i) (fun nv _ => 16 - (intOf nv).toNat)
  case atStart => exact ⟨0, rfl, rfl, fun i hi => absurd hi (by omega)⟩
  case round =>
    obtain ⟨j, rfl, hwq, hj⟩ := hrel
    rw [hwq]
    clear hwq
    have hj10 : j ≤ 10 := by
      rcases Nat.lt_or_ge j 11 with h | h
      · omega
      · have h2 := hj 10 (by omega)
        rw [Nat.div_eq_of_lt (by omega)] at h2
        omega
    have HJ := hide hj
    obtain ⟨y, hy⟩ : ∃ y, y = x / 2 ^ j := ⟨_, rfl⟩
    have hyx : y ≤ x := by rw [hy]; exact Nat.div_le_self _ _
    have hyi : (x : Int) / 2 ^ j = (y : Int) := by rw [hy]; simp
    have hwy : IntKind.i64.wrap (y : Int) = (y : Int) := by rw [IntWalk.i64_in _ (by omega)]
    have hj63 : ¬ (64 : Int) ≤ (j : Int) := by omega
    have hj0 : ¬ (j : Int) < 0 := by omega
    clear hj
    by_cases hge : 2 * n ≤ y
    · have HY := hide hy
      clear hy
      go_wp2
      go_roundw
      case rel =>
        refine ⟨j + 1, by go_num, trivial, fun i hi => ?_⟩
        by_cases hij : i < j
        · exact HJ.out i hij
        · obtain rfl : i = j := by omega
          rw [← HY.out]
          exact hge
      case measure => simp [intOf]; omega
    · have hNj := HLEAST.out j hn hxn (by omega) (by rw [← hy]; omega) HJ.out
      rw [hNj, ← hy] at HX1 HX2 HZ1 HAT
      have hx1 := HX1.out
      have hx2 := HX2.out
      obtain ⟨b2, o2, xv, rfl, hb2, kc, hxv⟩ := int_cells HR2.out (k := y - n) (by omega)
      rw [HZ1.out] at hxv
      injection hxv with hxv
      subst hxv
      obtain ⟨d, hd⟩ : ∃ d, d = y - n := ⟨_, rfl⟩
      rw [← hd] at kc
      have hwd : IntKind.i64.wrap ((y : Int) - (n : Int)) = (d : Int) := by rw [IntWalk.i64_in _ (by omega)]; omega
      have hdn : (d : Int) < (n : Int) := by omega
      have hpj : 2 ^ j ≤ 2 ^ 10 := Nat.pow_le_pow_right (by omega) hj10
      have hp10 : (2 : Nat) ^ 10 = 1024 := by decide
      have hpj0 : 0 < 2 ^ j := Nat.pow_pos (by omega)
      have hmask := i64_mask x j (by omega) hj10
      obtain ⟨Q, hQ⟩ : ∃ Q, Q = 2 ^ j := ⟨_, rfl⟩
      have hQi : (2 : Int) ^ j = (Q : Int) := by rw [hQ]; simp
      obtain ⟨r, hr⟩ : ∃ r, r = x % 2 ^ j := ⟨_, rfl⟩
      have hrx : r ≤ x := by rw [hr]; exact Nat.mod_le _ _
      rw [← hr, ← hQ] at hmask
      rw [← hQ] at hpj hpj0
      have hwQ : IntKind.i64.wrap ((2 : Int) ^ j) = (Q : Int) := by rw [hQi, IntWalk.i64_in _ (by omega)]
      have hwQ1 : IntKind.i64.wrap (1 * (2 : Int) ^ j) = (Q : Int) := by rw [Int.one_mul, hwQ]
      obtain ⟨M, hM⟩ : ∃ M, M = Q - 1 := ⟨_, rfl⟩
      rw [← hM] at hmask
      have hwM : IntKind.i64.wrap ((Q : Int) - 1) = (M : Int) := by rw [IntWalk.i64_in _ (by omega)]; omega
      have hwr : IntKind.u64.wrap (r : Int) = (r : Int) := by rw [IntKind.wrap_u64]; omega
      have r0 : w2.cell? ⟨W.heap.size, 0, none⟩ = some (.int .i64 0) := cell_blk HG0.out 0
      have r1 : w2.cell? ⟨W.heap.size, 1, none⟩ = some (.int .u64 0) := cell_blk HG0.out 1
      have r2 : w2.cell? ⟨W.heap.size, 2, none⟩ = some (.int .i64 0) := cell_blk HG0.out 2
      have rf0 := frozen_blk HG0.out 0
      have rf1 := frozen_blk HG0.out 1
      have rf2 := frozen_blk HG0.out 2
      have HNJ := hide hNj
      have HYQ := hide hy
      have HRR := hide hr
      clear hy hNj hd hQ hQi hr hM hx1 hx2 hpj hp10 hpj0 hrx k0 HLEAST
      go_wp2
      go_region
      have hset := set_blk (set_blk (set_blk HG0.out 0 (.int .i64 (k : Int))) 1 (.int .u64 (r : Int))) 2 (.int .i64 (j : Int))
      obtain ⟨w4, hw4⟩ : ∃ w4, w4 = (((w2.setCell ⟨W.heap.size, 0, none⟩ (.int .i64 (k : Int))).setCell ⟨W.heap.size, 1, none⟩ (.int .u64 (r : Int))).setCell ⟨W.heap.size, 2, none⟩ (.int .i64 (j : Int))) := ⟨_, rfl⟩
      have hb4 : Below W.heap.size W w4 := by
        rw [hw4]
        exact ((HB.out.setCell (p := ⟨W.heap.size, 0, none⟩) (Nat.le_refl _) _).setCell (p := ⟨W.heap.size, 1, none⟩) (Nat.le_refl _) _).setCell (p := ⟨W.heap.size, 2, none⟩) (Nat.le_refl _) _
      rw [← hw4] at hset ⊢
      have z0 : w4.drew.cell? ⟨W.heap.size, 0, none⟩ = some (.int .i64 (k : Int)) := (cell_blk hset 0).trans rfl
      have z1 : w4.drew.cell? ⟨W.heap.size, 1, none⟩ = some (.int .u64 (r : Int)) := (cell_blk hset 1).trans rfl
      have z2 : w4.drew.cell? ⟨W.heap.size, 2, none⟩ = some (.int .i64 (j : Int)) := (cell_blk hset 2).trans rfl
      have HB4 := hide hb4
      clear hw4 hset hb4 r0 r1 r2 rf0 rf1 rf2
      go_wp2
      refine bodyPost_ret (v := .tuple #[.agg #[.int .i64 (k : Int), .int .u64 (r : Int), .int .i64 (j : Int)], .int .i64 0]) ?_ rfl ⟨⟨k, ?_, ?_⟩, HB4.out.drew⟩
      · simp only [results, Try.results34, go_sem]
        simp [z0, z1, z2, go_sem]
      · rw [HNJ.out]
        rw [← HYQ.out]
        exact HAT.out
      · rw [HNJ.out, ← HRR.out]

set_option maxHeartbeats 2000000 in
theorem pred_bad {W : World} {g L : Nat} {st sym E : Int} {zs : List Int} (h : CoR W g L zs) (hs : ((st < 0 ∨ (¬ st < 0 ∧ ((2 ^ L : Nat) : Int) ≤ st)) ∧ E = 21) ∨
    ((∃ s : Nat, st = (s : Int) ∧ s < 2 ^ L) ∧ E = 2 ∧ (sym < 0 ∨ (¬ sym < 0 ∧ (zs.length : Int) ≤ sym) ∨ (∃ v : Nat, sym = (v : Int) ∧ v < zs.length ∧ (posZ (spreadL (2 ^ L) zs) (v : Int) (2 ^ L)).length = 0)))) :
    Calls Try.prog 34 #[.pointer (some ⟨g, 0, none⟩), .int .i64 st, .int .i64 sym] W fun e w' => e = .returned (.tuple #[.agg #[.int .i64 0, .int .u64 0, .int .i64 0], .int .i64 E]) ∧ Below W.heap.size W w' := by
  obtain ⟨W0, hW0⟩ : ∃ W0, W0 = W.alloc (.cells #[.int .i64 0, .int .u64 0, .int .i64 0] 85 (0, 0)) := ⟨_, rfl⟩
  have g0 : W0.heap[W.heap.size]? = some (.cells #[.int .i64 0, .int .u64 0, .int .i64 0] 85 (0, 0)) := by rw [hW0]; exact heap_alloc_new W _
  have b0 : Below W.heap.size W W0 := by rw [hW0]; exact (Below.refl W.heap.size W).alloc (Nat.le_refl _) _
  have h' := h.below b0
  have u0 := cell_blk g0 0
  have u1 := cell_blk g0 1
  have u2 := cell_blk g0 2
  have p0 := frozen_blk g0 0
  have p1 := frozen_blk g0 1
  have p2 := frozen_blk g0 2
  have s1 := set_blk g0 0 (.int .i64 0)
  have s2 := set_blk s1 1 (.int .u64 0)
  have s3 := set_blk s2 2 (.int .i64 0)
  have u1' := cell_blk s1 1
  have u2' := cell_blk s2 2
  have p1' := frozen_blk s1 1
  have p2' := frozen_blk s2 2
  have z0 := cell_blk s3 0
  have z1 := cell_blk s3 1
  have z2 := cell_blk s3 2
  have HB := hide (((b0.setCell (p := ⟨W.heap.size, 0, none⟩) (Nat.le_refl _) (.int .i64 0)).setCell (p := ⟨W.heap.size, 1, none⟩) (Nat.le_refl _) (.int .u64 0)).setCell (p := ⟨W.heap.size, 2, none⟩) (Nat.le_refl _) (.int .i64 0))
  have HW0 := hide hW0
  have HC := hide h'
  clear h h' hW0 g0 b0 s1 s2 s3
  rcases hs with ⟨hs, rfl⟩ | ⟨⟨s, rfl, hs⟩, rfl, hsym⟩
  · have HST := hide (state_bad HC.out hs)
    clear hs
    go_enter Try.func34, Try.ntmps34
    go_wp2_with fail
    try rw [← HW0.out]
    refine HST.out.mono ?_
    rintro e w1 ⟨rfl, rfl⟩
    go_wp2
    refine bodyPost_ret (v := .tuple #[.agg #[.int .i64 0, .int .u64 0, .int .i64 0], .int .i64 21]) ?_ rfl ⟨rfl, HB.out⟩
    simp only [results, Try.results34, go_sem]
    simp [z0, z1, z2, go_sem]
  · have HST := hide (state_ok HC.out hs)
    have HOF := hide (of_bad HC.out hsym)
    clear hs hsym
    go_enter Try.func34, Try.ntmps34
    go_wp2_with fail
    try rw [← HW0.out]
    refine HST.out.mono ?_
    rintro e w1 ⟨rfl, rfl⟩
    go_wp2_with fail
    refine HOF.out.mono ?_
    rintro e w2 ⟨rfl, rfl⟩
    go_wp2
    refine bodyPost_ret (v := .tuple #[.agg #[.int .i64 0, .int .u64 0, .int .i64 0], .int .i64 2]) ?_ rfl ⟨rfl, HB.out⟩
    simp only [results, Try.results34, go_sem]
    simp [z0, z1, z2, go_sem]
end Go.Proofs.Ytohgnohifojdbaa
