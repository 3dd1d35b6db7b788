/- portmanteaulaw10.StatesBack walked. -/
import Derived.Test.YtpedhioicfjpkaaStD
import Derived.Test.YtpedhioicfjpkaaStB
import Derived.Test.YtpedhioicfjpkaaSt9
namespace Go.Proofs.Ytpedhioicfjpkaa
open Go.RowKit Go Go.Shelf
set_option linter.unusedVariables false

/-- Higher bits do not count. -/
theorem above_mod {ab r N : Nat} (hr : r < 2 ^ N) (hN : N ≤ 9) : (r + ab * 2 ^ N % 2 ^ 64) % 2 ^ 64 % 2 ^ N = r := by
  have h64 : (2 : Nat) ^ 64 = 2 ^ N * 2 ^ (64 - N) := by rw [← Nat.pow_add]; congr 1; omega
  rw [Nat.add_mod_mod]
  rw [h64, Nat.mod_mul_right_mod, Nat.add_mul_mod_self_right, Nat.mod_eq_of_lt hr]

set_option maxRecDepth 4000 in
set_option maxHeartbeats 8000000 in
theorem walk_StatesBack {w : World} (l : Int) (A : Option Addr) (m c : Nat) (zs : List Int) (wl : (Lit.int .i64 l).wf = true) (hm : zs.length = m) (hr : Reads w w.heap.size 1 A m (zs.map (Value.int .i64))) (hok : ∀ z ∈ zs, (Lit.int .i64 z).wf = true) (hc' : c ≤ maxLen) (hc : m ≤ c) (st : Int) (wst : (Lit.int .i64 st).wf = true) (sym : Int) (ws : (Lit.int .i64 sym).wf = true) (ab : Int) (wab : (Lit.int .u64 ab).wf = true) :
    Calls Try.prog 6 #[.agg #[.int .i64 l, .slice A m c], .int .i64 st, .int .i64 sym, .int .u64 ab] w fun e w' => e = .returned (.bool true) ∧ Below w.heap.size w w' := by
  have HKN := hide known_any
  obtain ⟨W0, hW0⟩ : ∃ W0, W0 = w.alloc (.cells #[.int .i64 l, .slice A m c] 24 (0, 0)) := ⟨_, rfl⟩
  have g0 : W0.heap[w.heap.size]? = some (.cells #[.int .i64 l, .slice A m c] 24 (0, 0)) := by rw [hW0]; exact heap_alloc_new w _
  have b0 : Below w.heap.size w W0 := by rw [hW0]; exact (Below.refl w.heap.size w).alloc (Nat.le_refl _) _
  have hs0 : w.heap.size < W0.heap.size := lt_of_heap g0
  have k00 := cell_blk g0 0
  have k01 := cell_blk g0 1
  have HB0 := hide b0
  have HW0 := hide hW0
  have HR0 := hide ((hr.below b0).more b0.size)
  have HG0 := hide g0
  have HS0 := hide hs0
  have HM := hide hm
  clear b0 hW0 hr g0 hs0
  by_cases hbig : 300 < m
  · have hb' : (300 : Int) < (m : Int) := by omega
    go_enter Try.func6, Try.ntmps6
    go_wp2_with fail
    try rw [← HW0.out]
    go_wp2_with fail
    refine (HKN.out _).mono ?_
    rintro e W9 ⟨rfl, b9⟩
    have HB9 := hide (HB0.out.trans (b9.mono HB0.out.size))
    clear b9
    go_wp2
    go_ret
    exact ⟨rfl, HB9.out⟩
  have hb' : ¬ (300 : Int) < (m : Int) := by omega
  have HMAY := hide (may_any 9 l A m c zs W0 (.inl rfl) hm HR0.out hok hc hc')
  by_cases hT : ¬ okT l zs
  · have HT := hide hT
    clear hT
    go_enter Try.func6, Try.ntmps6
    go_wp2_with fail
    try rw [← HW0.out]
    go_wp2_with fail
    refine HMAY.out.mono ?_
    rintro e W1 ⟨he, b1⟩
    obtain rfl : e = .returned (.int .i64 13) := he.elim (fun h => absurd h.1 HT.out) (fun h => h.2)
    have HB1 := hide (HB0.out.trans (b1.mono HB0.out.size))
    clear b1 he
    go_wp2_with fail
    refine (HKN.out _).mono ?_
    rintro e W9 ⟨rfl, b9⟩
    have HB9 := hide (HB1.out.trans (b9.mono HB1.out.size))
    clear b9
    go_wp2
    go_ret
    exact ⟨rfl, HB9.out⟩
  replace hT := Classical.not_not.1 hT
  obtain ⟨L, rfl⟩ := Int.eq_ofNat_of_zero_le hT.1.1
  have hL : L ≤ 9 := by have := hT.1; omega
  obtain ⟨hp0, hp1⟩ := pow_len hL
  have HSIZE := hide (fun W => size_any L W (by omega))
  have HBG := hide (fun W hr => begin_ok L A m c zs W hm hr hok hc hc' hT)
  have HT := hide hT
  obtain ⟨S, hS⟩ : ∃ S, S = 2 ^ L := ⟨_, rfl⟩
  rw [← hS] at HSIZE hp0 hp1
  have HSQ := hide hS
  clear hS hT hm hok
  rcases has_cases sym HM.out with hsym | ⟨v, z, rfl, hvm, hz, hz0⟩
  · have HSYM := hide hsym
    clear hsym
    go_enter Try.func6, Try.ntmps6
    go_wp2_with fail
    try rw [← HW0.out]
    go_wp2_with fail
    refine HMAY.out.mono ?_
    rintro e W1 ⟨he, b1⟩
    obtain rfl : e = .returned (.int .i64 0) := he.elim (fun h => h.2) (fun h => absurd HT.out h.1)
    have g1 := (b1.block _ HS0.out).trans HG0.out
    have k10 := cell_blk g1 0
    have k11 := cell_blk g1 1
    have HG1 := hide g1
    have HB1 := hide (HB0.out.trans (b1.mono HB0.out.size))
    have HR1 := hide ((HR0.out.below b1).more b1.size)
    have HS1 := hide (Nat.lt_of_lt_of_le HS0.out b1.size)
    clear b1 g1
    go_wp2_with fail
    refine (has_no HM.out HR1.out HSYM.out).mono ?_
    rintro e W2 ⟨rfl, b2⟩
    have g2 := (b2.block _ HS1.out).trans HG1.out
    have k20 := cell_blk g2 0
    have k21 := cell_blk g2 1
    have HG2 := hide g2
    have HB2 := hide (HB1.out.trans (b2.mono HB1.out.size))
    have HR2 := hide ((HR1.out.below b2).more b2.size)
    have HS2 := hide (Nat.lt_of_lt_of_le HS1.out b2.size)
    clear b2 g2
    go_wp2_with fail
    refine (HKN.out _).mono ?_
    rintro e W9 ⟨rfl, b9⟩
    have HB9 := hide (HB2.out.trans (b9.mono HB2.out.size))
    clear b9
    go_wp2
    go_ret
    exact ⟨rfl, HB9.out⟩
  have HVM := hide hvm
  have HZ := hide hz
  have HZ0 := hide hz0
  clear hz0
  by_cases ha : st < 0
  · clear hz hvm
    go_enter Try.func6, Try.ntmps6
    go_wp2_with fail
    try rw [← HW0.out]
    go_wp2_with fail
    refine HMAY.out.mono ?_
    rintro e W1 ⟨he, b1⟩
    obtain rfl : e = .returned (.int .i64 0) := he.elim (fun h => h.2) (fun h => absurd HT.out h.1)
    have g1 := (b1.block _ HS0.out).trans HG0.out
    have k10 := cell_blk g1 0
    have k11 := cell_blk g1 1
    have HG1 := hide g1
    have HB1 := hide (HB0.out.trans (b1.mono HB0.out.size))
    have HR1 := hide ((HR0.out.below b1).more b1.size)
    have HS1 := hide (Nat.lt_of_lt_of_le HS0.out b1.size)
    clear b1 g1
    go_wp2_with fail
    refine (has_yes HM.out HR1.out HVM.out HZ.out HZ0.out).mono ?_
    rintro e W2 ⟨rfl, b2⟩
    have g2 := (b2.block _ HS1.out).trans HG1.out
    have k20 := cell_blk g2 0
    have k21 := cell_blk g2 1
    have HG2 := hide g2
    have HB2 := hide (HB1.out.trans (b2.mono HB1.out.size))
    have HR2 := hide ((HR1.out.below b2).more b2.size)
    have HS2 := hide (Nat.lt_of_lt_of_le HS1.out b2.size)
    clear b2 g2
    go_wp2_with fail
    refine (HKN.out _).mono ?_
    rintro e W9 ⟨rfl, b9⟩
    have HB9 := hide (HB2.out.trans (b9.mono HB2.out.size))
    clear b9
    go_wp2
    go_ret
    exact ⟨rfl, HB9.out⟩
  by_cases ha2 : (S : Int) ≤ st
  · clear hz hvm
    go_enter Try.func6, Try.ntmps6
    go_wp2_with fail
    try rw [← HW0.out]
    go_wp2_with fail
    refine HMAY.out.mono ?_
    rintro e W1 ⟨he, b1⟩
    obtain rfl : e = .returned (.int .i64 0) := he.elim (fun h => h.2) (fun h => absurd HT.out h.1)
    have g1 := (b1.block _ HS0.out).trans HG0.out
    have k10 := cell_blk g1 0
    have k11 := cell_blk g1 1
    have HG1 := hide g1
    have HB1 := hide (HB0.out.trans (b1.mono HB0.out.size))
    have HR1 := hide ((HR0.out.below b1).more b1.size)
    have HS1 := hide (Nat.lt_of_lt_of_le HS0.out b1.size)
    clear b1 g1
    go_wp2_with fail
    refine (has_yes HM.out HR1.out HVM.out HZ.out HZ0.out).mono ?_
    rintro e W2 ⟨rfl, b2⟩
    have g2 := (b2.block _ HS1.out).trans HG1.out
    have k20 := cell_blk g2 0
    have k21 := cell_blk g2 1
    have HG2 := hide g2
    have HB2 := hide (HB1.out.trans (b2.mono HB1.out.size))
    have HR2 := hide ((HR1.out.below b2).more b2.size)
    have HS2 := hide (Nat.lt_of_lt_of_le HS1.out b2.size)
    clear b2 g2
    go_wp2_with fail
    refine (HSIZE.out _).mono ?_
    rintro e x1 ⟨rfl, rfl⟩
    go_wp2_with fail
    refine (HKN.out _).mono ?_
    rintro e W9 ⟨rfl, b9⟩
    have HB9 := hide (HB2.out.trans (b9.mono HB2.out.size))
    clear b9
    go_wp2
    go_ret
    exact ⟨rfl, HB9.out⟩
  obtain ⟨n, hzn⟩ : ∃ n : Nat, absZ z = (n : Int) := ⟨(absZ z).toNat, by have := absZ_nonneg z; omega⟩
  have hn : 0 < n := by have := HZ0.out; unfold absZ at hzn; omega
  obtain ⟨sa, rfl⟩ := Int.eq_ofNat_of_zero_le (show 0 ≤ st by omega)
  obtain ⟨hab0, hab1⟩ := bounds_u64 wab
  obtain ⟨ab, rfl⟩ := Int.eq_ofNat_of_zero_le hab0
  have hsa : sa < 2 ^ L := by rw [← HSQ.out]; omega
  obtain ⟨k, hk, hX1, hX2, hlen, hat, hNL, hcell⟩ := pred_cell HT.out hz hzn hn hsa
  have hpr := fun (W : World) (g : Nat) (h : CoR W g L zs) => pred_ok (st := sa) h HT.out hz hzn hn hsa
  rw [hat] at hpr
  have hdm := Nat.div_add_mod (sa + 2 ^ L) (2 ^ predN 64 (sa + 2 ^ L) n)
  have hml := Nat.mod_lt (sa + 2 ^ L) (show 2 ^ predN 64 (sa + 2 ^ L) n > 0 from Nat.pow_pos (by omega))
  have hpx : predX L n sa = (sa + 2 ^ L) / 2 ^ predN 64 (sa + 2 ^ L) n := rfl
  rw [← hpx, Nat.mul_comm] at hdm
  obtain ⟨r, hr⟩ : ∃ r, r = (sa + 2 ^ L) % 2 ^ predN 64 (sa + 2 ^ L) n := ⟨_, rfl⟩
  obtain ⟨N, hN⟩ : ∃ N, N = predN 64 (sa + 2 ^ L) n := ⟨_, rfl⟩
  rw [← hr, ← hN] at hpr hdm hml
  rw [← hN] at hcell hNL
  obtain ⟨Bs, hBs⟩ : ∃ Bs : Int, Bs = ((predX L n sa * 2 ^ N : Nat) : Int) - ((2 ^ L : Nat) : Int) := ⟨_, rfl⟩
  rw [← hBs] at hcell
  have hcl : clampN (N : Int) = N := by unfold clampN; omega
  have hto : wrap64 (Bs + (r : Int)) = (sa : Int) := by rw [hBs]; unfold wrap64; omega
  have hN9 : N ≤ 9 := by omega
  have hPN : 2 ^ N ≤ 2 ^ 9 := Nat.pow_le_pow_right (by omega) hN9
  have h29 : (2 : Nat) ^ 9 = 512 := by decide
  -- the bits from above
  obtain ⟨sh, hsh⟩ : ∃ sh, sh = ab * 2 ^ N % 2 ^ 64 := ⟨_, rfl⟩
  obtain ⟨q, hq⟩ : ∃ q, q = (r + sh) % 2 ^ 64 := ⟨_, rfl⟩
  have h64 : (2 : Nat) ^ 64 = 18446744073709551616 := by decide
  have hwA : IntKind.u64.wrap ((ab : Int) * 2 ^ N) = (sh : Int) := by
    rw [show (ab : Int) * 2 ^ N = ((ab * 2 ^ N : Nat) : Int) by simp, IntKind.wrap_u64, hsh, h64]
    omega
  have hwB : IntKind.u64.wrap ((r : Int) + (sh : Int)) = (q : Int) := by rw [IntKind.wrap_u64, hq, h64]; omega
  have hqm : q % 2 ^ N = r := by rw [hq, hsh]; exact above_mod hml hN9
  have hq64 : q < 2 ^ 64 := by rw [hq]; exact Nat.mod_lt _ (by decide)
  have hr64 : r < 2 ^ 64 := by omega
  have HPR := hide hpr
  have HCL := hide (fun (W : World) (g : Nat) (h : CoR W g L zs) => cellm_ok (st := k) (t := ((v : Int), (N : Int), Bs)) h hk hcell)
  have HN1 := hide (fun (W : World) (g : Nat) (h : CoR W g L zs) => (nextm_ok (s := k) (t := ((v : Int), (N : Int), Bs)) h hk hcell r hr64).mono (R' := fun e w' => e = .returned (.tuple #[.int .i64 (sa : Int), .int .i64 0]) ∧ Below W.heap.size W w') (fun e w' ⟨h1, h2⟩ => ⟨by rw [h1, hcl, Nat.mod_eq_of_lt hml, hto], h2⟩))
  have HN2 := hide (fun (W : World) (g : Nat) (h : CoR W g L zs) => (nextm_ok (s := k) (t := ((v : Int), (N : Int), Bs)) h hk hcell q hq64).mono (R' := fun e w' => e = .returned (.tuple #[.int .i64 (sa : Int), .int .i64 0]) ∧ Below W.heap.size W w') (fun e w' ⟨h1, h2⟩ => ⟨by rw [h1, hcl, hqm, hto], h2⟩))
  obtain ⟨PB, hPB⟩ : ∃ PB, PB = 2 ^ N := ⟨_, rfl⟩
  have hPi : (2 : Int) ^ N = (PB : Int) := by rw [hPB]; simp
  rw [← hPB] at hPN hml
  have hwP : IntKind.u64.wrap ((2 : Int) ^ N) = (PB : Int) := by rw [hPi, IntKind.wrap_u64]; omega
  have hwP1 : IntKind.u64.wrap (1 * (2 : Int) ^ N) = (PB : Int) := by rw [Int.one_mul, hwP]
  have t1 : ((v : Int) != (v : Int)) = false := by simp
  have t2 : ((N : Int) != (N : Int)) = false := by simp
  have t3 : ¬ (N : Int) < 0 := by omega
  have t4 : ¬ (9 : Int) < (N : Int) := by omega
  have t5 : ¬ (PB : Int) ≤ (r : Int) := by omega
  have hss : ((sa : Int) == (sa : Int)) = true := by simp
  clear hz hvm hzn hn hsa hk hX1 hX2 hlen hat hNL hcell hpr hdm hpx hr hN hBs hcl hto hPN h29 hsh hq h64 hqm hq64 hr64 hPB hPi hab0 hab1 hml hN9
  go_enter Try.func6, Try.ntmps6
  go_wp2_with fail
  try rw [← HW0.out]
  go_wp2_with fail
  refine HMAY.out.mono ?_
  rintro e W1 ⟨he, b1⟩
  obtain rfl : e = .returned (.int .i64 0) := he.elim (fun h => h.2) (fun h => absurd HT.out h.1)
  have g1 := (b1.block _ HS0.out).trans HG0.out
  have k10 := cell_blk g1 0
  have k11 := cell_blk g1 1
  have HG1 := hide g1
  have HB1 := hide (HB0.out.trans (b1.mono HB0.out.size))
  have HR1 := hide ((HR0.out.below b1).more b1.size)
  have HS1 := hide (Nat.lt_of_lt_of_le HS0.out b1.size)
  clear b1 g1
  go_wp2_with fail
  refine (has_yes HM.out HR1.out HVM.out HZ.out HZ0.out).mono ?_
  rintro e W2 ⟨rfl, b2⟩
  have g2 := (b2.block _ HS1.out).trans HG1.out
  have k20 := cell_blk g2 0
  have k21 := cell_blk g2 1
  have HG2 := hide g2
  have HB2 := hide (HB1.out.trans (b2.mono HB1.out.size))
  have HR2 := hide ((HR1.out.below b2).more b2.size)
  have HS2 := hide (Nat.lt_of_lt_of_le HS1.out b2.size)
  clear b2 g2
  go_wp2_with fail
  refine (HSIZE.out _).mono ?_
  rintro e x1 ⟨rfl, rfl⟩
  go_wp2_with fail
  refine (HBG.out _ HR2.out).mono ?_
  rintro e W3 ⟨g, rfl, hco, _, b3⟩
  have HB3 := hide (HB2.out.trans (b3.mono HB2.out.size))
  have HCO3 := hide hco
  clear b3 hco k20 k21
  go_wp2_with fail
  refine (HPR.out _ _ HCO3.out).mono ?_
  rintro e W4 ⟨⟨ka, hka, rfl⟩, b4⟩
  injection hka with hka
  subst hka
  have HCO4 := hide (HCO3.out.below b4)
  obtain ⟨W5, hW5⟩ : ∃ W5, W5 = W4.alloc (.cells #[.int .i64 (k : Int), .int .u64 (r : Int), .int .i64 (N : Int)] 33 (0, 0)) := ⟨_, rfl⟩
  have hg5 : W5.heap[W4.heap.size]? = some (.cells #[.int .i64 (k : Int), .int .u64 (r : Int), .int .i64 (N : Int)] 33 (0, 0)) := by rw [hW5]; exact heap_alloc_new W4 _
  have HB5 : Hid (Below w.heap.size w W5) := by rw [hW5]; exact (HB3.out.trans (b4.mono HB3.out.size)).alloc (Nat.le_trans HB3.out.size b4.size) _
  have HCO5 : Hid (CoR W5 g L zs) := by rw [hW5]; exact HCO4.out.below ((Below.refl _ _).alloc (Nat.le_refl _) _)
  have HG5 := hide hg5
  have HW5 := hide hW5
  have q0 := cell_blk hg5 0
  rw [hW5] at q0
  clear hW5 hg5 b4 HCO4
  go_wp2_with fail
  try rw [← HW5.out]
  refine (HCL.out _ _ HCO5.out).mono ?_
  rintro e W6 ⟨rfl, b6⟩
  obtain ⟨W7, hW7⟩ : ∃ W7, W7 = W6.alloc (.cells #[.int .i64 (v : Int), .int .i64 (N : Int), .int .i64 Bs] 53 (0, 0)) := ⟨_, rfl⟩
  have hg7 : W7.heap[W6.heap.size]? = some (.cells #[.int .i64 (v : Int), .int .i64 (N : Int), .int .i64 Bs] 53 (0, 0)) := by rw [hW7]; exact heap_alloc_new W6 _
  have hg75 : W7.heap[W4.heap.size]? = some (.cells #[.int .i64 (k : Int), .int .u64 (r : Int), .int .i64 (N : Int)] 33 (0, 0)) := by rw [hW7]; exact alloc_far ((b6.block _ (lt_of_heap HG5.out)).trans HG5.out) _
  have HB7 : Hid (Below w.heap.size w W7) := by rw [hW7]; exact (HB5.out.trans (b6.mono HB5.out.size)).alloc (Nat.le_trans HB5.out.size b6.size) _
  have HCO7 : Hid (CoR W7 g L zs) := by rw [hW7]; exact (HCO5.out.below b6).below ((Below.refl _ _).alloc (Nat.le_refl _) _)
  have a0 : W7.cell? ⟨W4.heap.size, 0, none⟩ = some (.int .i64 (k : Int)) := cell_blk hg75 0
  have a1 : W7.cell? ⟨W4.heap.size, 1, none⟩ = some (.int .u64 (r : Int)) := cell_blk hg75 1
  have a2 : W7.cell? ⟨W4.heap.size, 2, none⟩ = some (.int .i64 (N : Int)) := cell_blk hg75 2
  have c0 : W7.cell? ⟨W6.heap.size, 0, none⟩ = some (.int .i64 (v : Int)) := cell_blk hg7 0
  have c1 : W7.cell? ⟨W6.heap.size, 1, none⟩ = some (.int .i64 (N : Int)) := cell_blk hg7 1
  have HG7 := hide hg75
  have HW7 := hide hW7
  clear hW7 hg7 hg75 b6 HCO5 q0
  go_wp2_with fail
  try rw [← HW7.out]
  go_wp2_with fail
  go_quiet (fail)
  obtain ⟨W8, hW8⟩ : ∃ W8, W8 = W7.drewN nq := ⟨_, rfl⟩
  have HB8 : Hid (Below w.heap.size w W8) := by rw [hW8]; exact HB7.out.trans (below_drewN (Below.refl _ _) _)
  have HCO8 : Hid (CoR W8 g L zs) := by rw [hW8]; exact HCO7.out.drewN _
  have HG8 : Hid (W8.heap[W4.heap.size]? = some (.cells #[.int .i64 (k : Int), .int .u64 (r : Int), .int .i64 (N : Int)] 33 (0, 0))) := by rw [hW8]; exact HG7.out
  rw [← hW8]
  clear hW8 a0 a1 a2 c0 c1
  have a0 : W8.cell? ⟨W4.heap.size, 0, none⟩ = some (.int .i64 (k : Int)) := cell_blk HG8.out 0
  have a1 : W8.cell? ⟨W4.heap.size, 1, none⟩ = some (.int .u64 (r : Int)) := cell_blk HG8.out 1
  have a2 : W8.cell? ⟨W4.heap.size, 2, none⟩ = some (.int .i64 (N : Int)) := cell_blk HG8.out 2
  go_wp2_with fail
  refine (HN1.out _ _ HCO8.out).mono ?_
  rintro e W9 ⟨rfl, b9⟩
  have hg9 := (b9.block _ (lt_of_heap HG8.out)).trans HG8.out
  have HB9 := hide (HB8.out.trans (b9.mono HB8.out.size))
  have HCO9 := hide (HCO8.out.below b9)
  have q0 : W9.cell? ⟨W4.heap.size, 0, none⟩ = some (.int .i64 (k : Int)) := cell_blk hg9 0
  have q1 : W9.cell? ⟨W4.heap.size, 1, none⟩ = some (.int .u64 (r : Int)) := cell_blk hg9 1
  have q2 : W9.cell? ⟨W4.heap.size, 2, none⟩ = some (.int .i64 (N : Int)) := cell_blk hg9 2
  have lt0 := lt_of_heap hg9
  have HCD : Hid (CoR W9.drew g L zs) := HCO9.out
  clear b9 hg9 a0 a1 a2
  go_wp2_with fail
  go_region_held3 (fun w' => w'.cell? ⟨W4.heap.size, 0, none⟩ = some (.int .i64 (k : Int)) ∧ w'.cell? ⟨W4.heap.size, 1, none⟩ = some (.int .u64 (r : Int)) ∧ w'.cell? ⟨W4.heap.size, 2, none⟩ = some (.int .i64 (N : Int))) (go_keep)
    (first
    | (go_at_call 25; refine (HN2.out _ _ HCD.out).mono ?_; rintro e x1 ⟨rfl, hx1⟩; replace hx1 := (Below.refl _ W9).drew.trans hx1; have j0 := (hx1.cell (p := ⟨W4.heap.size, 0, none⟩) lt0).trans q0; have j1 := (hx1.cell (p := ⟨W4.heap.size, 1, none⟩) lt0).trans q1; have j2 := (hx1.cell (p := ⟨W4.heap.size, 2, none⟩) lt0).trans q2; have HX1 := hide hx1; clear hx1))
  have HB10 := hide (HB9.out.trans (HX1.out.mono HB9.out.size))
  go_wp2_with fail
  refine (HKN.out _).mono ?_
  rintro e W11 ⟨rfl, b11⟩
  have HB11 := hide (HB10.out.trans (b11.mono HB10.out.size))
  clear b11
  go_wp2
  go_ret
  exact ⟨rfl, HB11.out⟩
end Go.Proofs.Ytpedhioicfjpkaa
