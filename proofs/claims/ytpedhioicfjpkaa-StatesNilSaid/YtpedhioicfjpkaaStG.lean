/- portmanteaulaw10.StatesOnto walked. -/
import Derived.Test.YtpedhioicfjpkaaStD
import Derived.Test.YtpedhioicfjpkaaStB
namespace Go.Proofs.Ytpedhioicfjpkaa
open Go.RowKit Go Go.Shelf
set_option linter.unusedVariables false
attribute [local go_sem high] eql_step eql_cell

theorem count_take_mono (pl : List Int) (v : Int) {i s : Nat} (h : i ≤ s) : (pl.take i).count v ≤ (pl.take s).count v := by
  rw [show s = i + (s - i) by omega, List.take_add, List.count_append]
  omega
/-- An index is told by its symbol and by how often that stood before. -/
theorem posN_self {pl : List Int} {v : Int} {S s : Nat} (hS : pl.length = S) (hs : s < S) (hp : pl[s]? = some v) : (posN pl v S)[(pl.take s).count v]? = some s := by
  have hcnt : (pl.take s).count v < (posN pl v S).length := by
    have e : pl.take S = pl := List.take_of_length_le (by omega)
    rw [posN_count pl v S (by omega), e]
    exact count_take_lt hp
  obtain ⟨i, h1, h2, h3, h4⟩ := posN_at pl v S _ (by omega) hcnt
  have step : ∀ {a b : Nat}, pl[a]? = some v → a < b → (pl.take a).count v < (pl.take b).count v := by
    intro a b ha hab
    have e : (pl.take (a + 1)).count v = (pl.take a).count v + 1 := by rw [List.take_add_one, ha, Option.toList_some, List.count_append, List.count_singleton_self]
    have := count_take_mono pl v (show a + 1 ≤ b from hab)
    omega
  have : i = s := by
    rcases Nat.lt_trichotomy i s with h | h | h
    · have := step h3 h; omega
    · exact h
    · have := step hp h; omega
  rw [h1, this]
/-- A state is the predecessor of each of its next states. -/
theorem onto_pred {L : Nat} {n x r t : Nat} (hL : L ≤ 9) (hn : 0 < n) (h1 : n ≤ x) (h2 : x < 2 * n) (h3 : x < 2 ^ (L + 1)) (hr : r < 2 ^ bitsX L x) (ht : t + 2 ^ L = x * 2 ^ bitsX L x + r) :
    predN 64 (t + 2 ^ L) n = bitsX L x ∧ predX L n t = x ∧ (t + 2 ^ L) % 2 ^ bitsX L x = r := by
  obtain ⟨a1, a2, a3, a4⟩ := bitsX_fact (L := L) (x := x) hL (by omega) h3
  have hp0 : 0 < 2 ^ bitsX L x := Nat.pow_pos (by omega)
  have hp10 : 2 ^ (L + 1) ≤ 2 ^ 10 := Nat.pow_le_pow_right (by omega) (by omega)
  have h10 : (2 : Nat) ^ 10 = 1024 := by decide
  rw [Nat.add_mul, Nat.one_mul] at a4
  have hdiv : (t + 2 ^ L) / 2 ^ bitsX L x = x := by
    rw [ht, Nat.mul_comm, Nat.mul_add_div hp0, Nat.div_eq_of_lt hr, Nat.add_zero]
  have hmod : (t + 2 ^ L) % 2 ^ bitsX L x = r := by
    rw [ht, Nat.mul_comm, Nat.mul_add_mod, Nat.mod_eq_of_lt hr]
  have hN : predN 64 (t + 2 ^ L) n = bitsX L x := by
    have hxx : x ≤ x * 2 ^ bitsX L x := Nat.le_mul_of_pos_right _ hp0
    refine predN_least 64 _ n _ hn (by omega) (by omega) (by rw [hdiv]; exact h2) fun i hi => ?_
    rw [Nat.le_div_iff_mul_le (Nat.pow_pos (by omega))]
    have e : 2 ^ bitsX L x = 2 * 2 ^ (bitsX L x - 1 - i) * 2 ^ i := by
      rw [Nat.mul_assoc, ← Nat.pow_add, show bitsX L x - 1 - i + i = bitsX L x - 1 by omega, ← Nat.pow_succ', Nat.succ_eq_add_one, Nat.sub_add_cancel (by omega)]
    have hq : 1 ≤ 2 ^ (bitsX L x - 1 - i) := Nat.pow_pos (by omega)
    have h5 : 2 * n * 2 ^ i ≤ x * (2 * 2 ^ (bitsX L x - 1 - i)) * 2 ^ i := by
      refine Nat.mul_le_mul_right _ ?_
      have := Nat.mul_le_mul h1 (show 2 ≤ 2 * 2 ^ (bitsX L x - 1 - i) by omega)
      omega
    rw [Nat.mul_assoc x, ← e] at h5
    omega
  exact ⟨hN, by unfold predX; rw [hN, hdiv], hmod⟩

set_option maxRecDepth 4000 in
set_option maxHeartbeats 8000000 in
theorem walk_StatesOnto {w : World} (l : Int) (A : Option Addr) (m c : Nat) (zs : List Int) (wl : (Lit.int .i64 l).wf = true) (hm : zs.length = m) (hr : Reads w w.heap.size 1 A m (zs.map (Value.int .i64))) (hok : ∀ z ∈ zs, (Lit.int .i64 z).wf = true) (hc' : c ≤ maxLen) (hc : m ≤ c) (st : Int) (wst : (Lit.int .i64 st).wf = true) (bt : Int) (wbt : (Lit.int .u64 bt).wf = true) :
    Calls Try.prog 7 #[.agg #[.int .i64 l, .slice A m c], .int .i64 st, .int .u64 bt] w fun e w' => e = .returned (.bool true) ∧ Below w.heap.size w w' := by
  have HKN := hide known_any
  obtain ⟨W0, hW0⟩ : ∃ W0, W0 = w.alloc (.cells #[.int .i64 l, .slice A m c] 24 (0, 0)) := ⟨_, rfl⟩
  have g0 : W0.heap[w.heap.size]? = some (.cells #[.int .i64 l, .slice A m c] 24 (0, 0)) := by rw [hW0]; exact heap_alloc_new w _
  have b0 : Below w.heap.size w W0 := by rw [hW0]; exact (Below.refl w.heap.size w).alloc (Nat.le_refl _) _
  have hs0 : w.heap.size < W0.heap.size := lt_of_heap g0
  have k00 := cell_blk g0 0
  have k01 := cell_blk g0 1
  have HB0 := hide b0
  have HW0 := hide hW0
  have HR0 := hide ((hr.below b0).more b0.size)
  have HG0 := hide g0
  have HS0 := hide hs0
  have HM := hide hm
  clear b0 hW0 hr g0 hs0
  by_cases hbig : 300 < m
  · have hb' : (300 : Int) < (m : Int) := by omega
    go_enter Try.func7, Try.ntmps7
    go_wp2_with fail
    try rw [← HW0.out]
    go_wp2_with fail
    refine (HKN.out _).mono ?_
    rintro e W9 ⟨rfl, b9⟩
    have HB9 := hide (HB0.out.trans (b9.mono HB0.out.size))
    clear b9
    go_wp2
    go_ret
    exact ⟨rfl, HB9.out⟩
  have hb' : ¬ (300 : Int) < (m : Int) := by omega
  have HMAY := hide (may_any 9 l A m c zs W0 (.inl rfl) hm HR0.out hok hc hc')
  by_cases hT : ¬ okT l zs
  · have HT := hide hT
    clear hT
    go_enter Try.func7, Try.ntmps7
    go_wp2_with fail
    try rw [← HW0.out]
    go_wp2_with fail
    refine HMAY.out.mono ?_
    rintro e W1 ⟨he, b1⟩
    obtain rfl : e = .returned (.int .i64 13) := he.elim (fun h => absurd h.1 HT.out) (fun h => h.2)
    have HB1 := hide (HB0.out.trans (b1.mono HB0.out.size))
    clear b1 he
    go_wp2_with fail
    refine (HKN.out _).mono ?_
    rintro e W9 ⟨rfl, b9⟩
    have HB9 := hide (HB1.out.trans (b9.mono HB1.out.size))
    clear b9
    go_wp2
    go_ret
    exact ⟨rfl, HB9.out⟩
  replace hT := Classical.not_not.1 hT
  obtain ⟨L, rfl⟩ := Int.eq_ofNat_of_zero_le hT.1.1
  have hL : L ≤ 9 := by have := hT.1; omega
  obtain ⟨hp0, hp1⟩ := pow_len hL
  have HSIZE := hide (fun W => size_any L W (by omega))
  have HBG := hide (fun W hr => begin_ok L A m c zs W hm hr hok hc hc' hT)
  have HT := hide hT
  obtain ⟨S, hS⟩ : ∃ S, S = 2 ^ L := ⟨_, rfl⟩
  rw [← hS] at HSIZE hp0 hp1
  have HSQ := hide hS
  clear hS hT hm hok
  by_cases ha : st < 0
  · go_enter Try.func7, Try.ntmps7
    go_wp2_with fail
    try rw [← HW0.out]
    go_wp2_with fail
    refine HMAY.out.mono ?_
    rintro e W1 ⟨he, b1⟩
    obtain rfl : e = .returned (.int .i64 0) := he.elim (fun h => h.2) (fun h => absurd HT.out h.1)
    have g1 := (b1.block _ HS0.out).trans HG0.out
    have k10 := cell_blk g1 0
    have k11 := cell_blk g1 1
    have HG1 := hide g1
    have HB1 := hide (HB0.out.trans (b1.mono HB0.out.size))
    have HR1 := hide ((HR0.out.below b1).more b1.size)
    have HS1 := hide (Nat.lt_of_lt_of_le HS0.out b1.size)
    clear b1 g1
    go_wp2_with fail
    refine (HKN.out _).mono ?_
    rintro e W9 ⟨rfl, b9⟩
    have HB9 := hide (HB1.out.trans (b9.mono HB1.out.size))
    clear b9
    go_wp2
    go_ret
    exact ⟨rfl, HB9.out⟩
  by_cases ha2 : (S : Int) ≤ st
  · go_enter Try.func7, Try.ntmps7
    go_wp2_with fail
    try rw [← HW0.out]
    go_wp2_with fail
    refine HMAY.out.mono ?_
    rintro e W1 ⟨he, b1⟩
    obtain rfl : e = .returned (.int .i64 0) := he.elim (fun h => h.2) (fun h => absurd HT.out h.1)
    have g1 := (b1.block _ HS0.out).trans HG0.out
    have k10 := cell_blk g1 0
    have k11 := cell_blk g1 1
    have HG1 := hide g1
    have HB1 := hide (HB0.out.trans (b1.mono HB0.out.size))
    have HR1 := hide ((HR0.out.below b1).more b1.size)
    have HS1 := hide (Nat.lt_of_lt_of_le HS0.out b1.size)
    clear b1 g1
    go_wp2_with fail
    refine (HSIZE.out _).mono ?_
    rintro e x1 ⟨rfl, rfl⟩
    go_wp2_with fail
    refine (HKN.out _).mono ?_
    rintro e W9 ⟨rfl, b9⟩
    have HB9 := hide (HB1.out.trans (b9.mono HB1.out.size))
    clear b9
    go_wp2
    go_ret
    exact ⟨rfl, HB9.out⟩
  obtain ⟨s, rfl⟩ := Int.eq_ofNat_of_zero_le (show 0 ≤ st by omega)
  obtain ⟨hb0, hb1⟩ := bounds_u64 wbt
  obtain ⟨bt, rfl⟩ := Int.eq_ofNat_of_zero_le hb0
  have hs : s < 2 ^ L := by rw [← HSQ.out]; omega
  obtain ⟨v, x, n, z, hv, hz, hz1, hzn, hn, hpl, hcell, hx, hx2, hx3, _⟩ := cell_fact HT.out hs
  obtain ⟨a1, a2, a3, a4⟩ := bitsX_fact (L := L) (x := x) hL (by omega) hx3
  have hp0' : 0 < 2 ^ bitsX L x := Nat.pow_pos (by omega)
  obtain ⟨r, hr⟩ : ∃ r, r = bt % 2 ^ bitsX L x := ⟨_, rfl⟩
  have hrB : r < 2 ^ bitsX L x := by rw [hr]; exact Nat.mod_lt _ hp0'
  obtain ⟨t, ht⟩ : ∃ t, t = x * 2 ^ bitsX L x + r - 2 ^ L := ⟨_, rfl⟩
  rw [Nat.add_mul, Nat.one_mul, Nat.pow_succ] at a4
  have htL : t < 2 ^ L := by omega
  obtain ⟨o1, o2, o3⟩ := onto_pred (L := L) (n := n) (x := x) (r := r) (t := t) hL hn (by omega) hx2 hx3 hrB (by omega)
  have hat := posN_self (spreadL_length (2 ^ L) zs) hs hpl
  have hpr := fun (W : World) (g : Nat) (h : CoR W g L zs) => pred_ok (st := t) h HT.out hz hzn hn htL
  rw [o1, o2, o3, show x - n = ((spreadL (2 ^ L) zs).take s).count (v : Int) by omega, hat] at hpr
  obtain ⟨Bs, hBs⟩ : ∃ Bs : Int, Bs = (x : Int) * 2 ^ bitsX L x - ((2 ^ L : Nat) : Int) := ⟨_, rfl⟩
  have hxi : (x : Int) * 2 ^ bitsX L x = ((x * 2 ^ bitsX L x : Nat) : Int) := by simp
  have hLb : 2 ^ L ≤ 512 := (pow_len hL).2
  have hto : wrap64 (Bs + (r : Int)) = (t : Int) := by rw [hBs, hxi]; unfold wrap64; omega
  obtain ⟨N, hN⟩ : ∃ N, N = bitsX L x := ⟨_, rfl⟩
  rw [← hBs, ← hN] at hcell
  rw [← hN] at hpr hrB hr a1 hp0'
  have hcl : clampN (N : Int) = N := by unfold clampN; omega
  have hN9 : N ≤ 9 := by omega
  have hPN : 2 ^ N ≤ 2 ^ 9 := Nat.pow_le_pow_right (by omega) hN9
  have h29 : (2 : Nat) ^ 9 = 512 := by decide
  have h64 : (2 : Nat) ^ 64 = 18446744073709551616 := by decide
  have hr64 : r < 2 ^ 64 := by omega
  have HPR := hide hpr
  have HCL := hide (fun (W : World) (g : Nat) (h : CoR W g L zs) => cellm_ok (st := s) (t := ((v : Int), (N : Int), Bs)) h hs hcell)
  have HN1 := hide (fun (W : World) (g : Nat) (h : CoR W g L zs) => (nextm_ok (s := s) (t := ((v : Int), (N : Int), Bs)) h hs hcell r hr64).mono (R' := fun e w' => e = .returned (.tuple #[.int .i64 (t : Int), .int .i64 0]) ∧ Below W.heap.size W w') (fun e w' ⟨h1, h2⟩ => ⟨by rw [h1, hcl, Nat.mod_eq_of_lt hrB, hto], h2⟩))
  obtain ⟨PB, hPB⟩ : ∃ PB, PB = 2 ^ N := ⟨_, rfl⟩
  have hPi : (2 : Int) ^ N = (PB : Int) := by rw [hPB]; simp
  rw [← hPB] at hPN hrB hr hp0'
  have hwP : IntKind.u64.wrap ((2 : Int) ^ N) = (PB : Int) := by rw [hPi, IntKind.wrap_u64]; omega
  have hwP1 : IntKind.u64.wrap (1 * (2 : Int) ^ N) = (PB : Int) := by rw [Int.one_mul, hwP]
  have hrem : (bt : Int) % (PB : Int) = (r : Int) := by rw [hr]; simp
  have hwr : IntKind.u64.wrap (r : Int) = (r : Int) := by rw [IntKind.wrap_u64]; omega
  have hPB0 : ((PB : Int) == 0) = false := by simp; omega
  have hPB1 : PB ≠ 0 := by omega
  have hPB2 : (0 : Int) < (PB : Int) := by omega
  have t3 : ¬ (N : Int) < 0 := by omega
  have t4 : ¬ (9 : Int) < (N : Int) := by omega
  have hee := eqS_self ((s : Int), (r : Int), (N : Int))
  clear hs hv hz hz1 hzn hn hpl hcell hx hx2 hx3 a1 a2 a3 a4 hp0' hr hrB ht htL o1 o2 o3 hat hpr hBs hxi hto hN hcl hN9 hPN h29 h64 hr64 hPB hPi hb0 hb1
  go_enter Try.func7, Try.ntmps7
  go_wp2_with fail
  try rw [← HW0.out]
  go_wp2_with fail
  refine HMAY.out.mono ?_
  rintro e W1 ⟨he, b1⟩
  obtain rfl : e = .returned (.int .i64 0) := he.elim (fun h => h.2) (fun h => absurd HT.out h.1)
  have g1 := (b1.block _ HS0.out).trans HG0.out
  have k10 := cell_blk g1 0
  have k11 := cell_blk g1 1
  have HG1 := hide g1
  have HB1 := hide (HB0.out.trans (b1.mono HB0.out.size))
  have HR1 := hide ((HR0.out.below b1).more b1.size)
  have HS1 := hide (Nat.lt_of_lt_of_le HS0.out b1.size)
  clear b1 g1
  go_wp2_with fail
  refine (HSIZE.out _).mono ?_
  rintro e x1 ⟨rfl, rfl⟩
  go_wp2_with fail
  refine (HBG.out _ HR1.out).mono ?_
  rintro e W3 ⟨g, rfl, hco, _, b3⟩
  have HB3 := hide (HB1.out.trans (b3.mono HB1.out.size))
  have HCO3 := hide hco
  clear b3 hco k10 k11
  go_wp2_with fail
  refine (HCL.out _ _ HCO3.out).mono ?_
  rintro e W6 ⟨rfl, b6⟩
  obtain ⟨W7, hW7⟩ : ∃ W7, W7 = W6.alloc (.cells #[.int .i64 (v : Int), .int .i64 (N : Int), .int .i64 Bs] 53 (0, 0)) := ⟨_, rfl⟩
  have hg7 : W7.heap[W6.heap.size]? = some (.cells #[.int .i64 (v : Int), .int .i64 (N : Int), .int .i64 Bs] 53 (0, 0)) := by rw [hW7]; exact heap_alloc_new W6 _
  have HB7 : Hid (Below w.heap.size w W7) := by rw [hW7]; exact (HB3.out.trans (b6.mono HB3.out.size)).alloc (Nat.le_trans HB3.out.size b6.size) _
  have HCO7 : Hid (CoR W7 g L zs) := by rw [hW7]; exact (HCO3.out.below b6).below ((Below.refl _ _).alloc (Nat.le_refl _) _)
  have c0 := cell_blk hg7 0
  have c1 := cell_blk hg7 1
  rw [hW7] at c0 c1
  have HG7 := hide hg7
  have HW7 := hide hW7
  clear hW7 hg7 b6 HCO3
  go_wp2_with fail
  try rw [← HW7.out]
  refine (HN1.out _ _ HCO7.out).mono ?_
  rintro e W9 ⟨rfl, b9⟩
  have hg9 := (b9.block _ (lt_of_heap HG7.out)).trans HG7.out
  have HB9 := hide (HB7.out.trans (b9.mono HB7.out.size))
  have HCO9 := hide (HCO7.out.below b9)
  have HG9 := hide hg9
  have q0 := cell_blk hg9 0
  clear b9 hg9 c0 c1
  go_wp2_with fail
  refine (HPR.out _ _ HCO9.out).mono ?_
  rintro e W10 ⟨⟨ka, hka, rfl⟩, b10⟩
  injection hka with hka
  subst hka
  obtain ⟨W11, hW11⟩ : ∃ W11, W11 = W10.alloc (.cells #[.int .i64 (s : Int), .int .u64 (r : Int), .int .i64 (N : Int)] 33 (0, 0)) := ⟨_, rfl⟩
  have hg11 : W11.heap[W10.heap.size]? = some (.cells #[.int .i64 (s : Int), .int .u64 (r : Int), .int .i64 (N : Int)] 33 (0, 0)) := by rw [hW11]; exact heap_alloc_new W10 _
  have hg117 : W11.heap[W6.heap.size]? = some (.cells #[.int .i64 (v : Int), .int .i64 (N : Int), .int .i64 Bs] 53 (0, 0)) := by rw [hW11]; exact alloc_far ((b10.block _ (lt_of_heap HG9.out)).trans HG9.out) _
  have HB11 : Hid (Below w.heap.size w W11) := by rw [hW11]; exact (HB9.out.trans (b10.mono HB9.out.size)).alloc (Nat.le_trans HB9.out.size b10.size) _
  have a0 : W11.cell? ⟨W10.heap.size, 0, none⟩ = some (.int .i64 (s : Int)) := cell_blk hg11 0
  have a1 : W11.cell? ⟨W10.heap.size, 1, none⟩ = some (.int .u64 (r : Int)) := cell_blk hg11 1
  have a2 : W11.cell? ⟨W10.heap.size, 2, none⟩ = some (.int .i64 (N : Int)) := cell_blk hg11 2
  have a3 : W11.cell? ⟨W6.heap.size, 1, none⟩ = some (.int .i64 (N : Int)) := cell_blk hg117 1
  have lt0 := lt_of_heap hg11
  have lt1 := lt_of_heap hg117
  rw [hW11] at a0 a1 a2 a3
  have HW11 := hide hW11
  clear hW11 hg11 hg117 b10 q0
  go_wp2_with fail
  try rw [← HW11.out]
  refine (HKN.out _).mono ?_
  rintro e W12 ⟨rfl, b12⟩
  have HB12 := hide (HB11.out.trans (b12.mono HB11.out.size))
  clear b12
  go_wp2
  go_ret
  exact ⟨rfl, HB12.out⟩
end Go.Proofs.Ytpedhioicfjpkaa
