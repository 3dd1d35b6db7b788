/- portmanteauref10.Has; portmanteaulaw10.StatesUnlike walked. -/
import Derived.Test.YtpedhioicfjpkaaSt8
namespace Go.Proofs.Ytpedhioicfjpkaa
open Go.RowKit Go Go.Shelf
set_option linter.unusedVariables false
attribute [local go_sem high] eql_step eql_cell

theorem has_yes {w : World} {l : Int} {A : Option Addr} {m c v : Nat} {z : Int} {zs : List Int} (hm : zs.length = m) (hr : Reads w w.heap.size 1 A m (zs.map (Value.int .i64))) (hv : v < m) (hz : zs[v]? = some z) (hz0 : z ≠ 0) :
    Calls Try.prog 19 #[.agg #[.int .i64 l, .slice A m c], .int .i64 (v : Int)] w fun e w' => e = .returned (.bool true) ∧ Below w.heap.size w w' := by
  obtain ⟨b, off, rfl, hb, hc⟩ := hr.open_ (by omega) (by omega)
  obtain ⟨W0, hW0⟩ : ∃ W0, W0 = w.alloc (.cells #[.int .i64 l, .slice (some ⟨b, off, none⟩) m c] 24 (0, 0)) := ⟨_, rfl⟩
  have g1 : W0.heap[w.heap.size]? = some (.cells #[.int .i64 l, .slice (some ⟨b, off, none⟩) m c] 24 (0, 0)) := by rw [hW0]; exact heap_alloc_new w _
  have b0 : Below w.heap.size w W0 := by rw [hW0]; exact (Below.refl w.heap.size w).alloc (Nat.le_refl _) _
  have k0 := cell_blk g1 0
  have k1 := cell_blk g1 1
  have kz := (b0.cell (p := ⟨b, off + v, none⟩) hb).trans (hc v (.int .i64 z) (by simp [hz]))
  rw [hW0] at kz
  have t1 : (0 : Int) ≤ (v : Int) := by omega
  have t2 : (v : Int) < (m : Int) := by omega
  have t3 : (z != 0) = true := by simp [hz0]
  have HB := hide b0
  have HW0 := hide hW0
  clear hr hc g1 b0 hW0 hz hm hz0
  go_enter Try.func19, Try.ntmps19
  go_wp2_with fail
  try rw [← HW0.out]
  go_wp2
  go_ret
  exact ⟨ret_bool (by simp), HB.out⟩

theorem has_no {w : World} {l sym : Int} {A : Option Addr} {m c : Nat} {zs : List Int} (hm : zs.length = m) (hr : Reads w w.heap.size 1 A m (zs.map (Value.int .i64))) (hs : sym < 0 ∨ (0 ≤ sym ∧ (m : Int) ≤ sym) ∨ (∃ v : Nat, sym = (v : Int) ∧ v < m ∧ zs[v]? = some 0)) :
    Calls Try.prog 19 #[.agg #[.int .i64 l, .slice A m c], .int .i64 sym] w fun e w' => e = .returned (.bool false) ∧ Below w.heap.size w w' := by
  obtain ⟨W0, hW0⟩ : ∃ W0, W0 = w.alloc (.cells #[.int .i64 l, .slice A m c] 24 (0, 0)) := ⟨_, rfl⟩
  have g1 : W0.heap[w.heap.size]? = some (.cells #[.int .i64 l, .slice A m c] 24 (0, 0)) := by rw [hW0]; exact heap_alloc_new w _
  have b0 : Below w.heap.size w W0 := by rw [hW0]; exact (Below.refl w.heap.size w).alloc (Nat.le_refl _) _
  have k0 := cell_blk g1 0
  have k1 := cell_blk g1 1
  have HB := hide b0
  have HW0 := hide hW0
  rcases hs with hs | ⟨hs, hs'⟩ | ⟨v, rfl, hv, hz⟩
  · have t1 : ¬ 0 ≤ sym := by omega
    clear hr g1 b0 hW0 hm
    go_enter Try.func19, Try.ntmps19
    go_wp2_with fail
    try rw [← HW0.out]
    go_wp2
    go_ret
    exact ⟨ret_bool (by simp), HB.out⟩
  · have t1 : ¬ sym < (m : Int) := by omega
    clear hr g1 b0 hW0 hm
    go_enter Try.func19, Try.ntmps19
    go_wp2_with fail
    try rw [← HW0.out]
    go_wp2
    go_ret
    exact ⟨ret_bool (by simp), HB.out⟩
  · obtain ⟨b, off, rfl, hb, hc⟩ := hr.open_ (by omega) (by omega)
    have kz := (b0.cell (p := ⟨b, off + v, none⟩) hb).trans (hc v (.int .i64 0) (by simp [hz]))
    rw [hW0] at kz
    have t1 : (0 : Int) ≤ (v : Int) := by omega
    have t2 : (v : Int) < (m : Int) := by omega
    clear hr hc g1 b0 hW0 hz hm
    go_enter Try.func19, Try.ntmps19
    go_wp2_with fail
    try rw [← HW0.out]
    go_wp2
    go_ret
    exact ⟨ret_bool (by simp), HB.out⟩

theorem has_cases (sym : Int) {m : Nat} {zs : List Int} (hm : zs.length = m) : (sym < 0 ∨ (0 ≤ sym ∧ (m : Int) ≤ sym) ∨ (∃ v : Nat, sym = (v : Int) ∧ v < m ∧ zs[v]? = some 0)) ∨ (∃ (v : Nat) (z : Int), sym = (v : Int) ∧ v < m ∧ zs[v]? = some z ∧ z ≠ 0) := by
  by_cases h1 : sym < 0
  · exact .inl (.inl h1)
  · by_cases h2 : (m : Int) ≤ sym
    · exact .inl (.inr (.inl ⟨by omega, h2⟩))
    · obtain ⟨v, rfl⟩ := Int.eq_ofNat_of_zero_le (show 0 ≤ sym by omega)
      have hv : v < zs.length := by omega
      by_cases h3 : zs[v] = 0
      · exact .inl (.inr (.inr ⟨v, rfl, by omega, by rw [List.getElem?_eq_getElem hv, h3]⟩))
      · exact .inr ⟨v, zs[v], rfl, by omega, List.getElem?_eq_getElem hv, h3⟩

set_option maxRecDepth 4000 in
set_option maxHeartbeats 8000000 in
theorem walk_StatesUnlike {w : World} (l : Int) (A : Option Addr) (m c : Nat) (zs : List Int) (wl : (Lit.int .i64 l).wf = true) (hm : zs.length = m) (hr : Reads w w.heap.size 1 A m (zs.map (Value.int .i64))) (hok : ∀ z ∈ zs, (Lit.int .i64 z).wf = true) (hc' : c ≤ maxLen) (hc : m ≤ c) (a : Int) (wa : (Lit.int .i64 a).wf = true) (b : Int) (wb : (Lit.int .i64 b).wf = true) (sym : Int) (ws : (Lit.int .i64 sym).wf = true) :
    Calls Try.prog 4 #[.agg #[.int .i64 l, .slice A m c], .int .i64 a, .int .i64 b, .int .i64 sym] w fun e w' => e = .returned (.bool true) ∧ Below w.heap.size w w' := by
  have HKN := hide known_any
  obtain ⟨W0, hW0⟩ : ∃ W0, W0 = w.alloc (.cells #[.int .i64 l, .slice A m c] 24 (0, 0)) := ⟨_, rfl⟩
  have g0 : W0.heap[w.heap.size]? = some (.cells #[.int .i64 l, .slice A m c] 24 (0, 0)) := by rw [hW0]; exact heap_alloc_new w _
  have b0 : Below w.heap.size w W0 := by rw [hW0]; exact (Below.refl w.heap.size w).alloc (Nat.le_refl _) _
  have hs0 : w.heap.size < W0.heap.size := lt_of_heap g0
  have k00 := cell_blk g0 0
  have k01 := cell_blk g0 1
  have HB0 := hide b0
  have HW0 := hide hW0
  have HR0 := hide ((hr.below b0).more b0.size)
  have HG0 := hide g0
  have HS0 := hide hs0
  have HM := hide hm
  clear b0 hW0 hr g0 hs0
  by_cases hbig : 300 < m
  · have hb' : (300 : Int) < (m : Int) := by omega
    go_enter Try.func4, Try.ntmps4
    go_wp2_with fail
    try rw [← HW0.out]
    go_wp2_with fail
    refine (HKN.out _).mono ?_
    rintro e W9 ⟨rfl, b9⟩
    have HB9 := hide (HB0.out.trans (b9.mono HB0.out.size))
    clear b9
    go_wp2
    go_ret
    exact ⟨rfl, HB9.out⟩
  have hb' : ¬ (300 : Int) < (m : Int) := by omega
  have HMAY := hide (may_any 9 l A m c zs W0 (.inl rfl) hm HR0.out hok hc hc')
  by_cases hT : ¬ okT l zs
  · have HT := hide hT
    clear hT
    go_enter Try.func4, Try.ntmps4
    go_wp2_with fail
    try rw [← HW0.out]
    go_wp2_with fail
    refine HMAY.out.mono ?_
    rintro e W1 ⟨he, b1⟩
    obtain rfl : e = .returned (.int .i64 13) := he.elim (fun h => absurd h.1 HT.out) (fun h => h.2)
    have HB1 := hide (HB0.out.trans (b1.mono HB0.out.size))
    clear b1 he
    go_wp2_with fail
    refine (HKN.out _).mono ?_
    rintro e W9 ⟨rfl, b9⟩
    have HB9 := hide (HB1.out.trans (b9.mono HB1.out.size))
    clear b9
    go_wp2
    go_ret
    exact ⟨rfl, HB9.out⟩
  replace hT := Classical.not_not.1 hT
  obtain ⟨L, rfl⟩ := Int.eq_ofNat_of_zero_le hT.1.1
  have hL : L ≤ 9 := by have := hT.1; omega
  obtain ⟨hp0, hp1⟩ := pow_len hL
  have HSIZE := hide (fun W => size_any L W (by omega))
  have HBG := hide (fun W hr => begin_ok L A m c zs W hm hr hok hc hc' hT)
  have HT := hide hT
  obtain ⟨S, hS⟩ : ∃ S, S = 2 ^ L := ⟨_, rfl⟩
  rw [← hS] at HSIZE hp0 hp1
  have HSQ := hide hS
  clear hS hT hm hok
  rcases has_cases sym HM.out with hsym | ⟨v, z, rfl, hvm, hz, hz0⟩
  · have HSYM := hide hsym
    clear hsym
    go_enter Try.func4, Try.ntmps4
    go_wp2_with fail
    try rw [← HW0.out]
    go_wp2_with fail
    refine HMAY.out.mono ?_
    rintro e W1 ⟨he, b1⟩
    obtain rfl : e = .returned (.int .i64 0) := he.elim (fun h => h.2) (fun h => absurd HT.out h.1)
    have g1 := (b1.block _ HS0.out).trans HG0.out
    have k10 := cell_blk g1 0
    have k11 := cell_blk g1 1
    have HG1 := hide g1
    have HB1 := hide (HB0.out.trans (b1.mono HB0.out.size))
    have HR1 := hide ((HR0.out.below b1).more b1.size)
    have HS1 := hide (Nat.lt_of_lt_of_le HS0.out b1.size)
    clear b1 g1
    go_wp2_with fail
    refine (has_no HM.out HR1.out HSYM.out).mono ?_
    rintro e W2 ⟨rfl, b2⟩
    have g2 := (b2.block _ HS1.out).trans HG1.out
    have k20 := cell_blk g2 0
    have k21 := cell_blk g2 1
    have HG2 := hide g2
    have HB2 := hide (HB1.out.trans (b2.mono HB1.out.size))
    have HR2 := hide ((HR1.out.below b2).more b2.size)
    have HS2 := hide (Nat.lt_of_lt_of_le HS1.out b2.size)
    clear b2 g2
    go_wp2_with fail
    refine (HKN.out _).mono ?_
    rintro e W9 ⟨rfl, b9⟩
    have HB9 := hide (HB2.out.trans (b9.mono HB2.out.size))
    clear b9
    go_wp2
    go_ret
    exact ⟨rfl, HB9.out⟩
  have HVM := hide hvm
  have HZ := hide hz
  have HZ0 := hide hz0
  clear hz0
  by_cases ha : a < 0
  · clear hz hvm
    go_enter Try.func4, Try.ntmps4
    go_wp2_with fail
    try rw [← HW0.out]
    go_wp2_with fail
    refine HMAY.out.mono ?_
    rintro e W1 ⟨he, b1⟩
    obtain rfl : e = .returned (.int .i64 0) := he.elim (fun h => h.2) (fun h => absurd HT.out h.1)
    have g1 := (b1.block _ HS0.out).trans HG0.out
    have k10 := cell_blk g1 0
    have k11 := cell_blk g1 1
    have HG1 := hide g1
    have HB1 := hide (HB0.out.trans (b1.mono HB0.out.size))
    have HR1 := hide ((HR0.out.below b1).more b1.size)
    have HS1 := hide (Nat.lt_of_lt_of_le HS0.out b1.size)
    clear b1 g1
    go_wp2_with fail
    refine (has_yes HM.out HR1.out HVM.out HZ.out HZ0.out).mono ?_
    rintro e W2 ⟨rfl, b2⟩
    have g2 := (b2.block _ HS1.out).trans HG1.out
    have k20 := cell_blk g2 0
    have k21 := cell_blk g2 1
    have HG2 := hide g2
    have HB2 := hide (HB1.out.trans (b2.mono HB1.out.size))
    have HR2 := hide ((HR1.out.below b2).more b2.size)
    have HS2 := hide (Nat.lt_of_lt_of_le HS1.out b2.size)
    clear b2 g2
    go_wp2_with fail
    refine (HKN.out _).mono ?_
    rintro e W9 ⟨rfl, b9⟩
    have HB9 := hide (HB2.out.trans (b9.mono HB2.out.size))
    clear b9
    go_wp2
    go_ret
    exact ⟨rfl, HB9.out⟩
  by_cases hb : b < 0
  · clear hz hvm
    go_enter Try.func4, Try.ntmps4
    go_wp2_with fail
    try rw [← HW0.out]
    go_wp2_with fail
    refine HMAY.out.mono ?_
    rintro e W1 ⟨he, b1⟩
    obtain rfl : e = .returned (.int .i64 0) := he.elim (fun h => h.2) (fun h => absurd HT.out h.1)
    have g1 := (b1.block _ HS0.out).trans HG0.out
    have k10 := cell_blk g1 0
    have k11 := cell_blk g1 1
    have HG1 := hide g1
    have HB1 := hide (HB0.out.trans (b1.mono HB0.out.size))
    have HR1 := hide ((HR0.out.below b1).more b1.size)
    have HS1 := hide (Nat.lt_of_lt_of_le HS0.out b1.size)
    clear b1 g1
    go_wp2_with fail
    refine (has_yes HM.out HR1.out HVM.out HZ.out HZ0.out).mono ?_
    rintro e W2 ⟨rfl, b2⟩
    have g2 := (b2.block _ HS1.out).trans HG1.out
    have k20 := cell_blk g2 0
    have k21 := cell_blk g2 1
    have HG2 := hide g2
    have HB2 := hide (HB1.out.trans (b2.mono HB1.out.size))
    have HR2 := hide ((HR1.out.below b2).more b2.size)
    have HS2 := hide (Nat.lt_of_lt_of_le HS1.out b2.size)
    clear b2 g2
    go_wp2_with fail
    refine (HKN.out _).mono ?_
    rintro e W9 ⟨rfl, b9⟩
    have HB9 := hide (HB2.out.trans (b9.mono HB2.out.size))
    clear b9
    go_wp2
    go_ret
    exact ⟨rfl, HB9.out⟩
  by_cases ha2 : (S : Int) ≤ a
  · clear hz hvm
    go_enter Try.func4, Try.ntmps4
    go_wp2_with fail
    try rw [← HW0.out]
    go_wp2_with fail
    refine HMAY.out.mono ?_
    rintro e W1 ⟨he, b1⟩
    obtain rfl : e = .returned (.int .i64 0) := he.elim (fun h => h.2) (fun h => absurd HT.out h.1)
    have g1 := (b1.block _ HS0.out).trans HG0.out
    have k10 := cell_blk g1 0
    have k11 := cell_blk g1 1
    have HG1 := hide g1
    have HB1 := hide (HB0.out.trans (b1.mono HB0.out.size))
    have HR1 := hide ((HR0.out.below b1).more b1.size)
    have HS1 := hide (Nat.lt_of_lt_of_le HS0.out b1.size)
    clear b1 g1
    go_wp2_with fail
    refine (has_yes HM.out HR1.out HVM.out HZ.out HZ0.out).mono ?_
    rintro e W2 ⟨rfl, b2⟩
    have g2 := (b2.block _ HS1.out).trans HG1.out
    have k20 := cell_blk g2 0
    have k21 := cell_blk g2 1
    have HG2 := hide g2
    have HB2 := hide (HB1.out.trans (b2.mono HB1.out.size))
    have HR2 := hide ((HR1.out.below b2).more b2.size)
    have HS2 := hide (Nat.lt_of_lt_of_le HS1.out b2.size)
    clear b2 g2
    go_wp2_with fail
    refine (HSIZE.out _).mono ?_
    rintro e x1 ⟨rfl, rfl⟩
    go_wp2_with fail
    refine (HKN.out _).mono ?_
    rintro e W9 ⟨rfl, b9⟩
    have HB9 := hide (HB2.out.trans (b9.mono HB2.out.size))
    clear b9
    go_wp2
    go_ret
    exact ⟨rfl, HB9.out⟩
  by_cases hb2 : (S : Int) ≤ b
  · clear hz hvm
    go_enter Try.func4, Try.ntmps4
    go_wp2_with fail
    try rw [← HW0.out]
    go_wp2_with fail
    refine HMAY.out.mono ?_
    rintro e W1 ⟨he, b1⟩
    obtain rfl : e = .returned (.int .i64 0) := he.elim (fun h => h.2) (fun h => absurd HT.out h.1)
    have g1 := (b1.block _ HS0.out).trans HG0.out
    have k10 := cell_blk g1 0
    have k11 := cell_blk g1 1
    have HG1 := hide g1
    have HB1 := hide (HB0.out.trans (b1.mono HB0.out.size))
    have HR1 := hide ((HR0.out.below b1).more b1.size)
    have HS1 := hide (Nat.lt_of_lt_of_le HS0.out b1.size)
    clear b1 g1
    go_wp2_with fail
    refine (has_yes HM.out HR1.out HVM.out HZ.out HZ0.out).mono ?_
    rintro e W2 ⟨rfl, b2⟩
    have g2 := (b2.block _ HS1.out).trans HG1.out
    have k20 := cell_blk g2 0
    have k21 := cell_blk g2 1
    have HG2 := hide g2
    have HB2 := hide (HB1.out.trans (b2.mono HB1.out.size))
    have HR2 := hide ((HR1.out.below b2).more b2.size)
    have HS2 := hide (Nat.lt_of_lt_of_le HS1.out b2.size)
    clear b2 g2
    go_wp2_with fail
    refine (HSIZE.out _).mono ?_
    rintro e x1 ⟨rfl, rfl⟩
    go_wp2_with fail
    refine (HSIZE.out _).mono ?_
    rintro e x2 ⟨rfl, rfl⟩
    go_wp2_with fail
    refine (HKN.out _).mono ?_
    rintro e W9 ⟨rfl, b9⟩
    have HB9 := hide (HB2.out.trans (b9.mono HB2.out.size))
    clear b9
    go_wp2
    go_ret
    exact ⟨rfl, HB9.out⟩
  obtain ⟨n, hzn⟩ : ∃ n : Nat, absZ z = (n : Int) := ⟨(absZ z).toNat, by have := absZ_nonneg z; omega⟩
  have hn : 0 < n := by have := HZ0.out; unfold absZ at hzn; omega
  obtain ⟨sa, rfl⟩ := Int.eq_ofNat_of_zero_le (show 0 ≤ a by omega)
  obtain ⟨sb, rfl⟩ := Int.eq_ofNat_of_zero_le (show 0 ≤ b by omega)
  have hsa : sa < 2 ^ L := by rw [← HSQ.out]; omega
  have hsb : sb < 2 ^ L := by rw [← HSQ.out]; omega
  have HPR := hide (fun (W : World) (g st : Nat) (h : CoR W g L zs) (hst : st < 2 ^ L) => pred_ok (st := st) h HT.out hz hzn hn hst)
  have HPC := hide (fun (st : Nat) (hst : st < 2 ^ L) => pred_cell HT.out hz hzn hn hst)
  have HSA := hide hsa
  have HSB := hide hsb
  clear hz hvm hzn hsa hsb hn
  go_enter Try.func4, Try.ntmps4
  go_wp2_with fail
  try rw [← HW0.out]
  go_wp2_with fail
  refine HMAY.out.mono ?_
  rintro e W1 ⟨he, b1⟩
  obtain rfl : e = .returned (.int .i64 0) := he.elim (fun h => h.2) (fun h => absurd HT.out h.1)
  have g1 := (b1.block _ HS0.out).trans HG0.out
  have k10 := cell_blk g1 0
  have k11 := cell_blk g1 1
  have HG1 := hide g1
  have HB1 := hide (HB0.out.trans (b1.mono HB0.out.size))
  have HR1 := hide ((HR0.out.below b1).more b1.size)
  have HS1 := hide (Nat.lt_of_lt_of_le HS0.out b1.size)
  clear b1 g1
  go_wp2_with fail
  refine (has_yes HM.out HR1.out HVM.out HZ.out HZ0.out).mono ?_
  rintro e W2 ⟨rfl, b2⟩
  have g2 := (b2.block _ HS1.out).trans HG1.out
  have k20 := cell_blk g2 0
  have k21 := cell_blk g2 1
  have HG2 := hide g2
  have HB2 := hide (HB1.out.trans (b2.mono HB1.out.size))
  have HR2 := hide ((HR1.out.below b2).more b2.size)
  have HS2 := hide (Nat.lt_of_lt_of_le HS1.out b2.size)
  clear b2 g2
  go_wp2_with fail
  refine (HSIZE.out _).mono ?_
  rintro e x1 ⟨rfl, rfl⟩
  go_wp2_with fail
  refine (HSIZE.out _).mono ?_
  rintro e x2 ⟨rfl, rfl⟩
  go_wp2_with fail
  refine (HBG.out _ HR2.out).mono ?_
  rintro e W3 ⟨g, rfl, hco, _, b3⟩
  have HB3 := hide (HB2.out.trans (b3.mono HB2.out.size))
  have HCO3 := hide hco
  clear b3 hco k20 k21
  go_wp2_with fail
  refine (HPR.out _ _ _ HCO3.out HSA.out).mono ?_
  rintro e W4 ⟨⟨ka, hka, rfl⟩, b4⟩
  have HCO4 := hide (HCO3.out.below b4)
  obtain ⟨ra, hra⟩ : ∃ ra, ra = (sa + 2 ^ L) % 2 ^ predN 64 (sa + 2 ^ L) n := ⟨_, rfl⟩
  obtain ⟨na, hna⟩ : ∃ na, na = predN 64 (sa + 2 ^ L) n := ⟨_, rfl⟩
  rw [← hra, ← hna]
  obtain ⟨W5, hW5⟩ : ∃ W5, W5 = W4.alloc (.cells #[.int .i64 (ka : Int), .int .u64 (ra : Int), .int .i64 (na : Int)] 33 (0, 0)) := ⟨_, rfl⟩
  have hg5 : W5.heap[W4.heap.size]? = some (.cells #[.int .i64 (ka : Int), .int .u64 (ra : Int), .int .i64 (na : Int)] 33 (0, 0)) := by rw [hW5]; exact heap_alloc_new W4 _
  have HB5 : Hid (Below w.heap.size w W5) := by rw [hW5]; exact (HB3.out.trans (b4.mono HB3.out.size)).alloc (Nat.le_trans HB3.out.size b4.size) _
  have HCO5 : Hid (CoR W5 g L zs) := by rw [hW5]; exact HCO4.out.below ((Below.refl _ _).alloc (Nat.le_refl _) _)
  have HG5 := hide hg5
  have HW5 := hide hW5
  have HRA := hide hra
  have HNA := hide hna
  have HKA := hide hka
  clear hra hna hka hW5 hg5 b4
  go_wp2_with fail
  try rw [← HW5.out]
  refine (HPR.out _ _ _ HCO5.out HSB.out).mono ?_
  rintro e W6 ⟨⟨kb, hkb, rfl⟩, b6⟩
  obtain ⟨rb, hrb⟩ : ∃ rb, rb = (sb + 2 ^ L) % 2 ^ predN 64 (sb + 2 ^ L) n := ⟨_, rfl⟩
  obtain ⟨nb, hnb⟩ : ∃ nb, nb = predN 64 (sb + 2 ^ L) n := ⟨_, rfl⟩
  rw [← hrb, ← hnb]
  obtain ⟨W7, hW7⟩ : ∃ W7, W7 = W6.alloc (.cells #[.int .i64 (kb : Int), .int .u64 (rb : Int), .int .i64 (nb : Int)] 33 (0, 0)) := ⟨_, rfl⟩
  have hg7 : W7.heap[W6.heap.size]? = some (.cells #[.int .i64 (kb : Int), .int .u64 (rb : Int), .int .i64 (nb : Int)] 33 (0, 0)) := by rw [hW7]; exact heap_alloc_new W6 _
  have hg75 : W7.heap[W4.heap.size]? = some (.cells #[.int .i64 (ka : Int), .int .u64 (ra : Int), .int .i64 (na : Int)] 33 (0, 0)) := by rw [hW7]; exact alloc_far ((b6.block _ (lt_of_heap HG5.out)).trans HG5.out) _
  have HB7 : Hid (Below w.heap.size w W7) := by rw [hW7]; exact (HB5.out.trans (b6.mono HB5.out.size)).alloc (Nat.le_trans HB5.out.size b6.size) _
  have a0 := cell_blk hg75 0
  have a1 := cell_blk hg75 1
  have a2 := cell_blk hg75 2
  have c0 := cell_blk hg7 0
  have c1 := cell_blk hg7 1
  have c2 := cell_blk hg7 2
  rw [hW7] at a0 a1 a2 c0 c1 c2
  -- the two steps are the same just where the states are
  have hiff : eqS ((ka : Int), (ra : Int), (na : Int)) ((kb : Int), (rb : Int), (nb : Int)) = ((sa : Int) == (sb : Int)) := by
    by_cases hab : sa = sb
    · subst hab
      rw [HKA.out] at hkb
      injection hkb with hkb
      rw [← HRA.out] at hrb
      rw [← HNA.out] at hnb
      rw [hkb, hrb, hnb, eqS_self]
      simp
    · have h2 : ((sa : Int) == (sb : Int)) = false := by simp; omega
      rw [h2]
      refine eqS_ne fun he => hab ?_
      injection he with e1 e2
      injection e2 with e2 e3
      obtain ⟨k1, _, p1, p2, p3, p4, _, p6⟩ := HPC.out sa HSA.out
      obtain ⟨k2, _, q1, q2, q3, q4, _, q6⟩ := HPC.out sb HSB.out
      rw [HKA.out] at p4
      injection p4 with p4
      rw [hkb] at q4
      injection q4 with q4
      have hkk : ka = kb := by omega
      rw [← p4] at p6
      rw [← q4, ← hkk, p6] at q6
      injection q6 with q6
      injection q6 with _ q6
      injection q6 with q7 q8
      have hnn : predN 64 (sa + 2 ^ L) n = predN 64 (sb + 2 ^ L) n := by omega
      have hX : predX L n sa * 2 ^ predN 64 (sa + 2 ^ L) n = predX L n sb * 2 ^ predN 64 (sb + 2 ^ L) n := by omega
      have d1 := Nat.div_add_mod (sa + 2 ^ L) (2 ^ predN 64 (sa + 2 ^ L) n)
      have d2 := Nat.div_add_mod (sb + 2 ^ L) (2 ^ predN 64 (sb + 2 ^ L) n)
      have f1 : predX L n sa = (sa + 2 ^ L) / 2 ^ predN 64 (sa + 2 ^ L) n := rfl
      have f2 : predX L n sb = (sb + 2 ^ L) / 2 ^ predN 64 (sb + 2 ^ L) n := rfl
      rw [← f1, Nat.mul_comm] at d1
      rw [← f2, Nat.mul_comm] at d2
      have h3 := HRA.out
      omega
  have HIFF := hide hiff
  have HW7 := hide hW7
  clear hiff hW7 hg7 hg75 b6 hkb hrb hnb HPR HPC
  obtain ⟨bb, hbb⟩ : ∃ bb : Bool, bb = ((sa : Int) == (sb : Int)) := ⟨_, rfl⟩
  have hi := HIFF.out
  rw [← hbb] at hi
  have hbe : (bb == bb) = true := by simp
  have hbb2 := hbb.symm
  clear hbb
  go_wp2_with fail
  rw [← HW7.out]
  refine (HKN.out _).mono ?_
  rintro e W8 ⟨rfl, b8⟩
  have HB8 := hide (HB7.out.trans (b8.mono HB7.out.size))
  clear b8
  go_wp2
  go_ret
  exact ⟨rfl, HB8.out⟩
end Go.Proofs.Ytpedhioicfjpkaa
