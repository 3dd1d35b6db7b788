/- portmanteaulaw09.CellsBits walked. -/
import Derived.Test.YtlbpefahhecbnaaCeN
import Derived.Test.YtlbpefahhecbnaaCeK
import Derived.Test.YtlbpefahhecbnaaCeI
namespace Go.Proofs.Ytlbpefahhecbnaa
open Go.RowKit Go
set_option linter.unusedVariables false

def lastF (L : Nat) (zs pl : List Int) (k : Nat) (u : Nat) : Int := if (pl.take k).count (u : Int) = 0 then 0 else ((bitsX L ((absZ (normAt zs u)).toNat + (pl.take k).count (u : Int) - 1) + 1 : Nat) : Int)
def lastZ (L : Nat) (zs pl : List Int) (m k : Nat) : List Int := (List.range m).map (lastF L zs pl k)
theorem lastZ_length (L : Nat) (zs pl : List Int) (m k : Nat) : (lastZ L zs pl m k).length = m := by simp [lastZ]
theorem lastZ_zero (L : Nat) (zs pl : List Int) (m : Nat) : lastZ L zs pl m 0 = List.replicate m 0 := by
  apply List.ext_getElem?
  intro i
  unfold lastZ lastF
  rcases Nat.lt_or_ge i m with h | h
  · simp [h]
  · rw [List.getElem?_eq_none (by simpa using h), List.getElem?_eq_none (by simpa using h)]
theorem lastZ_get (L : Nat) (zs pl : List Int) {m k v : Nat} (h : v < m) : (lastZ L zs pl m k)[v]? = some (lastF L zs pl k v) := by simp [lastZ, h]
theorem lastF_same {L : Nat} {zs pl : List Int} {k v : Nat} (hp : pl[k]? = some (v : Int)) : lastF L zs pl (k + 1) v = ((bitsX L ((absZ (normAt zs v)).toNat + (pl.take k).count (v : Int)) + 1 : Nat) : Int) := by
  unfold lastF
  rw [take_snoc_some hp, List.count_append, List.count_singleton_self, if_neg (by omega)]
  rfl
theorem lastZ_set {L : Nat} {zs pl : List Int} {m k v : Nat} (hp : pl[k]? = some (v : Int)) (hv : v < m) : (lastZ L zs pl m k).set v ((bitsX L ((absZ (normAt zs v)).toNat + (pl.take k).count (v : Int)) + 1 : Nat) : Int) = lastZ L zs pl m (k + 1) := by
  apply List.ext_getElem?
  intro i
  rcases Nat.lt_or_ge i m with h | h
  · rw [List.getElem?_set, lastZ_get (k := k + 1) L zs pl h]
    by_cases hiv : v = i
    · subst hiv
      rw [if_pos rfl, if_pos (by rw [lastZ_length]; exact h), lastF_same hp]
    · rw [if_neg hiv, lastZ_get (k := k) L zs pl h]
      unfold lastF
      have h0 : [(v : Int)].count (i : Int) = 0 := by rw [List.count_eq_zero]; simp; omega
      rw [take_snoc_some hp, List.count_append, h0]
      simp only [Nat.add_zero]
  · rw [List.getElem?_eq_none (by rw [List.length_set, lastZ_length]; exact h), List.getElem?_eq_none (by rw [lastZ_length]; exact h)]

theorem bitsX_anti {L x y : Nat} (hxy : x ≤ y) (hy0 : 0 < y) (hy : y < 2 ^ 64) (hx0 : 0 < x) : bitsX L y ≤ bitsX L x := by
  obtain ⟨_, _, h2⟩ := bitLen_bounds y hy0 hy
  have hb : Lib.bitLen y ≤ 64 := Lib.bitLen_le y 64 (by omega) hy
  have := Lib.bitLen_le x (Lib.bitLen y) hb (by omega)
  unfold bitsX
  omega
/-- The bits of a state of a power of two. -/
theorem bitsX_pow {L j x : Nat} (h0 : 2 ^ j ≤ x) (h1 : x < 2 ^ (j + 1)) (hj : j ≤ 9) : bitsX L x = L - j := by
  have hp : 2 ^ (j + 1) ≤ 2 ^ 10 := Nat.pow_le_pow_right (by omega) (by omega)
  have hp10 : (2 : Nat) ^ 10 = 1024 := by decide
  have hpos : 0 < 2 ^ j := Nat.pow_pos (by omega)
  obtain ⟨a0, a1, a2⟩ := bitLen_bounds x (by omega) (by omega)
  have h3 := Lib.bitLen_le x (j + 1) (by omega) h1
  have h4 : j < Lib.bitLen x := by
    rcases Nat.lt_or_ge j (Lib.bitLen x) with h | h
    · exact h
    · have := Nat.pow_le_pow_right (n := 2) (by omega) h
      omega
  unfold bitsX
  omega
/-- What the law asks of the bits of a cell. -/
theorem bits_law {L n x : Nat} (hL : L ≤ 9) (hn : 0 < n) (hnx : n ≤ x) (hx2 : x < 2 * n) (hx : x < 2 ^ (L + 1)) (hnS : n ≤ 2 ^ L) : 2 ^ bitsX L x * n < 2 * 2 ^ L ∧ 2 ^ L < 2 * (2 ^ bitsX L x * n) ∧ (∀ j : Nat, j ≤ 9 → n = 2 ^ j → 2 ^ bitsX L x * n = 2 ^ L) := by
  obtain ⟨h1, h2, h3, h4⟩ := bitsX_fact hL (by omega) hx
  have hp : 0 < 2 ^ bitsX L x := Nat.pow_pos (by omega)
  rw [Nat.mul_comm (x + 1), Nat.pow_succ] at h4
  rw [Nat.mul_comm x] at h3
  have e1 : 2 ^ bitsX L x * n ≤ 2 ^ bitsX L x * x := Nat.mul_le_mul_left _ hnx
  have e2 : 2 ^ bitsX L x * (x + 1) ≤ 2 ^ bitsX L x * (2 * n) := Nat.mul_le_mul_left _ (by omega)
  have e3 : 2 ^ bitsX L x * (2 * n) = 2 * (2 ^ bitsX L x * n) := by rw [Nat.mul_left_comm]
  rw [Nat.mul_add, Nat.mul_one] at e2 h4
  refine ⟨by omega, by omega, ?_⟩
  intro j hj hnj
  have hb := bitsX_pow (L := L) (j := j) (x := x) (by omega) (by rw [Nat.pow_succ]; omega) hj
  have hjL : j ≤ L := by
    rcases Nat.lt_or_ge L j with h | h
    · have : 2 ^ (L + 1) ≤ 2 ^ j := Nat.pow_le_pow_right (by omega) h
      rw [Nat.pow_succ] at this
      omega
    · exact h
  rw [hb, hnj, ← Nat.pow_add, show L - j + j = L by omega]

set_option maxRecDepth 4000 in
set_option maxHeartbeats 8000000 in
theorem walk_CellsBits {w : World} (l : Int) (A : Option Addr) (m c : Nat) (zs : List Int) (wl : (Lit.int .i64 l).wf = true) (hm : zs.length = m) (hr : Reads w w.heap.size 1 A m (zs.map (Value.int .i64))) (hok : ∀ z ∈ zs, (Lit.int .i64 z).wf = true) (hc' : c ≤ maxLen) (hc : m ≤ c) :
    Calls Try.prog 4 #[.agg #[.int .i64 l, .slice A m c]] w fun e w' => e = .returned (.bool true) ∧ Below w.heap.size w w' := by
  have HKN := hide known_any
  obtain ⟨W0, hW0⟩ : ∃ W0, W0 = w.alloc (.cells #[.int .i64 l, .slice A m c] 24 (0, 0)) := ⟨_, rfl⟩
  have g1 : W0.heap[w.heap.size]? = some (.cells #[.int .i64 l, .slice A m c] 24 (0, 0)) := by rw [hW0]; exact heap_alloc_new w _
  have b0 : Below w.heap.size w W0 := by rw [hW0]; exact (Below.refl w.heap.size w).alloc (Nat.le_refl _) _
  have hs0 : W0.heap.size = w.heap.size + 1 := by rw [hW0]; simp
  have k00 := cell_blk g1 0
  have k01 := cell_blk g1 1
  have HB0 := hide b0
  have HW0 := hide hW0
  have HR := hide ((hr.below b0).more b0.size)
  have HG1 := hide g1
  have HS0 := hide hs0
  by_cases hbig : 300 < m
  · have hb' : (300 : Int) < (m : Int) := by omega
    clear b0 hW0 hr g1 hs0 wl
    go_enter Try.func4, Try.ntmps4
    go_wp2_with fail
    try rw [← HW0.out]
    go_wp2_with fail
    refine (HKN.out _).mono ?_
    rintro e W ⟨rfl, b⟩
    have HB1 := hide (HB0.out.trans (b.mono HB0.out.size))
    clear b
    go_wp2
    go_ret
    exact ⟨rfl, HB1.out⟩
  have hb' : ¬ (300 : Int) < (m : Int) := by omega
  have HMAY := hide (may_any 9 l A m c zs W0 (.inl rfl) hm HR.out hok hc hc')
  by_cases hT : okT l zs
  · obtain ⟨L, rfl⟩ := Int.eq_ofNat_of_zero_le hT.1.1
    have hL : L ≤ 9 := by have := hT.1; omega
    have hm0 : 0 < m := by have := hT.2.1; omega
    obtain ⟨S, hS⟩ : ∃ S, S = 2 ^ L := ⟨_, rfl⟩
    have hS2 : 2 ^ L ≤ 2 ^ 9 := Nat.pow_le_pow_right (by omega) hL
    have h29 : (2 : Nat) ^ 9 = 512 := by decide
    have hS512 : S ≤ 512 := by omega
    obtain ⟨i0, hi, hz0, hz1, hz2⟩ := info_parts info_int
    obtain ⟨b, off, rfl, hbb, hcell⟩ := hr.open_ hm0 (by omega)
    have HBU := hide (fun W hr => build_ok L (some ⟨b, off, none⟩) m c zs W hm hr hok hc hc' hT)
    have HCF := hide (fun k (hk : k < 2 ^ L) => cell_fact hT hk)
    have HNS := hide (fun v (hv : v < zs.length) => (show absZ (normAt zs v) ≤ ((2 ^ L : Nat) : Int) by
      have h5 := absZ_le_sum (zs := zs) (v := v) hv
      rw [hT.2.2.2.2, Int.toNat_natCast, show ((2 : Int) ^ L) = ((2 ^ L : Nat) : Int) by simp] at h5
      exact h5))
    rw [← hS] at HBU HCF HNS
    have HSZ := hide (fun (B : Nat) (hB : B ≤ 20) W => size_any B W hB)
    have HSTA := hide (fun (z : Int) (hz : -1 ≤ z) W => states_any z W hz)
    have HS := hide hS
    have HT := hide hT
    have hbl : (buildL L zs).length = S := by rw [buildL_length, hS]
    have HBL := hide hbl
    have HM := hide hm
    have HCELL := hide hcell
    clear hS hS2 h29 hT hm hok hc hc' hbl hcell b0 hW0 hr g1 hs0 wl
    go_enter Try.func4, Try.ntmps4
    go_wp2_with fail
    try rw [← HW0.out]
    go_wp2_with fail
    refine HMAY.out.mono ?_
    rintro e W1 ⟨he, b1⟩
    obtain rfl : e = .returned (.int .i64 0) := he.elim (fun h => h.2) (fun h => absurd HT.out h.1)
    have g2 := (b1.block _ (by have := HS0.out; omega)).trans HG1.out
    have k10 := cell_blk g2 0
    have k11 := cell_blk g2 1
    have HG2 := hide g2
    have HB1 := hide (HB0.out.trans (b1.mono HB0.out.size))
    have HR1 := hide ((HR.out.below b1).more b1.size)
    have HS1 := hide (show w.heap.size < W1.heap.size by have := HS0.out; have := b1.size; omega)
    clear b1 g2 he k00 k01 HG1 HR HB0 HW0 HS0
    go_wp2_with fail
    refine (HBU.out _ HR1.out).mono ?_
    rintro e W2 ⟨v2, rfl, ho2, b2⟩
    obtain ⟨A2, c2, rfl⟩ := own_form ho2
    have g3 := (b2.block _ HS1.out).trans HG2.out
    have k20 := cell_blk g3 0
    have k21 := cell_blk g3 1
    have HG3 := hide g3
    have HB2 := hide (HB1.out.trans (b2.mono HB1.out.size))
    have HO2 := hide ho2
    have HS2 := hide (show w.heap.size < W2.heap.size by have := HS1.out; have := b2.size; omega)
    clear b2 g3 k10 k11 ho2 HG2 HR1 HB1 HS1
    obtain ⟨w3, hmk, hown, hg⟩ := run_make_full (P := Try.prog) W2 W2.heap.size 22 3 i0 (.int .i64 0) 1 Try.underlying22 hi hz0 hz1 .i64 .i64 m (by rw [hz2]; omega) (by unfold maxLen; omega) (by omega)
    go_wp2_with fail
    have hcell : (madeCells (Value.int IntKind.i64 0).cells (m * 1)).toList = intsV (lastZ L zs (spreadL S zs) m 0) := by
      rw [Nat.mul_one, lastZ_zero]
      unfold intsV
      rw [List.map_replicate]
      exact toList_madeCells_one _ _
    rw [hcell] at hown
    have hb3 : Below W2.heap.size W2 w3 := ((Chg.of_grown hg).mono (T := fun _ => False) (fun q hq => by cases hq)).keep
    have g4 := (hb3.block _ HS2.out).trans HG3.out
    have HG4 := hide g4
    have HO := hide hown
    have HO2' := hide (own_below HO2.out hb3)
    have HB3 := hide (HB2.out.trans (hb3.mono HB2.out.size))
    have HGE := hide HS2.out
    have HLOW := hide (show ∀ q, (Value.slice A2 S c2).ownBlock = some q → q < W2.heap.size from fun q hq => (HO2.out.lt q hq).2)
    clear hcell hown hg hmk hi hz0 hz1 hz2 k20 k21 g4 HG3 HO2 HB2 HS2 hb3
    go_loopw [6] (fun iv wr => ∃ i : Nat, i ≤ S ∧ iv = .int .i64 i ∧ wr.heap[w.heap.size]? = some (.cells #[.int .i64 (L : Int), .slice (some ⟨b, off, none⟩) m c] 24 (0, 0)) ∧ wr.ownsRow W1.heap.size 36 3 (.slice A2 S c2) S (cellsV (buildL L zs)) ∧ wr.ownsRow W2.heap.size 3 1 (.slice (some ⟨W2.heap.size, 0, none⟩) m m) m (intsV (lastZ L zs (spreadL S zs) m i)) ∧ Below w.heap.size w wr) (fun iv _ => S - (intOf iv).toNat)
    case atStart => exact ⟨0, Nat.zero_le _, rfl, HG4.out, HO2'.out, HO.out, HB3.out⟩
    case round =>
      obtain ⟨i, hi, rfl, y1, hlo, hown, hb⟩ := hrel
      have HY1 := hide y1
      have HLO := hide hlo
      have HOW := hide hown
      have HB := hide hb
      clear y1 hlo hown hb
      by_cases hlt : i < S
      · obtain ⟨v, x, n, z, hv, hz, hz1, hzn, hn, hpl, hbl, hx, hx2, hx3, hcnt⟩ := HCF.out i hlt
        obtain ⟨b1, o1, x', y', z', hA2, hb1, c1', c2', c3', hx'⟩ := cell_cells (Reads.of_own HLO.out) HBL.out.symm hlt
        subst hA2
        rw [hbl] at hx'
        injection hx' with hx'
        injection hx' with h1 h2
        injection h2 with h2 h3
        subst h1 h2
        clear h3 c3'
        have hS := HS.out
        have hvm : v < m := by have := HM.out; omega
        have hnS : n ≤ S := by
          have := HNS.out v hv
          rw [normAt_of hz, hzn] at this
          omega
        obtain ⟨hl1, hl2, hl3⟩ := bits_law (L := L) (n := n) (x := x) hL hn (by omega) hx2 hx3 (by omega)
        obtain ⟨hf1, hf2, _, _⟩ := bitsX_fact (L := L) (x := x) hL (by omega) hx3
        rw [← hS] at hl1 hl2 hl3
        have hnabs : (absZ (normAt zs v)).toNat = n := by rw [normAt_of hz, hzn]; rfl
        have hx64 : x < 2 ^ 64 := by
          have h9 : 2 ^ (L + 1) ≤ 2 ^ 10 := Nat.pow_le_pow_right (by omega) (by omega)
          have h10 : (2 : Nat) ^ 10 = 1024 := by decide
          omega
        obtain ⟨y, hy⟩ : ∃ y, y = lastF L zs (spreadL S zs) i v := ⟨_, rfl⟩
        have hyc : (y = 0) ∨ (0 < y ∧ ¬ y < ((bitsX L x + 1 : Nat) : Int)) := by
          rw [hy]
          unfold lastF
          by_cases h0 : ((spreadL S zs).take i).count (v : Int) = 0
          · exact .inl (if_pos h0)
          · right
            rw [if_neg h0, hnabs]
            have ha := bitsX_anti (L := L) (x := n + ((spreadL S zs).take i).count (v : Int) - 1) (y := x) (by omega) (by omega) hx64 (by omega)
            omega
        have kl := HOW.out.cellAt v (by omega)
        have kf := HOW.out.frozenAt v
        rw [show (intsV (lastZ L zs (spreadL S zs) m i))[v]? = some (.int .i64 y) by unfold intsV; rw [List.getElem?_map, lastZ_get _ _ _ hvm, hy]; rfl] at kl
        have hset := lastZ_set (L := L) (zs := zs) (m := m) hpl hvm
        rw [hnabs, ← hx] at hset
        have HSET := hide hset
        obtain ⟨B, hB⟩ : ∃ B, B = bitsX L x := ⟨_, rfl⟩
        rw [← hB] at c2' hl1 hl2 hl3 hyc HSET hf1
        obtain ⟨P, hP⟩ : ∃ P, P = 2 ^ B := ⟨_, rfl⟩
        have hB9 : B ≤ 9 := by omega
        have HSB := hide (HSZ.out B (by omega))
        have HSN := hide (HSTA.out z hz1)
        rw [← hP] at hl1 hl2 hl3 HSB
        rw [hzn] at HSN
        have kz := (HB.out.cell (p := ⟨b, off + v, none⟩) hbb).trans (HCELL.out v (.int .i64 z) (by simp [hz]))
        have k11 := cell_blk HY1.out 1
        -- plain integers with no inner form
        obtain ⟨sp, hsp⟩ : ∃ sp : Int, sp = ((P * n : Nat) : Int) := ⟨_, rfl⟩
        have hwsp : IntKind.i64.wrap ((P : Int) * (n : Int)) = sp := by rw [hsp, ← Int.natCast_mul, IntWalk.i64_in _ (by omega)]
        obtain ⟨T, hTq⟩ : ∃ T : Int, T = 2 * (S : Int) := ⟨_, rfl⟩
        have hwT : IntKind.i64.wrap (2 * (S : Int)) = T := by rw [hTq, IntWalk.i64_in _ (by omega)]
        obtain ⟨U, hU⟩ : ∃ U : Int, U = 2 * sp := ⟨_, rfl⟩
        have hwU : IntKind.i64.wrap (2 * sp) = U := by rw [hU, IntWalk.i64_in _ (by omega)]
        obtain ⟨B1, hB1⟩ : ∃ B1 : Int, B1 = ((B + 1 : Nat) : Int) := ⟨_, rfl⟩
        have hwB1 : IntKind.i64.wrap ((B : Int) + 1) = B1 := by rw [hB1, IntWalk.i64_in _ (by omega)]; omega
        rw [← hB1] at hyc HSET
        obtain ⟨nI, hnI⟩ : ∃ nI : Int, nI = (n : Int) := ⟨_, rfl⟩
        obtain ⟨PI, hPI⟩ : ∃ PI : Int, PI = (P : Int) := ⟨_, rfl⟩
        obtain ⟨BI, hBI⟩ : ∃ BI : Int, BI = (B : Int) := ⟨_, rfl⟩
        have hspS : (sp != (S : Int)) = false ∨ ((sp != (S : Int)) = true ∧ (nI == 1) = false ∧ (nI == 2) = false ∧ (nI == 4) = false ∧ (nI == 8) = false ∧ (nI == 16) = false ∧ (nI == 32) = false ∧ (nI == 64) = false ∧ (nI == 128) = false ∧ (nI == 256) = false ∧ (nI == 512) = false) := by
          by_cases hq : P * n = S
          · left; rw [hsp, hq]; simp
          · right
            have hno : ∀ j : Nat, j ≤ 9 → n ≠ 2 ^ j := fun j hj h => hq (hl3 j hj h)
            have e0 := hno 0 (by omega)
            have e1 := hno 1 (by omega)
            have e2 := hno 2 (by omega)
            have e3 := hno 3 (by omega)
            have e4 := hno 4 (by omega)
            have e5 := hno 5 (by omega)
            have e6 := hno 6 (by omega)
            have e7 := hno 7 (by omega)
            have e8 := hno 8 (by omega)
            have e9 := hno 9 (by omega)
            simp only [Nat.reducePow] at e0 e1 e2 e3 e4 e5 e6 e7 e8 e9
            refine ⟨by simp; omega, ?_, ?_, ?_, ?_, ?_, ?_, ?_, ?_, ?_, ?_⟩ <;> simp <;> omega
        rw [← hPI, ← hnI] at hwsp
        rw [← hBI] at hwB1 c2' HSB
        rw [← hPI] at HSB
        rw [← hnI] at HSN
        have t1 : ¬ T ≤ sp := by omega
        have t2 : ¬ U ≤ (S : Int) := by omega
        have t3 : ¬ BI < 0 := by omega
        have t4 : ¬ 9 < BI := by omega
        have t5 : ¬ (m : Int) ≤ (v : Int) := by omega
        have t6 : (v : Int) < (m : Int) := by omega
        have t7 : (i : Int) < (S : Int) := by omega
        have t8 : ¬ (v : Int) < 0 := by omega
        clear hl1 hl2 hl3 hf1 hf2 hx hx2 hx3 hcnt hn hpl hbl hz hz1 hzn hnabs hy hset hB hP hB9 hsp hTq hU hB1 hnI hPI hBI hnS hS hv
        have HYC := hide hyc
        have HSPS := hide hspS
        clear hyc hspS
        go_wp2_with fail
        refine (HSN.out _).mono ?_
        rintro e w7 ⟨rfl, rfl⟩
        go_wp2_with fail
        refine (HSB.out _).mono ?_
        rintro e w8 ⟨rfl, rfl⟩
        rcases HYC.out with hy0 | ⟨hy0, hy1⟩
        · subst hy0
          go_wp2
          go_quiet (fail)
          obtain ⟨W9, hW9⟩ : ∃ W9, W9 = w8.drewN nq := ⟨_, rfl⟩
          have d2 : W9.cell? ⟨b1, o1 + i * 3 + 1, none⟩ = some (.int .i64 BI) := by rw [hW9]; exact c2'
          have d3 : W9.cell? ⟨W2.heap.size, 0 + v, none⟩ = some (.int .i64 0) := by rw [hW9, Nat.zero_add]; exact kl
          have d3' : W9.cell? ⟨W2.heap.size, v, none⟩ = some (.int .i64 0) := by rw [hW9]; exact kl
          have d4 : W9.frozen? ⟨W2.heap.size, v, none⟩ = false := by rw [hW9]; exact kf
          have HY9 : Hid (W9.heap[w.heap.size]? = some (.cells #[.int .i64 (L : Int), .slice (some ⟨b, off, none⟩) m c] 24 (0, 0))) := by rw [hW9]; exact HY1.out
          have HLO9 : Hid (W9.ownsRow W1.heap.size 36 3 (.slice (some ⟨b1, o1, none⟩) S c2) S (cellsV (buildL L zs))) := by rw [hW9]; exact HLO.out
          have HOW9 : Hid (W9.ownsRow W2.heap.size 3 1 (.slice (some ⟨W2.heap.size, 0, none⟩) m m) m (intsV (lastZ L zs (spreadL S zs) m i))) := by rw [hW9]; exact HOW.out
          have HB9 : Hid (Below w.heap.size w W9) := by rw [hW9]; exact HB.out.trans (below_drewN (Below.refl _ _) _)
          rw [← hW9]
          clear hW9 kl kf c1' c2' kz k11
          rcases HSPS.out with hsp | ⟨hsp, e0, e1, e2, e3, e4, e5, e6, e7, e8, e9⟩
          all_goals
            go_wp2
            go_roundw
            case rel =>
              refine ⟨i + 1, by omega, by go_num, set_far HY9.out (by show w.heap.size ≠ W2.heap.size; have := HGE.out; omega) _, ownsRow_setCell_other HLO9.out (a := ⟨W2.heap.size, v, none⟩) (fun h => by have h5 : W2.heap.size < W2.heap.size := HLOW.out _ h; omega) _, ?_, HB9.out.setCell (by show w.heap.size ≤ W2.heap.size; have := HGE.out; omega) _⟩
              have ho := (HOW9.out.stored v (.int .i64 B1)).1
              unfold intsV at ho ⊢
              rw [← List.map_set, HSET.out] at ho
              exact ho
            case measure => simp [intOf]; omega
        · go_wp2
          go_quiet (fail)
          obtain ⟨W9, hW9⟩ : ∃ W9, W9 = w8.drewN nq := ⟨_, rfl⟩
          have d2 : W9.cell? ⟨b1, o1 + i * 3 + 1, none⟩ = some (.int .i64 BI) := by rw [hW9]; exact c2'
          have d3 : W9.cell? ⟨W2.heap.size, 0 + v, none⟩ = some (.int .i64 y) := by rw [hW9, Nat.zero_add]; exact kl
          have d3' : W9.cell? ⟨W2.heap.size, v, none⟩ = some (.int .i64 y) := by rw [hW9]; exact kl
          have d4 : W9.frozen? ⟨W2.heap.size, v, none⟩ = false := by rw [hW9]; exact kf
          have HY9 : Hid (W9.heap[w.heap.size]? = some (.cells #[.int .i64 (L : Int), .slice (some ⟨b, off, none⟩) m c] 24 (0, 0))) := by rw [hW9]; exact HY1.out
          have HLO9 : Hid (W9.ownsRow W1.heap.size 36 3 (.slice (some ⟨b1, o1, none⟩) S c2) S (cellsV (buildL L zs))) := by rw [hW9]; exact HLO.out
          have HOW9 : Hid (W9.ownsRow W2.heap.size 3 1 (.slice (some ⟨W2.heap.size, 0, none⟩) m m) m (intsV (lastZ L zs (spreadL S zs) m i))) := by rw [hW9]; exact HOW.out
          have HB9 : Hid (Below w.heap.size w W9) := by rw [hW9]; exact HB.out.trans (below_drewN (Below.refl _ _) _)
          rw [← hW9]
          clear hW9 kl kf c1' c2' kz k11
          rcases HSPS.out with hsp | ⟨hsp, e0, e1, e2, e3, e4, e5, e6, e7, e8, e9⟩
          all_goals
            go_wp2
            go_roundw
            case rel =>
              refine ⟨i + 1, by omega, by go_num, set_far HY9.out (by show w.heap.size ≠ W2.heap.size; have := HGE.out; omega) _, ownsRow_setCell_other HLO9.out (a := ⟨W2.heap.size, v, none⟩) (fun h => by have h5 : W2.heap.size < W2.heap.size := HLOW.out _ h; omega) _, ?_, HB9.out.setCell (by show w.heap.size ≤ W2.heap.size; have := HGE.out; omega) _⟩
              have ho := (HOW9.out.stored v (.int .i64 B1)).1
              unfold intsV at ho ⊢
              rw [← List.map_set, HSET.out] at ho
              exact ho
            case measure => simp [intOf]; omega
      · obtain rfl : S = i := by omega
        go_wp2_with fail
        refine (HKN.out _).mono ?_
        rintro e W6 ⟨rfl, b6⟩
        have HB6 := hide (HB.out.trans (b6.mono HB.out.size))
        clear b6
        go_wp2
        go_ret
        exact ⟨rfl, HB6.out⟩
  · have HT := hide hT
    clear hT hm hok hc hc' b0 hW0 hr g1 hs0 wl
    go_enter Try.func4, Try.ntmps4
    go_wp2_with fail
    try rw [← HW0.out]
    go_wp2_with fail
    refine HMAY.out.mono ?_
    rintro e W1 ⟨he, b1⟩
    obtain rfl : e = .returned (.int .i64 13) := he.elim (fun h => absurd h.1 HT.out) (fun h => h.2)
    have HB1 := hide (HB0.out.trans (b1.mono HB0.out.size))
    clear b1 he
    go_wp2_with fail
    refine (HKN.out _).mono ?_
    rintro e W2 ⟨rfl, b2⟩
    have HB2 := hide (HB1.out.trans (b2.mono HB1.out.size))
    clear b2
    go_wp2
    go_ret
    exact ⟨rfl, HB2.out⟩
end Go.Proofs.Ytlbpefahhecbnaa
