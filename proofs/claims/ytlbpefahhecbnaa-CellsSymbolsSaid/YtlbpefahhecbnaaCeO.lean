/- portmanteaulaw09.CellsSymbols walked. -/
import Derived.Test.YtlbpefahhecbnaaCeN
import Derived.Test.YtlbpefahhecbnaaCeK
import Derived.Test.YtlbpefahhecbnaaCeC
namespace Go.Proofs.Ytlbpefahhecbnaa
open Go.RowKit Go
set_option linter.unusedVariables false

set_option maxRecDepth 4000 in
set_option maxHeartbeats 8000000 in
theorem walk_CellsSymbols {w : World} (l : Int) (A : Option Addr) (m c : Nat) (zs : List Int) (wl : (Lit.int .i64 l).wf = true) (hm : zs.length = m) (hr : Reads w w.heap.size 1 A m (zs.map (Value.int .i64))) (hok : ∀ z ∈ zs, (Lit.int .i64 z).wf = true) (hc' : c ≤ maxLen) (hc : m ≤ c) :
    Calls Try.prog 5 #[.agg #[.int .i64 l, .slice A m c]] w fun e w' => e = .returned (.bool true) ∧ Below w.heap.size w w' := by
  have HKN := hide known_any
  obtain ⟨W0, hW0⟩ : ∃ W0, W0 = w.alloc (.cells #[.int .i64 l, .slice A m c] 24 (0, 0)) := ⟨_, rfl⟩
  have g1 : W0.heap[w.heap.size]? = some (.cells #[.int .i64 l, .slice A m c] 24 (0, 0)) := by rw [hW0]; exact heap_alloc_new w _
  have b0 : Below w.heap.size w W0 := by rw [hW0]; exact (Below.refl w.heap.size w).alloc (Nat.le_refl _) _
  have hs0 : W0.heap.size = w.heap.size + 1 := by rw [hW0]; simp
  have k00 := cell_blk g1 0
  have k01 := cell_blk g1 1
  have HB0 := hide b0
  have HW0 := hide hW0
  have HR := hide ((hr.below b0).more b0.size)
  have HG1 := hide g1
  have HS0 := hide hs0
  clear b0 hW0 hr g1 hs0 wl
  by_cases hbig : 300 < m
  · have hb' : (300 : Int) < (m : Int) := by omega
    go_enter Try.func5, Try.ntmps5
    go_wp2_with fail
    try rw [← HW0.out]
    go_wp2_with fail
    refine (HKN.out _).mono ?_
    rintro e W ⟨rfl, b⟩
    have HB1 := hide (HB0.out.trans (b.mono HB0.out.size))
    clear b
    go_wp2
    go_ret
    exact ⟨rfl, HB1.out⟩
  have hb' : ¬ (300 : Int) < (m : Int) := by omega
  have HMAY := hide (may_any 9 l A m c zs W0 (.inl rfl) hm HR.out hok hc hc')
  by_cases hT : okT l zs
  · obtain ⟨L, rfl⟩ := Int.eq_ofNat_of_zero_le hT.1.1
    have hL : L ≤ 9 := by have := hT.1; omega
    obtain ⟨S, hS⟩ : ∃ S, S = 2 ^ L := ⟨_, rfl⟩
    have hS2 : 2 ^ L ≤ 2 ^ 9 := Nat.pow_le_pow_right (by omega) hL
    have h29 : (2 : Nat) ^ 9 = 512 := by decide
    have hS512 : S ≤ 512 := by omega
    have HBU := hide (fun W hr => build_ok L A m c zs W hm hr hok hc hc' hT)
    have HRE := hide (fun W hr => ref8_ok L A m c zs W hm hr hok hc hc' hT)
    have HCF := hide (fun k (hk : k < 2 ^ L) => cell_fact hT hk)
    rw [← hS] at HBU HRE HCF
    have HS := hide hS
    have HT := hide hT
    have hbl : (buildL L zs).length = S := by rw [buildL_length, hS]
    have HBL := hide hbl
    clear hS hS2 h29 hT hm hok hc hc' hbl
    go_enter Try.func5, Try.ntmps5
    go_wp2_with fail
    try rw [← HW0.out]
    go_wp2_with fail
    refine HMAY.out.mono ?_
    rintro e W1 ⟨he, b1⟩
    obtain rfl : e = .returned (.int .i64 0) := he.elim (fun h => h.2) (fun h => absurd HT.out h.1)
    have g2 := (b1.block _ (by have := HS0.out; omega)).trans HG1.out
    have k10 := cell_blk g2 0
    have k11 := cell_blk g2 1
    have HG2 := hide g2
    have HB1 := hide (HB0.out.trans (b1.mono HB0.out.size))
    have HR1 := hide ((HR.out.below b1).more b1.size)
    have HS1 := hide (show w.heap.size < W1.heap.size by have := HS0.out; have := b1.size; omega)
    clear b1 g2 he k00 k01 HG1 HR HB0 HW0 HS0
    go_wp2_with fail
    refine (HBU.out _ HR1.out).mono ?_
    rintro e W2 ⟨v2, rfl, ho2, b2⟩
    obtain ⟨A2, c2, rfl⟩ := own_form ho2
    have g3 := (b2.block _ HS1.out).trans HG2.out
    have k20 := cell_blk g3 0
    have k21 := cell_blk g3 1
    have HG3 := hide g3
    have HB2 := hide (HB1.out.trans (b2.mono HB1.out.size))
    have HR2 := hide ((HR1.out.below b2).more b2.size)
    have HO2 := hide ho2
    have HS2 := hide (show w.heap.size < W2.heap.size by have := HS1.out; have := b2.size; omega)
    clear b2 g3 k10 k11 ho2 HG2 HR1 HB1 HS1
    go_wp2_with fail
    refine (HRE.out _ HR2.out).mono ?_
    rintro e W3 ⟨v3, rfl, ho3, b3⟩
    obtain ⟨A3, c3, rfl⟩ := own_form ho3
    have g4 := (b3.block _ HS2.out).trans HG3.out
    have HG4 := hide g4
    have HB3 := hide (HB2.out.trans (b3.mono HB2.out.size))
    have HO3 := hide ho3
    have HO2' := hide (own_below HO2.out b3)
    have HS3 := hide (show w.heap.size < W3.heap.size by have := HS2.out; have := b3.size; omega)
    have hSS : ((S : Int) != (S : Int)) = false := by simp
    clear b3 g4 k20 k21 ho3 HG3 HR2 HB2 HS2 HO2
    go_wp2
    go_loopw [7] (fun iv wr => ∃ i : Nat, i ≤ S ∧ iv = .int .i64 i ∧ Below W3.heap.size W3 wr) (fun iv _ => S - (intOf iv).toNat)
    case atStart => exact ⟨0, Nat.zero_le _, rfl, Below.refl _ _⟩
    case round =>
      obtain ⟨i, hi, rfl, hb⟩ := hrel
      by_cases hlt : i < S
      · obtain ⟨v, x, n, z, hv, hz, hz1, hzn, hn, hpl, hbl, hx, hx2, hx3, _⟩ := HCF.out i hlt
        obtain ⟨b1, o1, x', y', z', hA2, hb1, c1', c2', c3', hx'⟩ := cell_cells (Reads.of_own (own_below HO2'.out hb)) HBL.out.symm hlt
        subst hA2
        rw [hbl] at hx'
        obtain ⟨hf1, hf2, hf3, hf4⟩ := bitsX_fact (L := L) (x := x) (by omega) (by omega) hx3
        obtain ⟨B, hB⟩ : ∃ B, B = bitsX L x := ⟨_, rfl⟩
        rw [← hB] at hf1 hf3 hf4 hx'
        obtain ⟨base, hbase⟩ : ∃ base, base = x * 2 ^ B - S := ⟨_, rfl⟩
        have hS := HS.out
        have hb2 : (x : Int) * 2 ^ B - (S : Int) = (base : Int) := by
          rw [show (x : Int) * 2 ^ B = ((x * 2 ^ B : Nat) : Int) by simp, hbase]
          omega
        rw [hb2] at hx'
        injection hx' with hx'
        injection hx' with h1 h2
        injection h2 with h2 h3
        subst h1 h2 h3
        have hBL : decide (L < B) = false := by simp; omega
        have hB0 : decide ((B : Int) < 0) = false := by simp
        have hba0 : decide ((base : Int) < 0) = false := by simp
        have hnx : base + 2 ^ B - 1 < S := by
          rw [Nat.pow_succ, ← hS] at hf4
          rw [Nat.add_mul, Nat.one_mul] at hf4
          have : 0 < 2 ^ B := Nat.pow_pos (by omega)
          rw [← hS] at hf3
          omega
        have hp0 : 0 < 2 ^ B := Nat.pow_pos (by omega)
        have hcl : clampN (B : Int) = B := by unfold clampN; omega
        have hN0 : ∀ W, Calls Try.prog 19 #[.agg #[.int .i64 (v : Int), .int .i64 (B : Int), .int .i64 (base : Int)], .int .u64 0] W fun e w' => e = .returned (.int .i64 (base : Int)) ∧ Below W.heap.size W w' := fun W =>
          (next_any (v : Int) (B : Int) (base : Int) 0 W (by decide)).mono fun e w' ⟨he, hb⟩ => ⟨he.trans (ret_int (by rw [Nat.zero_mod]; unfold wrap64; omega)), hb⟩
        obtain ⟨nx, hnxe⟩ : ∃ nx, nx = base + 2 ^ B - 1 := ⟨_, rfl⟩
        have hmodq : 4611686018427387903 % 2 ^ B = 2 ^ B - 1 := by
          have hB9 : B ≤ 9 := by omega
          have h62 : ∀ b : Fin 10, 4611686018427387903 % 2 ^ b.val = 2 ^ b.val - 1 := by decide
          exact h62 ⟨B, by omega⟩
        have hN1 : ∀ W, Calls Try.prog 19 #[.agg #[.int .i64 (v : Int), .int .i64 (B : Int), .int .i64 (base : Int)], .int .u64 4611686018427387903] W fun e w' => e = .returned (.int .i64 (nx : Int)) ∧ Below W.heap.size W w' := fun W =>
          (next_any (v : Int) (B : Int) (base : Int) 4611686018427387903 W (by decide)).mono fun e w' ⟨he, hb⟩ => ⟨he.trans (ret_int (by rw [hcl, hmodq, hnxe]; unfold wrap64; omega)), hb⟩
        rw [← hnxe] at hnx
        obtain ⟨nxF, hF0, hF1, hNX⟩ : ∃ nxF : Int → Int, nxF 0 = (base : Int) ∧ nxF 4611686018427387903 = (nx : Int) ∧ ∀ (q : Int) (W : World), (q = 0 ∨ q = 4611686018427387903) → Calls Try.prog 19 #[.agg #[.int .i64 (v : Int), .int .i64 (B : Int), .int .i64 (base : Int)], .int .u64 q] W fun e w' => e = .returned (.int .i64 (nxF q)) ∧ Below W.heap.size W w' := by
          refine ⟨fun q => if q = 0 then (base : Int) else (nx : Int), rfl, rfl, fun q W hq => ?_⟩
          rcases hq with rfl | rfl
          · exact hN0 W
          · exact hN1 W
        have HNX := hide hNX
        have hq1 : ((v : Int) != (v : Int)) = false := by simp
        have hq2 : (nxF 0 != (base : Int)) = false := by rw [hF0]; simp
        have hq3 : decide ((S : Int) ≤ nxF 4611686018427387903) = false := by rw [hF1]; simp; omega
        clear hNX hF0 hF1
        have hiS : (i : Int) < (S : Int) := by omega
        obtain ⟨g5, cu5, hA3, _, hg5⟩ := HO3.out.form (by omega)
        have hA3' : A3 = some ⟨g5, 0, none⟩ := by injection hA3
        subst hA3'
        have kp := (own_below HO3.out hb).cellAt i (by omega)
        rw [show (intsV (spreadL S zs))[i]? = some (.int .i64 (v : Int)) by simp [intsV, hpl]] at kp
        have kt : wr.cell? ⟨w.heap.size, 0, none⟩ = some (.int .i64 (L : Int)) := (hb.cell (p := ⟨w.heap.size, 0, none⟩) HS3.out).trans (cell_blk HG4.out 0)
        obtain ⟨W5, hW5⟩ : ∃ W5, W5 = wr.alloc (.cells #[.int .i64 (v : Int), .int .i64 (B : Int), .int .i64 (base : Int)] 36 (0, 0)) := ⟨_, rfl⟩
        have g5' : W5.heap[wr.heap.size]? = some (.cells #[.int .i64 (v : Int), .int .i64 (B : Int), .int .i64 (base : Int)] 36 (0, 0)) := by rw [hW5]; exact heap_alloc_new wr _
        have b5 : Below wr.heap.size wr W5 := by rw [hW5]; exact (Below.refl wr.heap.size wr).alloc (Nat.le_refl _) _
        have hsz := hb.size
        have lt0 := lt_of_heap g5'
        have lt1 : w.heap.size < W5.heap.size := by have := HS3.out; omega
        have lt2 : g5 < W5.heap.size := by omega
        have q0 : W5.cell? ⟨wr.heap.size, 0, none⟩ = some (.int .i64 (v : Int)) := cell_blk g5' 0
        have q1 : W5.cell? ⟨wr.heap.size, 1, none⟩ = some (.int .i64 (B : Int)) := cell_blk g5' 1
        have q2 : W5.cell? ⟨wr.heap.size, 2, none⟩ = some (.int .i64 (base : Int)) := cell_blk g5' 2
        have q3 : W5.cell? ⟨g5, i, none⟩ = some (.int .i64 (v : Int)) := (b5.cell (p := ⟨g5, i, none⟩) (by show g5 < wr.heap.size; omega)).trans kp
        have q4 : W5.cell? ⟨w.heap.size, 0, none⟩ = some (.int .i64 (L : Int)) := (b5.cell (p := ⟨w.heap.size, 0, none⟩) (by show w.heap.size < wr.heap.size; have := HS3.out; omega)).trans kt
        have HB5 := hide (hb.trans (b5.mono hb.size))
        have HW5 := hide hW5
        have HX := hide ((Below.refl W5.heap.size W5).drew)
        clear hW5 g5' b5 kp kt hA3 hN0 hN1 hmodq hnxe hp0 hcl hf1 hf2 hf3 hf4 hbase hb2 hB hbl hpl hx hx2 hx3 hz hzn hS hb hv hg5
        go_wp2_with fail
        try rw [← HW5.out]
        go_wp2_with fail
        go_region_held3 (fun w' => w'.cell? ⟨wr.heap.size, 0, none⟩ = some (.int .i64 (v : Int)) ∧ w'.cell? ⟨wr.heap.size, 1, none⟩ = some (.int .i64 (B : Int)) ∧ w'.cell? ⟨wr.heap.size, 2, none⟩ = some (.int .i64 (base : Int)) ∧ w'.cell? ⟨g5, i, none⟩ = some (.int .i64 (v : Int)) ∧ w'.cell? ⟨w.heap.size, 0, none⟩ = some (.int .i64 (L : Int))) (go_keep)
          (first
          | (go_at_call 19; refine (HNX.out _ _ (by decide)).mono ?_; rintro e w1 ⟨rfl, hx⟩; replace hx := HX.out.trans (hx.mono HX.out.size); have j0 := (hx.cell (p := ⟨wr.heap.size, 0, none⟩) lt0).trans q0; have j1 := (hx.cell (p := ⟨wr.heap.size, 1, none⟩) lt0).trans q1; have j2 := (hx.cell (p := ⟨wr.heap.size, 2, none⟩) lt0).trans q2; have j3 := (hx.cell (p := ⟨g5, i, none⟩) lt2).trans q3; have j4 := (hx.cell (p := ⟨w.heap.size, 0, none⟩) lt1).trans q4; have HX := hide hx; clear hx))
        go_wp2
        go_roundw
        case rel => exact ⟨i + 1, by omega, by go_num, HB5.out.trans (HX.out.mono HB5.out.size)⟩
        case measure => simp [intOf]; omega
      · obtain rfl : S = i := by omega
        have HB4 := hide (HB3.out.trans (hb.mono HB3.out.size))
        clear hb
        go_wp2_with fail
        refine (HKN.out _).mono ?_
        rintro e W6 ⟨rfl, b6⟩
        have HB6 := hide (HB4.out.trans (b6.mono HB4.out.size))
        clear b6
        go_wp2
        go_ret
        exact ⟨rfl, HB6.out⟩
  · have HT := hide hT
    clear hT hm hok hc hc'
    go_enter Try.func5, Try.ntmps5
    go_wp2_with fail
    try rw [← HW0.out]
    go_wp2_with fail
    refine HMAY.out.mono ?_
    rintro e W1 ⟨he, b1⟩
    obtain rfl : e = .returned (.int .i64 13) := he.elim (fun h => absurd h.1 HT.out) (fun h => h.2)
    have HB1 := hide (HB0.out.trans (b1.mono HB0.out.size))
    clear b1 he
    go_wp2_with fail
    refine (HKN.out _).mono ?_
    rintro e W2 ⟨rfl, b2⟩
    have HB2 := hide (HB1.out.trans (b2.mono HB1.out.size))
    clear b2
    go_wp2
    go_ret
    exact ⟨rfl, HB2.out⟩
end Go.Proofs.Ytlbpefahhecbnaa
