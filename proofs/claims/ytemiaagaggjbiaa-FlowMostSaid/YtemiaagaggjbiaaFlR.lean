/- portmanteaulaw12.FlowMost walked. -/
import Derived.Test.YtemiaagaggjbiaaFlN
namespace Go.Proofs.Ytemiaagaggjbiaa
open Go.RowKit Go Go.Shelf
set_option linter.unusedVariables false
set_option maxRecDepth 8000

set_option maxHeartbeats 16000000 in
theorem walk_FlowMost {w : World} (l : Int) (A : Option Addr) (m c : Nat) (zs : List Int) (wl : (Lit.int .i64 l).wf = true) (hm : zs.length = m) (hr : Reads w w.heap.size 1 A m (zs.map (Value.int .i64))) (hok : ∀ z ∈ zs, (Lit.int .i64 z).wf = true) (hc' : c ≤ maxLen) (hc : m ≤ c) (n : Int) (wn : (Lit.int .i64 n).wf = true) :
    Calls Try.prog 10 #[.agg #[.int .i64 l, .slice A m c], .int .i64 n] w fun e w' => e = .returned (.bool true) ∧ Below w.heap.size w w' := by
  have HKN := hide known_any
  obtain ⟨W0, hW0⟩ : ∃ W0, W0 = w.alloc (.cells #[.int .i64 l, .slice A m c] 24 (0, 0)) := ⟨_, rfl⟩
  have g1 : W0.heap[w.heap.size]? = some (.cells #[.int .i64 l, .slice A m c] 24 (0, 0)) := by rw [hW0]; exact heap_alloc_new w _
  have b0 : Below w.heap.size w W0 := by rw [hW0]; exact (Below.refl w.heap.size w).alloc (Nat.le_refl _) _
  have k0 := cell_blk g1 0
  have k1 := cell_blk g1 1
  have HG0 := hide g1
  have HB0 := hide b0
  have HW0 := hide hW0
  have HRT := hide (fun W (b : Below w.heap.size w W) => (hr.below b).more b.size)
  clear g1 b0 hW0 hr
  by_cases hb1 : 300 < (m : Int)
  · clear hm hok hc hc'
    go_enter Try.func10, Try.ntmps10
    go_wp2_with fail
    rw [← HW0.out]
    go_wp2_with fail
    refine (HKN.out _).mono ?_
    rintro e W9 ⟨rfl, b9⟩
    have HB9 := hide (HB0.out.trans (b9.mono HB0.out.size))
    clear b9
    go_wp2
    go_ret
    exact ⟨rfl, HB9.out⟩
  have HMAY := hide (fun W (b : Below w.heap.size w W) => may_any 9 l A m c zs W (.inl rfl) hm (HRT.out W b) hok hc hc')
  by_cases hT : okT l zs
  rotate_left
  · clear hm hok hc hc'
    go_enter Try.func10, Try.ntmps10
    go_wp2_with fail
    rw [← HW0.out]
    go_wp2_with fail
    refine (HMAY.out _ HB0.out).mono ?_
    rintro e W1 ⟨⟨h, _⟩ | ⟨_, rfl⟩, b1⟩
    · exact absurd h hT
    have HB1 := hide (HB0.out.trans (b1.mono HB0.out.size))
    clear b1
    go_wp2_with fail
    refine (HKN.out _).mono ?_
    rintro e W9 ⟨rfl, b9⟩
    have HB9 := hide (HB1.out.trans (b9.mono HB1.out.size))
    clear b9
    go_wp2
    go_ret
    exact ⟨rfl, HB9.out⟩
  by_cases hn : n < 1 ∨ (¬ n < 1 ∧ 100 < n)
  · have HT := hide hT
    clear hm hok hc hc' hT
    rcases hn with hn | ⟨hn, hn2⟩
    all_goals
      go_enter Try.func10, Try.ntmps10
      go_wp2_with fail
      rw [← HW0.out]
      go_wp2_with fail
      refine (HMAY.out _ HB0.out).mono ?_
      rintro e W1 ⟨⟨_, rfl⟩ | ⟨h, _⟩, b1⟩
      rotate_left
      · exact absurd HT.out h
      have HB1 := hide (HB0.out.trans (b1.mono HB0.out.size))
      clear b1
      go_wp2_with fail
      refine (HKN.out _).mono ?_
      rintro e W9 ⟨rfl, b9⟩
      have HB9 := hide (HB1.out.trans (b9.mono HB1.out.size))
      clear b9
      go_wp2
      go_ret
      exact ⟨rfl, HB9.out⟩
  obtain ⟨i0, hi, hz0, hz1, hz2⟩ := info_parts info_int
  obtain ⟨q, rfl⟩ : ∃ q : Nat, n = (q : Int) := ⟨n.toNat, by omega⟩
  have hn1 : ¬ (q : Int) < 1 := by omega
  have hn2 : ¬ 100 < (q : Int) := by omega
  clear hn
  obtain ⟨K, hK⟩ : ∃ K : Nat, K = 131072 + q := ⟨_, rfl⟩
  have hKi : (131072 : Int) + (q : Int) = (K : Int) := by omega
  have hwK : IntKind.i64.wrap ((131072 : Int) + (q : Int)) = (K : Int) := by rw [IntWalk.i64_in _ (by omega)]; exact hKi
  have hwn : IntKind.i64.wrap (-(q : Int)) = -(q : Int) := IntWalk.i64_in _ (by omega)
  have HENC := hide (fun W (b : Below w.heap.size w W) (B : Option Addr) (cb : Nat) (S : List Int) (hS : S.length = K) (r : Reads W W.heap.size 1 B K (intsV S)) => enc_any (cs := cb) (S := S) (k := 2) (bs := []) (.inr (.inl ⟨hT, by omega, rfl, rfl⟩)) W hm (HRT.out W b) hok hc hc' hS r)
  have HD1 := hide (fun W (b : Below w.heap.size w W) (B : Option Addr) (cb : Nat) (r : Reads W W.heap.size 1 B 1 (u8s [1])) => dec_any (cb := cb) (l := l) (n := (K : Int)) (k := 2) (S := []) (.inr (.inl ⟨hT, .inr ⟨by omega, by omega⟩, rfl, rfl⟩)) W hm (HRT.out W b) hok hc hc' r (by decide) rfl (by decide))
  have HD2 := hide (fun W (b : Below w.heap.size w W) (B : Option Addr) (cb : Nat) (r : Reads W W.heap.size 1 B 1 (u8s [1])) => dec_any (cb := cb) (l := l) (n := -(q : Int)) (k := 2) (S := []) (.inr (.inl ⟨hT, .inl (by omega), rfl, rfl⟩)) W hm (HRT.out W b) hok hc hc' r (by decide) rfl (by decide))
  have HT := hide hT
  have hK2 : K ≤ 131172 := by omega
  have hu22 := Try.underlying22
  have HUN := hide hu22
  clear hm hok hc hc' hT hK hKi hu22
  go_enter Try.func10, Try.ntmps10
  go_wp2_with fail
  rw [← HW0.out]
  go_wp2_with fail
  refine (HMAY.out _ HB0.out).mono ?_
  rintro e W1 ⟨⟨_, rfl⟩ | ⟨h, _⟩, b1⟩
  rotate_left
  · exact absurd HT.out h
  have HB1 := hide (HB0.out.trans (b1.mono HB0.out.size))
  have HG1 := hide ((b1.block _ (lt_of_heap HG0.out)).trans HG0.out)
  have k10 := cell_blk HG1.out 0
  have k11 := cell_blk HG1.out 1
  obtain ⟨W2, hmk, hown2, hg2⟩ := run_make_full (P := Try.prog) W1.drew w.heap.size 22 3 i0 (.int .i64 0) 1 HUN.out hi hz0 hz1 .i64 .i64 K (by rw [hz2]; omega) (by unfold maxLen; omega) HB1.out.size
  have hch2 : Chg (fun _ => False) W1 W2 := ((Chg.refl (fun _ => False) W1).drew).trans ((Chg.of_grown hg2).mono (T := fun _ => False) (fun q hq => by cases hq)) (fun q h => h.elim)
  have HB2 := hide (HB1.out.trans (hch2.keep.mono HB1.out.size))
  have HG2 := hide (hch2.heap HG1.out (fun h => h))
  have k20 := cell_blk HG2.out 0
  have k21 := cell_blk HG2.out 1
  have HO2 := hide hown2
  clear b1 hch2 hg2
  have hrd2 := Reads.of_own hown2
  have hlen2 : (madeCells (Value.int .i64 0).cells (K * 1)).toList = intsV (List.replicate K 0) := by
    rw [Nat.mul_one]
    show (madeCells #[.int .i64 0] K).toList = _
    rw [toList_madeCells_one]
    simp [intsV]
  rw [hlen2] at hrd2
  have HRD2 := hide hrd2
  have hws : W1.drew.heap.size = W1.heap.size := rfl
  rw [hws] at hmk HRD2
  have hml : (List.replicate K (0 : Int)).length = K := by simp
  have HML := hide hml
  clear hrd2 hlen2 hown2 HO2 hws hml
  go_wp2_with fail
  go_region_held3 (fun w' => w'.cell? ⟨w.heap.size, 0, none⟩ = some (.int .i64 l) ∧ w'.cell? ⟨w.heap.size, 1, none⟩ = some (.slice A m c)) (go_keep)
    (first
    | (go_at_call 17; refine (HENC.out W2 HB2.out _ _ _ HML.out HRD2.out).mono ?_; rintro e w3 ⟨v3, rfl, ho3, hb3⟩; have j0 := (hb3.cell (p := ⟨w.heap.size, 0, none⟩) (lt_of_heap HG2.out)).trans k20; have j1 := (hb3.cell (p := ⟨w.heap.size, 1, none⟩) (lt_of_heap HG2.out)).trans k21; obtain ⟨A3, c3, rfl⟩ := own_form ho3; have HB3 := hide (HB2.out.trans (hb3.mono HB2.out.size)); have HG3 := hide ((hb3.block _ (lt_of_heap HG2.out)).trans HG2.out); clear hb3 ho3))
  clear k10 k11 k20 k21 j0 j1 hmk
  have k30 := cell_blk HG3.out 0
  have k31 := cell_blk HG3.out 1
  obtain ⟨X4, hX4⟩ : ∃ X, X = w3.alloc (.cells #[.int .u8 1] 5 (0, 0)) := ⟨_, rfl⟩
  have hx4 : Reads X4 X4.heap.size 1 (some ⟨w3.heap.size, 0, none⟩) 1 (u8s [1]) := by rw [hX4]; exact reads_blk (heap_alloc_new w3 _) rfl
  have hbX4 : Below w3.heap.size w3 X4 := by rw [hX4]; exact (Below.refl _ _).alloc (Nat.le_refl _) _
  have HBX4 := hide (HB3.out.trans (hbX4.mono HB3.out.size))
  have HGX4 := hide ((hbX4.block _ (lt_of_heap HG3.out)).trans HG3.out)
  have HXR4 := hide hx4
  have HXE4 := hide hX4
  clear hx4 hbX4 hX4
  go_wp2_with fail
  rw [← HXE4.out]
  refine (HD1.out X4 HBX4.out _ _ HXR4.out).mono ?_
  rintro e V4 ⟨v4, rfl, ho4, b4⟩
  obtain ⟨A4, c4, rfl⟩ := own_form ho4
  have HB4 := hide (HBX4.out.trans (b4.mono HBX4.out.size))
  have HG4 := hide ((b4.block _ (lt_of_heap HGX4.out)).trans HGX4.out)
  have k40 := cell_blk HG4.out 0
  have k41 := cell_blk HG4.out 1
  clear b4 ho4 k30 k31
  obtain ⟨X5, hX5⟩ : ∃ X, X = V4.alloc (.cells #[.int .u8 1] 5 (0, 0)) := ⟨_, rfl⟩
  have hx5 : Reads X5 X5.heap.size 1 (some ⟨V4.heap.size, 0, none⟩) 1 (u8s [1]) := by rw [hX5]; exact reads_blk (heap_alloc_new V4 _) rfl
  have hbX5 : Below V4.heap.size V4 X5 := by rw [hX5]; exact (Below.refl _ _).alloc (Nat.le_refl _) _
  have HBX5 := hide (HB4.out.trans (hbX5.mono HB4.out.size))
  have HXR5 := hide hx5
  have HXE5 := hide hX5
  clear hx5 hbX5 hX5
  go_wp2_with fail
  rw [← HXE5.out]
  refine (HD2.out X5 HBX5.out _ _ HXR5.out).mono ?_
  rintro e V5 ⟨v5, rfl, ho5, b5⟩
  obtain ⟨A5, c5, rfl⟩ := own_form ho5
  have HB5 := hide (HBX5.out.trans (b5.mono HBX5.out.size))
  clear b5 ho5 k40 k41
  go_wp2_with fail
  refine (HKN.out _).mono ?_
  rintro e W9 ⟨rfl, b9⟩
  have HB9 := hide (HB5.out.trans (b9.mono HB5.out.size))
  clear b9
  go_wp2
  go_ret
  exact ⟨rfl, HB9.out⟩
end Go.Proofs.Ytemiaagaggjbiaa
