/- portmanteaulaw12.FlowDecodes and FlowTotal walked. -/
import Derived.Test.YtemiaagaggjbiaaFlH
namespace Go.Proofs.Ytemiaagaggjbiaa
open Go.RowKit Go Go.Shelf
set_option linter.unusedVariables false
set_option maxRecDepth 8000

set_option maxHeartbeats 8000000 in
theorem walk_FlowDecodes {w : World} (l : Int) (A : Option Addr) (m c : Nat) (zs : List Int) (wl : (Lit.int .i64 l).wf = true) (hm : zs.length = m) (hr : Reads w w.heap.size 1 A m (zs.map (Value.int .i64))) (hok : ∀ z ∈ zs, (Lit.int .i64 z).wf = true) (hc' : c ≤ maxLen) (hc : m ≤ c)
    (B : Option Addr) (nb cb : Nat) (ys : List Int) (hn : ys.length = nb) (hrb : Reads w w.heap.size 1 B nb (ys.map (Value.int .u8))) (hokb : ∀ z ∈ ys, (Lit.int .u8 z).wf = true) (hmb : cb ≤ maxLen) (hcb : nb ≤ cb) (n : Int) (wn : (Lit.int .i64 n).wf = true) :
    Calls Try.prog 3 #[.agg #[.int .i64 l, .slice A m c], .slice B nb cb, .int .i64 n] w fun e w' => e = .returned (.bool true) ∧ Below w.heap.size w w' := by
  obtain ⟨hu1, hu2⟩ := u8s_of hokb
  rw [hu1] at hrb
  obtain ⟨bs, hbs⟩ : ∃ bs, bs = ys.map Int.toNat := ⟨_, rfl⟩
  have hbl : nb = bs.length := by rw [hbs]; simpa using hn.symm
  rw [← hbs] at hrb hu2
  have HKN := hide known_any
  obtain ⟨W0, hW0⟩ : ∃ W0, W0 = w.alloc (.cells #[.int .i64 l, .slice A m c] 24 (0, 0)) := ⟨_, rfl⟩
  have g1 : W0.heap[w.heap.size]? = some (.cells #[.int .i64 l, .slice A m c] 24 (0, 0)) := by rw [hW0]; exact heap_alloc_new w _
  have b0 : Below w.heap.size w W0 := by rw [hW0]; exact (Below.refl w.heap.size w).alloc (Nat.le_refl _) _
  have k0 := cell_blk g1 0
  have k1 := cell_blk g1 1
  have HG1 := hide g1
  have HB0 := hide b0
  have HW0 := hide hW0
  clear hu1 hbs hn hokb hmb hcb g1 b0 hW0
  by_cases hbig : (300 < (m : Int)) ∨ (¬ 300 < (m : Int) ∧ 400 < (nb : Int)) ∨ (¬ 300 < (m : Int) ∧ ¬ 400 < (nb : Int) ∧ 600 < n)
  · clear hr hu2 hbl hrb hm hok hc hc'
    rcases hbig with h | ⟨h, h1⟩ | ⟨h, h1, h2⟩
    all_goals
      go_enter Try.func3, Try.ntmps3
      go_wp2_with fail
      rw [← HW0.out]
      go_wp2_with fail
      refine (HKN.out _).mono ?_
      rintro e W ⟨rfl, b⟩
      have HB := hide (HB0.out.trans (b.mono HB0.out.size))
      clear b
      go_wp2
      go_ret
      exact ⟨rfl, HB.out⟩
  · have h1 : ¬ 300 < (m : Int) := by omega
    have h2 : ¬ 400 < (nb : Int) := by omega
    have h3 : ¬ 600 < n := by omega
    clear hbig
    obtain ⟨k, S, hO⟩ := outD_ex l zs bs n
    have hSl : S.length ≤ 600 := by
      rcases outD_total hO with ⟨_, _, h, _⟩ | ⟨_, rfl⟩
      · omega
      · simp
    have HD := hide (fun W (b : Below w.heap.size w W) => dec_any (cb := cb) hO W hm ((hr.below b).more b.size) hok hc hc' ((hrb.below b).more b.size) hu2 hbl (by omega))
    have HDR := hide (fun W (b : Below w.heap.size w W) => decR_any (cb := cb) hO W hm ((hr.below b).more b.size) hok hc hc' ((hrb.below b).more b.size) hu2 hbl (by omega))
    clear hr hu2 hbl hrb hm hok hc hc' hO
    go_enter Try.func3, Try.ntmps3
    go_wp2_with fail
    rw [← HW0.out]
    go_wp2_with fail
    refine (HD.out _ HB0.out).mono ?_
    rintro e W1 ⟨v1, rfl, ho1, b1⟩
    obtain ⟨A1, c1, rfl⟩ := own_form ho1
    have hG2 := (b1.block _ (lt_of_heap HG1.out)).trans HG1.out
    have k20 := cell_blk hG2 0
    have k21 := cell_blk hG2 1
    have HR1 := hide (Reads.of_own ho1)
    have HB1 := hide (HB0.out.trans (b1.mono HB0.out.size))
    clear b1 ho1 hG2
    go_wp2_with fail
    refine (HDR.out _ HB1.out).mono ?_
    rintro e W2 ⟨v2, rfl, ho2, b2⟩
    obtain ⟨A2, c2, rfl⟩ := own_form ho2
    have HR2 := hide ((HR1.out.below b2).more b2.size)
    have HRR2 := hide (Reads.of_own ho2)
    have HB2 := hide (HB1.out.trans (b2.mono HB1.out.size))
    clear b2 ho2 k20 k21
    go_wp2_with fail
    refine (isame_any A1 A2 S.length c1 S.length c2 S S W2 HR2.out HRR2.out rfl rfl (by omega)).mono ?_
    rintro e W3 ⟨rfl, j, rfl⟩
    have HB3 := hide (below_drewN HB2.out j)
    have hdd : decide (S = S) = true := by simp
    rw [hdd]
    go_wp2_with fail
    refine (HKN.out _).mono ?_
    rintro e W9 ⟨rfl, b9⟩
    have HB9 := hide (HB3.out.trans (b9.mono HB3.out.size))
    clear b9
    go_wp2
    go_ret
    exact ⟨rfl, HB9.out⟩

set_option maxHeartbeats 8000000 in
theorem walk_FlowTotal {w : World} (l : Int) (A : Option Addr) (m c : Nat) (zs : List Int) (wl : (Lit.int .i64 l).wf = true) (hm : zs.length = m) (hr : Reads w w.heap.size 1 A m (zs.map (Value.int .i64))) (hok : ∀ z ∈ zs, (Lit.int .i64 z).wf = true) (hc' : c ≤ maxLen) (hc : m ≤ c)
    (B : Option Addr) (nb cb : Nat) (ys : List Int) (hn : ys.length = nb) (hrb : Reads w w.heap.size 1 B nb (ys.map (Value.int .u8))) (hokb : ∀ z ∈ ys, (Lit.int .u8 z).wf = true) (hmb : cb ≤ maxLen) (hcb : nb ≤ cb) (n : Int) (wn : (Lit.int .i64 n).wf = true) :
    Calls Try.prog 4 #[.agg #[.int .i64 l, .slice A m c], .slice B nb cb, .int .i64 n] w fun e w' => e = .returned (.bool true) ∧ Below w.heap.size w w' := by
  obtain ⟨hu1, hu2⟩ := u8s_of hokb
  rw [hu1] at hrb
  obtain ⟨bs, hbs⟩ : ∃ bs, bs = ys.map Int.toNat := ⟨_, rfl⟩
  have hbl : nb = bs.length := by rw [hbs]; simpa using hn.symm
  rw [← hbs] at hrb hu2
  have HKN := hide known_any
  obtain ⟨W0, hW0⟩ : ∃ W0, W0 = w.alloc (.cells #[.int .i64 l, .slice A m c] 24 (0, 0)) := ⟨_, rfl⟩
  have g1 : W0.heap[w.heap.size]? = some (.cells #[.int .i64 l, .slice A m c] 24 (0, 0)) := by rw [hW0]; exact heap_alloc_new w _
  have b0 : Below w.heap.size w W0 := by rw [hW0]; exact (Below.refl w.heap.size w).alloc (Nat.le_refl _) _
  have k0 := cell_blk g1 0
  have k1 := cell_blk g1 1
  have HG1 := hide g1
  have HB0 := hide b0
  have HW0 := hide hW0
  clear hu1 hbs hn hokb hmb hcb g1 b0 hW0
  by_cases hbig : (300 < (m : Int)) ∨ (¬ 300 < (m : Int) ∧ 400 < (nb : Int)) ∨ (¬ 300 < (m : Int) ∧ ¬ 400 < (nb : Int) ∧ 1000 < n)
  · clear hr hu2 hbl hrb hm hok hc hc'
    rcases hbig with h | ⟨h, h1⟩ | ⟨h, h1, h2⟩
    all_goals
      go_enter Try.func4, Try.ntmps4
      go_wp2_with fail
      rw [← HW0.out]
      go_wp2_with fail
      refine (HKN.out _).mono ?_
      rintro e W ⟨rfl, b⟩
      have HB := hide (HB0.out.trans (b.mono HB0.out.size))
      clear b
      go_wp2
      go_ret
      exact ⟨rfl, HB.out⟩
  · have h1 : ¬ 300 < (m : Int) := by omega
    have h2 : ¬ 400 < (nb : Int) := by omega
    have h3 : ¬ 1000 < n := by omega
    clear hbig
    obtain ⟨k, S, hO⟩ := outD_ex l zs bs n
    have HD := hide (fun W (b : Below w.heap.size w W) => dec_any (cb := cb) hO W hm ((hr.below b).more b.size) hok hc hc' ((hrb.below b).more b.size) hu2 hbl (by omega))
    have HM := hide hm
    have HR := hide hr
    clear hr hu2 hbl hrb hm hok hc hc'
    rcases outD_total hO with ⟨rfl, hT, hSn, hall⟩ | ⟨hk, rfl⟩
    · have hSl : S.length ≤ 1000 := by omega
      have HALL := hide hall
      have HSN := hide hSn
      have heq : ((S.length : Int) == n) = true := by simp [hSn]
      have HTR := hide (fun W (r : Reads W W.heap.size 1 A m (zs.map (Value.int .i64))) (A1 : Option Addr) (c1 : Nat) (r1 : Reads W W.heap.size 1 A1 S.length (intsV S)) => has_any (c2 := c1) l (c := c) HM.out r rfl r1 (by omega))
      clear hO hall hT hSn
      go_enter Try.func4, Try.ntmps4
      go_wp2_with fail
      rw [← HW0.out]
      go_wp2_with fail
      refine (HD.out _ HB0.out).mono ?_
      rintro e W1 ⟨v1, rfl, ho1, b1⟩
      obtain ⟨A1, c1, rfl⟩ := own_form ho1
      have hG2 := (b1.block _ (lt_of_heap HG1.out)).trans HG1.out
      have k20 := cell_blk hG2 0
      have k21 := cell_blk hG2 1
      have HR1 := hide (Reads.of_own ho1)
      have HB1 := hide (HB0.out.trans (b1.mono HB0.out.size))
      clear b1 ho1 hG2
      go_wp2_with fail
      refine (HTR.out W1 ((HR.out.below HB1.out).more HB1.out.size) A1 c1 HR1.out).mono ?_
      rintro e W2 ⟨b', rfl, hb', b2⟩
      obtain rfl : b' = true := hb'.2 HALL.out
      have HB2 := hide (HB1.out.trans (b2.mono HB1.out.size))
      clear b2 k20 k21 hb'
      go_wp2_with fail
      refine (HKN.out _).mono ?_
      rintro e W9 ⟨rfl, b9⟩
      have HB9 := hide (HB2.out.trans (b9.mono HB2.out.size))
      clear b9
      go_wp2
      go_ret
      exact ⟨rfl, HB9.out⟩
    · clear hO
      rcases hk with rfl | rfl | rfl
      all_goals
        go_enter Try.func4, Try.ntmps4
        go_wp2_with fail
        rw [← HW0.out]
        go_wp2_with fail
        refine (HD.out _ HB0.out).mono ?_
        rintro e W1 ⟨v1, rfl, ho1, b1⟩
        obtain ⟨A1, c1, rfl⟩ := own_form ho1
        have HB1 := hide (HB0.out.trans (b1.mono HB0.out.size))
        clear b1 ho1
        go_wp2_with fail
        refine (HKN.out _).mono ?_
        rintro e W9 ⟨rfl, b9⟩
        have HB9 := hide (HB1.out.trans (b9.mono HB1.out.size))
        clear b9
        go_wp2
        go_ret
        exact ⟨rfl, HB9.out⟩
end Go.Proofs.Ytemiaagaggjbiaa
