/- portmanteaulaw10.StatesNew walked. -/
import Derived.Test.YtpedhioicfjpkaaSt8
namespace Go.Proofs.Ytpedhioicfjpkaa
open Go.RowKit Go Go.Shelf
set_option linter.unusedVariables false
attribute [local go_sem high] eql_step eql_cell

theorem quiet_same {P : Program} {f : FuncId} {args : Array Value} {w : World} {n : Nat} {v : Value}
    (h : Calls P f args (w.drewN n) fun e w' => e = .returned v ∧ w' = w.drewN n) : Calls P f args (w.drewN n) fun e w'' => e = .returned v ∧ ∃ m, w'' = w.drewN m :=
  h.mono fun _ _ ⟨he, hm⟩ => ⟨he, n, hm⟩

set_option maxRecDepth 4000 in
set_option maxHeartbeats 8000000 in
theorem walk_StatesNew {w : World} (l : Int) (A : Option Addr) (m c : Nat) (zs : List Int) (wl : (Lit.int .i64 l).wf = true) (hm : zs.length = m) (hr : Reads w w.heap.size 1 A m (zs.map (Value.int .i64))) (hok : ∀ z ∈ zs, (Lit.int .i64 z).wf = true) (hc' : c ≤ maxLen) (hc : m ≤ c) (st : Int) (ws : (Lit.int .i64 st).wf = true) :
    Calls Try.prog 5 #[.agg #[.int .i64 l, .slice A m c], .int .i64 st] w fun e w' => e = .returned (.bool true) ∧ Below w.heap.size w w' := by
  have HKN := hide known_any
  obtain ⟨W0, hW0⟩ : ∃ W0, W0 = w.alloc (.cells #[.int .i64 l, .slice A m c] 24 (0, 0)) := ⟨_, rfl⟩
  have g1 : W0.heap[w.heap.size]? = some (.cells #[.int .i64 l, .slice A m c] 24 (0, 0)) := by rw [hW0]; exact heap_alloc_new w _
  have b0 : Below w.heap.size w W0 := by rw [hW0]; exact (Below.refl w.heap.size w).alloc (Nat.le_refl _) _
  have hs0 : W0.heap.size = w.heap.size + 1 := by rw [hW0]; simp
  have k00 := cell_blk g1 0
  have k01 := cell_blk g1 1
  have HB0 := hide b0
  have HW0 := hide hW0
  have HR := hide ((hr.below b0).more b0.size)
  have HG1 := hide g1
  have HS0 := hide hs0
  clear b0 hW0 hr g1 hs0 wl ws
  by_cases hbig : 300 < m
  · have hb' : (300 : Int) < (m : Int) := by omega
    go_enter Try.func5, Try.ntmps5
    go_wp2_with fail
    try rw [← HW0.out]
    go_wp2_with fail
    refine (HKN.out _).mono ?_
    rintro e W ⟨rfl, b⟩
    have HB1 := hide (HB0.out.trans (b.mono HB0.out.size))
    clear b
    go_wp2
    go_ret
    exact ⟨rfl, HB1.out⟩
  have hb' : ¬ (300 : Int) < (m : Int) := by omega
  by_cases hT : okT l zs
  · obtain ⟨L, rfl⟩ := Int.eq_ofNat_of_zero_le hT.1.1
    have hL : L ≤ 9 := by have := hT.1; omega
    have HNW := hide (new_ok L A m c zs W0 hm HR.out hok hc hc' hT)
    have HRE := hide (fun W hr => ref9_ok L A m c zs W hm hr hok hc hc' hT)
    have HLOG := hide (fun (W : World) (g : Nat) (h : CoR W g L zs) => log_any h hL)
    have HCB := hide (fun (W : World) (g : Nat) (h : CoR W g L zs) => cellm_bad (st := st) h)
    have HCO := hide (fun (W : World) (g s : Nat) (t : CellT) (h : CoR W g L zs) hs ht => cellm_ok (st := s) (t := t) h hs ht)
    have hbl : (buildL L zs).length = 2 ^ L := by simp [buildL]
    obtain ⟨hp0, hp1⟩ := pow_len hL
    obtain ⟨S, hS⟩ : ∃ S, S = 2 ^ L := ⟨_, rfl⟩
    rw [← hS] at HRE HCB HCO hbl hp0 hp1
    have HBL := hide hbl
    clear hT hm hok hc hc' hbl hS
    go_enter Try.func5, Try.ntmps5
    go_wp2_with fail
    try rw [← HW0.out]
    go_wp2_with fail
    refine HNW.out.mono ?_
    rintro e W1 ⟨g, rfl, hco, _, b1⟩
    have g2 := (b1.block _ (by have := HS0.out; omega)).trans HG1.out
    have k10 := cell_blk g2 0
    have k11 := cell_blk g2 1
    have HG2 := hide g2
    have HB1 := hide (HB0.out.trans (b1.mono HB0.out.size))
    have HR1 := hide ((HR.out.below b1).more b1.size)
    have HS1 := hide (show w.heap.size < W1.heap.size by have := HS0.out; have := b1.size; omega)
    have HCO1 := hide hco
    clear b1 g2 hco k00 k01 HG1 HR HB0 HW0 HS0 HNW
    go_wp2_with fail
    refine (HRE.out _ HR1.out).mono ?_
    rintro e W2 ⟨v2, rfl, ho2, b2⟩
    obtain ⟨A2, c2, rfl⟩ := own_form ho2
    have g3 := (b2.block _ HS1.out).trans HG2.out
    have k20 : W2.cell? ⟨w.heap.size, 0, none⟩ = some (.int .i64 (L : Int)) := cell_blk g3 0
    have HB2 := hide (HB1.out.trans (b2.mono HB1.out.size))
    have HO2 := hide ho2
    have HCO2 := hide (HCO1.out.below b2)
    have hLL : ((L : Int) != (L : Int)) = false := by simp
    clear b2 ho2 k10 k11 HG2 HR1 HB1 HS1 HCO1 HRE g3
    go_wp2
    go_quiet ((go_at_call 23; exact quiet_same (HLOG.out _ _ (HCO2.out.drewN _))))
    obtain ⟨W3, hW3⟩ : ∃ W3, W3 = W2.drewN nq := ⟨_, rfl⟩
    have HB3 : Hid (Below w.heap.size w W3) := by rw [hW3]; exact HB2.out.trans (below_drewN (Below.refl _ _) _)
    have HO3 : Hid (W3.ownsRow W1.heap.size 53 3 (.slice A2 S c2) S (cellsV (buildL L zs))) := by rw [hW3]; exact HO2.out
    have HCO3 : Hid (CoR W3 g L zs) := by rw [hW3]; exact HCO2.out.drewN _
    rw [← hW3]
    clear hW3 k20 HO2 HB2 HCO2
    by_cases hin : 0 ≤ st ∧ st < (S : Int)
    · obtain ⟨s, rfl⟩ := Int.eq_ofNat_of_zero_le hin.1
      have hsS : s < S := by omega
      obtain ⟨b4, o4, x, y, z, hA2, hb4, c1', c2', c3', hx⟩ := cell_cells (Reads.of_own HO3.out) HBL.out.symm hsS
      subst hA2
      have HX := hide hx
      have t1 : ¬ (s : Int) < 0 := by omega
      have t2 : ¬ (S : Int) ≤ (s : Int) := by omega
      have t3 : (s : Int) < (S : Int) := by omega
      have hcm := HCO.out W3 g s (x, y, z) HCO3.out hsS hx
      have HCM := hide hcm
      have hee := eqS_self (x, y, z)
      clear hx hin hcm
      go_wp2_with fail
      refine HCM.out.mono ?_
      rintro e W4 ⟨rfl, b4'⟩
      have HB4 := hide (HB3.out.trans (b4'.mono HB3.out.size))
      have e1 := (b4'.cell (p := ⟨b4, o4 + s * 3, none⟩) hb4).trans c1'
      have e2 := (b4'.cell (p := ⟨b4, o4 + s * 3 + 1, none⟩) hb4).trans c2'
      have e3 := (b4'.cell (p := ⟨b4, o4 + s * 3 + 2, none⟩) hb4).trans c3'
      have hb5 : b4 < W4.heap.size := Nat.lt_of_lt_of_le hb4 b4'.size
      obtain ⟨W5, hW5⟩ : ∃ W5, W5 = W4.alloc (.cells #[.int .i64 x, .int .i64 y, .int .i64 z] 53 (0, 0)) := ⟨_, rfl⟩
      have hg5 : W5.heap[W4.heap.size]? = some (.cells #[.int .i64 x, .int .i64 y, .int .i64 z] 53 (0, 0)) := by rw [hW5]; exact heap_alloc_new W4 _
      have hbb : Below W4.heap.size W4 W5 := by rw [hW5]; exact (Below.refl W4.heap.size W4).alloc (Nat.le_refl _) _
      have HB5 := hide (HB4.out.trans (hbb.mono HB4.out.size))
      have q0 : W5.cell? ⟨W4.heap.size, 0, none⟩ = some (.int .i64 x) := cell_blk hg5 0
      have q1 : W5.cell? ⟨W4.heap.size, 1, none⟩ = some (.int .i64 y) := cell_blk hg5 1
      have q2 : W5.cell? ⟨W4.heap.size, 2, none⟩ = some (.int .i64 z) := cell_blk hg5 2
      have q3 : W5.cell? ⟨b4, o4 + s * 3, none⟩ = some (.int .i64 x) := (hbb.cell (p := ⟨b4, o4 + s * 3, none⟩) hb5).trans e1
      have q4 : W5.cell? ⟨b4, o4 + s * 3 + 1, none⟩ = some (.int .i64 y) := (hbb.cell (p := ⟨b4, o4 + s * 3 + 1, none⟩) hb5).trans e2
      have q5 : W5.cell? ⟨b4, o4 + s * 3 + 2, none⟩ = some (.int .i64 z) := (hbb.cell (p := ⟨b4, o4 + s * 3 + 2, none⟩) hb5).trans e3
      have lt0 := lt_of_heap hg5
      have lt1 : b4 < W5.heap.size := Nat.lt_of_lt_of_le hb5 hbb.size
      have HW5 := hide hW5
      clear hW5 hg5 hbb e1 e2 e3 c1' c2' c3' b4' HCM
      go_wp2_with fail
      try rw [← HW5.out]
      go_wp2_with fail
      go_region_held3 (fun w' => w'.cell? ⟨W4.heap.size, 0, none⟩ = some (.int .i64 x) ∧ w'.cell? ⟨W4.heap.size, 1, none⟩ = some (.int .i64 y) ∧ w'.cell? ⟨W4.heap.size, 2, none⟩ = some (.int .i64 z) ∧ w'.cell? ⟨b4, o4 + s * 3, none⟩ = some (.int .i64 x) ∧ w'.cell? ⟨b4, o4 + s * 3 + 1, none⟩ = some (.int .i64 y) ∧ w'.cell? ⟨b4, o4 + s * 3 + 2, none⟩ = some (.int .i64 z)) (go_keep)
        (first
        | (go_at_call 12; refine (HKN.out _).mono ?_; rintro e w6 ⟨rfl, hb6⟩; replace hb6 := (Below.refl _ W5).drew.trans hb6; have j0 := (hb6.cell (p := ⟨W4.heap.size, 0, none⟩) lt0).trans q0; have j1 := (hb6.cell (p := ⟨W4.heap.size, 1, none⟩) lt0).trans q1; have j2 := (hb6.cell (p := ⟨W4.heap.size, 2, none⟩) lt0).trans q2; have j3 := (hb6.cell (p := ⟨b4, o4 + s * 3, none⟩) lt1).trans q3; have j4 := (hb6.cell (p := ⟨b4, o4 + s * 3 + 1, none⟩) lt1).trans q4; have j5 := (hb6.cell (p := ⟨b4, o4 + s * 3 + 2, none⟩) lt1).trans q5; have HB6 := hide hb6; clear hb6))
      go_wp2
      go_ret
      exact ⟨rfl, HB5.out.trans (HB6.out.mono HB5.out.size)⟩
    · have hout : st < 0 ∨ (¬ st < 0 ∧ (S : Int) ≤ st) := by omega
      have hcm := HCB.out W3 g HCO3.out (by omega)
      have HCM := hide hcm
      have hee := eqS_self (0, 0, 0)
      clear hin hcm
      rcases hout with ho | ⟨ho, ho'⟩
      all_goals
        go_wp2_with fail
        refine HCM.out.mono ?_
        rintro e W4 ⟨rfl, b4⟩
        have HB4 := hide (HB3.out.trans (b4.mono HB3.out.size))
        obtain ⟨W5, hW5⟩ : ∃ W5, W5 = W4.alloc (.cells #[.int .i64 0, .int .i64 0, .int .i64 0] 53 (0, 0)) := ⟨_, rfl⟩
        have hg5 : W5.heap[W4.heap.size]? = some (.cells #[.int .i64 0, .int .i64 0, .int .i64 0] 53 (0, 0)) := by rw [hW5]; exact heap_alloc_new W4 _
        have HB5 : Hid (Below w.heap.size w W5) := by rw [hW5]; exact HB4.out.alloc HB4.out.size _
        have q0 := cell_blk hg5 0
        have q1 := cell_blk hg5 1
        have q2 := cell_blk hg5 2
        have HW5 := hide hW5
        clear hW5 hg5 b4 HCM
        go_wp2_with fail
        try rw [← HW5.out]
        go_wp2_with fail
        refine (HKN.out _).mono ?_
        rintro e W6 ⟨rfl, b6⟩
        have HB6 := hide (HB5.out.trans (b6.mono HB5.out.size))
        clear b6
        go_wp2
        go_ret
        exact ⟨rfl, HB6.out⟩
  · have HNW := hide (new_bad l A m c zs W0 hm HR.out hok hc hc' hT)
    have HRE := hide (fun W hr => ref9_bad l A m c zs W hm hr hok hc hc' hT)
    clear hT hm hok hc hc'
    go_enter Try.func5, Try.ntmps5
    go_wp2_with fail
    try rw [← HW0.out]
    go_wp2_with fail
    refine HNW.out.mono ?_
    rintro e W1 ⟨rfl, b1⟩
    have g2 := (b1.block _ (by have := HS0.out; omega)).trans HG1.out
    have k10 := cell_blk g2 0
    have k11 := cell_blk g2 1
    have HB1 := hide (HB0.out.trans (b1.mono HB0.out.size))
    have HR1 := hide ((HR.out.below b1).more b1.size)
    clear b1 g2 k00 k01 HG1 HR HB0 HW0 HS0 HNW
    go_wp2_with fail
    refine (HRE.out _ HR1.out).mono ?_
    rintro e W2 ⟨rfl, b2⟩
    have HB2 := hide (HB1.out.trans (b2.mono HB1.out.size))
    clear b2 k10 k11
    go_wp2_with fail
    refine (HKN.out _).mono ?_
    rintro e W3 ⟨rfl, b3⟩
    have HB3 := hide (HB2.out.trans (b3.mono HB2.out.size))
    clear b3
    go_wp2
    go_ret
    exact ⟨rfl, HB3.out⟩
end Go.Proofs.Ytpedhioicfjpkaa
