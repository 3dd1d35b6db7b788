/- portmanteaulaw09.CellsOwn walked. -/
import Derived.Test.YtlbpefahhecbnaaCeG
import Derived.Test.YtlbpefahhecbnaaCeK
namespace Go.Proofs.Ytlbpefahhecbnaa
open Go.RowKit Go Go.Shelf
set_option linter.unusedVariables false

/-- SingleSymbol, for any symbol. -/
theorem sing_any (z : Int) : ∃ (k : Nat) (xs : List Int) (E : Int), k ≤ 256 ∧ xs.length = k ∧ ((z < 0 ∨ (¬ z < 0 ∧ 255 < z)) ∨ (∃ s : Nat, z = (s : Int) ∧ s ≤ 255 ∧ k = s + 1 ∧ xs = oneL s)) ∧
    ∀ w : World, Calls Try.prog 21 #[.int .i64 z] w fun e w' => ∃ v, e = .returned (.tuple #[.agg #[.int .i64 0, v], .int .i64 E]) ∧ w'.ownsRow w.heap.size 3 1 v k (xs.map (Value.int .i64)) ∧ Below w.heap.size w w' := by
  by_cases hbad : z < 0 ∨ (¬ z < 0 ∧ 255 < z)
  · refine ⟨0, [], 2, by omega, rfl, .inl hbad, fun w => ?_⟩
    exact (single_bad z w hbad).mono fun e w' ⟨he, hb⟩ => ⟨_, he, World.ownsRow_nil _ _ _ _, hb⟩
  · obtain ⟨s, rfl⟩ := Int.eq_ofNat_of_zero_le (show 0 ≤ z by omega)
    have hs : s ≤ 255 := by omega
    exact ⟨s + 1, oneL s, 0, by omega, oneL_length s, .inr ⟨s, rfl, hs, rfl, rfl⟩, fun w => single_ok s w hs⟩

set_option maxRecDepth 4000 in
set_option maxHeartbeats 8000000 in
theorem walk_CellsOwn {w : World} (l : Int) (A : Option Addr) (m c : Nat) (zs : List Int) (wl : (Lit.int .i64 l).wf = true) (hm : zs.length = m) (hr : Reads w w.heap.size 1 A m (zs.map (Value.int .i64))) (hok : ∀ z ∈ zs, (Lit.int .i64 z).wf = true) (hc' : c ≤ maxLen) (hc : m ≤ c) (sym : Int) (ws : (Lit.int .i64 sym).wf = true) :
    Calls Try.prog 8 #[.agg #[.int .i64 l, .slice A m c], .int .i64 sym] w fun e w' => e = .returned (.bool true) ∧ Below w.heap.size w w' := by
  have HKN := hide known_any
  obtain ⟨W0, hW0⟩ : ∃ W0, W0 = w.alloc (.cells #[.int .i64 l, .slice A m c] 24 (0, 0)) := ⟨_, rfl⟩
  have g1 : W0.heap[w.heap.size]? = some (.cells #[.int .i64 l, .slice A m c] 24 (0, 0)) := by rw [hW0]; exact heap_alloc_new w _
  have b0 : Below w.heap.size w W0 := by rw [hW0]; exact (Below.refl w.heap.size w).alloc (Nat.le_refl _) _
  have hs0 : W0.heap.size = w.heap.size + 1 := by rw [hW0]; simp
  have k00 : W0.cell? ⟨w.heap.size, 0, none⟩ = some (.int .i64 l) := cell_blk g1 0
  have k01 : W0.cell? ⟨w.heap.size, 1, none⟩ = some (.slice A m c) := cell_blk g1 1
  have HB0 := hide b0
  have HW0 := hide hW0
  have HRw := hide hr
  have HR := hide (hr.below b0)
  have HR' := hide ((hr.below b0).more b0.size)
  have HG1 := hide g1
  have HS0 := hide hs0
  clear b0 hW0 hr g1 hs0 wl ws
  by_cases hbig : 300 < m
  · have hb' : (300 : Int) < (m : Int) := by omega
    go_enter Try.func8, Try.ntmps8
    go_wp2_with fail
    try rw [← HW0.out]
    go_wp2_with fail
    refine (HKN.out _).mono ?_
    rintro e W ⟨rfl, b⟩
    have HB1 := hide (HB0.out.trans (b.mono HB0.out.size))
    clear b
    go_wp2
    go_ret
    exact ⟨rfl, HB1.out⟩
  have hb' : ¬ (300 : Int) < (m : Int) := by omega
  have hm300 : m ≤ 300 := by omega
  obtain ⟨i0, hi, hz0, hz1, hz2⟩ := info_parts info_int
  obtain ⟨cs, E, hcs, hE, htab⟩ := tab_any l zs hok
  obtain ⟨k, xs, F, hk, hxs, hsym, hsing⟩ := sing_any sym
  have HTAB := hide htab
  have HSING := hide hsing
  have HSYM := hide hsym
  have HXS := hide hxs
  have HCS := hide hcs
  have HM := hide hm
  have hone : ∀ u ∈ zs.map (Value.int .i64), u.oneCell' = true := by
    intro u hu
    obtain ⟨x, _, rfl⟩ := List.mem_map.1 hu
    rfl
  have HONE := hide hone
  have hlim1 : 0 + m ≤ maxLen := by unfold maxLen; omega
  have hlim2 : (0 + m) * 8 ≤ 140737488355328 := by omega
  have lt0 : w.heap.size < W0.heap.size := by have := HS0.out; omega
  have HUN := hide Try.underlying22
  have HXD : Hid (Below W0.heap.size W0.drew (W0.drew.alloc (.cells #[.int .i64 0, .slice none 0 0] 24 (0, 0)))) := (Below.refl _ W0.drew).alloc (Nat.le_refl _) _
  have HR1 : Hid (Reads (W0.drew.alloc (.cells #[.int .i64 0, .slice none 0 0] 24 (0, 0))) w.heap.size 1 A m (zs.map (Value.int .i64))) := Reads.alloc (w := W0.drew) HR.out HB0.out.size _
  have hsz1 : W0.heap.size + 1 ≤ (W0.drew.alloc (.cells #[.int .i64 0, .slice none 0 0] 24 (0, 0))).heap.size := by simp
  have hsz2 : W0.heap.size ≤ (W0.drew.alloc (.cells #[.int .i64 0, .slice none 0 0] 24 (0, 0))).heap.size := by simp
  have hgz : (W0.drew.alloc (.cells #[.int .i64 0, .slice none 0 0] 24 (0, 0))).heap[W0.heap.size]? = some (.cells #[.int .i64 0, .slice none 0 0] 24 (0, 0)) := heap_alloc_new W0.drew _
  have HGZ := hide hgz
  have hne1 : w.heap.size ≠ W0.heap.size := by omega
  have HST : Hid (∀ (w1 : World) (A1 : Option Addr) (c1 : Nat), World.grownBy (W0.drew.alloc (.cells #[.int .i64 0, .slice none 0 0] 24 (0, 0))) w1 none →
      w1.heap[W0.heap.size]? = some (.cells #[.int .i64 0, .slice none 0 0] 24 (0, 0)) ∧ Below W0.heap.size W0.drew w1 ∧ w1.cell? ⟨w.heap.size, 0, none⟩ = some (.int .i64 l) ∧ w1.cell? ⟨w.heap.size, 1, none⟩ = some (.slice A m c) ∧
      ((w1.setCell ⟨W0.heap.size, 0, none⟩ (.int .i64 l)).setCell ⟨W0.heap.size, 1, none⟩ (.slice A1 m c1)).cell? ⟨w.heap.size, 0, none⟩ = some (.int .i64 l) ∧
      ((w1.setCell ⟨W0.heap.size, 0, none⟩ (.int .i64 l)).setCell ⟨W0.heap.size, 1, none⟩ (.slice A1 m c1)).cell? ⟨w.heap.size, 1, none⟩ = some (.slice A m c)) := by
    intro w1 A1 c1 hg
    have hb : Below W0.heap.size W0.drew w1 := HXD.out.grown hg hsz2 (fun q hq => nomatch hq)
    have e0 := (hb.cell (p := ⟨w.heap.size, 0, none⟩) lt0).trans k00
    have e1 := (hb.cell (p := ⟨w.heap.size, 1, none⟩) lt0).trans k01
    have hb2 : Below W0.heap.size W0.drew ((w1.setCell ⟨W0.heap.size, 0, none⟩ (.int .i64 l)).setCell ⟨W0.heap.size, 1, none⟩ (.slice A1 m c1)) := (hb.setCell (Nat.le_refl _) _).setCell (Nat.le_refl _) _
    exact ⟨(hg.block _ (by simp) (fun h => nomatch h)).trans HGZ.out, hb, e0, e1, (hb2.cell (p := ⟨w.heap.size, 0, none⟩) lt0).trans k00, (hb2.cell (p := ⟨w.heap.size, 1, none⟩) lt0).trans k01⟩
  clear hgz
  have HST2 : Hid (∀ (w1 : World) (A1 : Option Addr) (c1 : Nat), World.grownBy W0.drew w1 none →
      Below W0.heap.size W0.drew w1 ∧ w1.cell? ⟨w.heap.size, 0, none⟩ = some (.int .i64 l) ∧ w1.cell? ⟨w.heap.size, 1, none⟩ = some (.slice A m c) ∧
      (w1.alloc (.cells #[.int .i64 0, .slice none 0 0] 24 (0, 0))).cell? ⟨w.heap.size, 0, none⟩ = some (.int .i64 l) ∧ (w1.alloc (.cells #[.int .i64 0, .slice none 0 0] 24 (0, 0))).cell? ⟨w.heap.size, 1, none⟩ = some (.slice A m c) ∧
      (((w1.alloc (.cells #[.int .i64 0, .slice none 0 0] 24 (0, 0))).setCell ⟨w1.heap.size, 0, none⟩ (.int .i64 l)).setCell ⟨w1.heap.size, 1, none⟩ (.slice A1 m c1)).cell? ⟨w.heap.size, 0, none⟩ = some (.int .i64 l) ∧
      (((w1.alloc (.cells #[.int .i64 0, .slice none 0 0] 24 (0, 0))).setCell ⟨w1.heap.size, 0, none⟩ (.int .i64 l)).setCell ⟨w1.heap.size, 1, none⟩ (.slice A1 m c1)).cell? ⟨w.heap.size, 1, none⟩ = some (.slice A m c)) := by
    intro w1 A1 c1 hg
    have hb : Below W0.heap.size W0.drew w1 := (Below.refl W0.heap.size W0.drew).grown hg (Nat.le_refl _) (fun q hq => nomatch hq)
    have hs : W0.heap.size ≤ w1.heap.size := hb.size
    have hba : Below W0.heap.size W0.drew (w1.alloc (.cells #[.int .i64 0, .slice none 0 0] 24 (0, 0))) := hb.alloc hs _
    have hb2 : Below W0.heap.size W0.drew (((w1.alloc (.cells #[.int .i64 0, .slice none 0 0] 24 (0, 0))).setCell ⟨w1.heap.size, 0, none⟩ (.int .i64 l)).setCell ⟨w1.heap.size, 1, none⟩ (.slice A1 m c1)) := (hba.setCell hs _).setCell hs _
    exact ⟨hb, (hb.cell (p := ⟨w.heap.size, 0, none⟩) lt0).trans k00, (hb.cell (p := ⟨w.heap.size, 1, none⟩) lt0).trans k01, (hba.cell (p := ⟨w.heap.size, 0, none⟩) lt0).trans k00, (hba.cell (p := ⟨w.heap.size, 1, none⟩) lt0).trans k01, (hb2.cell (p := ⟨w.heap.size, 0, none⟩) lt0).trans k00, (hb2.cell (p := ⟨w.heap.size, 1, none⟩) lt0).trans k01⟩
  have HRD : Hid (Reads W0.drew w.heap.size 1 A m (zs.map (Value.int .i64))) := HR.out
  clear htab hsing hsym hxs hcs hone hE hm
  go_enter Try.func8, Try.ntmps8
  go_wp2_with fail
  try rw [← HW0.out]
  go_wp2_with fail
  go_region_held3 (fun w' => w'.cell? ⟨w.heap.size, 0, none⟩ = some (.int .i64 l) ∧ w'.cell? ⟨w.heap.size, 1, none⟩ = some (.slice A m c)) (go_keep)
    (first
    | (refine step_append_any _ (by rfl) (.const (.slice none 0 0)) (.tmp 26) _ (by rfl) (W0.heap.size + 1) 3 i0 _ 1 8 HUN.out hi hz0 hz1 hz2 rfl Nat.zero_lt_one (.slice none 0 0) 0 _ (by rfl) (World.ownsRow_nil _ _ _ _) w.heap.size A m c _ (by rfl) HR1.out HONE.out hlim1 hlim2 hsz1 ?_; intro v1 w1 hown1 hg1 hat1; rw [Nat.zero_add, List.nil_append] at hown1; obtain ⟨A1, c1, rfl⟩ := own_form hown1; obtain ⟨h3, hb1, j0, j1, j0', j1'⟩ := HST.out w1 A1 c1 hg1; have u0 : w1.cell? ⟨W0.heap.size, 0, none⟩ = some (.int .i64 0) := cell_blk h3 0; have u1 : w1.cell? ⟨W0.heap.size, 1, none⟩ = some (.slice none 0 0) := cell_blk h3 1; have p0 := frozen_blk h3 0; have p1 := frozen_blk h3 1; have p1' := frozen_blk (set_blk h3 0 (.int .i64 l)) 1; have u1' : (w1.setCell ⟨W0.heap.size, 0, none⟩ (.int .i64 l)).cell? ⟨W0.heap.size, 1, none⟩ = some (.slice none 0 0) := cell_blk (set_blk h3 0 (.int .i64 l)) 1; have HO1 := hide hown1; have HB1 := hide hb1; have H3 := hide h3; have HG := hide hg1; clear hown1 hg1 hat1 hb1 h3)
    | (refine step_append_any _ (by rfl) (.const (.slice none 0 0)) (.tmp 26) _ (by rfl) W0.heap.size 3 i0 _ 1 8 HUN.out hi hz0 hz1 hz2 rfl Nat.zero_lt_one (.slice none 0 0) 0 _ (by rfl) (World.ownsRow_nil _ _ _ _) w.heap.size A m c _ (by rfl) HRD.out HONE.out hlim1 hlim2 (Nat.le_refl _) ?_; intro v1 w1 hown1 hg1 hat1; rw [Nat.zero_add, List.nil_append] at hown1; obtain ⟨A1, c1, rfl⟩ := own_form hown1; obtain ⟨hb1, j0, j1, ja0, ja1, j0', j1'⟩ := HST2.out w1 A1 c1 hg1; have h3 := heap_alloc_new w1 (.cells #[.int .i64 0, .slice none 0 0] 24 (0, 0)); have u0 : (w1.alloc (.cells #[.int .i64 0, .slice none 0 0] 24 (0, 0))).cell? ⟨w1.heap.size, 0, none⟩ = some (.int .i64 0) := cell_blk h3 0; have u1 : (w1.alloc (.cells #[.int .i64 0, .slice none 0 0] 24 (0, 0))).cell? ⟨w1.heap.size, 1, none⟩ = some (.slice none 0 0) := cell_blk h3 1; have p0 := frozen_blk h3 0; have p1 := frozen_blk h3 1; have p1' := frozen_blk (set_blk h3 0 (.int .i64 l)) 1; have u1' : ((w1.alloc (.cells #[.int .i64 0, .slice none 0 0] 24 (0, 0))).setCell ⟨w1.heap.size, 0, none⟩ (.int .i64 l)).cell? ⟨w1.heap.size, 1, none⟩ = some (.slice none 0 0) := cell_blk (set_blk h3 0 (.int .i64 l)) 1; have HO1 := hide hown1; have HB1 := hide hb1; have HG := hide hg1; clear hown1 hg1 hat1 hb1 h3))
  · have hsw : W0.heap.size ≤ w1.heap.size := HB1.out.size
    obtain ⟨W4, hW4⟩ : ∃ W4, W4 = w1.alloc (.cells #[.int .i64 l, .slice A1 m c1] 24 (0, 0)) := ⟨_, rfl⟩
    have hG5 : W4.heap[w1.heap.size]? = some (.cells #[.int .i64 l, .slice A1 m c1] 24 (0, 0)) := by rw [hW4]; exact heap_alloc_new w1 _
    have hB4 : Below W0.heap.size W0.drew W4 := by rw [hW4]; exact HB1.out.alloc hsw _
    have hOC : W4.ownsRow W0.heap.size 3 1 (.slice A1 m c1) m (zs.map (Value.int .i64)) := by
      rw [hW4]
      exact HO1.out.alloc _
    rw [← hW4]
    obtain ⟨p5, hp5⟩ : ∃ p5, p5 = w1.heap.size := ⟨_, rfl⟩
    rw [← hp5] at hG5 ⊢
    have hg0 := (hB4.block _ lt0).trans HG1.out
    have q0 := cell_blk hG5 0
    have q1 := cell_blk hG5 1
    have HG5 := hide hG5
    have HB4 := hide (HB0.out.trans ((Below.refl W0.heap.size W0).drew.trans hB4 |>.mono HB0.out.size))
    have HOC := hide hOC
    have HG0 := hide hg0
    have HCAP := hide (own_cap hOC)
    have lt4 : w.heap.size < W4.heap.size := lt_of_heap hg0
    have lt5 : p5 < W4.heap.size := lt_of_heap hG5
    have hbu := (HTAB.out A1 m c1 W4 HM.out (Reads.of_own hOC) HCAP.out.1 HCAP.out.2).1
    have HBU := hide hbu
    have HRW := hide (show Reads w w.heap.size 1 A m (zs.map (Value.int .i64)) from HRw.out)
    have HBW := hide (show Below w.heap.size w W4 from HB4.out)
    clear hW4 hp5 hg0 hG5 hOC hB4 hbu k00 k01 HB0 HW0 HR HR' HG1 HS0 HO1 HB1 HG HR1 HRD HST HST2 HXD HGZ hi hz0 hz1 hz2 HUN HONE
    go_wp2_with fail
    refine HBU.out.mono ?_
    rintro e W5 ⟨v5, rfl, ho5, b5⟩
    obtain ⟨A5, c5, rfl⟩ := own_form ho5
    obtain ⟨n, hn⟩ : ∃ n, n = cs.length := ⟨_, rfl⟩
    rw [← hn] at ho5 ⊢
    have hn512 : n ≤ 512 := by have := HCS.out; omega
    have HO5 := hide ho5
    have HB5 := hide b5
    have HNC := hide hn
    clear ho5 b5 HBU hn q0 q1
    go_wp2
    go_loopw [8] (fun iv wr => ∃ i : Nat, i ≤ n ∧ iv = .int .i64 i ∧ Below W4.heap.size W4 wr ∧ ∃ ys, wr.ownsRow W4.heap.size 36 3 (.slice A5 n c5) n ys) (fun iv _ => n - (intOf iv).toNat)
    case atStart => exact ⟨0, Nat.zero_le _, rfl, HB5.out, _, HO5.out⟩
    case round =>
      obtain ⟨i, hi, rfl, hb, ys, hown⟩ := hrel
      have HB := hide hb
      clear hb
      by_cases hlt : i < n
      · obtain ⟨g, cu, hA, hg4, _⟩ := hown.form (by omega)
        have hA' : A5 = some ⟨g, 0, none⟩ := by injection hA
        subst hA'
        have hl := hown.1
        have own1 := (hown.stored (i * 3) (.int .i64 77)).1
        have own2 := (own1.stored (i * 3 + 1) (.int .i64 0)).1
        have own3 := (own2.stored (i * 3 + 2) (.int .i64 0)).1
        have a0 := hown.cellAt (i * 3) (by omega)
        have a1 := own1.cellAt (i * 3 + 1) (by omega)
        have a2 := own2.cellAt (i * 3 + 2) (by omega)
        obtain ⟨r0, hr0⟩ : ∃ u, ys[i * 3]? = some u := ⟨_, List.getElem?_eq_getElem (by omega)⟩
        obtain ⟨r1, hr1⟩ : ∃ u, (ys.set (i * 3) (.int .i64 77))[i * 3 + 1]? = some u := ⟨_, List.getElem?_eq_getElem (by simp; omega)⟩
        obtain ⟨r2, hr2⟩ : ∃ u, ((ys.set (i * 3) (.int .i64 77)).set (i * 3 + 1) (.int .i64 0))[i * 3 + 2]? = some u := ⟨_, List.getElem?_eq_getElem (by simp; omega)⟩
        rw [hr0] at a0
        rw [hr1] at a1
        rw [hr2] at a2
        clear hr0 hr1 hr2
        have f0 := hown.frozenAt (i * 3)
        have f1 := own1.frozenAt (i * 3 + 1)
        have f2 := own2.frozenAt (i * 3 + 2)
        have hin : (i : Int) < (n : Int) := by omega
        have HO3 := hide own3
        have HGG := hide hg4
        clear hown own1 own2 own3 hl hg4 hA
        go_wp2
        go_roundw
        case rel => exact ⟨i + 1, by omega, by go_num, ((HB.out.setCell HGG.out _).setCell HGG.out _).setCell HGG.out _, _, HO3.out⟩
        case measure => simp [intOf]; omega
      · obtain rfl : n = i := by omega
        clear hown HO5 HB5
        go_wp2_with fail
        refine (HSING.out _).mono ?_
        rintro e W6 ⟨v6, rfl, ho6, b6⟩
        obtain ⟨A6, c6, rfl⟩ := own_form ho6
        have hszr : W4.heap.size ≤ wr.heap.size := HB.out.size
        have HB6 := hide (HB.out.trans (b6.mono hszr))
        have hb6s : W4.heap.size ≤ W6.heap.size := HB6.out.size
        have HL6 := hide (show ∀ q, (Value.slice A6 k c6).ownBlock = some q → W4.heap.size ≤ q ∧ q < W6.heap.size from fun q hq => ⟨Nat.le_trans hszr (ho6.lt q hq).1, (ho6.lt q hq).2⟩)
        obtain ⟨W7, hW7⟩ : ∃ W7, W7 = W6.alloc (.cells #[.int .i64 0, .slice A6 k c6] 24 (0, 0)) := ⟨_, rfl⟩
        have hg7 : W7.heap[W6.heap.size]? = some (.cells #[.int .i64 0, .slice A6 k c6] 24 (0, 0)) := by rw [hW7]; exact heap_alloc_new W6 _
        have HB7 : Hid (Below W4.heap.size W4 W7) := by rw [hW7]; exact HB6.out.alloc hb6s _
        have HO7 : Hid (W7.ownsRow W4.heap.size 3 1 (.slice A6 k c6) k (xs.map (Value.int .i64))) := by rw [hW7]; exact own_base (ho6.alloc _) (fun q hq => (HL6.out q hq).1)
        obtain ⟨p9, hp9⟩ : ∃ p9, p9 = W6.heap.size := ⟨_, rfl⟩
        rw [← hp9] at hg7 HL6
        have HG7 := hide hg7
        have HW7 := hide hW7
        have HP9 := hide hp9
        clear ho6 b6 HB HB6 hg7 hW7 hp9 hszr hb6s
        go_wp2_with fail
        try rw [← HW7.out]
        try rw [← HP9.out]
        go_wp2
        go_loopw [11] (fun iv wr => ∃ i : Nat, i ≤ k ∧ iv = .int .i64 i ∧ Below W4.heap.size W4 wr ∧ wr.heap[p9]? = some (.cells #[.int .i64 0, .slice A6 k c6] 24 (0, 0)) ∧ ∃ ys, wr.ownsRow W4.heap.size 3 1 (.slice A6 k c6) k ys) (fun iv _ => k - (intOf iv).toNat)
        case atStart => exact ⟨0, Nat.zero_le _, rfl, HB7.out, HG7.out, _, HO7.out⟩
        case round =>
          obtain ⟨i, hi, rfl, hb, y9, ys, hown⟩ := hrel
          have HB := hide hb
          have HY9 := hide y9
          have s0 := cell_blk y9 0
          have s1 := cell_blk y9 1
          clear hb y9
          by_cases hlt : i < k
          · obtain ⟨g, cu, hA, hg4, _⟩ := hown.form (by omega)
            have hA' : A6 = some ⟨g, 0, none⟩ := by injection hA
            subst hA'
            have hl := hown.1
            have a0 := hown.cellAt i (by omega)
            obtain ⟨r0, hr0⟩ : ∃ u, ys[i]? = some u := ⟨_, List.getElem?_eq_getElem (by omega)⟩
            rw [hr0] at a0
            have f0 := hown.frozenAt i
            have own1 := (hown.stored i (.int .i64 77)).1
            have hik : (i : Int) < (k : Int) := by omega
            have HO3 := hide own1
            have hgp : p9 ≠ g := by have := (HL6.out g rfl).2; omega
            have HGG := hide hg4
            clear hown own1 hl hr0 hg4 hA
            go_wp2
            go_roundw
            case rel => exact ⟨i + 1, by omega, by go_num, HB.out.setCell HGG.out _, set_far HY9.out hgp _, _, HO3.out⟩
            case measure => simp [intOf]; omega
          · obtain rfl : k = i := by omega
            clear hown HO7 HB7 HG7
            go_wp2_with fail
            refine (HSING.out _).mono ?_
            rintro e W9 ⟨v9, rfl, ho9, b9⟩
            obtain ⟨A9, c9, rfl⟩ := own_form ho9
            have hszr : W4.heap.size ≤ wr.heap.size := HB.out.size
            have HB9 := hide (HB.out.trans (b9.mono hszr))
            have hb9s : W4.heap.size ≤ W9.heap.size := HB9.out.size
            obtain ⟨W10, hW10⟩ : ∃ W10, W10 = W9.alloc (.cells #[.int .i64 0, .slice A9 k c9] 24 (0, 0)) := ⟨_, rfl⟩
            have hg10 : W10.heap[W9.heap.size]? = some (.cells #[.int .i64 0, .slice A9 k c9] 24 (0, 0)) := by rw [hW10]; exact heap_alloc_new W9 _
            have HB10 : Hid (Below W4.heap.size W4 W10) := by rw [hW10]; exact HB9.out.alloc hb9s _
            have ho10 : W10.ownsRow W4.heap.size 3 1 (.slice A9 k c9) k (xs.map (Value.int .i64)) := by rw [hW10]; exact own_base (ho9.alloc _) (fun q hq => Nat.le_trans hszr (ho9.lt q hq).1)
            have HO10 := hide ho10
            obtain ⟨p12, hp12⟩ : ∃ p12, p12 = W9.heap.size := ⟨_, rfl⟩
            rw [← hp12] at hg10
            have HG10 := hide hg10
            have HW10 := hide hW10
            have HP12 := hide hp12
            have hg5' := (HB10.out.block _ lt5).trans HG5.out
            have g50 := cell_blk hg5' 0
            have g51 := cell_blk hg5' 1
            have g50w : (W9.alloc (.cells #[.int .i64 0, .slice A9 k c9] 24 (0, 0))).cell? ⟨p5, 0, none⟩ = some (.int .i64 l) := by rw [← hW10]; exact g50
            have g51w : (W9.alloc (.cells #[.int .i64 0, .slice A9 k c9] 24 (0, 0))).cell? ⟨p5, 1, none⟩ = some (.slice A1 m c1) := by rw [← hW10]; exact g51
            have hbu := (HTAB.out A1 m c1 W10 HM.out (Reads.of_own (own_chg HOC.out (Chg.of_below (S := fun _ => False) HB10.out) (fun _ _ h => h))) HCAP.out.1 HCAP.out.2).1
            have HBU := hide hbu
            clear ho9 b9 HB HB9 hg10 hW10 hp12 ho10 hg5' hbu s0 s1 HY9 hb9s hszr
            go_wp2_with fail
            try rw [← HW10.out]
            try rw [← HP12.out]
            go_wp2_with fail
            refine HBU.out.mono ?_
            rintro e W11 ⟨v11, rfl, ho11, b11⟩
            obtain ⟨A11, c11, rfl⟩ := own_form ho11
            have hsz10 : W4.heap.size ≤ W10.heap.size := HB10.out.size
            have HB11 := hide (HB10.out.trans (b11.mono hsz10))
            have HO11 := hide ho11
            have HO10b := hide (own_below HO10.out b11)
            have hg11 := (b11.block _ (lt_of_heap HG10.out)).trans HG10.out
            have HG11 := hide hg11
            have hg0' := (HB11.out.block _ lt4).trans HG0.out
            have g00 := cell_blk hg0' 0
            have g01 := cell_blk hg0' 1
            have hre := (HTAB.out A m c W11 HM.out ((HRW.out.below (HBW.out.trans (HB11.out.mono (Nat.le_of_lt lt4)))).more (HBW.out.trans (HB11.out.mono (Nat.le_of_lt lt4))).size) hc hc').2
            have HRE := hide hre
            clear ho11 b11 hg11 hg0' hre HO10 HG10 HBU g50 g51 g50w g51w HB10
            go_wp2_with fail
            refine HRE.out.mono ?_
            rintro e W12 ⟨v12, rfl, ho12, b12⟩
            obtain ⟨A12, c12, rfl⟩ := own_form ho12
            have hsz11 : W4.heap.size ≤ W11.heap.size := HB11.out.size
            have HB12 := hide (HB11.out.trans (b12.mono hsz11))
            have HO12 := hide ho12
            have HO11b := hide (own_below HO11.out b12)
            have HO10c := hide (own_below HO10b.out b12)
            have hg12 := (b12.block _ (lt_of_heap HG11.out)).trans HG11.out
            have lt12 : p12 < W12.heap.size := lt_of_heap hg12
            have q0 : W12.cell? ⟨p12, 0, none⟩ = some (.int .i64 0) := cell_blk hg12 0
            have q1 : W12.cell? ⟨p12, 1, none⟩ = some (.slice A9 k c9) := cell_blk hg12 1
            clear ho12 b12 HO11 HO10b HG11 HRE g00 g01 HB11 hg12
            go_wp2_with fail
            rcases HSYM.out with (hs | ⟨hs, hs'⟩) | ⟨s, hs, hs', hks, hxs⟩
            · have e0 : decide (0 ≤ sym) = false := by simp; omega
              go_quiet (fail)
              obtain ⟨W13, hW13⟩ : ∃ W13, W13 = W12.drewN nq := ⟨_, rfl⟩
              have HB13 : Hid (Below W4.heap.size W4 W13) := by rw [hW13]; exact HB12.out.trans (below_drewN (Below.refl _ _) _)
              have HO11c : Hid (W13.ownsRow W10.heap.size 36 3 (.slice A11 cs.length c11) cs.length (cellsV cs)) := by rw [hW13]; exact HO11b.out
              have HO12c : Hid (W13.ownsRow W11.heap.size 36 3 (.slice A12 cs.length c12) cs.length (cellsV cs)) := by rw [hW13]; exact HO12.out
              rw [← hW13]
              clear hW13
              have h5 := (HB13.out.block _ lt5).trans HG5.out
              have h0 := (HB13.out.block _ lt4).trans HG0.out
              have d0 := cell_blk h5 0
              have d1 := cell_blk h5 1
              have d2 := cell_blk h0 0
              have d3 := cell_blk h0 1
              have HBA := hide (HBW.out.trans (HB13.out.mono (Nat.le_of_lt lt4)))
              have hrA := (HRW.out.below HBA.out).more HBA.out.size
              have hrC := Reads.of_own (own_chg HOC.out (Chg.of_below (S := fun _ => False) HB13.out) (fun _ _ h => h))
              have HTS := hide (tsame_any l l A1 A m c1 m c zs zs W13 hrC hrA HM.out HM.out (by omega))
              clear h5 h0 hrA hrC q0 q1
              go_wp2_with fail
              refine HTS.out.mono ?_
              rintro e W14 ⟨he, b14⟩
              obtain rfl : e = .returned (.bool true) := he.trans (ret_bool (by simp))
              have HO11d := hide (own_below HO11c.out b14)
              have HO12d := hide (own_below HO12c.out b14)
              have HB14 := hide (HBA.out.trans (b14.mono HBA.out.size))
              clear b14 he d0 d1 d2 d3
              go_wp2_with fail
              refine (csame_any A11 A12 cs.length c11 cs.length c12 cs cs W14 (Reads.of_own HO11d.out) (Reads.of_own HO12d.out) rfl rfl (by have := HCS.out; omega)).mono ?_
              rintro e W15 ⟨he, j15, hj15⟩
              obtain rfl : e = .returned (.bool true) := he.trans (ret_bool (by simp))
              have HB15 : Hid (Below w.heap.size w W15) := by rw [hj15]; exact HB14.out.trans (below_drewN (Below.refl _ _) _)
              clear hj15 he
              go_wp2_with fail
              refine (HKN.out _).mono ?_
              rintro e W16 ⟨rfl, b16⟩
              have HB16 := hide (HB15.out.trans (b16.mono HB15.out.size))
              clear b16
              go_wp2
              go_ret
              exact ⟨rfl, HB16.out⟩
            · have e0 : decide (0 ≤ sym) = true := by simp; omega
              have e1 : decide (sym ≤ 255) = false := by simp; omega
              go_quiet (fail)
              obtain ⟨W13, hW13⟩ : ∃ W13, W13 = W12.drewN nq := ⟨_, rfl⟩
              have HB13 : Hid (Below W4.heap.size W4 W13) := by rw [hW13]; exact HB12.out.trans (below_drewN (Below.refl _ _) _)
              have HO11c : Hid (W13.ownsRow W10.heap.size 36 3 (.slice A11 cs.length c11) cs.length (cellsV cs)) := by rw [hW13]; exact HO11b.out
              have HO12c : Hid (W13.ownsRow W11.heap.size 36 3 (.slice A12 cs.length c12) cs.length (cellsV cs)) := by rw [hW13]; exact HO12.out
              rw [← hW13]
              clear hW13
              have h5 := (HB13.out.block _ lt5).trans HG5.out
              have h0 := (HB13.out.block _ lt4).trans HG0.out
              have d0 := cell_blk h5 0
              have d1 := cell_blk h5 1
              have d2 := cell_blk h0 0
              have d3 := cell_blk h0 1
              have HBA := hide (HBW.out.trans (HB13.out.mono (Nat.le_of_lt lt4)))
              have hrA := (HRW.out.below HBA.out).more HBA.out.size
              have hrC := Reads.of_own (own_chg HOC.out (Chg.of_below (S := fun _ => False) HB13.out) (fun _ _ h => h))
              have HTS := hide (tsame_any l l A1 A m c1 m c zs zs W13 hrC hrA HM.out HM.out (by omega))
              clear h5 h0 hrA hrC q0 q1
              go_wp2_with fail
              refine HTS.out.mono ?_
              rintro e W14 ⟨he, b14⟩
              obtain rfl : e = .returned (.bool true) := he.trans (ret_bool (by simp))
              have HO11d := hide (own_below HO11c.out b14)
              have HO12d := hide (own_below HO12c.out b14)
              have HB14 := hide (HBA.out.trans (b14.mono HBA.out.size))
              clear b14 he d0 d1 d2 d3
              go_wp2_with fail
              refine (csame_any A11 A12 cs.length c11 cs.length c12 cs cs W14 (Reads.of_own HO11d.out) (Reads.of_own HO12d.out) rfl rfl (by have := HCS.out; omega)).mono ?_
              rintro e W15 ⟨he, j15, hj15⟩
              obtain rfl : e = .returned (.bool true) := he.trans (ret_bool (by simp))
              have HB15 : Hid (Below w.heap.size w W15) := by rw [hj15]; exact HB14.out.trans (below_drewN (Below.refl _ _) _)
              clear hj15 he
              go_wp2_with fail
              refine (HKN.out _).mono ?_
              rintro e W16 ⟨rfl, b16⟩
              have HB16 := hide (HB15.out.trans (b16.mono HB15.out.size))
              clear b16
              go_wp2
              go_ret
              exact ⟨rfl, HB16.out⟩
            · have e0 : decide (0 ≤ sym) = true := by simp; omega
              have e1 : decide (sym ≤ 255) = true := by simp; omega
              have hone : ∀ W, Calls Try.prog 23 #[.int .i64 sym] W fun e w' => ∃ v, e = .returned (.agg #[.int .i64 0, v]) ∧ w'.ownsRow W.heap.size 3 1 v k (xs.map (Value.int .i64)) ∧ Below W.heap.size W w' := by
                intro W
                rw [hs, hks, hxs]
                exact one_any s W hs'
              have HONE := hide hone
              have HXL := hide (show xs.length = k from HXS.out)
              have hk9 : k ≤ 1000000000 := by omega
              clear hone hs hs' hks hxs
              go_region_held3 (fun w' => w'.cell? ⟨p12, 0, none⟩ = some (.int .i64 0) ∧ w'.cell? ⟨p12, 1, none⟩ = some (.slice A9 k c9)) (go_keep)
                (first
                | (go_at_call 23; refine (HONE.out _).mono ?_; rintro e x1 ⟨v1, rfl, oo1, hx1⟩; obtain ⟨AO, cO, rfl⟩ := own_form oo1; replace hx1 := (Below.refl _ W12).drew.trans hx1; have j0 := (hx1.cell (p := ⟨p12, 0, none⟩) lt12).trans q0; have j1 := (hx1.cell (p := ⟨p12, 1, none⟩) lt12).trans q1; have HX1 := hide hx1; have HOO := hide oo1; clear hx1 oo1)
                | (go_at_call 22; refine (tsame_any 0 0 A9 AO k c9 k cO xs xs _ (Reads.of_own (own_below HO10c.out HX1.out)) (Reads.of_own HOO.out) HXL.out HXL.out hk9).mono ?_; rintro e x2 ⟨he, hx2⟩; obtain rfl : e = .returned (.bool true) := he.trans (ret_bool (by simp)); replace hx2 := HX1.out.trans (hx2.mono HX1.out.size); have l0 := (hx2.cell (p := ⟨p12, 0, none⟩) lt12).trans q0; have l1 := (hx2.cell (p := ⟨p12, 1, none⟩) lt12).trans q1; have HX2 := hide hx2; clear hx2 he))
              obtain ⟨W13, hW13⟩ : ∃ W13, W13 = x2 := ⟨_, rfl⟩
              rw [← hW13] at HX2 ⊢
              have HB13 := hide (HB12.out.trans (HX2.out.mono HB12.out.size))
              have HO11c := hide (own_below HO11b.out HX2.out)
              have HO12c := hide (own_below HO12.out HX2.out)
              clear hW13
              have h5 := (HB13.out.block _ lt5).trans HG5.out
              have h0 := (HB13.out.block _ lt4).trans HG0.out
              have d0 := cell_blk h5 0
              have d1 := cell_blk h5 1
              have d2 := cell_blk h0 0
              have d3 := cell_blk h0 1
              have HBA := hide (HBW.out.trans (HB13.out.mono (Nat.le_of_lt lt4)))
              have hrA := (HRW.out.below HBA.out).more HBA.out.size
              have hrC := Reads.of_own (own_chg HOC.out (Chg.of_below (S := fun _ => False) HB13.out) (fun _ _ h => h))
              have HTS := hide (tsame_any l l A1 A m c1 m c zs zs W13 hrC hrA HM.out HM.out (by omega))
              clear h5 h0 hrA hrC q0 q1
              go_wp2_with fail
              refine HTS.out.mono ?_
              rintro e W14 ⟨he, b14⟩
              obtain rfl : e = .returned (.bool true) := he.trans (ret_bool (by simp))
              have HO11d := hide (own_below HO11c.out b14)
              have HO12d := hide (own_below HO12c.out b14)
              have HB14 := hide (HBA.out.trans (b14.mono HBA.out.size))
              clear b14 he d0 d1 d2 d3
              go_wp2_with fail
              refine (csame_any A11 A12 cs.length c11 cs.length c12 cs cs W14 (Reads.of_own HO11d.out) (Reads.of_own HO12d.out) rfl rfl (by have := HCS.out; omega)).mono ?_
              rintro e W15 ⟨he, j15, hj15⟩
              obtain rfl : e = .returned (.bool true) := he.trans (ret_bool (by simp))
              have HB15 : Hid (Below w.heap.size w W15) := by rw [hj15]; exact HB14.out.trans (below_drewN (Below.refl _ _) _)
              clear hj15 he
              go_wp2_with fail
              refine (HKN.out _).mono ?_
              rintro e W16 ⟨rfl, b16⟩
              have HB16 := hide (HB15.out.trans (b16.mono HB15.out.size))
              clear b16
              go_wp2
              go_ret
              exact ⟨rfl, HB16.out⟩
  · have hlo := HO1.out.lt
    obtain ⟨W4, hW4⟩ : ∃ W4, W4 = ((w1.setCell ⟨W0.heap.size, 0, none⟩ (.int .i64 l)).setCell ⟨W0.heap.size, 1, none⟩ (.slice A1 m c1)) := ⟨_, rfl⟩
    have hG5 : W4.heap[W0.heap.size]? = some (.cells #[.int .i64 l, .slice A1 m c1] 24 (0, 0)) := by rw [hW4]; exact set_blk (set_blk H3.out 0 _) 1 _
    have hB4 : Below W0.heap.size W0.drew W4 := by rw [hW4]; exact (HB1.out.setCell (Nat.le_refl _) _).setCell (Nat.le_refl _) _
    have hOC : W4.ownsRow W0.heap.size 3 1 (.slice A1 m c1) m (zs.map (Value.int .i64)) := by
      rw [hW4]
      exact own_base (ownsRow_setCell_other (ownsRow_setCell_other HO1.out (a := ⟨W0.heap.size, 0, none⟩) (fun h => by have h5 : W0.heap.size + 1 ≤ W0.heap.size := (hlo _ h).1; omega) _) (a := ⟨W0.heap.size, 1, none⟩) (fun h => by have h5 : W0.heap.size + 1 ≤ W0.heap.size := (hlo _ h).1; omega) _) (fun q hq => by have := (hlo q hq).1; omega)
    rw [← hW4]
    obtain ⟨p5, hp5⟩ : ∃ p5, p5 = W0.heap.size := ⟨_, rfl⟩
    rw [← hp5] at hG5 ⊢
    have hg0 := (hB4.block _ lt0).trans HG1.out
    have q0 := cell_blk hG5 0
    have q1 := cell_blk hG5 1
    have HG5 := hide hG5
    have HB4 := hide (HB0.out.trans ((Below.refl W0.heap.size W0).drew.trans hB4 |>.mono HB0.out.size))
    have HOC := hide hOC
    have HG0 := hide hg0
    have HCAP := hide (own_cap hOC)
    have lt4 : w.heap.size < W4.heap.size := lt_of_heap hg0
    have lt5 : p5 < W4.heap.size := lt_of_heap hG5
    have hbu := (HTAB.out A1 m c1 W4 HM.out (Reads.of_own hOC) HCAP.out.1 HCAP.out.2).1
    have HBU := hide hbu
    have HRW := hide (show Reads w w.heap.size 1 A m (zs.map (Value.int .i64)) from HRw.out)
    have HBW := hide (show Below w.heap.size w W4 from HB4.out)
    clear hW4 hp5 hg0 hG5 hOC hB4 hbu k00 k01 HB0 HW0 HR HR' HG1 HS0 HO1 HB1 HG HR1 HRD HST HST2 HXD HGZ hi hz0 hz1 hz2 HUN HONE
    go_wp2_with fail
    refine HBU.out.mono ?_
    rintro e W5 ⟨v5, rfl, ho5, b5⟩
    obtain ⟨A5, c5, rfl⟩ := own_form ho5
    obtain ⟨n, hn⟩ : ∃ n, n = cs.length := ⟨_, rfl⟩
    rw [← hn] at ho5 ⊢
    have hn512 : n ≤ 512 := by have := HCS.out; omega
    have HO5 := hide ho5
    have HB5 := hide b5
    have HNC := hide hn
    clear ho5 b5 HBU hn q0 q1
    go_wp2
    go_loopw [8] (fun iv wr => ∃ i : Nat, i ≤ n ∧ iv = .int .i64 i ∧ Below W4.heap.size W4 wr ∧ ∃ ys, wr.ownsRow W4.heap.size 36 3 (.slice A5 n c5) n ys) (fun iv _ => n - (intOf iv).toNat)
    case atStart => exact ⟨0, Nat.zero_le _, rfl, HB5.out, _, HO5.out⟩
    case round =>
      obtain ⟨i, hi, rfl, hb, ys, hown⟩ := hrel
      have HB := hide hb
      clear hb
      by_cases hlt : i < n
      · obtain ⟨g, cu, hA, hg4, _⟩ := hown.form (by omega)
        have hA' : A5 = some ⟨g, 0, none⟩ := by injection hA
        subst hA'
        have hl := hown.1
        have own1 := (hown.stored (i * 3) (.int .i64 77)).1
        have own2 := (own1.stored (i * 3 + 1) (.int .i64 0)).1
        have own3 := (own2.stored (i * 3 + 2) (.int .i64 0)).1
        have a0 := hown.cellAt (i * 3) (by omega)
        have a1 := own1.cellAt (i * 3 + 1) (by omega)
        have a2 := own2.cellAt (i * 3 + 2) (by omega)
        obtain ⟨r0, hr0⟩ : ∃ u, ys[i * 3]? = some u := ⟨_, List.getElem?_eq_getElem (by omega)⟩
        obtain ⟨r1, hr1⟩ : ∃ u, (ys.set (i * 3) (.int .i64 77))[i * 3 + 1]? = some u := ⟨_, List.getElem?_eq_getElem (by simp; omega)⟩
        obtain ⟨r2, hr2⟩ : ∃ u, ((ys.set (i * 3) (.int .i64 77)).set (i * 3 + 1) (.int .i64 0))[i * 3 + 2]? = some u := ⟨_, List.getElem?_eq_getElem (by simp; omega)⟩
        rw [hr0] at a0
        rw [hr1] at a1
        rw [hr2] at a2
        clear hr0 hr1 hr2
        have f0 := hown.frozenAt (i * 3)
        have f1 := own1.frozenAt (i * 3 + 1)
        have f2 := own2.frozenAt (i * 3 + 2)
        have hin : (i : Int) < (n : Int) := by omega
        have HO3 := hide own3
        have HGG := hide hg4
        clear hown own1 own2 own3 hl hg4 hA
        go_wp2
        go_roundw
        case rel => exact ⟨i + 1, by omega, by go_num, ((HB.out.setCell HGG.out _).setCell HGG.out _).setCell HGG.out _, _, HO3.out⟩
        case measure => simp [intOf]; omega
      · obtain rfl : n = i := by omega
        clear hown HO5 HB5
        go_wp2_with fail
        refine (HSING.out _).mono ?_
        rintro e W6 ⟨v6, rfl, ho6, b6⟩
        obtain ⟨A6, c6, rfl⟩ := own_form ho6
        have hszr : W4.heap.size ≤ wr.heap.size := HB.out.size
        have HB6 := hide (HB.out.trans (b6.mono hszr))
        have hb6s : W4.heap.size ≤ W6.heap.size := HB6.out.size
        have HL6 := hide (show ∀ q, (Value.slice A6 k c6).ownBlock = some q → W4.heap.size ≤ q ∧ q < W6.heap.size from fun q hq => ⟨Nat.le_trans hszr (ho6.lt q hq).1, (ho6.lt q hq).2⟩)
        obtain ⟨W7, hW7⟩ : ∃ W7, W7 = W6.alloc (.cells #[.int .i64 0, .slice A6 k c6] 24 (0, 0)) := ⟨_, rfl⟩
        have hg7 : W7.heap[W6.heap.size]? = some (.cells #[.int .i64 0, .slice A6 k c6] 24 (0, 0)) := by rw [hW7]; exact heap_alloc_new W6 _
        have HB7 : Hid (Below W4.heap.size W4 W7) := by rw [hW7]; exact HB6.out.alloc hb6s _
        have HO7 : Hid (W7.ownsRow W4.heap.size 3 1 (.slice A6 k c6) k (xs.map (Value.int .i64))) := by rw [hW7]; exact own_base (ho6.alloc _) (fun q hq => (HL6.out q hq).1)
        obtain ⟨p9, hp9⟩ : ∃ p9, p9 = W6.heap.size := ⟨_, rfl⟩
        rw [← hp9] at hg7 HL6
        have HG7 := hide hg7
        have HW7 := hide hW7
        have HP9 := hide hp9
        clear ho6 b6 HB HB6 hg7 hW7 hp9 hszr hb6s
        go_wp2_with fail
        try rw [← HW7.out]
        try rw [← HP9.out]
        go_wp2
        go_loopw [11] (fun iv wr => ∃ i : Nat, i ≤ k ∧ iv = .int .i64 i ∧ Below W4.heap.size W4 wr ∧ wr.heap[p9]? = some (.cells #[.int .i64 0, .slice A6 k c6] 24 (0, 0)) ∧ ∃ ys, wr.ownsRow W4.heap.size 3 1 (.slice A6 k c6) k ys) (fun iv _ => k - (intOf iv).toNat)
        case atStart => exact ⟨0, Nat.zero_le _, rfl, HB7.out, HG7.out, _, HO7.out⟩
        case round =>
          obtain ⟨i, hi, rfl, hb, y9, ys, hown⟩ := hrel
          have HB := hide hb
          have HY9 := hide y9
          have s0 := cell_blk y9 0
          have s1 := cell_blk y9 1
          clear hb y9
          by_cases hlt : i < k
          · obtain ⟨g, cu, hA, hg4, _⟩ := hown.form (by omega)
            have hA' : A6 = some ⟨g, 0, none⟩ := by injection hA
            subst hA'
            have hl := hown.1
            have a0 := hown.cellAt i (by omega)
            obtain ⟨r0, hr0⟩ : ∃ u, ys[i]? = some u := ⟨_, List.getElem?_eq_getElem (by omega)⟩
            rw [hr0] at a0
            have f0 := hown.frozenAt i
            have own1 := (hown.stored i (.int .i64 77)).1
            have hik : (i : Int) < (k : Int) := by omega
            have HO3 := hide own1
            have hgp : p9 ≠ g := by have := (HL6.out g rfl).2; omega
            have HGG := hide hg4
            clear hown own1 hl hr0 hg4 hA
            go_wp2
            go_roundw
            case rel => exact ⟨i + 1, by omega, by go_num, HB.out.setCell HGG.out _, set_far HY9.out hgp _, _, HO3.out⟩
            case measure => simp [intOf]; omega
          · obtain rfl : k = i := by omega
            clear hown HO7 HB7 HG7
            go_wp2_with fail
            refine (HSING.out _).mono ?_
            rintro e W9 ⟨v9, rfl, ho9, b9⟩
            obtain ⟨A9, c9, rfl⟩ := own_form ho9
            have hszr : W4.heap.size ≤ wr.heap.size := HB.out.size
            have HB9 := hide (HB.out.trans (b9.mono hszr))
            have hb9s : W4.heap.size ≤ W9.heap.size := HB9.out.size
            obtain ⟨W10, hW10⟩ : ∃ W10, W10 = W9.alloc (.cells #[.int .i64 0, .slice A9 k c9] 24 (0, 0)) := ⟨_, rfl⟩
            have hg10 : W10.heap[W9.heap.size]? = some (.cells #[.int .i64 0, .slice A9 k c9] 24 (0, 0)) := by rw [hW10]; exact heap_alloc_new W9 _
            have HB10 : Hid (Below W4.heap.size W4 W10) := by rw [hW10]; exact HB9.out.alloc hb9s _
            have ho10 : W10.ownsRow W4.heap.size 3 1 (.slice A9 k c9) k (xs.map (Value.int .i64)) := by rw [hW10]; exact own_base (ho9.alloc _) (fun q hq => Nat.le_trans hszr (ho9.lt q hq).1)
            have HO10 := hide ho10
            obtain ⟨p12, hp12⟩ : ∃ p12, p12 = W9.heap.size := ⟨_, rfl⟩
            rw [← hp12] at hg10
            have HG10 := hide hg10
            have HW10 := hide hW10
            have HP12 := hide hp12
            have hg5' := (HB10.out.block _ lt5).trans HG5.out
            have g50 := cell_blk hg5' 0
            have g51 := cell_blk hg5' 1
            have g50w : (W9.alloc (.cells #[.int .i64 0, .slice A9 k c9] 24 (0, 0))).cell? ⟨p5, 0, none⟩ = some (.int .i64 l) := by rw [← hW10]; exact g50
            have g51w : (W9.alloc (.cells #[.int .i64 0, .slice A9 k c9] 24 (0, 0))).cell? ⟨p5, 1, none⟩ = some (.slice A1 m c1) := by rw [← hW10]; exact g51
            have hbu := (HTAB.out A1 m c1 W10 HM.out (Reads.of_own (own_chg HOC.out (Chg.of_below (S := fun _ => False) HB10.out) (fun _ _ h => h))) HCAP.out.1 HCAP.out.2).1
            have HBU := hide hbu
            clear ho9 b9 HB HB9 hg10 hW10 hp12 ho10 hg5' hbu s0 s1 HY9 hb9s hszr
            go_wp2_with fail
            try rw [← HW10.out]
            try rw [← HP12.out]
            go_wp2_with fail
            refine HBU.out.mono ?_
            rintro e W11 ⟨v11, rfl, ho11, b11⟩
            obtain ⟨A11, c11, rfl⟩ := own_form ho11
            have hsz10 : W4.heap.size ≤ W10.heap.size := HB10.out.size
            have HB11 := hide (HB10.out.trans (b11.mono hsz10))
            have HO11 := hide ho11
            have HO10b := hide (own_below HO10.out b11)
            have hg11 := (b11.block _ (lt_of_heap HG10.out)).trans HG10.out
            have HG11 := hide hg11
            have hg0' := (HB11.out.block _ lt4).trans HG0.out
            have g00 := cell_blk hg0' 0
            have g01 := cell_blk hg0' 1
            have hre := (HTAB.out A m c W11 HM.out ((HRW.out.below (HBW.out.trans (HB11.out.mono (Nat.le_of_lt lt4)))).more (HBW.out.trans (HB11.out.mono (Nat.le_of_lt lt4))).size) hc hc').2
            have HRE := hide hre
            clear ho11 b11 hg11 hg0' hre HO10 HG10 HBU g50 g51 g50w g51w HB10
            go_wp2_with fail
            refine HRE.out.mono ?_
            rintro e W12 ⟨v12, rfl, ho12, b12⟩
            obtain ⟨A12, c12, rfl⟩ := own_form ho12
            have hsz11 : W4.heap.size ≤ W11.heap.size := HB11.out.size
            have HB12 := hide (HB11.out.trans (b12.mono hsz11))
            have HO12 := hide ho12
            have HO11b := hide (own_below HO11.out b12)
            have HO10c := hide (own_below HO10b.out b12)
            have hg12 := (b12.block _ (lt_of_heap HG11.out)).trans HG11.out
            have lt12 : p12 < W12.heap.size := lt_of_heap hg12
            have q0 : W12.cell? ⟨p12, 0, none⟩ = some (.int .i64 0) := cell_blk hg12 0
            have q1 : W12.cell? ⟨p12, 1, none⟩ = some (.slice A9 k c9) := cell_blk hg12 1
            clear ho12 b12 HO11 HO10b HG11 HRE g00 g01 HB11 hg12
            go_wp2_with fail
            rcases HSYM.out with (hs | ⟨hs, hs'⟩) | ⟨s, hs, hs', hks, hxs⟩
            · have e0 : decide (0 ≤ sym) = false := by simp; omega
              go_quiet (fail)
              obtain ⟨W13, hW13⟩ : ∃ W13, W13 = W12.drewN nq := ⟨_, rfl⟩
              have HB13 : Hid (Below W4.heap.size W4 W13) := by rw [hW13]; exact HB12.out.trans (below_drewN (Below.refl _ _) _)
              have HO11c : Hid (W13.ownsRow W10.heap.size 36 3 (.slice A11 cs.length c11) cs.length (cellsV cs)) := by rw [hW13]; exact HO11b.out
              have HO12c : Hid (W13.ownsRow W11.heap.size 36 3 (.slice A12 cs.length c12) cs.length (cellsV cs)) := by rw [hW13]; exact HO12.out
              rw [← hW13]
              clear hW13
              have h5 := (HB13.out.block _ lt5).trans HG5.out
              have h0 := (HB13.out.block _ lt4).trans HG0.out
              have d0 := cell_blk h5 0
              have d1 := cell_blk h5 1
              have d2 := cell_blk h0 0
              have d3 := cell_blk h0 1
              have HBA := hide (HBW.out.trans (HB13.out.mono (Nat.le_of_lt lt4)))
              have hrA := (HRW.out.below HBA.out).more HBA.out.size
              have hrC := Reads.of_own (own_chg HOC.out (Chg.of_below (S := fun _ => False) HB13.out) (fun _ _ h => h))
              have HTS := hide (tsame_any l l A1 A m c1 m c zs zs W13 hrC hrA HM.out HM.out (by omega))
              clear h5 h0 hrA hrC q0 q1
              go_wp2_with fail
              refine HTS.out.mono ?_
              rintro e W14 ⟨he, b14⟩
              obtain rfl : e = .returned (.bool true) := he.trans (ret_bool (by simp))
              have HO11d := hide (own_below HO11c.out b14)
              have HO12d := hide (own_below HO12c.out b14)
              have HB14 := hide (HBA.out.trans (b14.mono HBA.out.size))
              clear b14 he d0 d1 d2 d3
              go_wp2_with fail
              refine (csame_any A11 A12 cs.length c11 cs.length c12 cs cs W14 (Reads.of_own HO11d.out) (Reads.of_own HO12d.out) rfl rfl (by have := HCS.out; omega)).mono ?_
              rintro e W15 ⟨he, j15, hj15⟩
              obtain rfl : e = .returned (.bool true) := he.trans (ret_bool (by simp))
              have HB15 : Hid (Below w.heap.size w W15) := by rw [hj15]; exact HB14.out.trans (below_drewN (Below.refl _ _) _)
              clear hj15 he
              go_wp2_with fail
              refine (HKN.out _).mono ?_
              rintro e W16 ⟨rfl, b16⟩
              have HB16 := hide (HB15.out.trans (b16.mono HB15.out.size))
              clear b16
              go_wp2
              go_ret
              exact ⟨rfl, HB16.out⟩
            · have e0 : decide (0 ≤ sym) = true := by simp; omega
              have e1 : decide (sym ≤ 255) = false := by simp; omega
              go_quiet (fail)
              obtain ⟨W13, hW13⟩ : ∃ W13, W13 = W12.drewN nq := ⟨_, rfl⟩
              have HB13 : Hid (Below W4.heap.size W4 W13) := by rw [hW13]; exact HB12.out.trans (below_drewN (Below.refl _ _) _)
              have HO11c : Hid (W13.ownsRow W10.heap.size 36 3 (.slice A11 cs.length c11) cs.length (cellsV cs)) := by rw [hW13]; exact HO11b.out
              have HO12c : Hid (W13.ownsRow W11.heap.size 36 3 (.slice A12 cs.length c12) cs.length (cellsV cs)) := by rw [hW13]; exact HO12.out
              rw [← hW13]
              clear hW13
              have h5 := (HB13.out.block _ lt5).trans HG5.out
              have h0 := (HB13.out.block _ lt4).trans HG0.out
              have d0 := cell_blk h5 0
              have d1 := cell_blk h5 1
              have d2 := cell_blk h0 0
              have d3 := cell_blk h0 1
              have HBA := hide (HBW.out.trans (HB13.out.mono (Nat.le_of_lt lt4)))
              have hrA := (HRW.out.below HBA.out).more HBA.out.size
              have hrC := Reads.of_own (own_chg HOC.out (Chg.of_below (S := fun _ => False) HB13.out) (fun _ _ h => h))
              have HTS := hide (tsame_any l l A1 A m c1 m c zs zs W13 hrC hrA HM.out HM.out (by omega))
              clear h5 h0 hrA hrC q0 q1
              go_wp2_with fail
              refine HTS.out.mono ?_
              rintro e W14 ⟨he, b14⟩
              obtain rfl : e = .returned (.bool true) := he.trans (ret_bool (by simp))
              have HO11d := hide (own_below HO11c.out b14)
              have HO12d := hide (own_below HO12c.out b14)
              have HB14 := hide (HBA.out.trans (b14.mono HBA.out.size))
              clear b14 he d0 d1 d2 d3
              go_wp2_with fail
              refine (csame_any A11 A12 cs.length c11 cs.length c12 cs cs W14 (Reads.of_own HO11d.out) (Reads.of_own HO12d.out) rfl rfl (by have := HCS.out; omega)).mono ?_
              rintro e W15 ⟨he, j15, hj15⟩
              obtain rfl : e = .returned (.bool true) := he.trans (ret_bool (by simp))
              have HB15 : Hid (Below w.heap.size w W15) := by rw [hj15]; exact HB14.out.trans (below_drewN (Below.refl _ _) _)
              clear hj15 he
              go_wp2_with fail
              refine (HKN.out _).mono ?_
              rintro e W16 ⟨rfl, b16⟩
              have HB16 := hide (HB15.out.trans (b16.mono HB15.out.size))
              clear b16
              go_wp2
              go_ret
              exact ⟨rfl, HB16.out⟩
            · have e0 : decide (0 ≤ sym) = true := by simp; omega
              have e1 : decide (sym ≤ 255) = true := by simp; omega
              have hone : ∀ W, Calls Try.prog 23 #[.int .i64 sym] W fun e w' => ∃ v, e = .returned (.agg #[.int .i64 0, v]) ∧ w'.ownsRow W.heap.size 3 1 v k (xs.map (Value.int .i64)) ∧ Below W.heap.size W w' := by
                intro W
                rw [hs, hks, hxs]
                exact one_any s W hs'
              have HONE := hide hone
              have HXL := hide (show xs.length = k from HXS.out)
              have hk9 : k ≤ 1000000000 := by omega
              clear hone hs hs' hks hxs
              go_region_held3 (fun w' => w'.cell? ⟨p12, 0, none⟩ = some (.int .i64 0) ∧ w'.cell? ⟨p12, 1, none⟩ = some (.slice A9 k c9)) (go_keep)
                (first
                | (go_at_call 23; refine (HONE.out _).mono ?_; rintro e x1 ⟨v1, rfl, oo1, hx1⟩; obtain ⟨AO, cO, rfl⟩ := own_form oo1; replace hx1 := (Below.refl _ W12).drew.trans hx1; have j0 := (hx1.cell (p := ⟨p12, 0, none⟩) lt12).trans q0; have j1 := (hx1.cell (p := ⟨p12, 1, none⟩) lt12).trans q1; have HX1 := hide hx1; have HOO := hide oo1; clear hx1 oo1)
                | (go_at_call 22; refine (tsame_any 0 0 A9 AO k c9 k cO xs xs _ (Reads.of_own (own_below HO10c.out HX1.out)) (Reads.of_own HOO.out) HXL.out HXL.out hk9).mono ?_; rintro e x2 ⟨he, hx2⟩; obtain rfl : e = .returned (.bool true) := he.trans (ret_bool (by simp)); replace hx2 := HX1.out.trans (hx2.mono HX1.out.size); have l0 := (hx2.cell (p := ⟨p12, 0, none⟩) lt12).trans q0; have l1 := (hx2.cell (p := ⟨p12, 1, none⟩) lt12).trans q1; have HX2 := hide hx2; clear hx2 he))
              obtain ⟨W13, hW13⟩ : ∃ W13, W13 = x2 := ⟨_, rfl⟩
              rw [← hW13] at HX2 ⊢
              have HB13 := hide (HB12.out.trans (HX2.out.mono HB12.out.size))
              have HO11c := hide (own_below HO11b.out HX2.out)
              have HO12c := hide (own_below HO12.out HX2.out)
              clear hW13
              have h5 := (HB13.out.block _ lt5).trans HG5.out
              have h0 := (HB13.out.block _ lt4).trans HG0.out
              have d0 := cell_blk h5 0
              have d1 := cell_blk h5 1
              have d2 := cell_blk h0 0
              have d3 := cell_blk h0 1
              have HBA := hide (HBW.out.trans (HB13.out.mono (Nat.le_of_lt lt4)))
              have hrA := (HRW.out.below HBA.out).more HBA.out.size
              have hrC := Reads.of_own (own_chg HOC.out (Chg.of_below (S := fun _ => False) HB13.out) (fun _ _ h => h))
              have HTS := hide (tsame_any l l A1 A m c1 m c zs zs W13 hrC hrA HM.out HM.out (by omega))
              clear h5 h0 hrA hrC q0 q1
              go_wp2_with fail
              refine HTS.out.mono ?_
              rintro e W14 ⟨he, b14⟩
              obtain rfl : e = .returned (.bool true) := he.trans (ret_bool (by simp))
              have HO11d := hide (own_below HO11c.out b14)
              have HO12d := hide (own_below HO12c.out b14)
              have HB14 := hide (HBA.out.trans (b14.mono HBA.out.size))
              clear b14 he d0 d1 d2 d3
              go_wp2_with fail
              refine (csame_any A11 A12 cs.length c11 cs.length c12 cs cs W14 (Reads.of_own HO11d.out) (Reads.of_own HO12d.out) rfl rfl (by have := HCS.out; omega)).mono ?_
              rintro e W15 ⟨he, j15, hj15⟩
              obtain rfl : e = .returned (.bool true) := he.trans (ret_bool (by simp))
              have HB15 : Hid (Below w.heap.size w W15) := by rw [hj15]; exact HB14.out.trans (below_drewN (Below.refl _ _) _)
              clear hj15 he
              go_wp2_with fail
              refine (HKN.out _).mono ?_
              rintro e W16 ⟨rfl, b16⟩
              have HB16 := hide (HB15.out.trans (b16.mono HB15.out.size))
              clear b16
              go_wp2
              go_ret
              exact ⟨rfl, HB16.out⟩
end Go.Proofs.Ytlbpefahhecbnaa
