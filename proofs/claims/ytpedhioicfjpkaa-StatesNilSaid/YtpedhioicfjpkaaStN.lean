/- portmanteaulaw10.StatesNil walked. -/
import Derived.Test.YtpedhioicfjpkaaStM
import Derived.Test.YtpedhioicfjpkaaStI
import Derived.Test.YtpedhioicfjpkaaStE
namespace Go.Proofs.Ytpedhioicfjpkaa
open Go.RowKit Go Go.Shelf
set_option linter.unusedVariables false
attribute [local go_sem high] eql_step eql_cell
theorem own_cap {w : World} {base : Nat} {e : TypeId} {size n c : Nat} {A : Option Addr} {xs : List Value} (h : w.ownsRow base e size (.slice A n c) n xs) : n ≤ c ∧ c ≤ maxLen := by
  rcases h.2 with ⟨h1, h2⟩ | ⟨g, cap, cur, h1, _, _, h2, h3, _⟩
  · injection h1 with _ _ hc
    subst hc
    exact ⟨by omega, by unfold maxLen; omega⟩
  · injection h1 with _ _ hc
    subst hc
    exact ⟨h2, h3⟩


set_option maxRecDepth 4000 in
set_option maxHeartbeats 8000000 in
theorem walk_StatesNil {w : World} (l : Int) (A : Option Addr) (m c : Nat) (zs : List Int) (wl : (Lit.int .i64 l).wf = true) (hm : zs.length = m) (hr : Reads w w.heap.size 1 A m (zs.map (Value.int .i64))) (hok : ∀ z ∈ zs, (Lit.int .i64 z).wf = true) (hc' : c ≤ maxLen) (hc : m ≤ c) (st : Int) (wst : (Lit.int .i64 st).wf = true) (sym : Int) (ws : (Lit.int .i64 sym).wf = true) :
    Calls Try.prog 10 #[.agg #[.int .i64 l, .slice A m c], .int .i64 st, .int .i64 sym] w fun e w' => e = .returned (.bool true) ∧ Below w.heap.size w w' := by
  have HKN := hide known_any
  obtain ⟨W0, hW0⟩ : ∃ W0, W0 = w.alloc (.cells #[.int .i64 l, .slice A m c] 24 (0, 0)) := ⟨_, rfl⟩
  have g0 : W0.heap[w.heap.size]? = some (.cells #[.int .i64 l, .slice A m c] 24 (0, 0)) := by rw [hW0]; exact heap_alloc_new w _
  have b0 : Below w.heap.size w W0 := by rw [hW0]; exact (Below.refl w.heap.size w).alloc (Nat.le_refl _) _
  have hs0 : w.heap.size < W0.heap.size := lt_of_heap g0
  have k00 := cell_blk g0 0
  have k01 := cell_blk g0 1
  have HB0 := hide b0
  have HW0 := hide hW0
  have HR0 := hide ((hr.below b0).more b0.size)
  have HG0 := hide g0
  have HS0 := hide hs0
  have HM := hide hm
  clear b0 hW0 hr g0 hs0
  by_cases hbig : 300 < m
  · have hb' : (300 : Int) < (m : Int) := by omega
    go_enter Try.func10, Try.ntmps10
    go_wp2_with fail
    try rw [← HW0.out]
    go_wp2_with fail
    refine (HKN.out _).mono ?_
    rintro e W9 ⟨rfl, b9⟩
    have HB9 := hide (HB0.out.trans (b9.mono HB0.out.size))
    clear b9
    go_wp2
    go_ret
    exact ⟨rfl, HB9.out⟩
  have hb' : ¬ (300 : Int) < (m : Int) := by omega
  have HMAY := hide (fun W hr => may_any 9 l A m c zs W (.inl rfl) hm hr hok hc hc')
  go_enter Try.func10, Try.ntmps10
  go_wp2_with fail
  try rw [← HW0.out]
  go_wp2_with fail
  have hs0 : W0.heap.size = w.heap.size + 1 := by rw [HW0.out]; simp
  obtain ⟨W1, hW1⟩ : ∃ W1, W1 = (W0.alloc (.cells #[.slice none 0 0, .slice none 0 0] 64 (0, 0))).alloc (.cells #[.pointer none, .pointer (some ⟨w.heap.size + 1, 0, none⟩)] 27 (0, 0)) := ⟨_, rfl⟩
  have hZ : W1.heap[w.heap.size + 1]? = some (.cells #[.slice none 0 0, .slice none 0 0] 64 (0, 0)) := by rw [hW1, ← hs0]; exact heap_alloc2_old W0 _ _
  have hLb : W1.heap[w.heap.size + 1 + 1]? = some (.cells #[.pointer none, .pointer (some ⟨w.heap.size + 1, 0, none⟩)] 27 (0, 0)) := by rw [hW1, ← hs0]; exact heap_alloc2_new W0 _ _
  have hb01 : Below W0.heap.size W0 W1 := by rw [hW1]; exact ((Below.refl _ W0).alloc (Nat.le_refl _) _).alloc (by simp) _
  have HZ := hide hZ
  have HLB := hide hLb
  have HB01 := hide hb01
  have HW1 := hide hW1
  rw [← hW1]
  clear hZ hLb hb01 hW1 hs0 k00 k01
  go_loopw [10] (fun iv wr => ∃ i : Nat, i ≤ 2 ∧ iv = .int .i64 i ∧ Below W1.heap.size W1 wr) (fun iv _ => 2 - (intOf iv).toNat)
  case atStart => exact ⟨0, by omega, rfl, Below.refl _ _⟩
  case round =>
    obtain ⟨i, hi, rfl, hb⟩ := hrel
    have hz := (hb.block _ (lt_of_heap HZ.out)).trans HZ.out
    have hl := (hb.block _ (lt_of_heap HLB.out)).trans HLB.out
    have HB := hide hb
    by_cases hlt : i < 2
    · obtain ⟨p, hp, hno⟩ : ∃ p, wr.cell? ⟨w.heap.size + 1 + 1, i, none⟩ = some (.pointer p) ∧ NoC wr p := by
        rcases (show i = 0 ∨ i = 1 by omega) with rfl | rfl
        · exact ⟨none, cell_blk hl 0, .inl rfl⟩
        · exact ⟨_, cell_blk hl 1, .inr ⟨_, rfl, hz⟩⟩
      have hi2 : (i : Int) < 2 := by omega
      have hltL := lt_of_heap hl
      have HN := hide (cellm_nil hno st)
      have HNO := hide hno
      clear hb hz hl hno
      go_wp2_with fail
      refine HN.out.mono ?_
      rintro e W5 ⟨rfl, b5⟩
      obtain ⟨W6, hW6⟩ : ∃ W6, W6 = W5.alloc (.cells #[.int .i64 0, .int .i64 0, .int .i64 0] 53 (0, 0)) := ⟨_, rfl⟩
      have b6 : Below wr.heap.size wr W6 := by rw [hW6]; exact b5.alloc b5.size _
      have kp6 := (b6.cell (p := ⟨w.heap.size + 1 + 1, i, none⟩) hltL).trans hp
      rw [hW6] at kp6
      have HNO6 := hide (HNO.out.below b6)
      have HB6 := hide (HB.out.trans (b6.mono HB.out.size))
      have hlt6 := Nat.lt_of_lt_of_le hltL b6.size
      have HW6 := hide hW6
      clear b5 b6 hW6 hp HN
      go_wp2_with fail
      try rw [← HW6.out]
      obtain ⟨x6, hx6⟩ : ∃ x6, x6 = W6 := ⟨_, rfl⟩
      rw [← hx6]
      rw [← HW6.out, ← hx6] at kp6
      rw [← hx6] at HNO6 HB6 hlt6
      clear hx6
      refine (lowest_nil HNO6.out sym).mono ?_
      rintro e W7 ⟨rfl, hw7⟩
      rw [hw7]
      clear hw7
      go_wp2_with fail
      refine (pred_nil HNO6.out st sym).mono ?_
      rintro e W8 ⟨rfl, b8⟩
      obtain ⟨W9, hW9⟩ : ∃ W9, W9 = W8.alloc (.cells #[.int .i64 0, .int .u64 0, .int .i64 0] 33 (0, 0)) := ⟨_, rfl⟩
      have b9 : Below x6.heap.size x6 W9 := by rw [hW9]; exact b8.alloc b8.size _
      have kp9 := (b9.cell (p := ⟨w.heap.size + 1 + 1, i, none⟩) hlt6).trans kp6
      rw [hW9] at kp9
      have HNO9 := hide (HNO6.out.below b9)
      have HB9 := hide (HB6.out.trans (b9.mono HB6.out.size))
      have hlt9 := Nat.lt_of_lt_of_le hlt6 b9.size
      have HW9 := hide hW9
      clear b8 b9 hW9 kp6
      go_wp2_with fail
      try rw [← HW9.out]
      refine (nextm_nil HNO9.out st 1).mono ?_
      rintro e W10 ⟨rfl, b10⟩
      rw [← HW9.out] at kp9
      have kp10 := (b10.cell (p := ⟨w.heap.size + 1 + 1, i, none⟩) hlt9).trans kp9
      have HNO10 := hide (HNO9.out.below b10)
      have HB10 := hide (HB9.out.trans (b10.mono HB9.out.size))
      clear b10 kp9
      go_wp2_with fail
      refine (log_nil HNO10.out).mono ?_
      rintro e W11 ⟨rfl, rfl⟩
      go_wp2
      go_roundw
      case rel => exact ⟨i + 1, by omega, by go_num, HB10.out⟩
      case measure => simp [intOf]; omega
    · obtain rfl : i = 2 := by omega
      have hb0 := HB01.out.trans (HB.out.mono HB01.out.size)
      have g2 := (hb0.block _ HS0.out).trans HG0.out
      have k20 := cell_blk g2 0
      have k21 := cell_blk g2 1
      have HG2 := hide g2
      have HB2 := hide (HB0.out.trans (hb0.mono HB0.out.size))
      have HR2 := hide ((HR0.out.below hb0).more hb0.size)
      clear hb hz hl hb0 g2
      go_wp2_with fail
      refine (HMAY.out _ HR2.out).mono ?_
      rintro e W2 ⟨he, b2⟩
      have g3 := (b2.block _ (lt_of_heap HG2.out)).trans HG2.out
      have k30 : W2.cell? ⟨w.heap.size, 0, none⟩ = some (.int .i64 l) := cell_blk g3 0
      have k31 : W2.cell? ⟨w.heap.size, 1, none⟩ = some (.slice A m c) := cell_blk g3 1
      have HG3 := hide g3
      have HB3 := hide (HB2.out.trans (b2.mono HB2.out.size))
      have HR3 := hide ((HR2.out.below b2).more b2.size)
      clear b2 g3 k20 k21 HG2
      rcases he with ⟨hT, rfl⟩ | ⟨hT, rfl⟩
      · obtain ⟨L, rfl⟩ := Int.eq_ofNat_of_zero_le hT.1.1
        obtain ⟨i0, hi, hz0, hz1, hz2⟩ := info_parts info_int
        have hm300 : m ≤ 300 := by omega
        obtain ⟨s1, s2, s3, E1, hsp1, hsp2⟩ := same_pred hT HM.out st sym
        have hL : L ≤ 9 := by have := hT.1; omega
        obtain ⟨hp0, hp1⟩ := pow_len hL
        have HCE := hide (fun W hr => cells10_any L A m c zs W HM.out hr hok hc hc' hT)
        have HBG := hide (fun (A1 : Option Addr) (c1 : Nat) W hr (h1 : m ≤ c1) h2 => begin_own L A1 m c1 zs W HM.out hr hok h1 h2 hT)
        have hone : ∀ u ∈ zs.map (Value.int .i64), u.oneCell' = true := by
          intro u hu
          obtain ⟨x, _, rfl⟩ := List.mem_map.1 hu
          rfl
        have HONE := hide hone
        have HP1 := hide hsp1
        have HP2 := hide hsp2
        obtain ⟨S, hS⟩ : ∃ S, S = 2 ^ L := ⟨_, rfl⟩
        rw [← hS] at hp0 hp1 HCE HP2
        have hlim1 : 0 + m ≤ maxLen := by unfold maxLen; omega
        have hlim2 : (0 + m) * 8 ≤ 140737488355328 := by omega
        have lt0 : w.heap.size < W2.heap.size := lt_of_heap HG3.out
        have HUN := hide Try.underlying22
        have HXD : Hid (Below W2.heap.size W2.drew (W2.drew.alloc (.cells #[.int .i64 0, .slice none 0 0] 24 (0, 0)))) := (Below.refl _ W2.drew).alloc (Nat.le_refl _) _
        have HR1 : Hid (Reads (W2.drew.alloc (.cells #[.int .i64 0, .slice none 0 0] 24 (0, 0))) W2.heap.size 1 A m (zs.map (Value.int .i64))) := Reads.alloc (w := W2.drew) HR3.out (Nat.le_refl _) _
        have hsz1 : W2.heap.size + 1 ≤ (W2.drew.alloc (.cells #[.int .i64 0, .slice none 0 0] 24 (0, 0))).heap.size := by simp
        have hsz2 : W2.heap.size ≤ (W2.drew.alloc (.cells #[.int .i64 0, .slice none 0 0] 24 (0, 0))).heap.size := by simp
        have hgz : (W2.drew.alloc (.cells #[.int .i64 0, .slice none 0 0] 24 (0, 0))).heap[W2.heap.size]? = some (.cells #[.int .i64 0, .slice none 0 0] 24 (0, 0)) := heap_alloc_new W2.drew _
        have HGZ := hide hgz
        have hne1 : w.heap.size ≠ W2.heap.size := by omega
        have HST : Hid (∀ (w1 : World) (A1 : Option Addr) (c1 : Nat), World.grownBy (W2.drew.alloc (.cells #[.int .i64 0, .slice none 0 0] 24 (0, 0))) w1 none →
            w1.heap[W2.heap.size]? = some (.cells #[.int .i64 0, .slice none 0 0] 24 (0, 0)) ∧ Below W2.heap.size W2.drew w1 ∧ w1.cell? ⟨w.heap.size, 0, none⟩ = some (.int .i64 L) ∧ w1.cell? ⟨w.heap.size, 1, none⟩ = some (.slice A m c) ∧
            ((w1.setCell ⟨W2.heap.size, 0, none⟩ (.int .i64 L)).setCell ⟨W2.heap.size, 1, none⟩ (.slice A1 m c1)).cell? ⟨w.heap.size, 0, none⟩ = some (.int .i64 L) ∧
            ((w1.setCell ⟨W2.heap.size, 0, none⟩ (.int .i64 L)).setCell ⟨W2.heap.size, 1, none⟩ (.slice A1 m c1)).cell? ⟨w.heap.size, 1, none⟩ = some (.slice A m c)) := by
          intro w1 A1 c1 hg
          have hb : Below W2.heap.size W2.drew w1 := HXD.out.grown hg hsz2 (fun q hq => nomatch hq)
          have hb2 : Below W2.heap.size W2.drew ((w1.setCell ⟨W2.heap.size, 0, none⟩ (.int .i64 L)).setCell ⟨W2.heap.size, 1, none⟩ (.slice A1 m c1)) := (hb.setCell (Nat.le_refl _) _).setCell (Nat.le_refl _) _
          exact ⟨(hg.block _ (by simp) (fun h => nomatch h)).trans HGZ.out, hb, (hb.cell (p := ⟨w.heap.size, 0, none⟩) lt0).trans k30, (hb.cell (p := ⟨w.heap.size, 1, none⟩) lt0).trans k31, (hb2.cell (p := ⟨w.heap.size, 0, none⟩) lt0).trans k30, (hb2.cell (p := ⟨w.heap.size, 1, none⟩) lt0).trans k31⟩
        clear hgz
        have HST2 : Hid (∀ (w1 : World) (A1 : Option Addr) (c1 : Nat), World.grownBy W2.drew w1 none →
            Below W2.heap.size W2.drew w1 ∧ w1.cell? ⟨w.heap.size, 0, none⟩ = some (.int .i64 L) ∧ w1.cell? ⟨w.heap.size, 1, none⟩ = some (.slice A m c) ∧
            (w1.alloc (.cells #[.int .i64 0, .slice none 0 0] 24 (0, 0))).cell? ⟨w.heap.size, 0, none⟩ = some (.int .i64 L) ∧ (w1.alloc (.cells #[.int .i64 0, .slice none 0 0] 24 (0, 0))).cell? ⟨w.heap.size, 1, none⟩ = some (.slice A m c) ∧
            (((w1.alloc (.cells #[.int .i64 0, .slice none 0 0] 24 (0, 0))).setCell ⟨w1.heap.size, 0, none⟩ (.int .i64 L)).setCell ⟨w1.heap.size, 1, none⟩ (.slice A1 m c1)).cell? ⟨w.heap.size, 0, none⟩ = some (.int .i64 L) ∧
            (((w1.alloc (.cells #[.int .i64 0, .slice none 0 0] 24 (0, 0))).setCell ⟨w1.heap.size, 0, none⟩ (.int .i64 L)).setCell ⟨w1.heap.size, 1, none⟩ (.slice A1 m c1)).cell? ⟨w.heap.size, 1, none⟩ = some (.slice A m c)) := by
          intro w1 A1 c1 hg
          have hb : Below W2.heap.size W2.drew w1 := (Below.refl W2.heap.size W2.drew).grown hg (Nat.le_refl _) (fun q hq => nomatch hq)
          have hs : W2.heap.size ≤ w1.heap.size := hb.size
          have hba : Below W2.heap.size W2.drew (w1.alloc (.cells #[.int .i64 0, .slice none 0 0] 24 (0, 0))) := hb.alloc hs _
          have hb2 : Below W2.heap.size W2.drew (((w1.alloc (.cells #[.int .i64 0, .slice none 0 0] 24 (0, 0))).setCell ⟨w1.heap.size, 0, none⟩ (.int .i64 L)).setCell ⟨w1.heap.size, 1, none⟩ (.slice A1 m c1)) := (hba.setCell hs _).setCell hs _
          exact ⟨hb, (hb.cell (p := ⟨w.heap.size, 0, none⟩) lt0).trans k30, (hb.cell (p := ⟨w.heap.size, 1, none⟩) lt0).trans k31, (hba.cell (p := ⟨w.heap.size, 0, none⟩) lt0).trans k30, (hba.cell (p := ⟨w.heap.size, 1, none⟩) lt0).trans k31, (hb2.cell (p := ⟨w.heap.size, 0, none⟩) lt0).trans k30, (hb2.cell (p := ⟨w.heap.size, 1, none⟩) lt0).trans k31⟩
        have HRD : Hid (Reads W2.drew W2.heap.size 1 A m (zs.map (Value.int .i64))) := HR3.out
        clear hone hT hsp1 hsp2 hS
        go_wp2_with fail
        go_region_held3 (fun w' => w'.cell? ⟨w.heap.size, 0, none⟩ = some (.int .i64 (L : Int)) ∧ w'.cell? ⟨w.heap.size, 1, none⟩ = some (.slice A m c)) (go_keep)
          (first
          | (refine step_append_any _ (by rfl) (.const (.slice none 0 0)) (.tmp 105) _ (by rfl) (W2.heap.size + 1) 3 i0 _ 1 8 HUN.out hi hz0 hz1 hz2 rfl Nat.zero_lt_one (.slice none 0 0) 0 _ (by rfl) (World.ownsRow_nil _ _ _ _) W2.heap.size A m c _ (by rfl) HR1.out HONE.out hlim1 hlim2 hsz1 ?_; intro v1 w1 hown1 hg1 hat1; rw [Nat.zero_add, List.nil_append] at hown1; obtain ⟨A1, c1, rfl⟩ := own_form hown1; obtain ⟨h3, hb1, j0, j1, j0', j1'⟩ := HST.out w1 A1 c1 hg1; have u0 : w1.cell? ⟨W2.heap.size, 0, none⟩ = some (.int .i64 0) := cell_blk h3 0; have u1 : w1.cell? ⟨W2.heap.size, 1, none⟩ = some (.slice none 0 0) := cell_blk h3 1; have p0 := frozen_blk h3 0; have p1 := frozen_blk h3 1; have p1' := frozen_blk (set_blk h3 0 (.int .i64 L)) 1; have u1' : (w1.setCell ⟨W2.heap.size, 0, none⟩ (.int .i64 L)).cell? ⟨W2.heap.size, 1, none⟩ = some (.slice none 0 0) := cell_blk (set_blk h3 0 (.int .i64 L)) 1; have HO1 := hide hown1; have HBW1 := hide hb1; have H3 := hide h3; have HGW := hide hg1; clear hown1 hg1 hat1 hb1 h3)
          | (refine step_append_any _ (by rfl) (.const (.slice none 0 0)) (.tmp 105) _ (by rfl) W2.heap.size 3 i0 _ 1 8 HUN.out hi hz0 hz1 hz2 rfl Nat.zero_lt_one (.slice none 0 0) 0 _ (by rfl) (World.ownsRow_nil _ _ _ _) W2.heap.size A m c _ (by rfl) HRD.out HONE.out hlim1 hlim2 (Nat.le_refl _) ?_; intro v1 w1 hown1 hg1 hat1; rw [Nat.zero_add, List.nil_append] at hown1; obtain ⟨A1, c1, rfl⟩ := own_form hown1; obtain ⟨hb1, j0, j1, ja0, ja1, j0', j1'⟩ := HST2.out w1 A1 c1 hg1; have h3 := heap_alloc_new w1 (.cells #[.int .i64 0, .slice none 0 0] 24 (0, 0)); have u0 : (w1.alloc (.cells #[.int .i64 0, .slice none 0 0] 24 (0, 0))).cell? ⟨w1.heap.size, 0, none⟩ = some (.int .i64 0) := cell_blk h3 0; have u1 : (w1.alloc (.cells #[.int .i64 0, .slice none 0 0] 24 (0, 0))).cell? ⟨w1.heap.size, 1, none⟩ = some (.slice none 0 0) := cell_blk h3 1; have p0 := frozen_blk h3 0; have p1 := frozen_blk h3 1; have p1' := frozen_blk (set_blk h3 0 (.int .i64 L)) 1; have u1' : ((w1.alloc (.cells #[.int .i64 0, .slice none 0 0] 24 (0, 0))).setCell ⟨w1.heap.size, 0, none⟩ (.int .i64 L)).cell? ⟨w1.heap.size, 1, none⟩ = some (.slice none 0 0) := cell_blk (set_blk h3 0 (.int .i64 L)) 1; have HO1 := hide hown1; have HBW1 := hide hb1; have HGW := hide hg1; clear hown1 hg1 hat1 hb1 h3))
        · have hsw : W2.heap.size ≤ w1.heap.size := HBW1.out.size
          obtain ⟨W4, hW4⟩ : ∃ W4, W4 = w1.alloc (.cells #[.int .i64 L, .slice A1 m c1] 24 (0, 0)) := ⟨_, rfl⟩
          have hG5 : W4.heap[w1.heap.size]? = some (.cells #[.int .i64 L, .slice A1 m c1] 24 (0, 0)) := by rw [hW4]; exact heap_alloc_new w1 _
          have hB4 : Below W2.heap.size W2.drew W4 := by rw [hW4]; exact HBW1.out.alloc hsw _
          have hOC : W4.ownsRow W2.heap.size 3 1 (.slice A1 m c1) m (zs.map (Value.int .i64)) := by
            rw [hW4]
            exact HO1.out.alloc _
          have hp5w : W2.heap.size ≤ w1.heap.size := hsw
          rw [← hW4]
          obtain ⟨p5, hp5⟩ : ∃ p5, p5 = w1.heap.size := ⟨_, rfl⟩
          rw [← hp5] at hG5 hp5w ⊢
          have HB4 := hide ((Below.refl W2.heap.size W2).drew.trans hB4)
          have hg0 := (HB4.out.block _ lt0).trans HG3.out
          have q0 := cell_blk hG5 0
          have q1 := cell_blk hG5 1
          have HG5 := hide hG5
          have HOC := hide hOC
          have HG0' := hide hg0
          have HCAP := hide (own_cap hOC)
          have HPW := hide hp5w
          have lt4 : w.heap.size < W4.heap.size := lt_of_heap hg0
          have lt5 : p5 < W4.heap.size := lt_of_heap hG5
          have HSZ4 := hide HB4.out.size
          clear hW4 hp5 hg0 hG5 hOC hB4 hp5w k30 k31 HO1 HBW1 HGW HR1 HRD HST HST2 HXD HGZ hi hz0 hz1 hz2 HUN HONE hsz1 hsz2 hne1 j0 j1 j0' j1'
          go_wp2_with fail
          refine (HBG.out A1 c1 W4 (Reads.of_own HOC.out) HCAP.out.1 HCAP.out.2).mono ?_
          rintro e W5 ⟨g, rfl, hco, b5⟩
          have HB5 := hide (HB4.out.trans (b5.mono HSZ4.out))
          have HOC5 := hide (own_below HOC.out b5)
          have HG55 := hide ((b5.block _ lt5).trans HG5.out)
          have h05 := (HB5.out.block _ lt0).trans HG3.out
          have d0 := cell_blk HG55.out 0
          have d1 := cell_blk HG55.out 1
          have d2 := cell_blk h05 0
          have d3 := cell_blk h05 1
          have HCO := hide hco
          clear hco b5 h05 q0 q1
          go_wp2_with fail
          refine (tsame_any L L A1 A m c1 m c zs zs W5 (Reads.of_own HOC5.out) ((HR3.out.below HB5.out).more HB5.out.size) HM.out HM.out (by omega)).mono ?_
          rintro e W6 ⟨he, b6⟩
          obtain rfl : e = .returned (.bool true) := he.trans (ret_bool (by simp))
          have HB6 := hide (HB5.out.trans (b6.mono HB5.out.size))
          have HOC6 := hide (own_below HOC5.out b6)
          have HG56 := hide ((b6.block _ (lt_of_heap HG55.out)).trans HG55.out)
          have HCO6 := hide (HCO.out.below b6)
          have HLO := hide HOC.out.lt
          clear b6 he d0 d1 d2 d3
          go_wp2
          go_loopw [21] (fun iv wr => ∃ i : Nat, i ≤ m ∧ iv = .int .i64 i ∧ Below W2.heap.size W2 wr ∧ wr.heap[p5]? = some (.cells #[.int .i64 L, .slice A1 m c1] 24 (0, 0)) ∧ CoO wr W4.heap.size g L zs ∧ ∃ ys, wr.ownsRow W2.heap.size 3 1 (.slice A1 m c1) m ys) (fun iv _ => m - (intOf iv).toNat)
          case atStart => exact ⟨0, Nat.zero_le _, rfl, HB6.out, HG56.out, HCO6.out, _, HOC6.out⟩
          case round =>
            obtain ⟨i, hi, rfl, hb, y9, hco, ys, hown⟩ := hrel
            have HB := hide hb
            have HY9 := hide y9
            have HCQ := hide hco
            have z0 := cell_blk y9 0
            have z1 := cell_blk y9 1
            by_cases hlt : i < m
            · obtain ⟨g8, cu, hA, hg4, _⟩ := hown.form (by omega)
              have hA' : A1 = some ⟨g8, 0, none⟩ := by injection hA
              subst hA'
              have hl := hown.1
              have a0 := hown.cellAt i (by omega)
              obtain ⟨r0, hr0⟩ : ∃ u, ys[i]? = some u := ⟨_, List.getElem?_eq_getElem (by omega)⟩
              rw [hr0] at a0
              have f0 := hown.frozenAt i
              have own1 := (hown.stored i (.int .i64 77)).1
              have hik : (i : Int) < (m : Int) := by omega
              have HO3 := hide own1
              have hgp : p5 ≠ g8 := fun h => own_blk_ne hown y9 (by decide) (by rw [h]; rfl)
              have HGG := hide hg4
              have HLT8 := hide (HLO.out g8 rfl).2
              clear hown own1 hl hr0 hg4 hA hb y9 hco
              go_wp2
              go_roundw
              case rel => exact ⟨i + 1, by omega, by go_num, HB.out.setCell HGG.out _, set_far HY9.out hgp _, HCQ.out.chg ((Chg.refl _ _).setCell (.inl HLT8.out) _), _, HO3.out⟩
              case measure => simp [intOf]; omega
            · obtain rfl : m = i := by omega
              clear hown HOC6 HB6 HG56 HCO6 hb y9 hco
              go_wp2_with fail
              refine (HP1.out _ _ HCQ.out.coder).mono ?_
              rintro e W7 ⟨rfl, b7⟩
              obtain ⟨W8, hW8⟩ : ∃ W8, W8 = W7.alloc (.cells #[.int .i64 s1, .int .u64 s2, .int .i64 s3] 33 (0, 0)) := ⟨_, rfl⟩
              have hg8 : W8.heap[W7.heap.size]? = some (.cells #[.int .i64 s1, .int .u64 s2, .int .i64 s3] 33 (0, 0)) := by rw [hW8]; exact heap_alloc_new W7 _
              have HB8 : Hid (Below W2.heap.size W2 W8) := by rw [hW8]; exact (HB.out.trans (b7.mono HB.out.size)).alloc (Nat.le_trans HB.out.size b7.size) _
              have h08 := (HB8.out.block _ lt0).trans HG3.out
              have d2 := cell_blk h08 0
              have d3 := cell_blk h08 1
              have d2w := d2
              have d3w := d3
              rw [hW8] at d2w d3w
              have HG8 := hide hg8
              have HW8 := hide hW8
              clear hg8 hW8 b7 h08 z0 z1
              go_wp2_with fail
              try rw [← HW8.out]
              clear d2w d3w
              go_wp2_with fail
              refine (HCE.out _ ((HR3.out.below HB8.out).more HB8.out.size)).mono ?_
              rintro e W9 ⟨v9, rfl, ho9, b9⟩
              obtain ⟨A9, c9, rfl⟩ := own_form ho9
              have HB9 := hide (HB8.out.trans (b9.mono HB8.out.size))
              have HG9 := hide ((b9.block _ (lt_of_heap HG8.out)).trans HG8.out)
              have HO9 := hide ho9
              clear ho9 b9 d2 d3
              go_wp2_with fail
              refine (HP2.out _ _ _ _ (Reads.of_own HO9.out) (Nat.le_refl _)).mono ?_
              rintro e W10 ⟨rfl, b10⟩
              obtain ⟨W11, hW11⟩ : ∃ W11, W11 = W10.alloc (.cells #[.int .i64 s1, .int .u64 s2, .int .i64 s3] 33 (0, 0)) := ⟨_, rfl⟩
              have hg11 : W11.heap[W10.heap.size]? = some (.cells #[.int .i64 s1, .int .u64 s2, .int .i64 s3] 33 (0, 0)) := by rw [hW11]; exact heap_alloc_new W10 _
              have hg118 : W11.heap[W7.heap.size]? = some (.cells #[.int .i64 s1, .int .u64 s2, .int .i64 s3] 33 (0, 0)) := by rw [hW11]; exact alloc_far ((b10.block _ (lt_of_heap HG9.out)).trans HG9.out) _
              have HB11 : Hid (Below W2.heap.size W2 W11) := by rw [hW11]; exact (HB9.out.trans (b10.mono HB9.out.size)).alloc (Nat.le_trans HB9.out.size b10.size) _
              have a0 := cell_blk hg11 0
              have a1 := cell_blk hg11 1
              have a2 := cell_blk hg11 2
              have e0 := cell_blk hg118 0
              have e1 := cell_blk hg118 1
              have e2 := cell_blk hg118 2
              rw [hW11] at a0 a1 a2 e0 e1 e2
              have HW11 := hide hW11
              have hee := eqS_self (s1, s2, s3)
              have z1 : (E1 == E1) = true := by simp
              clear hg11 hg118 hW11 b10
              go_wp2_with fail
              try rw [← HW11.out]
              refine (HKN.out _).mono ?_
              rintro e W12 ⟨rfl, b12⟩
              have HB12 := hide (HB11.out.trans (b12.mono HB11.out.size))
              clear b12
              go_wp2
              go_ret
              exact ⟨rfl, HB3.out.trans (HB12.out.mono HB3.out.size)⟩
        · have hlo := HO1.out.lt
          obtain ⟨W4, hW4⟩ : ∃ W4, W4 = ((w1.setCell ⟨W2.heap.size, 0, none⟩ (.int .i64 L)).setCell ⟨W2.heap.size, 1, none⟩ (.slice A1 m c1)) := ⟨_, rfl⟩
          have hG5 : W4.heap[W2.heap.size]? = some (.cells #[.int .i64 L, .slice A1 m c1] 24 (0, 0)) := by rw [hW4]; exact set_blk (set_blk H3.out 0 _) 1 _
          have hB4 : Below W2.heap.size W2.drew W4 := by rw [hW4]; exact (HBW1.out.setCell (Nat.le_refl _) _).setCell (Nat.le_refl _) _
          have hOC : W4.ownsRow W2.heap.size 3 1 (.slice A1 m c1) m (zs.map (Value.int .i64)) := by
            rw [hW4]
            exact own_base (ownsRow_setCell_other (ownsRow_setCell_other HO1.out (a := ⟨W2.heap.size, 0, none⟩) (fun h => by have h5 : W2.heap.size + 1 ≤ W2.heap.size := (hlo _ h).1; omega) _) (a := ⟨W2.heap.size, 1, none⟩) (fun h => by have h5 : W2.heap.size + 1 ≤ W2.heap.size := (hlo _ h).1; omega) _) (fun q hq => by have := (hlo q hq).1; omega)
          have hp5w : W2.heap.size ≤ W2.heap.size := Nat.le_refl _
          rw [← hW4]
          obtain ⟨p5, hp5⟩ : ∃ p5, p5 = W2.heap.size := ⟨_, rfl⟩
          have hp5w' : W2.heap.size ≤ p5 := by rw [hp5]; exact Nat.le_refl _
          rw [← hp5] at hG5 ⊢
          clear hp5w
          have hp5w := hp5w'
          clear hp5w' hlo
          have HB4 := hide ((Below.refl W2.heap.size W2).drew.trans hB4)
          have hg0 := (HB4.out.block _ lt0).trans HG3.out
          have q0 := cell_blk hG5 0
          have q1 := cell_blk hG5 1
          have HG5 := hide hG5
          have HOC := hide hOC
          have HG0' := hide hg0
          have HCAP := hide (own_cap hOC)
          have HPW := hide hp5w
          have lt4 : w.heap.size < W4.heap.size := lt_of_heap hg0
          have lt5 : p5 < W4.heap.size := lt_of_heap hG5
          have HSZ4 := hide HB4.out.size
          clear hW4 hp5 hg0 hG5 hOC hB4 hp5w k30 k31 HO1 HBW1 HGW HR1 HRD HST HST2 HXD HGZ H3 hi hz0 hz1 hz2 HUN HONE hsz1 hsz2 hne1 j0 j1 j0' j1'
          go_wp2_with fail
          refine (HBG.out A1 c1 W4 (Reads.of_own HOC.out) HCAP.out.1 HCAP.out.2).mono ?_
          rintro e W5 ⟨g, rfl, hco, b5⟩
          have HB5 := hide (HB4.out.trans (b5.mono HSZ4.out))
          have HOC5 := hide (own_below HOC.out b5)
          have HG55 := hide ((b5.block _ lt5).trans HG5.out)
          have h05 := (HB5.out.block _ lt0).trans HG3.out
          have d0 := cell_blk HG55.out 0
          have d1 := cell_blk HG55.out 1
          have d2 := cell_blk h05 0
          have d3 := cell_blk h05 1
          have HCO := hide hco
          clear hco b5 h05 q0 q1
          go_wp2_with fail
          refine (tsame_any L L A1 A m c1 m c zs zs W5 (Reads.of_own HOC5.out) ((HR3.out.below HB5.out).more HB5.out.size) HM.out HM.out (by omega)).mono ?_
          rintro e W6 ⟨he, b6⟩
          obtain rfl : e = .returned (.bool true) := he.trans (ret_bool (by simp))
          have HB6 := hide (HB5.out.trans (b6.mono HB5.out.size))
          have HOC6 := hide (own_below HOC5.out b6)
          have HG56 := hide ((b6.block _ (lt_of_heap HG55.out)).trans HG55.out)
          have HCO6 := hide (HCO.out.below b6)
          have HLO := hide HOC.out.lt
          clear b6 he d0 d1 d2 d3
          go_wp2
          go_loopw [21] (fun iv wr => ∃ i : Nat, i ≤ m ∧ iv = .int .i64 i ∧ Below W2.heap.size W2 wr ∧ wr.heap[p5]? = some (.cells #[.int .i64 L, .slice A1 m c1] 24 (0, 0)) ∧ CoO wr W4.heap.size g L zs ∧ ∃ ys, wr.ownsRow W2.heap.size 3 1 (.slice A1 m c1) m ys) (fun iv _ => m - (intOf iv).toNat)
          case atStart => exact ⟨0, Nat.zero_le _, rfl, HB6.out, HG56.out, HCO6.out, _, HOC6.out⟩
          case round =>
            obtain ⟨i, hi, rfl, hb, y9, hco, ys, hown⟩ := hrel
            have HB := hide hb
            have HY9 := hide y9
            have HCQ := hide hco
            have z0 := cell_blk y9 0
            have z1 := cell_blk y9 1
            by_cases hlt : i < m
            · obtain ⟨g8, cu, hA, hg4, _⟩ := hown.form (by omega)
              have hA' : A1 = some ⟨g8, 0, none⟩ := by injection hA
              subst hA'
              have hl := hown.1
              have a0 := hown.cellAt i (by omega)
              obtain ⟨r0, hr0⟩ : ∃ u, ys[i]? = some u := ⟨_, List.getElem?_eq_getElem (by omega)⟩
              rw [hr0] at a0
              have f0 := hown.frozenAt i
              have own1 := (hown.stored i (.int .i64 77)).1
              have hik : (i : Int) < (m : Int) := by omega
              have HO3 := hide own1
              have hgp : p5 ≠ g8 := fun h => own_blk_ne hown y9 (by decide) (by rw [h]; rfl)
              have HGG := hide hg4
              have HLT8 := hide (HLO.out g8 rfl).2
              clear hown own1 hl hr0 hg4 hA hb y9 hco
              go_wp2
              go_roundw
              case rel => exact ⟨i + 1, by omega, by go_num, HB.out.setCell HGG.out _, set_far HY9.out hgp _, HCQ.out.chg ((Chg.refl _ _).setCell (.inl HLT8.out) _), _, HO3.out⟩
              case measure => simp [intOf]; omega
            · obtain rfl : m = i := by omega
              clear hown HOC6 HB6 HG56 HCO6 hb y9 hco
              go_wp2_with fail
              refine (HP1.out _ _ HCQ.out.coder).mono ?_
              rintro e W7 ⟨rfl, b7⟩
              obtain ⟨W8, hW8⟩ : ∃ W8, W8 = W7.alloc (.cells #[.int .i64 s1, .int .u64 s2, .int .i64 s3] 33 (0, 0)) := ⟨_, rfl⟩
              have hg8 : W8.heap[W7.heap.size]? = some (.cells #[.int .i64 s1, .int .u64 s2, .int .i64 s3] 33 (0, 0)) := by rw [hW8]; exact heap_alloc_new W7 _
              have HB8 : Hid (Below W2.heap.size W2 W8) := by rw [hW8]; exact (HB.out.trans (b7.mono HB.out.size)).alloc (Nat.le_trans HB.out.size b7.size) _
              have h08 := (HB8.out.block _ lt0).trans HG3.out
              have d2 := cell_blk h08 0
              have d3 := cell_blk h08 1
              have d2w := d2
              have d3w := d3
              rw [hW8] at d2w d3w
              have HG8 := hide hg8
              have HW8 := hide hW8
              clear hg8 hW8 b7 h08 z0 z1
              go_wp2_with fail
              try rw [← HW8.out]
              clear d2w d3w
              go_wp2_with fail
              refine (HCE.out _ ((HR3.out.below HB8.out).more HB8.out.size)).mono ?_
              rintro e W9 ⟨v9, rfl, ho9, b9⟩
              obtain ⟨A9, c9, rfl⟩ := own_form ho9
              have HB9 := hide (HB8.out.trans (b9.mono HB8.out.size))
              have HG9 := hide ((b9.block _ (lt_of_heap HG8.out)).trans HG8.out)
              have HO9 := hide ho9
              clear ho9 b9 d2 d3
              go_wp2_with fail
              refine (HP2.out _ _ _ _ (Reads.of_own HO9.out) (Nat.le_refl _)).mono ?_
              rintro e W10 ⟨rfl, b10⟩
              obtain ⟨W11, hW11⟩ : ∃ W11, W11 = W10.alloc (.cells #[.int .i64 s1, .int .u64 s2, .int .i64 s3] 33 (0, 0)) := ⟨_, rfl⟩
              have hg11 : W11.heap[W10.heap.size]? = some (.cells #[.int .i64 s1, .int .u64 s2, .int .i64 s3] 33 (0, 0)) := by rw [hW11]; exact heap_alloc_new W10 _
              have hg118 : W11.heap[W7.heap.size]? = some (.cells #[.int .i64 s1, .int .u64 s2, .int .i64 s3] 33 (0, 0)) := by rw [hW11]; exact alloc_far ((b10.block _ (lt_of_heap HG9.out)).trans HG9.out) _
              have HB11 : Hid (Below W2.heap.size W2 W11) := by rw [hW11]; exact (HB9.out.trans (b10.mono HB9.out.size)).alloc (Nat.le_trans HB9.out.size b10.size) _
              have a0 := cell_blk hg11 0
              have a1 := cell_blk hg11 1
              have a2 := cell_blk hg11 2
              have e0 := cell_blk hg118 0
              have e1 := cell_blk hg118 1
              have e2 := cell_blk hg118 2
              rw [hW11] at a0 a1 a2 e0 e1 e2
              have HW11 := hide hW11
              have hee := eqS_self (s1, s2, s3)
              have z1 : (E1 == E1) = true := by simp
              clear hg11 hg118 hW11 b10
              go_wp2_with fail
              try rw [← HW11.out]
              refine (HKN.out _).mono ?_
              rintro e W12 ⟨rfl, b12⟩
              have HB12 := hide (HB11.out.trans (b12.mono HB11.out.size))
              clear b12
              go_wp2
              go_ret
              exact ⟨rfl, HB3.out.trans (HB12.out.mono HB3.out.size)⟩
      · clear hT
        go_wp2_with fail
        refine (HKN.out _).mono ?_
        rintro e W9 ⟨rfl, b9⟩
        have HB9 := hide (HB3.out.trans (b9.mono HB3.out.size))
        clear b9
        go_wp2
        go_ret
        exact ⟨rfl, HB9.out⟩
end Go.Proofs.Ytpedhioicfjpkaa
