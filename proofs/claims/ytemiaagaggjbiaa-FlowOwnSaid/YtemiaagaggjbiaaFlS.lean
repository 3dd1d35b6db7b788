/- portmanteaulaw12.FlowOwn walked. -/
import Derived.Test.YtemiaagaggjbiaaFlN
import Derived.Test.YtemiaagaggjbiaaStE
namespace Go.Proofs.Ytemiaagaggjbiaa
open Go.RowKit Go Go.Shelf
set_option linter.unusedVariables false
set_option maxRecDepth 8000

theorem own_capM {w : World} {base : Nat} {e : TypeId} {size n c : Nat} {A : Option Addr} {xs : List Value} (h : w.ownsRow base e size (.slice A n c) n xs) : n ≤ c ∧ c ≤ maxLen := by
  rcases h.2 with ⟨h1, h2⟩ | ⟨g, cap, cur, h1, _, _, h2, h3, _⟩
  · injection h1 with _ _ hc
    subst hc
    exact ⟨by omega, by unfold maxLen; omega⟩
  · injection h1 with _ _ hc
    subst hc
    exact ⟨h2, h3⟩

set_option maxHeartbeats 8000000 in
theorem walk_FlowOwn {w : World} (l : Int) (A : Option Addr) (m c : Nat) (zs : List Int) (wl : (Lit.int .i64 l).wf = true) (hm : zs.length = m) (hr : Reads w w.heap.size 1 A m (zs.map (Value.int .i64))) (hok : ∀ z ∈ zs, (Lit.int .i64 z).wf = true) (hc' : c ≤ maxLen) (hc : m ≤ c)
    (B : Option Addr) (ns cs : Nat) (S : List Int) (hS : S.length = ns) (hrS : Reads w w.heap.size 1 B ns (S.map (Value.int .i64))) (hokS : ∀ z ∈ S, (Lit.int .i64 z).wf = true) (hms : cs ≤ maxLen) (hcs : ns ≤ cs) :
    Calls Try.prog 11 #[.agg #[.int .i64 l, .slice A m c], .slice B ns cs] w fun e w' => e = .returned (.bool true) ∧ Below w.heap.size w w' := by
  have HKN := hide known_any
  obtain ⟨W0, hW0⟩ : ∃ W0, W0 = w.alloc (.cells #[.int .i64 l, .slice A m c] 24 (0, 0)) := ⟨_, rfl⟩
  have g1 : W0.heap[w.heap.size]? = some (.cells #[.int .i64 l, .slice A m c] 24 (0, 0)) := by rw [hW0]; exact heap_alloc_new w _
  have b0 : Below w.heap.size w W0 := by rw [hW0]; exact (Below.refl w.heap.size w).alloc (Nat.le_refl _) _
  have k0 := cell_blk g1 0
  have k1 := cell_blk g1 1
  have HG0 := hide g1
  have HB0 := hide b0
  have HW0 := hide hW0
  have HRT := hide (fun W (b : Below w.heap.size w W) => (hr.below b).more b.size)
  have HRS := hide (fun W (b : Below w.heap.size w W) => ((hrS.below b).more b.size : Reads W W.heap.size 1 B ns (intsV S)))
  have HM := hide hm
  have HOK := hide hok
  have HS := hide hS
  clear g1 b0 hW0 hr hrS hokS hms hcs
  by_cases hb1 : 300 < (m : Int)
  · clear hm hok hc hc'
    go_enter Try.func11, Try.ntmps11
    go_wp2_with fail
    rw [← HW0.out]
    go_wp2_with fail
    refine (HKN.out _).mono ?_
    rintro e W9 ⟨rfl, b9⟩
    have HB9 := hide (HB0.out.trans (b9.mono HB0.out.size))
    clear b9
    go_wp2
    go_ret
    exact ⟨rfl, HB9.out⟩
  by_cases hb2 : 300 < (ns : Int)
  · clear hm hok hc hc'
    go_enter Try.func11, Try.ntmps11
    go_wp2_with fail
    rw [← HW0.out]
    go_wp2_with fail
    refine (HKN.out _).mono ?_
    rintro e W9 ⟨rfl, b9⟩
    have HB9 := hide (HB0.out.trans (b9.mono HB0.out.size))
    clear b9
    go_wp2
    go_ret
    exact ⟨rfl, HB9.out⟩
  obtain ⟨k, bs, hO⟩ := outE_ex l zs S
  obtain ⟨k2, S2, hD⟩ := outD_ex l zs bs (S.length : Int)
  have hbl : bs.length ≤ 1000 := by
    rcases hO with ⟨_, _, rfl⟩ | ⟨_, _, _, rfl⟩ | ⟨_, _, _, _, rfl⟩ | ⟨L, rfl, hT, _, hall, _, rfl⟩
    · simp
    · simp
    · simp
    · have := flow_len hT hall; omega
  have hby : ∀ x ∈ bs, x < 256 := by
    rcases hO with ⟨_, _, rfl⟩ | ⟨_, _, _, rfl⟩ | ⟨_, _, _, _, rfl⟩ | ⟨L, rfl, hT, _, hall, _, rfl⟩
    · simp
    · simp
    · simp
    · exact pack_small _ _
  have hS2 : S2.length ≤ 1000 := by
    rcases outD_total hD with ⟨_, _, h, _⟩ | ⟨_, rfl⟩
    · omega
    · simp
  have hm256 : m ≤ 300 := by omega
  have hn256 : S.length ≤ 300 := by omega
  have HENC := hide (fun W (A' B' : Option Addr) (c' cs' : Nat) (h1 : m ≤ c') (h2 : c' ≤ maxLen) (r : Reads W W.heap.size 1 A' m (zs.map (Value.int .i64))) (r' : Reads W W.heap.size 1 B' S.length (intsV S)) => enc_any (cs := cs') hO W hm r hok h1 h2 rfl r')
  have HDEC := hide (fun W (A' B' : Option Addr) (c' cb' : Nat) (h1 : m ≤ c') (h2 : c' ≤ maxLen) (r : Reads W W.heap.size 1 A' m (zs.map (Value.int .i64))) (r' : Reads W W.heap.size 1 B' bs.length (u8s bs)) => dec_any (cb := cb') hD W hm r hok h1 h2 r' hby rfl (by omega))
  have hone : ∀ u ∈ zs.map (Value.int .i64), u.oneCell' = true := by
    intro u hu
    obtain ⟨x, _, rfl⟩ := List.mem_map.1 hu
    rfl
  have hsone : ∀ u ∈ intsV S, u.oneCell' = true := by
    intro u hu
    obtain ⟨x, _, rfl⟩ := List.mem_map.1 hu
    rfl
  have HONE := hide hone
  have HSONE := hide hsone
  have HBONE := hide (u8s_one bs)
  have HRW : Hid (Reads W0 W0.heap.size 1 A m (zs.map (Value.int .i64))) := hide (HRT.out W0 HB0.out)
  have lt0 : w.heap.size < W0.heap.size := lt_of_heap HG0.out
  have hlimS1 : 0 + S.length ≤ maxLen := by unfold maxLen; omega
  have hlimS2 : (0 + S.length) * 8 ≤ 140737488355328 := by omega
  have hlimB1 : 0 + bs.length ≤ maxLen := by unfold maxLen; omega
  have hlimB2 : (0 + bs.length) * 1 ≤ 140737488355328 := by omega
  obtain ⟨i0, hi, hz0, hz1, hz2⟩ := info_parts info_int
  have HBY := hide hby
  subst hS
  have hlim1 : 0 + m ≤ maxLen := by unfold maxLen; omega
  have hlim2 : (0 + m) * 8 ≤ 140737488355328 := by omega
  have lt0 : w.heap.size < W0.heap.size := lt_of_heap HG0.out
  have HUN := hide Try.underlying22
  have HXD : Hid (Below W0.heap.size W0.drew (W0.drew.alloc (.cells #[.int .i64 0, .slice none 0 0] 24 (0, 0)))) := (Below.refl _ W0.drew).alloc (Nat.le_refl _) _
  have HR1 : Hid (Reads (W0.drew.alloc (.cells #[.int .i64 0, .slice none 0 0] 24 (0, 0))) W0.heap.size 1 A m (zs.map (Value.int .i64))) := Reads.alloc (w := W0.drew) HRW.out (Nat.le_refl _) _
  have hsz1 : W0.heap.size + 1 ≤ (W0.drew.alloc (.cells #[.int .i64 0, .slice none 0 0] 24 (0, 0))).heap.size := by simp
  have hsz2 : W0.heap.size ≤ (W0.drew.alloc (.cells #[.int .i64 0, .slice none 0 0] 24 (0, 0))).heap.size := by simp
  have hgz : (W0.drew.alloc (.cells #[.int .i64 0, .slice none 0 0] 24 (0, 0))).heap[W0.heap.size]? = some (.cells #[.int .i64 0, .slice none 0 0] 24 (0, 0)) := heap_alloc_new W0.drew _
  have HGZ := hide hgz
  have hne1 : w.heap.size ≠ W0.heap.size := by omega
  have HST : Hid (∀ (w1 : World) (A1 : Option Addr) (c1 : Nat), World.grownBy (W0.drew.alloc (.cells #[.int .i64 0, .slice none 0 0] 24 (0, 0))) w1 none →
      w1.heap[W0.heap.size]? = some (.cells #[.int .i64 0, .slice none 0 0] 24 (0, 0)) ∧ Below W0.heap.size W0.drew w1 ∧ w1.cell? ⟨w.heap.size, 0, none⟩ = some (.int .i64 l) ∧ w1.cell? ⟨w.heap.size, 1, none⟩ = some (.slice A m c) ∧
      ((w1.setCell ⟨W0.heap.size, 0, none⟩ (.int .i64 l)).setCell ⟨W0.heap.size, 1, none⟩ (.slice A1 m c1)).cell? ⟨w.heap.size, 0, none⟩ = some (.int .i64 l) ∧
      ((w1.setCell ⟨W0.heap.size, 0, none⟩ (.int .i64 l)).setCell ⟨W0.heap.size, 1, none⟩ (.slice A1 m c1)).cell? ⟨w.heap.size, 1, none⟩ = some (.slice A m c)) := by
    intro w1 A1 c1 hg
    have hb : Below W0.heap.size W0.drew w1 := HXD.out.grown hg hsz2 (fun q hq => nomatch hq)
    have hb2 : Below W0.heap.size W0.drew ((w1.setCell ⟨W0.heap.size, 0, none⟩ (.int .i64 l)).setCell ⟨W0.heap.size, 1, none⟩ (.slice A1 m c1)) := (hb.setCell (Nat.le_refl _) _).setCell (Nat.le_refl _) _
    exact ⟨(hg.block _ (by simp) (fun h => nomatch h)).trans HGZ.out, hb, (hb.cell (p := ⟨w.heap.size, 0, none⟩) lt0).trans k0, (hb.cell (p := ⟨w.heap.size, 1, none⟩) lt0).trans k1, (hb2.cell (p := ⟨w.heap.size, 0, none⟩) lt0).trans k0, (hb2.cell (p := ⟨w.heap.size, 1, none⟩) lt0).trans k1⟩
  clear hgz
  have HST2 : Hid (∀ (w1 : World) (A1 : Option Addr) (c1 : Nat), World.grownBy W0.drew w1 none →
      Below W0.heap.size W0.drew w1 ∧ w1.cell? ⟨w.heap.size, 0, none⟩ = some (.int .i64 l) ∧ w1.cell? ⟨w.heap.size, 1, none⟩ = some (.slice A m c) ∧
      (w1.alloc (.cells #[.int .i64 0, .slice none 0 0] 24 (0, 0))).cell? ⟨w.heap.size, 0, none⟩ = some (.int .i64 l) ∧ (w1.alloc (.cells #[.int .i64 0, .slice none 0 0] 24 (0, 0))).cell? ⟨w.heap.size, 1, none⟩ = some (.slice A m c) ∧
      (((w1.alloc (.cells #[.int .i64 0, .slice none 0 0] 24 (0, 0))).setCell ⟨w1.heap.size, 0, none⟩ (.int .i64 l)).setCell ⟨w1.heap.size, 1, none⟩ (.slice A1 m c1)).cell? ⟨w.heap.size, 0, none⟩ = some (.int .i64 l) ∧
      (((w1.alloc (.cells #[.int .i64 0, .slice none 0 0] 24 (0, 0))).setCell ⟨w1.heap.size, 0, none⟩ (.int .i64 l)).setCell ⟨w1.heap.size, 1, none⟩ (.slice A1 m c1)).cell? ⟨w.heap.size, 1, none⟩ = some (.slice A m c)) := by
    intro w1 A1 c1 hg
    have hb : Below W0.heap.size W0.drew w1 := (Below.refl W0.heap.size W0.drew).grown hg (Nat.le_refl _) (fun q hq => nomatch hq)
    have hs : W0.heap.size ≤ w1.heap.size := hb.size
    have hba : Below W0.heap.size W0.drew (w1.alloc (.cells #[.int .i64 0, .slice none 0 0] 24 (0, 0))) := hb.alloc hs _
    have hb2 : Below W0.heap.size W0.drew (((w1.alloc (.cells #[.int .i64 0, .slice none 0 0] 24 (0, 0))).setCell ⟨w1.heap.size, 0, none⟩ (.int .i64 l)).setCell ⟨w1.heap.size, 1, none⟩ (.slice A1 m c1)) := (hba.setCell hs _).setCell hs _
    exact ⟨hb, (hb.cell (p := ⟨w.heap.size, 0, none⟩) lt0).trans k0, (hb.cell (p := ⟨w.heap.size, 1, none⟩) lt0).trans k1, (hba.cell (p := ⟨w.heap.size, 0, none⟩) lt0).trans k0, (hba.cell (p := ⟨w.heap.size, 1, none⟩) lt0).trans k1, (hb2.cell (p := ⟨w.heap.size, 0, none⟩) lt0).trans k0, (hb2.cell (p := ⟨w.heap.size, 1, none⟩) lt0).trans k1⟩
  have HRD : Hid (Reads W0.drew W0.heap.size 1 A m (zs.map (Value.int .i64))) := HRW.out
  clear hone hsone hm hok hc hc' hO hD hby
  go_enter Try.func11, Try.ntmps11
  go_wp2_with fail
  rw [← HW0.out]
  go_wp2_with fail
  go_region_held3 (fun w' => w'.cell? ⟨w.heap.size, 0, none⟩ = some (.int .i64 l) ∧ w'.cell? ⟨w.heap.size, 1, none⟩ = some (.slice A m c)) (go_keep)
    (first
    | (refine step_append_any _ (by rfl) (.const (.slice none 0 0)) (.tmp 29) _ (by rfl) (W0.heap.size + 1) 3 i0 _ 1 8 HUN.out hi hz0 hz1 hz2 rfl Nat.zero_lt_one (.slice none 0 0) 0 _ (by rfl) (World.ownsRow_nil _ _ _ _) W0.heap.size A m c _ (by rfl) HR1.out HONE.out hlim1 hlim2 hsz1 ?_; intro v1 w1 hown1 hg1 hat1; rw [Nat.zero_add, List.nil_append] at hown1; obtain ⟨A1, c1, rfl⟩ := own_form hown1; obtain ⟨h3, hb1, j0, j1, j0', j1'⟩ := HST.out w1 A1 c1 hg1; have u0 : w1.cell? ⟨W0.heap.size, 0, none⟩ = some (.int .i64 0) := cell_blk h3 0; have u1 : w1.cell? ⟨W0.heap.size, 1, none⟩ = some (.slice none 0 0) := cell_blk h3 1; have p0 := frozen_blk h3 0; have p1 := frozen_blk h3 1; have p1' := frozen_blk (set_blk h3 0 (.int .i64 l)) 1; have u1' : (w1.setCell ⟨W0.heap.size, 0, none⟩ (.int .i64 l)).cell? ⟨W0.heap.size, 1, none⟩ = some (.slice none 0 0) := cell_blk (set_blk h3 0 (.int .i64 l)) 1; have HO1 := hide hown1; have HBW1 := hide hb1; have H3 := hide h3; have HGW := hide hg1; clear hown1 hg1 hat1 hb1 h3)
    | (refine step_append_any _ (by rfl) (.const (.slice none 0 0)) (.tmp 29) _ (by rfl) W0.heap.size 3 i0 _ 1 8 HUN.out hi hz0 hz1 hz2 rfl Nat.zero_lt_one (.slice none 0 0) 0 _ (by rfl) (World.ownsRow_nil _ _ _ _) W0.heap.size A m c _ (by rfl) HRD.out HONE.out hlim1 hlim2 (Nat.le_refl _) ?_; intro v1 w1 hown1 hg1 hat1; rw [Nat.zero_add, List.nil_append] at hown1; obtain ⟨A1, c1, rfl⟩ := own_form hown1; obtain ⟨hb1, j0, j1, ja0, ja1, j0', j1'⟩ := HST2.out w1 A1 c1 hg1; have h3 := heap_alloc_new w1 (.cells #[.int .i64 0, .slice none 0 0] 24 (0, 0)); have u0 : (w1.alloc (.cells #[.int .i64 0, .slice none 0 0] 24 (0, 0))).cell? ⟨w1.heap.size, 0, none⟩ = some (.int .i64 0) := cell_blk h3 0; have u1 : (w1.alloc (.cells #[.int .i64 0, .slice none 0 0] 24 (0, 0))).cell? ⟨w1.heap.size, 1, none⟩ = some (.slice none 0 0) := cell_blk h3 1; have p0 := frozen_blk h3 0; have p1 := frozen_blk h3 1; have p1' := frozen_blk (set_blk h3 0 (.int .i64 l)) 1; have u1' : ((w1.alloc (.cells #[.int .i64 0, .slice none 0 0] 24 (0, 0))).setCell ⟨w1.heap.size, 0, none⟩ (.int .i64 l)).cell? ⟨w1.heap.size, 1, none⟩ = some (.slice none 0 0) := cell_blk (set_blk h3 0 (.int .i64 l)) 1; have HO1 := hide hown1; have HBW1 := hide hb1; have HGW := hide hg1; clear hown1 hg1 hat1 hb1 h3))
  · have hsw : W0.heap.size ≤ w1.heap.size := HBW1.out.size
    obtain ⟨W4, hW4⟩ : ∃ W4, W4 = w1.alloc (.cells #[.int .i64 l, .slice A1 m c1] 24 (0, 0)) := ⟨_, rfl⟩
    have hG5 : W4.heap[w1.heap.size]? = some (.cells #[.int .i64 l, .slice A1 m c1] 24 (0, 0)) := by rw [hW4]; exact heap_alloc_new w1 _
    have hB4 : Below W0.heap.size W0.drew W4 := by rw [hW4]; exact HBW1.out.alloc hsw _
    have hOC : W4.ownsRow W0.heap.size 3 1 (.slice A1 m c1) m (zs.map (Value.int .i64)) := by
      rw [hW4]
      exact HO1.out.alloc _
    have hp5w : W0.heap.size ≤ w1.heap.size := hsw
    rw [← hW4]
    obtain ⟨p5, hp5⟩ : ∃ p5, p5 = w1.heap.size := ⟨_, rfl⟩
    rw [← hp5] at hG5 hp5w ⊢
    have HB4 := hide ((Below.refl W0.heap.size W0).drew.trans hB4)
    have hg0 := (HB4.out.block _ lt0).trans HG0.out
    have q0 := cell_blk hG5 0
    have q1 := cell_blk hG5 1
    have HG5 := hide hG5
    have HOC := hide hOC
    have HG0' := hide hg0
    have HCAP := hide (own_capM hOC)
    have HPW := hide hp5w
    have lt4 : w.heap.size < W4.heap.size := lt_of_heap hg0
    have lt5 : p5 < W4.heap.size := lt_of_heap hG5
    have HSZ4 := hide HB4.out.size
    clear hW4 hp5 hg0 hG5 hOC hB4 hp5w k0 k1 HO1 HBW1 HGW HR1 HRD HST HST2 HXD HGZ hi hz0 hz1 hz2 HUN HONE hsz1 hsz2 hne1 j0 j1 j0' j1'
    have hwl : w.heap.size ≤ W0.heap.size := Nat.le_of_lt lt0
    have HBw := hide (HB0.out.trans (HB4.out.mono HB0.out.size))
    have e0 := cell_blk HG5.out 0
    clear e0
    obtain ⟨i0, hi, hz0, hz1, hz2⟩ := info_parts info_int
    obtain ⟨i8, hi8, hy0, hy1, hy2⟩ := info_parts info_u8
    have HUN := hide Try.underlying22
    have HUB := hide Try.underlying25
    have hRS4 := HRS.out W4 HBw.out
    have HRS4 := hide hRS4
    clear hRS4
    go_wp2_with (at_builtin; refine wpList_append_any _ rfl (.const (.slice none 0 0)) (.tmp 32) _ rfl W4.heap.size 3 i0 _ 1 8 HUN.out hi hz0 hz1 hz2 rfl Nat.zero_lt_one (.slice none 0 0) 0 _ rfl (World.ownsRow_nil _ _ _ _) W4.heap.size B S.length cs _ rfl HRS4.out HSONE.out hlimS1 hlimS2 (Nat.le_refl _) ?_; intro v2 w2 hown2 hg2 hat2; rw [Nat.zero_add, List.nil_append] at hown2; have hb2 : Below W4.heap.size W4 w2 := (Below.refl _ W4).grown hg2 (Nat.le_refl _) (fun q hq => nomatch hq); have HO2 := hide hown2; have HB2' := hide hb2; have G2 := hide ((hb2.block _ lt5).trans HG5.out); have m0 := cell_blk G2.out 0; have m1 := cell_blk G2.out 1; clear hown2 hg2 hat2 hb2)
    obtain ⟨A2, c2, rfl⟩ := own_form HO2.out
    have HOC2 := hide (own_below HOC.out HB2'.out)
    have GT2 := hide ((HB2'.out.block _ lt4).trans HG0'.out)
    have HBw2 := hide (HBw.out.trans (HB2'.out.mono HBw.out.size))
    refine (HENC.out w2 A1 A2 c1 c2 HCAP.out.1 HCAP.out.2 (Reads.of_own HOC2.out) (Reads.of_own HO2.out)).mono ?_
    rintro e w3 ⟨v3, rfl, ho3, b3⟩
    obtain ⟨A3, c3, rfl⟩ := own_form ho3
    have HO3 := hide ho3
    have HOC3 := hide (own_below HOC2.out b3)
    have HL3 := hide (own_below HO2.out b3)
    have HBw3 := hide (HBw2.out.trans (b3.mono HBw2.out.size))
    have GT3 := hide ((b3.block _ (lt_of_heap GT2.out)).trans GT2.out)
    have G3 := hide ((b3.block _ (lt_of_heap G2.out)).trans G2.out)
    have HS23 := hide b3.size
    have n0 := cell_blk G3.out 0
    have n1 := cell_blk G3.out 1
    clear b3 ho3 m0 m1
    have hrb3 := Reads.of_own HO3.out
    have HRB3 := hide hrb3
    clear hrb3
    go_wp2_with (at_builtin; refine wpList_append_any _ rfl (.const (.slice none 0 0)) (.tmp 40) _ rfl w3.heap.size 5 i8 _ 1 1 HUB.out hi8 hy0 hy1 hy2 rfl Nat.zero_lt_one (.slice none 0 0) 0 _ rfl (World.ownsRow_nil _ _ _ _) w3.heap.size A3 bs.length c3 _ rfl HRB3.out HBONE.out hlimB1 hlimB2 (Nat.le_refl _) ?_; intro v4 w4 hown4 hg4 hat4; rw [Nat.zero_add, List.nil_append] at hown4; have hb4 : Below w3.heap.size w3 w4 := (Below.refl _ w3).grown hg4 (Nat.le_refl _) (fun q hq => nomatch hq); have HO4 := hide hown4; have HB4' := hide hb4; have G4 := hide ((hb4.block _ (lt_of_heap G3.out)).trans G3.out); have o0 := cell_blk G4.out 0; have o1 := cell_blk G4.out 1; clear hown4 hg4 hat4 hb4)
    obtain ⟨A4, c4, rfl⟩ := own_form HO4.out
    have GT4 := hide ((HB4'.out.block _ (lt_of_heap GT3.out)).trans GT3.out)
    have HOC4 := hide (own_below HOC3.out HB4'.out)
    have HL4 := hide (own_below HL3.out HB4'.out)
    have HB4r := hide (own_below HO3.out HB4'.out)
    have HBw4 := hide (HBw3.out.trans (HB4'.out.mono HBw3.out.size))
    have HS34 := hide HB4'.out.size
    clear n0 n1
    refine (HDEC.out w4 A1 A3 c1 c3 HCAP.out.1 HCAP.out.2 (Reads.of_own HOC4.out) (Reads.of_own HB4r.out)).mono ?_
    rintro e w5 ⟨v5, rfl, ho5, b5⟩
    obtain ⟨A5, c5, rfl⟩ := own_form ho5
    have HM5 := hide ho5
    have HBw5 := hide (HBw4.out.trans (b5.mono HBw4.out.size))
    have HOC5 := hide (own_below HOC4.out b5)
    have HL5 := hide (own_below HL4.out b5)
    have HB5r := hide (own_below HB4r.out b5)
    have HC5r := hide (own_below HO4.out b5)
    have G5 := hide ((b5.block _ (lt_of_heap G4.out)).trans G4.out)
    have GT5 := hide ((b5.block _ (lt_of_heap GT4.out)).trans GT4.out)
    have HS45 := hide b5.size
    have HLO1 := hide HOC.out.lt
    have HLO2 := hide HO2.out.lt
    have HLO3 := hide HO3.out.lt
    have HLO4 := hide HO4.out.lt
    have hs42 : W4.heap.size ≤ w2.heap.size := HB2'.out.size
    have hs23 := HS23.out
    have hs34 := HS34.out
    have hs45 := HS45.out
    clear b5 ho5 o0 o1
    have hp5l : p5 < w2.heap.size := lt_of_heap G2.out
    have htl : w.heap.size < w2.heap.size := lt_of_heap GT2.out
    have hwW : w.heap.size ≤ W4.heap.size := Nat.le_of_lt lt4
    go_wp2
    go_loopw [12] (fun iv wr => ∃ i : Nat, i ≤ S2.length ∧ iv = .int .i64 i ∧ Chg (fun q => w4.heap.size ≤ q) w5 wr ∧ ∃ ys, wr.ownsRow w4.heap.size 3 1 (.slice A5 S2.length c5) S2.length ys) (fun iv _ => S2.length - (intOf iv).toNat)
    case atStart => exact ⟨0, Nat.zero_le _, rfl, Chg.refl _ _, _, HM5.out⟩
    case round =>
      obtain ⟨i, hi, rfl, hch, ys, hown⟩ := hrel
      by_cases hlt : i < S2.length
      · obtain ⟨g8, cu, hA, hg4, _⟩ := hown.form (by omega)
        have hA' : A5 = some ⟨g8, 0, none⟩ := by injection hA
        subst hA'
        have hl := hown.1
        have a0 := hown.cellAt i (by omega)
        obtain ⟨r0, hr0⟩ : ∃ u, ys[i]? = some u := ⟨_, List.getElem?_eq_getElem (by omega)⟩
        rw [hr0] at a0
        have f0 := hown.frozenAt i
        have own1 := (hown.stored i (.int .i64 77)).1
        have hik : (i : Int) < (S2.length : Int) := by omega
        have HO1' := hide own1
        have HGG := hide hg4
        have HCH := hide hch
        clear hown own1 hl hr0 hg4 hA hch
        go_wp2
        go_roundw
        case rel => exact ⟨i + 1, by omega, by go_num, HCH.out.setCell (.inl HGG.out) _, _, HO1'.out⟩
        case measure => simp [intOf]; omega
      · obtain rfl : i = S2.length := by omega
        obtain ⟨X6, hX6⟩ : ∃ X6, X6 = wr := ⟨_, rfl⟩
        rw [← hX6] at hch ⊢
        have HBw6 := hide (HBw5.out.trans (hch.below (B := w.heap.size) (fun q hq => by omega) HBw5.out.size))
        have HOC6 := hide (own_chg HOC5.out hch (fun q hq h => by have := (HLO1.out q hq).2; omega))
        have HL6 := hide (own_chg HL5.out hch (fun q hq h => by have := (HLO2.out q hq).2; omega))
        have HB6r := hide (own_chg HB5r.out hch (fun q hq h => by have := (HLO3.out q hq).2; omega))
        have HC6r := hide (own_chg HC5r.out hch (fun q hq h => by have := (HLO4.out q hq).2; omega))
        have G6 := hide (hch.heap G5.out (by omega))
        have GT6 := hide (hch.heap GT5.out (by omega))
        have HS56 := hide hch.size
        have d0 := cell_blk G6.out 0
        have d1 := cell_blk G6.out 1
        have d2 := cell_blk GT6.out 0
        have d3 := cell_blk GT6.out 1
        clear hch hown hX6 HM5
        go_wp2_with fail
        refine (tsame_any l l A1 A m c1 m c zs zs X6 (Reads.of_own HOC6.out) (HRT.out X6 HBw6.out) HM.out HM.out (by omega)).mono ?_
        rintro e X7 ⟨he, b7⟩
        obtain rfl : e = .returned (.bool true) := he.trans (ret_bool (by simp))
        have HBw7 := hide (HBw6.out.trans (b7.mono HBw6.out.size))
        have HOC7 := hide (own_below HOC6.out b7)
        have HL7 := hide (own_below HL6.out b7)
        have HB7r := hide (own_below HB6r.out b7)
        have HC7r := hide (own_below HC6r.out b7)
        have G7 := hide ((b7.block _ (lt_of_heap G6.out)).trans G6.out)
        have HS67 := hide b7.size
        clear b7 he d0 d1 d2 d3
        go_wp2_with fail
        refine (isame_any A2 B S.length c2 S.length cs S S X7 (Reads.of_own HL7.out) (HRS.out X7 HBw7.out) rfl rfl (by omega)).mono ?_
        rintro e X8 ⟨he, j8, rfl⟩
        obtain rfl : e = .returned (.bool true) := he.trans (ret_bool (by simp))
        clear he
        go_wp2_with fail
        refine (same_any (B := X7.heap.size) A3 A4 bs.length c3 bs.length c4 bs bs (X7.drewN j8) (Reads.of_own HB7r.out) (Reads.of_own HC7r.out) HBY.out HBY.out).mono ?_
        rintro e X9 ⟨he, rfl⟩
        obtain rfl : e = .returned (.bool true) := he.trans (ret_bool (by simp))
        clear he
        have h67 := HS67.out
        have h56 := HS56.out
        obtain ⟨X9, hX9⟩ : ∃ X9, X9 = X7.drewN j8 := ⟨_, rfl⟩
        have b9 : Below X7.heap.size X7 X9 := by rw [hX9]; exact below_drewN (Below.refl _ _) _
        rw [← hX9]
        have HBw9 := hide (HBw7.out.trans (b9.mono HBw7.out.size))
        have HOC9 := hide (own_below HOC7.out b9)
        have HL9 := hide (own_below HL7.out b9)
        have HB9r := hide (own_below HB7r.out b9)
        have HC9r := hide (own_below HC7r.out b9)
        have G9 := hide ((b9.block _ (lt_of_heap G7.out)).trans G7.out)
        clear hX9 b9
        go_wp2_with fail
        go_loopw [13] (fun iv wr => ∃ i : Nat, i ≤ bs.length ∧ iv = .int .i64 i ∧ Chg (fun q => w2.heap.size ≤ q ∧ q < w3.heap.size) X9 wr ∧ ∃ ys, wr.ownsRow w2.heap.size 5 1 (.slice A3 bs.length c3) bs.length ys) (fun iv _ => bs.length - (intOf iv).toNat)
        case atStart => exact ⟨0, Nat.zero_le _, rfl, Chg.refl _ _, _, HB9r.out⟩
        case round =>
          obtain ⟨i9, hi9, rfl, hch, ys, hown⟩ := hrel
          by_cases hlt9 : i9 < bs.length
          · obtain ⟨g8, cu, hA, hg4, _⟩ := hown.form (by omega)
            have hA' : A3 = some ⟨g8, 0, none⟩ := by injection hA
            have hgu := (HLO3.out g8 (by rw [hA']; rfl)).2
            subst hA'
            have hl := hown.1
            have a0 := hown.cellAt i9 (by omega)
            obtain ⟨r0, hr0⟩ : ∃ u, ys[i9]? = some u := ⟨_, List.getElem?_eq_getElem (by omega)⟩
            rw [hr0] at a0
            have f0 := hown.frozenAt i9
            have own1 := (hown.stored i9 (.int .u8 78)).1
            have hik : (i9 : Int) < (bs.length : Int) := by omega
            have HO1' := hide own1
            have HGG := hide (show w2.heap.size ≤ g8 ∧ g8 < w3.heap.size from ⟨hg4, hgu⟩)
            have HCH := hide hch
            clear hown own1 hl hr0 hg4 hA hch hgu
            go_wp2
            go_roundw
            case rel => exact ⟨i9 + 1, by omega, by go_num, HCH.out.setCell (.inl HGG.out) _, _, HO1'.out⟩
            case measure => simp [intOf]; omega
          · obtain rfl : i9 = bs.length := by omega
            have HBwa := hide (HBw9.out.trans (hch.below (B := w.heap.size) (fun q hq => by omega) HBw9.out.size))
            have HOCa := hide (own_chg HOC9.out hch (fun q hq h => by have := (HLO1.out q hq).2; omega))
            have HLa := hide (own_chg HL9.out hch (fun q hq h => by have := (HLO2.out q hq).2; omega))
            have HCa := hide (own_chg HC9r.out hch (fun q hq h => by have := (HLO4.out q hq).1; omega))
            have Ga := hide (hch.heap G9.out (by omega))
            have d0 := cell_blk Ga.out 0
            have d1 := cell_blk Ga.out 1
            clear hch hown
            go_wp2_with fail
            refine (HENC.out wr A1 A2 c1 c2 HCAP.out.1 HCAP.out.2 (Reads.of_own HOCa.out) (Reads.of_own HLa.out)).mono ?_
            rintro e Xb ⟨vb, rfl, hob, bb⟩
            obtain ⟨Ab, cb, rfl⟩ := own_form hob
            have HOb := hide hob
            have HCb := hide (own_below HCa.out bb)
            have HBwb := hide (HBwa.out.trans (bb.mono HBwa.out.size))
            clear bb hob d0 d1
            go_wp2_with fail
            refine (same_any (B := Xb.heap.size) A4 Ab bs.length c4 bs.length cb bs bs Xb (Reads.of_own HCb.out) (Reads.of_own HOb.out) HBY.out HBY.out).mono ?_
            rintro e Xc ⟨he, rfl⟩
            obtain rfl : e = .returned (.bool true) := he.trans (ret_bool (by simp))
            clear he
            go_wp2_with fail
            refine (HKN.out _).mono ?_
            rintro e Xd ⟨rfl, bd⟩
            have HBwd := hide (HBwb.out.trans (bd.mono HBwb.out.size))
            clear bd
            go_wp2
            go_ret
            exact ⟨rfl, HBwd.out⟩
  · have hlo := HO1.out.lt
    obtain ⟨W4, hW4⟩ : ∃ W4, W4 = ((w1.setCell ⟨W0.heap.size, 0, none⟩ (.int .i64 l)).setCell ⟨W0.heap.size, 1, none⟩ (.slice A1 m c1)) := ⟨_, rfl⟩
    have hG5 : W4.heap[W0.heap.size]? = some (.cells #[.int .i64 l, .slice A1 m c1] 24 (0, 0)) := by rw [hW4]; exact set_blk (set_blk H3.out 0 _) 1 _
    have hB4 : Below W0.heap.size W0.drew W4 := by rw [hW4]; exact (HBW1.out.setCell (Nat.le_refl _) _).setCell (Nat.le_refl _) _
    have hOC : W4.ownsRow W0.heap.size 3 1 (.slice A1 m c1) m (zs.map (Value.int .i64)) := by
      rw [hW4]
      exact own_base (ownsRow_setCell_other (ownsRow_setCell_other HO1.out (a := ⟨W0.heap.size, 0, none⟩) (fun h => by have h5 : W0.heap.size + 1 ≤ W0.heap.size := (hlo _ h).1; omega) _) (a := ⟨W0.heap.size, 1, none⟩) (fun h => by have h5 : W0.heap.size + 1 ≤ W0.heap.size := (hlo _ h).1; omega) _) (fun q hq => by have := (hlo q hq).1; omega)
    have hp5w : W0.heap.size ≤ W0.heap.size := Nat.le_refl _
    rw [← hW4]
    obtain ⟨p5, hp5⟩ : ∃ p5, p5 = W0.heap.size := ⟨_, rfl⟩
    have hp5w' : W0.heap.size ≤ p5 := by rw [hp5]; exact Nat.le_refl _
    rw [← hp5] at hG5 ⊢
    clear hp5w
    have hp5w := hp5w'
    clear hp5w' hlo
    have HB4 := hide ((Below.refl W0.heap.size W0).drew.trans hB4)
    have hg0 := (HB4.out.block _ lt0).trans HG0.out
    have q0 := cell_blk hG5 0
    have q1 := cell_blk hG5 1
    have HG5 := hide hG5
    have HOC := hide hOC
    have HG0' := hide hg0
    have HCAP := hide (own_capM hOC)
    have HPW := hide hp5w
    have lt4 : w.heap.size < W4.heap.size := lt_of_heap hg0
    have lt5 : p5 < W4.heap.size := lt_of_heap hG5
    have HSZ4 := hide HB4.out.size
    clear hW4 hp5 hg0 hG5 hOC hB4 hp5w k0 k1 HO1 HBW1 HGW HR1 HRD HST HST2 HXD HGZ H3 hi hz0 hz1 hz2 HUN HONE hsz1 hsz2 hne1 j0 j1 j0' j1'
    have hwl : w.heap.size ≤ W0.heap.size := Nat.le_of_lt lt0
    have HBw := hide (HB0.out.trans (HB4.out.mono HB0.out.size))
    have e0 := cell_blk HG5.out 0
    clear e0
    obtain ⟨i0, hi, hz0, hz1, hz2⟩ := info_parts info_int
    obtain ⟨i8, hi8, hy0, hy1, hy2⟩ := info_parts info_u8
    have HUN := hide Try.underlying22
    have HUB := hide Try.underlying25
    have hRS4 := HRS.out W4 HBw.out
    have HRS4 := hide hRS4
    clear hRS4
    go_wp2_with (at_builtin; refine wpList_append_any _ rfl (.const (.slice none 0 0)) (.tmp 32) _ rfl W4.heap.size 3 i0 _ 1 8 HUN.out hi hz0 hz1 hz2 rfl Nat.zero_lt_one (.slice none 0 0) 0 _ rfl (World.ownsRow_nil _ _ _ _) W4.heap.size B S.length cs _ rfl HRS4.out HSONE.out hlimS1 hlimS2 (Nat.le_refl _) ?_; intro v2 w2 hown2 hg2 hat2; rw [Nat.zero_add, List.nil_append] at hown2; have hb2 : Below W4.heap.size W4 w2 := (Below.refl _ W4).grown hg2 (Nat.le_refl _) (fun q hq => nomatch hq); have HO2 := hide hown2; have HB2' := hide hb2; have G2 := hide ((hb2.block _ lt5).trans HG5.out); have m0 := cell_blk G2.out 0; have m1 := cell_blk G2.out 1; clear hown2 hg2 hat2 hb2)
    obtain ⟨A2, c2, rfl⟩ := own_form HO2.out
    have HOC2 := hide (own_below HOC.out HB2'.out)
    have GT2 := hide ((HB2'.out.block _ lt4).trans HG0'.out)
    have HBw2 := hide (HBw.out.trans (HB2'.out.mono HBw.out.size))
    refine (HENC.out w2 A1 A2 c1 c2 HCAP.out.1 HCAP.out.2 (Reads.of_own HOC2.out) (Reads.of_own HO2.out)).mono ?_
    rintro e w3 ⟨v3, rfl, ho3, b3⟩
    obtain ⟨A3, c3, rfl⟩ := own_form ho3
    have HO3 := hide ho3
    have HOC3 := hide (own_below HOC2.out b3)
    have HL3 := hide (own_below HO2.out b3)
    have HBw3 := hide (HBw2.out.trans (b3.mono HBw2.out.size))
    have GT3 := hide ((b3.block _ (lt_of_heap GT2.out)).trans GT2.out)
    have G3 := hide ((b3.block _ (lt_of_heap G2.out)).trans G2.out)
    have HS23 := hide b3.size
    have n0 := cell_blk G3.out 0
    have n1 := cell_blk G3.out 1
    clear b3 ho3 m0 m1
    have hrb3 := Reads.of_own HO3.out
    have HRB3 := hide hrb3
    clear hrb3
    go_wp2_with (at_builtin; refine wpList_append_any _ rfl (.const (.slice none 0 0)) (.tmp 40) _ rfl w3.heap.size 5 i8 _ 1 1 HUB.out hi8 hy0 hy1 hy2 rfl Nat.zero_lt_one (.slice none 0 0) 0 _ rfl (World.ownsRow_nil _ _ _ _) w3.heap.size A3 bs.length c3 _ rfl HRB3.out HBONE.out hlimB1 hlimB2 (Nat.le_refl _) ?_; intro v4 w4 hown4 hg4 hat4; rw [Nat.zero_add, List.nil_append] at hown4; have hb4 : Below w3.heap.size w3 w4 := (Below.refl _ w3).grown hg4 (Nat.le_refl _) (fun q hq => nomatch hq); have HO4 := hide hown4; have HB4' := hide hb4; have G4 := hide ((hb4.block _ (lt_of_heap G3.out)).trans G3.out); have o0 := cell_blk G4.out 0; have o1 := cell_blk G4.out 1; clear hown4 hg4 hat4 hb4)
    obtain ⟨A4, c4, rfl⟩ := own_form HO4.out
    have GT4 := hide ((HB4'.out.block _ (lt_of_heap GT3.out)).trans GT3.out)
    have HOC4 := hide (own_below HOC3.out HB4'.out)
    have HL4 := hide (own_below HL3.out HB4'.out)
    have HB4r := hide (own_below HO3.out HB4'.out)
    have HBw4 := hide (HBw3.out.trans (HB4'.out.mono HBw3.out.size))
    have HS34 := hide HB4'.out.size
    clear n0 n1
    refine (HDEC.out w4 A1 A3 c1 c3 HCAP.out.1 HCAP.out.2 (Reads.of_own HOC4.out) (Reads.of_own HB4r.out)).mono ?_
    rintro e w5 ⟨v5, rfl, ho5, b5⟩
    obtain ⟨A5, c5, rfl⟩ := own_form ho5
    have HM5 := hide ho5
    have HBw5 := hide (HBw4.out.trans (b5.mono HBw4.out.size))
    have HOC5 := hide (own_below HOC4.out b5)
    have HL5 := hide (own_below HL4.out b5)
    have HB5r := hide (own_below HB4r.out b5)
    have HC5r := hide (own_below HO4.out b5)
    have G5 := hide ((b5.block _ (lt_of_heap G4.out)).trans G4.out)
    have GT5 := hide ((b5.block _ (lt_of_heap GT4.out)).trans GT4.out)
    have HS45 := hide b5.size
    have HLO1 := hide HOC.out.lt
    have HLO2 := hide HO2.out.lt
    have HLO3 := hide HO3.out.lt
    have HLO4 := hide HO4.out.lt
    have hs42 : W4.heap.size ≤ w2.heap.size := HB2'.out.size
    have hs23 := HS23.out
    have hs34 := HS34.out
    have hs45 := HS45.out
    clear b5 ho5 o0 o1
    have hp5l : p5 < w2.heap.size := lt_of_heap G2.out
    have htl : w.heap.size < w2.heap.size := lt_of_heap GT2.out
    have hwW : w.heap.size ≤ W4.heap.size := Nat.le_of_lt lt4
    go_wp2
    go_loopw [12] (fun iv wr => ∃ i : Nat, i ≤ S2.length ∧ iv = .int .i64 i ∧ Chg (fun q => w4.heap.size ≤ q) w5 wr ∧ ∃ ys, wr.ownsRow w4.heap.size 3 1 (.slice A5 S2.length c5) S2.length ys) (fun iv _ => S2.length - (intOf iv).toNat)
    case atStart => exact ⟨0, Nat.zero_le _, rfl, Chg.refl _ _, _, HM5.out⟩
    case round =>
      obtain ⟨i, hi, rfl, hch, ys, hown⟩ := hrel
      by_cases hlt : i < S2.length
      · obtain ⟨g8, cu, hA, hg4, _⟩ := hown.form (by omega)
        have hA' : A5 = some ⟨g8, 0, none⟩ := by injection hA
        subst hA'
        have hl := hown.1
        have a0 := hown.cellAt i (by omega)
        obtain ⟨r0, hr0⟩ : ∃ u, ys[i]? = some u := ⟨_, List.getElem?_eq_getElem (by omega)⟩
        rw [hr0] at a0
        have f0 := hown.frozenAt i
        have own1 := (hown.stored i (.int .i64 77)).1
        have hik : (i : Int) < (S2.length : Int) := by omega
        have HO1' := hide own1
        have HGG := hide hg4
        have HCH := hide hch
        clear hown own1 hl hr0 hg4 hA hch
        go_wp2
        go_roundw
        case rel => exact ⟨i + 1, by omega, by go_num, HCH.out.setCell (.inl HGG.out) _, _, HO1'.out⟩
        case measure => simp [intOf]; omega
      · obtain rfl : i = S2.length := by omega
        obtain ⟨X6, hX6⟩ : ∃ X6, X6 = wr := ⟨_, rfl⟩
        rw [← hX6] at hch ⊢
        have HBw6 := hide (HBw5.out.trans (hch.below (B := w.heap.size) (fun q hq => by omega) HBw5.out.size))
        have HOC6 := hide (own_chg HOC5.out hch (fun q hq h => by have := (HLO1.out q hq).2; omega))
        have HL6 := hide (own_chg HL5.out hch (fun q hq h => by have := (HLO2.out q hq).2; omega))
        have HB6r := hide (own_chg HB5r.out hch (fun q hq h => by have := (HLO3.out q hq).2; omega))
        have HC6r := hide (own_chg HC5r.out hch (fun q hq h => by have := (HLO4.out q hq).2; omega))
        have G6 := hide (hch.heap G5.out (by omega))
        have GT6 := hide (hch.heap GT5.out (by omega))
        have HS56 := hide hch.size
        have d0 := cell_blk G6.out 0
        have d1 := cell_blk G6.out 1
        have d2 := cell_blk GT6.out 0
        have d3 := cell_blk GT6.out 1
        clear hch hown hX6 HM5
        go_wp2_with fail
        refine (tsame_any l l A1 A m c1 m c zs zs X6 (Reads.of_own HOC6.out) (HRT.out X6 HBw6.out) HM.out HM.out (by omega)).mono ?_
        rintro e X7 ⟨he, b7⟩
        obtain rfl : e = .returned (.bool true) := he.trans (ret_bool (by simp))
        have HBw7 := hide (HBw6.out.trans (b7.mono HBw6.out.size))
        have HOC7 := hide (own_below HOC6.out b7)
        have HL7 := hide (own_below HL6.out b7)
        have HB7r := hide (own_below HB6r.out b7)
        have HC7r := hide (own_below HC6r.out b7)
        have G7 := hide ((b7.block _ (lt_of_heap G6.out)).trans G6.out)
        have HS67 := hide b7.size
        clear b7 he d0 d1 d2 d3
        go_wp2_with fail
        refine (isame_any A2 B S.length c2 S.length cs S S X7 (Reads.of_own HL7.out) (HRS.out X7 HBw7.out) rfl rfl (by omega)).mono ?_
        rintro e X8 ⟨he, j8, rfl⟩
        obtain rfl : e = .returned (.bool true) := he.trans (ret_bool (by simp))
        clear he
        go_wp2_with fail
        refine (same_any (B := X7.heap.size) A3 A4 bs.length c3 bs.length c4 bs bs (X7.drewN j8) (Reads.of_own HB7r.out) (Reads.of_own HC7r.out) HBY.out HBY.out).mono ?_
        rintro e X9 ⟨he, rfl⟩
        obtain rfl : e = .returned (.bool true) := he.trans (ret_bool (by simp))
        clear he
        have h67 := HS67.out
        have h56 := HS56.out
        obtain ⟨X9, hX9⟩ : ∃ X9, X9 = X7.drewN j8 := ⟨_, rfl⟩
        have b9 : Below X7.heap.size X7 X9 := by rw [hX9]; exact below_drewN (Below.refl _ _) _
        rw [← hX9]
        have HBw9 := hide (HBw7.out.trans (b9.mono HBw7.out.size))
        have HOC9 := hide (own_below HOC7.out b9)
        have HL9 := hide (own_below HL7.out b9)
        have HB9r := hide (own_below HB7r.out b9)
        have HC9r := hide (own_below HC7r.out b9)
        have G9 := hide ((b9.block _ (lt_of_heap G7.out)).trans G7.out)
        clear hX9 b9
        go_wp2_with fail
        go_loopw [13] (fun iv wr => ∃ i : Nat, i ≤ bs.length ∧ iv = .int .i64 i ∧ Chg (fun q => w2.heap.size ≤ q ∧ q < w3.heap.size) X9 wr ∧ ∃ ys, wr.ownsRow w2.heap.size 5 1 (.slice A3 bs.length c3) bs.length ys) (fun iv _ => bs.length - (intOf iv).toNat)
        case atStart => exact ⟨0, Nat.zero_le _, rfl, Chg.refl _ _, _, HB9r.out⟩
        case round =>
          obtain ⟨i9, hi9, rfl, hch, ys, hown⟩ := hrel
          by_cases hlt9 : i9 < bs.length
          · obtain ⟨g8, cu, hA, hg4, _⟩ := hown.form (by omega)
            have hA' : A3 = some ⟨g8, 0, none⟩ := by injection hA
            have hgu := (HLO3.out g8 (by rw [hA']; rfl)).2
            subst hA'
            have hl := hown.1
            have a0 := hown.cellAt i9 (by omega)
            obtain ⟨r0, hr0⟩ : ∃ u, ys[i9]? = some u := ⟨_, List.getElem?_eq_getElem (by omega)⟩
            rw [hr0] at a0
            have f0 := hown.frozenAt i9
            have own1 := (hown.stored i9 (.int .u8 78)).1
            have hik : (i9 : Int) < (bs.length : Int) := by omega
            have HO1' := hide own1
            have HGG := hide (show w2.heap.size ≤ g8 ∧ g8 < w3.heap.size from ⟨hg4, hgu⟩)
            have HCH := hide hch
            clear hown own1 hl hr0 hg4 hA hch hgu
            go_wp2
            go_roundw
            case rel => exact ⟨i9 + 1, by omega, by go_num, HCH.out.setCell (.inl HGG.out) _, _, HO1'.out⟩
            case measure => simp [intOf]; omega
          · obtain rfl : i9 = bs.length := by omega
            have HBwa := hide (HBw9.out.trans (hch.below (B := w.heap.size) (fun q hq => by omega) HBw9.out.size))
            have HOCa := hide (own_chg HOC9.out hch (fun q hq h => by have := (HLO1.out q hq).2; omega))
            have HLa := hide (own_chg HL9.out hch (fun q hq h => by have := (HLO2.out q hq).2; omega))
            have HCa := hide (own_chg HC9r.out hch (fun q hq h => by have := (HLO4.out q hq).1; omega))
            have Ga := hide (hch.heap G9.out (by omega))
            have d0 := cell_blk Ga.out 0
            have d1 := cell_blk Ga.out 1
            clear hch hown
            go_wp2_with fail
            refine (HENC.out wr A1 A2 c1 c2 HCAP.out.1 HCAP.out.2 (Reads.of_own HOCa.out) (Reads.of_own HLa.out)).mono ?_
            rintro e Xb ⟨vb, rfl, hob, bb⟩
            obtain ⟨Ab, cb, rfl⟩ := own_form hob
            have HOb := hide hob
            have HCb := hide (own_below HCa.out bb)
            have HBwb := hide (HBwa.out.trans (bb.mono HBwa.out.size))
            clear bb hob d0 d1
            go_wp2_with fail
            refine (same_any (B := Xb.heap.size) A4 Ab bs.length c4 bs.length cb bs bs Xb (Reads.of_own HCb.out) (Reads.of_own HOb.out) HBY.out HBY.out).mono ?_
            rintro e Xc ⟨he, rfl⟩
            obtain rfl : e = .returned (.bool true) := he.trans (ret_bool (by simp))
            clear he
            go_wp2_with fail
            refine (HKN.out _).mono ?_
            rintro e Xd ⟨rfl, bd⟩
            have HBwd := hide (HBwb.out.trans (bd.mono HBwb.out.size))
            clear bd
            go_wp2
            go_ret
            exact ⟨rfl, HBwd.out⟩
end Go.Proofs.Ytemiaagaggjbiaa
