/- states.New walked. -/
import Derived.Test.YtohgnohifojdbaaSt3
namespace Go.Proofs.Ytohgnohifojdbaa
set_option maxRecDepth 8000
open Go.RowKit Go
set_option linter.unusedVariables false

theorem info_ints : (Try.prog.info? 24).map (fun i => (i.zero, i.size, i.bytes)) = some (some (.slice none 0 0), 1, 24) := by kernel_rfl

set_option maxRecDepth 8000 in
set_option maxHeartbeats 4000000 in
theorem new_bad (l : Int) (A : Option Addr) (m c : Nat) (zs : List Int) (w : World) (hm : zs.length = m) (hr : Reads w w.heap.size 1 A m (zs.map (Value.int .i64))) (hok : ∀ z ∈ zs, (Lit.int .i64 z).wf = true) (hc : m ≤ c) (hc' : c ≤ maxLen) (hT : ¬ okT l zs) :
    Calls Try.prog 31 #[.agg #[.int .i64 l, .slice A m c]] w fun e w' => e = .returned (.tuple #[.pointer none, .int .i64 13]) ∧ Below w.heap.size w w' := by
  obtain ⟨W0, hW0⟩ : ∃ W0, W0 = w.alloc (.cells #[.int .i64 l, .slice A m c] 28 (0, 0)) := ⟨_, rfl⟩
  have g1 : W0.heap[w.heap.size]? = some (.cells #[.int .i64 l, .slice A m c] 28 (0, 0)) := by rw [hW0]; exact heap_alloc_new w _
  have b0 : Below w.heap.size w W0 := by rw [hW0]; exact (Below.refl w.heap.size w).alloc (Nat.le_refl _) _
  have HBB := hide (build_bad l A m c zs W0 hm ((hr.below b0).more b0.size) hok hc hc' hT)
  have k00 := cell_blk g1 0
  have k01 := cell_blk g1 1
  have HB0 := hide b0
  have HW0 := hide hW0
  clear b0 hW0 g1 hr hok hc hc' hm hT
  go_enter Try.func31, Try.ntmps31
  go_wp2_with fail
  try rw [← HW0.out]
  go_wp2_with fail
  refine HBB.out.mono ?_
  rintro e W1 ⟨rfl, b1⟩
  have HB1 := hide (HB0.out.trans (b1.mono HB0.out.size))
  clear b1
  go_wp2
  go_ret2
  exact ⟨rfl, HB1.out⟩

set_option maxRecDepth 8000 in
set_option maxHeartbeats 8000000 in
theorem new_ok (l : Nat) (A : Option Addr) (m c : Nat) (zs : List Int) (w : World) (hm : zs.length = m) (hr : Reads w w.heap.size 1 A m (zs.map (Value.int .i64))) (hok : ∀ z ∈ zs, (Lit.int .i64 z).wf = true) (hc : m ≤ c) (hc' : c ≤ maxLen) (hT : okT (l : Int) zs) :
    Calls Try.prog 31 #[.agg #[.int .i64 (l : Int), .slice A m c]] w fun e w' =>
      ∃ g, e = .returned (.tuple #[.pointer (some ⟨g, 0, none⟩), .int .i64 0]) ∧ CoR w' g l zs ∧ w.heap.size ≤ g ∧ Below w.heap.size w w' := by
  obtain ⟨i0, hi, hz0, hz1, hz2⟩ := info_parts info_ints
  obtain ⟨W0, hW0⟩ : ∃ W0, W0 = w.alloc (.cells #[.int .i64 (l : Int), .slice A m c] 28 (0, 0)) := ⟨_, rfl⟩
  have g1 : W0.heap[w.heap.size]? = some (.cells #[.int .i64 (l : Int), .slice A m c] 28 (0, 0)) := by rw [hW0]; exact heap_alloc_new w _
  have b0 : Below w.heap.size w W0 := by rw [hW0]; exact (Below.refl w.heap.size w).alloc (Nat.le_refl _) _
  have hs0 : W0.heap.size = w.heap.size + 1 := by rw [hW0]; simp
  have HBU := hide (build_ok l A m c zs W0 hm ((hr.below b0).more b0.size) hok hc hc' hT)
  have HPOS := hide (fun (s : Nat) W hr => positions_any l A m c zs s W hm hr hok hc hc' hT)
  have hm256 : m ≤ 256 := by have := hT.2.1; omega
  have k00 := cell_blk g1 0
  have k01 := cell_blk g1 1
  have HB0 := hide b0
  have HW0 := hide hW0
  have HR := hide hr
  have HM := hide hm
  have HG1 := hide g1
  have HS0 := hide hs0
  clear b0 hW0 g1 hr hok hc hc' hm hT hs0
  go_enter Try.func31, Try.ntmps31
  go_wp2_with fail
  try rw [← HW0.out]
  go_wp2_with fail
  refine HBU.out.mono ?_
  rintro e W1 ⟨v1, rfl, ho1, b1⟩
  obtain ⟨A1, c1, rfl⟩ := own_form ho1
  have g2 := (b1.block _ (by have := HS0.out; omega)).trans HG1.out
  have HB1 := hide (HB0.out.trans (b1.mono HB0.out.size))
  have hs1 : w.heap.size < W1.heap.size := by have := HS0.out; have := b1.size; omega
  obtain ⟨W2, hW2⟩ : ∃ W2, W2 = W1.alloc (.cells #[.slice A1 (2 ^ l) c1, .slice none 0 0] 117 (0, 0)) := ⟨_, rfl⟩
  have hn0 : NewI W2 w.heap.size W1.heap.size l zs 0 A1 c1 none 0 [] := by
    rw [hW2]
    exact ⟨heap_alloc_new W1 _, Nat.le_of_lt hs1, own_base (ho1.alloc _) (fun q hq => by have := (ho1.lt q hq).1; have := HS0.out; omega), World.ownsRow_nil _ _ _ _, fun s hs => absurd hs (by omega)⟩
  have g3 : W2.heap[w.heap.size]? = some (.cells #[.int .i64 (l : Int), .slice A m c] 28 (0, 0)) := by rw [hW2]; exact alloc_far g2 _
  have HB2 : Hid (Below w.heap.size w W2) := by rw [hW2]; exact HB1.out.alloc HB1.out.size _
  have q0 := cell_blk g3 0
  have q1 := cell_blk g3 1
  have HW2 := hide hW2
  have q1w : (W1.alloc (.cells #[.slice A1 (2 ^ l) c1, .slice none 0 0] 117 (0, 0))).cell? ⟨w.heap.size, 1, none⟩ = some (.slice A m c) := by rw [← hW2]; exact q1
  obtain ⟨g, hg⟩ : ∃ g, g = W1.heap.size := ⟨_, rfl⟩
  have HGQ := hide hg
  rw [← hg] at hn0 hs1
  have HN0 := hide hn0
  have HG3 := hide g3
  have HGL := hide hs1
  clear b1 ho1 g2 hn0 g3 hW2 hg k00 k01 HBU HB0 HW0 HG1 HS0 hs1
  go_wp2_with fail
  try rw [← HW2.out]
  try rw [← HGQ.out]
  clear q1w
  go_loopw [24] (fun iv wr => ∃ k : Nat, k ≤ m ∧ iv = .int .i64 k ∧ (∃ P cP vals, NewI wr w.heap.size g l zs k A1 c1 P cP vals) ∧ wr.heap[w.heap.size]? = some (.cells #[.int .i64 (l : Int), .slice A m c] 28 (0, 0)) ∧ Below w.heap.size w wr) (fun iv _ => m - (intOf iv).toNat)
  case atStart => exact ⟨0, Nat.zero_le _, rfl, ⟨_, _, _, HN0.out⟩, HG3.out, HB2.out⟩
  case round =>
    obtain ⟨k, hk, rfl, ⟨P, cP, vals, hni⟩, y1, hb⟩ := hrel
    have p0 := cell_blk y1 0
    have p1 := cell_blk y1 1
    have HNI := hide hni
    have HY1 := hide y1
    have HB := hide hb
    by_cases hlt : k < m
    · have hkm : (k : Int) < (m : Int) := by omega
      have hpos := HPOS.out k wr ((HR.out.below hb).more hb.size)
      have HP := hide hpos
      clear hni y1 hb hpos q0 q1
      go_wp2_with fail
      refine HP.out.mono ?_
      rintro e w1 ⟨v2, rfl, ho2, b2⟩
      obtain ⟨A2, c2, rfl⟩ := own_form ho2
      have hni1 := HNI.out.below b2
      have hgc := hni1.1
      have r1 : w1.cell? ⟨g, 1, none⟩ = some (.slice P k cP) := cell_blk hgc 1
      have hltg := lt_of_heap hgc
      have HO2 := hide (own_base ho2 (base' := w.heap.size) (fun q hq => by have := (ho2.lt q hq).1; have := HB.out.size; omega))
      have HB3 := hide (HB.out.trans (b2.mono HB.out.size))
      have HY3 := hide ((b2.block _ (lt_of_heap HY1.out)).trans HY1.out)
      have HNI1 := hide hni1
      have HPO := hide hni1.2.2.2.1
      have HPG := hide (own_blk_ne hni1.2.2.2.1 hgc (by decide))
      have HGC := hide hgc
      obtain ⟨N, hN⟩ : ∃ N, N = (posZ (spreadL (2 ^ l) zs) (k : Int) (2 ^ l)).length := ⟨_, rfl⟩
      rw [← hN] at HO2 ⊢
      have HNN := hide hN
      clear ho2 b2 hni1 hgc HP HNI HY1 HB p0 p1 hN
      go_wp2_with (at_builtin; refine wpList_append_any _ rfl (.tmp 37) (.tmp 39) _ rfl w.heap.size 24 i0 _ 1 24 Try.underlying115 hi hz0 hz1 hz2 rfl Nat.zero_lt_one (.slice P k cP) k _ rfl (HPO.out.alloc _) (w1.heap.size + 1) (some ⟨w1.heap.size, 0, none⟩) 1 1 [.slice A2 N c2] rfl (reads_new w1 _ _) (by simp [Value.oneCell']) (by unfold maxLen; omega) (by omega) (by have := HB3.out.size; simp; omega) ?_; intro v3 w3 hown3 hg3 hat3; obtain ⟨A4, c4, rfl⟩ := own_form hown3; have h3 := (hg3.block g (by simp; omega) (fun e => HPG.out e.symm)).trans (alloc_far HGC.out _); have m0 : w3.cell? ⟨g, 1, none⟩ = some (.slice P k cP) := cell_blk h3 1; have m1 := frozen_blk h3 1; have HOW := hide hown3; have HGR := hide hg3; clear hown3 hg3 hat3 h3)
      go_roundw
      case rel =>
        have hst := HNI1.out.step HNN.out HO2.out HGR.out HOW.out
        refine ⟨k + 1, by omega, by go_num, ⟨_, _, _, hst⟩, ?_, ?_⟩
        · have hP := HPO.out.lt
          have hty := own_blk_ne HPO.out HY3.out (by decide)
          exact set_far ((HGR.out.block _ (by simp; have := lt_of_heap HY3.out; omega) (fun e => hty e.symm)).trans (alloc_far HY3.out _)) (by show w.heap.size ≠ g; have := HGL.out; omega) _
        · exact ((HB3.out.alloc HB3.out.size _).grown HGR.out (by have := HB3.out.size; simp; omega) (fun q hq => (HPO.out.lt q hq).1)).setCell (by show w.heap.size ≤ g; have := HGL.out; omega) _
      case measure => simp [intOf]; omega
    · obtain rfl : m = k := by omega
      have hco : CoR wr g l zs := by
        have h := hni
        rw [← HM.out] at h
        exact h.coder
      have HCO := hide hco
      clear hni y1 hb hco
      go_wp2
      go_ret2
      exact ⟨_, rfl, HCO.out, by have := HGL.out; omega, HB.out⟩
end Go.Proofs.Ytohgnohifojdbaa
