/- cells.Build and portmanteauref09.Of side by side, for any table; portmanteaulaw09.CellsTell walked. -/
import Derived.Test.YtlbpefahhecbnaaCeJ
import Derived.Test.YtlbpefahhecbnaaCeB
namespace Go.Proofs.Ytlbpefahhecbnaa
open Go.RowKit Go
set_option linter.unusedVariables false

theorem buildL_length (l : Nat) (zs : List Int) : (buildL l zs).length = 2 ^ l := by simp [buildL]

/-- What Build and the reference answer for a table: the same cells, the same error. -/
theorem tab_any (l : Int) (zs : List Int) (hok : ∀ z ∈ zs, (Lit.int .i64 z).wf = true) : ∃ (cs : List CellT) (E : Int), cs.length ≤ 512 ∧ ((okT l zs ∧ E = 0 ∧ ∃ L : Nat, l = (L : Int) ∧ L ≤ 9 ∧ cs = buildL L zs) ∨ (¬ okT l zs ∧ E = 13 ∧ cs = [])) ∧
    ∀ (A : Option Addr) (m c : Nat) (w : World), zs.length = m → Reads w w.heap.size 1 A m (zs.map (Value.int .i64)) → m ≤ c → c ≤ maxLen →
      (Calls Try.prog 12 #[.agg #[.int .i64 l, .slice A m c]] w fun e w' => ∃ v, e = .returned (.tuple #[v, .int .i64 E]) ∧ w'.ownsRow w.heap.size 36 3 v cs.length (cellsV cs) ∧ Below w.heap.size w w') ∧
      (Calls Try.prog 13 #[.agg #[.int .i64 l, .slice A m c]] w fun e w' => ∃ v, e = .returned (.tuple #[v, .int .i64 E]) ∧ w'.ownsRow w.heap.size 36 3 v cs.length (cellsV cs) ∧ Below w.heap.size w w') := by
  by_cases hT : okT l zs
  · obtain ⟨L, rfl⟩ := Int.eq_ofNat_of_zero_le hT.1.1
    have hL : L ≤ 9 := by have := hT.1; omega
    have hS2 : 2 ^ L ≤ 2 ^ 9 := Nat.pow_le_pow_right (by omega) hL
    have h29 : (2 : Nat) ^ 9 = 512 := by decide
    refine ⟨buildL L zs, 0, by rw [buildL_length]; omega, .inl ⟨hT, rfl, L, rfl, hL, rfl⟩, fun A m c w hm hr hc hc' => ?_⟩
    rw [buildL_length]
    exact ⟨build_ok L A m c zs w hm hr hok hc hc' hT, ref9_ok L A m c zs w hm hr hok hc hc' hT⟩
  · refine ⟨[], 13, by simp, .inr ⟨hT, rfl, rfl⟩, fun A m c w hm hr hc hc' => ⟨?_, ?_⟩⟩
    · exact (build_bad l A m c zs w hm hr hok hc hc' hT).mono fun e w' ⟨he, hb⟩ => ⟨_, he, World.ownsRow_nil _ _ _ _, hb⟩
    · exact (ref9_bad l A m c zs w hm hr hok hc hc' hT).mono fun e w' ⟨he, hb⟩ => ⟨_, he, World.ownsRow_nil _ _ _ _, hb⟩

set_option maxHeartbeats 4000000 in
theorem walk_CellsTell {w : World} (l : Int) (A : Option Addr) (m c : Nat) (zs : List Int) (wl : (Lit.int .i64 l).wf = true) (hm : zs.length = m) (hr : Reads w w.heap.size 1 A m (zs.map (Value.int .i64))) (hok : ∀ z ∈ zs, (Lit.int .i64 z).wf = true) (hc' : c ≤ maxLen) (hc : m ≤ c) :
    Calls Try.prog 3 #[.agg #[.int .i64 l, .slice A m c]] w fun e w' => e = .returned (.bool true) ∧ Below w.heap.size w w' := by
  have HKN := hide known_any
  obtain ⟨W0, hW0⟩ : ∃ W0, W0 = w.alloc (.cells #[.int .i64 l, .slice A m c] 24 (0, 0)) := ⟨_, rfl⟩
  have g1 : W0.heap[w.heap.size]? = some (.cells #[.int .i64 l, .slice A m c] 24 (0, 0)) := by rw [hW0]; exact heap_alloc_new w _
  have b0 : Below w.heap.size w W0 := by rw [hW0]; exact (Below.refl w.heap.size w).alloc (Nat.le_refl _) _
  have hs0 : W0.heap.size = w.heap.size + 1 := by rw [hW0]; simp
  have k00 := cell_blk g1 0
  have k01 := cell_blk g1 1
  have HB0 := hide b0
  have HW0 := hide hW0
  have HR := hide (hr.below b0)
  have HG1 := hide g1
  have HS0 := hide hs0
  clear b0 hW0 hr g1 hs0 wl
  by_cases hbig : 600 < m
  · have hb' : (600 : Int) < (m : Int) := by omega
    go_enter Try.func3, Try.ntmps3
    go_wp2_with fail
    try rw [← HW0.out]
    go_wp2_with fail
    refine (HKN.out _).mono ?_
    rintro e W ⟨rfl, b⟩
    have HB1 := hide (HB0.out.trans (b.mono HB0.out.size))
    clear b
    go_wp2
    go_ret
    exact ⟨rfl, HB1.out⟩
  · have hb' : ¬ (600 : Int) < (m : Int) := by omega
    obtain ⟨cs, E, hcs, hE, htab⟩ := tab_any l zs hok
    have HBU := hide (htab A m c W0 hm (HR.out.more HB0.out.size) hc hc').1
    have HTAB := hide (fun W hr => (htab A m c W hm hr hc hc').2)
    have hEw : IntKind.i64.wrap E = E := by rcases hE with ⟨_, rfl, _⟩ | ⟨_, rfl, _⟩ <;> decide
    have hEE : (E == E) = true := by simp
    clear htab hE hm hok hc hc'
    go_enter Try.func3, Try.ntmps3
    go_wp2_with fail
    try rw [← HW0.out]
    go_wp2_with fail
    refine HBU.out.mono ?_
    rintro e W1 ⟨v1, rfl, ho1, b1⟩
    obtain ⟨A1, c1, rfl⟩ := own_form ho1
    have g2 := (b1.block _ (by have := HS0.out; omega)).trans HG1.out
    have k10 := cell_blk g2 0
    have k11 := cell_blk g2 1
    have HB1 := hide (HB0.out.trans (b1.mono HB0.out.size))
    have HR1 := hide ((HR.out.below (b1.mono HB0.out.size)).more HB1.out.size)
    have HO1 := hide ho1
    clear b1 ho1 g2 k00 k01
    go_wp2_with fail
    refine (HTAB.out _ HR1.out).mono ?_
    rintro e W2 ⟨v2, rfl, ho2, b2⟩
    obtain ⟨A2, c2, rfl⟩ := own_form ho2
    have HB2 := hide (HB1.out.trans (b2.mono HB1.out.size))
    have HO2 := hide ho2
    have HO3 := hide (own_below HO1.out b2)
    have HCS := hide hcs
    clear b2 ho2 hcs k10 k11
    go_wp2_with fail
    refine (csame_any A1 A2 cs.length c1 cs.length c2 cs cs W2 (Reads.of_own HO3.out) (Reads.of_own HO2.out) rfl rfl (by have := HCS.out; omega)).mono ?_
    rintro e W3 ⟨he, j3, hj3⟩
    obtain rfl : e = .returned (.bool true) := he.trans (ret_bool (by simp))
    have HB3 : Hid (Below w.heap.size w W3) := by rw [hj3]; exact HB2.out.trans (below_drewN (Below.refl _ _) _)
    clear hj3 he
    go_wp2_with fail
    refine (HKN.out _).mono ?_
    rintro e W4 ⟨rfl, b4⟩
    have HB4 := hide (HB3.out.trans (b4.mono HB3.out.size))
    clear b4
    go_wp2
    go_ret
    exact ⟨rfl, HB4.out⟩
end Go.Proofs.Ytlbpefahhecbnaa
