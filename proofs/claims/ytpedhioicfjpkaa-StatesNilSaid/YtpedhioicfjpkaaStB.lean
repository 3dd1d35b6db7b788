/- states.Coder.Next, portmanteauref10.Cells; portmanteaulaw10.StatesNext walked. -/
import Derived.Test.YtpedhioicfjpkaaSt8
namespace Go.Proofs.Ytpedhioicfjpkaa
open Go.RowKit Go Go.Shelf
set_option linter.unusedVariables false

set_option maxHeartbeats 1000000 in
theorem nextm_ok {W : World} {g L s : Nat} {t : CellT} {zs : List Int} (h : CoR W g L zs) (hs : s < 2 ^ L) (ht : (buildL L zs)[s]? = some t) (v : Nat) (hv : v < 2 ^ 64) :
    Calls Try.prog 25 #[.pointer (some ⟨g, 0, none⟩), .int .i64 (s : Int), .int .u64 (v : Int)] W fun e w' => e = .returned (.tuple #[.int .i64 (wrap64 (t.2.2 + ((v % 2 ^ clampN t.2.1 : Nat) : Int))), .int .i64 0]) ∧ Below W.heap.size W w' := by
  have HC := hide (cellm_ok h hs ht)
  have HN := hide (fun W => next_any t.1 t.2.1 t.2.2 v W hv)
  obtain ⟨x, y, z⟩ := t
  obtain ⟨r, hr⟩ : ∃ r, r = wrap64 (z + ((v % 2 ^ clampN y : Nat) : Int)) := ⟨_, rfl⟩
  simp only at HC HN ⊢
  rw [← hr] at HN ⊢
  clear h hs ht hv hr
  go_enter Try.func25, Try.ntmps25
  go_wp2_with fail
  refine HC.out.mono ?_
  rintro e W1 ⟨rfl, b1⟩
  obtain ⟨W2, hW2⟩ : ∃ W2, W2 = W1.alloc (.cells #[.int .i64 x, .int .i64 y, .int .i64 z] 53 (0, 0)) := ⟨_, rfl⟩
  have hg2 : W2.heap[W1.heap.size]? = some (.cells #[.int .i64 x, .int .i64 y, .int .i64 z] 53 (0, 0)) := by rw [hW2]; exact heap_alloc_new W1 _
  have HB2 : Hid (Below W.heap.size W W2) := by rw [hW2]; exact b1.alloc b1.size _
  have q0 := cell_blk hg2 0
  have q1 := cell_blk hg2 1
  have q2 := cell_blk hg2 2
  rw [hW2] at q0 q1 q2
  have HW2 := hide hW2
  clear hg2 hW2 b1 HC
  go_wp2_with fail
  try rw [← HW2.out]
  refine (HN.out _).mono ?_
  rintro e W3 ⟨rfl, b3⟩
  have HB3 := hide (HB2.out.trans (b3.mono HB2.out.size))
  clear b3
  go_wp2
  go_ret2
  exact ⟨rfl, HB3.out⟩

theorem nextm_bad {W : World} {g L : Nat} {st : Int} {zs : List Int} (h : CoR W g L zs) (hs : st < 0 ∨ (¬ st < 0 ∧ ((2 ^ L : Nat) : Int) ≤ st)) (v : Int) :
    Calls Try.prog 25 #[.pointer (some ⟨g, 0, none⟩), .int .i64 st, .int .u64 v] W fun e w' => e = .returned (.tuple #[.int .i64 0, .int .i64 21]) ∧ Below W.heap.size W w' := by
  have HC := hide (cellm_bad h hs)
  clear h hs
  go_enter Try.func25, Try.ntmps25
  go_wp2_with fail
  refine HC.out.mono ?_
  rintro e W1 ⟨rfl, b1⟩
  have HB2 := hide (b1.alloc b1.size (.cells #[.int .i64 0, .int .i64 0, .int .i64 0] 53 (0, 0)))
  clear b1 HC
  go_wp2
  go_ret2
  exact ⟨rfl, HB2.out⟩

theorem cells10_any (l : Nat) (A : Option Addr) (m c : Nat) (zs : List Int) (w : World) (hm : zs.length = m) (hr : Reads w w.heap.size 1 A m (zs.map (Value.int .i64))) (hok : ∀ z ∈ zs, (Lit.int .i64 z).wf = true) (hc : m ≤ c) (hc' : c ≤ maxLen) (hT : okT (l : Int) zs) :
    Calls Try.prog 14 #[.agg #[.int .i64 (l : Int), .slice A m c]] w fun e w' => ∃ v, e = .returned v ∧ w'.ownsRow w.heap.size 53 3 v (2 ^ l) (cellsV (buildL l zs)) ∧ Below w.heap.size w w' := by
  obtain ⟨W0, hW0⟩ : ∃ W0, W0 = w.alloc (.cells #[.int .i64 (l : Int), .slice A m c] 24 (0, 0)) := ⟨_, rfl⟩
  have g1 : W0.heap[w.heap.size]? = some (.cells #[.int .i64 (l : Int), .slice A m c] 24 (0, 0)) := by rw [hW0]; exact heap_alloc_new w _
  have b0 : Below w.heap.size w W0 := by rw [hW0]; exact (Below.refl w.heap.size w).alloc (Nat.le_refl _) _
  have HNW := hide (ref9_ok l A m c zs W0 hm ((hr.below b0).more b0.size) hok hc hc' hT)
  have k00 := cell_blk g1 0
  have k01 := cell_blk g1 1
  have HB0 := hide b0
  have HW0 := hide hW0
  clear b0 hW0 g1 hr hok hc hc' hm hT
  go_enter Try.func14, Try.ntmps14
  go_wp2_with fail
  try rw [← HW0.out]
  go_wp2_with fail
  refine HNW.out.mono ?_
  rintro e w1 ⟨v, rfl, ho, b1⟩
  have HO := hide (own_base ho (base' := w.heap.size) (fun q hq => by have := (ho.lt q hq).1; have := HB0.out.size; omega))
  have HB1 := hide (HB0.out.trans (b1.mono HB0.out.size))
  clear ho b1
  go_wp2
  go_ret
  exact ⟨_, rfl, HO.out, HB1.out⟩

set_option maxRecDepth 4000 in
set_option maxHeartbeats 8000000 in
theorem walk_StatesNext {w : World} (l : Int) (A : Option Addr) (m c : Nat) (zs : List Int) (wl : (Lit.int .i64 l).wf = true) (hm : zs.length = m) (hr : Reads w w.heap.size 1 A m (zs.map (Value.int .i64))) (hok : ∀ z ∈ zs, (Lit.int .i64 z).wf = true) (hc' : c ≤ maxLen) (hc : m ≤ c) (st : Int) (ws : (Lit.int .i64 st).wf = true) (v : Int) (wv : (Lit.int .u64 v).wf = true) :
    Calls Try.prog 9 #[.agg #[.int .i64 l, .slice A m c], .int .i64 st, .int .u64 v] w fun e w' => e = .returned (.bool true) ∧ Below w.heap.size w w' := by
  obtain ⟨hv0, hv1⟩ := bounds_u64 wv
  obtain ⟨v, rfl⟩ := Int.eq_ofNat_of_zero_le hv0
  have hv2 : v < 2 ^ 64 := by have : (2 : Nat) ^ 64 = 18446744073709551616 := by decide
                              omega
  have HV := hide hv2
  have HKN := hide known_any
  obtain ⟨W0, hW0⟩ : ∃ W0, W0 = w.alloc (.cells #[.int .i64 l, .slice A m c] 24 (0, 0)) := ⟨_, rfl⟩
  have g1 : W0.heap[w.heap.size]? = some (.cells #[.int .i64 l, .slice A m c] 24 (0, 0)) := by rw [hW0]; exact heap_alloc_new w _
  have b0 : Below w.heap.size w W0 := by rw [hW0]; exact (Below.refl w.heap.size w).alloc (Nat.le_refl _) _
  have hs0 : W0.heap.size = w.heap.size + 1 := by rw [hW0]; simp
  have k00 := cell_blk g1 0
  have k01 := cell_blk g1 1
  have HB0 := hide b0
  have HW0 := hide hW0
  have HR := hide ((hr.below b0).more b0.size)
  have HG1 := hide g1
  have HS0 := hide hs0
  clear b0 hW0 hr g1 hs0 wl ws wv hv0 hv1 hv2
  by_cases hbig : 300 < m
  · have hb' : (300 : Int) < (m : Int) := by omega
    go_enter Try.func9, Try.ntmps9
    go_wp2_with fail
    try rw [← HW0.out]
    go_wp2_with fail
    refine (HKN.out _).mono ?_
    rintro e W ⟨rfl, b⟩
    have HB1 := hide (HB0.out.trans (b.mono HB0.out.size))
    clear b
    go_wp2
    go_ret
    exact ⟨rfl, HB1.out⟩
  have hb' : ¬ (300 : Int) < (m : Int) := by omega
  have HMAY := hide (may_any 9 l A m c zs W0 (.inl rfl) hm HR.out hok hc hc')
  by_cases hT : okT l zs
  · obtain ⟨L, rfl⟩ := Int.eq_ofNat_of_zero_le hT.1.1
    have HBG := hide (fun W hr => begin_ok L A m c zs W hm hr hok hc hc' hT)
    have HCE := hide (fun W hr => cells10_any L A m c zs W hm hr hok hc hc' hT)
    have HNB := hide (fun (W : World) (g : Nat) (h : CoR W g L zs) hs => nextm_bad (st := st) h hs (v : Int))
    have HNO := hide (fun (W : World) (g s : Nat) (t : CellT) (h : CoR W g L zs) hs ht => nextm_ok (s := s) (t := t) h hs ht v HV.out)
    have HRN := hide (fun (t : CellT) W => rnext_any t.1 t.2.1 t.2.2 v W HV.out)
    have hbl : (buildL L zs).length = 2 ^ L := by simp [buildL]
    obtain ⟨S, hS⟩ : ∃ S, S = 2 ^ L := ⟨_, rfl⟩
    rw [← hS] at HCE HNB HNO hbl
    have HBL := hide hbl
    have HT := hide hT
    clear hT hm hok hc hc' hbl hS
    go_enter Try.func9, Try.ntmps9
    go_wp2_with fail
    try rw [← HW0.out]
    go_wp2_with fail
    refine HMAY.out.mono ?_
    rintro e W1 ⟨he, b1⟩
    obtain rfl : e = .returned (.int .i64 0) := he.elim (fun h => h.2) (fun h => absurd HT.out h.1)
    have g2 := (b1.block _ (by have := HS0.out; omega)).trans HG1.out
    have k10 := cell_blk g2 0
    have k11 := cell_blk g2 1
    have HG2 := hide g2
    have HB1 := hide (HB0.out.trans (b1.mono HB0.out.size))
    have HR1 := hide ((HR.out.below b1).more b1.size)
    have HS1 := hide (show w.heap.size < W1.heap.size by have := HS0.out; have := b1.size; omega)
    clear b1 g2 he k00 k01 HG1 HR HB0 HW0 HS0
    go_wp2_with fail
    refine (HBG.out _ HR1.out).mono ?_
    rintro e W2 ⟨g, rfl, hco, _, b2⟩
    have g3 := (b2.block _ HS1.out).trans HG2.out
    have HG3 := hide g3
    have HB2 := hide (HB1.out.trans (b2.mono HB1.out.size))
    have HR2 := hide ((HR1.out.below b2).more b2.size)
    have HCO2 := hide hco
    have HS2 := hide (show w.heap.size < W2.heap.size by have := HS1.out; have := b2.size; omega)
    clear b2 g3 hco k10 k11 HG2 HR1 HB1 HS1 HBG
    by_cases hin : 0 ≤ st ∧ st < (S : Int)
    · obtain ⟨s, rfl⟩ := Int.eq_ofNat_of_zero_le hin.1
      have hsS : s < S := by omega
      obtain ⟨t, ht⟩ : ∃ t, (buildL L zs)[s]? = some t := ⟨_, List.getElem?_eq_getElem (by have := HBL.out; omega)⟩
      have hno := HNO.out W2 g s t HCO2.out hsS ht
      have hrn := HRN.out t
      obtain ⟨x, y, z⟩ := t
      simp only at hno hrn
      obtain ⟨r, hr⟩ : ∃ r, r = wrap64 (z + ((v % 2 ^ clampN y : Nat) : Int)) := ⟨_, rfl⟩
      rw [← hr] at hno hrn
      have HN := hide hno
      have HRR := hide hrn
      have HTT := hide ht
      have t1 : ¬ (s : Int) < 0 := by omega
      have t2 : ¬ (S : Int) ≤ (s : Int) := by omega
      have t3 : (s : Int) < (S : Int) := by omega
      have hrr : (r == r) = true := by simp
      clear hin hno hrn ht hr HNB HNO HRN
      go_wp2_with fail
      refine HN.out.mono ?_
      rintro e W3 ⟨rfl, b3⟩
      have g4 := (b3.block _ HS2.out).trans HG3.out
      have k30 := cell_blk g4 0
      have k31 := cell_blk g4 1
      have HB3 := hide (HB2.out.trans (b3.mono HB2.out.size))
      have HR3 := hide ((HR2.out.below b3).more b3.size)
      clear b3 g4 HN HG3 HR2 HB2
      go_wp2_with fail
      refine (HCE.out _ HR3.out).mono ?_
      rintro e W4 ⟨v4, rfl, ho4, b4⟩
      obtain ⟨A4, c4, rfl⟩ := own_form ho4
      have HB4 := hide (HB3.out.trans (b4.mono HB3.out.size))
      obtain ⟨b5, o5, x', y', z', hA5, hb5, c1', c2', c3', hx⟩ := cell_cells (Reads.of_own ho4) HBL.out.symm hsS
      subst hA5
      rw [HTT.out] at hx
      injection hx with hx
      injection hx with e1 e2
      injection e2 with e2 e3
      subst e1 e2 e3
      clear ho4 b4 k30 k31 HR3 HB3 HTT
      go_wp2_with fail
      refine (HRR.out _).mono ?_
      rintro e W5 ⟨rfl, b5'⟩
      have HB5 := hide (HB4.out.trans (b5'.mono HB4.out.size))
      clear b5'
      go_wp2_with fail
      refine (HKN.out _).mono ?_
      rintro e W6 ⟨rfl, b6⟩
      have HB6 := hide (HB5.out.trans (b6.mono HB5.out.size))
      clear b6
      go_wp2
      go_ret
      exact ⟨rfl, HB6.out⟩
    · have hnb := HNB.out W2 g HCO2.out (by omega)
      have HN := hide hnb
      have hout : st < 0 ∨ (¬ st < 0 ∧ (S : Int) ≤ st) := by omega
      clear hin hnb HNB HNO HRN
      rcases hout with ho | ⟨ho, ho'⟩
      all_goals
        go_wp2_with fail
        refine HN.out.mono ?_
        rintro e W3 ⟨rfl, b3⟩
        have g4 := (b3.block _ HS2.out).trans HG3.out
        have k30 := cell_blk g4 0
        have k31 := cell_blk g4 1
        have HB3 := hide (HB2.out.trans (b3.mono HB2.out.size))
        have HR3 := hide ((HR2.out.below b3).more b3.size)
        clear b3 g4 HN HG3 HR2 HB2
        go_wp2_with fail
        refine (HCE.out _ HR3.out).mono ?_
        rintro e W4 ⟨v4, rfl, ho4, b4⟩
        obtain ⟨A4, c4, rfl⟩ := own_form ho4
        have HB4 := hide (HB3.out.trans (b4.mono HB3.out.size))
        clear ho4 b4 k30 k31 HR3 HB3
        go_wp2_with fail
        refine (HKN.out _).mono ?_
        rintro e W6 ⟨rfl, b6⟩
        have HB6 := hide (HB4.out.trans (b6.mono HB4.out.size))
        clear b6
        go_wp2
        go_ret
        exact ⟨rfl, HB6.out⟩
  · have HT := hide hT
    clear hT hm hok hc hc'
    go_enter Try.func9, Try.ntmps9
    go_wp2_with fail
    try rw [← HW0.out]
    go_wp2_with fail
    refine HMAY.out.mono ?_
    rintro e W1 ⟨he, b1⟩
    obtain rfl : e = .returned (.int .i64 13) := he.elim (fun h => absurd h.1 HT.out) (fun h => h.2)
    have HB1 := hide (HB0.out.trans (b1.mono HB0.out.size))
    clear b1 he
    go_wp2_with fail
    refine (HKN.out _).mono ?_
    rintro e W2 ⟨rfl, b2⟩
    have HB2 := hide (HB1.out.trans (b2.mono HB1.out.size))
    clear b2
    go_wp2
    go_ret
    exact ⟨rfl, HB2.out⟩
end Go.Proofs.Ytpedhioicfjpkaa
