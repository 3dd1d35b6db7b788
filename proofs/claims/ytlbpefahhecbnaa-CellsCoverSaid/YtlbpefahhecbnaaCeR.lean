/- portmanteaulaw09.CellsCover walked. -/
import Derived.Test.YtlbpefahhecbnaaCeQ
namespace Go.Proofs.Ytlbpefahhecbnaa
open Go.RowKit Go
set_option linter.unusedVariables false

theorem span_at {w : World} {B n b off : Nat} {xs : List SpanT} (h : Reads w B 2 (some ⟨b, off, none⟩) n (spansV xs)) (hn : n = xs.length) {k : Nat} (hk : k < n) {x y : Int} (hx : xs[k]? = some (x, y)) :
    w.cell? ⟨b, off + k * 2, none⟩ = some (.int .i64 x) ∧ w.cell? ⟨b, off + k * 2 + 1, none⟩ = some (.int .i64 y) := by
  obtain ⟨b', o', x', y', hA, _, h1, h2, h3⟩ := span_cells h hn hk
  injection hA with hA
  injection hA with e1 e2 _
  subst e1 e2
  rw [hx] at h3
  injection h3 with h3
  injection h3 with e3 e4
  subst e3 e4
  exact ⟨h1, h2⟩
theorem spSum_mono (L n : Nat) {i : Nat} : ∀ {k : Nat}, i ≤ k → spSum L n i ≤ spSum L n k
  | 0, h => by obtain rfl : i = 0 := by omega
               exact Nat.le_refl _
  | k + 1, h => by
    by_cases hi : i = k + 1
    · subst hi; exact Nat.le_refl _
    · exact Nat.le_trans (spSum_mono L n (k := k) (by omega)) (Nat.le_add_right _ _)
theorem info_bool : (Try.prog.info? 4).map (fun i => (i.zero, i.size, i.bytes)) = some (some (.bool false), 1, 1) := by kernel_rfl

set_option maxRecDepth 4000 in
set_option maxHeartbeats 8000000 in
theorem walk_CellsCover {w : World} (l : Int) (A : Option Addr) (m c : Nat) (zs : List Int) (wl : (Lit.int .i64 l).wf = true) (hm : zs.length = m) (hr : Reads w w.heap.size 1 A m (zs.map (Value.int .i64))) (hok : ∀ z ∈ zs, (Lit.int .i64 z).wf = true) (hc' : c ≤ maxLen) (hc : m ≤ c) (sym : Int) (ws : (Lit.int .i64 sym).wf = true) :
    Calls Try.prog 9 #[.agg #[.int .i64 l, .slice A m c], .int .i64 sym] w fun e w' => e = .returned (.bool true) ∧ Below w.heap.size w w' := by
  have HKN := hide known_any
  obtain ⟨W0, hW0⟩ : ∃ W0, W0 = w.alloc (.cells #[.int .i64 l, .slice A m c] 24 (0, 0)) := ⟨_, rfl⟩
  have g1 : W0.heap[w.heap.size]? = some (.cells #[.int .i64 l, .slice A m c] 24 (0, 0)) := by rw [hW0]; exact heap_alloc_new w _
  have b0 : Below w.heap.size w W0 := by rw [hW0]; exact (Below.refl w.heap.size w).alloc (Nat.le_refl _) _
  have hs0 : W0.heap.size = w.heap.size + 1 := by rw [hW0]; simp
  have k00 := cell_blk g1 0
  have k01 := cell_blk g1 1
  have HB0 := hide b0
  have HW0 := hide hW0
  have HR := hide ((hr.below b0).more b0.size)
  have HG1 := hide g1
  have HS0 := hide hs0
  by_cases hbig : 300 < m
  · have hb' : (300 : Int) < (m : Int) := by omega
    clear b0 hW0 hr g1 hs0 wl ws
    go_enter Try.func9, Try.ntmps9
    go_wp2_with fail
    try rw [← HW0.out]
    go_wp2_with fail
    refine (HKN.out _).mono ?_
    rintro e W ⟨rfl, b⟩
    have HB1 := hide (HB0.out.trans (b.mono HB0.out.size))
    clear b
    go_wp2
    go_ret
    exact ⟨rfl, HB1.out⟩
  have hb' : ¬ (300 : Int) < (m : Int) := by omega
  have HMAY := hide (may_any 9 l A m c zs W0 (.inl rfl) hm HR.out hok hc hc')
  by_cases hT : okT l zs
  · obtain ⟨L, rfl⟩ := Int.eq_ofNat_of_zero_le hT.1.1
    have hL : L ≤ 9 := by have := hT.1; omega
    have hm0 : 0 < m := by have := hT.2.1; omega
    obtain ⟨b, off, rfl, hbb, hcell⟩ := hr.open_ hm0 (by omega)
    have hS2 : 2 ^ L ≤ 2 ^ 9 := Nat.pow_le_pow_right (by omega) hL
    have h29 : (2 : Nat) ^ 9 = 512 := by decide
    have HSP := hide (fun W (hr : Reads W W.heap.size 1 (some ⟨b, off, none⟩) m (zs.map (Value.int .i64))) => spans_any (L : Int) (some ⟨b, off, none⟩) m c sym W (buildL L zs) 0 (by rw [buildL_length]; omega) (build_bits zs hL) (.inl rfl)
      (by rw [buildL_length]; exact build_ok L (some ⟨b, off, none⟩) m c zs _ hm ((hr.alloc (Nat.le_refl _) _).more (by simp)) hok hc hc' hT))
    obtain ⟨sp, hsp⟩ : ∃ sp, sp = spansL sym (buildL L zs) := ⟨_, rfl⟩
    rw [← hsp] at HSP
    have HSPQ := hide hsp
    have HT := hide hT
    have HM := hide hm
    have HCELL := hide hcell
    clear hT hm hok hc hc' hcell b0 hW0 hr g1 hs0 wl ws hsp
    by_cases hout : sym < 0 ∨ (¬ sym < 0 ∧ (m : Int) ≤ sym) ∨ (∃ v : Nat, sym = (v : Int) ∧ zs[v]? = some 0)
    · have hsp0 : sp = [] := by
        rw [HSPQ.out]
        refine spansL_none HT.out ?_
        rcases hout with h | ⟨_, h⟩ | h
        · exact .inl h
        · exact .inr (.inl (by rw [HM.out]; exact h))
        · exact .inr (.inr h)
      subst hsp0
      clear HSPQ
      have hcase : (sym < 0) ∨ (¬ sym < 0 ∧ (m : Int) ≤ sym) ∨ (∃ v : Nat, sym = (v : Int) ∧ ¬ (v : Int) < 0 ∧ ¬ (m : Int) ≤ (v : Int) ∧ (v : Int) < (m : Int) ∧ w.cell? ⟨b, off + v, none⟩ = some (.int .i64 0)) := by
        rcases hout with h | h | ⟨v, h1, h2⟩
        · exact .inl h
        · exact .inr (.inl h)
        · have hv : v < m := by
            rcases Nat.lt_or_ge v zs.length with h3 | h3
            · rw [HM.out] at h3; exact h3
            · rw [List.getElem?_eq_none h3] at h2; cases h2
          exact .inr (.inr ⟨v, h1, by omega, by omega, by omega, HCELL.out v (.int .i64 0) (by simp [h2])⟩)
      have HC := hide hcase
      clear hcase hout
      go_enter Try.func9, Try.ntmps9
      go_wp2_with fail
      try rw [← HW0.out]
      go_wp2_with fail
      refine HMAY.out.mono ?_
      rintro e W1 ⟨he, b1⟩
      obtain rfl : e = .returned (.int .i64 0) := he.elim (fun h => h.2) (fun h => absurd HT.out h.1)
      have g2 := (b1.block _ (by have := HS0.out; omega)).trans HG1.out
      have k10 := cell_blk g2 0
      have k11 := cell_blk g2 1
      have HG2 := hide g2
      have HB1 := hide (HB0.out.trans (b1.mono HB0.out.size))
      have HR1 := hide ((HR.out.below b1).more b1.size)
      have HS1 := hide (show w.heap.size < W1.heap.size by have := HS0.out; have := b1.size; omega)
      clear b1 g2 he k00 k01 HG1 HR HB0 HW0 HS0
      go_wp2_with fail
      refine (HSP.out _ HR1.out).mono ?_
      rintro e W2 ⟨v2, rfl, ho2, b2⟩
      obtain ⟨A2, c2, rfl⟩ := own_form ho2
      have g3 := (b2.block _ HS1.out).trans HG2.out
      have k20 := cell_blk g3 0
      have k21 := cell_blk g3 1
      have HB2 := hide (HB1.out.trans (b2.mono HB1.out.size))
      clear b2 g3 k10 k11 ho2 HG2 HR1 HB1 HS1 HSP
      rcases HC.out with h | ⟨h, h'⟩ | ⟨v, rfl, h, h', h'', kv⟩
      · go_wp2_with fail
        refine (HKN.out _).mono ?_
        rintro e W6 ⟨rfl, b6⟩
        have HB6 := hide (HB2.out.trans (b6.mono HB2.out.size))
        clear b6
        go_wp2
        go_ret
        exact ⟨rfl, HB6.out⟩
      · go_wp2_with fail
        refine (HKN.out _).mono ?_
        rintro e W6 ⟨rfl, b6⟩
        have HB6 := hide (HB2.out.trans (b6.mono HB2.out.size))
        clear b6
        go_wp2
        go_ret
        exact ⟨rfl, HB6.out⟩
      · have kv2 := (HB2.out.cell (p := ⟨b, off + v, none⟩) hbb).trans kv
        go_wp2_with fail
        refine (HKN.out _).mono ?_
        rintro e W6 ⟨rfl, b6⟩
        have HB6 := hide (HB2.out.trans (b6.mono HB2.out.size))
        clear b6
        go_wp2
        go_ret
        exact ⟨rfl, HB6.out⟩
    · obtain ⟨v, rfl⟩ := Int.eq_ofNat_of_zero_le (show 0 ≤ sym by omega)
      have hvm : v < m := by omega
      obtain ⟨z, hz⟩ : ∃ z, zs[v]? = some z := ⟨_, List.getElem?_eq_getElem (by have := HM.out; omega)⟩
      have hz0 : z ≠ 0 := by
        rintro rfl
        exact hout (.inr (.inr ⟨v, rfl, hz⟩))
      have hz1 : -1 ≤ z := HT.out.2.2.2.1 z (List.mem_of_getElem? hz)
      obtain ⟨n, hzn⟩ : ∃ n : Nat, absZ z = (n : Int) := ⟨(absZ z).toNat, by have := absZ_nonneg z; omega⟩
      have hn : 0 < n := by unfold absZ at hzn; omega
      have hnS : n ≤ 2 ^ L := by
        have h5 := absZ_le_sum (zs := zs) (v := v) (by have := HM.out; omega)
        rw [normAt_of hz, HT.out.2.2.2.2, Int.toNat_natCast, show ((2 : Int) ^ L) = ((2 ^ L : Nat) : Int) by simp, hzn] at h5
        omega
      have hspa : sp = (List.range' n n).map fun x => ((spLo L x : Int), (spLen L x : Int)) := by rw [HSPQ.out]; exact spansL_all HT.out hz hzn
      have hspl : n = sp.length := by rw [hspa]; simp
      have HIN := hide (fun i (hi : i < n) => sp_in hL hn hnS (x := n + i) (by omega) (by omega))
      have HFREE := hide (fun i q (hi : i < n) hq => markB_free hL hn hnS (i := i) (q := q) hi hq)
      have HSUM := hide (sum_all hL hn hnS)
      obtain ⟨S, hS⟩ : ∃ S, S = 2 ^ L := ⟨_, rfl⟩
      rw [← hS] at hnS HIN HSUM hS2
      have HSZ := hide (fun W => size_any L W (by omega))
      rw [← hS] at HSZ
      have hz0b : (z == 0) = false := by simp [hz0]
      have hS512 : S ≤ 512 := by omega
      have kv := HCELL.out v (.int .i64 z) (by simp [hz])
      have HKV := hide kv
      have HZN := hide hzn
      have HSPA := hide hspa
      have HSPL := hide hspl
      have HSTA := hide (fun W => states_any z W hz1)
      obtain ⟨i0, hi, hb0, hb1, hb2⟩ := info_parts info_bool
      have t5 : ¬ (m : Int) ≤ (v : Int) := by omega
      have t6 : (v : Int) < (m : Int) := by omega
      have t8 : ¬ (v : Int) < 0 := by omega
      clear hz hz0 hz1 hzn hspa hspl hS h29 hS2 hout HSPQ
      go_enter Try.func9, Try.ntmps9
      go_wp2_with fail
      try rw [← HW0.out]
      go_wp2_with fail
      refine HMAY.out.mono ?_
      rintro e W1 ⟨he, b1⟩
      obtain rfl : e = .returned (.int .i64 0) := he.elim (fun h => h.2) (fun h => absurd HT.out h.1)
      have g2 := (b1.block _ (by have := HS0.out; omega)).trans HG1.out
      have k10 := cell_blk g2 0
      have k11 := cell_blk g2 1
      have HG2 := hide g2
      have HB1 := hide (HB0.out.trans (b1.mono HB0.out.size))
      have HR1 := hide ((HR.out.below b1).more b1.size)
      have HS1 := hide (show w.heap.size < W1.heap.size by have := HS0.out; have := b1.size; omega)
      clear b1 g2 he k00 k01 HG1 HR HB0 HW0 HS0
      go_wp2_with fail
      refine (HSP.out _ HR1.out).mono ?_
      rintro e W2 ⟨v2, rfl, ho2, b2⟩
      obtain ⟨A2, c2, rfl⟩ := own_form ho2
      rw [← HSPL.out] at ho2 ⊢
      have g3 := (b2.block _ HS1.out).trans HG2.out
      have k20 := cell_blk g3 0
      have k21 := cell_blk g3 1
      have HG3 := hide g3
      have HB2 := hide (HB1.out.trans (b2.mono HB1.out.size))
      have HO2 := hide ho2
      have HS2 := hide (show w.heap.size < W2.heap.size by have := HS1.out; have := b2.size; omega)
      have kv2 := (HB2.out.cell (p := ⟨b, off + v, none⟩) hbb).trans kv
      clear b2 g3 k10 k11 ho2 HG2 HR1 HB1 HS1 HSP kv
      go_wp2_with fail
      refine (HSZ.out _).mono ?_
      rintro e w8 ⟨rfl, rfl⟩
      obtain ⟨w3, hmk, hown, hg⟩ := run_make_full (P := Try.prog) w8 w8.heap.size 52 4 i0 (.bool false) 1 Try.underlying52 hi hb0 hb1 .i64 .i64 S (by rw [hb2]; omega) (by unfold maxLen; omega) (by omega)
      go_wp2_with fail
      have hcell : (madeCells (Value.bool false).cells (S * 1)).toList = (markZ L n S 0 0).map Value.bool := by
        have e : markZ L n S 0 0 = List.replicate S false := by
          refine List.eq_replicate_iff.2 ⟨markZ_length _ _ _ _ _, fun x hx => ?_⟩
          obtain ⟨j, _, rfl⟩ := List.mem_map.1 hx
          exact markB_zero L n j
        rw [Nat.mul_one, e, List.map_replicate]
        exact toList_madeCells_one _ _
      rw [hcell] at hown
      have hb3 : Below w8.heap.size w8 w3 := ((Chg.of_grown hg).mono (T := fun _ => False) (fun q hq => by cases hq)).keep
      have HO := hide hown
      have HO2' := hide (own_below HO2.out hb3)
      have HB3 := hide (HB2.out.trans (hb3.mono HB2.out.size))
      have HGE := hide HS2.out
      have HLOW := hide (show ∀ q, (Value.slice A2 n c2).ownBlock = some q → q < w8.heap.size from fun q hq => (HO2.out.lt q hq).2)
      have HG4 := hide ((hb3.block _ HS2.out).trans HG3.out)
      clear hcell hown hg hmk hi hb0 hb1 hb2 k20 k21 HG3 HO2 HB2 HS2 hb3 kv2 HSZ HMAY HT
      go_loopw [8, 9] (fun av iv wr => ∃ i : Nat, i ≤ n ∧ iv = .int .i64 i ∧ av = .int .i64 (spSum L n i : Int) ∧ wr.heap[w.heap.size]? = some (.cells #[.int .i64 (L : Int), .slice (some ⟨b, off, none⟩) m c] 24 (0, 0)) ∧ wr.ownsRow W1.heap.size 53 2 (.slice A2 n c2) n (spansV sp) ∧ wr.ownsRow w8.heap.size 4 1 (.slice (some ⟨w8.heap.size, 0, none⟩) S S) S ((markZ L n S i 0).map Value.bool) ∧ Below w.heap.size w wr) (fun _ iv _ => n - (intOf iv).toNat)
      case atStart => exact ⟨0, Nat.zero_le _, rfl, rfl, HG4.out, HO2'.out, HO.out, HB3.out⟩
      case round =>
        obtain ⟨i, hi, rfl, rfl, y1, hlo, hown, hb⟩ := hrel
        have HY1 := hide y1
        have HLO := hide hlo
        have HOW := hide hown
        have HB := hide hb
        clear hlo hown hb y1
        by_cases hlt : i < n
        · obtain ⟨b4, o4, p, q, hA1, hb4, d1, d2, hpq⟩ := span_cells (Reads.of_own HLO.out) HSPL.out hlt
          subst hA1
          have HPQ := hide hpq
          rw [HSPA.out, List.getElem?_map, List.getElem?_range' hlt] at hpq
          injection hpq with hpq
          injection hpq with hp1 hp2
          rw [Nat.one_mul] at hp1 hp2
          obtain ⟨h1, h2, h3⟩ := HIN.out i hlt
          obtain ⟨lo, hlo⟩ : ∃ lo, lo = spLo L (n + i) := ⟨_, rfl⟩
          obtain ⟨le, hle⟩ : ∃ le, le = spLen L (n + i) := ⟨_, rfl⟩
          have hss : spSum L n i + le ≤ S := by rw [← HSUM.out, hle]; exact spSum_mono L n (show i + 1 ≤ n from hlt)
          rw [← hlo, ← hle] at h1
          rw [← hlo] at hp1
          rw [← hle] at hp2 h2
          obtain ⟨d, hd⟩ : ∃ d : Int, d = (S : Int) - q := ⟨_, rfl⟩
          have hwd : IntKind.i64.wrap ((S : Int) - q) = d := by rw [IntWalk.i64_in _ (by omega), hd]
          have t1 : ¬ p < 0 := by omega
          have t2 : ¬ q < 1 := by omega
          have t3 : ¬ (S : Int) < q := by omega
          have t4 : ¬ d < p := by omega
          have hin : (i : Int) < (n : Int) := by omega
          have HLE := hide hle
          have HLQ := hide hlo
          have HP1 := hide hp1
          have HP2 := hide hp2
          have H1 := hide h1
          clear hle hlo hp1 hp2 h1 h2 h3 hd
          go_wp2
          go_quiet (fail)
          obtain ⟨W9, hW9⟩ : ∃ W9, W9 = wr.drewN nq := ⟨_, rfl⟩
          have HY9 : Hid (W9.heap[w.heap.size]? = some (.cells #[.int .i64 (L : Int), .slice (some ⟨b, off, none⟩) m c] 24 (0, 0))) := by rw [hW9]; exact HY1.out
          have HLO9 : Hid (W9.ownsRow W1.heap.size 53 2 (.slice (some ⟨b4, o4, none⟩) n c2) n (spansV sp)) := by rw [hW9]; exact HLO.out
          have HOW9 : Hid (W9.ownsRow w8.heap.size 4 1 (.slice (some ⟨w8.heap.size, 0, none⟩) S S) S ((markZ L n S i 0).map Value.bool)) := by rw [hW9]; exact HOW.out
          have HB9 : Hid (Below w.heap.size w W9) := by rw [hW9]; exact HB.out.trans (below_drewN (Below.refl _ _) _)
          rw [← hW9]
          clear hW9 d1 d2 HY1 HLO HOW HB hb4
          obtain ⟨sm, hsm⟩ : ∃ sm, sm = spSum L n i := ⟨_, rfl⟩
          rw [← hsm] at hss ⊢
          have HSM := hide hsm
          clear hsm
          go_wp2
          go_loopw [8, 10] (fun av kv wr => ∃ k : Nat, k ≤ le ∧ kv = .int .i64 k ∧ av = .int .i64 ((sm + k : Nat) : Int) ∧ wr.heap[w.heap.size]? = some (.cells #[.int .i64 (L : Int), .slice (some ⟨b, off, none⟩) m c] 24 (0, 0)) ∧ wr.ownsRow W1.heap.size 53 2 (.slice (some ⟨b4, o4, none⟩) n c2) n (spansV sp) ∧ wr.ownsRow w8.heap.size 4 1 (.slice (some ⟨w8.heap.size, 0, none⟩) S S) S ((markZ L n S i k).map Value.bool) ∧ Below w.heap.size w wr) (fun _ kv _ => le - (intOf kv).toNat)
          case atStart => exact ⟨0, Nat.zero_le _, rfl, rfl, HY9.out, HLO9.out, HOW9.out, HB9.out⟩
          case round =>
            obtain ⟨k, hk, rfl, rfl, y1, hlo, hown, hb⟩ := hrel
            obtain ⟨d1, d2⟩ := span_at (Reads.of_own hlo) HSPL.out hlt HPQ.out
            have HY1 := hide y1
            have HLO := hide hlo
            have HOW := hide hown
            have HB := hide hb
            have hq := HP2.out
            have hp := HP1.out
            have h1 := H1.out
            by_cases hke : k < le
            · have t9 : (k : Int) < q := by omega
              obtain ⟨j, hj⟩ : ∃ j, j = lo + k := ⟨_, rfl⟩
              have hwj : IntKind.i64.wrap (p + (k : Int)) = (j : Int) := by rw [IntWalk.i64_in _ (by omega)]; omega
              have hjS : j < S := by omega
              have t10 : (j : Int) < (S : Int) := by omega
              have hfr := HFREE.out i k hlt (by rw [← HLE.out]; exact hke)
              rw [← HLQ.out, ← hj] at hfr
              have kk := HOW.out.cellAt j (by omega)
              have kf := HOW.out.frozenAt j
              rw [show ((markZ L n S i k).map Value.bool)[j]? = some (.bool false) by rw [List.getElem?_map, markZ_get L n hjS, hfr]; rfl] at kk
              have hset := markZ_set (L := L) (n := n) (S := S) (i := i) (q := k) (by rw [← HLQ.out, ← hj]; exact hjS)
              rw [← HLQ.out, ← hj] at hset
              have HSET := hide hset
              clear hset hfr hj hq hp h1 hlo hown hb y1
              go_wp2
              go_roundw
              case rel =>
                refine ⟨k + 1, by omega, by go_num, by go_num, set_far HY1.out (by show w.heap.size ≠ w8.heap.size; have := HGE.out; omega) _, ownsRow_setCell_other HLO.out (a := ⟨w8.heap.size, j, none⟩) (fun h => by have h5 : w8.heap.size < w8.heap.size := HLOW.out _ h; omega) _, ?_, HB.out.setCell (by show w.heap.size ≤ w8.heap.size; have := HGE.out; omega) _⟩
                have ho := (HOW.out.stored j (.bool true)).1
                rw [← List.map_set, HSET.out] at ho
                exact ho
              case measure => simp [intOf]; omega
            · obtain rfl : le = k := by omega
              have t9 : ¬ (le : Int) < q := by omega
              have hnx : (markZ L n S i le) = markZ L n S (i + 1) 0 := by
                unfold markZ
                refine List.map_congr_left fun j _ => ?_
                rw [HLE.out]
                exact markB_next L n i j
              have hsn : spSum L n (i + 1) = sm + le := by
                show spSum L n i + spLen L (n + i) = _
                rw [← HLE.out, ← HSM.out]
              have HNX := hide hnx
              have HSNX := hide hsn
              clear hnx hsn hq hp h1 hlo hown hb y1
              go_wp2
              go_roundw
              case rel => exact ⟨i + 1, by omega, by go_num, by rw [HSNX.out], HY1.out, HLO.out, by rw [← HNX.out]; exact HOW.out, HB.out⟩
              case measure => simp [intOf]; omega
        · obtain rfl : n = i := by omega
          rw [HSUM.out]
          have hnn : ((n : Int) == (n : Int)) = true := by simp
          have hSS : ((S : Int) == (S : Int)) = true := by simp
          have k31 := cell_blk HY1.out 1
          have kz := (HB.out.cell (p := ⟨b, off + v, none⟩) hbb).trans HKV.out
          have hzn := HZN.out
          rw [hzn] at HSTA
          clear hzn HLO HOW
          go_wp2_with fail
          refine (HSTA.out _).mono ?_
          rintro e w10 ⟨rfl, rfl⟩
          go_wp2_with fail
          refine (HKN.out _).mono ?_
          rintro e W6 ⟨rfl, b6⟩
          have HB6 := hide (HB.out.trans (b6.mono HB.out.size))
          clear b6
          go_wp2
          go_ret
          exact ⟨rfl, HB6.out⟩
  · have HT := hide hT
    clear hT hm hok hc hc' b0 hW0 hr g1 hs0 wl ws
    go_enter Try.func9, Try.ntmps9
    go_wp2_with fail
    try rw [← HW0.out]
    go_wp2_with fail
    refine HMAY.out.mono ?_
    rintro e W1 ⟨he, b1⟩
    obtain rfl : e = .returned (.int .i64 13) := he.elim (fun h => absurd h.1 HT.out) (fun h => h.2)
    have HB1 := hide (HB0.out.trans (b1.mono HB0.out.size))
    clear b1 he
    go_wp2_with fail
    refine (HKN.out _).mono ?_
    rintro e W2 ⟨rfl, b2⟩
    have HB2 := hide (HB1.out.trans (b2.mono HB1.out.size))
    clear b2
    go_wp2
    go_ret
    exact ⟨rfl, HB2.out⟩
end Go.Proofs.Ytlbpefahhecbnaa
