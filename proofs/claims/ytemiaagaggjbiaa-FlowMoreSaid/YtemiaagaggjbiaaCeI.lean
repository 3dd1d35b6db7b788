/- portmanteauref08.Step and portmanteauref08.Of walked. -/
import Derived.Test.YtemiaagaggjbiaaCeH
import Derived.Test.YtemiaagaggjbiaaCeD
import Derived.Test.YtemiaagaggjbiaaCe9
namespace Go.Proofs.Ytemiaagaggjbiaa
set_option maxRecDepth 8000
open Go.RowKit Go
set_option linter.unusedVariables false

theorem fill_neg {S i : Nat} (h : i < S) : (List.replicate i (-1 : Int) ++ List.replicate (S - i) 0).set i (-1) = List.replicate (i + 1) (-1) ++ List.replicate (S - (i + 1)) 0 := by
  rw [List.set_append_right _ _ (by simp), show S - i = S - (i + 1) + 1 by omega, List.replicate_succ, List.replicate_succ']
  simp
theorem rareTo_mono (zs : List Int) : ∀ (d j : Nat), (rareTo zs j).length ≤ (rareTo zs (j + d)).length
  | 0, j => Nat.le_refl _
  | d + 1, j => by
    refine Nat.le_trans (rareTo_mono zs d j) ?_
    rw [← Nat.add_assoc, rareTo_succ, List.length_append]
    omega

set_option maxHeartbeats 400000 in
theorem rstep_any (s : Nat) (w : World) (h1 : s ≤ 512) :
    Calls Try.prog 68 #[.int .i64 (s : Int)] w fun e w' => e = .returned (.int .i64 (stepN s : Int)) ∧ w' = w := by
  have h0 : ¬ 512 < (s : Int) := by omega
  by_cases hs : s < 16
  · have h2 : (s : Int) < 16 := by omega
    have HE := hide (show (stepN s : Int) = 1 by unfold stepN; rw [if_pos hs]; rfl)
    clear h1 hs
    go_enter Try.func68, Try.ntmps68
    go_wp2
    go_ret
    exact ⟨ret_int HE.out.symm, rfl⟩
  · have h2 : ¬ (s : Int) < 16 := by omega
    have HE := hide (show (stepN s : Int) = ((s / 2 + s / 8 + 3 : Nat) : Int) by unfold stepN; rw [if_neg hs])
    have HS := hide h1
    clear h1 hs
    go_enter Try.func68, Try.ntmps68
    go_wp2
    go_ret
    refine ⟨ret_int ?_, rfl⟩
    rw [HE.out]
    have := HS.out
    omega

set_option maxHeartbeats 1000000 in
theorem ref8_bad (l : Int) (A : Option Addr) (m c : Nat) (zs : List Int) (w : World) (hm : zs.length = m) (hr : Reads w w.heap.size 1 A m (zs.map (Value.int .i64))) (hok : ∀ z ∈ zs, (Lit.int .i64 z).wf = true) (hc : m ≤ c) (hc' : c ≤ maxLen) (hT : ¬ okT l zs) :
    Calls Try.prog 51 #[.agg #[.int .i64 l, .slice A m c]] w fun e w' => e = .returned (.tuple #[.slice none 0 0, .int .i64 13]) ∧ Below w.heap.size w w' := by
  obtain ⟨W0, hW0⟩ : ∃ W0, W0 = w.alloc (.cells #[.int .i64 l, .slice A m c] 24 (0, 0)) := ⟨_, rfl⟩
  have g1 : W0.heap[w.heap.size]? = some (.cells #[.int .i64 l, .slice A m c] 24 (0, 0)) := by rw [hW0]; exact heap_alloc_new w _
  have b0 : Below w.heap.size w W0 := by rw [hW0]; exact (Below.refl w.heap.size w).alloc (Nat.le_refl _) _
  have HMAY := hide (may_any 9 l A m c zs W0 (.inl rfl) hm ((hr.below b0).more b0.size) hok hc hc')
  have k00 := cell_blk g1 0
  have k01 := cell_blk g1 1
  have HB0 := hide b0
  have HW0 := hide hW0
  have HT := hide hT
  clear b0 hW0 g1 hr hok hc hc' hm hT
  go_enter Try.func51, Try.ntmps51
  go_wp2_with fail
  rw [← HW0.out]
  go_wp2_with fail
  refine HMAY.out.mono ?_
  rintro e w1 ⟨he, b1⟩
  obtain rfl : e = .returned (.int .i64 13) := he.elim (fun h => absurd h.1 HT.out) (fun h => h.2)
  have HB1 := hide (HB0.out.trans (b1.mono HB0.out.size))
  clear he b1
  go_wp2
  go_ret2
  exact ⟨rfl, HB1.out⟩

set_option maxRecDepth 8000 in
set_option maxHeartbeats 8000000 in
theorem ref8_ok (l : Nat) (A : Option Addr) (m c : Nat) (zs : List Int) (w : World) (hm : zs.length = m) (hr : Reads w w.heap.size 1 A m (zs.map (Value.int .i64))) (hok : ∀ z ∈ zs, (Lit.int .i64 z).wf = true) (hc : m ≤ c) (hc' : c ≤ maxLen) (hT : okT (l : Int) zs) :
    Calls Try.prog 51 #[.agg #[.int .i64 (l : Int), .slice A m c]] w fun e w' =>
      ∃ v, e = .returned (.tuple #[v, .int .i64 0]) ∧ w'.ownsRow w.heap.size 3 1 v (2 ^ l) (intsV (spreadL (2 ^ l) zs)) ∧ Below w.heap.size w w' := by
  obtain ⟨i0, hi, hz0, hz1, hz2⟩ := info_parts info_int
  have hl9 : l ≤ 9 := by have := hT.1; omega
  have hm256 : m ≤ 256 := by have := hT.2.1; omega
  have hm0 : 0 < m := by have := hT.2.1; omega
  have hS2 : 2 ^ l ≤ 2 ^ 9 := Nat.pow_le_pow_right (by omega) hl9
  have h29 : (2 : Nat) ^ 9 = 512 := by decide
  have hS1 : 0 < 2 ^ l := Nat.pow_pos (by omega)
  obtain ⟨b, off, rfl, hbb, hcell⟩ := hr.open_ hm0 (by omega)
  obtain ⟨W0, hW0⟩ : ∃ W0, W0 = w.alloc (.cells #[.int .i64 (l : Int), .slice (some ⟨b, off, none⟩) m c] 24 (0, 0)) := ⟨_, rfl⟩
  have g1 : W0.heap[w.heap.size]? = some (.cells #[.int .i64 (l : Int), .slice (some ⟨b, off, none⟩) m c] 24 (0, 0)) := by rw [hW0]; exact heap_alloc_new w _
  have b0 : Below w.heap.size w W0 := by rw [hW0]; exact (Below.refl w.heap.size w).alloc (Nat.le_refl _) _
  have hs0 : W0.heap.size = w.heap.size + 1 := by rw [hW0]; simp
  have HMAY := hide (may_any 9 l (some ⟨b, off, none⟩) m c zs W0 (.inl rfl) hm ((hr.below b0).more b0.size) hok hc hc')
  have HSIZE := hide (fun W => size_any l W (by omega))
  have k00 := cell_blk g1 0
  have k01 := cell_blk g1 1
  have HINI := hide (OfInv.init hT)
  have HSUM := hide (show (rareTo zs zs.length).length ≤ 2 ^ l by
    have h4 := sum_parts hT.2.2.2.1 zs.length (Nat.le_refl _)
    rw [List.take_length, hT.2.2.2.2, Int.toNat_natCast, show ((2 : Int) ^ l) = ((2 ^ l : Nat) : Int) by simp] at h4
    omega)
  have HFIN := hide (fun c f (h : OfInv (2 ^ l) zs c f []) => (show outZ (2 ^ l) f = spreadL (2 ^ l) zs by rw [← OfInv.fin h]; exact outZ_fin hT))
  have HSKIP := hide (fun c f os (h : OfInv (2 ^ l) zs c f os) => h.skip hl9)
  have HPUT := hide (fun c f o r (h : OfInv (2 ^ l) zs c f (o :: r)) => h.put)
  have HSTEP := hide (fun W => rstep_any (2 ^ l) W (by omega))
  obtain ⟨inv, hinv⟩ := vis0_inv hl9
  obtain ⟨S, hS⟩ : ∃ S, S = 2 ^ l := ⟨_, rfl⟩
  rw [← hS] at HINI HSUM HFIN HSKIP HPUT HSTEP hinv hS2 hS1 HSIZE ⊢
  rw [h29] at hS2
  have HALL := hide (hT.2.2.2.1)
  have HINV := hide hinv
  have HS := hide hS
  have HB0 := hide b0
  have HG1 := hide g1
  have HM := hide hm
  have HCELL := hide hcell
  have HS0 := hide hs0
  have HW0 := hide hW0
  have HT := hide hT
  clear b0 hW0 g1 hr hok hc hc' hm hT hs0 hS hinv h29 hcell
  go_enter Try.func51, Try.ntmps51
  go_wp2_with fail
  rw [← HW0.out]
  go_wp2_with fail
  refine HMAY.out.mono ?_
  rintro e w1 ⟨he, b1⟩
  obtain rfl : e = .returned (.int .i64 0) := he.elim (fun h => h.2) (fun h => absurd HT.out h.1)
  have g2 := (b1.block _ (by have := HS0.out; omega)).trans HG1.out
  have k10 := cell_blk g2 0
  have k11 := cell_blk g2 1
  have HG2 := hide g2
  have HB1 := hide (HB0.out.trans (b1.mono HB0.out.size))
  have hs1 := b1.size
  have HS1 := hide (show w.heap.size + 1 ≤ w1.heap.size by have := HS0.out; omega)
  clear he b1 hs1 g2 k00 k01
  go_wp2_with fail
  refine (HSIZE.out _).mono ?_
  rintro e w1' ⟨rfl, rfl⟩
  obtain ⟨w2, hmk, hown, hg⟩ := run_make_full (P := Try.prog) w1' w.heap.size 22 3 i0 (.int .i64 0) 1 Try.underlying22 hi hz0 hz1 .i64 .i64 S (by rw [hz2]; omega) (by unfold maxLen; omega) (by have := HS1.out; omega)
  go_wp2_with fail
  obtain ⟨G, hG⟩ : ∃ G, G = w1'.heap.size := ⟨_, rfl⟩
  rw [← hG] at hown ⊢
  have hcell : (madeCells (Value.int IntKind.i64 0).cells (S * 1)).toList = (List.replicate S (0 : Int)).map (Value.int .i64) := by
    rw [Nat.mul_one, List.map_replicate]
    exact toList_madeCells_one _ _
  rw [hcell] at hown
  have g3 := (hg.block _ (by have := HS1.out; omega) (by simp)).trans HG2.out
  have HG3 := hide g3
  have HO := hide hown
  have HGE := hide (show w.heap.size < G by have := HS1.out; omega)
  have HB2 := hide (HB1.out.trans ((((Chg.of_grown hg).mono (T := fun _ => False) (fun q hq => by cases hq)).keep).mono (by have := HS1.out; omega)))
  clear hG hcell hown hg g3 hmk hi hz0 hz1 hz2 HG2 k10 k11 HB1 HS1 HMAY HSIZE HB0 HG1 HS0 HW0
  go_loopw [7] (fun i wr => ∃ k : Nat, k ≤ S ∧ i = .int .i64 k ∧ wr.heap[w.heap.size]? = some (.cells #[.int .i64 (l : Int), .slice (some ⟨b, off, none⟩) m c] 24 (0, 0)) ∧ wr.ownsRow w.heap.size 3 1 (.slice (some ⟨G, 0, none⟩) S S) S (intsV (List.replicate k (-1) ++ List.replicate (S - k) 0)) ∧ Below w.heap.size w wr) (fun i _ => S - (intOf i).toNat)
  case atStart => exact ⟨0, Nat.zero_le _, rfl, HG3.out, by simpa [intsV] using HO.out, HB2.out⟩
  case round =>
    obtain ⟨k, hk, rfl, y1, hown, hb⟩ := hrel
    have HY1 := hide y1
    have HO := hide hown
    have HB := hide hb
    clear y1 hb
    by_cases hlt : k < S
    · have hkS : (k : Int) < (S : Int) := by omega
      have kk := hown.cellAt k (by omega)
      have kf := hown.frozenAt k
      obtain ⟨u, hu⟩ : ∃ u, (intsV (List.replicate k (-1) ++ List.replicate (S - k) 0))[k]? = some u := by
        have hl := hown.1
        exact ⟨_, List.getElem?_eq_getElem (by omega)⟩
      rw [hu] at kk
      clear hown hu
      go_wp2
      go_roundw
      case rel =>
        refine ⟨k + 1, by omega, by go_num, set_far HY1.out (by show w.heap.size ≠ G; have := HGE.out; omega) _, ?_, HB.out.setCell (by show w.heap.size ≤ G; have := HGE.out; omega) _⟩
        have ho := (HO.out.stored k (.int .i64 (-1))).1
        unfold intsV at ho ⊢
        rw [← List.map_set, fill_neg hlt] at ho
        exact ho
      case measure => simp [intOf]; omega
    · obtain rfl : S = k := by omega
      rw [Nat.sub_self, List.replicate_zero, List.append_nil, ← outZ_none] at hown
      have HO := hide hown
      clear hown
      rw [← rmap_nil S] at HO
      go_wp2
      go_loopw [8, 9] (fun top i wr => ∃ k : Nat, k ≤ m ∧ i = .int .i64 k ∧ top = .int .i64 ((S : Int) - 1 - ((rareTo zs k).length : Int)) ∧ wr.heap[w.heap.size]? = some (.cells #[.int .i64 (l : Int), .slice (some ⟨b, off, none⟩) m c] 24 (0, 0)) ∧ wr.ownsRow w.heap.size 3 1 (.slice (some ⟨G, 0, none⟩) S S) S (intsV (outZ S (rmap S (rareTo zs k)))) ∧ Below w.heap.size w wr) (fun _ i _ => m - (intOf i).toNat)
      case atStart => exact ⟨0, Nat.zero_le _, rfl, by simp [rareTo], HY1.out, by simpa [rareTo] using HO.out, HB.out⟩
      case round =>
        obtain ⟨k, hk, rfl, rfl, y1, hown, hb⟩ := hrel
        have k10 := cell_blk y1 0
        have k11 := cell_blk y1 1
        have HY1 := hide y1
        have HO := hide hown
        have HB := hide hb
        clear y1 hb
        by_cases hlt : k < m
        · obtain ⟨z, hz⟩ : ∃ z, zs[k]? = some z := ⟨_, List.getElem?_eq_getElem (by have := HM.out; omega)⟩
          have kz := (HB.out.cell (p := ⟨b, off + k, none⟩) hbb).trans (HCELL.out k (.int .i64 z) (by simp [hz]))
          have hkm : (k : Int) < (m : Int) := by omega
          have hrs := rareTo_succ zs k
          rw [normAt_of hz] at hrs
          have hmono : (rareTo zs (k + 1)).length ≤ S := by
            have h1 := rareTo_mono zs (m - (k + 1)) (k + 1)
            rw [show k + 1 + (m - (k + 1)) = zs.length by have := HM.out; omega] at h1
            exact Nat.le_trans h1 HSUM.out
          have HRS := hide hrs
          clear hz hrs
          by_cases hz1 : z = -1
          · subst hz1
            rw [if_pos rfl] at HRS
            have hlen : (rareTo zs k).length + 1 ≤ S := by
              rw [HRS.out] at hmono
              simpa using hmono
            obtain ⟨q, hq⟩ : ∃ q : Nat, q = S - 1 - (rareTo zs k).length := ⟨_, rfl⟩
            have hqe : (S : Int) - 1 - ((rareTo zs k).length : Int) = (q : Int) := by omega
            have hqS : q < S := by omega
            have hqS' : (q : Int) < (S : Int) := by omega
            rw [hqe]
            have kk := hown.cellAt q (by omega)
            have kf := hown.frozenAt q
            rw [show (intsV (outZ S (rmap S (rareTo zs k))))[q]? = some (.int .i64 ((rmap S (rareTo zs k) (q : Int)).getD (-1))) by unfold intsV; rw [List.getElem?_map, outZ_get _ hqS]; rfl] at kk
            have hsnoc := rmap_snoc S (rareTo zs k) k
            rw [hqe, ← HRS.out] at hsnoc
            have HSN := hide hsnoc
            have HQ := hide hqe
            have HRL := hide (show (rareTo zs (k + 1)).length = (rareTo zs k).length + 1 by rw [HRS.out]; simp)
            clear hown hmono hlen hq hqe hsnoc
            go_wp2
            go_roundw
            case rel =>
              refine ⟨k + 1, by omega, by go_num, ?_, set_far HY1.out (by show w.heap.size ≠ G; have := HGE.out; omega) _, ?_, HB.out.setCell (by show w.heap.size ≤ G; have := HGE.out; omega) _⟩
              · rw [HRL.out]; have := HQ.out; go_num
              · have ho := (HO.out.stored q (.int .i64 (k : Int))).1
                unfold intsV at ho ⊢
                rw [← List.map_set, outZ_set] at ho
                rw [← HSN.out]
                exact ho
            case measure => simp [intOf]; omega
          · have hzb : (z == -1) = false := by simp [hz1]
            rw [if_neg hz1, List.append_nil] at HRS
            clear hown hmono hz1
            go_wp2
            go_roundw
            case rel =>
              exact ⟨k + 1, by omega, by go_num, by rw [HRS.out], HY1.out, by rw [HRS.out]; exact HO.out, HB.out⟩
            case measure => simp [intOf]; omega
        · obtain rfl : m = k := by omega
          clear hown
          rw [HM.out] at HINI
          go_wp2
          go_loopw [10, 11] (fun at_ i wr => ∃ (j cc : Nat) (f : Int → Option Int), j ≤ m ∧ i = .int .i64 j ∧ at_ = .int .i64 (vis0 S cc : Int) ∧ OfInv S zs cc f (oFrom zs m j) ∧ wr.heap[w.heap.size]? = some (.cells #[.int .i64 (l : Int), .slice (some ⟨b, off, none⟩) m c] 24 (0, 0)) ∧ wr.ownsRow w.heap.size 3 1 (.slice (some ⟨G, 0, none⟩) S S) S (intsV (outZ S f)) ∧ Below w.heap.size w wr) (fun _ i _ => m - (intOf i).toNat)
          case atStart => exact ⟨0, 0, _, Nat.zero_le _, rfl, by simp [vis0], HINI.out, HY1.out, HO.out, HB.out⟩
          case round =>
            obtain ⟨j, cc, f, hj, rfl, rfl, hinv, y1, hown, hb⟩ := hrel
            have k10 := cell_blk y1 0
            have k11 := cell_blk y1 1
            have HY1 := hide y1
            have HO := hide hown
            have HB := hide hb
            have HI := hide hinv
            clear y1 hb hown hinv HINI
            by_cases hlt : j < m
            · obtain ⟨z, hz⟩ : ∃ z, zs[j]? = some z := ⟨_, List.getElem?_eq_getElem (by have := HM.out; omega)⟩
              have hjm : (j : Int) < (m : Int) := by omega
              have hz1 : -1 ≤ z := HALL.out z (List.mem_of_getElem? hz)
              obtain ⟨N, hN⟩ : ∃ N, N = z.toNat := ⟨_, rfl⟩
              have hst := oFrom_step zs (n := m) hlt
              rw [normAt_of hz, ← hN] at hst
              rw [hst] at HI
              have HKZ := hide (HCELL.out j (.int .i64 z) (by simp [hz]))
              have HN := hide hN
              have hN5 : N ≤ 512 := by
                have h5 := absZ_le_sum (zs := zs) (v := j) (by have := HM.out; omega)
                rw [normAt_of hz, HT.out.2.2.2.2, Int.toNat_natCast, show ((2 : Int) ^ l) = ((2 ^ l : Nat) : Int) by simp, ← HS.out] at h5
                unfold absZ at h5
                omega
              clear hz hst hz1 hN
              go_wp2
              clear k10 k11
              go_loopw [10, 12] (fun at_ kv wr => ∃ (k cc : Nat) (f : Int → Option Int), k ≤ N ∧ kv = .int .i64 k ∧ at_ = .int .i64 (vis0 S cc : Int) ∧ OfInv S zs cc f (List.replicate (N - k) j ++ oFrom zs m (j + 1)) ∧ wr.heap[w.heap.size]? = some (.cells #[.int .i64 (l : Int), .slice (some ⟨b, off, none⟩) m c] 24 (0, 0)) ∧ wr.ownsRow w.heap.size 3 1 (.slice (some ⟨G, 0, none⟩) S S) S (intsV (outZ S f)) ∧ Below w.heap.size w wr) (fun _ kv _ => N - (intOf kv).toNat)
              case atStart => exact ⟨0, cc, f, Nat.zero_le _, rfl, rfl, HI.out, HY1.out, HO.out, HB.out⟩
              case round =>
                obtain ⟨k, c2, f2, hk, rfl, rfl, hinv, y1, hown, hb⟩ := hrel
                have k10 := cell_blk y1 0
                have k11 := cell_blk y1 1
                have kz := (hb.cell (p := ⟨b, off + j, none⟩) hbb).trans HKZ.out
                have HY1 := hide y1
                have HO := hide hown
                have HB := hide hb
                have HI := hide hinv
                clear y1 hb hown hinv
                by_cases hkN : k < N
                · have hkz : (k : Int) < z := by have := HN.out; omega
                  have hrep : List.replicate (N - k) j ++ oFrom zs m (j + 1) = j :: (List.replicate (N - (k + 1)) j ++ oFrom zs m (j + 1)) := by
                    rw [show N - k = N - (k + 1) + 1 by omega, List.replicate_succ]; rfl
                  rw [hrep] at HI
                  clear hrep
                  go_wp2
                  go_loopw [10] (fun at_ wr' => ∃ c3 : Nat, at_ = .int .i64 (vis0 S c3 : Int) ∧ OfInv S zs c3 f2 (j :: (List.replicate (N - (k + 1)) j ++ oFrom zs m (j + 1))) ∧ wr' = wr) (fun at_ _ => S - (intOf at_).toNat * inv % S)
                  case atStart => exact ⟨c2, rfl, HI.out, rfl⟩
                  case round =>
                    obtain ⟨c3, rfl, hinv, rfl⟩ := hrel
                    have hvl : vis0 S c3 < S := vis0_lt hS1 c3
                    obtain ⟨q, hq⟩ : ∃ q, q = vis0 S c3 := ⟨_, rfl⟩
                    rw [← hq] at hvl ⊢
                    have hqS : (q : Int) < (S : Int) := by omega
                    have kk := HO.out.cellAt q (by omega)
                    have kf := HO.out.frozenAt q
                    rw [show (intsV (outZ S f2))[q]? = some (.int .i64 ((f2 (q : Int)).getD (-1))) by unfold intsV; rw [List.getElem?_map, outZ_get _ hvl]; rfl] at kk
                    have HQ := hide hq
                    have HIV := hide hinv
                    clear hinv
                    cases hf : f2 (q : Int) with
                    | none =>
                      rw [hf, Option.getD_none] at kk
                      have hput := HPUT.out c3 f2 j _ HIV.out (by rw [← HQ.out]; exact hf)
                      rw [← hq] at hput
                      have HP := hide hput
                      clear hput hf hq
                      go_wp2
                      go_roundw
                      case rel =>
                        refine ⟨k + 1, c3, upd f2 (q : Int) (j : Int), by omega, by go_num, by rw [HQ.out], HP.out, set_far HY1.out (by show w.heap.size ≠ G; have := HGE.out; omega) _, ?_, HB.out.setCell (by show w.heap.size ≤ G; have := HGE.out; omega) _⟩
                        have ho := (HO.out.stored q (.int .i64 (j : Int))).1
                        unfold intsV at ho ⊢
                        rw [← List.map_set, outZ_set] at ho
                        exact ho
                      case measure => simp [intOf]; omega
                    | some u =>
                      obtain ⟨v, rfl⟩ := HIV.out.vals _ _ hf
                      rw [hf, Option.getD_some] at kk
                      have hsk := HSKIP.out c3 f2 _ HIV.out (by rw [← HQ.out, hf]; simp) (by simp)
                      have HSK := hide hsk
                      have hst512 : stepN S ≤ 512 := by unfold stepN; split <;> omega
                      have hmod : IntKind.i64.wrap ((q : Int) + (stepN S : Int)) = ((q + stepN S : Nat) : Int) := by rw [IntWalk.i64_in _ (by omega)]; omega
                      have hv0 : (0 : Int) ≤ (v : Int) := by omega
                      have HMO := hide hmod
                      clear hsk hf hq
                      go_wp2_with fail
                      refine (HSTEP.out _).mono ?_
                      rintro e w9 ⟨rfl, rfl⟩
                      have hnx : ((q : Int) + (stepN S : Int)) % (S : Int) = ((vis0 S (c3 + 1) : Nat) : Int) := by rw [vis0_succ, ← HQ.out, Int.natCast_emod, Int.natCast_add]
                      have hl3 := HIV.out.lt
                      have hl4 := HSK.out.lt
                      have h3 := HINV.out c3 hl3
                      have h4 := HINV.out (c3 + 1) hl4
                      rw [← HQ.out] at h3
                      have HNX := hide hnx
                      have H3 := hide h3
                      have H4 := hide h4
                      clear hnx h3 h4
                      go_wp2
                      go_roundw
                      case rel => exact ⟨c3 + 1, by rw [HNX.out], HSK.out, trivial⟩
                      case measure =>
                        rw [HNX.out]
                        simp only [intOf, Int.toNat_natCast]
                        rw [H3.out, H4.out]
                        omega
                · have hkz : ¬ (k : Int) < z := by have := HN.out; omega
                  obtain rfl : N = k := by omega
                  rw [Nat.sub_self, List.replicate_zero, List.nil_append] at HI
                  go_wp2
                  go_roundw
                  case rel => exact ⟨j + 1, c2, f2, by omega, by go_num, rfl, HI.out, HY1.out, HO.out, HB.out⟩
                  case measure => simp [intOf]; omega
            · obtain rfl : m = j := by omega
              rw [oFrom_end] at HI
              have hf := HFIN.out _ _ HI.out
              rw [hf] at HO
              go_wp2
              go_ret2
              exact ⟨_, rfl, HO.out, HB.out⟩
end Go.Proofs.Ytemiaagaggjbiaa
