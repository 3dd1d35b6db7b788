/- spread.Positions and states.New walked. -/
import Derived.Test.YtohgnohifojdbaaSt2
import Derived.Test.YtohgnohifojdbaaStK
namespace Go.Proofs.Ytohgnohifojdbaa
set_option maxRecDepth 8000
open Go.RowKit Go
set_option linter.unusedVariables false

set_option maxRecDepth 8000 in
set_option maxHeartbeats 4000000 in
theorem positions_any (l : Nat) (A : Option Addr) (m c : Nat) (zs : List Int) (s : Nat) (w : World) (hm : zs.length = m) (hr : Reads w w.heap.size 1 A m (zs.map (Value.int .i64))) (hok : ∀ z ∈ zs, (Lit.int .i64 z).wf = true) (hc : m ≤ c) (hc' : c ≤ maxLen) (hT : okT (l : Int) zs) :
    Calls Try.prog 54 #[.agg #[.int .i64 (l : Int), .slice A m c], .int .i64 (s : Int)] w fun e w' =>
      ∃ v, e = .returned (.tuple #[v, .int .i64 0]) ∧ w'.ownsRow w.heap.size 3 1 v (posZ (spreadL (2 ^ l) zs) (s : Int) (2 ^ l)).length (intsV (posZ (spreadL (2 ^ l) zs) (s : Int) (2 ^ l))) ∧ Below w.heap.size w w' := by
  obtain ⟨i0, hi, hz0, hz1, hz2⟩ := info_parts info_int
  obtain ⟨W0, hW0⟩ : ∃ W0, W0 = w.alloc (.cells #[.int .i64 (l : Int), .slice A m c] 28 (0, 0)) := ⟨_, rfl⟩
  have g1 : W0.heap[w.heap.size]? = some (.cells #[.int .i64 (l : Int), .slice A m c] 28 (0, 0)) := by rw [hW0]; exact heap_alloc_new w _
  have b0 : Below w.heap.size w W0 := by rw [hW0]; exact (Below.refl w.heap.size w).alloc (Nat.le_refl _) _
  have HSP := hide (callsIn_wide.1 (spread_in 6 (Nat.le_refl _) l A m c zs W0 hm ((hr.below b0).more b0.size) hok hc hc' hT))
  have hl9 : l ≤ 9 := by have := hT.1; omega
  have hS2 : 2 ^ l ≤ 2 ^ 9 := Nat.pow_le_pow_right (by omega) hl9
  have h29 : (2 : Nat) ^ 9 = 512 := by decide
  have k00 := cell_blk g1 0
  have k01 := cell_blk g1 1
  obtain ⟨S, hS⟩ : ∃ S, S = 2 ^ l := ⟨_, rfl⟩
  rw [← hS] at HSP ⊢
  have hS512 : S ≤ 512 := by omega
  obtain ⟨pl, hpl⟩ : ∃ pl, pl = spreadL S zs := ⟨_, rfl⟩
  have hpll : pl.length = S := by rw [hpl, spreadL_length]
  rw [← hpl] at HSP ⊢
  have HPLL := hide hpll
  have HB0 := hide b0
  have HW0 := hide hW0
  clear b0 hW0 g1 hr hok hc hc' hm hT hS hS2 h29 hpl hpll
  go_enter Try.func54, Try.ntmps54
  go_wp2_with fail
  rw [← HW0.out]
  go_wp2_with fail
  refine HSP.out.mono ?_
  rintro e W1 ⟨v1, rfl, ho1, b1⟩
  obtain ⟨A1, c1, rfl⟩ := own_form ho1
  have HB1 := hide (HB0.out.trans (b1.mono HB0.out.size))
  have HO1 := hide ho1
  clear b1 ho1 HSP k00 k01 HB0 HW0
  go_wp2
  go_loopw [8, 21] (fun out i wr => ∃ k : Nat, k ≤ S ∧ i = .int .i64 k ∧ wr.ownsRow W0.heap.size 3 1 (.slice A1 S c1) S (intsV pl) ∧ wr.ownsRow W1.heap.size 3 1 out (posZ pl (s : Int) k).length (intsV (posZ pl (s : Int) k)) ∧ Below w.heap.size w wr ∧ W1.heap.size ≤ wr.heap.size ∧ (∀ q, (Value.slice A1 S c1).ownBlock = some q → q < W1.heap.size)) (fun _ i _ => S - (intOf i).toNat)
  case atStart => exact ⟨0, Nat.zero_le _, rfl, HO1.out, World.ownsRow_nil _ _ _ _, HB1.out, Nat.le_refl _, fun q hq => (HO1.out.lt q hq).2⟩
  case round =>
    obtain ⟨k, hk, rfl, hpo, hown, hb, hsz, hq⟩ := hrel
    by_cases hlt : k < S
    · obtain ⟨y, hy⟩ : ∃ y, pl[k]? = some y := ⟨_, List.getElem?_eq_getElem (by have := HPLL.out; omega)⟩
      obtain ⟨g, cu, hA, _, _⟩ := hpo.form (by omega)
      have hA' : A1 = some ⟨g, 0, none⟩ := by injection hA
      subst hA'
      have kj := hpo.cellAt k (by omega)
      rw [show (intsV pl)[k]? = some (.int .i64 y) by simp [intsV, hy]] at kj
      have hkS : (k : Int) < (S : Int) := by omega
      have hsn := posZ_succ pl (s : Int) k
      have hle : (posZ pl (s : Int) k).length ≤ k := by rw [posZ_length]; exact posN_le _ _ _
      rw [hy] at hsn
      have HPO := hide hpo
      have HO := hide hown
      have HB := hide hb
      have HSZ := hide hsz
      have HQ := hide hq
      clear hpo hown hb hsz hq hy hA
      by_cases hys : y = (s : Int)
      · have hyy : (y == (s : Int)) = true := by simp [hys]
        rw [hys, if_pos rfl] at hsn
        have HSN := hide hsn
        obtain ⟨N, hN⟩ : ∃ N, N = (posZ pl (s : Int) k).length := ⟨_, rfl⟩
        have ho := HO.out
        rw [← hN] at ho hle
        have HO2 := hide ho
        have HNN := hide hN
        clear ho hN hsn hys
        go_wp2_with (at_builtin; refine wpList_append_any _ rfl (.tmp 29) (.tmp 31) _ rfl W1.heap.size 3 i0 _ 1 8 Try.underlying24 hi hz0 hz1 hz2 rfl Nat.zero_lt_one u8 N _ rfl (HO2.out.alloc _) (wr.heap.size + 1) (some ⟨wr.heap.size, 0, none⟩) 1 1 [.int .i64 (k : Int)] rfl (reads_new wr _ _) (by simp [Value.oneCell']) (by unfold maxLen; omega) (by omega) (by have := HSZ.out; simp; omega) ?_; intro v3 w3 hown3 hg3 hat3)
        go_roundw
        case rel =>
          have hlow := HO2.out.lt
          have hc3 : Chg (fun q => W1.heap.size ≤ q) wr w3 := ((Chg.refl (fun q => W1.heap.size ≤ q) wr).alloc _).grown hg3 (fun q hq => .inl (hlow q hq).1)
          have e1 : intsV (posZ pl (s : Int) k) ++ [.int .i64 (k : Int)] = intsV (posZ pl (s : Int) (k + 1)) := by rw [HSN.out]; simp [intsV]
          have e2 : N + 1 = (posZ pl (s : Int) (k + 1)).length := by rw [HSN.out, HNN.out]; simp
          rw [e1, e2] at hown3
          exact ⟨k + 1, by omega, by go_num, own_chg HPO.out hc3 (fun q hq h => by have := HQ.out q hq; omega), hown3, HB.out.trans (hc3.below (fun q hq => by have := HB1.out.size; omega) HB.out.size), Nat.le_trans HSZ.out hc3.size, HQ.out⟩
        case measure => simp [intOf]; omega
      · have hyy : (y == (s : Int)) = false := by simp [hys]
        rw [if_neg (fun h => hys (by injection h)), List.append_nil] at hsn
        have HSN := hide hsn
        clear hsn hys
        go_wp2
        go_roundw
        case rel => exact ⟨k + 1, by omega, by go_num, HPO.out, by rw [HSN.out]; exact HO.out, HB.out, HSZ.out, HQ.out⟩
        case measure => simp [intOf]; omega
    · obtain rfl : S = k := by omega
      go_wp2
      go_ret2
      exact ⟨_, rfl, own_base hown (fun q hq => by have := (hown.lt q hq).1; have := HB1.out.size; omega), hb⟩
end Go.Proofs.Ytohgnohifojdbaa
