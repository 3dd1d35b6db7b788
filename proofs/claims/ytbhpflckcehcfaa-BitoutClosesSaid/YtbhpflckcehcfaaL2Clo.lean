/- portmanteaulaw02.BitoutCloses walked. -/
import Derived.Test.YtbhpflckcehcfaaL2B
namespace Go.Proofs.Ytbhpflckcehcfaa
open Go.RowKit
set_option linter.unusedVariables false

/-- The last byte of a closed stream is not 0. -/
theorem pack_last (L N : Nat) (h : N < 2 ^ L) : ∃ z, (pack (L + 1) (N + 2 ^ L))[L / 8]? = some z ∧ z ≠ 0 ∧ z < 256 ∧ (pack (L + 1) (N + 2 ^ L)).length = L / 8 + 1 := by
  obtain ⟨h1, h2, h3⟩ := pack_set L N h
  have hl := pack_length (L + 1) N
  have hp : 0 < 2 ^ (L % 8) := Nat.pow_pos (by omega)
  refine ⟨N / 256 ^ (L / 8) + 2 ^ (L % 8), ?_, Nat.ne_of_gt (Nat.lt_of_lt_of_le hp (Nat.le_add_left _ _)), h2, by rw [h1, List.length_set, hl]; omega⟩
  rw [h1, List.getElem?_set, if_pos rfl, if_pos (by rw [hl]; omega)]

set_option maxHeartbeats 2000000 in
theorem walk_BitoutCloses {w : World} (A : Option Addr) (n c : Nat) (xs : List (Int × Int)) (hn : n = xs.length) (hr : Reads w w.heap.size 2 A n (putCells xs)) (hok : OkPuts xs) (hm : c ≤ maxLen) (hc : n ≤ c) :
    Calls Try.prog 4 #[.slice A n c] w fun e w' => e = .returned (.bool true) ∧ Below w.heap.size w w' := by
  by_cases hbig : 100 < n
  · clear hm hr hok hn
    go_enter Try.func4, Try.ntmps4
    go_wp2_with (go_at_call 11; refine (known_any _).mono ?_; rintro e w1 ⟨rfl, hb⟩)
    go_ret
    exact ⟨rfl, hb⟩
  · have hw0 := Wr.new w w.heap.size (Nat.le_refl _)
    have hr0 := hr.alloc (Nat.le_refl _) (.cells #[.int .u64 0, .int .i64 0, .slice none 0 0] 29)
    have hb0 := (Below.refl w.heap.size w).alloc (Nat.le_refl _) (.cells #[.int .u64 0, .int .i64 0, .slice none 0 0] 29)
    have hlen := allBits_le xs
    have hLb : (allBits xs).length ≤ 6400 := by omega
    have hNlt := natOf_lt (allBits xs)
    obtain ⟨z, hz1, hz2, hz3, hz4⟩ := pack_last _ _ hNlt
    have HZ1 := hide hz1
    have HZ4 := hide hz4
    have HN := hide hn
    have HR := hide hr
    have HOK := hide hok
    have HW0 := hide hw0
    have HR0 := hide hr0
    have HB0 := hide hb0
    clear hm hr hok hn hw0 hr0 hb0 hNlt hlen hz1 hz4
    go_enter Try.func4, Try.ntmps4
    go_wp2_with fail
    refine (puts_any A n c xs _ HW0.out HR0.out HOK.out HN.out (by omega) (by omega) HB0.out.size).mono ?_
    rintro e W1 ⟨rfl, F1, hp⟩
    have hw1 : Wr W1 w.heap.size w.heap.size F1 (allBits xs).length (natOf (allBits xs)) := by simpa using hp.wr
    have HB1 := hide (HB0.out.trans (hp.old (fun _ h => by cases h) HB0.out.size))
    have HW1 := hide hw1
    clear hp hw1 HB0 HW0 HR0
    go_wp2_with fail
    refine (close_of W1 HW1.out (by omega)).mono ?_
    rintro e W2 ⟨u, rfl, own2, hb2⟩
    obtain ⟨L, hL⟩ : ∃ L, L = (allBits xs).length := ⟨_, rfl⟩
    obtain ⟨M, hM⟩ : ∃ M, M = (pack ((allBits xs).length + 1) (natOf (allBits xs) + 2 ^ (allBits xs).length)).length := ⟨_, rfl⟩
    have hM1 : M = L / 8 + 1 := by rw [hM, HZ4.out, hL]
    obtain ⟨g, cu, rfl, hgb, hgl⟩ := own2.form (by omega)
    have HB2 := hide (HB1.out.trans (hb2.mono HB1.out.size))
    have HW2 := hide (HW1.out.below hb2)
    rw [← hM] at own2 ⊢
    have HO2 := hide own2
    have HM := hide hM
    have hLM : ((M : Int) == (L : Int) / 8 + 1) = true := by simp; omega
    have hMb : M ≤ 801 := by omega
    have hM0 : 1 ≤ M := by omega
    have hLb2 : L ≤ 6400 := by omega
    have HL := hide hL
    have HM1 := hide hM1
    clear own2 hb2 HW1 hM hL hM1
    go_wp2_with fail
    refine (all_any A n c xs W2 ((HR.out.below HB2.out).more HB2.out.size) HOK.out HN.out (by omega)).mono ?_
    rintro e W3 ⟨u3, rfl, own3, hb3⟩
    obtain ⟨A3, c3, rfl⟩ := own_form own3
    have HB3 := hide (HB2.out.trans (hb3.mono HB2.out.size))
    have HW3 := hide (HW2.out.below hb3)
    have HO3 := hide (own_below HO2.out hb3)
    have HQ3 := hide own3
    clear own3 hb3 HO2 HW2
    go_wp2_with fail
    refine (rclose_any A3 _ c3 (allBits xs) W3 (Reads.of_own HQ3.out) (by omega)).mono ?_
    rintro e W4 ⟨u4, rfl, own4, hb4⟩
    have HB4 := hide (HB3.out.trans (hb4.mono HB3.out.size))
    have HW4 := hide (HW3.out.below hb4)
    have HO4 := hide (own_below HO3.out hb4)
    have ho4 := HO4.out
    rw [HM.out] at ho4
    have hsame := same_own _ u4 _ _ W4 ho4 own4 (pack_byte _ _) (pack_byte _ _)
    rw [← HM.out, decide_eq_true rfl] at hsame
    have HS := hide hsame
    clear ho4 hsame own4 hb4 HO3 HW3
    go_wp2_with fail
    refine HS.out.mono ?_
    rintro e W5 ⟨rfl, rfl⟩
    clear HS HQ3
    go_wp2_with fail
    refine (len_of W4 HW4.out (by omega)).mono ?_
    rintro e W5 ⟨rfl, k, rfl⟩
    have hcell : W4.cell? ⟨g, M - 1, none⟩ = some (.int .u8 (z : Int)) := by
      have h1 := HO4.out.cellAt (M - 1) (by omega)
      have e : M - 1 = (allBits xs).length / 8 := by have := HM1.out; have := HL.out; omega
      rw [h1, e]
      exact u8s_at HZ1.out
    rw [← HL.out]
    have hzz : ((z : Int) != 0) = true := by rw [bne_iff_ne]; omega
    have hidx : ((M : Int) - 1).toNat = M - 1 := by omega
    go_wp2_with fail
    refine (known_any _).mono ?_
    rintro e W6 ⟨rfl, hb6⟩
    have HB6 := hide ((HB4.out.trans (below_drewN (Below.refl _ _) k)).trans (hb6.mono (HB4.out.size)))
    clear hb6
    go_wp2_with fail
    go_ret
    exact ⟨rfl, HB6.out⟩
end Go.Proofs.Ytbhpflckcehcfaa
