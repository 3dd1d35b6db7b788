/- portmanteaulaw02.BitoutOwn walked. -/
import Derived.Test.YtbhpflckcehcfaaL2B
namespace Go.Proofs.Ytbhpflckcehcfaa
open Go.RowKit
set_option linter.unusedVariables false

/-- A slice of the call's own is filled: nothing else turns. -/
def Fill (w w' : World) (g : Option Nat) : Prop := Chg (fun b => some b = g) w w'

set_option maxHeartbeats 4000000 in
theorem walk_BitoutOwn {w : World} (A : Option Addr) (n c : Nat) (xs : List (Int × Int)) (hn : n = xs.length) (hr : Reads w w.heap.size 2 A n (putCells xs)) (hok : OkPuts xs) (hm : c ≤ maxLen) (hc : n ≤ c)
    (A' : Option Addr) (n' c' : Nat) (ys : List (Int × Int)) (hn' : n' = ys.length) (hr' : Reads w w.heap.size 2 A' n' (putCells ys)) (hok' : OkPuts ys) (hm' : c' ≤ maxLen) (hc' : n' ≤ c') :
    Calls Try.prog 9 #[.slice A n c, .slice A' n' c'] w fun e w' => e = .returned (.bool true) ∧ Below w.heap.size w w' := by
  by_cases hbig : 60 < n
  · clear hm hr hok hn hr' hok' hn' hm'
    go_enter Try.func9, Try.ntmps9
    go_wp2_with (go_at_call 11; refine (known_any _).mono ?_; rintro e w1 ⟨rfl, hb⟩)
    go_ret
    exact ⟨rfl, hb⟩
  · by_cases hbig' : 60 < n'
    · clear hm hr hok hn hr' hok' hn' hm'
      go_enter Try.func9, Try.ntmps9
      go_wp2_with (go_at_call 11; refine (known_any _).mono ?_; rintro e w1 ⟨rfl, hb⟩)
      go_ret
      exact ⟨rfl, hb⟩
    · obtain ⟨i0, hi, hz0, hz1, hz2⟩ := info_parts info_bool
      have hw0 := Wr.new w w.heap.size (Nat.le_refl _)
      have hb0 := (Below.refl w.heap.size w).alloc (Nat.le_refl _) (.cells #[.int .u64 0, .int .i64 0, .slice none 0 0] 29)
      obtain ⟨W0, hW0⟩ : ∃ W0, W0 = w.alloc (.cells #[.int .u64 0, .int .i64 0, .slice none 0 0] 29) := ⟨_, rfl⟩
      rw [← hW0] at hw0 hb0
      have HW0 := hide hW0
      have HX0 := hide hw0
      have HB0 := hide hb0
      have hlen := allBits_le xs
      have hlen' := allBits_le ys
      have hLb : (allBits xs).length ≤ 6400 := by omega
      have hLb' : (allBits ys).length ≤ 6400 := by omega
      have HN := hide hn
      have HOK := hide hok
      have HR := hide hr
      have HN' := hide hn'
      have HOK' := hide hok'
      have HR' := hide hr'
      clear hm hr hok hn hr' hok' hn' hm' hw0 hb0 hW0 hlen hlen'
      go_enter Try.func9, Try.ntmps9
      go_wp2_with fail
      rw [← HW0.out]
      refine (puts_any A n c xs W0 HX0.out (HR.out.below HB0.out) HOK.out HN.out (by omega) (by omega) HB0.out.size).mono ?_
      rintro e W1 ⟨rfl, F1, hp⟩
      have hx1 : Wr W1 w.heap.size w.heap.size F1 (allBits xs).length (natOf (allBits xs)) := by simpa using hp.wr
      have HB1 := hide (HB0.out.trans (hp.old (fun _ h => by cases h) HB0.out.size))
      have HX1 := hide hx1
      clear hp hx1 HX0
      go_wp2_with fail
      refine (bytes_of W1 HX1.out (by omega)).mono ?_
      rintro e W2 ⟨u2, rfl, own2, hb2⟩
      obtain ⟨A2, c2, rfl⟩ := own_form own2
      have HB2 := hide (HB1.out.trans (hb2.mono HB1.out.size))
      have HX2 := hide (HX1.out.below hb2)
      have hlo2 : ∀ k, (Value.slice A2 (pack (allBits xs).length (natOf (allBits xs))).length c2).ownBlock = some k → W1.heap.size ≤ k := fun k hk => (own2.lt k hk).1
      obtain ⟨M2, hM2⟩ : ∃ M2, M2 = (pack (allBits xs).length (natOf (allBits xs))).length := ⟨_, rfl⟩
      have hM2b : M2 ≤ 801 := by rw [hM2, pack_length]; omega
      rw [← hM2] at own2 hlo2 ⊢
      have hF1 := HX1.out.ltF
      have hg1 := HX1.out.lt
      have hsz12 := hb2.size
      have HO2 := hide own2
      have hgA : (Value.slice A2 M2 c2).ownBlock ≠ some w.heap.size := fun h => by have := hlo2 _ h; omega
      have hFA : ∀ k, F1 = some k → (Value.slice A2 M2 c2).ownBlock ≠ some k := fun k hk h => by have := hlo2 _ h; have := (hF1 k hk).2.1; omega
      have HGA := hide hgA
      have HFA := hide hFA
      have HLO2 := hide hlo2
      have HSZ12 := hide hsz12
      have HF1 := hide (fun k hk => (hF1 k hk).2.1 : ∀ k, F1 = some k → k < W1.heap.size)
      have HG1 := hide hg1
      clear own2 hb2 hlo2 hgA hFA hF1 hM2 hsz12 hg1
      go_wp2_with fail
      refine (close_of W2 HX2.out (by omega)).mono ?_
      rintro e W3 ⟨u3, rfl, own3, hb3⟩
      obtain ⟨A3, c3, rfl⟩ := own_form own3
      have HB3 := hide (HB2.out.trans (hb3.mono HB2.out.size))
      have HX3 := hide (HX2.out.below hb3)
      have HO2b := hide (own_below HO2.out hb3)
      have hlo3 : ∀ k, (Value.slice A3 (pack ((allBits xs).length + 1) (natOf (allBits xs) + 2 ^ (allBits xs).length)).length c3).ownBlock = some k → W2.heap.size ≤ k := fun k hk => (own3.lt k hk).1
      obtain ⟨M3, hM3⟩ : ∃ M3, M3 = (pack ((allBits xs).length + 1) (natOf (allBits xs) + 2 ^ (allBits xs).length)).length := ⟨_, rfl⟩
      have hM3b : M3 ≤ 801 := by rw [hM3, pack_length]; omega
      rw [← hM3] at own3 hlo3 ⊢
      have HO3 := hide own3
      have hgB : (Value.slice A3 M3 c3).ownBlock ≠ some w.heap.size := fun h => by have := hlo3 _ h; have := HG1.out; have := HSZ12.out; omega
      have hFB : ∀ k, F1 = some k → (Value.slice A3 M3 c3).ownBlock ≠ some k := fun k hk h => by have := hlo3 _ h; have := HF1.out k hk; have := HSZ12.out; omega
      have hAB : ∀ k, (Value.slice A3 M3 c3).ownBlock = some k → (Value.slice A2 M2 c2).ownBlock ≠ some k := fun k h3 h2 => by have := hlo3 _ h3; have := (HO2.out.lt k h2).2; omega
      have hBB : ∀ k, (Value.slice A2 M2 c2).ownBlock = some k → w.heap.size ≤ k := fun k h => by have := HLO2.out k h; have := HB1.out.size; omega
      have hBB3 : ∀ k, (Value.slice A3 M3 c3).ownBlock = some k → w.heap.size ≤ k := fun k h => by have := hlo3 k h; have := HB2.out.size; omega
      have HGB := hide hgB
      have HFB := hide hFB
      have HAB := hide hAB
      have HBB := hide hBB
      have HBB3 := hide hBB3
      clear own3 hb3 hlo3 hgB hFB hAB hM3 hBB hBB3 HX1 HX2 HO2
      go_wp2_with fail
      go_loopw [8] (fun i wr => ∃ k : Nat, k ≤ M2 ∧ i = .int .i64 k ∧ Chg (fun b => (Value.slice A2 M2 c2).ownBlock = some b) W3 wr ∧ ∃ l, wr.ownsRow 0 5 1 (.slice A2 M2 c2) M2 l) (fun i _ => M2 - (intOf i).toNat)
      case atStart => exact ⟨0, Nat.zero_le _, rfl, Chg.refl _ _, _, own_low HO2b.out⟩
      case round =>
        obtain ⟨k, hk, rfl, hchg, l, hol⟩ := hrel
        have HCH := hide hchg
        have HOL := hide hol
        clear hchg hol
        by_cases hlt : k < M2
        · obtain ⟨g2, cu, hAeq, _, _⟩ := HOL.out.form (by omega)
          have hll : k < l.length := by have := HOL.out.1; omega
          have hA2 : A2 = some ⟨g2, 0, none⟩ := by injection hAeq
          subst hA2
          have kk := HOL.out.cellAt k (by omega)
          rw [List.getElem?_eq_getElem hll] at kk
          have kf := HOL.out.frozenAt k
          have hkn : (k : Int) < (M2 : Int) := by omega
          go_wp2
          go_roundw
          case rel => exact ⟨k + 1, by omega, by go_num, HCH.out.setCell (p := ⟨g2, k, none⟩) (.inl rfl) _, _, (HOL.out.stored k (.int .u8 77)).1⟩
          case measure => simp [intOf]; omega
        · have hb4 : Below w.heap.size w wr := HB3.out.trans (HCH.out.below HBB.out HB3.out.size)
          have hx4 := HX3.out.chg HCH.out HGA.out HFA.out
          have ho4 := own_chg HO3.out HCH.out HAB.out
          have HB4 := hide hb4
          have HX4 := hide hx4
          have HO4 := hide ho4
          obtain ⟨W4, hW4⟩ : ∃ W4, W4 = wr := ⟨_, rfl⟩
          subst hW4
          clear hb4 hx4 ho4 HX3 HO3 HO2b HCH HOL HGA HFA HAB HBB
          go_wp2_with fail
          go_loopw [9] (fun i wr => ∃ k : Nat, k ≤ M3 ∧ i = .int .i64 k ∧ Chg (fun b => (Value.slice A3 M3 c3).ownBlock = some b) W4 wr ∧ ∃ l, wr.ownsRow 0 5 1 (.slice A3 M3 c3) M3 l) (fun i _ => M3 - (intOf i).toNat)
          case atStart => exact ⟨0, Nat.zero_le _, rfl, Chg.refl _ _, _, own_low HO4.out⟩
          case round =>
            obtain ⟨k, hk, rfl, hchg, l, hol⟩ := hrel
            have HCH := hide hchg
            have HOL := hide hol
            clear hchg hol
            by_cases hlt : k < M3
            · obtain ⟨g2, cu, hAeq, _, _⟩ := HOL.out.form (by omega)
              have hll : k < l.length := by have := HOL.out.1; omega
              have hA2 : A3 = some ⟨g2, 0, none⟩ := by injection hAeq
              subst hA2
              have kk := HOL.out.cellAt k (by omega)
              rw [List.getElem?_eq_getElem hll] at kk
              have kf := HOL.out.frozenAt k
              have hkn : (k : Int) < (M3 : Int) := by omega
              go_wp2
              go_roundw
              case rel => exact ⟨k + 1, by omega, by go_num, HCH.out.setCell (p := ⟨g2, k, none⟩) (.inl rfl) _, _, (HOL.out.stored k (.int .u8 78)).1⟩
              case measure => simp [intOf]; omega
            · have hb5 : Below w.heap.size w wr := HB4.out.trans (HCH.out.below HBB3.out HB4.out.size)
              have hx5 := HX4.out.chg HCH.out HGB.out HFB.out
              have HB5 := hide hb5
              have HX5 := hide hx5
              obtain ⟨W5, hW5⟩ : ∃ W5, W5 = wr := ⟨_, rfl⟩
              subst hW5
              clear hb5 hx5 HX4 HO4 HCH HOL HGB HFB HBB3
              go_wp2_with fail
              refine (puts_any A' n' c' ys W5 HX5.out (HR'.out.below HB5.out) HOK'.out HN'.out (by omega) (by omega) HB5.out.size).mono ?_
              rintro e W6 ⟨rfl, F6, hp⟩
              have HB6 := hide (HB5.out.trans (hp.old (fun k hk => (HX5.out.ltF k hk).1) HB5.out.size))
              have hx6 := hp.wr
              have en : natOf (allBits xs) + natOf (allBits ys) * 2 ^ (allBits xs).length = natOf (allBits xs ++ allBits ys) := by rw [natOf_append, Nat.mul_comm]
              have el : (allBits xs).length + (allBits ys).length = (allBits xs ++ allBits ys).length := by simp
              rw [en, el] at hx6
              obtain ⟨bb, hbb⟩ : ∃ bb, bb = allBits xs ++ allBits ys := ⟨_, rfl⟩
              have hbl : bb.length ≤ 12800 := by rw [hbb, ← el]; omega
              rw [← hbb] at hx6
              have HX6 := hide hx6
              have HBBQ := hide hbb
              clear hp hx6 en el hbb HX5
              go_wp2_with fail
              refine (bytes_of W6 HX6.out (by omega)).mono ?_
              rintro e W7 ⟨u7, rfl, own7, hb7⟩
              have HB7 := hide (HB6.out.trans (hb7.mono HB6.out.size))
              have HO7 := hide own7
              have HO7e := hide (fun k hk => (own7.lt k hk).2 : ∀ k, u7.ownBlock = some k → k < W7.heap.size)
              clear own7 hb7 HX6
              go_wp2_with fail
              refine (all_any A n c xs W7 ((HR.out.below HB7.out).more HB7.out.size) HOK.out HN.out (by omega)).mono ?_
              rintro e W8 ⟨u8, rfl, own8, hb8⟩
              have HB8 := hide (HB7.out.trans (hb8.mono HB7.out.size))
              have HO7b := hide (own_below HO7.out hb8)
              have HO8 := hide own8
              have HSZ8 := hide hb8.size
              clear own8 hb8 HO7
              go_wp2_with fail
              refine (all_any A' n' c' ys W8 ((HR'.out.below HB8.out).more HB8.out.size) HOK'.out HN'.out (by omega)).mono ?_
              rintro e W9 ⟨u9, rfl, own9, hb9⟩
              obtain ⟨A9, c9, rfl⟩ := own_form own9
              have HB9 := hide (HB8.out.trans (hb9.mono HB8.out.size))
              have HO7c := hide (own_below HO7b.out hb9)
              have HO8b := hide (own_below HO8.out hb9)
              have HRD := hide (Reads.of_own own9)
              have hs78 := HO7b.out.lt
              have hs8 := HO8.out.lt
              have hdis : u7.ownBlock = none ∨ u7.ownBlock ≠ u8.ownBlock := by
                cases h7 : u7.ownBlock with
                | none => exact .inl rfl
                | some k =>
                  refine .inr fun h8 => ?_
                  have h1 := (hs8 k h8.symm).1
                  have h2 := HO7e.out k h7
                  omega
              have HDIS := hide hdis
              have hbase : W7.heap.size ≤ W9.heap.size := by have := hb9.size; have := HSZ8.out; omega
              obtain ⟨N1, hN1⟩ : ∃ N1, N1 = (allBits xs).length := ⟨_, rfl⟩
              obtain ⟨N2, hN2⟩ : ∃ N2, N2 = (allBits ys).length := ⟨_, rfl⟩
              have ho8 := HO8b.out
              have hrd := HRD.out
              rw [← hN1] at ho8
              rw [← hN2] at hrd ⊢
              have HO8c := hide ho8
              have HRDc := hide hrd
              have hN1b : N1 ≤ 6400 := by omega
              have hN2b : N2 ≤ 6400 := by omega
              have HN1 := hide hN1
              have HN2 := hide hN2
              clear own9 hb9 hs78 hs8 hdis ho8 hrd hN1 hN2 HRD HO8b HO8 HO7b
              go_wp2_with (first
                | (at_builtin; refine wpList_append_any_g _ rfl (.tmp 47) (.tmp 49) _ rfl W7.heap.size 4 i0 _ 1 1 Try.underlying33 hi hz0 hz1 hz2 rfl Nat.zero_lt_one u8 N1 _ rfl HO8c.out W9.heap.size A9 N2 c9 _ rfl HRDc.out (bools_one _) (by unfold maxLen; omega) (by omega) hbase ?_; intro v10 W10 hown10 hg10 hat10; have HO10 := hide hown10; have HG10 := hide hg10; clear hown10 hg10 hat10; obtain ⟨A10, c10, rfl⟩ := own_form HO10.out)
                | fail)
              have hb10 : Below w.heap.size w W10 := HB9.out.grown HG10.out HB9.out.size (fun k hk => by have := (HO8c.out.lt k hk).1; have := HB7.out.size; omega)
              have ho10 := HO10.out
              have el2 : bools (allBits xs) ++ bools (allBits ys) = bools bb := by rw [HBBQ.out]; simp [bools]
              rw [el2] at ho10
              have el3 : bb.length = N1 + N2 := by rw [HBBQ.out, HN1.out, HN2.out]; simp
              have ho7 := HO7c.out.kept HG10.out HDIS.out
              have HB10 := hide hb10
              have HO10b := hide ho10
              have HO7d := hide ho7
              clear hb10 ho10 el2 ho7
              refine (rbytes_own W10 HO10b.out (by omega)).mono ?_
              rintro e W11 ⟨u11, rfl, own11, hb11⟩
              have HB11 := hide (HB10.out.trans (hb11.mono HB10.out.size))
              rw [← el3] at own11
              have hsame := same_own u7 u11 _ _ W11 (own_below HO7d.out hb11) own11 (pack_byte _ _) (pack_byte _ _)
              rw [decide_eq_true rfl] at hsame
              have HS := hide hsame
              clear own11 hb11 hsame
              go_wp2_with fail
              refine HS.out.mono ?_
              rintro e W12 ⟨rfl, rfl⟩
              go_wp2_with fail
              refine (known_any _).mono ?_
              rintro e W13 ⟨rfl, hb13⟩
              have HB13 := hide (HB11.out.trans (hb13.mono HB11.out.size))
              clear hb13
              go_wp2_with fail
              go_ret
              exact ⟨rfl, HB13.out⟩
end Go.Proofs.Ytbhpflckcehcfaa
