/- portmanteaulaw12.known and has walked. -/
import Derived.Test.YtemiaagaggjbiaaFlF
import Derived.Test.YtemiaagaggjbiaaStD
namespace Go.Proofs.Ytemiaagaggjbiaa
open Go.RowKit Go Go.Shelf
set_option linter.unusedVariables false
set_option maxRecDepth 8000

theorem outD_a : OutD (2 : Nat) [3, 1] [19] 2 0 [0, 1] := by
  refine .inr (.inr (.inr ⟨2, 2, 4, rfl, rfl, okT_a, by decide, by decide, by decide +kernel, .inl ⟨?_, rfl⟩⟩))
  rw [build_a]
  decide +kernel
theorem outD_b : OutD (2 : Nat) [3, 1] [1] 0 0 [] := by
  refine .inr (.inr (.inr ⟨2, 0, 0, rfl, rfl, okT_a, by decide, by decide, by decide +kernel, .inl ⟨?_, rfl⟩⟩))
  rw [build_a]
  decide +kernel
theorem outD_c : OutD (2 : Nat) [3, 1] [2] 0 14 [] := by
  refine .inr (.inr (.inr ⟨2, 0, 1, rfl, rfl, okT_a, by decide, by decide, by decide +kernel, .inr ⟨?_, rfl, rfl⟩⟩))
  rw [build_a]
  decide +kernel
theorem outD_d : OutD (2 : Nat) [3, 1] [] 0 14 [] := .inr (.inr (.inl ⟨okT_a, by decide, rfl, rfl, rfl⟩))

theorem dec_small {A B : Option Addr} {nb cb : Nat} {bs : List Nat} {n k : Int} {S : List Int} (hO : OutD (2 : Nat) [3, 1] bs n k S) (w : World) (hr : Reads w w.heap.size 1 A 2 ([3, 1].map (Value.int .i64)))
    (hrb : Reads w w.heap.size 1 B nb (u8s bs)) (h8 : ∀ x ∈ bs, x < 256) (hnb : nb = bs.length) (hmb : nb ≤ 1000000) :
    Calls Try.prog 13 #[.agg #[.int .i64 2, .slice A 2 2], .slice B nb cb, .int .i64 n] w fun e w' => ∃ A' c', e = .returned (.tuple #[.slice A' S.length c', .int .i64 k]) ∧ Reads w' w'.heap.size 1 A' S.length (intsV S) ∧ Below w.heap.size w w' := by
  refine (dec_any hO w rfl hr (by decide) (Nat.le_refl _) (by decide) hrb h8 hnb hmb).mono ?_
  rintro e w' ⟨v, rfl, h1, h2⟩
  obtain ⟨A', c', rfl⟩ := own_form h1
  exact ⟨A', c', rfl, .of_own h1, h2⟩

set_option maxHeartbeats 4000000 in
theorem known_any (w : World) : Calls Try.prog 12 #[] w fun e w' => e = .returned (.bool true) ∧ Below w.heap.size w w' := by
  have HSM := hide small_any
  have HA := hide (fun A B nb cb W (hr : Reads W W.heap.size 1 A 2 ([3, 1].map (Value.int .i64))) hrb h8 hnb hmb => dec_small (B := B) (nb := nb) (cb := cb) outD_a W hr hrb h8 hnb hmb)
  have HBB := hide (fun A B nb cb W (hr : Reads W W.heap.size 1 A 2 ([3, 1].map (Value.int .i64))) hrb h8 hnb hmb => dec_small (B := B) (nb := nb) (cb := cb) outD_b W hr hrb h8 hnb hmb)
  have HC := hide (fun A B nb cb W (hr : Reads W W.heap.size 1 A 2 ([3, 1].map (Value.int .i64))) hrb h8 hnb hmb => dec_small (B := B) (nb := nb) (cb := cb) outD_c W hr hrb h8 hnb hmb)
  have HD := hide (fun A B nb cb W (hr : Reads W W.heap.size 1 A 2 ([3, 1].map (Value.int .i64))) hrb h8 hnb hmb => dec_small (B := B) (nb := nb) (cb := cb) outD_d W hr hrb h8 hnb hmb)
  have HB0 := hide (Below.refl w.heap.size w)
  go_enter Try.func12, Try.ntmps12
  go_wp2_with fail
  refine (HSM.out _).mono ?_
  rintro e V1 ⟨A1, rfl, hr1, b1⟩
  have HR1 := hide hr1
  have HBV1 := hide (HB0.out.trans (b1.mono HB0.out.size))
  obtain ⟨X1, hX1⟩ : ∃ X, X = V1.alloc (.cells #[.int .u8 19] 5 (0, 0)) := ⟨_, rfl⟩
  have hx1 : Reads X1 X1.heap.size 1 (some ⟨V1.heap.size, 0, none⟩) 1 (u8s [19]) := by rw [hX1]; exact reads_blk (heap_alloc_new V1 _) rfl
  have hs1 : Reads X1 X1.heap.size 1 A1 2 ([3, 1].map (Value.int .i64)) := by rw [hX1]; exact (HR1.out.alloc (Nat.le_refl _) _).more (by simp)
  have HBX1 : Hid (Below w.heap.size w X1) := by rw [hX1]; exact HBV1.out.alloc HBV1.out.size _
  have HXX1 := hide hx1
  have HXS1 := hide hs1
  have HXE1 := hide hX1
  clear hr1 b1 hX1 hx1 hs1
  go_wp2_with fail
  rw [← HXE1.out]
  go_wp2_with fail
  refine (HA.out _ _ _ _ X1 HXS1.out HXX1.out (by decide) rfl (by decide)).mono ?_
  rintro e W1 ⟨B1, c1, rfl, hq1, d1⟩
  have HB1 := hide (HBX1.out.trans (d1.mono HBX1.out.size))
  have HK1 := hide hq1
  clear d1 hq1
  go_wp2_with fail
  refine (HSM.out _).mono ?_
  rintro e V2 ⟨A2, rfl, hr2, b2⟩
  have HR2 := hide hr2
  have HBV2 := hide (HB1.out.trans (b2.mono HB1.out.size))
  have HK2 := hide (HK1.out.below b2 |>.more b2.size)
  obtain ⟨X2, hX2⟩ : ∃ X, X = V2.alloc (.cells #[.int .u8 1] 5 (0, 0)) := ⟨_, rfl⟩
  have hx2 : Reads X2 X2.heap.size 1 (some ⟨V2.heap.size, 0, none⟩) 1 (u8s [1]) := by rw [hX2]; exact reads_blk (heap_alloc_new V2 _) rfl
  have hs2 : Reads X2 X2.heap.size 1 A2 2 ([3, 1].map (Value.int .i64)) := by rw [hX2]; exact (HR2.out.alloc (Nat.le_refl _) _).more (by simp)
  have HBX2 : Hid (Below w.heap.size w X2) := by rw [hX2]; exact HBV2.out.alloc HBV2.out.size _
  have HXX2 := hide hx2
  have HXS2 := hide hs2
  have HKX2 := hide (show Reads X2 X2.heap.size 1 B1 2 (intsV [0, 1]) by rw [hX2]; exact (HK2.out.alloc (Nat.le_refl _) _).more (by simp))
  have HXE2 := hide hX2
  clear hr2 b2 hX2 hx2 hs2
  go_wp2_with fail
  rw [← HXE2.out]
  go_wp2_with fail
  refine (HBB.out _ _ _ _ X2 HXS2.out HXX2.out (by decide) rfl (by decide)).mono ?_
  rintro e W2 ⟨B2, c2, rfl, hq2, d2⟩
  have HB2 := hide (HBX2.out.trans (d2.mono HBX2.out.size))
  replace HK2 := hide ((HKX2.out.below d2).more d2.size)
  clear d2 hq2
  go_wp2_with fail
  refine (HSM.out _).mono ?_
  rintro e V3 ⟨A3, rfl, hr3, b3⟩
  have HR3 := hide hr3
  have HBV3 := hide (HB2.out.trans (b3.mono HB2.out.size))
  have HK3 := hide (HK2.out.below b3 |>.more b3.size)
  obtain ⟨X3, hX3⟩ : ∃ X, X = V3.alloc (.cells #[.int .u8 2] 5 (0, 0)) := ⟨_, rfl⟩
  have hx3 : Reads X3 X3.heap.size 1 (some ⟨V3.heap.size, 0, none⟩) 1 (u8s [2]) := by rw [hX3]; exact reads_blk (heap_alloc_new V3 _) rfl
  have hs3 : Reads X3 X3.heap.size 1 A3 2 ([3, 1].map (Value.int .i64)) := by rw [hX3]; exact (HR3.out.alloc (Nat.le_refl _) _).more (by simp)
  have HBX3 : Hid (Below w.heap.size w X3) := by rw [hX3]; exact HBV3.out.alloc HBV3.out.size _
  have HXX3 := hide hx3
  have HXS3 := hide hs3
  have HKX3 := hide (show Reads X3 X3.heap.size 1 B1 2 (intsV [0, 1]) by rw [hX3]; exact (HK3.out.alloc (Nat.le_refl _) _).more (by simp))
  have HXE3 := hide hX3
  clear hr3 b3 hX3 hx3 hs3
  go_wp2_with fail
  rw [← HXE3.out]
  go_wp2_with fail
  refine (HC.out _ _ _ _ X3 HXS3.out HXX3.out (by decide) rfl (by decide)).mono ?_
  rintro e W3 ⟨B3, c3, rfl, hq3, d3⟩
  have HB3 := hide (HBX3.out.trans (d3.mono HBX3.out.size))
  replace HK3 := hide ((HKX3.out.below d3).more d3.size)
  clear d3 hq3
  go_wp2_with fail
  refine (HSM.out _).mono ?_
  rintro e V4 ⟨A4, rfl, hr4, b4⟩
  have HR4 := hide hr4
  have HBV4 := hide (HB3.out.trans (b4.mono HB3.out.size))
  have HK4 := hide (HK3.out.below b4 |>.more b4.size)
  clear hr4 b4
  go_wp2_with fail
  refine (HD.out _ _ _ _ V4 HR4.out Reads.none_ (by decide) rfl (by decide)).mono ?_
  rintro e W4 ⟨B4, c4, rfl, hq4, d4⟩
  have HB4 := hide (HBV4.out.trans (d4.mono HBV4.out.size))
  replace HK4 := hide ((HK4.out.below d4).more d4.size)
  clear d4 hq4
  obtain ⟨Y, hY⟩ : ∃ Y, Y = W4.alloc (.cells #[.int .i64 0, .int .i64 1] 3 (0, 0)) := ⟨_, rfl⟩
  have hy : Reads Y Y.heap.size 1 (some ⟨W4.heap.size, 0, none⟩) 2 (intsV [0, 1]) := by rw [hY]; exact reads_blk (heap_alloc_new W4 _) rfl
  have hk : Reads Y Y.heap.size 1 B1 2 (intsV [0, 1]) := by rw [hY]; exact (HK4.out.alloc (Nat.le_refl _) _).more (by simp)
  have HBY : Hid (Below w.heap.size w Y) := by rw [hY]; exact HB4.out.alloc HB4.out.size _
  have HYY := hide hy
  have HYK := hide hk
  have HYE := hide hY
  clear hY hy hk
  go_wp2_with fail
  rw [← HYE.out]
  go_wp2_with fail
  refine (isame_any B1 (some ⟨W4.heap.size, 0, none⟩) 2 c1 2 2 [0, 1] [0, 1] Y HYK.out HYY.out rfl rfl (by decide)).mono ?_
  rintro e W9 ⟨rfl, j, rfl⟩
  have HB9 := hide (below_drewN HBY.out j)
  go_wp2
  go_ret
  exact ⟨ret_bool (by simp), HB9.out⟩
end Go.Proofs.Ytemiaagaggjbiaa
