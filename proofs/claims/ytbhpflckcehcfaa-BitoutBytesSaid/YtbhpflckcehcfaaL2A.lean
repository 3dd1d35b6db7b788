/- portmanteaulaw02.known and portmanteaulaw02.put walked. -/
import Derived.Test.YtbhpflckcehcfaaRefD
namespace Go.Proofs.Ytbhpflckcehcfaa
open Go.RowKit
set_option linter.unusedVariables false

theorem reads_lit1 (w : World) (x : Nat) (t : TypeId) : Reads (w.alloc (.cells #[.int .u8 (x : Int)] t)) (w.heap.size + 1) 1 (some ⟨w.heap.size, 0, none⟩) 1 (u8s [x]) := reads_new w _ t

theorem same_lit {B e n c : Nat} {A : Option Addr} (xs : List Nat) (x : Int) (w : World) (h1 : w.ownsRow B e 1 (.slice A n c) n (u8s xs)) (hx : ∀ b ∈ xs, b < 256) (hy : 0 ≤ x ∧ x < 256) (h2 : xs = [x.toNat]) {G : Nat} (hG : w.heap[G]? = some (.cells #[.int .u8 x] 5 (0, 0))) :
    Calls Try.prog 15 #[.slice A n c, .slice (some ⟨G, 0, none⟩) 1 1] w fun e w' => e = .returned (.bool true) ∧ w = w' := by
  obtain ⟨x, rfl⟩ := Int.eq_ofNat_of_zero_le hy.1
  have hr : Reads w (w.heap.size) 1 (some ⟨G, 0, none⟩) 1 (u8s [x]) := by
    refine ⟨rfl, fun _ => ⟨_, rfl, lt_of_heap hG, fun j u hu => ?_⟩⟩
    match j, hu with
    | 0, hu =>
      simp only [u8s, List.map_cons, List.map_nil, List.getElem?_cons_zero, Option.some.injEq] at hu
      subst hu
      exact cell_blk hG 0
  have h := same_any (B := w.heap.size) A (some ⟨G, 0, none⟩) n c 1 1 xs [x] w (Reads.of_own h1) hr hx (by have := hy.2; simp; omega)
  have hd : decide (xs = [x]) = true := by simpa using h2
  rw [hd] at h
  exact h

set_option maxHeartbeats 2000000 in
theorem known_any (w : World) : Calls Try.prog 11 #[] w fun e w' => e = .returned (.bool true) ∧ Below w.heap.size w w' := by
  have hw0 := Wr.new w w.heap.size (Nat.le_refl _)
  obtain ⟨W0, hW0⟩ : ∃ W0, W0 = w.alloc (.cells #[.int .u64 0, .int .i64 0, .slice none 0 0] 29) := ⟨_, rfl⟩
  have hb0 : Below w.heap.size w W0 := by rw [hW0]; exact (Below.refl _ _).alloc (Nat.le_refl _) _
  rw [← hW0] at hw0
  have HW0 := hide hW0
  have HB0 := hide hb0
  clear hW0 hb0
  go_enter Try.func11, Try.ntmps11
  go_wp2_with fail
  rw [← HW0.out]
  refine (bytes_of W0 hw0 (by omega)).mono ?_
  rintro e W1 ⟨u0, rfl, own0, hb1⟩
  obtain ⟨A0, c0, rfl⟩ := own_form own0
  have hw1 := hw0.below hb1
  have B1 : Below w.heap.size w W1 := HB0.out.trans (hb1.mono HB0.out.size)
  have S1 := hb1.size
  have HB1 := hide B1
  clear B1 hb1 hw0
  go_wp2_with fail
  refine (close_of W1 hw1 (by omega)).mono ?_
  rintro e W2 ⟨u1, rfl, own1, hb2⟩
  obtain ⟨A1, c1, rfl⟩ := own_form own1
  have hw2 := hw1.below hb2
  have hgl := hw1.lt
  have HB2 := hide (HB1.out.trans (hb2.mono HB1.out.size))
  clear hb2 hw1
  go_wp2_with fail
  refine (put_any 5 3 W2 hw2 (by omega) (by omega) (by omega) (by decide) (by omega) HB2.out.size).mono ?_
  rintro e W3 ⟨rfl, F3, p3⟩
  have HP3 := hide p3
  have hw3 := p3.wr
  have HB3 := hide (HB2.out.trans (p3.old (fun _ h => by cases h) HB2.out.size))
  clear p3
  go_wp2_with fail
  refine (put_any 1 2 W3 hw3 (by omega) (by omega) (by omega) (by decide) (by omega) HB3.out.size).mono ?_
  rintro e W4 ⟨rfl, F4, p4⟩
  have p5 := HP3.out.trans p4
  have hw4 : Wr W4 w.heap.size w.heap.size F4 5 13 := p5.wr
  have own4 := own_chg own1 p5.chg (fun k hk h => by
    rcases h with rfl | h
    · have := (own1.lt _ hk).1; omega
    · cases h)
  have HB4 := hide (HB2.out.trans (p5.old (fun _ h => by cases h) HB2.out.size))
  clear p4 p5 HP3 hw3 hw2
  have e0 : (pack 0 0).length = 0 := by decide
  have e1 : (pack (0 + 1) (0 + 2 ^ 0)).length = 1 := by decide
  have hz0 : ((((pack 0 0).length : Nat) : Int) == 0) = true := by decide
  rw [e1] at own4 ⊢
  clear own0 own1
  have HO4 := hide own4
  clear own4
  go_wp2_with fail
  refine (same_lit _ 1 _ (HO4.out.alloc _) (pack_byte _ _) (by omega) (by decide) (heap_alloc_new W4 _)).mono ?_
  rintro e W5 ⟨rfl, rfl⟩
  obtain ⟨W5, hW5⟩ : ∃ V, V = W4.alloc (.cells #[.int .u8 1] 5) := ⟨_, rfl⟩
  rw [← hW5]
  have hw5 : Wr W5 w.heap.size w.heap.size F4 5 13 := by rw [hW5]; exact hw4.below ((Below.refl _ _).alloc (Nat.le_refl _) _)
  have HB5 : Hid (Below w.heap.size w W5) := by rw [hW5]; exact HB4.out.alloc HB4.out.size _
  clear hW5 hw4 HO4
  go_wp2_with fail
  refine (bytes_of W5 hw5 (by omega)).mono ?_
  rintro e W6 ⟨u6, rfl, own6, hb6⟩
  obtain ⟨A6, c6, rfl⟩ := own_form own6
  have hw6 := hw5.below hb6
  have HB6 := hide (HB5.out.trans (hb6.mono HB5.out.size))
  have e6 : (pack 5 13).length = 1 := by decide
  rw [e6] at own6 ⊢
  have HO6 := hide own6
  clear hb6 hw5 own6
  go_wp2_with fail
  refine (same_lit _ 13 _ (HO6.out.alloc _) (pack_byte _ _) (by omega) (by decide) (heap_alloc_new W6 _)).mono ?_
  rintro e W7 ⟨rfl, rfl⟩
  obtain ⟨W7, hW7⟩ : ∃ V, V = W6.alloc (.cells #[.int .u8 13] 5) := ⟨_, rfl⟩
  rw [← hW7]
  have hw7 : Wr W7 w.heap.size w.heap.size F4 5 13 := by rw [hW7]; exact hw6.below ((Below.refl _ _).alloc (Nat.le_refl _) _)
  have HB7 : Hid (Below w.heap.size w W7) := by rw [hW7]; exact HB6.out.alloc HB6.out.size _
  clear hW7 hw6 HO6
  go_wp2_with fail
  refine (close_of W7 hw7 (by omega)).mono ?_
  rintro e W8 ⟨u8, rfl, own8, hb8⟩
  obtain ⟨A8, c8, rfl⟩ := own_form own8
  have hw8 := hw7.below hb8
  have HB8 := hide (HB7.out.trans (hb8.mono HB7.out.size))
  have e8 : (pack (5 + 1) (13 + 2 ^ 5)).length = 1 := by decide
  rw [e8] at own8 ⊢
  have HO8 := hide own8
  clear hb8 hw7 own8
  go_wp2_with fail
  refine (same_lit _ 45 _ (HO8.out.alloc _) (pack_byte _ _) (by omega) (by decide) (heap_alloc_new W8 _)).mono ?_
  rintro e W9 ⟨rfl, rfl⟩
  obtain ⟨W9, hW9⟩ : ∃ V, V = W8.alloc (.cells #[.int .u8 45] 5) := ⟨_, rfl⟩
  rw [← hW9]
  have hw9 : Wr W9 w.heap.size w.heap.size F4 5 13 := by rw [hW9]; exact hw8.below ((Below.refl _ _).alloc (Nat.le_refl _) _)
  have HB9 : Hid (Below w.heap.size w W9) := by rw [hW9]; exact HB8.out.alloc HB8.out.size _
  clear hW9 hw8 HO8
  go_wp2_with fail
  refine (len_of W9 hw9 (by omega)).mono ?_
  rintro e W10 ⟨rfl, k, rfl⟩
  go_wp2_with fail
  refine (put_bad w.heap.size 4 2 _ (.inr (.inr ⟨by omega, by omega, by decide⟩)) (by omega) (by omega)).mono ?_
  rintro e W11 ⟨rfl, rfl⟩
  go_wp2_with fail
  go_ret
  exact ⟨rfl, HB9.out.trans (below_drewN (Below.refl _ _) _)⟩
end Go.Proofs.Ytbhpflckcehcfaa
