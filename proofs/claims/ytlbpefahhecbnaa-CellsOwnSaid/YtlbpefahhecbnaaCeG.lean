/- portmanteaulaw09.CellsOne walked. -/
import Derived.Test.YtlbpefahhecbnaaCeF
import Derived.Test.YtlbpefahhecbnaaCeC
namespace Go.Proofs.Ytlbpefahhecbnaa
open Go.RowKit Go Go.Shelf
set_option linter.unusedVariables false

theorem own_cap {w : World} {base : Nat} {e : TypeId} {size n c : Nat} {A : Option Addr} {xs : List Value} (h : w.ownsRow base e size (.slice A n c) n xs) : n ≤ c ∧ c ≤ maxLen := by
  rcases h.2 with ⟨h1, h2⟩ | ⟨g, cap, cur, h1, _, _, h2, h3, _⟩
  · injection h1 with _ _ hc
    subst hc
    exact ⟨by omega, by unfold maxLen; omega⟩
  · injection h1 with _ _ hc
    subst hc
    exact ⟨h2, h3⟩
theorem sumAbs_rep (s : Nat) : sumAbs (List.replicate s 0) = 0 := by
  induction s with
  | zero => rfl
  | succ s ih => rw [List.replicate_succ]; show absZ 0 + _ = 0; rw [ih]; rfl
theorem okT_one {s : Nat} (h : s ≤ 255) : okT ((0 : Nat) : Int) (oneL s) := by
  refine ⟨by omega, by rw [oneL_length]; omega, ?_, ?_, ?_⟩
  · unfold oneL; simp
  · intro z hz
    unfold oneL at hz
    rcases List.mem_append.1 hz with h1 | h1
    · rw [List.eq_of_mem_replicate h1]; omega
    · simp at h1; omega
  · unfold oneL
    rw [sumAbs_append, sumAbs_rep]
    decide
theorem wf_one {s : Nat} : ∀ z ∈ oneL s, (Lit.int .i64 z).wf = true := by
  intro z hz
  unfold oneL at hz
  rcases List.mem_append.1 hz with h1 | h1
  · rw [List.eq_of_mem_replicate h1]; decide
  · simp at h1; subst h1; decide
theorem build_one {s : Nat} (h : s ≤ 255) : buildL 0 (oneL s) = [((s : Int), 0, 0)] := by
  obtain ⟨v, z, hv, hpl, hz, hz1, hz0, hx, _⟩ := at_index (okT_one h) (k := 0) (by decide)
  have hvs : v = s ∧ z = 1 := by
    rw [oneL_length] at hv
    unfold oneL at hz
    by_cases hvs : v < s
    · rw [List.getElem?_append_left (by simpa using hvs)] at hz
      simp [hvs] at hz
      exact absurd hz.symm hz0
    · obtain rfl : v = s := by omega
      simp at hz
      exact ⟨rfl, hz.symm⟩
  obtain ⟨rfl, rfl⟩ := hvs
  have hx1 : xAt (oneL v) (spreadL (2 ^ 0) (oneL v)) 0 = 1 := by
    rw [List.take_zero, List.count_nil, show absZ 1 = 1 by decide] at hx
    omega
  have hb : Lib.bitLen 1 = 1 := by decide
  unfold buildL
  simp only [Nat.pow_zero, List.range_one, List.map_cons, List.map_nil]
  unfold cellAt
  rw [show spreadL 1 (oneL v) = spreadL (2 ^ 0) (oneL v) by rfl, hx1, hb, List.getD_eq_getElem?_getD, hpl]
  rfl

set_option maxHeartbeats 8000000 in
theorem walk_CellsOne {w : World} (z : Int) (h0 : (Lit.int .i64 z).wf = true) :
    Calls Try.prog 7 #[.int .i64 z] w fun e w' => e = .returned (.bool true) ∧ Below w.heap.size w w' := by
  have HKN := hide known_any
  by_cases hbad : z < 0 ∨ (¬ z < 0 ∧ 255 < z)
  · have HS := hide (single_bad z w hbad)
    rcases hbad with h | ⟨h, h'⟩
    all_goals
      go_enter Try.func7, Try.ntmps7
      go_wp2_with fail
      refine HS.out.mono ?_
      rintro e W1 ⟨rfl, b1⟩
      obtain ⟨W2, hW2⟩ : ∃ W2, W2 = W1.alloc (.cells #[.int .i64 0, .slice none 0 0] 24 (0, 0)) := ⟨_, rfl⟩
      have b2 : Below w.heap.size w W2 := by rw [hW2]; exact b1.alloc b1.size _
      have g2 : W2.heap[W1.heap.size]? = some (.cells #[.int .i64 0, .slice none 0 0] 24 (0, 0)) := by rw [hW2]; exact heap_alloc_new W1 _
      have k0 := cell_blk g2 0
      have k1 := cell_blk g2 1
      have HW2 := hide hW2
      have HB2 := hide b2
      clear b1 b2 hW2 HS
      go_wp2_with fail
      try rw [← HW2.out]
      go_wp2_with fail
      refine (HKN.out _).mono ?_
      rintro e w3 ⟨rfl, hb3⟩
      have HB3 := hide hb3
      clear hb3
      go_wp2
      go_ret
      exact ⟨rfl, HB2.out.trans (HB3.out.mono HB2.out.size)⟩
  · obtain ⟨s, rfl⟩ := Int.eq_ofNat_of_zero_le (show 0 ≤ z by omega)
    have hs : s ≤ 255 := by omega
    have n1 : ¬ (s : Int) < 0 := by omega
    have n2 : ¬ 255 < (s : Int) := by omega
    have HS := hide (single_ok s w hs)
    clear hbad h0
    go_enter Try.func7, Try.ntmps7
    go_wp2_with fail
    refine HS.out.mono ?_
    rintro e W1 ⟨v1, rfl, ho1, b1⟩
    obtain ⟨A, c, rfl⟩ := own_form ho1
    have hcc : s + 1 ≤ c ∧ c ≤ maxLen := own_cap ho1
    obtain ⟨W2, hW2⟩ : ∃ W2, W2 = W1.alloc (.cells #[.int .i64 0, .slice A (s + 1) c] 24 (0, 0)) := ⟨_, rfl⟩
    have b2 : Below w.heap.size w W2 := by rw [hW2]; exact b1.alloc b1.size _
    have g2 : W2.heap[W1.heap.size]? = some (.cells #[.int .i64 0, .slice A (s + 1) c] 24 (0, 0)) := by rw [hW2]; exact heap_alloc_new W1 _
    have o2 : W2.ownsRow w.heap.size 3 1 (.slice A (s + 1) c) (s + 1) ((oneL s).map (Value.int .i64)) := by rw [hW2]; exact ho1.alloc _
    have hcap := (Reads.of_own o2)
    have k0 := cell_blk g2 0
    have k1 := cell_blk g2 1
    have HG2 := hide g2
    have HW2 := hide hW2
    have HB2 := hide b2
    have HO2 := hide o2
    clear b1 b2 hW2 HS ho1 g2 o2
    go_wp2_with fail
    try rw [← HW2.out]
    have HBD := hide (build_ok 0 A (s + 1) c (oneL s) W2 (oneL_length s) hcap wf_one hcc.1 hcc.2 (okT_one hs))
    go_wp2_with fail
    refine HBD.out.mono ?_
    rintro e W3 ⟨v3, rfl, ho3, b3⟩
    rw [build_one hs] at ho3
    obtain ⟨A3, c3, rfl⟩ := own_form ho3
    have hlt2 := lt_of_heap HG2.out
    have g3 := (b3.block _ hlt2).trans HG2.out
    have o3 := own_below HO2.out b3
    have k0 := cell_blk g3 0
    have k1 := cell_blk g3 1
    have hlt := lt_of_heap g3
    have HO3 := hide o3
    have HO4 := hide ho3
    have HB3 := hide (HB2.out.trans (b3.mono HB2.out.size))
    clear b3 ho3 g3 o3 hlt2 HBD
    go_wp2_with fail
    go_region_held3 (fun w' => w'.cell? ⟨W1.heap.size, 0, none⟩ = #[Value.int .i64 0, Value.slice A (s + 1) c][0]? ∧ w'.cell? ⟨W1.heap.size, 1, none⟩ = #[Value.int .i64 0, Value.slice A (s + 1) c][1]?) (go_keep)
      (first
      | (go_at_call 23; refine (one_any s _ hs).mono ?_; rintro e w1 ⟨v1, rfl, oo1, hb1⟩; obtain ⟨AO, cO, rfl⟩ := own_form oo1; replace hb1 := (Below.refl _ W3).drew.trans hb1; have j0 := (hb1.cell (p := ⟨W1.heap.size, 0, none⟩) hlt).trans k0; have j1 := (hb1.cell (p := ⟨W1.heap.size, 1, none⟩) hlt).trans k1; have HB1 := hide hb1; have HOO := hide oo1; clear hb1 oo1)
      | (go_at_call 22; refine (tsame_any 0 0 A AO (s + 1) c (s + 1) cO (oneL s) (oneL s) _ (Reads.of_own (own_below HO3.out HB1.out)) (Reads.of_own HOO.out) (oneL_length s) (oneL_length s) (by omega)).mono ?_; rintro e w2 ⟨he, hb2⟩; obtain rfl : e = .returned (.bool true) := he.trans (ret_bool (by simp)); replace hb2 := HB1.out.trans (hb2.mono HB1.out.size); have l0 := (hb2.cell (p := ⟨W1.heap.size, 0, none⟩) hlt).trans k0; have l1 := (hb2.cell (p := ⟨W1.heap.size, 1, none⟩) hlt).trans k1; have HB2' := hide hb2; clear hb2 he)
      | (go_at_call 15; refine (may_any 0 0 A (s + 1) c (oneL s) _ (.inr ⟨rfl, rfl⟩) (oneL_length s) (Reads.of_own (own_below HO3.out HB2'.out)) wf_one hcc.1 hcc.2).mono ?_; rintro e w3 ⟨he, hb3⟩; obtain rfl : e = .returned (.int .i64 0) := he.elim (fun h => h.2) (fun h => absurd (okT_one hs) h.1); replace hb3 := HB2'.out.trans (hb3.mono HB2'.out.size); have m0 := (hb3.cell (p := ⟨W1.heap.size, 0, none⟩) hlt).trans k0; have m1 := (hb3.cell (p := ⟨W1.heap.size, 1, none⟩) hlt).trans k1; have HB3' := hide hb3; clear hb3 he)
      | (go_at_call 11; refine (HKN.out _).mono ?_; rintro e w5 ⟨rfl, hb5⟩; replace hb5 := HB4'.out.trans (hb5.mono HB4'.out.size); have o0 := (hb5.cell (p := ⟨W1.heap.size, 0, none⟩) hlt).trans k0; have o1 := (hb5.cell (p := ⟨W1.heap.size, 1, none⟩) hlt).trans k1; have HB5' := hide hb5; clear hb5)
      | (go_at_call 14; refine (csame_any A3 (some ⟨w3.heap.size, 0, none⟩) 1 c3 1 1 [((s : Int), 0, 0)] [((s : Int), 0, 0)] _ (Reads.of_own ((own_below HO4.out HB3'.out).alloc _)) (reads_blk (heap_alloc_new w3 _) rfl) rfl rfl (by decide)).mono ?_; rintro e w4 ⟨he, j4, hj4⟩; obtain rfl : e = .returned (.bool true) := he.trans (ret_bool (by simp)); have hb4 : Below W3.heap.size W3 w4 := hj4.symm ▸ ((HB3'.out.alloc HB3'.out.size _).trans (below_drewN (Below.refl _ _) _)); have n0 := (hb4.cell (p := ⟨W1.heap.size, 0, none⟩) hlt).trans k0; have n1 := (hb4.cell (p := ⟨W1.heap.size, 1, none⟩) hlt).trans k1; have HB4' := hide hb4; clear hb4 he hj4))
    go_wp2
    go_ret
    exact ⟨rfl, HB3.out.trans (HB5'.out.mono HB3.out.size)⟩
end Go.Proofs.Ytlbpefahhecbnaa
