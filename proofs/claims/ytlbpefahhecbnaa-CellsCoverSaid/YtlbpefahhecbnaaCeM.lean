/- portmanteaulaw09.CellsSpans walked. -/
import Derived.Test.YtlbpefahhecbnaaCeL
namespace Go.Proofs.Ytlbpefahhecbnaa
open Go.RowKit Go
set_option linter.unusedVariables false

theorem quiet_len_add {P : Program} {f : FuncId} {args : Array Value} {w : World} {a n : Nat} {v : Value}
    (h : Calls P f args (w.drewN (a + n)) fun e w' => e = .returned v ∧ w' = w.drewN (a + n)) : Calls P f args (w.drewN (a + n)) fun e w'' => e = .returned v ∧ ∃ m, w'' = w.drewN (a + m) :=
  h.mono fun _ _ ⟨he, hm⟩ => ⟨he, n, hm⟩
theorem span_cells {w : World} {B n : Nat} {A : Option Addr} {xs : List SpanT} (h : Reads w B 2 A n (spansV xs)) (hn : n = xs.length) {k : Nat} (hk : k < n) :
    ∃ b off x y, A = some ⟨b, off, none⟩ ∧ b < B ∧ w.cell? ⟨b, off + k * 2, none⟩ = some (.int .i64 x) ∧ w.cell? ⟨b, off + k * 2 + 1, none⟩ = some (.int .i64 y) ∧ xs[k]? = some (x, y) := by
  obtain ⟨b, off, rfl, hb, hc⟩ := h.open_ (by omega) (by omega)
  have hkl : k < xs.length := by omega
  have hat : ∀ (xs : List SpanT) (k : Nat) (h : k < xs.length), (spansV xs)[k * 2]? = some (.int .i64 xs[k].1) ∧ (spansV xs)[k * 2 + 1]? = some (.int .i64 xs[k].2) := by
    intro xs
    induction xs with
    | nil => intro k h; simp at h
    | cons p xs ih =>
      intro k h
      cases k with
      | zero => exact ⟨rfl, rfl⟩
      | succ k =>
        have := ih k (by simpa using h)
        have e : (k + 1) * 2 = k * 2 + 1 + 1 := by omega
        rw [e]
        exact this
  obtain ⟨h1, h2⟩ := hat xs k hkl
  exact ⟨b, off, xs[k].1, xs[k].2, rfl, hb, hc _ _ h1, by rw [Nat.add_assoc]; exact hc _ _ h2, List.getElem?_eq_getElem hkl⟩

/-- The bits of a table's cells. -/
theorem build_bits {L : Nat} (zs : List Int) (hL : L ≤ 9) : ∀ t ∈ buildL L zs, ∃ B : Nat, t.2.1 = (B : Int) ∧ B ≤ 10 := by
  intro t ht
  unfold buildL at ht
  obtain ⟨k, _, rfl⟩ := List.mem_map.1 ht
  exact ⟨_, rfl, by omega⟩

theorem spansL_at (sym : Int) {cs : List CellT} {k : Nat} {c : CellT} (h : cs[k]? = some c) (hc : c.1 = sym) : (spansL sym cs)[(spansL sym (cs.take k)).length]? = some (spanF c) := by
  have e : spansL sym cs = spansL sym (cs.take k) ++ spansL sym (cs.drop k) := by
    unfold spansL
    rw [← List.map_append, ← List.filter_append, List.take_append_drop]
  have hk : k < cs.length := by
    rcases Nat.lt_or_ge k cs.length with h1 | h1
    · exact h1
    · rw [List.getElem?_eq_none h1] at h; cases h
  have e2 : cs.drop k = c :: cs.drop (k + 1) := by
    rw [List.drop_eq_getElem_cons hk]
    rw [List.getElem?_eq_getElem hk] at h
    injection h with h
    rw [h]
  rw [e, List.getElem?_append_right (Nat.le_refl _), Nat.sub_self, e2]
  unfold spansL
  simp [hc]

set_option maxRecDepth 4000 in
set_option maxHeartbeats 8000000 in
theorem walk_CellsSpans {w : World} (l : Int) (A : Option Addr) (m c : Nat) (zs : List Int) (wl : (Lit.int .i64 l).wf = true) (hm : zs.length = m) (hr : Reads w w.heap.size 1 A m (zs.map (Value.int .i64))) (hok : ∀ z ∈ zs, (Lit.int .i64 z).wf = true) (hc' : c ≤ maxLen) (hc : m ≤ c) (sym : Int) (ws : (Lit.int .i64 sym).wf = true) :
    Calls Try.prog 10 #[.agg #[.int .i64 l, .slice A m c], .int .i64 sym] w fun e w' => e = .returned (.bool true) ∧ Below w.heap.size w w' := by
  have HKN := hide known_any
  obtain ⟨W0, hW0⟩ : ∃ W0, W0 = w.alloc (.cells #[.int .i64 l, .slice A m c] 24 (0, 0)) := ⟨_, rfl⟩
  have g1 : W0.heap[w.heap.size]? = some (.cells #[.int .i64 l, .slice A m c] 24 (0, 0)) := by rw [hW0]; exact heap_alloc_new w _
  have b0 : Below w.heap.size w W0 := by rw [hW0]; exact (Below.refl w.heap.size w).alloc (Nat.le_refl _) _
  have hs0 : W0.heap.size = w.heap.size + 1 := by rw [hW0]; simp
  have k00 := cell_blk g1 0
  have k01 := cell_blk g1 1
  have HB0 := hide b0
  have HW0 := hide hW0
  have HR := hide ((hr.below b0).more b0.size)
  have HG1 := hide g1
  have HS0 := hide hs0
  clear b0 hW0 hr g1 hs0 wl ws
  by_cases hbig : 600 < m
  · have hb' : (600 : Int) < (m : Int) := by omega
    go_enter Try.func10, Try.ntmps10
    go_wp2_with fail
    try rw [← HW0.out]
    go_wp2_with fail
    refine (HKN.out _).mono ?_
    rintro e W ⟨rfl, b⟩
    have HB1 := hide (HB0.out.trans (b.mono HB0.out.size))
    clear b
    go_wp2
    go_ret
    exact ⟨rfl, HB1.out⟩
  · have hb' : ¬ (600 : Int) < (m : Int) := by omega
    obtain ⟨cs, E, hcs, hE, htab⟩ := tab_any l zs hok
    have hcb : ∀ t ∈ cs, ∃ B : Nat, t.2.1 = (B : Int) ∧ B ≤ 10 := by
      rcases hE with ⟨_, _, L, _, hL, rfl⟩ | ⟨_, _, rfl⟩
      · exact build_bits zs hL
      · intro t ht; simp at ht
    have HSP := hide (spans_any l A m c sym W0 cs E hcs hcb (by rcases hE with ⟨_, h, _⟩ | ⟨_, h⟩; exact .inl h; exact .inr h)
      (htab A m c _ hm ((HR.out.alloc (Nat.le_refl _) _).more (by simp)) hc hc').1)
    have HTAB := hide (fun W hr => (htab A m c W hm hr hc hc').2)
    have hEw : IntKind.i64.wrap E = E := by rcases hE with ⟨_, rfl, _⟩ | ⟨_, rfl, _⟩ <;> decide
    have hEE : (E != E) = false := by simp
    have HCB := hide hcb
    have HSZ := hide (fun (B : Nat) (hB : B ≤ 10) W => size_any B W (by omega))
    clear htab hE hm hok hc hc' hcb
    go_enter Try.func10, Try.ntmps10
    go_wp2_with fail
    try rw [← HW0.out]
    go_wp2_with fail
    refine HSP.out.mono ?_
    rintro e W1 ⟨v1, rfl, ho1, b1⟩
    obtain ⟨A1, c1, rfl⟩ := own_form ho1
    have g2 := (b1.block _ (by have := HS0.out; omega)).trans HG1.out
    have k10 := cell_blk g2 0
    have k11 := cell_blk g2 1
    have HB1 := hide (HB0.out.trans (b1.mono HB0.out.size))
    have HR1 := hide ((HR.out.below b1).more b1.size)
    have HO1 := hide ho1
    clear b1 ho1 g2 k00 k01
    go_wp2_with fail
    refine (HTAB.out _ HR1.out).mono ?_
    rintro e W2 ⟨v2, rfl, ho2, b2⟩
    obtain ⟨A2, c2, rfl⟩ := own_form ho2
    have HB2 := hide (HB1.out.trans (b2.mono HB1.out.size))
    have HO2 := hide ho2
    have HO3 := hide (own_below HO1.out b2)
    obtain ⟨n, hn⟩ : ∃ n, n = cs.length := ⟨_, rfl⟩
    obtain ⟨N, hN⟩ : ∃ N, N = (spansL sym cs).length := ⟨_, rfl⟩
    rw [← hn] at HO2 ⊢
    rw [← hN] at HO3 ⊢
    have hn512 : n ≤ 512 := by omega
    have HCS := hide hcs
    have HN := hide hn
    have HNN := hide hN
    clear b2 ho2 hcs k10 k11 hn hN HSP HTAB HO1 HR1 HR
    go_wp2
    go_loopw [9, 10] (fun kv iv wr => ∃ i : Nat, i ≤ n ∧ iv = .int .i64 i ∧ kv = .int .i64 ((spansL sym (cs.take i)).length : Int) ∧ ∃ j, wr = W2.drewN j) (fun _ iv _ => n - (intOf iv).toNat)
    case atStart => exact ⟨0, Nat.zero_le _, rfl, rfl, 0, rfl⟩
    case round =>
      obtain ⟨i, hi, rfl, rfl, j, rfl⟩ := hrel
      by_cases hlt : i < n
      · obtain ⟨b1, o1, x, y, z, hA2, hb1, c1', c2', c3', hx⟩ := cell_cells (Reads.of_own HO2.out) HN.out hlt
        subst hA2
        obtain ⟨B, hB, hB10⟩ := HCB.out (x, y, z) (List.mem_of_getElem? hx)
        simp only at hB
        subst hB
        have hin : (i : Int) < (n : Int) := by omega
        have hsn := spansL_snoc sym hx
        have hle := spansL_le sym cs i
        by_cases hxs : x = sym
        · have hat := spansL_at sym hx hxs
          rw [if_pos hxs] at hsn
          obtain ⟨k, hk⟩ : ∃ k, k = (spansL sym (cs.take i)).length := ⟨_, rfl⟩
          rw [← hk] at hat hle ⊢
          have hkN : k < N := by
            rw [HNN.out]
            rcases Nat.lt_or_ge k (spansL sym cs).length with h | h
            · exact h
            · rw [List.getElem?_eq_none h] at hat; cases hat
          obtain ⟨b4, o4, p, q, hA1, hb4, d1, d2, hpq⟩ := span_cells (Reads.of_own HO3.out) HNN.out hkN
          subst hA1
          rw [hat] at hpq
          injection hpq with hpq
          unfold spanF at hpq
          simp only [Int.toNat_natCast] at hpq
          injection hpq with hp1 hp2
          subst hp1
          obtain ⟨P, hP⟩ : ∃ P, P = 2 ^ B := ⟨_, rfl⟩
          have HSB := hide (HSZ.out B hB10)
          rw [← hP] at hp2 HSB
          subst hp2
          have hkNi : (k : Int) < (N : Int) := by omega
          have hkNi' : ¬ (N : Int) ≤ (k : Int) := by omega
          have e1 : (z != z) = false := by simp
          have e2 : ((P : Int) != (P : Int)) = false := by simp
          have e3 : (x != sym) = false := by simp [hxs]
          have hk1 : (spansL sym (cs.take (i + 1))).length = k + 1 := by rw [hsn, List.length_append, ← hk]; rfl
          have HK1 := hide hk1
          clear hk1 hsn hat hx hk hxs hP
          go_wp2
          go_quiet ((go_at_call 17; exact quiet_len_add (HSB.out _)))
          go_wp2
          go_roundw
          case rel => exact ⟨i + 1, by omega, by go_num, by rw [HK1.out]; go_num, _, rfl⟩
          case measure => simp [intOf]; omega
        · rw [if_neg hxs, List.append_nil] at hsn
          have e3 : (x != sym) = true := by simp [hxs]
          have HSN := hide hsn
          clear hsn hx hxs
          go_wp2
          go_roundw
          case rel => exact ⟨i + 1, by omega, by go_num, by rw [HSN.out], _, rfl⟩
          case measure => simp [intOf]; omega
      · obtain rfl : n = i := by omega
        have hend : (spansL sym (cs.take n)).length = N := by rw [HNN.out, List.take_of_length_le (by have := HN.out; omega)]
        rw [hend]
        have HB3 : Hid (Below w.heap.size w (W2.drewN j)) := HB2.out.trans (below_drewN (Below.refl _ _) _)
        obtain ⟨W3, hW3⟩ : ∃ W3, W3 = W2.drewN j := ⟨_, rfl⟩
        rw [← hW3] at HB3 ⊢
        have hNN : ((N : Int) == (N : Int)) = true := by simp
        clear hend hW3
        go_wp2_with fail
        refine (HKN.out _).mono ?_
        rintro e W4 ⟨rfl, b4⟩
        have HB4 := hide (HB3.out.trans (b4.mono HB3.out.size))
        clear b4
        go_wp2
        go_ret
        exact ⟨rfl, HB4.out⟩
end Go.Proofs.Ytlbpefahhecbnaa
