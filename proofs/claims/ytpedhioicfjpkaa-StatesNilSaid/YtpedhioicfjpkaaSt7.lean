/- states.Coder.Lowest, Log, Next; the law's begin and step. -/
import Derived.Test.YtpedhioicfjpkaaSt4
import Derived.Test.YtpedhioicfjpkaaSt6
namespace Go.Proofs.Ytpedhioicfjpkaa
open Go.RowKit Go Go.Shelf
set_option linter.unusedVariables false

/-- Two steps are the same; two cells are the same (names that no walk opens). -/
def eqS (a b : CellT) : Bool := a.1 == b.1 && (a.2.1 == b.2.1 && a.2.2 == b.2.2)
theorem eqS_self (a : CellT) : eqS a a = true := by simp [eqS]
theorem eqS_ne {a b : CellT} (h : a ≠ b) : eqS a b = false := by
  obtain ⟨x1, x2, x3⟩ := a
  obtain ⟨y1, y2, y3⟩ := b
  simp only [eqS, Bool.eq_false_iff]
  intro h'
  apply h
  simp at h'
  simp [h']
theorem eql_step (x1 x2 x3 y1 y2 y3 : Int) (w : World) : (binOp .eql 33 (.agg #[.int .i64 x1, .int .u64 x2, .int .i64 x3]) (.agg #[.int .i64 y1, .int .u64 y2, .int .i64 y3])).run Try.prog w = .ok (.bool (eqS (x1, x2, x3) (y1, y2, y3))) w := by
  rw [run_eql_struct, run_equalIn_agg w 9999 33 _ _ (by kernel_rfl) (by kernel_rfl)]
  simp (config := {decide := false}) [go_sem, Op.eqFields, eqS]
  by_cases h1 : x1 = y1 <;> by_cases h2 : x2 = y2 <;> by_cases h3 : x3 = y3 <;> simp [h1, h2, h3]
theorem eql_cell (x1 x2 x3 y1 y2 y3 : Int) (w : World) : (binOp .eql 53 (.agg #[.int .i64 x1, .int .i64 x2, .int .i64 x3]) (.agg #[.int .i64 y1, .int .i64 y2, .int .i64 y3])).run Try.prog w = .ok (.bool (eqS (x1, x2, x3) (y1, y2, y3))) w := by
  rw [run_eql_struct, run_equalIn_agg w 9999 53 _ _ (by kernel_rfl) (by kernel_rfl)]
  simp (config := {decide := false}) [go_sem, Op.eqFields, eqS]
  by_cases h1 : x1 = y1 <;> by_cases h2 : x2 = y2 <;> by_cases h3 : x3 = y3 <;> simp [h1, h2, h3]
attribute [local go_sem high] eql_step eql_cell

theorem lowest_ok {W : World} {g L v k : Nat} {zs : List Int} (h : CoR W g L zs) (hv : v < zs.length) (hk : (posN (spreadL (2 ^ L) zs) (v : Int) (2 ^ L))[0]? = some k) :
    Calls Try.prog 17 #[.pointer (some ⟨g, 0, none⟩), .int .i64 (v : Int)] W fun e w' => e = .returned (.tuple #[.int .i64 (k : Int), .int .i64 0]) ∧ w' = W := by
  have HN := hide (none_any h)
  obtain ⟨N, hN⟩ : ∃ N, (posZ (spreadL (2 ^ L) zs) (v : Int) (2 ^ L)).length = N := ⟨_, rfl⟩
  have hN0 : 0 < N := by
    rw [← hN, posZ_length]
    rcases Nat.lt_or_ge 0 (posN (spreadL (2 ^ L) zs) (v : Int) (2 ^ L)).length with h1 | h1
    · exact h1
    · rw [List.getElem?_eq_none h1] at hk; cases hk
  have HOF := hide (of_ok h hv hN hN0)
  have HK := hide (posZ_at hk)
  clear h hk hN
  go_enter Try.func17, Try.ntmps17
  go_wp2_with fail
  refine HN.out.mono ?_
  rintro e w1 ⟨rfl, rfl⟩
  go_wp2_with fail
  refine HOF.out.mono ?_
  rintro e w2 ⟨A2, c2, rfl, hr2, rfl⟩
  obtain ⟨b, off, x, rfl, hb, kc, hx⟩ := int_cells hr2 (k := 0) hN0
  rw [HK.out] at hx
  injection hx with hx
  subst hx
  have h0N : (0 : Int) < (N : Int) := by omega
  have kc' : w2.cell? ⟨b, off, none⟩ = some (.int .i64 (k : Int)) := kc
  clear hr2 HN HOF kc
  go_wp2
  go_ret2
  exact ⟨rfl, rfl⟩

theorem lowest_bad {W : World} {g L : Nat} {sym : Int} {zs : List Int} (h : CoR W g L zs) (hs : sym < 0 ∨ (¬ sym < 0 ∧ (zs.length : Int) ≤ sym) ∨ (∃ v : Nat, sym = (v : Int) ∧ v < zs.length ∧ (posZ (spreadL (2 ^ L) zs) (v : Int) (2 ^ L)).length = 0)) :
    Calls Try.prog 17 #[.pointer (some ⟨g, 0, none⟩), .int .i64 sym] W fun e w' => e = .returned (.tuple #[.int .i64 0, .int .i64 2]) ∧ w' = W := by
  have HN := hide (none_any h)
  have HOF := hide (of_bad h hs)
  clear h hs
  go_enter Try.func17, Try.ntmps17
  go_wp2_with fail
  refine HN.out.mono ?_
  rintro e w1 ⟨rfl, rfl⟩
  go_wp2_with fail
  refine HOF.out.mono ?_
  rintro e w2 ⟨rfl, rfl⟩
  go_wp2
  go_ret2
  exact ⟨rfl, rfl⟩

theorem bitLen_pow {L : Nat} (hL : L ≤ 9) : Lib.bitLen (2 ^ L) = L + 1 := by
  have h : ∀ l : Fin 10, Lib.bitLen (2 ^ l.val) = l.val + 1 := by decide +kernel
  exact h ⟨L, by omega⟩

theorem log_any {W : World} {g L : Nat} {zs : List Int} (h : CoR W g L zs) (hL : L ≤ 9) :
    Calls Try.prog 23 #[.pointer (some ⟨g, 0, none⟩)] W fun e w' => e = .returned (.int .i64 (L : Int)) ∧ w' = W := by
  have HN := hide (none_any h)
  have hbl := bitLen_pow hL
  obtain ⟨hp0, hp1⟩ := pow_len hL
  obtain ⟨A, cA, P, cP, vals, h1, _, _, _⟩ := h
  have HLEN := hide (fun W => len_any (2 ^ L) W (by omega))
  obtain ⟨S, hS⟩ : ∃ S, S = 2 ^ L := ⟨_, rfl⟩
  rw [← hS] at h1 HLEN hbl hp1
  rw [hbl] at HLEN
  have k0 := cell_blk h1 0
  have hwu : IntKind.u64.wrap (S : Int) = (S : Int) := by rw [IntKind.wrap_u64]; omega
  have hws : IntKind.i64.wrap (((L + 1 : Nat) : Int) - 1) = (L : Int) := by rw [IntWalk.i64_in _ (by omega)]; omega
  clear h1 hS hbl hp0
  go_enter Try.func23, Try.ntmps23
  go_wp2_with fail
  refine HN.out.mono ?_
  rintro e w1 ⟨rfl, rfl⟩
  go_wp2_with fail
  refine (HLEN.out _).mono ?_
  rintro e w2 ⟨rfl, rfl⟩
  go_wp2
  go_ret
  exact ⟨ret_int (by simp), rfl⟩

theorem begin_ok (l : Nat) (A : Option Addr) (m c : Nat) (zs : List Int) (w : World) (hm : zs.length = m) (hr : Reads w w.heap.size 1 A m (zs.map (Value.int .i64))) (hok : ∀ z ∈ zs, (Lit.int .i64 z).wf = true) (hc : m ≤ c) (hc' : c ≤ maxLen) (hT : okT (l : Int) zs) :
    Calls Try.prog 13 #[.agg #[.int .i64 (l : Int), .slice A m c]] w fun e w' =>
      ∃ g, e = .returned (.pointer (some ⟨g, 0, none⟩)) ∧ CoR w' g l zs ∧ w.heap.size ≤ g ∧ Below w.heap.size w w' := by
  obtain ⟨W0, hW0⟩ : ∃ W0, W0 = w.alloc (.cells #[.int .i64 (l : Int), .slice A m c] 24 (0, 0)) := ⟨_, rfl⟩
  have g1 : W0.heap[w.heap.size]? = some (.cells #[.int .i64 (l : Int), .slice A m c] 24 (0, 0)) := by rw [hW0]; exact heap_alloc_new w _
  have b0 : Below w.heap.size w W0 := by rw [hW0]; exact (Below.refl w.heap.size w).alloc (Nat.le_refl _) _
  have HNW := hide (new_ok l A m c zs W0 hm ((hr.below b0).more b0.size) hok hc hc' hT)
  have k00 := cell_blk g1 0
  have k01 := cell_blk g1 1
  have HB0 := hide b0
  have HW0 := hide hW0
  clear b0 hW0 g1 hr hok hc hc' hm hT
  go_enter Try.func13, Try.ntmps13
  go_wp2_with fail
  try rw [← HW0.out]
  go_wp2_with fail
  refine HNW.out.mono ?_
  rintro e w1 ⟨g, rfl, hco, hg, b1⟩
  have HCO := hide hco
  have HB1 := hide (HB0.out.trans (b1.mono HB0.out.size))
  have HG := hide (Nat.le_trans HB0.out.size hg)
  clear hco b1 hg
  go_wp2
  go_ret
  exact ⟨_, rfl, HCO.out, HG.out, HB1.out⟩

/-- The law's step, where the predecessor is the one that is looked for. -/
theorem step_law {W : World} {g L st v n k r N : Nat} {z : Int} {zs : List Int} (h : CoR W g L zs) (hT : okT (L : Int) zs) (hz : zs[v]? = some z) (hzn : absZ z = (n : Int)) (hn : 0 < n) (hst : st < 2 ^ L)
    (hk : (posN (spreadL (2 ^ L) zs) (v : Int) (2 ^ L))[predX L n st - n]? = some k) (hr : (st + 2 ^ L) % 2 ^ predN 64 (st + 2 ^ L) n = r) (hN : predN 64 (st + 2 ^ L) n = N) :
    Calls Try.prog 29 #[.pointer (some ⟨g, 0, none⟩), .int .i64 (st : Int), .int .i64 (v : Int), .agg #[.int .i64 (k : Int), .int .u64 (r : Int), .int .i64 (N : Int)]] W fun e w' => e = .returned (.bool true) ∧ Below W.heap.size W w' := by
  obtain ⟨W0, hW0⟩ : ∃ W0, W0 = W.alloc (.cells #[.int .i64 (k : Int), .int .u64 (r : Int), .int .i64 (N : Int)] 33 (0, 0)) := ⟨_, rfl⟩
  have g0 : W0.heap[W.heap.size]? = some (.cells #[.int .i64 (k : Int), .int .u64 (r : Int), .int .i64 (N : Int)] 33 (0, 0)) := by rw [hW0]; exact heap_alloc_new W _
  have b0 : Below W.heap.size W W0 := by rw [hW0]; exact (Below.refl W.heap.size W).alloc (Nat.le_refl _) _
  have hp := (pred_ok (h.below b0) hT hz hzn hn hst).mono (R' := fun e w' => e = .returned (.tuple #[.agg #[.int .i64 (k : Int), .int .u64 (r : Int), .int .i64 (N : Int)], .int .i64 0]) ∧ Below W0.heap.size W0 w') (by
    rintro e w' ⟨⟨k', h1, h2⟩, h3⟩
    rw [hk] at h1
    injection h1 with h1
    rw [hr, hN, ← h1] at h2
    exact ⟨h2, h3⟩)
  have HP := hide hp
  have HB0 := hide b0
  have HG0 := hide g0
  have HW0 := hide hW0
  have hee := eqS_self ((k : Int), (r : Int), (N : Int))
  clear h hT hz hzn hn hst hk hr hN hp b0 g0 hW0
  go_enter Try.func29, Try.ntmps29
  go_wp2_with fail
  try rw [← HW0.out]
  refine HP.out.mono ?_
  rintro e w1 ⟨rfl, b1⟩
  have hg1 := (b1.block _ (lt_of_heap HG0.out)).trans HG0.out
  obtain ⟨W2, hW2⟩ : ∃ W2, W2 = w1.alloc (.cells #[.int .i64 (k : Int), .int .u64 (r : Int), .int .i64 (N : Int)] 33 (0, 0)) := ⟨_, rfl⟩
  have hg2 : W2.heap[w1.heap.size]? = some (.cells #[.int .i64 (k : Int), .int .u64 (r : Int), .int .i64 (N : Int)] 33 (0, 0)) := by rw [hW2]; exact heap_alloc_new w1 _
  have hg3 : W2.heap[W.heap.size]? = some (.cells #[.int .i64 (k : Int), .int .u64 (r : Int), .int .i64 (N : Int)] 33 (0, 0)) := by rw [hW2]; exact alloc_far hg1 _
  have HB2 : Hid (Below W.heap.size W W2) := by rw [hW2]; exact (HB0.out.trans (b1.mono HB0.out.size)).alloc (Nat.le_trans HB0.out.size b1.size) _
  have a0 := cell_blk hg2 0
  have a1 := cell_blk hg2 1
  have a2 := cell_blk hg2 2
  have c0 := cell_blk hg3 0
  have c1 := cell_blk hg3 1
  have c2 := cell_blk hg3 2
  rw [hW2] at a0 a1 a2 c0 c1 c2
  have HW2 := hide hW2
  clear b1 hg1 hg2 hg3 hW2
  go_wp2
  go_ret
  exact ⟨ret_bool (by simp), by rw [← HW2.out]; exact HB2.out⟩
end Go.Proofs.Ytpedhioicfjpkaa
