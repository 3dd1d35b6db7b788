/- spread.Spread and cells.Build of a table that may not be; portmanteauref09.Same walked; the law's known. -/
import Derived.Test.YtlbpefahhecbnaaCe9
import Derived.Laws.StructEq
namespace Go.Proofs.Ytlbpefahhecbnaa
open Go.RowKit Go Go.Shelf
set_option linter.unusedVariables false
attribute [local go_sem] Oper.semAt_some

set_option maxRecDepth 100000 in
set_option maxHeartbeats 4000000 in
theorem spread_bad (n : Nat) (hn : 6 ≤ n) (l : Int) (A : Option Addr) (m c : Nat) (zs : List Int) (w : World) (hm : zs.length = m) (hr : Reads w w.heap.size 1 A m (zs.map (Value.int .i64))) (hok : ∀ z ∈ zs, (Lit.int .i64 z).wf = true) (hc : m ≤ c) (hc' : c ≤ maxLen) (hT : ¬ okT l zs) :
    CallsIn Fence.wide n Try.prog 25 #[.agg #[.int .i64 l, .slice A m c]] w fun e w' =>
      e = .returned (.tuple #[.slice none 0 0, .int .i64 13]) ∧ Below w.heap.size w w' := by
  have HCK := hide (fun W (b : Below w.heap.size w W) => (check_any l A m c zs W hm ((hr.below b).more b.size) hok hc hc').mono (R' := fun e w' => e = .returned (.int .i64 13) ∧ Below W.heap.size W w') (by
    rintro e w' ⟨h | h, hb⟩
    · exact absurd h.1 hT
    · exact ⟨h.2, hb⟩))
  have h1n : 1 ≤ n := by omega
  have B0 := hide ((Below.refl w.heap.size w).alloc (Nat.le_refl _) (.cells #[.int .i64 l, .slice A m c] 24 (0, 0)))
  clear hr hT hok hm
  refine callsIn_of_wp_marks Try.func25 rfl trivial ?_ rfl
  simp only [Try.ntmps25, List.size_toArray, List.length_cons, List.length_nil, Nat.reduceAdd, Nat.reduceSub, Array.replicate_succ, Array.replicate_zero, List.push_toArray, List.append_toArray, List.nil_append, List.cons_append]
  gi_wp2_with (refine ⟨trivial, ?_⟩; gi_at_call 29; refine (callsIn_wide.2 (HCK.out _ B0.out)).mono ?_; rintro e w1 ⟨rfl, b1⟩; have B1 := hide (B0.out.trans (b1.mono B0.out.size)); clear b1)
  exact ⟨_, results_tmp2 rfl _ _ _, rfl, B1.out⟩

set_option maxHeartbeats 2000000 in
theorem build_bad (l : Int) (A : Option Addr) (m c : Nat) (zs : List Int) (w : World) (hm : zs.length = m) (hr : Reads w w.heap.size 1 A m (zs.map (Value.int .i64))) (hok : ∀ z ∈ zs, (Lit.int .i64 z).wf = true) (hc : m ≤ c) (hc' : c ≤ maxLen) (hT : ¬ okT l zs) :
    Calls Try.prog 12 #[.agg #[.int .i64 l, .slice A m c]] w fun e w' => e = .returned (.tuple #[.slice none 0 0, .int .i64 13]) ∧ Below w.heap.size w w' := by
  have hb0 := (Below.refl w.heap.size w).alloc (Nat.le_refl _) (.cells #[.int .i64 l, .slice A m c] 24 (0, 0))
  obtain ⟨W0, hW0⟩ : ∃ W0, W0 = w.alloc (.cells #[.int .i64 l, .slice A m c] 24 (0, 0)) := ⟨_, rfl⟩
  have g1 : W0.heap[w.heap.size]? = some (.cells #[.int .i64 l, .slice A m c] 24 (0, 0)) := by rw [hW0]; exact heap_alloc_new w _
  rw [← hW0] at hb0
  have HSP := hide (callsIn_wide.1 (spread_bad 6 (Nat.le_refl _) l A m c zs W0 hm ((hr.below hb0).more hb0.size) hok hc hc' hT))
  have HW0 := hide hW0
  have HB0 := hide hb0
  clear hr hT hok hm hb0 hW0 g1
  go_enter Try.func12, Try.ntmps12
  go_wp2_with fail
  rw [← HW0.out]
  refine HSP.out.mono ?_
  rintro e W1 ⟨rfl, b1⟩
  have HB1 := hide (HB0.out.trans (b1.mono HB0.out.size))
  clear b1
  go_wp2
  go_ret2
  exact ⟨rfl, HB1.out.alloc HB1.out.size _⟩

/-! ### portmanteauref09.Same -/
theorem cell_cells {w : World} {B n : Nat} {A : Option Addr} {xs : List CellT} (h : Reads w B 3 A n (cellsV xs)) (hn : n = xs.length) {k : Nat} (hk : k < n) :
    ∃ b off x y z, A = some ⟨b, off, none⟩ ∧ b < B ∧ w.cell? ⟨b, off + k * 3, none⟩ = some (.int .i64 x) ∧ w.cell? ⟨b, off + k * 3 + 1, none⟩ = some (.int .i64 y) ∧ w.cell? ⟨b, off + k * 3 + 2, none⟩ = some (.int .i64 z) ∧ xs[k]? = some (x, y, z) := by
  obtain ⟨b, off, rfl, hb, hc⟩ := h.open_ (by omega) (by omega)
  have hkl : k < xs.length := by omega
  have hat : ∀ (xs : List CellT) (k : Nat) (h : k < xs.length), (cellsV xs)[k * 3]? = some (.int .i64 xs[k].1) ∧ (cellsV xs)[k * 3 + 1]? = some (.int .i64 xs[k].2.1) ∧ (cellsV xs)[k * 3 + 2]? = some (.int .i64 xs[k].2.2) := by
    intro xs
    induction xs with
    | nil => intro k h; simp at h
    | cons p xs ih =>
      intro k h
      cases k with
      | zero => exact ⟨rfl, rfl, rfl⟩
      | succ k =>
        have := ih k (by simpa using h)
        have e : (k + 1) * 3 = k * 3 + 1 + 1 + 1 := by omega
        rw [e]
        exact this
  obtain ⟨h1, h2, h3⟩ := hat xs k hkl
  exact ⟨b, off, xs[k].1, xs[k].2.1, xs[k].2.2, rfl, hb, hc _ _ h1, by rw [Nat.add_assoc]; exact hc _ _ h2, by rw [Nat.add_assoc]; exact hc _ _ h3, List.getElem?_eq_getElem hkl⟩
theorem take_snoc_some {α : Type} {l : List α} {k : Nat} {x : α} (h : l[k]? = some x) : l.take (k + 1) = l.take k ++ [x] := by rw [List.take_add_one, h]; rfl

/-- Two cells differ (a name that no walk opens). -/
def neqC (a b : CellT) : Bool := !(a.1 == b.1 && (a.2.1 == b.2.1 && a.2.2 == b.2.2))
theorem neqC_self (a : CellT) : neqC a a = false := by simp [neqC]
theorem neqC_true {a b : CellT} (h : a ≠ b) : neqC a b = true := by
  obtain ⟨x1, x2, x3⟩ := a
  obtain ⟨y1, y2, y3⟩ := b
  simp only [neqC, Bool.not_eq_true', Bool.eq_false_iff]
  intro h'
  apply h
  simp at h'
  simp [h']
theorem neq36 (x1 x2 x3 y1 y2 y3 : Int) (w : World) : (binOp .neq 36 (.agg #[.int .i64 x1, .int .i64 x2, .int .i64 x3]) (.agg #[.int .i64 y1, .int .i64 y2, .int .i64 y3])).run Try.prog w = .ok (.bool (neqC (x1, x2, x3) (y1, y2, y3))) w := by
  rw [run_neq_struct, run_equalIn_agg w 9999 36 _ _ (by kernel_rfl) (by kernel_rfl)]
  simp (config := {decide := false}) [go_sem, Op.eqFields, neqC]
  by_cases h1 : x1 = y1 <;> by_cases h2 : x2 = y2 <;> by_cases h3 : x3 = y3 <;> simp [h1, h2, h3]
attribute [local go_sem high] neq36

set_option maxHeartbeats 4000000 in
theorem csame_any {B : Nat} (A1 A2 : Option Addr) (n1 c1 n2 c2 : Nat) (xs ys : List CellT) (w : World) (h1 : Reads w B 3 A1 n1 (cellsV xs)) (h2 : Reads w B 3 A2 n2 (cellsV ys)) (l1 : n1 = xs.length) (l2 : n2 = ys.length) (lm : n1 ≤ 1000000000) :
    Calls Try.prog 14 #[.slice A1 n1 c1, .slice A2 n2 c2] w fun e w' => e = .returned (.bool (decide (xs = ys))) ∧ ∃ k, w' = w.drewN k := by
  have L1 := hide l1
  have L2 := hide l2
  have R1 := hide h1
  have R2 := hide h2
  clear l1 l2 h1 h2
  by_cases hne : n1 = n2
  · subst hne
    have hz : ((n1 : Int) != (n1 : Int)) = false := by simp
    go_enter Try.func14, Try.ntmps14
    go_wp2
    go_loopw [5] (fun i wr => ∃ k : Nat, k ≤ n1 ∧ i = .int .i64 k ∧ xs.take k = ys.take k ∧ ∃ j, wr = w.drewN j) (fun i _ => n1 - (intOf i).toNat)
    case atStart => exact ⟨0, Nat.zero_le _, rfl, by simp, 0, rfl⟩
    case round =>
      obtain ⟨k, hk, rfl, hpre, j, rfl⟩ := hrel
      have HP := hide hpre
      clear hpre
      by_cases hlt : k < n1
      · obtain ⟨b1, o1, x1, x2, x3, rfl, hb1, k1, k2, k3, hx⟩ := cell_cells R1.out L1.out hlt
        obtain ⟨b2, o2, y1, y2, y3, rfl, hb2, m1, m2, m3, hy⟩ := cell_cells R2.out L2.out hlt
        have HX := hide hx
        have HY := hide hy
        clear hx hy
        have hkn : (k : Int) < (n1 : Int) := by omega
        by_cases hxy : (x1, x2, x3) = (y1, y2, y3)
        · have hne := neqC_self (y1, y2, y3)
          have hneq : neqC (x1, x2, x3) (y1, y2, y3) = false := by rw [hxy]; exact hne
          have HXY := hide hxy
          clear hxy hne
          go_wp2
          go_quiet (fail)
          go_wp2
          go_roundw
          case rel => exact ⟨k + 1, by omega, by go_num, by rw [take_snoc_some HX.out, take_snoc_some HY.out, HP.out, HXY.out], _, rfl⟩
          case measure => simp [intOf]; omega
        · have hf : decide (xs = ys) = false := by
            simp only [decide_eq_false_iff_not]
            intro h
            have h1 := HX.out
            rw [h, HY.out] at h1
            injection h1 with h1
            exact hxy h1.symm
          have HF := hide hf
          have hneq := neqC_true hxy
          clear hf hxy
          go_wp2
          go_quiet (fail)
          go_wp2
          go_ret
          exact ⟨ret_bool HF.out.symm, _, World.drewN_drewN _ _ _⟩
      · obtain rfl : k = n1 := by omega
        go_wp2
        go_ret
        have hp := HP.out
        rw [L1.out, List.take_length, ← L1.out, L2.out, List.take_length] at hp
        exact ⟨ret_bool (by simp [hp]), _, rfl⟩
  · have hz : ((n1 : Int) != (n2 : Int)) = true := by simp; omega
    have hf : decide (xs = ys) = false := by
      simp only [decide_eq_false_iff_not]
      rintro rfl
      have := L1.out
      have := L2.out
      omega
    have HF := hide hf
    clear hf
    go_enter Try.func14, Try.ntmps14
    go_wp2
    go_ret
    exact ⟨ret_bool HF.out.symm, 0, rfl⟩
end Go.Proofs.Ytlbpefahhecbnaa
