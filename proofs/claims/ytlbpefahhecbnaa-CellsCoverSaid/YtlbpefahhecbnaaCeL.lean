/- cells.Spans walked. -/
import Derived.Test.YtlbpefahhecbnaaCeK
namespace Go.Proofs.Ytlbpefahhecbnaa
open Go.RowKit Go
set_option linter.unusedVariables false

abbrev SpanT := Int × Int
def spanV (p : SpanT) : List Value := [.int .i64 p.1, .int .i64 p.2]
def spansV (l : List SpanT) : List Value := l.flatMap spanV
def spanF (c : CellT) : SpanT := (c.2.2, ((2 ^ c.2.1.toNat : Nat) : Int))
def spansL (sym : Int) (cs : List CellT) : List SpanT := (cs.filter fun c => c.1 == sym).map spanF
theorem spansV_append (a b : List SpanT) : spansV (a ++ b) = spansV a ++ spansV b := by simp [spansV]
theorem spansL_snoc (sym : Int) {cs : List CellT} {k : Nat} {c : CellT} (h : cs[k]? = some c) : spansL sym (cs.take (k + 1)) = spansL sym (cs.take k) ++ (if c.1 = sym then [spanF c] else []) := by
  unfold spansL
  rw [take_snoc_some h, List.filter_append, List.map_append]
  congr 1
  by_cases hc : c.1 = sym <;> simp [hc]
theorem spansL_le (sym : Int) (cs : List CellT) (k : Nat) : (spansL sym (cs.take k)).length ≤ k := by
  unfold spansL
  rw [List.length_map]
  exact Nat.le_trans (List.length_filter_le _ _) (List.length_take_le _ _)
theorem info_two : (Try.prog.info? 53).map (fun i => (i.zero, i.size, i.bytes)) = some (some (.agg #[.int .i64 0, .int .i64 0]), 2, 16) := by kernel_rfl
theorem reads_two (w : World) (p : SpanT) : Reads (w.alloc (.cells #[.int .i64 p.1, .int .i64 p.2] 53)) (w.heap.size + 1) 2 (some ⟨w.heap.size, 0, none⟩) 1 (spanV p) := by
  refine ⟨rfl, fun _ => ⟨_, rfl, by simp, fun j u hu => ?_⟩⟩
  have hh := heap_alloc_new w (.cells #[.int .i64 p.1, .int .i64 p.2] 53 (0, 0))
  match j, hu with
  | 0, hu => exact (cell_blk hh 0).trans hu
  | 1, hu => exact (cell_blk hh 1).trans hu
theorem spanV_one (p : SpanT) : ∀ u ∈ spanV p, u.oneCell' = true := by
  intro u hu
  simp [spanV] at hu
  rcases hu with rfl | rfl <;> rfl

set_option maxRecDepth 4000 in
set_option maxHeartbeats 8000000 in
theorem spans_any (l : Int) (A : Option Addr) (m c : Nat) (sym : Int) (w : World) (cs : List CellT) (E : Int) (hcs : cs.length ≤ 512) (hcb : ∀ t ∈ cs, ∃ B : Nat, t.2.1 = (B : Int) ∧ B ≤ 10) (hE : E = 0 ∨ (E = 13 ∧ cs = []))
    (hBU : Calls Try.prog 12 #[.agg #[.int .i64 l, .slice A m c]] (w.alloc (.cells #[.int .i64 l, .slice A m c] 24 (0, 0))) fun e w' => ∃ v, e = .returned (.tuple #[v, .int .i64 E]) ∧ w'.ownsRow (w.alloc (.cells #[.int .i64 l, .slice A m c] 24 (0, 0))).heap.size 36 3 v cs.length (cellsV cs) ∧ Below (w.alloc (.cells #[.int .i64 l, .slice A m c] 24 (0, 0))).heap.size (w.alloc (.cells #[.int .i64 l, .slice A m c] 24 (0, 0))) w') :
    Calls Try.prog 24 #[.agg #[.int .i64 l, .slice A m c], .int .i64 sym] w fun e w' =>
      ∃ v, e = .returned (.tuple #[v, .int .i64 E]) ∧ w'.ownsRow w.heap.size 53 2 v (spansL sym cs).length (spansV (spansL sym cs)) ∧ Below w.heap.size w w' := by
  obtain ⟨i0, hi, hz0, hz1, hz2⟩ := info_parts info_two
  obtain ⟨W0, hW0⟩ : ∃ W0, W0 = w.alloc (.cells #[.int .i64 l, .slice A m c] 24 (0, 0)) := ⟨_, rfl⟩
  have g1 : W0.heap[w.heap.size]? = some (.cells #[.int .i64 l, .slice A m c] 24 (0, 0)) := by rw [hW0]; exact heap_alloc_new w _
  have b0 : Below w.heap.size w W0 := by rw [hW0]; exact (Below.refl w.heap.size w).alloc (Nat.le_refl _) _
  rw [← hW0] at hBU
  have k00 := cell_blk g1 0
  have k01 := cell_blk g1 1
  have HB0 := hide b0
  have HW0 := hide hW0
  have HBU := hide hBU
  have HCB := hide hcb
  have HCS := hide hcs
  clear b0 hW0 hBU hcb hcs g1
  rcases hE with rfl | ⟨rfl, rfl⟩
  · go_enter Try.func24, Try.ntmps24
    go_wp2_with fail
    try rw [← HW0.out]
    go_wp2_with fail
    refine HBU.out.mono ?_
    rintro e W1 ⟨v1, rfl, ho1, b1⟩
    obtain ⟨A1, c1, rfl⟩ := own_form ho1
    obtain ⟨n, hn⟩ : ∃ n, n = cs.length := ⟨_, rfl⟩
    rw [← hn] at ho1 ⊢
    have HB1 := hide (HB0.out.trans (b1.mono HB0.out.size))
    have HO1 := hide ho1
    have HN := hide hn
    have hn512 : n ≤ 512 := by have := HCS.out; omega
    clear b1 ho1 hn HBU k00 k01 HB0 HW0
    go_wp2
    go_loopw [8, 21] (fun out i wr => ∃ k : Nat, k ≤ n ∧ i = .int .i64 k ∧ wr.ownsRow W0.heap.size 36 3 (.slice A1 n c1) n (cellsV cs) ∧ wr.ownsRow W1.heap.size 53 2 out (spansL sym (cs.take k)).length (spansV (spansL sym (cs.take k))) ∧ Below w.heap.size w wr ∧ W1.heap.size ≤ wr.heap.size ∧ (∀ q, (Value.slice A1 n c1).ownBlock = some q → q < W1.heap.size)) (fun _ i _ => n - (intOf i).toNat)
    case atStart => exact ⟨0, Nat.zero_le _, rfl, HO1.out, World.ownsRow_nil _ _ _ _, HB1.out, Nat.le_refl _, fun q hq => (HO1.out.lt q hq).2⟩
    case round =>
      obtain ⟨k, hk, rfl, hpo, hown, hb, hsz, hq⟩ := hrel
      by_cases hlt : k < n
      · obtain ⟨b1, o1, x, y, z, hA1, hb1, c1', c2', c3', hx⟩ := cell_cells (Reads.of_own hpo) HN.out hlt
        subst hA1
        obtain ⟨B, hB, hB10⟩ := HCB.out (x, y, z) (List.mem_of_getElem? hx)
        simp only at hB
        subst hB
        have hkn : (k : Int) < (n : Int) := by omega
        have HPO := hide hpo
        have HO := hide hown
        have HB := hide hb
        have HSZ := hide hsz
        have HQ := hide hq
        have HX := hide hx
        clear hpo hown hb hsz hq hx
        have hpB : 2 ^ B ≤ 2 ^ 10 := Nat.pow_le_pow_right (by omega) hB10
        have hp10 : (2 : Nat) ^ 10 = 1024 := by decide
        obtain ⟨P, hP⟩ : ∃ P, P = 2 ^ B := ⟨_, rfl⟩
        have hPi : (2 : Int) ^ B = (P : Int) := by rw [hP]; simp
        rw [← hP] at hpB
        have hwp : IntKind.i64.wrap ((2 : Int) ^ B) = (P : Int) := by rw [hPi, IntWalk.i64_in _ (by omega)]
        have hwp1 : IntKind.i64.wrap (1 * (2 : Int) ^ B) = (P : Int) := by rw [Int.one_mul, hwp]
        have hsn := spansL_snoc sym HX.out
        have hle := spansL_le sym cs k
        have hsF : spanF (x, (B : Int), z) = (z, (P : Int)) := by unfold spanF; simp [hP]
        rw [hsF] at hsn
        obtain ⟨W3, hW3⟩ : ∃ W3, W3 = wr.alloc (.cells #[.int .i64 x, .int .i64 (B : Int), .int .i64 z] 36 (0, 0)) := ⟨_, rfl⟩
        have g3 : W3.heap[wr.heap.size]? = some (.cells #[.int .i64 x, .int .i64 (B : Int), .int .i64 z] 36 (0, 0)) := by rw [hW3]; exact heap_alloc_new wr _
        have q0 : W3.cell? ⟨wr.heap.size, 0, none⟩ = some (.int .i64 x) := cell_blk g3 0
        have q1 : W3.cell? ⟨wr.heap.size, 1, none⟩ = some (.int .i64 (B : Int)) := cell_blk g3 1
        have q2 : W3.cell? ⟨wr.heap.size, 2, none⟩ = some (.int .i64 z) := cell_blk g3 2
        have b3 : Below wr.heap.size wr W3 := by rw [hW3]; exact (Below.refl wr.heap.size wr).alloc (Nat.le_refl _) _
        have HB3 := hide b3
        have HPO3 := hide (own_below HPO.out b3)
        have HO3 := hide (own_below HO.out b3)
        have HSN := hide hsn
        have HLE := hide hle
        have HG3 := lt_of_heap g3
        have HW3 := hide hW3
        clear hpB hp10 hP hPi hsn hle hsF b3 g3 hW3
        by_cases hxs : x = sym
        · subst hxs
          have hxx : (x == x) = true := by simp
          rw [if_pos rfl] at HSN
          go_wp2_with fail
          try rw [← HW3.out]
          go_wp2_with fail
          have hsz3 : W1.heap.size ≤ W3.heap.size := Nat.le_trans HSZ.out HB3.out.size
          obtain ⟨N, hN⟩ : ∃ N, N = (spansL x (cs.take k)).length := ⟨_, rfl⟩
          have hNk : N ≤ 512 := by have := HLE.out; omega
          have ho3 := HO3.out
          rw [← hN] at ho3
          have HOD : Hid (W3.drew.ownsRow W1.heap.size 53 2 u8 N (spansV (spansL x (cs.take k)))) := ho3
          have hsz6 : W1.heap.size ≤ (W3.drew.alloc (.cells #[.int .i64 z, .int .i64 (P : Int)] 53)).heap.size := by simp; omega
          have HRC := hide (reads_two W3.drew (z, (P : Int)))
          have hone := hide (spanV_one (z, (P : Int)))
          have hlim1 : N + 1 ≤ maxLen := by unfold maxLen; omega
          have hlim2 : (N + 1) * 16 ≤ 140737488355328 := by omega
          have hlow := ho3.lt
          have HUN := hide Try.underlying49
          have hsw : W1.heap.size ≤ wr.heap.size := HSZ.out
          have HXK : Hid (Below W3.heap.size W3.drew (W3.drew.alloc (.cells #[.int .i64 z, .int .i64 (P : Int)] 53))) := (Below.refl _ W3.drew).alloc (Nat.le_refl _) _
          have hlw := HO.out.lt
          have HXL : Hid (∀ w4, World.grownBy (W3.drew.alloc (.cells #[.int .i64 z, .int .i64 (P : Int)] 53)) w4 u8.ownBlock → Below W1.heap.size W3.drew w4 ∧ w4.cell? ⟨wr.heap.size, 1, none⟩ = some (.int .i64 (B : Int)) ∧ w4.cell? ⟨wr.heap.size, 2, none⟩ = some (.int .i64 z) ∧ Below wr.heap.size wr wr) := by
            intro w4 hg4
            have hb : w4.heap[wr.heap.size]? = W3.heap[wr.heap.size]? := (hg4.block wr.heap.size (by simp; omega) (fun h => by have := (hlw _ h.symm).2; omega)).trans (Below.heap_alloc W3.drew _ _ HG3)
            exact ⟨(HXK.out.mono hsz3).grown hg4 hsz6 (fun q hq => (hlow q hq).1), (World.cell?_of_block hb).trans q1, (World.cell?_of_block hb).trans q2, Below.refl _ _⟩
          clear ho3
          go_region_held3 (fun w' => w'.cell? ⟨wr.heap.size, 1, none⟩ = some (.int .i64 (B : Int)) ∧ w'.cell? ⟨wr.heap.size, 2, none⟩ = some (.int .i64 z)) (go_keep)
            (first
            | (refine step_append_any _ (by rfl) (.tmp 29) (.tmp 36) _ (by rfl) W1.heap.size 53 i0 _ 2 16 HUN.out hi hz0 hz1 hz2 rfl (by omega) u8 N _ (by rfl) (HOD.out.alloc _) (W3.drew.heap.size + 1) (some ⟨W3.drew.heap.size, 0, none⟩) 1 1 _ (by rfl) HRC.out hone.out hlim1 hlim2 hsz6 ?_; intro v4 w4 hown4 hg4 hat4; obtain ⟨hx1, hx2, hx3, _⟩ := HXL.out w4 hg4; have HO4 := hide hown4; have HB4 := hide hx1; clear hown4 hg4 hat4 hx1))
          go_wp2
          go_roundw
          case rel =>
            have hc4 : Chg (fun q => W1.heap.size ≤ q) W3.drew w4 := ⟨HB4.out.os, HB4.out.tape, HB4.out.output, HB4.out.size, fun q hq hS => HB4.out.block q (by omega)⟩
            have ho4 := HO4.out
            have e1 : spansV (spansL x (cs.take k)) ++ spanV (z, (P : Int)) = spansV (spansL x (cs.take (k + 1))) := by rw [HSN.out, spansV_append]; simp [spansV]
            have e2 : N + 1 = (spansL x (cs.take (k + 1))).length := by rw [HSN.out, hN]; simp
            rw [e1, e2] at ho4
            exact ⟨k + 1, by omega, by go_num, own_chg (w := W3.drew) HPO3.out hc4 (fun q hq h => by have := HQ.out q hq; omega), ho4, HB.out.trans ((HB3.out.drew.mono HB.out.size).trans (HB4.out.mono HB1.out.size)), Nat.le_trans hsz3 HB4.out.size, HQ.out⟩
          case measure => simp [intOf]; omega
        · have hxx : (x == sym) = false := by simp [hxs]
          rw [if_neg hxs, List.append_nil] at HSN
          go_wp2_with fail
          try rw [← HW3.out]
          go_wp2
          go_roundw
          case rel => exact ⟨k + 1, by omega, by go_num, HPO3.out, by rw [HSN.out]; exact HO3.out, HB.out.trans (HB3.out.mono HB.out.size), Nat.le_trans HSZ.out HB3.out.size, HQ.out⟩
          case measure => simp [intOf]; omega
      · obtain rfl : n = k := by omega
        go_wp2
        go_ret2
        have h := hown
        rw [List.take_of_length_le (by have := HN.out; omega)] at h
        exact ⟨_, rfl, own_base h (fun q hq => by have := (h.lt q hq).1; have := HB1.out.size; omega), hb⟩
  · go_enter Try.func24, Try.ntmps24
    go_wp2_with fail
    try rw [← HW0.out]
    go_wp2_with fail
    refine HBU.out.mono ?_
    rintro e W1 ⟨v1, rfl, ho1, b1⟩
    have HB1 := hide (HB0.out.trans (b1.mono HB0.out.size))
    clear b1 ho1
    go_wp2
    go_ret2
    exact ⟨_, rfl, World.ownsRow_nil _ _ _ _, HB1.out⟩
end Go.Proofs.Ytlbpefahhecbnaa
