/- slices.Backward walked: an iterator over the indices from the last one down. -/
import Derived.Test.YtohgnohifojdbaaCe6
namespace Go.Proofs.Ytohgnohifojdbaa
set_option maxRecDepth 8000
open Go.RowKit Go Go.Shelf
set_option linter.unusedVariables false
set_option maxRecDepth 8000
attribute [local go_sem] Oper.semAt_some

/-- The index of visit k. -/
def ixB (m : Nat) (h0 : 1 ≤ m) (k : Nat) : Ix m := ⟨m - 1 - k, by omega⟩
/-- What the body of a range over slices.Backward keeps: the slice's box and its cells. -/
def KeepB (Bs : Nat) (A : Option Addr) (m : Nat) (W W' : World) : Prop := W'.heap[Bs]? = W.heap[Bs]? ∧ ∀ ad, A = some ad → 0 < m → W'.heap[ad.block]? = W.heap[ad.block]?
theorem KeepB.refl (Bs : Nat) (A : Option Addr) (m : Nat) (W : World) : KeepB Bs A m W W := ⟨rfl, fun _ _ _ => rfl⟩
theorem KeepB.trans {Bs m : Nat} {A : Option Addr} {W W' W'' : World} (h : KeepB Bs A m W W') (k : KeepB Bs A m W' W'') : KeepB Bs A m W W'' := ⟨k.1.trans h.1, fun ad e hm => (k.2 ad e hm).trans (h.2 ad e hm)⟩

set_option maxHeartbeats 1000000 in
theorem back_in (n : Nat) (A : Option Addr) (m c : Nat) (w : World) :
    CallsIn Fence.wide n Try.prog 32 #[.slice A m c] w fun e w' =>
      e = .returned (.func (.func 55) #[] #[.pointer (some ⟨w.heap.size, 0, none⟩)]) ∧ w' = w.alloc (.cells #[.slice A m c] 24) := by
  refine callsIn_of_wp Try.func32 rfl trivial ?_ rfl
  simp only [Try.ntmps32, List.size_toArray, List.length_cons, List.length_nil, Nat.reduceAdd, Nat.reduceSub, Array.replicate_succ, Array.replicate_zero, List.push_toArray, List.append_toArray, List.nil_append, List.cons_append]
  gi_wp2
  go_ret
  exact ⟨rfl, rfl⟩

set_option maxRecDepth 100000 in
set_option maxHeartbeats 4000000 in
theorem back1_in (n : Nat) (hn : 2 ≤ n) (l Bs m c : Nat) (A : Option Addr) (Ls : List Int) (h0 : 1 ≤ m) (hL : m = Ls.length) (hm : m ≤ 1000000) (J Jx : List (Ix m) → World → Prop)
    (hY : ∀ pre (x : Ix m) W, J pre W → pre.length < m → YieldAt Fence.wide (n - 1) Try.prog l #[.int .i64 (x.1 : Int), .int .i64 (Ls.getD x.1 0)] W fun e W' =>
      (e = .returned (.bool true) ∧ J (pre ++ [x]) W' ∧ KeepB Bs A m W W') ∨ (e = .returned (.bool false) ∧ Jx (pre ++ [x]) W'))
    (W : World) (hBh : W.heap[Bs]? = some (.cells #[.slice A m c] 24 (0, 0))) (hr : Reads W W.heap.size 1 A m (intsV Ls)) (h0J : J [] W) :
    CallsIn Fence.wide n Try.prog 55 #[.func (.yield l) #[] #[], .pointer (some ⟨Bs, 0, none⟩)] W fun e W' => (∃ v, e = .returned v) ∧
      ((∃ ys, ys = upto (ixB m h0) m ∧ J ys W') ∨ (∃ pre, True ∧ Jx pre W')) := by
  have hBs : W.cell? ⟨Bs, 0, none⟩ = some (.slice A m c) := cell_blk hBh 0
  have HR := hide hr
  have HL := hide hL
  clear hr hL
  refine callsIn_of_wp Try.func55 rfl trivial ?_ rfl
  simp only [Try.ntmps55, List.size_toArray, List.length_cons, List.length_nil, Nat.reduceAdd, Nat.reduceSub, Array.replicate_succ, Array.replicate_zero, List.push_toArray, List.append_toArray, List.nil_append, List.cons_append]
  gi_wp2
  gi_loopw [3] (fun i wr => ∃ k : Nat, k ≤ m ∧ i = .int .i64 ((m : Int) - 1 - k) ∧ J (upto (ixB m h0) k) wr ∧ KeepB Bs A m W wr) (fun i _ => (intOf i + 1).toNat)
  case atStart => exact ⟨0, Nat.zero_le _, by simp, h0J, KeepB.refl _ _ _ _⟩
  case round =>
    obtain ⟨k, hk, rfl, hJs, hnx⟩ := hrel
    have hbox : wr.cell? ⟨Bs, 0, none⟩ = some (.slice A m c) := cell_blk (hnx.1.trans hBh) 0
    by_cases hlt : k < m
    · obtain ⟨fn, tmps, assign, body, hy, hR⟩ := hY _ (ixB m h0 k) wr hJs (by rw [upto_length]; exact hlt)
      obtain ⟨j, hj⟩ : ∃ j : Nat, j = m - 1 - k := ⟨_, rfl⟩
      have hji : (m : Int) - 1 - (k : Int) = (j : Int) := by omega
      have hxj : (ixB m h0 k).1 = j := hj.symm
      obtain ⟨b, off, z, rfl, hb, hcell, hz⟩ := int_cells HR.out (k := j) (by omega)
      have hzd : Ls.getD j 0 = z := by rw [List.getD_eq_getElem?_getD, hz]; rfl
      rw [hxj, hzd] at hy
      have ez : wr.heap[b]? = W.heap[b]? := hnx.2 _ rfl (by omega)
      have kz : wr.cell? ⟨b, off + j, none⟩ = some (.int .i64 z) := (World.cell?_of_block ez).trans hcell
      clear ez
      have hjm : (j : Int) < (m : Int) := by omega
      have hj0 : (0 : Int) ≤ (j : Int) := by omega
      have HNX := hide hnx
      have HJI := hide hji
      rw [hji]
      have hR2 := hR.mono (R' := fun e W' => ∃ bb : Bool, e = .returned (.bool bb) ∧ ((bb = true ∧ J (upto (ixB m h0) (k + 1)) W' ∧ KeepB Bs (some ⟨b, off, none⟩) m wr W') ∨ (bb = false ∧ Jx (upto (ixB m h0) (k + 1)) W'))) (by
        rintro e W' (⟨rfl, a, b⟩ | ⟨rfl, a⟩)
        · exact ⟨true, rfl, .inl ⟨rfl, by rw [upto_succ]; exact a, b⟩⟩
        · exact ⟨false, rfl, .inr ⟨rfl, by rw [upto_succ]; exact a⟩⟩)
      clear hR hnx hji hj hxj hz hzd hcell hb
      have HJ := hide hJs
      clear hJs
      have h1n : 1 ≤ n := by omega
      gi_wp2_with (refine hR2.mono ?_; rintro e W3 ⟨bb, rfl, hbb⟩)
      all_goals rcases hbb with ⟨rfl, hJ3, hk3⟩ | ⟨rfl, hJx3⟩
      all_goals first
        | (exfalso; rename_i h; exact absurd h (by decide))
        | skip
      · refine bodyPost_ret (results_none rfl _ _ _) rfl ?_
        exact ⟨⟨_, rfl⟩, .inr ⟨_, trivial, hJx3⟩⟩
      · exact ⟨⟨k + 1, by omega, by have := HJI.out; congr 1; omega, hJ3, HNX.out.trans hk3⟩, by simp [intOf]⟩
    · obtain rfl : k = m := by omega
      have hneg : (k : Int) - 1 - (k : Int) = -1 := by omega
      rw [hneg]
      gi_wp2
      go_end0
      exact ⟨⟨_, rfl⟩, .inl ⟨_, rfl, hJs⟩⟩

/-- slices.Backward hands back an iterator: all indices, the last one first. -/
theorem back_stops (n : Nat) (hn : 2 ≤ n) (Bs m c : Nat) (A : Option Addr) (Ls : List Int) (h0 : 1 ≤ m) (hL : m = Ls.length) (hm : m ≤ 1000000) (w : World) (hc : w.heap[Bs]? = some (.cells #[.slice A m c] 24 (0, 0))) (hr : Reads w w.heap.size 1 A m (intsV Ls)) :
    SeqStopsK Fence.wide n Try.prog 55 #[.pointer (some ⟨Bs, 0, none⟩)] (fun x : Ix m => #[Value.int .i64 (x.1 : Int), Value.int .i64 (Ls.getD x.1 0)]) (KeepB Bs A m) (fun ys => ys = upto (ixB m h0) m) (fun _ => True) m w := fun l J Jx W hW hJ _ hY h0J =>
  back1_in n hn l Bs m c A Ls h0 hL hm J Jx hY W ((hW.block Bs (lt_of_heap hc)).trans hc) ((hr.below hW).more hW.size) h0J

/-- No element: the body is not run. -/
theorem back0_in (n : Nat) (l Bs c : Nat) (A : Option Addr) (W : World) (hBh : W.heap[Bs]? = some (.cells #[.slice A 0 c] 24 (0, 0))) :
    CallsIn Fence.wide n Try.prog 55 #[.func (.yield l) #[] #[], .pointer (some ⟨Bs, 0, none⟩)] W fun e W' => (∃ v, e = .returned v) ∧ W' = W := by
  have hBs : W.cell? ⟨Bs, 0, none⟩ = some (.slice A 0 c) := cell_blk hBh 0
  refine callsIn_of_wp Try.func55 rfl trivial ?_ rfl
  simp only [Try.ntmps55, List.size_toArray, List.length_cons, List.length_nil, Nat.reduceAdd, Nat.reduceSub, Array.replicate_succ, Array.replicate_zero, List.push_toArray, List.append_toArray, List.nil_append, List.cons_append]
  gi_wp2
  gi_loopw [3] (fun i wr => i = .int .i64 (-1) ∧ wr = W) (fun _ _ => 0)
  case atStart => exact ⟨rfl, rfl⟩
  case round =>
    obtain ⟨rfl, rfl⟩ := hrel
    gi_wp2
    go_end0
    exact ⟨⟨_, rfl⟩, rfl⟩
end Go.Proofs.Ytohgnohifojdbaa
