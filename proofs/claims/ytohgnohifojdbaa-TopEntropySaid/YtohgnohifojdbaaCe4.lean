/- spread.turn: an iterator over the indices in the order of the visits. -/
import Derived.Test.YtohgnohifojdbaaCe3
import Derived.RangeFuncNested
import Derived.RangeFuncBound
import Derived.RangeFuncCalls
import Derived.RangeFuncLeaves
import Derived.Shelf.Abstract
import Derived.Shelf.RegionOpen
import Derived.OwnWalkIn
import Derived.TacticsInMore
import Derived.LoopNIn
import Derived.LoopIn
import Derived.Maps.OwnIn
import Derived.RangeFuncBox
import Derived.RangeFuncWrites
import Derived.Stop.RegionWithIn
namespace Go.Proofs.Ytohgnohifojdbaa
set_option maxRecDepth 8000
open Go.RowKit Go Go.Shelf
set_option linter.unusedVariables false
attribute [local go_sem] Oper.semAt_some

/-- An index of a table of s states. -/
abbrev Ix (s : Nat) := { x : Nat // x < s }
/-- The index of visit k. -/
def vis (s : Nat) (h0 : 1 ≤ s) (k : Nat) : Ix s := ⟨k * stepN s % s, Nat.mod_lt _ h0⟩
theorem vis_val {s : Nat} (k : Nat) (h0 : 1 ≤ s) : (vis s h0 k).1 = k * stepN s % s := rfl
def upto {α : Type} (f : Nat → α) (k : Nat) : List α := (List.range k).map f
theorem upto_succ {α : Type} (f : Nat → α) (k : Nat) : upto f (k + 1) = upto f k ++ [f k] := by simp [upto, List.range_succ]
theorem upto_length {α : Type} (f : Nat → α) (k : Nat) : (upto f k).length = k := by simp [upto]

theorem grown_drew (W : World) : W.grownBy W.drew none := ⟨rfl, rfl, rfl, Nat.le_refl _, fun _ _ _ => rfl⟩

set_option maxHeartbeats 1000000 in
theorem turn_in (n : Nat) (s : Nat) (w : World) :
    CallsIn Fence.wide n Try.prog 70 #[.int .i64 (s : Int)] w fun e w' =>
      e = .returned (.func (.func 72) #[] #[.pointer (some ⟨w.heap.size, 0, none⟩)]) ∧ w' = w.alloc (.cells #[.int .i64 (s : Int)] 3) := by
  refine callsIn_of_wp Try.func70 rfl trivial ?_ rfl
  simp only [Try.ntmps70, List.size_toArray, List.length_cons, List.length_nil, Nat.reduceAdd, Nat.reduceSub, Array.replicate_succ, Array.replicate_zero, List.push_toArray, List.append_toArray, List.nil_append, List.cons_append]
  gi_wp2
  go_ret
  exact ⟨rfl, rfl⟩

set_option maxRecDepth 100000 in
set_option maxHeartbeats 4000000 in
theorem turn1_in (n : Nat) (hn : 2 ≤ n) (l Bs s : Nat) (h0 : 1 ≤ s) (h1 : s ≤ 512) (J Jx : List (Ix s) → World → Prop)
    (hY : ∀ pre (x : Ix s) W, J pre W → pre.length < s → YieldAt Fence.wide (n - 1) Try.prog l #[.int .i64 (x.1 : Int)] W fun e W' =>
      (e = .returned (.bool true) ∧ J (pre ++ [x]) W' ∧ W'.heap[Bs]? = W.heap[Bs]?) ∨ (e = .returned (.bool false) ∧ Jx (pre ++ [x]) W'))
    (W : World) (hJ : AbidesFrom W.heap.size J) (hBh : W.heap[Bs]? = some (.cells #[.int .i64 (s : Int)] 3 (0, 0))) (h0J : J [] W) :
    CallsIn Fence.wide n Try.prog 72 #[.func (.yield l) #[] #[], .pointer (some ⟨Bs, 0, none⟩)] W fun e W' => (∃ v, e = .returned v) ∧
      ((∃ ys, ys = upto (vis s h0) s ∧ J ys W') ∨ (∃ pre, True ∧ Jx pre W')) := by
  have hBs : W.cell? ⟨Bs, 0, none⟩ = some (.int .i64 (s : Int)) := cell_blk hBh 0
  refine callsIn_of_wp Try.func72 rfl trivial ?_ rfl
  simp only [Try.ntmps72, List.size_toArray, List.length_cons, List.length_nil, Nat.reduceAdd, Nat.reduceSub, Array.replicate_succ, Array.replicate_zero, List.push_toArray, List.append_toArray, List.nil_append, List.cons_append]
  gi_wp2
  gi_loopw [5] (fun i wr => ∃ k : Nat, k ≤ s ∧ i = .int .i64 k ∧ J (upto (vis s h0) k) wr ∧ wr.heap[Bs]? = W.heap[Bs]?) (fun i _ => s - (intOf i).toNat)
  case atStart => exact ⟨0, Nat.zero_le _, rfl, h0J, rfl⟩
  case round =>
    obtain ⟨k, hk, rfl, hJs, hnx⟩ := hrel
    have hbox : wr.cell? ⟨Bs, 0, none⟩ = some (.int .i64 (s : Int)) := cell_blk (hnx.trans hBh) 0
    by_cases hlt : k < s
    · have hJd : J (upto (vis s h0) k) wr.drew := hJ _ wr wr.drew none hJs (grown_drew wr) (fun r e => by cases e)
      obtain ⟨fn, tmps, assign, body, hy, hR⟩ := hY _ (vis s h0 k) wr.drew hJd (by rw [upto_length]; exact hlt)
      have hval := vis_val k h0
      have hst : 1 ≤ stepN s ∧ stepN s ≤ 400 := by unfold stepN; split <;> omega
      have HSTEP := hide (fun W' => step_any s W' h0 h1)
      obtain ⟨x, hx⟩ : ∃ x, x = (vis s h0 k).1 := ⟨_, rfl⟩
      obtain ⟨t, ht⟩ : ∃ t, t = stepN s := ⟨_, rfl⟩
      rw [← hx] at hval hy
      rw [← ht] at hval hst
      have HSTEP2 := hide (by have := HSTEP.out; rw [← ht] at this; exact this : ∀ W', Calls Try.prog 73 #[.int .i64 (s : Int)] W' fun e w' => e = .returned (.int .i64 (t : Int)) ∧ w' = W')
      have hkt : k * t ≤ 512 * 400 := Nat.mul_le_mul (by omega) hst.2
      have hmul : (k : Int) * (t : Int) = ((k * t : Nat) : Int) := by simp
      obtain ⟨p, hp⟩ : ∃ p, p = k * t := ⟨_, rfl⟩
      rw [← hp] at hkt hmul hval
      have hwm : IntKind.i64.wrap ((k : Int) * (t : Int)) = (p : Int) := by rw [hmul, IntWalk.i64_in _ (by omega)]
      have hrem : (p : Int) % (s : Int) = (x : Int) := by rw [hval]; simp
      have hs0 : ¬ (s : Int) = 0 := by omega
      have hs0b : ((s : Int) == 0) = false := by simp; omega
      have HNX := hide hnx
      clear hval hst HSTEP hx ht hkt hmul hp hJd
      have HJ := hide hJ
      clear hJ hnx hJs
      have hR2 := hR.mono (R' := fun e W' => ∃ bb : Bool, e = .returned (.bool bb) ∧ ((bb = true ∧ J (upto (vis s h0) (k + 1)) W' ∧ W'.heap[Bs]? = wr.heap[Bs]?) ∨ (bb = false ∧ Jx (upto (vis s h0) (k + 1)) W'))) (by
        rintro e W' (⟨rfl, a, b⟩ | ⟨rfl, a⟩)
        · exact ⟨true, rfl, .inl ⟨rfl, by rw [upto_succ]; exact a, b⟩⟩
        · exact ⟨false, rfl, .inr ⟨rfl, by rw [upto_succ]; exact a⟩⟩)
      clear hR
      have h1n : 1 ≤ n := by omega
      gi_wp2
      gi_region_with (first
        | (gi_at_call 73; refine (callsIn_wide.2 (HSTEP2.out _)).mono ?_; rintro e w1 ⟨rfl, rfl⟩)
        | (refine ⟨trivial, ?_⟩; gi_at_call 73; refine (callsIn_wide.2 (HSTEP2.out _)).mono ?_; rintro e w1 ⟨rfl, rfl⟩)
        | (refine hR2.mono ?_; rintro e W3 ⟨bb, rfl, hbb⟩))
      all_goals rcases hbb with ⟨rfl, hJ3, hk3⟩ | ⟨rfl, hJx3⟩
      all_goals gi_wp2
      all_goals first
        | (refine bodyPost_ret (results_none rfl _ _ _) rfl ?_
           exact ⟨⟨_, rfl⟩, .inr ⟨_, trivial, hJx3⟩⟩)
        | (go_roundw
           case rel => exact ⟨k + 1, by omega, by simp, hJ3, hk3.trans HNX.out⟩
           case measure => simp [intOf]; omega)
    · obtain rfl : k = s := by omega
      gi_wp2
      go_end0
      exact ⟨⟨_, rfl⟩, .inl ⟨_, rfl, hJs⟩⟩

/-- turn(s) hands back an iterator: all indices in the order of the visits. -/
theorem turn_stops (n : Nat) (hn : 2 ≤ n) (Bs s : Nat) (h0 : 1 ≤ s) (h1 : s ≤ 512) (w : World) (hc : w.heap[Bs]? = some (.cells #[.int .i64 (s : Int)] 3 (0, 0))) :
    SeqStopsK Fence.wide n Try.prog 72 #[.pointer (some ⟨Bs, 0, none⟩)] (fun x : Ix s => #[Value.int .i64 (x.1 : Int)]) (fun W W' => W'.heap[Bs]? = W.heap[Bs]?) (fun ys => ys = upto (vis s h0) s) (fun _ => True) s w := fun l J Jx W hW hJ _ hY h0J =>
  turn1_in n hn l Bs s h0 h1 J Jx hY W hJ ((hW.block Bs (lt_of_heap hc)).trans hc) h0J
end Go.Proofs.Ytohgnohifojdbaa
