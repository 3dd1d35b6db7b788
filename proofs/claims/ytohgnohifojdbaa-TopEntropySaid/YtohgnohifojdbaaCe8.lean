/- cells.Build's closure walked. -/
import Derived.Test.YtohgnohifojdbaaCe7
import Derived.Laws.ResultCell
import Derived.Deep.RegionHeld3
import Derived.Deep.DrawnRows
namespace Go.Proofs.Ytohgnohifojdbaa
set_option maxRecDepth 8000
open Go.RowKit Go
set_option linter.unusedVariables false

theorem quiet_len {P : Program} {f : FuncId} {args : Array Value} {w : World} {n : Nat} {v : Value}
    (h : Calls P f args (w.drewN n) fun e w' => e = .returned v ∧ w' = w.drewN n) : Calls P f args (w.drewN n) fun e w'' => e = .returned v ∧ ∃ m, w'' = w.drewN m :=
  h.mono fun _ _ ⟨he, hm⟩ => ⟨he, n, hm⟩

set_option maxRecDepth 8000 in
set_option maxHeartbeats 4000000 in
theorem cell_any {w : World} {a1 a6 a4 b mm cc l m c cp S : Nat} {A Ap : Option Addr} {zs : List Int} {f : Int → Option Int} {v h x B : Nat} {z : Int}
    (h1 : w.heap[a1]? = some (.cells #[.int .i64 (l : Int), .slice A m c] 28 (0, 0))) (h6 : w.heap[a6]? = some (.cells #[.map (some b)] 126 (0, 0))) (h4 : w.heap[a4]? = some (.cells #[.slice Ap S cp] 24 (0, 0)))
    (hr : Reads w w.heap.size 1 A m (zs.map (Value.int .i64))) (hv : v < m) (hz : zs[v]? = some z) (hM : MapI w b mm cc f) (hmm : mm ≤ 100000) (hh : (f (v : Int)).getD 0 = (h : Int)) (hx : (x : Int) = absZ z + (h : Int)) (hz1 : -1 ≤ z) (hz0 : z ≠ 0)
    (hm : m ≤ 256) (hl : l ≤ 9) (hS : S = 2 ^ l) (hx2 : x < 2 ^ (l + 1)) (hB : B + Lib.bitLen x = l + 1) :
    Calls Try.prog 62 #[.int .i64 (v : Int), .pointer (some ⟨a1, 0, none⟩), .pointer (some ⟨a6, 0, none⟩), .pointer (some ⟨a4, 0, none⟩)] w fun e w' =>
      e = .returned (.agg #[.int .i64 (v : Int), .int .i64 (B : Int), .int .i64 ((x : Int) * 2 ^ B - (S : Int))]) ∧
        (∃ cc', MapI w' b (mm + 1) cc' (upd f (v : Int) ((h : Int) + 1))) ∧ Chg (fun j => j = b) w w' := by
  obtain ⟨ob, oo, y, rfl, hbb, kz, hy⟩ := int_cells hr hv
  obtain rfl : y = z := by rw [hz] at hy; injection hy with hy; exact hy.symm
  have hS9 : 2 ^ l ≤ 2 ^ 9 := Nat.pow_le_pow_right (by omega) hl
  have hl10 : 2 ^ (l + 1) = 2 * 2 ^ l := by rw [Nat.pow_succ, Nat.mul_comm]
  have h29 : (2 : Nat) ^ 9 = 512 := by decide
  have hxs : x < 65536 := by omega
  have hha : 0 ≤ absZ y := absZ_nonneg y
  have hw0 := (Below.refl w.heap.size w).alloc (Nat.le_refl _) (.cells #[.int .i64 0, .int .i64 0, .int .i64 0] 98 (0, 0))
  have hM1 := hM.below hw0
  have hvw : (Lit.int .i64 (v : Int)).wf = true := WalkArith.wf_i64 (by omega)
  have hlook := hM1.look (v : Int) hvw
  rw [hh] at hlook
  obtain ⟨w2, hrun, hM2, hturn, hch⟩ := hM1.upd (by unfold maxLen; omega) (v : Int) ((h : Int) + 1) hvw (WalkArith.wf_i64 (by omega))
  have hblt := hM.lt
  have k0 := cell_blk (alloc_far h1 (.cells #[.int .i64 0, .int .i64 0, .int .i64 0] 98 (0, 0))) 1
  have k6 := cell_blk (alloc_far h6 (.cells #[.int .i64 0, .int .i64 0, .int .i64 0] 98 (0, 0))) 0
  have kz1 : (w.alloc (.cells #[.int .i64 0, .int .i64 0, .int .i64 0] 98 (0, 0))).cell? ⟨ob, oo + v, none⟩ = some (.int .i64 y) := (World.cell?_alloc_lt w _ _ hbb).trans kz
  obtain ⟨es0, ck0, hmb⟩ := hM.notcells
  have n1 : a1 ≠ b := by rintro rfl; rw [h1] at hmb; cases hmb
  have n6 : a6 ≠ b := by rintro rfl; rw [h6] at hmb; cases hmb
  have n4 : a4 ≠ b := by rintro rfl; rw [h4] at hmb; cases hmb
  have nr : w.heap.size ≠ b := by omega
  have g1 := hch.heap (alloc_far h1 (.cells #[.int .i64 0, .int .i64 0, .int .i64 0] 98 (0, 0))) n1
  have g4 := hch.heap (alloc_far h4 (.cells #[.int .i64 0, .int .i64 0, .int .i64 0] 98 (0, 0))) n4
  have gr := hch.heap (heap_alloc_new w (.cells #[.int .i64 0, .int .i64 0, .int .i64 0] 98 (0, 0))) nr
  have j0 := cell_blk g1 0
  have j4 := cell_blk g4 0
  have r0 := cell_blk gr 0
  have r1 := cell_blk gr 1
  have r2 := cell_blk gr 2
  have rf0 := frozen_blk gr 0
  have rf1 := frozen_blk gr 1
  have rf2 := frozen_blk gr 2
  have HLEN := hide (fun W => lenB_any x W hxs)
  obtain ⟨bl, hbl⟩ : ∃ bl, bl = Lib.bitLen x := ⟨_, rfl⟩
  rw [← hbl] at hB HLEN
  have hwl : IntKind.i64.wrap ((l : Int) + 1) = (l : Int) + 1 := IntWalk.i64_in _ (by omega)
  have hwb : IntKind.i64.wrap ((l : Int) + 1 - (bl : Int)) = (B : Int) := by rw [IntWalk.i64_in _ (by omega)]; omega
  have hwh : IntKind.i64.wrap ((h : Int) + 1) = (h : Int) + 1 := IntWalk.i64_in _ (by omega)
  have hB10 : B ≤ 10 := by omega
  have hpB : 2 ^ B ≤ 2 ^ 10 := Nat.pow_le_pow_right (by omega) hB10
  have hp10 : (2 : Nat) ^ 10 = 1024 := by decide
  have hxB : x * 2 ^ B ≤ 65536 * 1024 := Nat.mul_le_mul (by omega) (by omega)
  have hxBi : (x : Int) * 2 ^ B = ((x * 2 ^ B : Nat) : Int) := by simp
  obtain ⟨X, hX⟩ : ∃ X, X = x * 2 ^ B := ⟨_, rfl⟩
  rw [← hX] at hxB hxBi
  have hwx : IntKind.i64.wrap ((x : Int) * 2 ^ B) = (X : Int) := by rw [hxBi, IntWalk.i64_in _ (by omega)]
  have hws : IntKind.i64.wrap ((X : Int) - (S : Int)) = (X : Int) - (S : Int) := IntWalk.i64_in _ (by omega)
  rw [hxBi]
  have HGR := hide gr
  have HM2 := hide hM2
  have HCH := hide (((Chg.refl (fun j => j = b) w).alloc (.cells #[.int .i64 0, .int .i64 0, .int .i64 0] 98 (0, 0))).trans hch (fun j hj => .inl hj))
  have HNR := hide nr
  have habs : (y = -1 ∧ (x : Int) = 1 + (h : Int)) ∨ (0 < y ∧ (x : Int) = y + (h : Int)) := by unfold absZ at hx; omega
  have hvm : (v : Int) < (m : Int) := by omega
  clear h1 h6 h4 hr hz hy hM hM1 hw0 hh hx hM2 hturn hch hmb n1 n6 n4 nr g1 g4 gr hS9 hl10 h29 hha hB hpB hp10 hxB hX hxBi hblt hS hx2 hbl hvw kz hz0
  have hmx : max y (-y) + (h : Int) = (x : Int) := by omega
  have hyb : -1 ≤ y ∧ y ≤ 65536 := by omega
  obtain ⟨hyb1, hyb2⟩ := hyb
  have hwn : IntKind.i64.wrap (-y) = -y := IntWalk.i64_in _ (by omega)
  have hwx0 : IntKind.i64.wrap (x : Int) = (x : Int) := IntWalk.i64_in _ (by omega)
  have hmxa : IntKind.i64.wrap (max y (-y) + (h : Int)) = (x : Int) := by rw [hmx, hwx0]
  have HMX := hide hmx
  clear hmx habs hz1
  go_enter Try.func62, Try.ntmps62
  go_wp2
  try rw [HMX.out]
  go_quiet ((go_at_call 16; exact quiet_len (HLEN.out _)))
  go_wp2
  obtain ⟨w3, hw3⟩ : ∃ w3, w3 = w2.drewN nq := ⟨_, rfl⟩
  have j4' : w3.cell? ⟨a4, 0, none⟩ = some (.slice Ap S cp) := by rw [hw3]; exact j4
  have r0' : w3.cell? ⟨w.heap.size, 0, none⟩ = some (.int .i64 0) := by rw [hw3]; exact r0
  have r1' : w3.cell? ⟨w.heap.size, 1, none⟩ = some (.int .i64 0) := by rw [hw3]; exact r1
  have r2' : w3.cell? ⟨w.heap.size, 2, none⟩ = some (.int .i64 0) := by rw [hw3]; exact r2
  have rf0' : w3.frozen? ⟨w.heap.size, 0, none⟩ = false := by rw [hw3]; exact rf0
  have rf1' : w3.frozen? ⟨w.heap.size, 1, none⟩ = false := by rw [hw3]; exact rf1
  have rf2' : w3.frozen? ⟨w.heap.size, 2, none⟩ = false := by rw [hw3]; exact rf2
  have HM3 : Hid (MapI w3 b (mm + 1) (if (f (v : Int)).isSome then cc else cc + 1) (fun j => if j = (v : Int) then some ((h : Int) + 1) else f j)) := by rw [hw3]; exact HM2.out.chg ((Chg.refl (fun _ => False) w2).drewN _) (fun h => h)
  have HC3 : Hid (Chg (fun j => j = b) w w3) := by rw [hw3]; exact HCH.out.drewN _
  have HG3 : Hid (w3.heap[w.heap.size]? = some (.cells #[.int .i64 0, .int .i64 0, .int .i64 0] 98 (0, 0))) := by rw [hw3]; exact HGR.out
  rw [← hw3]
  clear hw3 j4 j0 r0 r1 r2 rf0 rf1 rf2 hrun hlook HM2 HCH k0 k6 kz1
  go_region
  have hset := set_blk (set_blk (set_blk HG3.out 0 (.int .i64 (v : Int))) 1 (.int .i64 (B : Int))) 2 (.int .i64 ((X : Int) - (S : Int)))
  obtain ⟨w4, hw4⟩ : ∃ w4, w4 = (((w3.setCell ⟨w.heap.size, 0, none⟩ (.int .i64 (v : Int))).setCell ⟨w.heap.size, 1, none⟩ (.int .i64 (B : Int))).setCell ⟨w.heap.size, 2, none⟩ (.int .i64 ((X : Int) - (S : Int)))) := ⟨_, rfl⟩
  have hc4 : Chg (fun j => j = w.heap.size) w3 w4 := by
    rw [hw4]
    exact (((Chg.refl (fun j => j = w.heap.size) w3).setCell (p := ⟨w.heap.size, 0, none⟩) (.inl rfl) _).setCell (p := ⟨w.heap.size, 1, none⟩) (.inl rfl) _).setCell (p := ⟨w.heap.size, 2, none⟩) (.inl rfl) _
  rw [← hw4] at hset ⊢
  have q0 : w4.drew.cell? ⟨w.heap.size, 0, none⟩ = some (.int .i64 (v : Int)) := (cell_blk hset 0).trans rfl
  have q1 : w4.drew.cell? ⟨w.heap.size, 1, none⟩ = some (.int .i64 (B : Int)) := (cell_blk hset 1).trans rfl
  have q2 : w4.drew.cell? ⟨w.heap.size, 2, none⟩ = some (.int .i64 ((X : Int) - (S : Int))) := (cell_blk hset 2).trans rfl
  have HC4 := hide hc4
  clear hw4 hset hc4 r0' r1' r2' rf0' rf1' rf2'
  go_wp2
  refine bodyPost_ret (v := .agg #[.int .i64 (v : Int), .int .i64 (B : Int), .int .i64 ((X : Int) - (S : Int))]) ?_ rfl ⟨rfl, ?_, ?_⟩
  · simp only [results, Try.results62, go_sem]
    simp [q0, q1, q2, go_sem]
  · exact ⟨_, (HM3.out.chg HC4.out (fun h => HNR.out h.symm)).chg ((Chg.refl (fun _ => False) w4).drew) (fun h => h)⟩
  · exact (HC3.out.trans HC4.out (fun j hj => .inr (by omega))).drew
end Go.Proofs.Ytohgnohifojdbaa
