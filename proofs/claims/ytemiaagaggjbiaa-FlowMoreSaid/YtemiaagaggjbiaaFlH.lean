/- portmanteaulaw12.has walked. -/
import Derived.Test.YtemiaagaggjbiaaFlG
namespace Go.Proofs.Ytemiaagaggjbiaa
open Go.RowKit Go Go.Shelf
set_option linter.unusedVariables false
set_option maxRecDepth 8000

theorem hasOne (zs : List Int) (s : Int) :
    ∃ b : Bool, (b = true ↔ hasS zs s) ∧ ∀ (w : World) (l : Int) (A : Option Addr) (m c : Nat), zs.length = m → Reads w w.heap.size 1 A m (zs.map (Value.int .i64)) →
      Calls Try.prog 31 #[.agg #[.int .i64 l, .slice A m c], .int .i64 s] w fun e w' => e = .returned (.bool b) ∧ Below w.heap.size w w' := by
  rcases has_cases s (rfl : zs.length = zs.length) with h | ⟨v, z, rfl, hv, hz, hz0⟩
  · refine ⟨false, Iff.intro (fun h => by cases h) ?_, fun w l A m c hm hr => has_no hm hr (hm ▸ h)⟩
    rintro ⟨v, z, rfl, h1, h2⟩
    exfalso
    have hv : v < zs.length := by
      rcases Nat.lt_or_ge v zs.length with h | h
      · exact h
      · rw [List.getElem?_eq_none h] at h1; cases h1
    rcases h with h | ⟨_, h⟩ | ⟨v', e, _, h⟩
    · omega
    · omega
    · obtain rfl : v = v' := by omega
      rw [h] at h1
      injection h1 with h1
      exact h2 h1.symm
  · exact ⟨true, Iff.intro (fun _ => ⟨v, z, rfl, hz, hz0⟩) (fun _ => rfl), fun w l A m c hm hr => has_yes hm hr (hm ▸ hv) hz hz0⟩

set_option maxHeartbeats 4000000 in
theorem has_any {w : World} (l : Int) {A B : Option Addr} {m c n c2 : Nat} {zs S : List Int} (hm : zs.length = m) (hr : Reads w w.heap.size 1 A m (zs.map (Value.int .i64))) (hS : S.length = n) (hrS : Reads w w.heap.size 1 B n (intsV S)) (hn : n ≤ 1000000) :
    Calls Try.prog 16 #[.agg #[.int .i64 l, .slice A m c], .slice B n c2] w fun e w' => ∃ b, e = .returned (.bool b) ∧ (b = true ↔ ∀ s ∈ S, hasS zs s) ∧ Below w.heap.size w w' := by
  obtain ⟨W0, hW0⟩ : ∃ W0, W0 = w.alloc (.cells #[.int .i64 l, .slice A m c] 24 (0, 0)) := ⟨_, rfl⟩
  have g1 : W0.heap[w.heap.size]? = some (.cells #[.int .i64 l, .slice A m c] 24 (0, 0)) := by rw [hW0]; exact heap_alloc_new w _
  have b0 : Below w.heap.size w W0 := by rw [hW0]; exact (Below.refl w.heap.size w).alloc (Nat.le_refl _) _
  have HR := hide hr
  have HRS := hide hrS
  have HM := hide hm
  have HS := hide hS
  have HG1 := hide g1
  have HB0 := hide b0
  have HW0 := hide hW0
  clear hr hrS hm hS g1 b0 hW0
  go_enter Try.func16, Try.ntmps16
  go_wp2_with fail
  rw [← HW0.out]
  go_loopw [5] (fun i wr => ∃ k : Nat, k ≤ n ∧ i = .int .i64 k ∧ (∀ s ∈ S.take k, hasS zs s) ∧ wr.heap[w.heap.size]? = some (.cells #[.int .i64 l, .slice A m c] 24 (0, 0)) ∧ Below w.heap.size w wr) (fun i _ => n - (intOf i).toNat)
  case atStart => exact ⟨0, Nat.zero_le _, rfl, by simp, HG1.out, HB0.out⟩
  case round =>
    obtain ⟨k, hk, rfl, hpre, y1, hb⟩ := hrel
    have HP := hide hpre
    have Y1 := hide y1
    have HB := hide hb
    clear hpre y1 hb
    by_cases hlt : k < n
    · obtain ⟨b, off, x, rfl, hbb, k1, hx⟩ := int_cells (HRS.out.below HB.out) hlt
      have c0 := cell_blk Y1.out 0
      have c1 := cell_blk Y1.out 1
      have hkn : (k : Int) < (n : Int) := by omega
      obtain ⟨bo, hbo, hcall⟩ := hasOne zs x
      have hrw := (HR.out.below HB.out).more HB.out.size
      have HHAS := hide (hcall wr.drew l A m c HM.out hrw)
      have lt0 : w.heap.size < wr.heap.size := lt_of_heap Y1.out
      have lt1 : b < wr.heap.size := Nat.lt_of_lt_of_le hbb HB.out.size
      have HX := hide hx
      clear hcall hrw hx
      cases bo with
      | false =>
        have hno : ¬ hasS zs x := fun h => by have := hbo.2 h; cases this
        have HNO := hide hno
        clear hno hbo
        go_wp2_with fail
        go_region_held3 (fun w' => w'.cell? ⟨w.heap.size, 0, none⟩ = some (.int .i64 l) ∧ w'.cell? ⟨w.heap.size, 1, none⟩ = some (.slice A m c) ∧ w'.cell? ⟨b, off + k, none⟩ = some (.int .i64 x)) (go_keep)
          (first
          | (go_at_call 31; refine HHAS.out.mono ?_; rintro e x1 ⟨rfl, hx1⟩; replace hx1 := (Below.refl _ wr).drew.trans hx1; have j0 := (hx1.cell (p := ⟨w.heap.size, 0, none⟩) lt0).trans c0; have j1 := (hx1.cell (p := ⟨w.heap.size, 1, none⟩) lt0).trans c1; have j2 := (hx1.cell (p := ⟨b, off + k, none⟩) lt1).trans k1; have HX1 := hide hx1; clear hx1))
        go_wp2
        go_ret
        exact ⟨false, rfl, Iff.intro (fun h => by cases h) (fun h => absurd (h x (List.mem_of_getElem? HX.out)) HNO.out), HB.out.trans (HX1.out.mono HB.out.size)⟩
      | true =>
        have hyes : hasS zs x := hbo.1 rfl
        have HYES := hide hyes
        clear hyes hbo
        go_wp2_with fail
        go_region_held3 (fun w' => w'.cell? ⟨w.heap.size, 0, none⟩ = some (.int .i64 l) ∧ w'.cell? ⟨w.heap.size, 1, none⟩ = some (.slice A m c) ∧ w'.cell? ⟨b, off + k, none⟩ = some (.int .i64 x)) (go_keep)
          (first
          | (go_at_call 31; refine HHAS.out.mono ?_; rintro e x1 ⟨rfl, hx1⟩; replace hx1 := (Below.refl _ wr).drew.trans hx1; have j0 := (hx1.cell (p := ⟨w.heap.size, 0, none⟩) lt0).trans c0; have j1 := (hx1.cell (p := ⟨w.heap.size, 1, none⟩) lt0).trans c1; have j2 := (hx1.cell (p := ⟨b, off + k, none⟩) lt1).trans k1; have HX1 := hide hx1; clear hx1))
        go_wp2
        go_roundw
        case rel =>
          refine ⟨k + 1, by omega, by go_num, fun s hs => ?_, (HX1.out.block _ lt0).trans Y1.out, HB.out.trans (HX1.out.mono HB.out.size)⟩
          rw [take_snoc_some HX.out] at hs
          rcases List.mem_append.1 hs with h | h
          · exact HP.out s h
          · rw [List.mem_singleton.1 h]; exact HYES.out
        case measure => simp [intOf]; omega
    · obtain rfl : n = k := by omega
      go_wp2
      go_ret
      exact ⟨true, rfl, Iff.intro (fun _ s hs => HP.out s (by rw [List.take_of_length_le (by have := HS.out; omega)]; exact hs)) (fun _ => rfl), HB.out⟩
end Go.Proofs.Ytemiaagaggjbiaa
