/- Package bitin walked: row.value. -/
import Derived.Test.YtohgnohifojdbaaInV
import Derived.Laws.ResultCell
namespace Go.Proofs.Ytohgnohifojdbaa
set_option maxRecDepth 8000
open Go.RowKit
set_option linter.unusedVariables false

theorem alloc_new (w : World) (o : Obj) {k : Nat} (hk : k = w.heap.size) : (w.alloc o).heap[k]? = some o := by
  subst hk
  show (w.heap.push o)[w.heap.size]? = some o
  simp

theorem val_boxes (w : World) (g at_ n : Nat) :
    let W := ((((w.alloc (.cells #[.pointer (some ⟨g, 0, none⟩)] 132 (0, 0))).alloc (.cells #[.int .i64 at_] 3 (0, 0))).alloc (.cells #[.int .i64 n] 3 (0, 0))).alloc (.cells #[.int .u64 0] 74 (0, 0))).alloc (.cells #[.int .i64 0] 3 (0, 0))
    ValBoxes W (w.heap.size + 1) (w.heap.size + 4) (w.heap.size + 2) (w.heap.size + 3) w.heap.size at_ 0 n 0 g ∧ Below w.heap.size w W := by
  refine ⟨⟨?_, ?_, ?_, ?_, ?_, by omega, by omega⟩, ?_⟩
  · exact alloc_far (alloc_far (alloc_far (alloc_new _ _ (by simp)) _) _) _
  · exact alloc_new _ _ (by simp)
  · exact alloc_far (alloc_far (alloc_new _ _ (by simp)) _) _
  · exact alloc_far (alloc_new _ _ (by simp)) _
  · exact alloc_far (alloc_far (alloc_far (alloc_far (alloc_new _ _ (by simp)) _) _) _) _
  · exact ((((((Chg.refl (fun _ => False) w).alloc _).alloc _).alloc _).alloc _).alloc _).keep

def gotOf (w : World) (a : Nat) : Nat := match w.cell? ⟨a, 0, none⟩ with | some (.int _ i) => i.toNat | _ => 0

set_option maxHeartbeats 1000000 in
theorem value_any {g m c at_ n : Nat} {T : TypeId} {A : Option Addr} {f t : Int} {bs : List Nat} (w : World) (hR : RowAt w g T A m c f t)
    (hB : Reads w w.heap.size 1 A m (u8s bs)) (h8 : ∀ x ∈ bs, x < 256) (hm : m = bs.length) (hn : n ≤ 64) (hat : at_ + n ≤ 8 * m) (hm' : m ≤ 10000000000) :
    Calls Try.prog 51 #[.pointer (some ⟨g, 0, none⟩), .int .i64 at_, .int .i64 n] w
      fun e w' => e = .returned (.int .u64 ((leN bs / 2 ^ at_ % 2 ^ n : Nat) : Int)) ∧ Below w.heap.size w w' := by
  have hmf : ∀ (fn : Fn) (first cap : Array Value) (w : World), (Instr.makeFunc fn first cap).run Try.prog w = .ok (.func fn first cap) w := fun _ _ _ _ => rfl
  have HV := hide (val_boxes w g at_ n)
  have HB := hide hB
  have HR := hide hR
  have H8 := hide h8
  have HM := hide hm
  clear hR hB h8 hm
  go_enter Try.func51, Try.ntmps51
  go_wp2
  go_loopw [] (fun wr => ∃ got : Nat, got ≤ n ∧ ValBoxes wr (w.heap.size + 1) (w.heap.size + 4) (w.heap.size + 2) (w.heap.size + 3) w.heap.size at_ got n (leN bs / 2 ^ at_ % 2 ^ got) g ∧ Below w.heap.size w wr) (fun wr => n - gotOf wr (w.heap.size + 4))
  case atStart =>
    refine ⟨0, Nat.zero_le _, ?_, HV.out.2⟩
    have := HV.out.1
    simpa [Nat.mod_one] using this
  case round =>
    obtain ⟨got, hg, hvb, hbl⟩ := hrel
    have hsz := hbl.size
    obtain ⟨c1, _⟩ := cell_one hvb.hgot
    obtain ⟨c2, _⟩ := cell_one hvb.hn
    obtain ⟨c3, f3⟩ := cell_one hvb.hv
    have HVB := hide hvb
    have HBL := hide hbl
    clear hvb hbl
    by_cases hlt : got < n
    · have hlt' : (got : Int) < (n : Int) := by omega
      have hrow : RowAt wr g T A m c f t := (HBL.out.block g (lt_of_heap HR.out)).trans HR.out
      obtain ⟨q, hq⟩ : ∃ q, q = (at_ + got) / 8 := ⟨_, rfl⟩
      obtain ⟨s, hs⟩ : ∃ s, s = (at_ + got) % 8 := ⟨_, rfl⟩
      obtain ⟨k, hk⟩ : ∃ k, k = min (8 - s) (n - got) := ⟨_, rfl⟩
      have hqm : q < m := by omega
      have hqb : q < bs.length := by have := HM.out; omega
      obtain ⟨b, off, hA, hbb, hcell⟩ := (HB.out.below HBL.out).open_ (by omega) (by omega)
      subst hA
      have hx := hcell q (.int .u8 ((bs.getD q 0 : Nat) : Int)) (by simp [u8s, List.getD_eq_getElem?_getD, List.getElem?_eq_getElem hqb])
      have hdig := leN_digit bs 0 q H8.out hqb
      rw [Nat.mul_zero, Nat.add_zero] at hdig
      have hx8 : bs.getD q 0 < 256 := by rw [← hdig]; exact Nat.mod_lt _ (by omega)
      have hcon := byteOn_any (w := wr) HVB.out hrow hq hs hk hlt hn (by omega) hqm hx hx8 (Nat.mod_lt _ (Nat.pow_pos (by omega)))
      rw [← hdig, hq, hs, byte_num _ _ _ _ (by omega)] at hcon
      have HC := hide hcon
      clear hcon hx hdig hrow hcell
      go_wp2_with fail
      refine HC.out.mono ?_
      rintro e w1 ⟨rfl, hvb1, hch⟩
      have hg1 := (cell_one hvb1.hgot).1
      have HVB1 := hide hvb1
      have HCH := hide hch
      have HQ := hide hq
      have HS := hide hs
      have HK := hide hk
      clear hvb1 hch hq hs hk
      go_wp2
      go_roundw
      case rel =>
        have := HK.out
        refine ⟨got + k, by omega, HVB1.out, HBL.out.trans (HCH.out.below ?_ ?_)⟩
        · rintro b (rfl | rfl) <;> omega
        · exact hsz
      case measure =>
        have h1 := HK.out
        have h2 := HS.out
        have e1 : gotOf wr (w.heap.size + 4) = got := by unfold gotOf; rw [c1]; rfl
        have e2 : gotOf w1 (w.heap.size + 4) = got + k := by unfold gotOf; rw [hg1]; rfl
        rw [e1, e2]
        omega
    · have hgn : got = n := by omega
      subst hgn
      obtain ⟨V, hV⟩ : ∃ V, V = leN bs / 2 ^ at_ % 2 ^ got := ⟨_, rfl⟩
      rw [← hV] at c3
      have hc : (wr.setCell ⟨w.heap.size + 3, 0, none⟩ (.int .u64 (V : Int))).cell? ⟨w.heap.size + 3, 0, none⟩ = some (.int .u64 (V : Int)) := (cell_blk (set_blk HVB.out.hv 0 _) 0).trans rfl
      have HVV := hide hV
      clear hV
      go_wp2
      refine bodyPost_ret (v := .int .u64 (V : Int)) ?_ rfl ⟨by rw [HVV.out], ?_⟩
      · simp only [results, Try.results51, go_sem]
        simp [hc, go_sem]
      · exact HBL.out.trans (((Chg.refl (fun b => b = w.heap.size + 3) wr).setCell (p := ⟨w.heap.size + 3, 0, none⟩) (.inl rfl) _).below (by rintro b rfl; omega) hsz)
end Go.Proofs.Ytohgnohifojdbaa
