/- Backward.Peek of a number outside 0 .. 64. -/
import Derived.Test.YtifolinoadllbaaInZ
namespace Go.Proofs.Ytifolinoadllbaa
open Go.RowKit
set_option linter.unusedVariables false

set_option maxHeartbeats 1000000 in
theorem bpeek_full_c {g m c f t k to_ : Nat} {T : TypeId} {A : Option Addr} {bs : List Nat} (w : World) (hr : Rd w g T A m c bs f t)
    {n : Int} (hcl : min (max n 0) 64 = (k : Int)) (hk64 : k ≤ 64) (hf : f ≤ to_) (ht : to_ + k = t) :
    Calls Try.prog 14 #[.pointer (some ⟨g, 0, none⟩), .int .i64 n] w fun e w' =>
      e = .returned (.int .u64 ((leN bs / 2 ^ to_ % 2 ^ k : Nat) : Int)) ∧ Below w.heap.size w w' := by
  have h1 := hr.le; have h2 := hr.top; have h3 := hr.small
  have hw1 : IntKind.i64.wrap ((t : Int) - (k : Int)) = (to_ : Int) := by rw [IntWalk.i64_in _ (by omega)]; omega
  have hw2 : IntKind.i64.wrap ((k : Int) - (k : Int)) = 0 := by rw [IntWalk.i64_in _ (by omega)]; omega
  obtain ⟨p, hp⟩ : ∃ p, p = leN bs / 2 ^ to_ % 2 ^ k := ⟨_, rfl⟩
  have hp64 : p < 18446744073709551616 := lt64 (by rw [hp]; exact Nat.mod_lt _ (Nat.pow_pos (by omega))) hk64
  have HL := hide (left_any w hr.row (by omega) (by omega) (by omega))
  have hvd : ∀ j, Calls Try.prog 37 #[.pointer (some ⟨g, 0, none⟩), .int .i64 to_, .int .i64 k] (w.drewN j).drew
      fun e w' => e = .returned (.int .u64 ((p : Nat) : Int)) ∧ Below (w.drewN j).drew.heap.size (w.drewN j).drew w' := by
    intro j
    rw [hp]
    exact (hr.drewN j).drew.value to_ k (by omega) (by omega)
  have HVD := hide hvd
  obtain ⟨k0, k1, k2⟩ := hr.row.cells
  have hgl := lt_of_heap hr.row
  have hwp : IntKind.u64.wrap (p : Int) = (p : Int) := by rw [IntKind.wrap_u64]; omega
  have hw0 : IntKind.i64.wrap 0 = 0 := rfl
  have hpe : ((leN bs / 2 ^ to_ % 2 ^ k : Nat) : Int) = (p : Int) := by rw [hp]
  have hmn : min (k : Int) ((t : Int) - (f : Int)) = (k : Int) := by omega
  rw [← hp]
  have HP := hide hp
  clear hr k0 k1 hvd hp ht
  go_enter Try.func14, Try.ntmps14
  go_wp2_with fail
  clear hcl
  generalize max n 0 = nm
  generalize n = nn
  refine HL.out.mono ?_
  rintro e w1 ⟨rfl, j, rfl⟩
  go_wp2
  obtain ⟨ws, hws⟩ : ∃ ws, ws = w.drewN j := ⟨_, rfl⟩
  rw [← hws]
  have hvj := HVD.out j
  have k2j : ws.cell? ⟨g, 2, none⟩ = some (.int .i64 t) := by rw [hws]; exact k2
  have hgj : g < ws.heap.size := by rw [hws]; exact hgl
  rw [← hws] at hvj
  have HVJ := hide hvj
  have HWS := hide hws
  clear hws hvj k2 HVD
  go_region_held3 (fun w' => w'.cell? ⟨g, 2, none⟩ = some (.int .i64 (t : Int))) (go_keep)
    (first
    | (go_at_call 37; refine HVJ.out.mono ?_; rintro e w1 ⟨rfl, hb1⟩; have j2 := (hb1.cell (p := ⟨g, 2, none⟩) hgj).trans k2j; have HB2 := hide hb1; clear hb1))
  go_wp2
  go_ret
  have hb3 : Below w.heap.size w ws := by rw [HWS.out]; exact below_drewN (Below.refl _ _) _
  exact ⟨rfl, hb3.drew.trans (HB2.out.mono hb3.drew.size)⟩
set_option maxHeartbeats 1000000 in
theorem bpeek_part_c {g m c f t k has d : Nat} {T : TypeId} {A : Option Addr} {bs : List Nat} (w : World) (hr : Rd w g T A m c bs f t)
    {n : Int} (hcl : min (max n 0) 64 = (k : Int)) (hk64 : k ≤ 64) (hh : f + has = t) (hlt : has < k) (hd : d + has = k) :
    Calls Try.prog 14 #[.pointer (some ⟨g, 0, none⟩), .int .i64 n] w fun e w' =>
      e = .returned (.int .u64 ((leN bs / 2 ^ f % 2 ^ has * 2 ^ d : Nat) : Int)) ∧ Below w.heap.size w w' := by
  have h1 := hr.le; have h2 := hr.top; have h3 := hr.small
  have hw1 : IntKind.i64.wrap ((t : Int) - (has : Int)) = (f : Int) := by rw [IntWalk.i64_in _ (by omega)]; omega
  have hw2 : IntKind.i64.wrap ((k : Int) - (has : Int)) = (d : Int) := by rw [IntWalk.i64_in _ (by omega)]; omega
  obtain ⟨p, hp⟩ : ∃ p, p = leN bs / 2 ^ f % 2 ^ has := ⟨_, rfl⟩
  have hpk : p < 2 ^ has := by rw [hp]; exact Nat.mod_lt _ (Nat.pow_pos (by omega))
  obtain ⟨e4, e5⟩ := shl_num p d has hpk (by omega)
  have hp64 : p < 18446744073709551616 := lt64 (by rw [hp]; exact Nat.mod_lt _ (Nat.pow_pos (by omega))) (by omega)
  have hl := left_any w hr.row (by omega) (by omega) (by omega)
  rw [show (t : Int) - (f : Int) = (has : Int) by omega] at hl
  have HL := hide hl
  have hvd : ∀ j, Calls Try.prog 37 #[.pointer (some ⟨g, 0, none⟩), .int .i64 f, .int .i64 has] (w.drewN j).drew
      fun e w' => e = .returned (.int .u64 ((p : Nat) : Int)) ∧ Below (w.drewN j).drew.heap.size (w.drewN j).drew w' := by
    intro j
    rw [hp]
    exact (hr.drewN j).drew.value f has (by omega) (by omega)
  have HVD := hide hvd
  obtain ⟨k0, k1, k2⟩ := hr.row.cells
  have hgl := lt_of_heap hr.row
  have hw0 : IntKind.i64.wrap 0 = 0 := rfl
  have hmn : min (k : Int) (has : Int) = (has : Int) := by omega
  have hd64 := hide (show d ≤ 64 by omega)
  have hpe := hp
  rw [← hp]
  have HP := hide hp
  clear hr k0 k1 hvd hp hh hl hpe hd hpk
  go_enter Try.func14, Try.ntmps14
  go_wp2_with fail
  clear hcl
  generalize max n 0 = nm
  generalize n = nn
  refine HL.out.mono ?_
  rintro e w1 ⟨rfl, j, rfl⟩
  go_wp2
  obtain ⟨ws, hws⟩ : ∃ ws, ws = w.drewN j := ⟨_, rfl⟩
  rw [← hws]
  have hvj := HVD.out j
  have k2j : ws.cell? ⟨g, 2, none⟩ = some (.int .i64 t) := by rw [hws]; exact k2
  have hgj : g < ws.heap.size := by rw [hws]; exact hgl
  rw [← hws] at hvj
  have HVJ := hide hvj
  have HWS := hide hws
  clear hws hvj k2 HVD
  go_region_held3 (fun w' => w'.cell? ⟨g, 2, none⟩ = some (.int .i64 (t : Int))) (go_keep)
    (first
    | (go_at_call 37; refine HVJ.out.mono ?_; rintro e w1 ⟨rfl, hb1⟩; have j2 := (hb1.cell (p := ⟨g, 2, none⟩) hgj).trans k2j; have HB2 := hide hb1; clear hb1))
  go_wp2
  go_ret
  have hb3 : Below w.heap.size w ws := by rw [HWS.out]; exact below_drewN (Below.refl _ _) _
  exact ⟨ret_int (by rw [Nat.min_eq_left hd64.out]; exact e4), hb3.drew.trans (HB2.out.mono hb3.drew.size)⟩
end Go.Proofs.Ytifolinoadllbaa
