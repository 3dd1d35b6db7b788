/- Texts put together: InR, InS, InP. -/
import Derived.Test.YtohgnohifojdbaaInW
import Derived.Deep.RegionHeld3
import Derived.Deep.DrawnRows
import Derived.StillTailTactics
namespace Go.Proofs.Ytohgnohifojdbaa
section
set_option maxRecDepth 8000
open Go.RowKit
set_option linter.unusedVariables false

/-- A reader in block g over the bytes bs; its unread bits are f .. t. -/
structure Rd (w : World) (g : Nat) (T : TypeId) (A : Option Addr) (m c : Nat) (bs : List Nat) (f t : Nat) : Prop where
  row : RowAt w g T A m c f t
  reads : Reads w w.heap.size 1 A m (u8s bs)
  ne : ∀ ad, A = some ad → ad.block ≠ g
  byte : ∀ x ∈ bs, x < 256
  len : m = bs.length
  le : f ≤ t
  top : t ≤ 8 * m
  small : m ≤ 10000000000

theorem Rd.chg {S : Nat → Prop} {w w' : World} {g m c f t : Nat} {T : TypeId} {A : Option Addr} {bs : List Nat} (h : Rd w g T A m c bs f t) (hc : Chg S w w') (hg : ¬ S g) (hA : ∀ ad, A = some ad → ¬ S ad.block) : Rd w' g T A m c bs f t :=
  ⟨hc.heap h.row hg, (h.reads.chg hc (Nat.le_refl _) hA).more hc.size, h.ne, h.byte, h.len, h.le, h.top, h.small⟩
theorem Rd.below {w w' : World} {g m c f t : Nat} {T : TypeId} {A : Option Addr} {bs : List Nat} (h : Rd w g T A m c bs f t) (hb : Below w.heap.size w w') : Rd w' g T A m c bs f t :=
  h.chg (S := fun _ => False) (.of_below hb) (fun h => h) (fun _ _ h => h)
theorem Rd.drew {w : World} {g m c f t : Nat} {T : TypeId} {A : Option Addr} {bs : List Nat} (h : Rd w g T A m c bs f t) : Rd w.drew g T A m c bs f t := ⟨h.row, h.reads, h.ne, h.byte, h.len, h.le, h.top, h.small⟩
theorem Rd.drewN {w : World} {g m c f t : Nat} {T : TypeId} {A : Option Addr} {bs : List Nat} (h : Rd w g T A m c bs f t) (k : Nat) : Rd (w.drewN k) g T A m c bs f t := ⟨h.row, h.reads, h.ne, h.byte, h.len, h.le, h.top, h.small⟩
theorem Rd.set1 {w : World} {g m c f t : Nat} {T : TypeId} {A : Option Addr} {bs : List Nat} (h : Rd w g T A m c bs f t) {f' : Nat} (hf : f' ≤ t) : Rd (w.setCell ⟨g, 1, none⟩ (.int .i64 f')) g T A m c bs f' t := by
  have hc : Chg (fun k => k = g) w (w.setCell ⟨g, 1, none⟩ (.int .i64 (f' : Int))) := (Chg.refl (fun k => k = g) w).setCell (p := ⟨g, 1, none⟩) (.inl rfl) _
  refine ⟨set_blk h.row 1 _, (h.reads.chg hc (Nat.le_refl _) (fun ad h1 h2 => h.ne ad h1 h2)).more hc.size, h.ne, h.byte, h.len, hf, h.top, h.small⟩
theorem Rd.set2 {w : World} {g m c f t : Nat} {T : TypeId} {A : Option Addr} {bs : List Nat} (h : Rd w g T A m c bs f t) {t' : Nat} (hf : f ≤ t') (ht : t' ≤ t) : Rd (w.setCell ⟨g, 2, none⟩ (.int .i64 t')) g T A m c bs f t' := by
  have hc : Chg (fun k => k = g) w (w.setCell ⟨g, 2, none⟩ (.int .i64 (t' : Int))) := (Chg.refl (fun k => k = g) w).setCell (p := ⟨g, 2, none⟩) (.inl rfl) _
  exact ⟨set_blk h.row 2 _, (h.reads.chg hc (Nat.le_refl _) (fun ad h1 h2 => h.ne ad h1 h2)).more hc.size, h.ne, h.byte, h.len, hf, Nat.le_trans ht h.top, h.small⟩

theorem Rd.value {w : World} {g m c f t : Nat} {T : TypeId} {A : Option Addr} {bs : List Nat} (h : Rd w g T A m c bs f t) (at_ n : Nat) (hn : n ≤ 64) (hat : at_ + n ≤ t) :
    Calls Try.prog 51 #[.pointer (some ⟨g, 0, none⟩), .int .i64 at_, .int .i64 n] w
      fun e w' => e = .returned (.int .u64 ((leN bs / 2 ^ at_ % 2 ^ n : Nat) : Int)) ∧ Below w.heap.size w w' :=
  value_any w h.row h.reads h.byte h.len hn (Nat.le_trans hat h.top) h.small

set_option maxHeartbeats 400000 in
theorem ftake_bad {g : Nat} (w : World) (n : Int) (h : n < 0 ∨ (0 ≤ n ∧ 64 < n)) :
    Calls Try.prog 67 #[.pointer (some ⟨g, 0, none⟩), .int .i64 n] w fun e w' => e = .returned (.tuple #[.int .u64 0, .int .i64 2]) ∧ ∃ k, w' = w.drewN k := by
  have HM := hide (may_bad (g := g) w n 3 h)
  clear h
  go_enter Try.func67, Try.ntmps67
  go_wp2_with fail
  refine HM.out.mono ?_
  rintro e w1 ⟨rfl, k, rfl⟩
  go_wp2
  go_ret2
  exact ⟨rfl, k, rfl⟩

set_option maxHeartbeats 400000 in
theorem ftake_short {g m c f t : Nat} {T : TypeId} {A : Option Addr} {bs : List Nat} (w : World) (hr : Rd w g T A m c bs f t) (n : Nat) (h64 : n ≤ 64) (hs : t < f + n) :
    Calls Try.prog 67 #[.pointer (some ⟨g, 0, none⟩), .int .i64 n] w fun e w' => e = .returned (.tuple #[.int .u64 0, .int .i64 3]) ∧ ∃ k, w' = w.drewN k := by
  have h1 := hr.le; have h2 := hr.top; have h3 := hr.small
  have HM := hide (may_short w n 3 hr.row (by omega) (by omega) (by omega) (by omega) (by omega) (by omega))
  clear hr
  go_enter Try.func67, Try.ntmps67
  go_wp2_with fail
  refine HM.out.mono ?_
  rintro e w1 ⟨rfl, k, rfl⟩
  go_wp2
  go_ret2
  exact ⟨rfl, k, rfl⟩

set_option maxHeartbeats 1000000 in
theorem ftake_ok {g m c f t : Nat} {T : TypeId} {A : Option Addr} {bs : List Nat} (w : World) (hr : Rd w g T A m c bs f t) (n : Nat) (h64 : n ≤ 64) (hs : f + n ≤ t) :
    Calls Try.prog 67 #[.pointer (some ⟨g, 0, none⟩), .int .i64 n] w fun e w' =>
      e = .returned (.tuple #[.int .u64 ((leN bs / 2 ^ f % 2 ^ n : Nat) : Int), .int .i64 0]) ∧ Rd w' g T A m c bs (f + n) t ∧ Chg (fun k => k = g) w w' := by
  have h1 := hr.le; have h2 := hr.top; have h3 := hr.small
  have HM := hide (may_ok w n 3 hr.row (by omega) (by omega) (by omega) (by omega) (by omega) (by omega))
  obtain ⟨k0, k1, k2⟩ := hr.row.cells
  have kf := frozen_blk hr.row 1
  have HR := hide hr
  clear hr k0 k2
  have hw1 : IntKind.i64.wrap ((f : Int) + (n : Int)) = (f : Int) + (n : Int) := IntWalk.i64_in _ (by omega)
  have hw2 : IntKind.i64.wrap ((f : Int) + (n : Int) - (n : Int)) = (f : Int) := by rw [IntWalk.i64_in _ (by omega)]; omega
  go_enter Try.func67, Try.ntmps67
  go_wp2_with fail
  refine HM.out.mono ?_
  rintro e w1 ⟨rfl, k, rfl⟩
  have hr1 := (HR.out.drewN k).set1 (f' := f + n) hs
  obtain ⟨j0, j1, j2⟩ := hr1.row.cells
  have HR1 := hide hr1
  have HB1 : Hid (Chg (fun b => b = g) w ((w.drewN k).setCell ⟨g, 1, none⟩ (.int .i64 ((f + n : Nat) : Int)))) := ((Chg.refl (fun k => k = g) w).drewN k).setCell (p := ⟨g, 1, none⟩) (.inl rfl) _
  clear hr1 j0 j2
  rw [Int.natCast_add] at HR1 HB1 j1
  go_wp2
  obtain ⟨ws, hws⟩ : ∃ ws, ws = (w.drewN k).setCell ⟨g, 1, none⟩ (.int .i64 ((f : Int) + (n : Int))) := ⟨_, rfl⟩
  rw [← hws] at HR1 HB1 j1
  rw [← hws]
  clear hws
  have HV := hide (HR1.out.drew.value f n h64 hs)
  go_still_tail 11, (by kernel_rfl)
  go_wp2_with fail
  refine HV.out.mono ?_
  rintro e w1 ⟨rfl, hb1⟩
  have HB2 := hide hb1
  clear hb1
  go_wp2
  go_ret2
  refine ⟨rfl, HR1.out.drew.below HB2.out, HB1.out.drew.trans (.of_below HB2.out) (fun _ h => .inl h)⟩
end

section
set_option maxRecDepth 8000
open Go.RowKit
set_option linter.unusedVariables false

theorem bleft_any {g m c f t : Nat} {T : TypeId} {A : Option Addr} {bs : List Nat} (w : World) (hr : Rd w g T A m c bs f t) :
    Calls Try.prog 42 #[.pointer (some ⟨g, 0, none⟩)] w fun e w' => e = .returned (.int .i64 ((t - f : Nat) : Int)) ∧ ∃ k, w' = w.drewN k := by
  have h1 := hr.le; have h2 := hr.top; have h3 := hr.small
  have HL := hide (left_any w hr.row (by omega) (by omega) (by omega))
  clear hr
  go_enter Try.func42, Try.ntmps42
  go_wp2_with fail
  refine HL.out.mono ?_
  rintro e w1 ⟨rfl, k, rfl⟩
  go_wp2
  go_ret
  exact ⟨ret_int (by omega), k, rfl⟩

set_option maxHeartbeats 400000 in
theorem bskip_bad {g : Nat} (w : World) (n : Int) (h : n < 0 ∨ (0 ≤ n ∧ 64 < n)) :
    Calls Try.prog 64 #[.pointer (some ⟨g, 0, none⟩), .int .i64 n] w fun e w' => e = .returned (.int .i64 2) ∧ ∃ k, w' = w.drewN k := by
  have HM := hide (may_bad (g := g) w n 14 h)
  clear h
  go_enter Try.func64, Try.ntmps64
  go_wp2_with fail
  refine HM.out.mono ?_
  rintro e w1 ⟨rfl, k, rfl⟩
  go_wp2
  go_ret
  exact ⟨rfl, k, rfl⟩

set_option maxHeartbeats 400000 in
theorem bskip_short {g m c f t : Nat} {T : TypeId} {A : Option Addr} {bs : List Nat} (w : World) (hr : Rd w g T A m c bs f t) (n : Nat) (h64 : n ≤ 64) (hs : t < f + n) :
    Calls Try.prog 64 #[.pointer (some ⟨g, 0, none⟩), .int .i64 n] w fun e w' => e = .returned (.int .i64 14) ∧ ∃ k, w' = w.drewN k := by
  have h1 := hr.le; have h2 := hr.top; have h3 := hr.small
  have HM := hide (may_short w n 14 hr.row (by omega) (by omega) (by omega) (by omega) (by omega) (by omega))
  clear hr
  go_enter Try.func64, Try.ntmps64
  go_wp2_with fail
  refine HM.out.mono ?_
  rintro e w1 ⟨rfl, k, rfl⟩
  go_wp2
  go_ret
  exact ⟨rfl, k, rfl⟩

set_option maxHeartbeats 1000000 in
theorem bskip_ok {g m c f t t' : Nat} {T : TypeId} {A : Option Addr} {bs : List Nat} (w : World) (hr : Rd w g T A m c bs f t) (n : Nat) (h64 : n ≤ 64) (ht : t' + n = t) (hs : f ≤ t') :
    Calls Try.prog 64 #[.pointer (some ⟨g, 0, none⟩), .int .i64 n] w fun e w' =>
      e = .returned (.int .i64 0) ∧ Rd w' g T A m c bs f t' ∧ Chg (fun k => k = g) w w' := by
  have h1 := hr.le; have h2 := hr.top; have h3 := hr.small
  have HM := hide (may_ok w n 14 hr.row (by omega) (by omega) (by omega) (by omega) (by omega) (by omega))
  obtain ⟨k0, k1, k2⟩ := hr.row.cells
  have kf := frozen_blk hr.row 2
  have HR := hide hr
  have hw1 : IntKind.i64.wrap ((t : Int) - (n : Int)) = (t' : Int) := by rw [IntWalk.i64_in _ (by omega)]; omega
  have HT := hide (show t' ≤ t by omega)
  clear hr k0 k1 ht
  go_enter Try.func64, Try.ntmps64
  go_wp2_with fail
  refine HM.out.mono ?_
  rintro e w1 ⟨rfl, k, rfl⟩
  go_wp2
  go_ret
  exact ⟨rfl, (HR.out.drewN k).set2 hs HT.out, ((Chg.refl (fun k => k = g) w).drewN k).setCell (p := ⟨g, 2, none⟩) (.inl rfl) _⟩

set_option maxHeartbeats 400000 in
theorem btake_bad {g : Nat} (w : World) (n : Int) (h : n < 0 ∨ (0 ≤ n ∧ 64 < n)) :
    Calls Try.prog 40 #[.pointer (some ⟨g, 0, none⟩), .int .i64 n] w fun e w' => e = .returned (.tuple #[.int .u64 0, .int .i64 2]) ∧ ∃ k, w' = w.drewN k := by
  have HM := hide (bskip_bad (g := g) w n h)
  clear h
  go_enter Try.func40, Try.ntmps40
  go_wp2_with fail
  refine HM.out.mono ?_
  rintro e w1 ⟨rfl, k, rfl⟩
  go_wp2
  go_ret2
  exact ⟨rfl, k, rfl⟩

set_option maxHeartbeats 400000 in
theorem btake_short {g m c f t : Nat} {T : TypeId} {A : Option Addr} {bs : List Nat} (w : World) (hr : Rd w g T A m c bs f t) (n : Nat) (h64 : n ≤ 64) (hs : t < f + n) :
    Calls Try.prog 40 #[.pointer (some ⟨g, 0, none⟩), .int .i64 n] w fun e w' => e = .returned (.tuple #[.int .u64 0, .int .i64 14]) ∧ ∃ k, w' = w.drewN k := by
  have HM := hide (bskip_short w hr n h64 hs)
  clear hr
  go_enter Try.func40, Try.ntmps40
  go_wp2_with fail
  refine HM.out.mono ?_
  rintro e w1 ⟨rfl, k, rfl⟩
  go_wp2
  go_ret2
  exact ⟨rfl, k, rfl⟩

set_option maxHeartbeats 1000000 in
theorem btake_ok {g m c f t t' : Nat} {T : TypeId} {A : Option Addr} {bs : List Nat} (w : World) (hr : Rd w g T A m c bs f t) (n : Nat) (h64 : n ≤ 64) (ht : t' + n = t) (hs : f ≤ t') :
    Calls Try.prog 40 #[.pointer (some ⟨g, 0, none⟩), .int .i64 n] w fun e w' =>
      e = .returned (.tuple #[.int .u64 ((leN bs / 2 ^ t' % 2 ^ n : Nat) : Int), .int .i64 0]) ∧ Rd w' g T A m c bs f t' ∧ Chg (fun k => k = g) w w' := by
  have HM := hide (bskip_ok w hr n h64 ht hs)
  have hv := fun w1 (h1 : Rd w1 g T A m c bs f t) (h2 : Rd w1 g T A m c bs f t') => value_any (at_ := t') (n := n) w1 h2.row h2.reads h2.byte h2.len h64 (by have := h1.top; omega) h2.small
  have hv2 : ∀ w1, Rd w1 g T A m c bs f t' → Calls Try.prog 51 #[.pointer (some ⟨g, 0, none⟩), .int .i64 t', .int .i64 n] w1
      fun e w' => e = .returned (.int .u64 ((leN bs / 2 ^ t' % 2 ^ n : Nat) : Int)) ∧ Below w1.heap.size w1 w' :=
    fun w1 h2 => value_any (at_ := t') (n := n) w1 h2.row h2.reads h2.byte h2.len h64 (by have := hr.top; omega) h2.small
  have HV := hide hv2
  clear hr hv hv2 ht
  go_enter Try.func40, Try.ntmps40
  go_wp2_with fail
  refine HM.out.mono ?_
  rintro e w1 ⟨rfl, hr1, hc1⟩
  obtain ⟨k0, k1, k2⟩ := hr1.row.cells
  have HR1 := hide hr1
  have HC1 := hide hc1
  clear hr1 hc1 k0 k1
  go_wp2
  go_still_tail 9, (by kernel_rfl)
  go_wp2_with fail
  refine (HV.out _ HR1.out.drew).mono ?_
  rintro e w2 ⟨rfl, hb2⟩
  have HB2 := hide hb2
  clear hb2
  go_wp2
  go_ret2
  exact ⟨rfl, HR1.out.drew.below HB2.out, HC1.out.drew.trans (.of_below HB2.out) (fun _ h => .inl h)⟩
end

section
set_option maxRecDepth 8000
open Go.RowKit
set_option linter.unusedVariables false

end

end Go.Proofs.Ytohgnohifojdbaa
