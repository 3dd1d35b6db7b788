/- Texts put together: TnK, TnL. -/
import Derived.Test.YtohgnohifojdbaaTnT
import Derived.Defers
import Derived.Test.YtohgnohifojdbaaTnU
namespace Go.Proofs.Ytohgnohifojdbaa
section
set_option maxRecDepth 8000
set_option maxRecDepth 8000
open Go.RowKit Go
set_option linter.unusedVariables false

/-- A cursor at place k of the bytes bs. -/
structure CurI (w : World) (g : Nat) (A : Option Addr) (n c : Nat) (bs : List Nat) (k : Nat) : Prop where
  blk : w.heap[g]? = some (.cells #[.slice A n c, .int .i64 (k : Int)] 59 (0, 0))
  rd : Reads w w.heap.size 1 A n (u8s bs)
  ne : ∀ ad, A = some ad → ad.block ≠ g
  len : n = bs.length
  small : n ≤ 100000
  le : k ≤ n
theorem CurI.chg {S : Nat → Prop} {w w' : World} {g n c k : Nat} {A : Option Addr} {bs : List Nat} (h : CurI w g A n c bs k) (hc : Chg S w w') (hg : ¬ S g) (hA : ∀ ad, A = some ad → ¬ S ad.block) : CurI w' g A n c bs k :=
  ⟨hc.heap h.blk hg, (h.rd.chg hc (Nat.le_refl _) hA).more hc.size, h.ne, h.len, h.small, h.le⟩
theorem CurI.cells {w : World} {g n c k : Nat} {A : Option Addr} {bs : List Nat} (h : CurI w g A n c bs k) :
    w.cell? ⟨g, 0, none⟩ = some (.slice A n c) ∧ w.cell? ⟨g, 1, none⟩ = some (.int .i64 (k : Int)) := ⟨(cell_blk h.blk 0).trans rfl, (cell_blk h.blk 1).trans rfl⟩

theorem own_capsK {w : World} {base : Nat} {e : TypeId} {n c : Nat} {A : Option Addr} {xs : List Value} (h : w.ownsRow base e 1 (.slice A n c) n xs) : n ≤ c := by
  rcases h.2 with ⟨hv, h0⟩ | ⟨g, cap, cur, hv, hb, hg, hnc, hm, hs, ht⟩
  · injection hv with h1 h2 h3
    omega
  · injection hv with h1 h2 h3
    omega

theorem ncur_ok (D : Option Addr) (n c : Nat) (bs : List Nat) (w : World) (hr : Reads w w.heap.size 1 D n (u8s bs)) (hn : n = bs.length) (hm : n ≤ 100000) :
    Calls Try.prog 9 #[.slice D n c] w fun e w' => ∃ g A c', e = .returned (.pointer (some ⟨g, 0, none⟩)) ∧ CurI w' g A n c' bs 0 ∧ w.heap.size ≤ g ∧ (∀ ad, A = some ad → w.heap.size ≤ ad.block ∧ ad.block < g) ∧ Below w.heap.size w w' ∧ n ≤ c' := by
  have HC := hide (clone_any D n c _ w hr (u8s_one bs) (by omega))
  have HN := hide hn
  clear hr hn
  go_enter Try.func9, Try.ntmps9
  go_wp2_with fail
  refine HC.out.mono ?_
  rintro e w1 ⟨v, rfl, hown, hb⟩
  obtain ⟨A1, c1, rfl⟩ := own_form hown
  have hlt : ∀ ad, A1 = some ad → w.heap.size ≤ ad.block ∧ ad.block < w1.heap.size := by rintro ad rfl; exact hown.lt ad.block rfl
  have HI : Hid (CurI (w1.alloc (.cells #[.slice A1 n c1, .int .i64 0] 59 (0, 0))) w1.heap.size A1 n c1 bs 0) := hide
    ⟨alloc_new w1 _ rfl, ((Reads.of_own hown).alloc (Nat.le_refl _) _).more (by simp), fun ad h1 h2 => by have := (hlt ad h1).2; omega, HN.out, hm, Nat.zero_le _⟩
  have HCAP := hide (own_capsK hown)
  have HLT := hide hlt
  have HB := hide hb
  clear hown hb hlt
  go_wp2
  go_ret
  exact ⟨w1.heap.size, A1, c1, rfl, HI.out, HB.out.size, HLT.out, HB.out.alloc HB.out.size _, HCAP.out⟩

section
variable {w : World} {g n c k : Nat} {A : Option Addr} {bs : List Nat}
theorem cleft_ok (h : CurI w g A n c bs k) : Calls Try.prog 30 #[.pointer (some ⟨g, 0, none⟩)] w fun e w' => e = .returned (.int .i64 ((n - k : Nat) : Int)) ∧ ∃ j, w' = w.drewN j := by
  obtain ⟨k0, k1⟩ := h.cells
  have hle := h.le
  have hs := h.small
  have hw1 : IntKind.i64.wrap ((n : Int) - (k : Int)) = ((n - k : Nat) : Int) := by rw [IntWalk.i64_in _ (by omega)]; omega
  clear h
  go_enter Try.func30, Try.ntmps30
  go_wp2
  go_region
  go_wp2
  go_ret
  exact ⟨rfl, 1, rfl⟩

theorem cend_ok (h : CurI w g A n c bs n) : Calls Try.prog 11 #[.pointer (some ⟨g, 0, none⟩)] w fun e w' => e = .returned (.int .i64 0) ∧ ∃ j, w' = w.drewN j := by
  have hL := cleft_ok h
  rw [Nat.sub_self] at hL
  have HL := hide hL
  clear h hL
  go_enter Try.func11, Try.ntmps11
  go_wp2_with fail
  refine HL.out.mono ?_
  rintro e w1 ⟨rfl, j, rfl⟩
  go_wp2
  go_ret
  exact ⟨rfl, j, rfl⟩

set_option maxHeartbeats 1000000 in
theorem cpeek_ok (h : CurI w g A n c bs 0) (hn : 0 < n) (h10 : n ≤ 1024) (hc : n ≤ c) : Calls Try.prog 26 #[.pointer (some ⟨g, 0, none⟩), .int .i64 1024] w fun e w' =>
    ∃ v, e = .returned v ∧ w'.ownsRow w.heap.size 5 1 v n (u8s bs) ∧ Below w.heap.size w w' := by
  obtain ⟨b, off, rfl, hbb, hcell⟩ := h.rd.open_ hn (by omega)
  have hL := cleft_ok h
  rw [Nat.sub_zero] at hL
  have HL := hide hL
  have HC := hide (fun W (hW : Below w.heap.size w W) => clone_any (some ⟨b, off, none⟩) n c _ W ((h.rd.below hW).more hW.size) (u8s_one bs) (by omega))
  obtain ⟨k0, k1⟩ := h.cells
  have hgs := lt_of_heap h.blk
  have hmin : min (max (1024 : Int) 0) (n : Int) = (n : Int) := by omega
  have hw1 : IntKind.i64.wrap (n : Int) = (n : Int) := IntWalk.i64_in _ (by omega)
  clear h hL hcell
  go_enter Try.func26, Try.ntmps26
  go_wp2_with fail
  refine HL.out.mono ?_
  rintro e w1 ⟨rfl, j, rfl⟩
  have hcn : ¬ (c : Int) < (n : Int) := by omega
  go_wp2_with fail
  obtain ⟨W1, hW1⟩ : ∃ W1, W1 = w.drewN j := ⟨_, rfl⟩
  have k10 : W1.cell? ⟨g, 0, none⟩ = some (.slice (some ⟨b, off, none⟩) n c) := by rw [hW1]; exact k0
  have k11 : W1.cell? ⟨g, 1, none⟩ = some (.int .i64 0) := by rw [hW1]; exact k1
  have HW1 : Hid (Below w.heap.size w W1.drew) := hide (by rw [hW1]; exact below_drewN (Below.refl _ _) (j + 1))
  rw [← hW1]
  clear hW1 k0 k1
  go_still_tail 15, (by kernel_rfl)
  go_wp2_with fail
  refine (HC.out _ HW1.out).mono ?_
  rintro e w2 ⟨v, rfl, ho, hb⟩
  have HO := hide (own_base ho (fun k hk => Nat.le_trans HW1.out.size (ho.lt k hk).1))
  have HB := hide (HW1.out.trans (hb.mono HW1.out.size))
  clear ho hb
  go_wp2
  go_ret
  exact ⟨v, rfl, HO.out, HB.out⟩

set_option maxHeartbeats 1000000 in
/-- The closure of Bytes: all bytes are read. -/
theorem cbytes1_ok {a2 a3 : Nat} (h : CurI w g A n c bs 0) (hn : 0 < n) (hc : n ≤ c) (h2 : w.heap[a2]? = some (.cells #[.pointer (some ⟨g, 0, none⟩)] 34 (0, 0))) (h3 : w.heap[a3]? = some (.cells #[.int .i64 (n : Int)] 3 (0, 0))) :
    Calls Try.prog 53 #[.pointer (some ⟨a3, 0, none⟩), .pointer (some ⟨a2, 0, none⟩)] w fun e w' =>
      ∃ A5 n5 c5, e = .returned (.tuple #[.slice A5 n5 c5, .int .i64 0]) ∧ CurI w' g A n c bs n ∧ Chg (fun k => k = g) w w' := by
  obtain ⟨b, off, rfl, hbb, hcell⟩ := h.rd.open_ hn (by omega)
  have hbg := h.ne _ rfl
  have hsm := h.small
  have HL := hide (fun (W : World) (hW : ∃ j, W = w.drewN j) => (show Calls Try.prog 30 #[.pointer (some ⟨g, 0, none⟩)] W fun e w' => e = .returned (.int .i64 (n : Int)) ∧ ∃ j, w' = w.drewN j from by
    obtain ⟨j, rfl⟩ := hW
    refine (cleft_ok (h.chg ((Chg.refl (fun _ => False) w).drewN j) (fun h => h) (fun _ _ h => h))).mono ?_
    rintro e w' ⟨rfl, j', rfl⟩
    exact ⟨rfl, _, by rw [World.drewN_drewN]⟩))
  have k2 : w.cell? ⟨a2, 0, none⟩ = some (.pointer (some ⟨g, 0, none⟩)) := (cell_blk h2 0).trans rfl
  have k3 : w.cell? ⟨a3, 0, none⟩ = some (.int .i64 (n : Int)) := (cell_blk h3 0).trans rfl
  have hn1 : ¬ (n : Int) < 0 := by omega
  have hn2 : ¬ (n : Int) < (n : Int) := by omega
  have HI := hide h
  have H2 := hide h2
  have H3 := hide h3
  have h2g : a2 ≠ g := by
    rintro rfl
    rw [h.blk] at h2
    cases h2
  have h3g : a3 ≠ g := by
    rintro rfl
    rw [h.blk] at h3
    cases h3
  clear h h2 h3 hcell
  go_enter Try.func53, Try.ntmps53
  go_wp2_with fail
  go_region_held3 (fun w' => w'.cell? ⟨a2, 0, none⟩ = some (.pointer (some ⟨g, 0, none⟩)) ∧ w'.cell? ⟨a3, 0, none⟩ = some (.int .i64 (n : Int)) ∧ ∃ j, w' = w.drewN j) (first | exact ⟨k2, k3, 0, rfl⟩ | exact ⟨k2, k3, 1, rfl⟩ | exact ⟨k2, k3, j, rfl⟩ | exact ⟨k2, k3, _, rfl⟩)
    (first | (go_at_call 30; refine (HL.out _ ?_).mono ?_; (first | exact ⟨0, rfl⟩ | exact ⟨1, rfl⟩ | exact ⟨2, rfl⟩); rintro e w1 ⟨rfl, j, rfl⟩))
  obtain ⟨W1, hW1⟩ : ∃ W1, W1 = w.drewN j := ⟨_, rfl⟩
  have HI1 : Hid (CurI W1 g (some ⟨b, off, none⟩) n c bs 0) := hide (by rw [hW1]; exact HI.out.chg ((Chg.refl (fun _ => False) w).drewN j) (fun h => h) (fun _ _ h => h))
  have HC1 : Hid (Chg (fun k => k = g) w W1) := hide (by rw [hW1]; exact (Chg.refl _ w).drewN j)
  have m2 : W1.cell? ⟨a2, 0, none⟩ = some (.pointer (some ⟨g, 0, none⟩)) := by rw [hW1]; exact k2
  have m3 : W1.cell? ⟨a3, 0, none⟩ = some (.int .i64 (n : Int)) := by rw [hW1]; exact k3
  rw [← hW1]
  clear hW1 k2 k3
  have m4 : W1.cell? ⟨g, 1, none⟩ = some (.int .i64 0) := HI1.out.cells.2
  have f4 : W1.frozen? ⟨g, 1, none⟩ = false := frozen_blk HI1.out.blk 1
  have hw1 : IntKind.i64.wrap (n : Int) = (n : Int) := IntWalk.i64_in _ (by omega)
  go_wp2_with fail
  go_still_tail 8, (by kernel_rfl)
  change wpList _ _ _ _ _ W1.drew
  obtain ⟨W2, hW2⟩ : ∃ W2, W2 = W1.drew := ⟨_, rfl⟩
  have HI2 : Hid (CurI W2 g (some ⟨b, off, none⟩) n c bs 0) := hide (by rw [hW2]; exact HI1.out.chg ((Chg.refl (fun _ => False) W1).drewN 1) (fun h => h) (fun _ _ h => h))
  have HC2 : Hid (Chg (fun k => k = g) w W2) := hide (by rw [hW2]; exact HC1.out.drew)
  have n2 : W2.cell? ⟨a2, 0, none⟩ = some (.pointer (some ⟨g, 0, none⟩)) := by rw [hW2]; exact m2
  have n3 : W2.cell? ⟨a3, 0, none⟩ = some (.int .i64 (n : Int)) := by rw [hW2]; exact m3
  rw [← hW2]
  clear hW2 m2 m3 m4 f4
  have f4 : W2.frozen? ⟨g, 1, none⟩ = false := frozen_blk HI2.out.blk 1
  have n4 : W2.cell? ⟨g, 1, none⟩ = some (.int .i64 0) := HI2.out.cells.2
  have hcn : ¬ (c : Int) < (n : Int) := by omega
  have hw0 : IntKind.i64.wrap 0 = 0 := IntWalk.i64_in _ (by omega)
  go_wp2_with fail
  obtain ⟨W3, hW3⟩ : ∃ W3, W3 = W2.setCell ⟨g, 1, none⟩ (.int .i64 (n : Int)) := ⟨_, rfl⟩
  have hb3 : W3.heap[g]? = some (.cells #[.slice (some ⟨b, off, none⟩) n c, .int .i64 (n : Int)] 59 (0, 0)) := by rw [hW3]; exact set_blk HI2.out.blk 1 _
  have hc3 : Chg (fun k => k = g) W2 W3 := by rw [hW3]; exact (Chg.refl (fun k => k = g) W2).setCell (p := ⟨g, 1, none⟩) (.inl rfl) _
  have HI3 : Hid (CurI W3 g (some ⟨b, off, none⟩) n c bs n) := hide ⟨hb3, (HI2.out.rd.chg hc3 (Nat.le_refl _) (fun ad h1 h2 => HI2.out.ne ad h1 h2)).more hc3.size, HI2.out.ne, HI2.out.len, HI2.out.small, Nat.le_refl _⟩
  have HC3 : Hid (Chg (fun k => k = g) w W3) := hide (HC2.out.trans hc3 (fun _ h => .inl h))
  have p2 : W3.cell? ⟨a2, 0, none⟩ = some (.pointer (some ⟨g, 0, none⟩)) := (World.cell?_of_block (hc3.block a2 (World.block_lt_of_cell? W2 ⟨a2, 0, none⟩ n2) h2g)).trans n2
  have p3 : W3.cell? ⟨a3, 0, none⟩ = some (.int .i64 (n : Int)) := (World.cell?_of_block (hc3.block a3 (World.block_lt_of_cell? W2 ⟨a3, 0, none⟩ n3) h3g)).trans n3
  have p4 : W3.cell? ⟨g, 0, none⟩ = some (.slice (some ⟨b, off, none⟩) n c) := HI3.out.cells.1
  have p5 : W3.cell? ⟨g, 1, none⟩ = some (.int .i64 (n : Int)) := HI3.out.cells.2
  have HCL := hide (clone_any (some ⟨b, off, none⟩) n c _ W3.drew HI3.out.rd.drew (u8s_one bs) (by omega))
  rw [← hW3]
  clear hW3 hb3 hc3 n2 n3 n4 f4
  go_still_tail 15, (by kernel_rfl)
  go_wp2_with fail
  refine HCL.out.mono ?_
  rintro e w5 ⟨v, rfl, ho, hb⟩
  obtain ⟨A5, c5, rfl⟩ := own_form ho
  have HI5 : Hid (CurI w5 g (some ⟨b, off, none⟩) n c bs n) := hide (HI3.out.chg (((Chg.refl (fun _ => False) W3).drewN 1).trans (Chg.of_below (S := fun _ => False) hb) (fun _ h => .inl h)) (fun h => h) (fun _ _ h => h))
  have HC5 : Hid (Chg (fun k => k = g) w w5) := hide (HC3.out.trans (((Chg.refl (fun _ => False) W3).drewN 1).trans (Chg.of_below (S := fun _ => False) hb) (fun _ h => .inl h)) (fun _ h => h.elim))
  clear ho hb
  go_wp2
  go_ret2
  exact ⟨A5, n, c5, rfl, HI5.out, HC5.out⟩

/-- The deferred closure where there is no error. -/
theorem cdef_ok {a2 a4 a5 a6 : Nat} (u : FrameMode) (w : World) (h5 : w.heap[a5]? = some (.cells #[.int .i64 0] 29 (0, 0))) :
    CallsD Try.prog 69 #[.pointer (some ⟨a5, 0, none⟩), .pointer (some ⟨a6, 0, none⟩), .pointer (some ⟨a4, 0, none⟩), .pointer (some ⟨a2, 0, none⟩)] u w fun e u' w' => u' = u ∧ (e = .returned (.tuple #[]) ∧ w' = w) := by
  have k5 : w.cell? ⟨a5, 0, none⟩ = some (.int .i64 0) := (cell_blk h5 0).trans rfl
  clear h5
  go_enter_d Try.func69, Try.ntmps69
  go_wp2
  go_end0
  exact ⟨rfl, rfl⟩

set_option maxHeartbeats 1000000 in
theorem cread_ok {a2 a3 : Nat} (h : CurI w g A n c bs 0) (hn : 0 < n) (hc : n ≤ c) (h2 : w.heap[a2]? = some (.cells #[.pointer (some ⟨g, 0, none⟩)] 34 (0, 0))) (h3 : w.heap[a3]? = some (.cells #[.int .i64 (n : Int)] 3 (0, 0))) :
    Calls Try.prog 52 #[.pointer (some ⟨g, 0, none⟩), .func (Fn.func 53) #[] #[.pointer (some ⟨a3, 0, none⟩), .pointer (some ⟨a2, 0, none⟩)]] w fun e w' =>
      ∃ v, e = .returned (.tuple #[v, .int .i64 0]) ∧ CurI w' g A n c bs n ∧ Chg (fun k => k = g) w w' := by
  have hmf : ∀ (fn : Fn) (first cap : Array Value) (w : World), (Instr.makeFunc fn first cap).run Try.prog w = .ok (.func fn first cap) w := fun _ _ _ _ => rfl
  have hgs := lt_of_heap h.blk
  have HI := hide h
  have H2 := hide h2
  have H3 := hide h3
  obtain ⟨W0, hW0⟩ : ∃ W0, W0 = ((w.alloc (.cells #[.pointer (some ⟨g, 0, none⟩)] 34 (0, 0))).alloc (.cells #[.slice none 0 0] 22 (0, 0))).alloc (.cells #[.int .i64 0] 29 (0, 0)) := ⟨_, rfl⟩
  have hc0 : Chg (fun _ => False) w W0 := by rw [hW0]; exact (((Chg.refl _ w).alloc _).alloc _).alloc _
  have hI0 := h.chg hc0 (fun h => h) (fun _ _ h => h)
  have s0 : W0.heap.size = w.heap.size + 1 + 1 + 1 := by rw [hW0]; simp
  have q0 : W0.heap[w.heap.size]? = some (.cells #[.pointer (some ⟨g, 0, none⟩)] 34 (0, 0)) := by rw [hW0]; exact alloc_far (alloc_far (heap_alloc_new w _) _) _
  have q1 : W0.heap[w.heap.size + 1]? = some (.cells #[.slice none 0 0] 22 (0, 0)) := by
    have := heap_alloc_new (w.alloc (.cells #[.pointer (some ⟨g, 0, none⟩)] 34 (0, 0))) (.cells #[.slice none 0 0] 22 (0, 0))
    rw [World.size_alloc] at this
    rw [hW0]; exact alloc_far this _
  have q2 : W0.heap[w.heap.size + 1 + 1]? = some (.cells #[.int .i64 0] 29 (0, 0)) := by
    have := heap_alloc_new ((w.alloc (.cells #[.pointer (some ⟨g, 0, none⟩)] 34 (0, 0))).alloc (.cells #[.slice none 0 0] 22 (0, 0))) (.cells #[.int .i64 0] 29 (0, 0))
    rw [World.size_alloc, World.size_alloc] at this
    rw [hW0]; exact this
  have c0 : (((w.alloc (.cells #[.pointer (some ⟨g, 0, none⟩)] 34 (0, 0))).alloc (.cells #[.slice none 0 0] 22 (0, 0))).alloc (.cells #[.int .i64 0] 29 (0, 0))).cell? ⟨g, 1, none⟩ = some (.int .i64 0) := by rw [← hW0]; exact hI0.cells.2
  have d0 : W0.cell? ⟨w.heap.size, 0, none⟩ = some (.pointer (some ⟨g, 0, none⟩)) := (cell_blk q0 0).trans rfl
  have HW0 := hide hW0
  have HC0 := hide hc0
  have HI0 := hide hI0
  have HS0 := hide s0
  have HQ1 := hide q1
  have HQ2 := hide q2
  have H20 := hide (hc0.heap h2 (fun h => h))
  have H30 := hide (hc0.heap h3 (fun h => h))
  clear h h2 h3 hW0 hc0 hI0 s0 q0 q1 q2
  go_enter_defers Try.func52, Try.ntmps52
  go_wp2_with fail
  rw [← HW0.out]
  have hc1 : Chg (fun _ => False) W0 (W0.alloc (.cells #[.int .i64 0] 3 (0, 0))) := (Chg.refl _ W0).alloc _
  refine (cbytes1_ok (HI0.out.chg hc1 (fun h => h) (fun _ _ h => h)) hn hc (hc1.heap H20.out (fun h => h)) (hc1.heap H30.out (fun h => h))).mono ?_
  rintro e W2 ⟨A5, n5, c5, rfl, hI2, hc2⟩
  have HC2 := hide ((((Chg.refl (fun k => k = g) W0).alloc _).trans hc2 (fun _ h => .inl h)) : Chg (fun k => k = g) W0 W2)
  have q1 := HC2.out.heap HQ1.out (by omega)
  have q2 := HC2.out.heap HQ2.out (by omega)
  have k1 : W2.cell? ⟨w.heap.size + 1, 0, none⟩ = some (.slice none 0 0) := (cell_blk q1 0).trans rfl
  have f1 : W2.frozen? ⟨w.heap.size + 1, 0, none⟩ = false := frozen_blk q1 0
  have k2 : W2.cell? ⟨w.heap.size + 1 + 1, 0, none⟩ = some (.int .i64 0) := (cell_blk q2 0).trans rfl
  have f2 : W2.frozen? ⟨w.heap.size + 1 + 1, 0, none⟩ = false := frozen_blk q2 0
  have HI2 := hide hI2
  have HG1 := hide q1
  have HG2 := hide q2
  clear hc1 hI2 hc2 q1 q2 c0 d0
  go_wp2_with fail
  obtain ⟨W3, hW3⟩ : ∃ W3, W3 = (W2.setCell ⟨w.heap.size + 1, 0, none⟩ (.slice A5 n5 c5)).setCell ⟨w.heap.size + 1 + 1, 0, none⟩ (.int .i64 0) := ⟨_, rfl⟩
  have r1 : W3.heap[w.heap.size + 1]? = some (.cells #[.slice A5 n5 c5] 22 (0, 0)) := by rw [hW3]; exact set_far (set_blk HG1.out 0 _) (p := ⟨w.heap.size + 1 + 1, 0, none⟩) (by simp) _
  have r2 : W3.heap[w.heap.size + 1 + 1]? = some (.cells #[.int .i64 0] 29 (0, 0)) := by rw [hW3]; exact set_blk (set_far HG2.out (p := ⟨w.heap.size + 1, 0, none⟩) (by simp) _) 0 _
  have hc3 : Chg (fun k => w.heap.size ≤ k) W2 W3 := by
    rw [hW3]
    exact ((Chg.refl (fun k => w.heap.size ≤ k) W2).setCell (p := ⟨w.heap.size + 1, 0, none⟩) (.inl (by simp)) _).setCell (p := ⟨w.heap.size + 1 + 1, 0, none⟩) (.inl (by simp; omega)) _
  have hA : ∀ ad, A = some ad → ad.block < w.heap.size := by
    rintro ad rfl
    obtain ⟨b, off, he, hb, _⟩ := HI.out.rd.open_ hn (by omega)
    injection he with he
    rw [he]; exact hb
  have hI3 := HI2.out.chg hc3 (by omega) (fun ad h1 h2 => by have := hA ad h1; omega)
  have hc4 : Chg (fun k => k = g) w W3 := ((HC0.out.mono (T := fun k => k = g) (fun _ h => h.elim)).trans HC2.out (fun _ h => .inl h)).trans hc3 (fun _ h => .inr h)
  rw [← hW3]
  clear hW3 k1 f1 k2 f2
  have c1 := cell_blk r1 0
  have c2 := cell_blk r2 0
  refine leaves_cons (f := 69) (args := #[.pointer (some ⟨w.heap.size + 1 + 1, 0, none⟩), .pointer (some ⟨w.heap.size + 1 + 1 + 1, 0, none⟩), .pointer (some ⟨w.heap.size + 1, 0, none⟩), .pointer (some ⟨w.heap.size, 0, none⟩)]) (by simp) (by simp [go_sem]) ?_
  refine (cdef_ok .returning W3 r2).mono ?_
  rintro e u' w'' ⟨rfl, rfl, rfl⟩
  refine ⟨.tuple #[.slice A5 n5 c5, .int .i64 0], ?_, _, rfl, hI3, hc4⟩
  simp only [results, Try.results52, go_sem]
  simp [c1, c2, go_sem]

theorem cbytes_ok (h : CurI w g A n c bs 0) (hn : 0 < n) (hc : n ≤ c) :
    Calls Try.prog 29 #[.pointer (some ⟨g, 0, none⟩), .int .i64 (n : Int)] w fun e w' => ∃ v, e = .returned (.tuple #[v, .int .i64 0]) ∧ CurI w' g A n c bs n ∧ Chg (fun k => k = g) w w' := by
  have hmf : ∀ (fn : Fn) (first cap : Array Value) (w : World), (Instr.makeFunc fn first cap).run Try.prog w = .ok (.func fn first cap) w := fun _ _ _ _ => rfl
  obtain ⟨W0, hW0⟩ : ∃ W0, W0 = (w.alloc (.cells #[.pointer (some ⟨g, 0, none⟩)] 34 (0, 0))).alloc (.cells #[.int .i64 (n : Int)] 3 (0, 0)) := ⟨_, rfl⟩
  have hc0 : Chg (fun _ => False) w W0 := by rw [hW0]; exact ((Chg.refl _ w).alloc _).alloc _
  have q0 : W0.heap[w.heap.size]? = some (.cells #[.pointer (some ⟨g, 0, none⟩)] 34 (0, 0)) := by rw [hW0]; exact alloc_far (heap_alloc_new w _) _
  have q1 : W0.heap[w.heap.size + 1]? = some (.cells #[.int .i64 (n : Int)] 3 (0, 0)) := by
    have := heap_alloc_new (w.alloc (.cells #[.pointer (some ⟨g, 0, none⟩)] 34 (0, 0))) (.cells #[.int .i64 (n : Int)] 3 (0, 0))
    rw [World.size_alloc] at this
    rw [hW0]; exact this
  have HR := hide (cread_ok (h.chg hc0 (fun h => h) (fun _ _ h => h)) hn hc q0 q1)
  have HW0 := hide hW0
  have HC0 := hide hc0
  clear h hW0 hc0 q0 q1
  go_enter Try.func29, Try.ntmps29
  go_wp2_with fail
  rw [← HW0.out]
  refine HR.out.mono ?_
  rintro e W2 ⟨v, rfl, hI, hc2⟩
  have HI := hide hI
  have HC := hide ((HC0.out.mono (T := fun k => k = g) (fun _ h => h.elim)).trans hc2 (fun _ h => .inl h))
  clear hI hc2
  go_wp2
  go_ret2
  exact ⟨v, rfl, HI.out, HC.out⟩
end
end

section
set_option maxRecDepth 8000
set_option maxRecDepth 8000
open Go.RowKit Go
set_option linter.unusedVariables false

section
variable {w : World} {gc n c : Nat} {A : Option Addr} {bs : List Nat}
set_option maxHeartbeats 2000000 in
theorem ddecode_ok (h : CurI w gc A n c bs 0) (hn : 0 < n) (hc : n ≤ c) (h10 : n ≤ 1024) (h8 : ∀ x ∈ bs, x < 256) {L : Nat} {zs : List Int} (hT : okT (L : Int) zs) (hL : 1 ≤ L)
    (hbs : leN bs = bn (descAll L zs)) (hl1 : bl (descAll L zs) ≤ 8 * n) (hl2 : 8 * n < bl (descAll L zs) + 8) :
    Calls Try.prog 10 #[.pointer (some ⟨gc, 0, none⟩), .int .i64 256, .int .i64 (L : Int)] w fun e w' =>
      ∃ v, e = .returned (.tuple #[.agg #[.int .i64 (L : Int), v], .int .i64 0]) ∧ w'.ownsRow w.heap.size 3 1 v zs.length (zs.map (Value.int .i64)) ∧ CurI w' gc A n c bs n ∧ Chg (fun k => k = gc) w w' := by
  have hgc := lt_of_heap h.blk
  have hA : ∀ ad, A = some ad → ad.block < w.heap.size := by
    rintro ad rfl
    obtain ⟨b, off, he, hb, _⟩ := h.rd.open_ hn (by omega)
    injection he with he
    rw [he]; exact hb
  obtain ⟨q, hq⟩ : ∃ q, q = w.heap.size := ⟨_, rfl⟩
  obtain ⟨W0, hW0⟩ : ∃ W0, W0 = w.alloc (.cells #[.int .i64 0, .slice none 0 0] 28 (0, 0)) := ⟨_, rfl⟩
  have hc0 : Chg (fun _ => False) w W0 := by rw [hW0]; exact (Chg.refl _ w).alloc _
  have hI0 := h.chg hc0 (fun h => h) (fun _ _ h => h)
  have g0 : W0.heap[q]? = some (.cells #[.int .i64 0, .slice none 0 0] 28 (0, 0)) := by rw [hW0, hq]; exact heap_alloc_new w _
  have HP := hide (cpeek_ok hI0 hn h10 hc)
  have HT := hide hT
  have HBS := hide hbs
  have H8 := hide h8
  have HLEN := hide h.len
  have HI0 := hide hI0
  have HW0 := hide hW0
  have HC0 := hide hc0
  have HG0 := hide g0
  have HQ := hide hq
  have hs0 : q + 1 ≤ W0.heap.size := lt_of_heap g0
  clear h hT hbs h8 hI0 hW0 hc0 g0 hq
  go_enter Try.func10, Try.ntmps10
  go_wp2_with fail
  rw [← HW0.out, ← HQ.out]
  refine HP.out.mono ?_
  rintro e W1 ⟨v1, rfl, ho1, hb1⟩
  obtain ⟨A1, c1, rfl⟩ := own_form ho1
  have HNF := hide (newf_of A1 n c1 bs W1 (Reads.of_own ho1) H8.out HLEN.out (by omega))
  have HB1 := hide hb1
  clear ho1 hb1
  go_wp2_with fail
  refine HNF.out.mono ?_
  rintro e W2 ⟨gf, rfl, hrd, hb2⟩
  have HRD := hide hrd
  have HB2 : Hid (Below W0.heap.size W0 W2) := hide (HB1.out.trans (hb2.mono HB1.out.size))
  have hw12 := HB1.out.size
  have hw22 := hb2.size
  clear hb2
  go_wp2_with fail
  obtain ⟨W3, hW3⟩ : ∃ W3, W3 = W2.alloc (.cells #[.pointer (some ⟨gf, 0, none⟩), .int .i64 0] 65 (0, 0)) := ⟨_, rfl⟩
  have hg3 : W3.heap[W2.heap.size]? = some (.cells #[.pointer (some ⟨gf, 0, none⟩), .int .i64 0] 65 (0, 0)) := by rw [hW3]; exact heap_alloc_new W2 _
  have hc3 : Chg (fun _ => False) W2 W3 := by rw [hW3]; exact (Chg.refl _ W2).alloc _
  obtain ⟨gr, hgr⟩ : ∃ gr, gr = W2.heap.size := ⟨_, rfl⟩
  have hri : RI W3 W1.heap.size W2.heap.size W2.heap.size gf bs 0 (8 * n) := ⟨hg3, HRD.out.chg hc3 (fun _ h => h.elim), Nat.le_refl _⟩
  have hat : AtP (leN bs) 0 (8 * n) (descAll L zs) := by rw [HBS.out]; exact AtP.start (ok_descAll HT.out hL) hl1
  have HTB := hide (dtable_ok hri HT.out hL hat)
  have HB3 : Hid (Below W0.heap.size W0 W3) := hide (HB2.out.trans (by rw [hW3]; exact (Below.refl _ W2).alloc (by omega) _))
  have hat2 : AtP (leN bs) (bl (descAll L zs)) (8 * n) [] := by
    have h9 : descAll L zs = descAll L zs ++ [] := by simp
    rw [h9] at hat
    have := hat.append
    rwa [Nat.zero_add] at this
  have HAT := hide hat2
  have hs3 : W3.heap.size = gr + 1 := by rw [hW3, hgr]; simp
  have HGR := hide hgr
  have hgf := HRD.out.hig
  rw [← hW3]
  rw [← hgr] at HTB hgf hw22 ⊢
  clear hW3 hg3 hc3 hri hat hat2 hgr
  refine HTB.out.mono ?_
  rintro e W4 ⟨v4, rfl, ho4, hr4, hc4⟩
  obtain ⟨A4, c4, rfl⟩ := own_form ho4
  have h4 := hc4.size
  have HO4 := hide ho4
  have HR4 := hide hr4
  have HC4 := hide hc4
  clear ho4 hr4 hc4
  have e0 := HR4.out.blk
  have r0 : (W4.alloc (.cells #[.int .i64 (L : Int), .slice A4 zs.length c4] 28 (0, 0))).cell? ⟨gr, 0, none⟩ = some (.pointer (some ⟨gf, 0, none⟩)) := (World.cell?_alloc_lt W4 _ ⟨gr, 0, none⟩ (lt_of_heap e0)).trans ((cell_blk e0 0).trans rfl)
  have r1 : (W4.alloc (.cells #[.int .i64 (L : Int), .slice A4 zs.length c4] 28 (0, 0))).cell? ⟨gr, 1, none⟩ = some (.int .i64 0) := (World.cell?_alloc_lt W4 _ ⟨gr, 1, none⟩ (lt_of_heap e0)).trans ((cell_blk e0 1).trans rfl)
  go_wp2_with fail
  obtain ⟨p9, hp9⟩ : ∃ p9, p9 = W4.heap.size := ⟨_, rfl⟩
  obtain ⟨W5, hW5⟩ : ∃ W5, W5 = W4.alloc (.cells #[.int .i64 (L : Int), .slice A4 zs.length c4] 28 (0, 0)) := ⟨_, rfl⟩
  have hg5 : W5.heap[p9]? = some (.cells #[.int .i64 (L : Int), .slice A4 zs.length c4] 28 (0, 0)) := by rw [hW5, hp9]; exact heap_alloc_new W4 _
  have hr5 : RI W5 W1.heap.size gr gr gf bs (bl (descAll L zs)) (8 * n) := HR4.out.chg (S := fun _ => False) (by rw [hW5]; exact (Chg.refl (fun _ => False) W4).alloc _) (fun _ h => h.elim)
  have ho5 : W5.ownsRow W3.heap.size 3 1 (.slice A4 zs.length c4) zs.length (zs.map (Value.int .i64)) := by rw [hW5]; exact HO4.out.alloc _
  have hb5 : Below W0.heap.size W0 W5 := by
    have h9 : Below W0.heap.size W0 W4 := HB3.out.trans (HC4.out.below (fun k hk => by omega) (by omega))
    rw [hW5]
    exact h9.alloc (by omega) _
  have hal := align_out hr5.rdr (by have := HLEN.out; omega)
  have ho : oA (leN bs) (bl (descAll L zs)) = (n, 0, 8 * n) := by
    unfold oA
    rw [if_pos (HAT.out.done _)]
    have h1 := gap_mod (bl (descAll L zs))
    have h2 := gap_le (bl (descAll L zs))
    generalize bl (descAll L zs) = f at *
    generalize gap f = d at *
    have : f + d = 8 * n := by omega
    rw [this]
    congr 1
    omega
  rw [ho] at hal
  have HAL := hide hal
  have HG5 := hide hg5
  have HO5 := hide ho5
  have HB5 := hide hb5
  have hs5 : W5.heap.size = p9 + 1 := by rw [hW5, hp9]; simp
  rw [← hW5]
  rw [← hp9]
  have hp9g : gr < p9 := by rw [hp9]; exact lt_of_heap e0
  clear hW5 hp9 hg5 hr5 ho5 hb5 hal ho r0 r1 e0
  refine HAL.out.mono ?_
  rintro e W6 ⟨rfl, _, hc6⟩
  have hb6 : Below W0.heap.size W0 W6 := HB5.out.trans (hc6.below (fun k hk => by omega) (by omega))
  have hI6 : CurI W6 gc A n c bs 0 := HI0.out.chg (Chg.of_below (S := fun _ => False) hb6) (fun h => h) (fun _ _ h => h)
  have HCB := hide (cbytes_ok hI6 hn hc)
  have HB6 := hide hb6
  have HC6 := hide hc6
  clear hb6 hI6 hc6
  go_wp2_with fail
  refine HCB.out.mono ?_
  rintro e W7 ⟨v7, rfl, hI7, hc7⟩
  have g7 := hc7.heap (HC6.out.heap HG5.out (by omega)) (by have := HQ.out; omega)
  have q7 := hc7.heap (HB6.out.block q (by omega) |>.trans HG0.out) (by have := HQ.out; omega)
  have k70 : W7.cell? ⟨p9, 0, none⟩ = some (.int .i64 (L : Int)) := (cell_blk g7 0).trans rfl
  have k71 : W7.cell? ⟨p9, 1, none⟩ = some (.slice A4 zs.length c4) := (cell_blk g7 1).trans rfl
  have k72 : W7.cell? ⟨q, 0, none⟩ = some (.int .i64 0) := (cell_blk q7 0).trans rfl
  have k73 : W7.cell? ⟨q, 1, none⟩ = some (.slice none 0 0) := (cell_blk q7 1).trans rfl
  have f72 : W7.frozen? ⟨q, 0, none⟩ = false := frozen_blk q7 0
  have f73 : W7.frozen? ⟨q, 1, none⟩ = false := frozen_blk q7 1
  have HI7 := hide hI7
  have HC7 := hide hc7
  have HQ7 := hide q7
  clear hI7 hc7 g7 q7
  go_wp2_with fail
  have hq2 := HQ.out
  obtain ⟨W9, hW9⟩ : ∃ W9, W9 = (W7.setCell ⟨q, 0, none⟩ (.int .i64 (L : Int))).setCell ⟨q, 1, none⟩ (.slice A4 zs.length c4) := ⟨_, rfl⟩
  have g9 : W9.heap[q]? = some (.cells #[.int .i64 (L : Int), .slice A4 zs.length c4] 28 (0, 0)) := by rw [hW9]; exact set_blk (set_blk HQ7.out 0 (.int .i64 (L : Int))) 1 (.slice A4 zs.length c4)
  have hc9 : Chg (fun k => k = q) W7 W9 := by rw [hW9]; exact ((Chg.refl (fun k => k = q) W7).setCell (p := ⟨q, 0, none⟩) (.inl rfl) _).setCell (p := ⟨q, 1, none⟩) (.inl rfl) _
  have c0 := cell_blk g9 0
  have c1 := cell_blk g9 1
  have hs67 := HC6.out.size
  have ho6 := own_chg HO5.out HC6.out (fun k hk => by have := (HO5.out.lt k hk).1; omega)
  have ho7 := own_chg ho6 HC7.out (fun k hk => by have := (ho6.lt k hk).1; omega)
  have ho9 := own_chg ho7 hc9 (fun k hk => by have := (ho7.lt k hk).1; omega)
  have ho := own_base (base' := w.heap.size) ho9 (fun k hk => by have := (ho9.lt k hk).1; omega)
  have hi9 : CurI W9 gc A n c bs n := HI7.out.chg hc9 (by omega) (fun ad h => by have := hA ad h; omega)
  have hch : Chg (fun k => k = gc) w W9 := by
    have t1 : Chg (fun k => k = gc) w W6 := HC0.out.trans (Chg.of_below (S := fun _ => False) HB6.out) (fun _ h => h.elim) |>.mono (fun _ h => h.elim)
    have t2 : Chg (fun k => k = gc) w W7 := t1.trans HC7.out (fun _ h => .inl h)
    exact t2.trans hc9 (fun _ h => .inr (by omega))
  rw [← hW9]
  refine bodyPost_ret (v := .tuple #[.agg #[.int .i64 (L : Int), .slice A4 zs.length c4], .int .i64 0]) ?_ rfl ⟨_, rfl, ho, hi9, hch⟩
  clear g9 hc9 ho6 ho7 ho9 ho hi9 hch hW9
  simp only [results, Try.results10, go_sem]
  simp [c0, c1, go_sem]
end
end

end Go.Proofs.Ytohgnohifojdbaa
