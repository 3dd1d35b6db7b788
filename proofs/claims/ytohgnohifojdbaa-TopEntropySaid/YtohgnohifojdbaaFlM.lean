/- flow.Encode walked. -/
import Derived.Test.YtohgnohifojdbaaFlL
namespace Go.Proofs.Ytohgnohifojdbaa
set_option maxRecDepth 8000
open Go.RowKit Go Go.Shelf
set_option linter.unusedVariables false
set_option maxRecDepth 8000
attribute [local go_sem] Oper.semAt_some

theorem res_two {w : World} {tmps : Array Value} {b4 b5 : Nat} {v : Value} {k : Int} (t4 : tmps.getD 4 undef = .pointer (some ⟨b4, 0, none⟩)) (t5 : tmps.getD 5 undef = .pointer (some ⟨b5, 0, none⟩))
    (h4 : w.heap[b4]? = some (.cells #[v] 22 (0, 0))) (h5 : w.heap[b5]? = some (.cells #[.int .i64 k] 29 (0, 0))) (hv : v.oneCell' = true) :
    (results Try.f13 tmps).run Try.prog w = .ok (.tuple #[v, .int .i64 k]) w := by
  have c4 := cell_blk h4 0
  have c5 := cell_blk h5 0
  simp only [results, Try.results13, go_sem]
  have t4' : tmps[4]?.getD undef = .pointer (some ⟨b4, 0, none⟩) := by simpa using t4
  have t5' : tmps[5]?.getD undef = .pointer (some ⟨b5, 0, none⟩) := by simpa using t5
  simp [t4', t5', c4, c5, go_sem]

/-- Encode's first boxes: the table, the symbols, the two results. -/
def encW (w : World) (l : Int) (A B : Option Addr) (m c ns cs : Nat) : World :=
  (((w.alloc (.cells #[.int .i64 l, .slice A m c] 28 (0, 0))).alloc (.cells #[.slice B ns cs] 24 (0, 0))).alloc (.cells #[.slice none 0 0] 22 (0, 0))).alloc (.cells #[.int .i64 0] 29 (0, 0))
structure Enc0 (w W : World) (l : Int) (A B : Option Addr) (m c ns cs : Nat) : Prop where
  h2 : W.heap[w.heap.size]? = some (.cells #[.int .i64 l, .slice A m c] 28 (0, 0))
  h3 : W.heap[w.heap.size + 1]? = some (.cells #[.slice B ns cs] 24 (0, 0))
  h4 : W.heap[w.heap.size + 1 + 1]? = some (.cells #[.slice none 0 0] 22 (0, 0))
  h5 : W.heap[w.heap.size + 1 + 1 + 1]? = some (.cells #[.int .i64 0] 29 (0, 0))
  hb : Below w.heap.size w W
  hs : w.heap.size + 1 + 1 + 1 + 1 ≤ W.heap.size
theorem encW_ok (w : World) (l : Int) (A B : Option Addr) (m c ns cs : Nat) : Enc0 w (encW w l A B m c ns cs) l A B m c ns cs := by
  unfold encW
  refine ⟨?_, ?_, ?_, ?_, ?_, by simp⟩
  · exact alloc_far (alloc_far (alloc_far (heap_alloc_new w _) _) _) _
  · have h := heap_alloc_new (w.alloc (.cells #[.int .i64 l, .slice A m c] 28 (0, 0))) (.cells #[.slice B ns cs] 24 (0, 0))
    simp only [World.size_alloc] at h
    exact alloc_far (alloc_far h _) _
  · have h := heap_alloc_new ((w.alloc (.cells #[.int .i64 l, .slice A m c] 28 (0, 0))).alloc (.cells #[.slice B ns cs] 24 (0, 0))) (.cells #[.slice none 0 0] 22 (0, 0))
    simp only [World.size_alloc] at h
    exact alloc_far h _
  · have h := heap_alloc_new (((w.alloc (.cells #[.int .i64 l, .slice A m c] 28 (0, 0))).alloc (.cells #[.slice B ns cs] 24 (0, 0))).alloc (.cells #[.slice none 0 0] 22 (0, 0))) (.cells #[.int .i64 0] 29 (0, 0))
    simp only [World.size_alloc] at h
    exact h
  · exact ((((Below.refl w.heap.size w).alloc (Nat.le_refl _) _).alloc (by simp) _).alloc (by simp; omega) _).alloc (by simp; omega) _
theorem Enc0.below {w W W' : World} {l : Int} {A B : Option Addr} {m c ns cs : Nat} (h : Enc0 w W l A B m c ns cs) (hb : Below W.heap.size W W') : Enc0 w W' l A B m c ns cs :=
  ⟨(hb.block _ (lt_of_heap h.h2)).trans h.h2, (hb.block _ (lt_of_heap h.h3)).trans h.h3, (hb.block _ (lt_of_heap h.h4)).trans h.h4, (hb.block _ (lt_of_heap h.h5)).trans h.h5, h.hb.trans (hb.mono h.hb.size), Nat.le_trans h.hs hb.size⟩

set_option maxRecDepth 100000 in
set_option maxHeartbeats 16000000 in
theorem enc_table (n : Nat) (hn : 6 ≤ n) (l : Int) (A B : Option Addr) (m c ns cs : Nat) (zs : List Int) (w : World) (hm : zs.length = m) (hr : Reads w w.heap.size 1 A m (zs.map (Value.int .i64))) (hok : ∀ z ∈ zs, (Lit.int .i64 z).wf = true) (hc : m ≤ c) (hc' : c ≤ maxLen) (hT : ¬ okT l zs) :
    CallsIn Fence.wide n Try.prog 13 #[.agg #[.int .i64 l, .slice A m c], .slice B ns cs] w fun e w' => e = .returned (.tuple #[.slice none 0 0, .int .i64 13]) ∧ Below w.heap.size w w' := by
  have HB := hide (fun W (b : Below w.heap.size w W) => new_bad l A m c zs W hm ((hr.below b).more b.size) hok hc hc' hT)
  clear hr hok hc hc' hT
  refine callsIn_of_wp_marks Try.func13 rfl trivial ?_ rfl
  simp only [Try.ntmps13, List.size_toArray, List.length_cons, List.length_nil, Nat.reduceAdd, Nat.reduceSub, Array.replicate_succ, Array.replicate_zero, List.push_toArray, List.append_toArray, List.nil_append, List.cons_append]
  have h1n : 1 ≤ n := by omega
  obtain ⟨Wa, hWa⟩ : ∃ Wa, Wa = encW w l A B m c ns cs := ⟨_, rfl⟩
  have HE := hide (encW_ok w l A B m c ns cs)
  rw [← hWa] at HE
  unfold encW at hWa
  have HWA := hide hWa
  clear hWa
  gi_wp2_with fail
  rw [← HWA.out]
  refine ⟨trivial, (callsIn_wide.2 (HB.out _ HE.out.hb)).mono ?_⟩
  rintro e W1 ⟨rfl, b1⟩
  have HE1 := hide (HE.out.below b1)
  obtain ⟨W2, hW2⟩ : ∃ W2, W2 = (W1.alloc (.cells #[.pointer none] 71 (0, 0))).alloc (.cells #[.int .i64 13] 29 (0, 0)) := ⟨_, rfl⟩
  have b2 : Below W1.heap.size W1 W2 := by rw [hW2]; exact ((Below.refl _ _).alloc (Nat.le_refl _) _).alloc (by simp) _
  have h7 : W2.heap[W1.heap.size + 1]? = some (.cells #[.int .i64 13] 29 (0, 0)) := by
    have h := heap_alloc_new (W1.alloc (.cells #[.pointer none] 71 (0, 0))) (.cells #[.int .i64 13] 29 (0, 0))
    rw [World.size_alloc] at h
    rw [hW2]
    exact h
  obtain ⟨h2, h3, h4, h5, hb, hs⟩ := HE1.out.below b2
  have c4 := cell_blk h4 0
  have f4 := frozen_blk h4 0
  have c5 := cell_blk h5 0
  have f5 := frozen_blk h5 0
  have c7 := cell_blk h7 0
  have H4 := hide h4
  have H5 := hide h5
  have HB2 := hide hb
  have HW2 := hide hW2
  have hsz : w.heap.size + 1 + 1 + 1 + 1 ≤ W1.heap.size := HE1.out.hs
  clear b1 b2 h2 h3 h4 h5 h7 hb hs HWA hW2
  gi_wp2_with fail
  rw [← HW2.out]
  obtain ⟨b4, e4⟩ : ∃ b4, b4 = w.heap.size + 1 + 1 := ⟨_, rfl⟩
  obtain ⟨b5, e5⟩ : ∃ b5, b5 = b4 + 1 := ⟨_, rfl⟩
  obtain ⟨q7, e7⟩ : ∃ q7, q7 = W1.heap.size + 1 := ⟨_, rfl⟩
  have n45 : b4 ≠ b5 := by omega
  have n54 : b5 ≠ b4 := by omega
  have n74 : q7 ≠ b4 := by omega
  have n75 : q7 ≠ b5 := by omega
  have HLE := hide (show w.heap.size ≤ b4 ∧ w.heap.size ≤ b5 by omega)
  rw [← e4] at c4 f4 H4 c5 f5 H5 ⊢
  rw [← e5] at c5 f5 H5 ⊢
  rw [← e7] at c7 ⊢
  clear e4 e5 e7 hsz
  gi_wp2_with fail
  gi_region
  gi_wp2
  refine ⟨_, res_two rfl rfl (set_far (set_blk H4.out 0 (.slice none 0 0)) (p := ⟨b5, 0, none⟩) n45 (.int .i64 13)) (set_blk (set_far H5.out (p := ⟨b4, 0, none⟩) n54 (.slice none 0 0)) 0 (.int .i64 13)) rfl, rfl, ?_⟩
  exact ((HB2.out.setCell (p := ⟨b4, 0, none⟩) HLE.out.1 _).setCell (p := ⟨b5, 0, none⟩) HLE.out.2 _).drew

set_option maxRecDepth 100000 in
set_option maxHeartbeats 16000000 in
theorem enc_long (n : Nat) (hn : 6 ≤ n) (l : Nat) (A B : Option Addr) (m c ns cs : Nat) (zs : List Int) (w : World) (hm : zs.length = m) (hr : Reads w w.heap.size 1 A m (zs.map (Value.int .i64))) (hok : ∀ z ∈ zs, (Lit.int .i64 z).wf = true) (hc : m ≤ c) (hc' : c ≤ maxLen) (hT : okT (l : Int) zs) (hns : 131072 < (ns : Int)) :
    CallsIn Fence.wide n Try.prog 13 #[.agg #[.int .i64 (l : Int), .slice A m c], .slice B ns cs] w fun e w' => e = .returned (.tuple #[.slice none 0 0, .int .i64 2]) ∧ Below w.heap.size w w' := by
  have HB := hide (fun W (b : Below w.heap.size w W) => new_ok l A m c zs W hm ((hr.below b).more b.size) hok hc hc' hT)
  clear hr hok hc hc' hT
  refine callsIn_of_wp_marks Try.func13 rfl trivial ?_ rfl
  simp only [Try.ntmps13, List.size_toArray, List.length_cons, List.length_nil, Nat.reduceAdd, Nat.reduceSub, Array.replicate_succ, Array.replicate_zero, List.push_toArray, List.append_toArray, List.nil_append, List.cons_append]
  have h1n : 1 ≤ n := by omega
  obtain ⟨Wa, hWa⟩ : ∃ Wa, Wa = encW w l A B m c ns cs := ⟨_, rfl⟩
  have HE := hide (encW_ok w l A B m c ns cs)
  rw [← hWa] at HE
  unfold encW at hWa
  have HWA := hide hWa
  clear hWa
  gi_wp2_with fail
  rw [← HWA.out]
  refine ⟨trivial, (callsIn_wide.2 (HB.out _ HE.out.hb)).mono ?_⟩
  rintro e W1 ⟨g, rfl, hco, hgl, b1⟩
  have HE1 := hide (HE.out.below b1)
  have HCO := hide hco
  obtain ⟨W2, hW2⟩ : ∃ W2, W2 = (W1.alloc (.cells #[.pointer (some ⟨g, 0, none⟩)] 71 (0, 0))).alloc (.cells #[.int .i64 0] 29 (0, 0)) := ⟨_, rfl⟩
  have b2 : Below W1.heap.size W1 W2 := by rw [hW2]; exact ((Below.refl _ _).alloc (Nat.le_refl _) _).alloc (by simp) _
  have h6 : W2.heap[W1.heap.size]? = some (.cells #[.pointer (some ⟨g, 0, none⟩)] 71 (0, 0)) := by
    rw [hW2]
    exact alloc_far (heap_alloc_new W1 _) _
  have h7 : W2.heap[W1.heap.size + 1]? = some (.cells #[.int .i64 0] 29 (0, 0)) := by
    have h := heap_alloc_new (W1.alloc (.cells #[.pointer (some ⟨g, 0, none⟩)] 71 (0, 0))) (.cells #[.int .i64 0] 29 (0, 0))
    rw [World.size_alloc] at h
    rw [hW2]
    exact h
  have hs2 : W2.heap.size = W1.heap.size + 1 + 1 := by rw [hW2]; simp
  have HE2 := hide (HE1.out.below b2)
  have h3 := HE2.out.h3
  have c3 := cell_blk h3 0
  have c7 := cell_blk h7 0
  have HW2 := hide hW2
  obtain ⟨-, -, h4, h5, hb, hs⟩ := HE2.out
  have c4 := cell_blk h4 0
  have f4 := frozen_blk h4 0
  have c5 := cell_blk h5 0
  have f5 := frozen_blk h5 0
  have H4 := hide h4
  have H5 := hide h5
  have HB2 := hide hb
  rw [hW2] at c3 c4 f4 c5 f5 c7
  clear b1 b2 h3 h4 h5 h6 h7 hb hs hs2 hco HWA hW2 HCO hgl
  gi_wp2
  rw [← HW2.out]
  have n45 : w.heap.size + 1 + 1 ≠ w.heap.size + 1 + 1 + 1 := by omega
  have n54 : w.heap.size + 1 + 1 + 1 ≠ w.heap.size + 1 + 1 := by omega
  refine ⟨_, res_two rfl rfl (set_far (set_blk H4.out 0 (.slice none 0 0)) (p := ⟨w.heap.size + 1 + 1 + 1, 0, none⟩) n45 (.int .i64 2)) (set_blk (set_far H5.out (p := ⟨w.heap.size + 1 + 1, 0, none⟩) n54 (.slice none 0 0)) 0 (.int .i64 2)) rfl, rfl, ?_⟩
  exact (HB2.out.setCell (p := ⟨w.heap.size + 1 + 1, 0, none⟩) (by show w.heap.size ≤ w.heap.size + 1 + 1; omega) _).setCell (p := ⟨w.heap.size + 1 + 1 + 1, 0, none⟩) (by show w.heap.size ≤ w.heap.size + 1 + 1 + 1; omega) _

set_option maxRecDepth 100000 in
set_option maxHeartbeats 32000000 in
theorem enc_run (n : Nat) (hn : 6 ≤ n) (l : Nat) (A B : Option Addr) (m c ns cs : Nat) (zs S : List Int) (w : World) (hm : zs.length = m) (hr : Reads w w.heap.size 1 A m (zs.map (Value.int .i64))) (hok : ∀ z ∈ zs, (Lit.int .i64 z).wf = true) (hc : m ≤ c) (hc' : c ≤ maxLen) (hT : okT (l : Int) zs)
    (hS : S.length = ns) (hrS : Reads w w.heap.size 1 B ns (intsV S)) (hns : ns ≤ 131072) :
    CallsIn Fence.wide n Try.prog 13 #[.agg #[.int .i64 (l : Int), .slice A m c], .slice B ns cs] w fun e w' =>
      ((∀ s ∈ S, hasS zs s) ∧ ∃ v, e = .returned (.tuple #[v, .int .i64 0]) ∧ w'.ownsRow w.heap.size 5 1 v (pack (finT l zs S + 1) (finN l zs S + 2 ^ finT l zs S)).length (u8s (pack (finT l zs S + 1) (finN l zs S + 2 ^ finT l zs S))) ∧ Below w.heap.size w w') ∨
      ((¬ ∀ s ∈ S, hasS zs s) ∧ e = .returned (.tuple #[.slice none 0 0, .int .i64 2]) ∧ Below w.heap.size w w') := by
  have HB := hide (fun W (b : Below w.heap.size w W) => new_ok l A m c zs W hm ((hr.below b).more b.size) hok hc hc' hT)
  have HRS := hide hrS
  have HT := hide hT
  have hns2 : ¬ 131072 < (ns : Int) := by omega
  subst hS
  clear hr hok hc hc' hT hrS
  refine callsIn_of_wp_marks Try.func13 rfl trivial ?_ rfl
  simp only [Try.ntmps13, List.size_toArray, List.length_cons, List.length_nil, Nat.reduceAdd, Nat.reduceSub, Array.replicate_succ, Array.replicate_zero, List.push_toArray, List.append_toArray, List.nil_append, List.cons_append]
  have h1n : 1 ≤ n := by omega
  obtain ⟨Wa, hWa⟩ : ∃ Wa, Wa = encW w l A B m c S.length cs := ⟨_, rfl⟩
  have HE := hide (encW_ok w l A B m c S.length cs)
  rw [← hWa] at HE
  unfold encW at hWa
  have HWA := hide hWa
  clear hWa
  gi_wp2_with fail
  rw [← HWA.out]
  refine ⟨trivial, (callsIn_wide.2 (HB.out _ HE.out.hb)).mono ?_⟩
  rintro e W1 ⟨g, rfl, hco, hgl, b1⟩
  have HE1 := hide (HE.out.below b1)
  have HCO := hide hco
  obtain ⟨W2, hW2⟩ : ∃ W2, W2 = (W1.alloc (.cells #[.pointer (some ⟨g, 0, none⟩)] 71 (0, 0))).alloc (.cells #[.int .i64 0] 29 (0, 0)) := ⟨_, rfl⟩
  have b2 : Below W1.heap.size W1 W2 := by rw [hW2]; exact ((Below.refl _ _).alloc (Nat.le_refl _) _).alloc (by simp) _
  have h6 : W2.heap[W1.heap.size]? = some (.cells #[.pointer (some ⟨g, 0, none⟩)] 71 (0, 0)) := by
    rw [hW2]
    exact alloc_far (heap_alloc_new W1 _) _
  have h7 : W2.heap[W1.heap.size + 1]? = some (.cells #[.int .i64 0] 29 (0, 0)) := by
    have h := heap_alloc_new (W1.alloc (.cells #[.pointer (some ⟨g, 0, none⟩)] 71 (0, 0))) (.cells #[.int .i64 0] 29 (0, 0))
    rw [World.size_alloc] at h
    rw [hW2]
    exact h
  have hs2 : W2.heap.size = W1.heap.size + 1 + 1 := by rw [hW2]; simp
  have HE2 := hide (HE1.out.below b2)
  have h3 := HE2.out.h3
  have c3 := cell_blk h3 0
  have c7 := cell_blk h7 0
  have HW2 := hide hW2
  obtain ⟨W3, hW3⟩ : ∃ W3, W3 = ((W2.alloc (.cells #[.int .u64 0, .int .i64 0, .slice none 0 0] 78 (0, 0))).alloc (.cells #[.pointer (some ⟨W1.heap.size + 1 + 1, 0, none⟩)] 54 (0, 0))).alloc (.cells #[.int .i64 0, .int .i64 0] 79 (0, 0)) := ⟨_, rfl⟩
  have b3 : Below W2.heap.size W2 W3 := by rw [hW3]; exact (((Below.refl _ _).alloc (Nat.le_refl _) _).alloc (by simp) _).alloc (by simp; omega) _
  have c3e := c3
  rw [hW2] at c3e c7
  have c3f := cell_blk ((HE2.out.below b3).h3) 0
  rw [hW3, hW2] at c3f
  have hs3 : W3.heap.size = W1.heap.size + 1 + 1 + 1 + 1 + 1 := by rw [hW3]; simp; omega
  have k6 := (b3.block _ (lt_of_heap h6)).trans h6
  have k7 := (b3.block _ (lt_of_heap h7)).trans h7
  have k8 : W3.heap[W1.heap.size + 1 + 1 + 1]? = some (.cells #[.pointer (some ⟨W1.heap.size + 1 + 1, 0, none⟩)] 54 (0, 0)) := by
    have h := heap_alloc_new (W2.alloc (.cells #[.int .u64 0, .int .i64 0, .slice none 0 0] 78 (0, 0))) (.cells #[.pointer (some ⟨W1.heap.size + 1 + 1, 0, none⟩)] 54 (0, 0))
    rw [World.size_alloc, hs2] at h
    rw [hW3]
    exact alloc_far h _
  have k9 : W3.heap[W1.heap.size + 1 + 1 + 1 + 1]? = some (.cells #[.int .i64 0, .int .i64 0] 79 (0, 0)) := by
    have h := heap_alloc_new ((W2.alloc (.cells #[.int .u64 0, .int .i64 0, .slice none 0 0] 78 (0, 0))).alloc (.cells #[.pointer (some ⟨W1.heap.size + 1 + 1, 0, none⟩)] 54 (0, 0))) (.cells #[.int .i64 0, .int .i64 0] 79 (0, 0))
    rw [World.size_alloc, World.size_alloc, hs2] at h
    rw [hW3]
    exact h
  have kw : Wr W3 W2.heap.size W2.heap.size none 0 0 := by
    rw [hW3]
    exact ((Wr.new W2 W2.heap.size (Nat.le_refl _)).below ((Below.refl _ _).alloc (Nat.le_refl _) _)).below ((Below.refl _ _).alloc (Nat.le_refl _) _)
  rw [hs2] at kw
  have HE3 := hide (HE2.out.below b3)
  have HBC := hide (show Below W1.heap.size W1 W3 from b2.trans (b3.mono (by omega)))
  have HW3 := hide hW3
  have hwl := HE1.out.hs
  clear b1 b2 b3 h3 h6 h7 hco HWA hW2 hW3 hgl hs2 c3 HE HE2
  gi_wp2_with fail
  rw [← HW2.out, ← HW3.out]
  refine ⟨trivial, (back_in (n - 1) B S.length cs W3).mono ?_⟩
  rintro e W4 ⟨rfl, hW4⟩
  have b4 : Below W3.heap.size W3 W4 := by rw [hW4]; exact (Below.refl _ _).alloc (Nat.le_refl _) _
  have kb : W4.heap[W3.heap.size]? = some (.cells #[.slice B S.length cs] 24 (0, 0)) := by rw [hW4]; exact heap_alloc_new W3 _
  have hs4 : W4.heap.size = W3.heap.size + 1 := by rw [hW4]; simp
  obtain ⟨p6, e6⟩ : ∃ p6, p6 = W1.heap.size := ⟨_, rfl⟩
  obtain ⟨p7, e7⟩ : ∃ p7, p7 = p6 + 1 := ⟨_, rfl⟩
  obtain ⟨pw, ew⟩ : ∃ pw, pw = p6 + 1 + 1 := ⟨_, rfl⟩
  obtain ⟨p8, e8⟩ : ∃ p8, p8 = p6 + 1 + 1 + 1 := ⟨_, rfl⟩
  obtain ⟨p9, e9⟩ : ∃ p9, p9 = p6 + 1 + 1 + 1 + 1 := ⟨_, rfl⟩
  obtain ⟨pb, eb⟩ : ∃ pb, pb = W3.heap.size := ⟨_, rfl⟩
  have hE : EncB W4 p6 p7 pw p8 p9 g 0 0 0 := by
    rw [e9, e8, ew, e7, e6]
    exact ⟨(b4.block _ (lt_of_heap k6)).trans k6, (b4.block _ (lt_of_heap k7)).trans k7, (b4.block _ (lt_of_heap k8)).trans k8, (b4.block _ (lt_of_heap k9)).trans k9⟩
  have hw4 : Wr W4 pw pw none 0 0 := by rw [ew, e6]; exact kw.below b4
  have HE4 := hide (HE3.out.below b4)
  have HBC4 := hide (HBC.out.trans (b4.mono HBC.out.size))
  rw [← eb] at kb hs4
  have HP := hide (show w.heap.size + 1 + 1 + 1 + 1 ≤ p6 ∧ p6 < p7 ∧ p7 < pw ∧ pw < p8 ∧ p8 < p9 ∧ p9 < pb ∧ pb + 1 = W4.heap.size by omega)
  have HEB := hide hE
  have HWW := hide hw4
  have HKB := hide kb
  have E6 := hide e6
  rw [← eb]
  obtain ⟨q3, hq3⟩ : ∃ q3, q3 = w.heap.size + 1 := ⟨_, rfl⟩
  obtain ⟨q4, hq4⟩ : ∃ q4, q4 = w.heap.size + 1 + 1 := ⟨_, rfl⟩
  obtain ⟨q5, hq5⟩ : ∃ q5, q5 = w.heap.size + 1 + 1 + 1 := ⟨_, rfl⟩
  have K3 : Hid (W1.heap[q3]? = some (.cells #[.slice B S.length cs] 24 (0, 0))) := hide (by rw [hq3]; exact HE1.out.h3)
  have K4 : Hid (W1.heap[q4]? = some (.cells #[.slice none 0 0] 22 (0, 0))) := hide (by rw [hq4]; exact HE1.out.h4)
  have K5 : Hid (W1.heap[q5]? = some (.cells #[.int .i64 0] 29 (0, 0))) := hide (by rw [hq5]; exact HE1.out.h5)
  have HBW := hide HE1.out.hb
  have HQ := hide (show w.heap.size < q3 ∧ q3 < q4 ∧ q4 < q5 ∧ q5 < p6 by omega)
  rw [← e6]
  rw [← e9, ← e8, ← ew, ← e7, ← hq5, ← hq4, ← hq3]
  clear hq3 hq4 hq5 HE1 HE4
  clear hW4 b4 kb hs4 e6 e7 ew e8 e9 eb hE hw4 k6 k7 k8 k9 kw hs3 hwl HE3 HBC HW3 HW2 c3e c3f c7
  have hrd4 : Reads W4 W4.heap.size 1 B S.length (intsV S) := ((HRS.out.below HBW.out).below (HBC4.out.mono HBW.out.size)).more (Nat.le_trans HBW.out.size HBC4.out.size)
  have hadl : ∀ ad, B = some ad → 0 < S.length → ad.block < w.heap.size := fun ad e h => by
    obtain ⟨ad', h1, h2, _⟩ := HRS.out.2 h
    rw [e] at h1
    injection h1 with h1
    subst h1
    exact h2
  have HRD4 := hide hrd4
  have HADL := hide hadl
  have hp := HP.out
  have hp6s : W1.heap.size ≤ W4.heap.size := HBC4.out.size
  clear hrd4 hadl
  gi_wp2
  refine wpIn_rangeFunc_ownG rfl h1n (gf := 55) (lb := #[.pointer (some ⟨pb, 0, none⟩)]) rfl trivial (enters_of Try.func55 (by kernel_rfl) rfl)
    (back_seq (n - 1) (by omega) pb S.length cs B S rfl (by omega) W4 HKB.out HRD4.out) (fun h h' => h.trans h') (fun W q o o' hq hW hnc hnw => ⟨World.putObj_heap_other (by omega), fun ad e hm => World.putObj_heap_other (by have := HADL.out ad e hm; omega)⟩) (Below.refl _ _) (fun _ => rfl)
    (EncI W1 p6 p7 pw p8 p9 g W4.heap.size l zs S)
    (EncX w q4 q5 zs S)
    (EncI.own _ _ _ _ _ _ _ _ _ _ _ _ hp6s)
    (fun cd => EncX.own _ _ _ _ _ _ _ (by omega))
    ⟨⟨fun x hx => by simp at hx, HEB.out, Nat.le_refl _, none, HWW.out, fun k hk => by cases hk⟩, HBC4.out⟩
    ?a1 ?assign ?body ?done ?stop
  case assign =>
    intro q x W K hK
    gi_wp2
    exact hK
  case stop =>
    rintro D cd pre W hD _ ⟨⟨rfl, ⟨x, hx⟩, h4, h5⟩, hb⟩ hK
    have hnot : ¬ ∀ s ∈ S, hasS zs s := fun h => hx (h _ (by
      rw [List.getD_eq_getElem?_getD, List.getElem?_eq_getElem x.2]
      exact List.getElem_mem x.2))
    have HNOT := hide hnot
    have H4 := hide h4
    have H5 := hide h5
    have HBX := hide hb
    have HK := hide hK
    have HD := hide (show w.heap.size ≤ D by have := HQ.out; have := HP.out; omega)
    clear hx hnot h4 h5 hb hK
    gi_wp2
    refine ⟨by simp, .inl ⟨_, _, rfl, run_takeDeferred HK.out, ?_⟩⟩
    have hkc : ∀ r, some D = some r → ∃ o : Obj, W.heap[r]? = some o ∧ o.isCells = false := fun r e => by
      injection e with e
      subst e
      exact ⟨_, HK.out, rfl⟩
    refine ⟨_, res_two rfl rfl (kept_cells (grownBy_putObj' _ D _) hkc H4.out) (kept_cells (grownBy_putObj' _ D _) hkc H5.out) rfl, .inr ⟨HNOT.out, rfl, ?_⟩⟩
    exact HBX.out.trans (belowK_b (n₀ := w.heap.size) (w := w) (Nat.le_refl _) W D _ _ HD.out HK.out rfl rfl)
  case body =>
    rintro q pre x W ⟨⟨hall, hEB, hsW, F, hWr, hF⟩, hbel⟩ hlt
    have hok := encG_ok (S := S) HT.out (pre.map Subtype.val) (fun i hi => by obtain ⟨y, hy, rfl⟩ := List.mem_map.1 hi; exact hall y hy)
    obtain ⟨i, hxi⟩ := x
    obtain ⟨s, hs⟩ : ∃ s, s = S.getD i 0 := ⟨_, rfl⟩
    have hs2 : S[i]?.getD 0 = s := by rw [hs, List.getD_eq_getElem?_getD]
    simp only [hs2]
    clear hs2
    have h1n2 : 1 ≤ n - 1 - 1 := by omega
    obtain ⟨st, hst⟩ : ∃ st, st = encG l zs S (pre.map Subtype.val) := ⟨_, rfl⟩
    have hstep : encG l zs S ((pre ++ [(⟨i, hxi⟩ : Ix S.length)]).map Subtype.val) = stepE l zs S st i := by rw [List.map_append, hst]; exact encG_snoc _ _ _ _ _
    rw [← hst] at hEB hWr hok
    have hplen : pre.length ≤ 131072 := by omega
    obtain ⟨⟨ht0, ht1, hN⟩, hTl⟩ := hok
    rw [List.length_map] at hTl
    obtain ⟨r, hr⟩ : ∃ r, r = i % 2 := ⟨_, rfl⟩
    have hrem : (i : Int).tmod 2 = (r : Int) := by rw [Int.tmod_eq_emod_of_nonneg (by omega)]; omega
    have hr2 : (r : Int) < 2 := by omega
    have hr1 : r < 2 := by omega
    have hco := HCO.out.below hbel
    have k3 := (hbel.block _ (lt_of_heap K3.out)).trans K3.out
    have d3 := cell_blk k3 0
    have d6 := cell_blk hEB.h6 0
    have d7 := cell_blk hEB.h7 0
    have f7 := frozen_blk hEB.h7 0
    have hqi : (i : Int) < (S.length : Int) := by omega
    have HEB5 := hide hEB
    have HW5 := hide hWr
    have HF5 := hide hF
    have HBE := hide hbel
    have HSW := hide hsW
    have HALL := hide hall
    have HST := hide hstep
    have HCOW := hide hco
    have HS5 := hide hs
    have HR5 := hide hr
    clear hEB hWr hF hbel hsW hall hstep hco hs hst hr k3
    by_cases h2 : S.length ≤ i + 2
    · have h2i : (S.length : Int) ≤ (i : Int) + 2 := by omega
      have d9 : W.cell? ⟨p9, r, none⟩ = some (.int .i64 ((if r = 0 then st.1 else st.2.1 : Nat) : Int)) := by
        rw [cell_blk HEB5.out.h9 r]
        rcases (show r = 0 ∨ r = 1 by omega) with h | h <;> rw [h] <;> rfl
      have f9 := frozen_blk HEB5.out.h9 r
      by_cases hsy : hasS zs s
      · obtain ⟨v, z, hv, hvl, hz, hz0, hza, hzn⟩ := has_use HT.out hsy
        have hlow := low_use HT.out hsy
        have hcall := lowest_ok (v := v) (k := lowK l zs s) HCOW.out hvl (by rw [← hv]; exact hlow.2.2)
        rw [← hv] at hcall
        have HCL := hide hcall
        have HSY := hide hsy
        clear hcall hlow hv hvl hz hz0 hza hzn hsy
        gi_wp2_with fail
        refine ⟨trivial, (CallsIn.inRound q (callsIn_wide.2 HCL.out)).mono ?_⟩
        rintro e W' ⟨rfl, rfl⟩
        gi_wp2
        rw [HR5.out]
        have hp := HP.out
        have hq := HQ.out
        have hc : Chg (fun q => q = p9 ∨ q = p7) W' ((W'.setCell ⟨p9, i % 2, none⟩ (.int .i64 ((lowK l zs s : Nat) : Int))).setCell ⟨p7, 0, none⟩ (.int .i64 0)) :=
          ((Chg.refl (fun q => q = p9 ∨ q = p7) W').setCell (p := ⟨p9, i % 2, none⟩) (.inl (.inl rfl)) _).setCell (p := ⟨p7, 0, none⟩) (.inl (.inr rfl)) _
        have hwl := HW5.out.ltF
        refine ⟨keeps_chg hc (fun k hk => .inl (by omega)), ⟨hc.block pb (by have := HSW.out; omega) (by omega), fun ad e hm => hc.block _ (by have := HADL.out ad e hm; have := lt_of_heap HEB5.out.h9; omega) (by have := HADL.out ad e hm; omega)⟩, ⟨⟨?_, ?_, ?_, ?_⟩, ?_⟩⟩
        · intro x hx
          rcases List.mem_append.1 hx with h | h
          · exact HALL.out x h
          · rw [List.mem_singleton.1 h, ← HS5.out]; exact HSY.out
        · rw [HST.out, stepE_low _ _ _ _ _ h2, ← HS5.out]
          exact (HEB5.out.set9 (by omega) (by omega) (by omega) i (lowK l zs s)).set7 (by omega) (by omega) (by omega) 0
        · exact Nat.le_trans HSW.out hc.size
        · rw [HST.out, stepE_low _ _ _ _ _ h2]
          exact ⟨F, HW5.out.chg hc (by omega) (fun k hk => by have := HF5.out k hk; omega), HF5.out⟩
        · exact HBE.out.trans (hc.below (fun q hq => by have := E6.out; omega) HBE.out.size)
      · have hcall := lowest_bad HCOW.out (bad_pos HT.out hsy)
        have HCL := hide hcall
        have HSY := hide hsy
        clear hcall hsy
        gi_wp2_with fail
        refine ⟨trivial, (CallsIn.inRound q (callsIn_wide.2 HCL.out)).mono ?_⟩
        rintro e W' ⟨rfl, rfl⟩
        gi_wp2_with fail
        obtain ⟨X, hX⟩ : ∃ X, X = (W'.setCell ⟨p9, r, none⟩ (.int .i64 0)).setCell ⟨p7, 0, none⟩ (.int .i64 2) := ⟨_, rfl⟩
        have hp := HP.out
        have hq := HQ.out
        have hc : Chg (fun q => q = p9 ∨ q = p7) W' X := by
          rw [hX]
          exact ((Chg.refl (fun q => q = p9 ∨ q = p7) W').setCell (p := ⟨p9, r, none⟩) (.inl (.inl rfl)) _).setCell (p := ⟨p7, 0, none⟩) (.inl (.inr rfl)) _
        have x7 : X.heap[p7]? = some (.cells #[.int .i64 2] 29 (0, 0)) := by
          rw [hX]
          exact set_blk (set_far HEB5.out.h7 (p := ⟨p9, r, none⟩) (by show p7 ≠ p9; omega) _) 0 _
        have x4 := hc.heap ((HBE.out.block _ (lt_of_heap K4.out)).trans K4.out) (by omega)
        have x5 := hc.heap ((HBE.out.block _ (lt_of_heap K5.out)).trans K5.out) (by omega)
        have y7 := cell_blk x7 0
        have y4 := cell_blk x4 0
        have y5 := cell_blk x5 0
        have z4 := frozen_blk x4 0
        have z5 := frozen_blk x5 0
        have n45 : q4 ≠ q5 := by omega
        have n54 : q5 ≠ q4 := by omega
        have n74 : p7 ≠ q4 := by omega
        have n75 : p7 ≠ q5 := by omega
        have HXC := hide hc
        have HX4 := hide x4
        have HX5 := hide x5
        have hmo : Try.prog.follows .mixedOrders = true := by kernel_rfl
        rw [← hX]
        clear hX hc x7 x4 x5 hp hq d3 d6 d7 d9 f7 f9
        gi_region_with_o (fail)
        all_goals gi_wp2
        all_goals
          have hp := HP.out
          have hq := HQ.out
          have hc9 : Chg (fun q => q = p9 ∨ q = p7 ∨ q = q4 ∨ q = q5) W' ((X.setCell ⟨q4, 0, none⟩ (.slice none 0 0)).setCell ⟨q5, 0, none⟩ (.int .i64 2)).drew :=
            ((((HXC.out.mono (T := fun q => q = p9 ∨ q = p7 ∨ q = q4 ∨ q = q5) (fun q hq => .inl (by omega)))).setCell (p := ⟨q4, 0, none⟩) (.inl (.inr (.inr (.inl rfl)))) _).setCell (p := ⟨q5, 0, none⟩) (.inl (.inr (.inr (.inr rfl)))) _).drew
          refine ⟨keeps_chg hc9 (fun k hk => .inl (by omega)), ⟨⟨rfl, ⟨⟨i, hxi⟩, ?_⟩, ?_, ?_⟩, ?_⟩⟩
          · rw [← HS5.out]; exact HSY.out
          · exact set_far (set_blk HX4.out 0 (.slice none 0 0)) (p := ⟨q5, 0, none⟩) n45 (.int .i64 2)
          · exact set_blk (set_far HX5.out (p := ⟨q4, 0, none⟩) n54 (.slice none 0 0)) 0 (.int .i64 2)
          · exact (HBW.out.trans (HBE.out.mono HBW.out.size)).trans (hc9.below (fun q hq => by omega) (Nat.le_trans HBW.out.size HBE.out.size))
    · have h2i : ¬ (S.length : Int) ≤ (i : Int) + 2 := by omega
      obtain ⟨sel, hsel⟩ : ∃ sel, sel = selE st i := ⟨_, rfl⟩
      have hselr : sel = (if r = 0 then st.1 else st.2.1) := by rw [hsel, HR5.out]; rfl
      have hsell : sel < 2 ^ l := by rw [hselr]; split <;> assumption
      obtain ⟨kk, bb, nn, E, hbb, hnn, hkk, hE, hcall⟩ := pred_out HT.out g s hsell
      have d9 : W.cell? ⟨p9, r, none⟩ = some (.int .i64 (sel : Int)) := by
        rw [cell_blk HEB5.out.h9 r, hselr]
        rcases (show r = 0 ∨ r = 1 by omega) with h | h <;> rw [h] <;> rfl
      have f9 := frozen_blk HEB5.out.h9 r
      have hl9 : l ≤ 9 := by have := HT.out.1; omega
      obtain ⟨px, hpx⟩ : ∃ px, px = W.heap.size := ⟨_, rfl⟩
      obtain ⟨W5, hW5⟩ : ∃ W5, W5 = W.alloc (.cells #[.int .i64 0, .int .u64 0, .int .i64 0] 85 (0, 0)) := ⟨_, rfl⟩
      have b5 : Below W.heap.size W W5 := by rw [hW5]; exact (Below.refl _ _).alloc (Nat.le_refl _) _
      have hx5 : W5.heap[px]? = some (.cells #[.int .i64 0, .int .u64 0, .int .i64 0] 85 (0, 0)) := by rw [hW5, hpx]; exact heap_alloc_new W _
      have hEB6 := HEB5.out.chg (Chg.of_below (S := fun _ => False) b5) (fun h => h) (fun h => h) (fun h => h) (fun h => h)
      have hco5 := HCOW.out.below b5
      have HCL := hide (hcall W5.drew hco5)
      have d6' := cell_blk hEB6.h6 0
      have d9' : W5.cell? ⟨p9, r, none⟩ = some (.int .i64 (sel : Int)) := (World.cell?_of_block (b5.block _ (lt_of_heap HEB5.out.h9))).trans d9
      have HX5 := hide hx5
      have HEB6 := hide hEB6
      have HB5 := hide b5
      have HPX := hide hpx
      have HEE := hide hE
      have HBB := hide hbb
      have HNN := hide hnn
      have HSEL := hide hsel
      have HSELR := hide hselr
      have HW5E := hide hW5
      have hmo : Try.prog.follows .mixedOrders = true := by kernel_rfl
      clear hcall hx5 hEB6 b5 hpx hE hbb hnn hsel hselr hW5 hco5 hkk
      gi_wp2_with fail
      rw [← HPX.out, ← HW5E.out]
      gi_wp2_with fail
      have hnx : px ≠ p7 := by have := HPX.out; have := lt_of_heap HEB5.out.h7; omega
      have hnx' : p7 ≠ px := Ne.symm hnx
      clear d3 d6 d7 d9 f7 f9
      apply absorb (C := fun W6 => Below W5.heap.size W5 W6)
      case h =>
        intro hK
        have HK := hide hK
        clear hK
        gi_region_with_o (refine ⟨trivial, ?_⟩; gi_at_call 34; refine (CallsIn.inRound q (callsIn_wide.2 HCL.out)).mono ?_; rintro e W6 ⟨rfl, b6⟩; have hb6 : Below W5.heap.size W5 W6 := (Below.refl _ W5).drew.trans b6; have HX6 := hide ((hb6.block _ (lt_of_heap HX5.out)).trans HX5.out); have HEB7 := hide (HEB6.out.chg (Chg.of_below (S := fun _ => False) hb6) (fun h => h) (fun h => h) (fun h => h) (fun h => h)); have y0 := cell_blk HX6.out 0; have y1 := cell_blk HX6.out 1; have y2 := cell_blk HX6.out 2; have g0 := frozen_blk HX6.out 0; have g1 := frozen_blk HX6.out 1; have g2 := frozen_blk HX6.out 2; have y7 := cell_blk HEB7.out.h7 0; have g7 := frozen_blk HEB7.out.h7 0; have HB6 := hide hb6; clear b6 hb6)
        all_goals exact HK.out W6 HB6.out
      case k =>
        intro W6 hb6
        have hp := HP.out
        have hq := HQ.out
        have hx6 := (hb6.block _ (lt_of_heap HX5.out)).trans HX5.out
        have hE6 := HEB6.out.chg (Chg.of_below (S := fun _ => False) hb6) (fun h => h) (fun h => h) (fun h => h) (fun h => h)
        obtain ⟨W7, hW7⟩ : ∃ W7, W7 = (((W6.setCell ⟨px, 0, none⟩ (.int .i64 (kk : Int))).setCell ⟨px, 1, none⟩ (.int .u64 (bb : Int))).setCell ⟨px, 2, none⟩ (.int .i64 (nn : Int))).setCell ⟨p7, 0, none⟩ (.int .i64 E) := ⟨_, rfl⟩
        have hc7 : Chg (fun q => q = px ∨ q = p7) W6 W7 := by
          rw [hW7]
          exact (((((Chg.refl (fun q => q = px ∨ q = p7) W6).setCell (p := ⟨px, 0, none⟩) (.inl (.inl rfl)) _).setCell (p := ⟨px, 1, none⟩) (.inl (.inl rfl)) _).setCell (p := ⟨px, 2, none⟩) (.inl (.inl rfl)) _).setCell (p := ⟨p7, 0, none⟩) (.inl (.inr rfl)) _)
        have hx7 : W7.heap[px]? = some (.cells #[.int .i64 (kk : Int), .int .u64 (bb : Int), .int .i64 (nn : Int)] 85 (0, 0)) := by
          rw [hW7]
          exact set_far (set_blk (set_blk (set_blk hx6 0 _) 1 _) 2 _) (p := ⟨p7, 0, none⟩) hnx _
        have hpxe := HPX.out
        have hE7 : EncB W7 p6 p7 pw p8 p9 g E st.1 st.2.1 := by
          have hsw := HSW.out
          have e1 : EncB (((W6.setCell ⟨px, 0, none⟩ (.int .i64 (kk : Int))).setCell ⟨px, 1, none⟩ (.int .u64 (bb : Int))).setCell ⟨px, 2, none⟩ (.int .i64 (nn : Int))) p6 p7 pw p8 p9 g 0 st.1 st.2.1 :=
            hE6.chg (((((Chg.refl (fun q => q = px) W6).setCell (p := ⟨px, 0, none⟩) (.inl rfl) _).setCell (p := ⟨px, 1, none⟩) (.inl rfl) _).setCell (p := ⟨px, 2, none⟩) (.inl rfl) _)) (by omega) (by omega) (by omega) (by omega)
          have e2 := e1.set7 (by omega) (by omega) (by omega) E
          rw [hW7]
          exact e2
        have hc6 : Chg (fun q => q = p7) W W7 := ((Chg.of_below (S := fun q => q = p7) HB5.out).trans (Chg.of_below (S := fun _ => False) hb6) (fun q h => h.elim)).trans hc7 (fun q hq => by rcases hq with h | h; exact .inr (by omega); exact .inl h)
        have hwr7 : Wr W7 pw pw F st.2.2.1 st.2.2.2 := HW5.out.chg hc6 (by omega) (fun k hk => by have := HF5.out k hk; omega)
        have hTb : st.2.2.1 ≤ 2000000 := by
          have := Nat.mul_le_mul hplen hl9
          omega
        have hput := put_any (bb : Int) (nn : Int) W7 hwr7 (by omega) (by omega) (by have := HNN.out; omega) (by simpa using HBB.out) (by omega) (by have := hwr7.lt; omega)
        simp only [Int.toNat_natCast] at hput
        have HPUT := hide hput
        have HX7 := hide hx7
        have HE7 := hide hE7
        have HC6 := hide hc6
        have y1 := cell_blk hx7 1
        have y2 := cell_blk hx7 2
        have d8 := cell_blk hE7.h8 0
        rw [← hW7]
        clear hb6 hx6 hE6 hW7 hc7 hx7 hE7 hc6 hwr7 hTb hput hpxe
        rcases HEE.out with ⟨rfl, hsy, hk1, hk2, hk3⟩ | ⟨rfl, hsy⟩
        · have HSY := hide hsy
          have HK1 := hide hk1
          have HK2 := hide hk2
          have HK3 := hide hk3
          clear hsy hk1 hk2 hk3
          gi_wp2_with fail
          refine ⟨trivial, (CallsIn.inRound q (callsIn_wide.2 HPUT.out)).mono ?_⟩
          rintro e W8 ⟨rfl, F', hpt⟩
          have hFl := HF5.out
          have hFx : ∀ k, some k = F → k < px := fun k hk => by rw [HPX.out]; exact (HW5.out.ltF k hk.symm).2.1
          have hpxl : W4.heap.size ≤ px := by rw [HPX.out]; exact HSW.out
          have hx8 := hpt.chg.heap HX7.out (fun h => by rcases h with h | h; omega; have := hFx _ h; omega)
          have hE8 := HE7.out.chg hpt.chg (fun h => by rcases h with h | h; omega; have := hFl _ h.symm; omega) (fun h => by rcases h with h | h; omega; have := hFl _ h.symm; omega) (fun h => by rcases h with h | h; omega; have := hFl _ h.symm; omega) (fun h => by rcases h with h | h; omega; have := hFl _ h.symm; omega)
          have hc8 : Chg (fun q => q = p7 ∨ q = pw ∨ some q = F) W W8 := (HC6.out.mono (T := fun q => q = p7 ∨ q = pw ∨ some q = F) (fun q h => .inl (.inl h))).trans hpt.chg (fun q h => .inl (.inr h))
          have y0 := cell_blk hx8 0
          have d7 := cell_blk hE8.h7 0
          have d9 : W8.cell? ⟨p9, r, none⟩ = some (.int .i64 (sel : Int)) := by
            have hr9 := HSELR.out
            rw [cell_blk hE8.h9 r, hr9]
            rcases (show r = 0 ∨ r = 1 by omega) with h | h <;> rw [h] <;> rfl
          have f9 := frozen_blk hE8.h9 r
          have n79 : p7 ≠ p9 := by omega
          have HE8 := hide hE8
          have HC8 := hide hc8
          have HPT := hide hpt
          clear hx8 hE8 hc8 hpt HPUT
          gi_wp2
          rw [HR5.out]
          have hc9 : Chg (fun q => q = p9 ∨ q = p7 ∨ q = pw ∨ some q = F) W (W8.setCell ⟨p9, i % 2, none⟩ (.int .i64 (kk : Int))) :=
            (HC8.out.mono (T := fun q => q = p9 ∨ q = p7 ∨ q = pw ∨ some q = F) (fun q h => .inl (.inr h))).setCell (p := ⟨p9, i % 2, none⟩) (.inl (.inl rfl)) _
          refine ⟨keeps_chg hc9 (fun k hk => ?_), ⟨hc9.block pb (by have := HSW.out; omega) (fun h => ?_), fun ad e hm => hc9.block _ (by have := HADL.out ad e hm; have := lt_of_heap HEB5.out.h9; omega) (fun h => ?_)⟩, ⟨⟨?_, ?_, ?_, ?_⟩, ?_⟩⟩
          · rcases hk with h | h | h | h
            · exact .inl (by omega)
            · exact .inl (by omega)
            · exact .inl (by omega)
            · exact .inr (HW5.out.cellsF h.symm)
          · rcases h with h | h | h | h
            · omega
            · omega
            · omega
            · have := hFl _ h.symm; omega
          · have := HADL.out ad e hm
            rcases h with h | h | h | h
            · omega
            · omega
            · omega
            · have := hFl _ h.symm; omega
          · intro x hx
            rcases List.mem_append.1 hx with h | h
            · exact HALL.out x h
            · rw [List.mem_singleton.1 h, ← HS5.out]; exact HSY.out
          · rw [HST.out, stepE_pred _ _ _ _ _ h2, ← HSEL.out, ← HS5.out, ← HK1.out]
            exact HE8.out.set9 (by omega) (by omega) (by omega) i kk
          · exact Nat.le_trans HSW.out hc9.size
          · rw [HST.out, stepE_pred _ _ _ _ _ h2, ← HSEL.out, ← HS5.out, ← HK3.out, ← HK2.out]
            refine ⟨F', HPT.out.wr.chg ((Chg.refl (fun q => q = p9) W8).setCell (p := ⟨p9, i % 2, none⟩) (.inl rfl) _) (by omega) (fun k hk => ?_), fun k hk => ?_⟩
            all_goals
              rcases HPT.out.row with h | ⟨b, h, hb⟩
              · rw [h] at hk
                have := hFl k hk
                omega
              · rw [h] at hk
                injection hk with hk
                have := HC6.out.size
                have := HSW.out
                omega
          · refine HBE.out.trans (hc9.below (fun q hq => ?_) HBE.out.size)
            have := E6.out
            rcases hq with h | h | h | h
            · omega
            · omega
            · omega
            · have := hFl _ h.symm; omega
        · have HSY := hide hsy
          clear hsy
          gi_wp2_with fail
          refine ⟨trivial, (CallsIn.inRound q (callsIn_wide.2 HPUT.out)).mono ?_⟩
          rintro e W8 ⟨rfl, F', hpt⟩
          have hFl := HF5.out
          have hFx : ∀ k, some k = F → k < px := fun k hk => by rw [HPX.out]; exact (HW5.out.ltF k hk.symm).2.1
          have hpxl : W4.heap.size ≤ px := by rw [HPX.out]; exact HSW.out
          have hx8 := hpt.chg.heap HX7.out (fun h => by rcases h with h | h; omega; have := hFx _ h; omega)
          have hE8 := HE7.out.chg hpt.chg (fun h => by rcases h with h | h; omega; have := hFl _ h.symm; omega) (fun h => by rcases h with h | h; omega; have := hFl _ h.symm; omega) (fun h => by rcases h with h | h; omega; have := hFl _ h.symm; omega) (fun h => by rcases h with h | h; omega; have := hFl _ h.symm; omega)
          have hc8 : Chg (fun q => q = p7 ∨ q = pw ∨ some q = F) W W8 := (HC6.out.mono (T := fun q => q = p7 ∨ q = pw ∨ some q = F) (fun q h => .inl (.inl h))).trans hpt.chg (fun q h => .inl (.inr h))
          have y0 := cell_blk hx8 0
          have d7 := cell_blk hE8.h7 0
          have d9 : W8.cell? ⟨p9, r, none⟩ = some (.int .i64 (sel : Int)) := by
            have hr9 := HSELR.out
            rw [cell_blk hE8.h9 r, hr9]
            rcases (show r = 0 ∨ r = 1 by omega) with h | h <;> rw [h] <;> rfl
          have f9 := frozen_blk hE8.h9 r
          have n79 : p7 ≠ p9 := by omega
          have HE8 := hide hE8
          have HC8 := hide hc8
          have HPT := hide hpt
          clear hx8 hE8 hc8 hpt HPUT
          gi_wp2_with fail
          obtain ⟨X, hX⟩ : ∃ X, X = W8.setCell ⟨p9, r, none⟩ (.int .i64 (kk : Int)) := ⟨_, rfl⟩
          have hc : Chg (fun q => q = p9 ∨ q = p7 ∨ q = pw ∨ some q = F) W X := by
            rw [hX]
            exact (HC8.out.mono (T := fun q => q = p9 ∨ q = p7 ∨ q = pw ∨ some q = F) (fun q h => .inl (.inr h))).setCell (p := ⟨p9, r, none⟩) (.inl (.inl rfl)) _
          have x7 : X.heap[p7]? = some (.cells #[.int .i64 2] 29 (0, 0)) := by
            rw [hX]
            exact set_far HE8.out.h7 (p := ⟨p9, r, none⟩) n79 _
          have x4 := hc.heap ((HBE.out.block _ (lt_of_heap K4.out)).trans K4.out) (fun h => by rcases h with h | h | h | h; omega; omega; omega; have := hFl _ h.symm; omega)
          have x5 := hc.heap ((HBE.out.block _ (lt_of_heap K5.out)).trans K5.out) (fun h => by rcases h with h | h | h | h; omega; omega; omega; have := hFl _ h.symm; omega)
          have y7 := cell_blk x7 0
          have y4 := cell_blk x4 0
          have y5 := cell_blk x5 0
          have z4 := frozen_blk x4 0
          have z5 := frozen_blk x5 0
          have n45 : q4 ≠ q5 := by omega
          have n54 : q5 ≠ q4 := by omega
          have n74 : p7 ≠ q4 := by omega
          have n75 : p7 ≠ q5 := by omega
          have HXC := hide hc
          have HX4 := hide x4
          have HX5' := hide x5
          rw [← hX]
          clear hX hc x7 x4 x5 d7 d9 f9 y0 y1 y2 d8
          gi_region_with_o (fail)
          all_goals gi_wp2
          all_goals
            have hc9 : Chg (fun q => (q = p9 ∨ q = p7 ∨ q = pw ∨ some q = F) ∨ q = q4 ∨ q = q5) W ((X.setCell ⟨q4, 0, none⟩ (.slice none 0 0)).setCell ⟨q5, 0, none⟩ (.int .i64 2)).drew :=
              (((HXC.out.mono (T := fun q => (q = p9 ∨ q = p7 ∨ q = pw ∨ some q = F) ∨ q = q4 ∨ q = q5) (fun q h => .inl (.inl h))).setCell (p := ⟨q4, 0, none⟩) (.inl (.inr (.inl rfl))) _).setCell (p := ⟨q5, 0, none⟩) (.inl (.inr (.inr rfl))) _).drew
            refine ⟨keeps_chg hc9 (fun k hk => ?_), ⟨⟨rfl, ⟨⟨i, hxi⟩, ?_⟩, ?_, ?_⟩, ?_⟩⟩
            · rcases hk with (h | h | h | h) | h | h
              · exact .inl (by omega)
              · exact .inl (by omega)
              · exact .inl (by omega)
              · exact .inr (HW5.out.cellsF h.symm)
              · exact .inl (by omega)
              · exact .inl (by omega)
            · rw [← HS5.out]; exact HSY.out
            · exact set_far (set_blk HX4.out 0 (.slice none 0 0)) (p := ⟨q5, 0, none⟩) n45 (.int .i64 2)
            · exact set_blk (set_far HX5'.out (p := ⟨q4, 0, none⟩) n54 (.slice none 0 0)) 0 (.int .i64 2)
            · refine (HBW.out.trans (HBE.out.mono HBW.out.size)).trans (hc9.below (fun q hq => ?_) (Nat.le_trans HBW.out.size HBE.out.size))
              rcases hq with (h | h | h | h) | h | h
              · omega
              · omega
              · omega
              · have := hFl _ h.symm; omega
              · omega
              · omega
  case done =>
    rintro D ys W hD hys ⟨⟨hall, hEB, hsW, F, hWr, hF⟩, hbel⟩ hK
    have hall2 : ∀ s ∈ S, hasS zs s := by
      intro s hs
      obtain ⟨i, hi, rfl⟩ := List.getElem_of_mem hs
      have hm := visB_mem hi
      rw [← hys] at hm
      obtain ⟨x, hx, hxi⟩ := List.mem_map.1 hm
      have h := hall x hx
      rw [hxi, List.getD_eq_getElem?_getD, List.getElem?_eq_getElem hi] at h
      exact h
    have hok := encG_ok (S := S) HT.out (visB S.length S.length) (fun i hi => by
      have hi' := mem_visB (Nat.le_refl _) hi
      rw [List.getD_eq_getElem?_getD, List.getElem?_eq_getElem hi']
      exact hall2 _ (List.getElem_mem hi'))
    rw [hys] at hEB hWr
    rw [encG_all] at hEB hWr hok
    obtain ⟨⟨ht0, ht1, hN⟩, hTl⟩ := hok
    have hTl2 : (encF l zs S).2.2.1 ≤ 131072 * 9 := by
      have hl9 : l ≤ 9 := by have := HT.out.1; omega
      have e : (visB S.length S.length).length = S.length := by simp [visB]
      rw [e] at hTl
      exact Nat.le_trans hTl (Nat.mul_le_mul hns hl9)
    have hfin := outG_fin l zs S
    obtain ⟨st, hst⟩ : ∃ st, st = encF l zs S := ⟨_, rfl⟩
    rw [← hst] at hEB hWr hfin ht0 ht1 hN hTl2
    obtain ⟨M, hM⟩ : ∃ M, M = min S.length 2 := ⟨_, rfl⟩
    have hMi : min (S.length : Int) 2 = (M : Int) := by omega
    have hM2 : M ≤ 2 := by omega
    have hM2i : (M : Int) ≤ 2 := by omega
    rw [← hM] at hfin
    have k3 := (hbel.block _ (lt_of_heap K3.out)).trans K3.out
    have d3 := cell_blk k3 0
    have HEB9 := hide hEB
    have HWR9 := hide hWr
    have HSW9 := hide hsW
    have HF9 := hide hF
    have HBE9 := hide hbel
    have HK9 := hide hK
    have HALL9 := hide hall2
    have HFIN := hide hfin
    have HMM := hide hM
    have HD9 := hide hD
    clear hEB hWr hsW hF hbel hK hall hall2 hfin hM hD hys hTl hst k3
    gi_wp2_with fail
    refine ⟨trivial, (back_in (n - 1) (some ⟨p9, 0, none⟩) M 2 W).mono ?_⟩
    rintro e Y ⟨rfl, hY⟩
    obtain ⟨pc, hpc⟩ : ∃ pc, pc = W.heap.size := ⟨_, rfl⟩
    have bY : Below W.heap.size W Y := by rw [hY]; exact (Below.refl _ _).alloc (Nat.le_refl _) _
    have kc : Y.heap[pc]? = some (.cells #[.slice (some ⟨p9, 0, none⟩) M 2] 24 (0, 0)) := by rw [hY, hpc]; exact heap_alloc_new W _
    have hsY : Y.heap.size = pc + 1 := by rw [hY, hpc]; simp
    have hEY := HEB9.out.chg (Chg.of_below (S := fun _ => False) bY) (fun h => h) (fun h => h) (fun h => h) (fun h => h)
    have hWY := HWR9.out.below bY
    have hKY := (bY.block D (lt_of_heap HK9.out)).trans HK9.out
    have hBY := HBE9.out.trans (bY.mono HBE9.out.size)
    obtain ⟨S2, hS2⟩ : ∃ S2 : List Int, S2 = [(st.1 : Int), (st.2.1 : Int)].take M := ⟨_, rfl⟩
    have hS2l : M = S2.length := by rw [hS2, List.length_take]; simp; omega
    have hrdY : Reads Y Y.heap.size 1 (some ⟨p9, 0, none⟩) M (intsV S2) := by
      have h1 : Reads Y Y.heap.size 1 (some ⟨p9, 0, none⟩) 2 [.int .i64 st.1, .int .i64 st.2.1] := reads_blk hEY.h9 rfl
      have h2 := h1.head hM2
      rw [Nat.mul_one] at h2
      have e : intsV S2 = [Value.int .i64 (st.1 : Int), .int .i64 (st.2.1 : Int)].take M := by rw [hS2]; simp [intsV, List.map_take]
      rw [e]
      exact h2
    have hval : ∀ x : Ix M, S2.getD x.1 0 = (([st.1, st.2.1].getD x.1 0 : Nat) : Int) := by
      rintro ⟨x, hx⟩
      rw [hS2, List.getD_eq_getElem?_getD, List.getElem?_take, if_pos hx]
      rcases (show x = 0 ∨ x = 1 by omega) with rfl | rfl <;> rfl
    have HEY := hide hEY
    have HWY := hide hWY
    have HKY := hide hKY
    have HBY := hide hBY
    have HKC := hide kc
    have HRY := hide hrdY
    have HVAL := hide hval
    have hdl : D < pc := by rw [hpc]; exact lt_of_heap HK9.out
    have hpcs : W4.heap.size ≤ pc := by rw [hpc]; exact HSW9.out
    have hps := hBY.size
    have hp := HP.out
    rw [← hpc]
    have HS2L := hide hS2l
    have HBYE := hide bY
    have HPC := hide hpc
    clear hY kc hEY hWY hKY hBY hS2 hrdY hval d3 bY hpc
    gi_wp2
    refine wpIn_rangeFunc_ownG rfl h1n (gf := 55) (lb := #[.pointer (some ⟨pc, 0, none⟩)]) rfl trivial (enters_of Try.func55 (by kernel_rfl) rfl)
      (back_seq (n - 1) (by omega) pc M 2 (some ⟨p9, 0, none⟩) S2 HS2L.out (by omega) Y HKC.out HRY.out) (fun h h' => h.trans h') (fun W q o o' hq hW hnc hnw => ⟨World.putObj_heap_other (by omega), fun ad e hm => World.putObj_heap_other (by injection e with e; subst e; show p9 ≠ q; omega)⟩) (Below.refl _ _) (fun _ => rfl)
      (EncJ W1 D pc p6 p7 pw p8 p9 g W4.heap.size l [st.1, st.2.1] st.2.2.1 st.2.2.2 M)
      (fun _ _ _ => False)
      (EncJ.own _ _ _ _ _ _ _ _ _ _ _ _ _ _ _ _ (by omega) (by omega))
      (fun _ _ _ _ _ hs _ _ => hs)
      ⟨⟨HEY.out, HKY.out, by omega, F, HWY.out, fun k hk => ⟨HF9.out k hk, by have := (HWR9.out.ltF k hk).2.1; have := HPC.out; omega⟩⟩, HBY.out⟩
      ?b1 ?assign2 ?body2 ?done2 ?stop2
    case assign2 =>
      intro q x W K hK
      gi_wp2
      exact hK
    case stop2 =>
      rintro D2 cd pre W _ _ h _
      exact h.elim
    case body2 =>
      rintro q pre x Z ⟨⟨hEB, hKZ, hsZ, F2, hWr, hF⟩, hbel⟩ hlt
      have hvx := HVAL.out x
      have hvd : (S2[x.1]?.getD 0) = (([st.1, st.2.1].getD x.1 0 : Nat) : Int) := by rw [← hvx, List.getD_eq_getElem?_getD]
      have hsn : outG l [st.1, st.2.1] st.2.2.1 st.2.2.2 ((pre ++ [x]).map Subtype.val) = ((outG l [st.1, st.2.1] st.2.2.1 st.2.2.2 (pre.map Subtype.val)).1 + l, (outG l [st.1, st.2.1] st.2.2.1 st.2.2.2 (pre.map Subtype.val)).2 + [st.1, st.2.1].getD x.1 0 * 2 ^ (outG l [st.1, st.2.1] st.2.2.1 st.2.2.2 (pre.map Subtype.val)).1) := by rw [List.map_append]; exact outG_snoc _ _ _ _ _ _
      have hlen := outG_len l [st.1, st.2.1] st.2.2.1 st.2.2.2 (pre.map Subtype.val)
      rw [List.length_map] at hlen
      have hl9 : l ≤ 9 := by have := HT.out.1; omega
      have hTb : (outG l [st.1, st.2.1] st.2.2.1 st.2.2.2 (pre.map Subtype.val)).1 ≤ 2000000 := by
        rw [hlen]
        have := Nat.mul_le_mul (show pre.length ≤ 2 by omega) hl9
        omega
      obtain ⟨og, hog⟩ : ∃ og, og = outG l [st.1, st.2.1] st.2.2.1 st.2.2.2 (pre.map Subtype.val) := ⟨_, rfl⟩
      rw [← hog] at hWr hsn hTb
      obtain ⟨i, hxi⟩ := x
      obtain ⟨v, hv⟩ : ∃ v, v = [st.1, st.2.1].getD i 0 := ⟨_, rfl⟩
      have hvl : v < 2 ^ l := by
        rw [hv]
        rcases (show i = 0 ∨ i = 1 by omega) with rfl | rfl
        · exact ht0
        · exact ht1
      have h29 : 2 ^ l ≤ 2 ^ 9 := Nat.pow_le_pow_right (by omega) hl9
      have hwv : IntKind.u64.wrap (v : Int) = (v : Int) := by rw [IntKind.wrap_u64]; omega
      simp only [] at hvd hsn
      rw [← hv] at hvd hsn
      simp only [hvd]
      have hco := HCO.out.below hbel
      have HLOG := hide (log_any (W := Z.drew) hco hl9)
      have hput := put_any (v : Int) (l : Int) Z.drew (hWr : Wr Z.drew pw pw F2 og.1 og.2) (by omega) (by omega) (by omega) (by simpa using hvl) (by omega) (by show pw ≤ Z.heap.size; omega)
      simp only [Int.toNat_natCast] at hput
      have HPUT := hide hput
      have d6 := cell_blk hEB.h6 0
      have d8 := cell_blk hEB.h8 0
      have hmo : Try.prog.follows .mixedOrders = true := by kernel_rfl
      have h1n2 : 1 ≤ n - 1 - 1 := by omega
      have HEB5 := hide hEB
      have HW5 := hide hWr
      have HF5 := hide hF
      have HBE5 := hide hbel
      have HSZ5 := hide hsZ
      have HKZ5 := hide hKZ
      have HSN := hide hsn
      clear hEB hWr hF hbel hsZ hKZ hsn hco hput hvd hvx hog hv hvl h29 hlen hTb
      gi_wp2_with fail
      apply absorb (C := fun W' => ∃ F', PutTo Z.drew W' pw pw F2 F' (og.1 + l) (og.2 + v * 2 ^ og.1))
      case h =>
        intro hK
        have HK := hide hK
        clear hK
        gi_region_with_o (first
          | (refine ⟨trivial, ?_⟩; gi_at_call 36; refine (CallsIn.inRound q (callsIn_wide.2 HLOG.out)).mono ?_; rintro e W' ⟨rfl, rfl⟩)
          | (refine ⟨trivial, ?_⟩; gi_at_call 35; refine (CallsIn.inRound q (callsIn_wide.2 HPUT.out)).mono ?_; rintro e W' ⟨rfl, hpu⟩; have HPU := hide hpu; clear hpu))
        all_goals exact HK.out _ HPU.out
      case k =>
        rintro W' ⟨F', hpt⟩
        have hp := HP.out
        have hc : Chg (fun b => b = pw ∨ some b = F2) Z W' := (Chg.refl _ Z).drew.trans hpt.chg (fun b h => .inl h)
        have hpc9 := HSZ5.out
        have hFl := HF5.out
        have hDne : ∀ k, some k = F2 → k ≠ D := fun k hk e => by
          obtain ⟨cs, t, f, h⟩ := HW5.out.cellsF hk.symm
          rw [e, HKZ5.out] at h
          cases h
        have hE' := HEB5.out.chg hc (fun h => by rcases h with h | h; omega; have := hFl _ h.symm; omega) (fun h => by rcases h with h | h; omega; have := hFl _ h.symm; omega) (fun h => by rcases h with h | h; omega; have := hFl _ h.symm; omega) (fun h => by rcases h with h | h; omega; have := hFl _ h.symm; omega)
        have hD4 := HD9.out
        gi_wp2
        refine ⟨keeps_chg hc (fun k hk => ?_), ⟨hc.block pc (by omega) (fun h => ?_), fun ad e hm => hc.block _ ?_ ?_⟩, ⟨⟨hE', (hc.block D (lt_of_heap HKZ5.out) (fun h => ?_)).trans HKZ5.out, Nat.le_trans hpc9 hc.size, F', ?_, ?_⟩, ?_⟩⟩
        · rcases hk with rfl | hk
          · exact .inl (by omega)
          · exact .inr (HW5.out.cellsF hk.symm)
        · rcases h with h | h
          · omega
          · exact (hFl _ h.symm).2 rfl
        · injection e with e
          subst e
          show p9 < Z.heap.size
          omega
        · injection e with e
          subst e
          intro h
          have h : p9 = pw ∨ some p9 = F2 := h
          rcases h with h | h
          · omega
          · have := hFl _ h.symm; omega
        · rcases h with h | h
          · omega
          · exact hDne _ h rfl
        · rw [HSN.out]
          exact hpt.wr
        · intro k hk
          rcases hpt.row with h | ⟨b, h, hb⟩
          · rw [h] at hk
            exact hFl k hk
          · rw [h] at hk
            injection hk with hk
            subst hk
            have hb : Z.heap.size ≤ b := hb
            exact ⟨by omega, by omega⟩
        · exact HBE5.out.trans (hc.below (fun b hb => by
            have := E6.out
            rcases hb with h | h
            · omega
            · have := hFl _ h.symm; omega) HBE5.out.size)
    case done2 =>
      rintro D2 ys Z hD2 hys ⟨⟨hEB, hKZ, hsZ, F2, hWr, hF⟩, hbel⟩ hK2
      rw [hys, HFIN.out] at hWr
      have hfl := (finN_lt HT.out HALL9.out).2
      have hl9 : l ≤ 9 := by have := HT.out.1; omega
      have hTb : finT l zs S ≤ 2000000 := by
        have := Nat.mul_le_mul hl9 hns
        omega
      have HCLO := hide (close_of Z hWr (by show finT l zs S ≤ 7000000000; omega))
      have d8 := cell_blk hEB.h8 0
      have k4 := (hbel.block _ (lt_of_heap K4.out)).trans K4.out
      have k5 := (hbel.block _ (lt_of_heap K5.out)).trans K5.out
      have HK4 := hide k4
      have HK5 := hide k5
      have HKD := hide hKZ
      have HK2 := hide hK2
      have HBZ := hide (HBW.out.trans (hbel.mono HBW.out.size))
      have hD12 : D ≠ D2 := by omega
      have hDl : w.heap.size ≤ D ∧ w.heap.size ≤ D2 := by have := HQ.out; have := HD9.out; omega
      clear hEB hWr hF hfl hTb k4 k5 hKZ hK2 hbel hys
      gi_wp2_with fail
      refine ⟨trivial, (callsIn_wide.2 HCLO.out).mono ?_⟩
      rintro e Z2 ⟨u, rfl, ho, bz⟩
      obtain ⟨A2, c2, rfl⟩ := own_form ho
      have k4 := (bz.block _ (lt_of_heap HK4.out)).trans HK4.out
      have k5 := (bz.block _ (lt_of_heap HK5.out)).trans HK5.out
      have c4 := cell_blk k4 0
      have f4 := frozen_blk k4 0
      have c5 := cell_blk k5 0
      have f5 := frozen_blk k5 0
      have hq := HQ.out
      have n45 : q4 ≠ q5 := by omega
      have n54 : q5 ≠ q4 := by omega
      have X4 := hide k4
      have X5 := hide k5
      have XD := hide ((bz.block _ (lt_of_heap HKD.out)).trans HKD.out)
      have X2 := hide ((bz.block _ (lt_of_heap HK2.out)).trans HK2.out)
      have XO := hide ho
      have XB := hide (HBZ.out.trans (bz.mono HBZ.out.size))
      have hlz := ho.lt
      have HLZ := hide hlz
      have hzs := HBZ.out.size
      clear k4 k5 bz ho hlz HK4 HK5 HKD HK2 HBZ HCLO
      gi_wp2
      obtain ⟨nb, hnb⟩ : ∃ nb, nb = (pack (finT l zs S + 1) (finN l zs S + 2 ^ finT l zs S)).length := ⟨_, rfl⟩
      rw [← hnb] at XO HLZ ⊢
      obtain ⟨Z3, hZ3⟩ : ∃ Z3, Z3 = (Z2.setCell ⟨q4, 0, none⟩ (.slice A2 nb c2)).setCell ⟨q5, 0, none⟩ (.int .i64 0) := ⟨_, rfl⟩
      rw [← hZ3]
      have hc3 : Chg (fun q => q = q4 ∨ q = q5) Z2 Z3 := by
        rw [hZ3]
        exact ((Chg.refl (fun q => q = q4 ∨ q = q5) Z2).setCell (p := ⟨q4, 0, none⟩) (.inl (.inl rfl)) _).setCell (p := ⟨q5, 0, none⟩) (.inl (.inr rfl)) _
      have y4 : Z3.heap[q4]? = some (.cells #[.slice A2 nb c2] 22 (0, 0)) := by
        rw [hZ3]
        exact set_far (set_blk X4.out 0 _) (p := ⟨q5, 0, none⟩) n45 _
      have y5 : Z3.heap[q5]? = some (.cells #[.int .i64 0] 29 (0, 0)) := by
        rw [hZ3]
        exact set_blk (set_far X5.out (p := ⟨q4, 0, none⟩) n54 _) 0 _
      have hp := HP.out
      have hD4 := HD9.out
      have hDn : ¬ (D = q4 ∨ D = q5) := by omega
      have hDn2 : ¬ (D2 = q4 ∨ D2 = q5) := by omega
      have yD := hc3.heap XD.out hDn
      have yD2 := hc3.heap X2.out hDn2
      have yO := own_chg XO.out hc3 (fun q h1 h2 => by have := (HLZ.out q h1).1; have := HBYE.out.size; have := hsZ; omega)
      have yB := XB.out.trans (hc3.below (B := w.heap.size) (fun q h => by omega) XB.out.size)
      have YB := hide yB
      clear hZ3 hc3 X4 X5 XD X2 XO XB c4 c5 f4 f5
      obtain ⟨Z4, hZ4⟩ : ∃ Z4, Z4 = Z3.putObj D2 (.deferred none) := ⟨_, rfl⟩
      have hk2 : ∀ r, some D2 = some r → ∃ o : Obj, Z3.heap[r]? = some o ∧ o.isCells = false := fun r e => by
        injection e with e
        subst e
        exact ⟨_, yD2, rfl⟩
      have v4 := kept_cells (grownBy_putObj' Z3 D2 (.deferred none)) hk2 y4
      have v5 := kept_cells (grownBy_putObj' Z3 D2 (.deferred none)) hk2 y5
      have vD : Z4.heap[D]? = some (.deferred (some [])) := by rw [hZ4]; exact (World.putObj_heap_other hD12).trans yD
      refine ⟨by simp, .inl ⟨_, _, rfl, run_takeDeferred yD2, ?_⟩⟩
      rw [← hZ4] at v4 v5 ⊢
      have vO := yO.kept (grownBy_putObj' Z3 D2 (.deferred none)) (.inr (fun e => by have := (yO.lt D2 e).2; have h := (yO.lt D2 e).1; exact absurd (own_heap yO e) (by rintro ⟨cs', hcs'⟩; rw [yD2] at hcs'; cases hcs')))
      rw [← hZ4] at vO
      have vB : Below w.heap.size w Z4 := by
        rw [hZ4]
        exact YB.out.trans (belowK_b (n₀ := w.heap.size) (w := w) (Nat.le_refl _) Z3 D2 _ _ hDl.2 yD2 rfl rfl)
      have hk1 : ∀ r, some D = some r → ∃ o : Obj, Z4.heap[r]? = some o ∧ o.isCells = false := fun r e => by
        injection e with e
        subst e
        exact ⟨_, vD, rfl⟩
      refine ⟨by simp, .inl ⟨_, _, rfl, run_takeDeferred vD, ?_⟩⟩
      refine ⟨_, res_two rfl rfl (kept_cells (grownBy_putObj' _ D _) hk1 v4) (kept_cells (grownBy_putObj' _ D _) hk1 v5) rfl, .inl ⟨HALL9.out, _, rfl, ?_, ?_⟩⟩
      · refine own_base (vO.kept (grownBy_putObj' _ D _) (.inr (fun e => ?_))) (fun q hq => by have := (vO.lt q hq).1; omega)
        obtain ⟨cs', hcs'⟩ := own_heap vO e
        rw [vD] at hcs'
        cases hcs'
      · exact vB.trans (belowK_b (n₀ := w.heap.size) (w := w) (Nat.le_refl _) Z4 D _ _ hDl.1 vD rfl rfl)
end Go.Proofs.Ytohgnohifojdbaa
