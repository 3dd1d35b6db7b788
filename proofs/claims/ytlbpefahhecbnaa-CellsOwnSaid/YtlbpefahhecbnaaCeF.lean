/- portmanteauref09.One walked. -/
import Derived.Test.YtlbpefahhecbnaaCeE
namespace Go.Proofs.Ytlbpefahhecbnaa
open Go.RowKit Go
set_option linter.unusedVariables false

theorem oneL_take {s j : Nat} (hj : j ≤ s) : (oneL s).take (j + 1) = (oneL s).take j ++ [if j = s then 1 else 0] := by
  rw [List.take_add_one]
  congr 1
  unfold oneL
  by_cases h : j = s
  · subst h
    simp
  · have : j < s := by omega
    rw [List.getElem?_append_left (by simpa using this), if_neg h]
    simp [this]
theorem oneL_all (s : Nat) : (oneL s).take (s + 1) = oneL s := List.take_of_length_le (by rw [oneL_length]; exact Nat.le_refl _)

set_option maxRecDepth 4000 in
set_option maxHeartbeats 4000000 in
theorem one_any (s : Nat) (w : World) (h : s ≤ 255) :
    Calls Try.prog 23 #[.int .i64 (s : Int)] w fun e w' => ∃ v, e = .returned (.agg #[.int .i64 0, v]) ∧ w'.ownsRow w.heap.size 3 1 v (s + 1) ((oneL s).map (Value.int .i64)) ∧ Below w.heap.size w w' := by
  obtain ⟨i0, hi, hz0, hz1, hz2⟩ := info_parts info_int
  obtain ⟨W0, hW0⟩ : ∃ W0, W0 = (w.alloc (.cells #[.int .i64 0, .slice none 0 0] 24 (0, 0))).alloc (.cells #[.int .i64 0, .slice none 0 0] 24 (0, 0)) := ⟨_, rfl⟩
  have b0 : Below w.heap.size w W0 := by rw [hW0]; exact ((Below.refl w.heap.size w).alloc (Nat.le_refl _) _).alloc (by simp) _
  have s0 : W0.heap.size = w.heap.size + 1 + 1 := by rw [hW0]; simp
  have g1 : W0.heap[w.heap.size]? = some (.cells #[.int .i64 0, .slice none 0 0] 24 (0, 0)) := by rw [hW0]; exact heap_alloc2_old w _ _
  have g2 : W0.heap[w.heap.size + 1]? = some (.cells #[.int .i64 0, .slice none 0 0] 24 (0, 0)) := by rw [hW0]; exact heap_alloc2_new w _ _
  have f1 := frozen_blk g2 0
  have f2 := frozen_blk g2 1
  have HB := hide b0
  have HG1 := hide g1
  have HG2 := hide g2
  have HS0 := hide s0
  have HW0 := hide hW0
  clear b0 s0 hW0 g1 g2
  go_enter Try.func23, Try.ntmps23
  go_wp2
  rw [← HW0.out]
  go_loopw [4, 5] (fun i n wr => ∃ (j : Nat) (v : Value), j ≤ s + 1 ∧ i = .int .i64 j ∧ wr.heap[w.heap.size]? = some (.cells #[.int .i64 0, .slice none 0 0] 24 (0, 0)) ∧ wr.heap[w.heap.size + 1]? = some (.cells #[.int .i64 0, v] 24 (0, 0)) ∧ wr.ownsRow (w.heap.size + 2) 3 1 v j (((oneL s).take j).map (Value.int .i64)) ∧ Below w.heap.size w wr ∧ w.heap.size + 2 ≤ wr.heap.size) (fun i _ _ => s + 1 - (intOf i).toNat)
  case atStart => exact ⟨0, _, Nat.zero_le _, rfl, HG1.out, HG2.out, World.ownsRow_nil _ _ _ _, HB.out, by have := HS0.out; omega⟩
  case round =>
    obtain ⟨j, v, hj, rfl, y1, y2, hown, hb, hsz⟩ := hrel
    obtain ⟨A, c, rfl⟩ := own_form hown
    have HY1 := hide y1
    have HY2 := hide y2
    have HO := hide hown
    have HBE := hide hb
    have HSZ := hide hsz
    by_cases hlt : j ≤ s
    · have k1 := cell_blk y2 1
      have hjs : (j : Int) ≤ (s : Int) := by omega
      obtain ⟨n, hn⟩ : ∃ n, n = (if j = s then (1 : Int) else 0) := ⟨_, rfl⟩
      have e1 := oneL_take hlt
      rw [← hn] at e1
      have HE := hide e1
      have HN := hide hn
      clear hown hb hsz y1 y2 e1 hn
      have hcase : (j = s ∧ n = 1) ∨ (j ≠ s ∧ n = 0) := by
        have := HN.out
        by_cases hjj : j = s
        · exact .inl ⟨hjj, by rw [this, if_pos hjj]⟩
        · exact .inr ⟨hjj, by rw [this, if_neg hjj]⟩
      rcases hcase with ⟨hjs', hn⟩ | ⟨hjs', hn⟩
      · have hq : ((j : Int) == (s : Int)) = true := by simp; omega
        subst hn
        clear hjs'
        go_wp2_with ((at_builtin; refine wpList_append_any _ rfl (.tmp 16) (.tmp 18) _ rfl (w.heap.size + 2) 3 i0 _ 1 8 Try.underlying22 hi hz0 hz1 hz2 rfl Nat.zero_lt_one (.slice A j c) j _ rfl (HO.out.alloc _) (wr.heap.size + 1) (some ⟨wr.heap.size, 0, none⟩) 1 1 [.int .i64 1] rfl (reads_new wr _ _) (by simp [Value.oneCell']) (by unfold maxLen; omega) (by omega) (by have := HSZ.out; simp; omega) ?_; intro v3 w3 hown3 hg3 hat3; have hl1 := lt_of_heap HY2.out; have hlow := HO.out.lt; have h3 := (hg3.block (w.heap.size + 1) (by simp; omega) (by intro he; have := (hlow _ he.symm).1; omega)).trans (alloc_far HY2.out _); have h4 := (hg3.block w.heap.size (by simp; omega) (by intro he; have := (hlow _ he.symm).1; omega)).trans (alloc_far HY1.out _); have m0 := cell_blk h3 1; have m1 := frozen_blk h3 1; simp only [List.getElem?_toArray, List.getElem?_cons_zero, List.getElem?_cons_succ] at m0; obtain ⟨A4, c4, rfl⟩ := own_form hown3; have HH3 := hide h3; have HH4 := hide h4; have HO3 := hide hown3; have hg3' := hide hg3; clear hown3 hat3 h3 h4 hg3 hl1))
        go_roundw
        case rel =>
          have hlow3 := HO3.out.lt
          refine ⟨j + 1, _, by omega, by go_num, set_far HH4.out (by show w.heap.size ≠ w.heap.size + 1; omega) _, set_blk HH3.out 1 _, ?_, ?_, ?_⟩
          · have h := ownsRow_setCell_other HO3.out (a := ⟨w.heap.size + 1, 1, none⟩) (by intro he; have := (hlow3 _ he).1; simp at this) (.slice A4 (j + 1) c4)
            rw [← List.map_singleton, ← List.map_append, ← HE.out] at h
            exact h
          · have hc : Chg (fun q => w.heap.size ≤ q) wr w3 := Chg.grown ((Chg.refl (fun q => w.heap.size ≤ q) wr).alloc _) hg3'.out (fun q hq => .inl (by have := (hlow q hq).1; omega))
            exact (HBE.out.trans (hc.below (fun _ h => h) (by have := HSZ.out; omega))).setCell (by show w.heap.size ≤ w.heap.size + 1; omega) _
          · have h1 := hg3'.out.size
            have := HSZ.out
            simp [World.setCell] at h1 ⊢
            omega
        case measure => simp [intOf]; omega
      · have hq : ((j : Int) == (s : Int)) = false := by simp; omega
        subst hn
        clear hjs'
        go_wp2_with ((at_builtin; refine wpList_append_any _ rfl (.tmp 16) (.tmp 18) _ rfl (w.heap.size + 2) 3 i0 _ 1 8 Try.underlying22 hi hz0 hz1 hz2 rfl Nat.zero_lt_one (.slice A j c) j _ rfl (HO.out.alloc _) (wr.heap.size + 1) (some ⟨wr.heap.size, 0, none⟩) 1 1 [.int .i64 0] rfl (reads_new wr _ _) (by simp [Value.oneCell']) (by unfold maxLen; omega) (by omega) (by have := HSZ.out; simp; omega) ?_; intro v3 w3 hown3 hg3 hat3; have hl1 := lt_of_heap HY2.out; have hlow := HO.out.lt; have h3 := (hg3.block (w.heap.size + 1) (by simp; omega) (by intro he; have := (hlow _ he.symm).1; omega)).trans (alloc_far HY2.out _); have h4 := (hg3.block w.heap.size (by simp; omega) (by intro he; have := (hlow _ he.symm).1; omega)).trans (alloc_far HY1.out _); have m0 := cell_blk h3 1; have m1 := frozen_blk h3 1; simp only [List.getElem?_toArray, List.getElem?_cons_zero, List.getElem?_cons_succ] at m0; obtain ⟨A4, c4, rfl⟩ := own_form hown3; have HH3 := hide h3; have HH4 := hide h4; have HO3 := hide hown3; have hg3' := hide hg3; clear hown3 hat3 h3 h4 hg3 hl1))
        go_roundw
        case rel =>
          have hlow3 := HO3.out.lt
          refine ⟨j + 1, _, by omega, by go_num, set_far HH4.out (by show w.heap.size ≠ w.heap.size + 1; omega) _, set_blk HH3.out 1 _, ?_, ?_, ?_⟩
          · have h := ownsRow_setCell_other HO3.out (a := ⟨w.heap.size + 1, 1, none⟩) (by intro he; have := (hlow3 _ he).1; simp at this) (.slice A4 (j + 1) c4)
            rw [← List.map_singleton, ← List.map_append, ← HE.out] at h
            exact h
          · have hc : Chg (fun q => w.heap.size ≤ q) wr w3 := Chg.grown ((Chg.refl (fun q => w.heap.size ≤ q) wr).alloc _) hg3'.out (fun q hq => .inl (by have := (hlow q hq).1; omega))
            exact (HBE.out.trans (hc.below (fun _ h => h) (by have := HSZ.out; omega))).setCell (by show w.heap.size ≤ w.heap.size + 1; omega) _
          · have h1 := hg3'.out.size
            have := HSZ.out
            simp [World.setCell] at h1 ⊢
            omega
        case measure => simp [intOf]; omega
    · obtain rfl : j = s + 1 := by omega
      have k0 := cell_blk y2 0
      have k1 := cell_blk y2 1
      have u0 := cell_blk y1 0
      have u1 := cell_blk y1 1
      have u1' := cell_blk (set_blk y1 0 (.int .i64 0)) 1
      have q0 := frozen_blk y1 0
      have q1 := frozen_blk y1 1
      have q1' : (wr.setCell ⟨w.heap.size, 0, none⟩ (.int .i64 0)).frozen? ⟨w.heap.size, 1, none⟩ = false := frozen_blk (set_blk y1 0 _) 1
      have z0 := cell_blk (set_blk (set_blk y1 0 (.int .i64 0)) 1 (.slice A (s + 1) c)) 0
      have z1 := cell_blk (set_blk (set_blk y1 0 (.int .i64 0)) 1 (.slice A (s + 1) c)) 1
      have hlow := hown.lt
      have ho2 := hide (ownsRow_setCell_other (ownsRow_setCell_other hown (a := ⟨w.heap.size, 0, none⟩) (by intro he; have : w.heap.size + 2 ≤ w.heap.size := (hlow _ he).1; omega) (.int .i64 0)) (a := ⟨w.heap.size, 1, none⟩) (by intro he; have : w.heap.size + 2 ≤ w.heap.size := (hlow _ he).1; omega) (.slice A (s + 1) c))
      clear hown hb hsz y1 y2 hlow
      go_wp2
      refine bodyPost_ret (v := .agg #[.int .i64 0, .slice A (s + 1) c]) ?_ rfl ⟨_, rfl, ?_, ?_⟩
      · simp only [results, Try.results23, go_sem]
        simp [z0, z1, go_sem]
      · have h := ho2.out
        rw [oneL_all] at h
        exact own_base h (fun q hq => by have := (h.lt q hq).1; omega)
      · exact (HBE.out.setCell (Nat.le_refl _) _).setCell (Nat.le_refl _) _
end Go.Proofs.Ytlbpefahhecbnaa
