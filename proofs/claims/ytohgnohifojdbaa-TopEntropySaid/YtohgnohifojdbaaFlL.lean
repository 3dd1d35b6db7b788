/- flow.Encode walked. -/
import Derived.Test.YtohgnohifojdbaaFlJ
import Derived.Test.YtohgnohifojdbaaFlK
import Derived.Test.YtohgnohifojdbaaSt7
import Derived.Test.YtohgnohifojdbaaStD
import Derived.Test.YtohgnohifojdbaaOutM
namespace Go.Proofs.Ytohgnohifojdbaa
set_option maxRecDepth 8000
open Go.RowKit Go Go.Shelf
set_option linter.unusedVariables false
set_option maxRecDepth 8000
attribute [local go_sem] Oper.semAt_some

theorem upto_visB (m : Nat) (h0 : 1 ≤ m) : ∀ k, (upto (ixB m h0) k).map Subtype.val = visB m k
  | 0 => rfl
  | k + 1 => by rw [upto_succ, List.map_append, upto_visB m h0 k, visB_succ]; rfl

/-- slices.Backward's iterator, for any number of elements. -/
theorem back_seq (n : Nat) (hn : 2 ≤ n) (Bs m c : Nat) (A : Option Addr) (Ls : List Int) (hL : m = Ls.length) (hm : m ≤ 1000000) (w : World) (hc : w.heap[Bs]? = some (.cells #[.slice A m c] 24 (0, 0))) (hr : Reads w w.heap.size 1 A m (intsV Ls)) :
    SeqStopsK Fence.wide n Try.prog 55 #[.pointer (some ⟨Bs, 0, none⟩)] (fun x : Ix m => #[Value.int .i64 (x.1 : Int), Value.int .i64 (Ls.getD x.1 0)]) (KeepB Bs A m) (fun ys => ys.map Subtype.val = visB m m) (fun _ => True) m w := by
  rcases Nat.eq_zero_or_pos m with h0 | h0
  · subst h0
    intro l J Jx W hW _ _ _ h0J
    refine (back0_in n l Bs c A W ((hW.block Bs (lt_of_heap hc)).trans hc)).mono ?_
    rintro e W' ⟨hv, rfl⟩
    exact ⟨hv, .inl ⟨[], rfl, h0J⟩⟩
  · intro l J Jx W hW hJ hJx hY h0J
    refine (back_stops n hn Bs m c A Ls h0 hL hm w hc hr l J Jx W hW hJ hJx hY h0J).mono ?_
    rintro e W' ⟨hv, ⟨ys, rfl, h⟩ | h⟩
    · exact ⟨hv, .inl ⟨_, upto_visB m h0 m, h⟩⟩
    · exact ⟨hv, .inr h⟩

theorem kept_cells {W W' : World} {row : Option Nat} (hg : W.grownBy W' row) (hr : ∀ r, row = some r → ∃ o : Obj, W.heap[r]? = some o ∧ o.isCells = false) {k : Nat} {cs : Array Value} {t : TypeId} {f : Nat × Nat} (h : W.heap[k]? = some (.cells cs t f)) : W'.heap[k]? = some (.cells cs t f) := by
  refine (hg.block k (lt_of_heap h) (fun e => ?_)).trans h
  obtain ⟨o, ho, hc⟩ := hr k e.symm
  rw [h] at ho
  injection ho with ho
  subst ho
  cases hc
theorem Wr.kept {W W' : World} {row : Option Nat} (hg : W.grownBy W' row) (hr : ∀ r, row = some r → ∃ o : Obj, W.heap[r]? = some o ∧ o.isCells = false) {B g L N : Nat} {F : Option Nat} (h : Wr W B g F L N) : Wr W' B g F L N := by
  refine h.chg (Chg.of_grown hg) (fun e => ?_) (fun k hk e => ?_)
  · obtain ⟨bs, v, n, ⟨A, c, h1, _⟩, _⟩ := h
    obtain ⟨o, ho, hc⟩ := hr g e.symm
    rw [h1] at ho
    injection ho with ho
    subst ho
    cases hc
  · obtain ⟨bs, v, n, ⟨A, c, h1, h2, h3, h4, _⟩, _⟩ := h
    obtain ⟨cs, hcs⟩ := own_heap h3 (h4.trans hk)
    obtain ⟨o, ho, hc⟩ := hr k e.symm
    rw [hcs] at ho
    injection ho with ho
    subst ho
    cases hc

/-- Encode's boxes after states.New: the Coder's, the error's, the Writer's (of the Writer pw), the two states. -/
structure EncB (W : World) (p6 p7 pw p8 p9 g : Nat) (e : Int) (t0 t1 : Nat) : Prop where
  h6 : W.heap[p6]? = some (.cells #[.pointer (some ⟨g, 0, none⟩)] 71 (0, 0))
  h7 : W.heap[p7]? = some (.cells #[.int .i64 e] 29 (0, 0))
  h8 : W.heap[p8]? = some (.cells #[.pointer (some ⟨pw, 0, none⟩)] 54 (0, 0))
  h9 : W.heap[p9]? = some (.cells #[.int .i64 t0, .int .i64 t1] 79 (0, 0))
theorem EncB.kept {W W' : World} {row : Option Nat} (hg : W.grownBy W' row) (hr : ∀ r, row = some r → ∃ o : Obj, W.heap[r]? = some o ∧ o.isCells = false) {p6 p7 pw p8 p9 g t0 t1 : Nat} {e : Int} (h : EncB W p6 p7 pw p8 p9 g e t0 t1) : EncB W' p6 p7 pw p8 p9 g e t0 t1 :=
  ⟨kept_cells hg hr h.h6, kept_cells hg hr h.h7, kept_cells hg hr h.h8, kept_cells hg hr h.h9⟩
theorem EncB.chg {Q : Nat → Prop} {W W' : World} {p6 p7 pw p8 p9 g t0 t1 : Nat} {e : Int} (h : EncB W p6 p7 pw p8 p9 g e t0 t1) (hc : Chg Q W W') (n6 : ¬ Q p6) (n7 : ¬ Q p7) (n8 : ¬ Q p8) (n9 : ¬ Q p9) : EncB W' p6 p7 pw p8 p9 g e t0 t1 :=
  ⟨hc.heap h.h6 n6, hc.heap h.h7 n7, hc.heap h.h8 n8, hc.heap h.h9 n9⟩

/-- Between two rounds of Encode's first loop. -/
def EncI (Wc : World) (p6 p7 pw p8 p9 g B L : Nat) (zs S : List Int) (pre : List (Ix S.length)) (W : World) : Prop :=
  ((∀ x ∈ pre, hasS zs (S.getD x.1 0)) ∧ EncB W p6 p7 pw p8 p9 g 0 (encG L zs S (pre.map Subtype.val)).1 (encG L zs S (pre.map Subtype.val)).2.1 ∧ B ≤ W.heap.size ∧
    ∃ F, Wr W pw pw F (encG L zs S (pre.map Subtype.val)).2.2.1 (encG L zs S (pre.map Subtype.val)).2.2.2 ∧ ∀ k, F = some k → B ≤ k) ∧ Below Wc.heap.size Wc W
theorem EncI.own (Wc : World) (p6 p7 pw p8 p9 g B L B' : Nat) (zs S : List Int) (hB : Wc.heap.size ≤ B') : OwnFrom B' (EncI Wc p6 p7 pw p8 p9 g B L zs S) := by
  refine OwnFrom.and (fun pre W W' row hs hg hr => ?_) (ownFrom_below (Nat.le_refl _) hB)
  obtain ⟨h1, h2, h5, F, h3, h4⟩ := hs
  exact ⟨h1, h2.kept hg (fun r e => (hr r e).2), Nat.le_trans h5 hg.size, F, h3.kept hg (fun r e => (hr r e).2), h4⟩

/-- Encode left in a round: the two results; a symbol has no state. -/
def EncX (w : World) (b4 b5 : Nat) (zs S : List Int) (cd : Code) (pre : List (Ix S.length)) (W : World) : Prop :=
  (cd = .ret ∧ (∃ x : Ix S.length, ¬ hasS zs (S.getD x.1 0)) ∧ W.heap[b4]? = some (.cells #[.slice none 0 0] 22 (0, 0)) ∧ W.heap[b5]? = some (.cells #[.int .i64 2] 29 (0, 0))) ∧ Below w.heap.size w W
theorem EncX.own (w : World) (b4 b5 B' : Nat) (zs S : List Int) (cd : Code) (hB : w.heap.size ≤ B') : OwnFrom B' (EncX w b4 b5 zs S cd) := by
  refine OwnFrom.and (fun pre W W' row hs hg hr => ?_) (ownFrom_below (Nat.le_refl _) hB)
  obtain ⟨h1, h2, h3, h4⟩ := hs
  exact ⟨h1, h2, kept_cells hg (fun r e => (hr r e).2) h3, kept_cells hg (fun r e => (hr r e).2) h4⟩

/-- Between two rounds of Encode's second loop. -/
def EncJ (Wc : World) (D pc p6 p7 pw p8 p9 g B L : Nat) (tw : List Nat) (T N m : Nat) (pre : List (Ix m)) (W : World) : Prop :=
  (EncB W p6 p7 pw p8 p9 g 0 (tw.getD 0 0) (tw.getD 1 0) ∧ W.heap[D]? = some (.deferred (some [])) ∧ pc + 1 ≤ W.heap.size ∧
    ∃ F, Wr W pw pw F (outG L tw T N (pre.map Subtype.val)).1 (outG L tw T N (pre.map Subtype.val)).2 ∧ ∀ k, F = some k → B ≤ k ∧ k ≠ pc) ∧ Below Wc.heap.size Wc W
theorem EncJ.own (Wc : World) (D pc p6 p7 pw p8 p9 g B L B' : Nat) (tw : List Nat) (T N m : Nat) (hB : Wc.heap.size ≤ B') (hD : D < B') : OwnFrom B' (EncJ Wc D pc p6 p7 pw p8 p9 g B L tw T N m) := by
  refine OwnFrom.and (fun pre W W' row hs hg hr => ?_) (ownFrom_below (Nat.le_refl _) hB)
  obtain ⟨h2, hd, h5, F, h3, h4⟩ := hs
  refine ⟨h2.kept hg (fun r e => (hr r e).2), ?_, Nat.le_trans h5 hg.size, F, h3.kept hg (fun r e => (hr r e).2), h4⟩
  refine (hg.block D ?_ (fun e => by have := (hr D e.symm).1; omega)).trans hd
  rcases Nat.lt_or_ge D W.heap.size with h | h
  · exact h
  · rw [Array.getElem?_eq_none h] at hd; cases hd

theorem bad_pos {L : Nat} {zs : List Int} (hT : okT (L : Int) zs) {sym : Int} (hn : ¬ hasS zs sym) :
    sym < 0 ∨ (¬ sym < 0 ∧ (zs.length : Int) ≤ sym) ∨ (∃ v : Nat, sym = (v : Int) ∧ v < zs.length ∧ (posZ (spreadL (2 ^ L) zs) (v : Int) (2 ^ L)).length = 0) := by
  rcases has_cases sym (rfl : zs.length = zs.length) with (h | ⟨h, h'⟩ | ⟨v, rfl, hv, hz⟩) | ⟨v, z, rfl, hv, hz, hz0⟩
  · exact .inl h
  · exact .inr (.inl ⟨by omega, by omega⟩)
  · refine .inr (.inr ⟨v, rfl, by omega, ?_⟩)
    have hc := spreadL_count hT v (by omega)
    rw [normAt_of hz, show absZ 0 = 0 by decide] at hc
    rw [posZ_length, posN_count _ _ _ (by rw [spreadL_length]; exact Nat.le_refl _), List.take_of_length_le (by rw [spreadL_length]; exact Nat.le_refl _)]
    omega
  · exact absurd ⟨v, z, rfl, hz, hz0⟩ hn

theorem keeps_chg {Q : Nat → Prop} {W W' : World} {B : Nat} (h : Chg Q W W') (hQ : ∀ k, Q k → k < B ∨ ∃ cs t f, W.heap[k]? = some (.cells cs t f)) : KeepsFrom B W W' := by
  refine ⟨h.size, fun k o hB hk ho => (h.block k (lt_of_heap hk) (fun hq => ?_)).trans hk⟩
  rcases hQ k hq with h1 | ⟨cs, t, f, h1⟩
  · omega
  · rw [h1] at hk
    injection hk with hk
    subst hk
    cases ho

theorem Wr.cellsF {W : World} {B g L N : Nat} {F : Option Nat} (h : Wr W B g F L N) {k : Nat} (hk : F = some k) : ∃ cs t f, W.heap[k]? = some (.cells cs t f) := by
  obtain ⟨bs, v, n, ⟨A, c, h1, h2, h3, h4, _⟩, _⟩ := h
  obtain ⟨cs, hcs⟩ := own_heap h3 (h4.trans hk)
  exact ⟨cs, _, _, hcs⟩

theorem stepE_low (L : Nat) (zs S : List Int) (st : Est) (i : Nat) (h : S.length ≤ i + 2) :
    stepE L zs S st i = (if i % 2 = 0 then lowK L zs (S.getD i 0) else st.1, if i % 2 = 0 then st.2.1 else lowK L zs (S.getD i 0), st.2.2.1, st.2.2.2) := by
  unfold stepE
  rw [if_pos h]
  split <;> rfl
def selE (st : Est) (i : Nat) : Nat := if i % 2 = 0 then st.1 else st.2.1
theorem stepE_pred (L : Nat) (zs S : List Int) (st : Est) (i : Nat) (h : ¬ S.length ≤ i + 2) :
    stepE L zs S st i = (if i % 2 = 0 then pK L zs (selE st i) (S.getD i 0) else st.1, if i % 2 = 0 then st.2.1 else pK L zs (selE st i) (S.getD i 0),
      st.2.2.1 + pN L zs (selE st i) (S.getD i 0), st.2.2.2 + (selE st i + 2 ^ L) % 2 ^ pN L zs (selE st i) (S.getD i 0) * 2 ^ st.2.2.1) := by
  unfold stepE selE
  rw [if_neg h]
  by_cases h2 : i % 2 = 0
  · simp only [h2, if_true]
  · simp only [h2, if_false]
theorem EncB.set9 {W : World} {p6 p7 pw p8 p9 g t0 t1 : Nat} {e : Int} (h : EncB W p6 p7 pw p8 p9 g e t0 t1) (n6 : p6 ≠ p9) (n7 : p7 ≠ p9) (n8 : p8 ≠ p9) (i v : Nat) :
    EncB (W.setCell ⟨p9, i % 2, none⟩ (.int .i64 v)) p6 p7 pw p8 p9 g e (if i % 2 = 0 then v else t0) (if i % 2 = 0 then t1 else v) := by
  refine ⟨set_far h.h6 n6 _, set_far h.h7 n7 _, set_far h.h8 n8 _, ?_⟩
  have h9 := set_blk h.h9 (i % 2) (.int .i64 v)
  rcases (show i % 2 = 0 ∨ i % 2 = 1 by omega) with h0 | h0
  · rw [h0] at h9 ⊢
    exact h9
  · rw [h0] at h9 ⊢
    exact h9
theorem EncB.set7 {W : World} {p6 p7 pw p8 p9 g t0 t1 : Nat} {e : Int} (h : EncB W p6 p7 pw p8 p9 g e t0 t1) (n6 : p6 ≠ p7) (n8 : p8 ≠ p7) (n9 : p9 ≠ p7) (v : Int) :
    EncB (W.setCell ⟨p7, 0, none⟩ (.int .i64 v)) p6 p7 pw p8 p9 g v t0 t1 :=
  ⟨set_far h.h6 n6 _, set_blk h.h7 0 _, set_far h.h8 n8 _, set_far h.h9 n9 _⟩

/-- Predecessor, whatever the symbol. -/
theorem pred_out {L : Nat} {zs : List Int} (hT : okT (L : Int) zs) (g : Nat) (sym : Int) {st : Nat} (hst : st < 2 ^ L) : ∃ (kk bb nn : Nat) (E : Int), bb < 2 ^ nn ∧ nn ≤ L ∧ kk < 2 ^ L ∧
    ((E = 0 ∧ hasS zs sym ∧ kk = pK L zs st sym ∧ nn = pN L zs st sym ∧ bb = (st + 2 ^ L) % 2 ^ pN L zs st sym) ∨ (E = 2 ∧ ¬ hasS zs sym)) ∧
    ∀ W, CoR W g L zs → Calls Try.prog 34 #[.pointer (some ⟨g, 0, none⟩), .int .i64 (st : Int), .int .i64 sym] W fun e w' => e = .returned (.tuple #[.agg #[.int .i64 (kk : Int), .int .u64 (bb : Int), .int .i64 (nn : Int)], .int .i64 E]) ∧ Below W.heap.size W w' := by
  by_cases hs : hasS zs sym
  · obtain ⟨v, z, rfl, hv, hz, hz0, hza, hzn⟩ := has_use hT hs
    obtain ⟨p1, p2, -, -, -, p6⟩ := pred_use hT hs hst
    refine ⟨pK L zs st (v : Int), (st + 2 ^ L) % 2 ^ pN L zs st (v : Int), pN L zs st (v : Int), 0, Nat.mod_lt _ (Nat.pow_pos (by omega)), p2, p1, .inl ⟨rfl, hs, rfl, rfl, rfl⟩, fun W hW => ?_⟩
    refine (pred_ok hW hT hz hza hzn hst).mono ?_
    rintro e w' ⟨⟨k, hk, rfl⟩, hb⟩
    have : k = pK L zs st (v : Int) := by
      rw [p6] at hk
      injection hk with hk
      exact hk.symm
    subst this
    exact ⟨rfl, hb⟩
  · exact ⟨0, 0, 0, 2, by simp, Nat.zero_le _, Nat.pow_pos (by omega), .inr ⟨rfl, hs⟩, fun W hW => pred_bad hW (.inr ⟨⟨st, rfl, hst⟩, rfl, bad_pos hT hs⟩)⟩

/-- One continuation for all the orders of a region. -/
theorem absorb {C P : World → Prop} {G : Prop} (h : (∀ W, C W → P W) → G) (k : ∀ W, C W → P W) : G := h k
end Go.Proofs.Ytohgnohifojdbaa
