/- A Coder in memory: its box, its cells, the indices of each symbol. -/
import Derived.Test.YtohgnohifojdbaaSt1
import Derived.Test.YtohgnohifojdbaaStA
namespace Go.Proofs.Ytohgnohifojdbaa
set_option maxRecDepth 8000
open Go.RowKit Go
set_option linter.unusedVariables false

/-- The block of an owned row. -/
theorem own_heap {w : World} {base : Nat} {e : TypeId} {size n : Nat} {v : Value} {xs : List Value} (h : w.ownsRow base e size v n xs) {q : Nat} (hq : v.ownBlock = some q) : ∃ cs, w.heap[q]? = some (.cells cs e (0, 0)) := by
  rcases h.2 with ⟨rfl, _⟩ | ⟨g, cap, cur, rfl, _, hh, _⟩
  · simp [Value.ownBlock] at hq
  · have : g = q := by simpa [Value.ownBlock] using hq
    subst this
    exact ⟨cur, hh⟩
/-- Owned rows of unlike elements lie in unlike blocks. -/
theorem own_apart {w : World} {b1 b2 : Nat} {e1 e2 : TypeId} {s1 s2 n1 n2 : Nat} {v1 v2 : Value} {x1 x2 : List Value} (h1 : w.ownsRow b1 e1 s1 v1 n1 x1) (h2 : w.ownsRow b2 e2 s2 v2 n2 x2) (hne : e1 ≠ e2) : ∀ q, v1.ownBlock = some q → ¬ v2.ownBlock = some q := by
  intro q hq hq2
  obtain ⟨cs, hh⟩ := own_heap h2 hq2
  exact own_blk_ne h1 hh hne hq

/-- A Coder at g, for the table (L, zs). -/
def CoR (W : World) (g L : Nat) (zs : List Int) : Prop := ∃ A cA P cP vals, W.heap[g]? = some (.cells #[.slice A (2 ^ L) cA, .slice P zs.length cP] 117 (0, 0)) ∧ Reads W W.heap.size 3 A (2 ^ L) (cellsV (buildL L zs)) ∧ Reads W W.heap.size 1 P zs.length vals ∧
  ∀ s, s < zs.length → ∃ A' n' c', vals[s]? = some (.slice A' n' c') ∧ n' = (posZ (spreadL (2 ^ L) zs) (s : Int) (2 ^ L)).length ∧ Reads W W.heap.size 1 A' n' (intsV (posZ (spreadL (2 ^ L) zs) (s : Int) (2 ^ L)))
theorem CoR.below {W W' : World} {g L : Nat} {zs : List Int} (h : CoR W g L zs) (hb : Below W.heap.size W W') : CoR W' g L zs := by
  obtain ⟨A, cA, P, cP, vals, h1, h2, h3, h4⟩ := h
  refine ⟨A, cA, P, cP, vals, (hb.block _ (lt_of_heap h1)).trans h1, (h2.below hb).more hb.size, (h3.below hb).more hb.size, fun s hs => ?_⟩
  obtain ⟨A', n', c', e1, e2, e3⟩ := h4 s hs
  exact ⟨A', n', c', e1, e2, (e3.below hb).more hb.size⟩
theorem CoR.drewN {W : World} {g L : Nat} {zs : List Int} (h : CoR W g L zs) (k : Nat) : CoR (W.drewN k) g L zs := h.below (below_drewN (Below.refl _ _) _)

/-- A Coder that is being made: k symbols have their indices. -/
def NewI (W : World) (B g L : Nat) (zs : List Int) (k : Nat) (A : Option Addr) (cA : Nat) (P : Option Addr) (cP : Nat) (vals : List Value) : Prop :=
  W.heap[g]? = some (.cells #[.slice A (2 ^ L) cA, .slice P k cP] 117 (0, 0)) ∧ B ≤ g ∧ W.ownsRow B 98 3 (.slice A (2 ^ L) cA) (2 ^ L) (cellsV (buildL L zs)) ∧ W.ownsRow B 24 1 (.slice P k cP) k vals ∧
  ∀ s, s < k → ∃ A' n' c', vals[s]? = some (.slice A' n' c') ∧ n' = (posZ (spreadL (2 ^ L) zs) (s : Int) (2 ^ L)).length ∧ W.ownsRow B 3 1 (.slice A' n' c') n' (intsV (posZ (spreadL (2 ^ L) zs) (s : Int) (2 ^ L)))
section
variable {W W' : World} {B g L k cA cP : Nat} {zs : List Int} {A P : Option Addr} {vals : List Value}
theorem NewI.below (h : NewI W B g L zs k A cA P cP vals) (hb : Below W.heap.size W W') : NewI W' B g L zs k A cA P cP vals := by
  obtain ⟨h1, h2, h3, h4, h5⟩ := h
  refine ⟨(hb.block _ (lt_of_heap h1)).trans h1, h2, own_below h3 hb, own_below h4 hb, fun s hs => ?_⟩
  obtain ⟨A', n', c', e1, e2, e3⟩ := h5 s hs
  exact ⟨A', n', c', e1, e2, own_below e3 hb⟩
theorem NewI.coder (h : NewI W B g L zs zs.length A cA P cP vals) : CoR W g L zs := by
  obtain ⟨h1, h2, h3, h4, h5⟩ := h
  refine ⟨A, cA, P, cP, vals, h1, Reads.of_own h3, Reads.of_own h4, fun s hs => ?_⟩
  obtain ⟨A', n', c', e1, e2, e3⟩ := h5 s hs
  exact ⟨A', n', c', e1, e2, Reads.of_own e3⟩
theorem NewI.step (h : NewI W B g L zs k A cA P cP vals) {A' : Option Addr} {n' c' : Nat} (hn : n' = (posZ (spreadL (2 ^ L) zs) (k : Int) (2 ^ L)).length)
    (hv : W.ownsRow B 3 1 (.slice A' n' c') n' (intsV (posZ (spreadL (2 ^ L) zs) (k : Int) (2 ^ L)))) {o : Obj} {w3 : World} (hg : (W.alloc o).grownBy w3 (Value.slice P k cP).ownBlock) {P' : Option Addr} {cP' : Nat}
    (ho : w3.ownsRow B 24 1 (.slice P' (k + 1) cP') (k + 1) (vals ++ [.slice A' n' c'])) :
    NewI (w3.setCell ⟨g, 1, none⟩ (.slice P' (k + 1) cP')) B g L zs (k + 1) A cA P' cP' (vals ++ [.slice A' n' c']) := by
  obtain ⟨h1, h2, h3, h4, h5⟩ := h
  have hPg := own_blk_ne h4 h1 (by decide)
  have hl := lt_of_heap h1
  have h13 : w3.heap[g]? = some (.cells #[.slice A (2 ^ L) cA, .slice P k cP] 117 (0, 0)) := (hg.block g (by simp; omega) (fun e => hPg e.symm)).trans (alloc_far h1 _)
  have hc : Chg (fun q => (Value.slice P k cP).ownBlock = some q ∨ q = g) W (w3.setCell ⟨g, 1, none⟩ (.slice P' (k + 1) cP')) :=
    ((((Chg.refl (fun q => (Value.slice P k cP).ownBlock = some q ∨ q = g) W).alloc o).grown hg (fun q hq => .inl (.inl hq)))).setCell (p := ⟨g, 1, none⟩) (.inl (.inr rfl)) _
  have hints : ∀ {v : Value} {n : Nat} {xs : List Value}, W.ownsRow B 3 1 v n xs → (w3.setCell ⟨g, 1, none⟩ (.slice P' (k + 1) cP')).ownsRow B 3 1 v n xs := fun hr => own_chg hr hc (fun q hq => by
    rintro (e | e)
    · exact own_apart hr h4 (by decide) q hq e
    · subst e
      exact own_blk_ne hr h1 (by decide) hq)
  have hlen : vals.length = k := by have := h4.1; omega
  refine ⟨set_blk h13 1 _, h2, own_chg h3 hc (fun q hq => ?_), ownsRow_setCell_other ho (a := ⟨g, 1, none⟩) (own_blk_ne ho h13 (by decide)) _, fun s hs => ?_⟩
  · rintro (e | e)
    · exact own_apart h3 h4 (by decide) q hq e
    · subst e
      exact own_blk_ne h3 h1 (by decide) hq
  · by_cases hsk : s < k
    · obtain ⟨A2, n2, c2, e1, e2, e3⟩ := h5 s hsk
      exact ⟨A2, n2, c2, by rw [List.getElem?_append_left (by omega)]; exact e1, e2, hints e3⟩
    · obtain rfl : s = k := by omega
      exact ⟨A', n', c', by rw [List.getElem?_append_right (by omega), hlen, Nat.sub_self]; rfl, hn, hints hv⟩
end
end Go.Proofs.Ytohgnohifojdbaa
