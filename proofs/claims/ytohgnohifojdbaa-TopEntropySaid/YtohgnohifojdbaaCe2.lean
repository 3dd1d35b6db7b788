/- A map of ints, as a function. -/
import Derived.Test.YtohgnohifojdbaaChecked
import Derived.Test.YtohgnohifojdbaaLib
import Derived.Maps.Own
import Derived.Maps.OwnSet
import Derived.Maps.OwnOps
import Derived.Maps.Views
namespace Go.Proofs.Ytohgnohifojdbaa
set_option maxRecDepth 8000
open Go.RowKit Go Go.Maps
set_option linter.unusedVariables false

theorem zero_int (w : World) : (zeroValue 3).run Try.prog w = .ok (.int .i64 0) w := by kernel_rfl

/-- Block b is a map from ints to ints that reads as f, of c entries (m: stores so far). -/
def MapI (w : World) (b m c : Nat) (f : Int → Option Int) : Prop :=
  ∃ D : DataW Unit, w.ownsMap Try.prog 3 (plainElem Try.prog 3) b m D ∧ size D = c ∧
    ∀ k : Int, has D (.int .i64 k) = (f k).isSome ∧ D.atKey (.int .i64 k) (.lit (.int .i64 0)) = .lit (.int .i64 ((f k).getD 0))

section
variable {w w' : World} {b m c : Nat} {f : Int → Option Int}
theorem MapI.made (w : World) : MapI (w.alloc (.map #[] 0)) w.heap.size 0 0 (fun _ => none) :=
  ⟨.map [], World.ownsMap_made _ _ _ _, rfl, fun k => ⟨rfl, rfl⟩⟩
theorem MapI.more {m' : Nat} (h : MapI w b m c f) (hm : m ≤ m') : MapI w b m' c f := by
  obtain ⟨D, h1, h2⟩ := h
  exact ⟨D, h1.mono hm, h2⟩
theorem MapI.lt (h : MapI w b m c f) : b < w.heap.size := by
  obtain ⟨D, h1, _⟩ := h
  exact h1.lt
theorem MapI.chg {S : Nat → Prop} (h : MapI w b m c f) (hc : Chg S w w') (hS : ¬ S b) : MapI w' b m c f := by
  obtain ⟨D, h1, h2⟩ := h
  have hlt := h1.lt
  obtain ⟨es, ck, h3, h4⟩ := h1
  exact ⟨D, ⟨es, ck, (hc.block b hlt hS).trans h3, h4⟩, h2⟩
theorem MapI.below (h : MapI w b m c f) (hb : Below w.heap.size w w') : MapI w' b m c f := h.chg (S := fun _ => False) (.of_below hb) (fun h => h)
theorem MapI.notcells (h : MapI w b m c f) : ∃ es ck, w.heap[b]? = some (.map es ck) := by
  obtain ⟨D, ⟨es, ck, h3, _⟩, _⟩ := h
  exact ⟨es, ck, h3⟩
theorem MapI.look (h : MapI w b m c f) (k : Int) (hk : (Lit.int .i64 k).wf = true) :
    (Instr.lookup 126 (.map (some b)) (.int .i64 k) false).run Try.prog w = .ok (.int .i64 ((f k).getD 0)) w := by
  obtain ⟨D, h1, _, h3⟩ := h
  obtain ⟨x, hrun, hat, _⟩ := h1.lookup_int (int_keyed Try.underlying3) Try.underlying126 Try.underlying3 (zero_int w) (keyOf_int_mk Try.underlying3 hk)
  rw [(h3 k).2] at hat
  injection hat with hat
  injection hat with _ hat
  rw [hrun, ← hat]
theorem MapI.look_ok (h : MapI w b m c f) (k : Int) (hk : (Lit.int .i64 k).wf = true) :
    (Instr.lookup 126 (.map (some b)) (.int .i64 k) true).run Try.prog w = .ok (.tuple #[.int .i64 ((f k).getD 0), .bool (f k).isSome]) w := by
  obtain ⟨D, h1, _, h3⟩ := h
  obtain ⟨v, ps, hrun, hv⟩ := h1.look_ok (int_keyed Try.underlying3) Try.underlying126 (zero_int w) (plainElem_int Try.underlying3 (by decide)) (keyOf_int_mk Try.underlying3 hk)
  obtain ⟨x, rfl, hx, _⟩ := plainElem_int_inv Try.underlying3 hv
  have hx := congrArg Prod.fst hx
  rw [(h3 k).2] at hx
  injection hx with hx
  injection hx with _ hx
  rw [hrun, (h3 k).1, ← hx]
theorem MapI.len (h : MapI w b m c f) (ty : TypeId) : (Builtin.len_ #[126] ty #[.map (some b)]).run Try.prog w = .ok (.int .i64 (c : Int)) w := by
  obtain ⟨D, h1, h2, _⟩ := h
  rw [h1.len Try.underlying126 ty, h2]
theorem MapI.upd (h : MapI w b m c f) (hm : m < maxLen) (k v : Int) (hk : (Lit.int .i64 k).wf = true) (hv : (Lit.int .i64 v).wf = true) :
    ∃ w', (Instr.mapUpdate 126 (.map (some b)) (.int .i64 k) (.int .i64 v)).run Try.prog w = .ok () w' ∧
      MapI w' b (m + 1) (if (f k).isSome then c else c + 1) (fun j => if j = k then some v else f j) ∧ w.mapTurned w' b ∧ Chg (fun j => j = b) w w' := by
  obtain ⟨D, h1, h2, h3⟩ := h
  have htidy := h1.tidy (int_keyed Try.underlying3)
  obtain ⟨w', hrun, hown, hturn⟩ := h1.store (int_keyed Try.underlying3) Try.underlying126 hm (keyOf_int_mk Try.underlying3 hk) (plainElem_int Try.underlying3 hv)
  have hg := hturn.grown
  refine ⟨w', hrun, ⟨_, hown, ?_, ?_⟩, hturn, ⟨hg.os, hg.tape, hg.output, hg.size, fun j hj hne => hg.block j hj (fun e => hne (by injection e))⟩⟩
  · rw [size_put htidy, (h3 k).1, h2]
  · intro j
    show has _ _ = (if j = k then some v else f j).isSome ∧ DataW.atKey _ _ _ = DataW.lit (.int .i64 ((if j = k then some v else f j).getD 0))
    by_cases hj : j = k
    · subst hj
      rw [if_pos rfl]
      exact ⟨has_put_same htidy.isMap (by simp [WideAt.IsKeyLit]) _, atKey_put_same htidy.isMap (by simp [WideAt.IsKeyLit]) _ _⟩
    · rw [if_neg hj]
      have hne : Lit.int IntKind.i64 j ≠ Lit.int IntKind.i64 k := fun e => hj (by injection e)
      exact ⟨by rw [has_put_other hne]; exact (h3 j).1, by rw [atKey_put_other hne]; exact (h3 j).2⟩
end
end Go.Proofs.Ytohgnohifojdbaa
