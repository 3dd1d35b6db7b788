/- The spread of a table's symbols, in plain numbers. No program in sight. -/
import Derived.Test.YtohgnohifojdbaaCe4
namespace Go.Proofs.Ytohgnohifojdbaa
set_option maxRecDepth 8000
open Go.RowKit Go
set_option linter.unusedVariables false

theorem snoc_ind {α : Type} {p : List α → Prop} (h0 : p []) (h1 : ∀ l x, p l → p (l ++ [x])) : ∀ l, p l := by
  intro l
  have : p l.reverse.reverse := by
    generalize l.reverse = m
    induction m with
    | nil => exact h0
    | cons x m ih => rw [List.reverse_cons]; exact h1 _ _ ih
  rwa [List.reverse_reverse] at this

def normAt (zs : List Int) (i : Nat) : Int := zs.getD i 0
def rareTo (zs : List Int) (k : Nat) : List Nat := (List.range k).filter fun i => normAt zs i == -1
def othersTo (zs : List Int) (k : Nat) : List Nat := (List.range k).flatMap fun i => List.replicate (normAt zs i).toNat i
theorem rareTo_succ (zs : List Int) (k : Nat) : rareTo zs (k + 1) = rareTo zs k ++ (if normAt zs k = -1 then [k] else []) := by
  unfold rareTo
  rw [List.range_succ, List.filter_append]
  congr 1
  by_cases h : normAt zs k = -1
  · simp [h]
  · simp [h]
theorem othersTo_succ (zs : List Int) (k : Nat) : othersTo zs (k + 1) = othersTo zs k ++ List.replicate (normAt zs k).toNat k := by
  unfold othersTo
  rw [List.range_succ, List.flatMap_append]
  simp
theorem normAt_of {zs : List Int} {k : Nat} {z : Int} (h : zs[k]? = some z) : normAt zs k = z := by simp [normAt, List.getD, h]
theorem rareTo_le (zs : List Int) (k : Nat) : (rareTo zs k).length ≤ k := by
  have := List.length_filter_le (fun i => normAt zs i == -1) (List.range k)
  rw [List.length_range] at this
  exact this
theorem rareTo_lt (zs : List Int) (k : Nat) : ∀ x ∈ rareTo zs k, x < k := fun x hx => by simpa using (List.mem_filter.1 hx).1
theorem othersTo_lt (zs : List Int) (k : Nat) : ∀ x ∈ othersTo zs k, x < k := fun x hx => by
  obtain ⟨i, hi, hx⟩ := List.mem_flatMap.1 hx
  rw [List.eq_of_mem_replicate hx]
  simpa using hi
theorem sum_parts {zs : List Int} (hall : ∀ z ∈ zs, -1 ≤ z) : ∀ k, k ≤ zs.length → (((othersTo zs k).length + (rareTo zs k).length : Nat) : Int) = sumAbs (zs.take k)
  | 0, _ => by simp [othersTo, rareTo, sumAbs]
  | k + 1, h => by
    have ih := sum_parts hall k (by omega)
    have hz : zs[k]? = some zs[k] := List.getElem?_eq_getElem (by omega)
    rw [sumAbs_snoc hz, othersTo_succ, rareTo_succ, normAt_of hz, ← ih, List.length_append, List.length_append, List.length_replicate]
    have hb := hall zs[k] (List.getElem_mem _)
    generalize zs[k] = z at hb
    unfold absZ
    split
    · simp; omega
    · simp; omega

/-- The rare symbols, from the greatest index down. -/
def rmap (s : Nat) (rs : List Nat) : Int → Option Int := fun j => if j ≤ (s : Int) - 1 then (rs[((s : Int) - 1 - j).toNat]?).map (fun x : Nat => (x : Int)) else none
theorem rmap_nil (s : Nat) : rmap s [] = fun _ => none := by
  funext j
  unfold rmap
  split <;> simp
theorem rmap_next (s : Nat) (rs : List Nat) : rmap s rs ((s : Int) - 1 - (rs.length : Int)) = none := by
  unfold rmap
  rw [if_pos (by omega), show ((s : Int) - 1 - ((s : Int) - 1 - (rs.length : Int))).toNat = rs.length by omega, List.getElem?_eq_none (Nat.le_refl _)]
  rfl
theorem rmap_snoc (s : Nat) (rs : List Nat) (x : Nat) : (fun j => if j = (s : Int) - 1 - (rs.length : Int) then some (x : Int) else rmap s rs j) = rmap s (rs ++ [x]) := by
  funext j
  unfold rmap
  by_cases hj : j = (s : Int) - 1 - (rs.length : Int)
  · rw [if_pos hj, if_pos (by omega), show ((s : Int) - 1 - j).toNat = rs.length by omega]
    simp
  · rw [if_neg hj]
    split
    · congr 1
      rw [List.getElem?_append]
      split
      · rfl
      · next h =>
        rw [List.getElem?_eq_none (by omega), List.getElem?_eq_none (by simp; omega)]
    · rfl

def upd (f : Int → Option Int) (x v : Int) : Int → Option Int := fun j => if j = x then some v else f j
def fillStep (st : (Int → Option Int) × List Nat) (x : Nat) : (Int → Option Int) × List Nat :=
  match st.1 (x : Int), st.2 with
  | none, o :: r => (upd st.1 (x : Int) (o : Int), r)
  | _, _ => st
def fill (st : (Int → Option Int) × List Nat) (ys : List Nat) : (Int → Option Int) × List Nat := ys.foldl fillStep st
theorem fill_snoc (st : (Int → Option Int) × List Nat) (ys : List Nat) (x : Nat) : fill st (ys ++ [x]) = fillStep (fill st ys) x := by simp [fill]

/-- How many indices below s are free. -/
def freeC (s : Nat) (f : Int → Option Int) : Nat := ((List.range s).filter fun i : Nat => (f (i : Int)).isNone).length
theorem freeC_succ (s : Nat) (f : Int → Option Int) : freeC (s + 1) f = freeC s f + (if (f (s : Int)).isNone then 1 else 0) := by
  unfold freeC
  rw [List.range_succ, List.filter_append, List.length_append]
  congr 1
  cases h : (f (s : Int)).isNone <;> simp [h]
theorem freeC_far {s : Nat} {f : Int → Option Int} {x v : Int} (h : (s : Int) ≤ x) : freeC s (upd f x v) = freeC s f := by
  unfold freeC
  congr 1
  refine List.filter_congr fun i hi => ?_
  have : i < s := by simpa using hi
  unfold upd
  rw [if_neg (by omega)]
theorem freeC_upd {f : Int → Option Int} {v : Int} : ∀ (s x : Nat), x < s → f (x : Int) = none → freeC s (upd f (x : Int) v) + 1 = freeC s f
  | 0, x, h, _ => absurd h (by omega)
  | s + 1, x, h, hf => by
    rw [freeC_succ, freeC_succ]
    by_cases hx : x = s
    · subst hx
      rw [freeC_far (by omega), hf]
      simp [upd]
    · have ih := freeC_upd (v := v) s x (by omega) hf
      have e : upd f (x : Int) v (s : Int) = f (s : Int) := by unfold upd; rw [if_neg (by omega)]
      rw [e]
      omega
theorem freeC_pos {f : Int → Option Int} {s x : Nat} (h : x < s) (hf : f (x : Int) = none) : 0 < freeC s f := by
  have := freeC_upd (f := f) (v := 0) s x h hf
  omega
theorem freeC_none (s : Nat) : freeC s (fun _ => none) = s := by
  show ((List.range s).filter fun _ => true).length = s
  rw [List.filter_eq_self.2 (fun _ _ => rfl), List.length_range]
theorem freeC_rmap (s : Nat) : ∀ (rs : List Nat), rs.length ≤ s → freeC s (rmap s rs) + rs.length = s := by
  refine snoc_ind ?_ ?_
  · intro _; rw [rmap_nil, freeC_none]; rfl
  · intro rs x ih h
    rw [List.length_append, List.length_singleton] at h ⊢
    have ih := ih (by omega)
    rw [← rmap_snoc]
    have e : (s : Int) - 1 - (rs.length : Int) = ((s - 1 - rs.length : Nat) : Int) := by omega
    have hn := rmap_next s rs
    rw [e] at hn ⊢
    have := freeC_upd (f := rmap s rs) (v := (x : Int)) s (s - 1 - rs.length) (by omega) hn
    show freeC s (upd (rmap s rs) _ _) + _ = s
    omega
theorem fillStep_free {s : Nat} {st : (Int → Option Int) × List Nat} (h : st.2.length = freeC s st.1) {x : Nat} (hx : x < s) : (fillStep st x).2.length = freeC s (fillStep st x).1 := by
  obtain ⟨f, os⟩ := st
  unfold fillStep
  cases hf : f (x : Int) with
  | some v => simp only [hf]; exact h
  | none =>
    have hp := freeC_pos hx hf
    cases os with
    | nil => simp at h; omega
    | cons o r =>
      simp only [hf]
      have := freeC_upd (f := f) (v := (o : Int)) s x hx hf
      simp at h
      show r.length = freeC s (upd f _ _)
      omega
theorem fill_free {s : Nat} {st : (Int → Option Int) × List Nat} (h : st.2.length = freeC s st.1) : ∀ (ys : List Nat), (∀ y ∈ ys, y < s) → (fill st ys).2.length = freeC s (fill st ys).1 := by
  refine snoc_ind ?_ ?_
  · intro _; exact h
  · intro ys x ih hy
    rw [fill_snoc]
    exact fillStep_free (ih (fun y hm => hy y (by simp [hm]))) (hy x (by simp))
theorem fill_len (st : (Int → Option Int) × List Nat) : ∀ (ys : List Nat), (fill st ys).2.length ≤ st.2.length := by
  refine snoc_ind ?_ ?_
  · exact Nat.le_refl _
  · intro ys x ih
    rw [fill_snoc]
    refine Nat.le_trans ?_ ih
    unfold fillStep
    split
    · next h1 h2 => rw [h2]; simp
    · exact Nat.le_refl _

/-- What the visits begin with; what they leave. -/
def start (s : Nat) (zs : List Int) : (Int → Option Int) × List Nat := (rmap s (rareTo zs zs.length), othersTo zs zs.length)
def visits (s : Nat) : List Nat := (List.range s).map fun k => k * stepN s % s
def spreadF (s : Nat) (zs : List Int) : Int → Option Int := (fill (start s zs) (visits s)).1
/-- The symbol of every index. -/
def spreadL (s : Nat) (zs : List Int) : List Int := (List.range s).map fun i : Nat => (spreadF s zs (i : Int)).getD 0
theorem start_free {l : Nat} {zs : List Int} (h : okT (l : Int) zs) : (start (2 ^ l) zs).2.length = freeC (2 ^ l) (start (2 ^ l) zs).1 := by
  obtain ⟨_, _, _, hall, hsum⟩ := h
  have h1 := sum_parts hall zs.length (Nat.le_refl _)
  rw [List.take_length, hsum, Int.toNat_natCast, show ((2 : Int) ^ l) = ((2 ^ l : Nat) : Int) by simp] at h1
  have h2 := freeC_rmap (2 ^ l) (rareTo zs zs.length) (by omega)
  unfold start
  simp only
  omega
end Go.Proofs.Ytohgnohifojdbaa
