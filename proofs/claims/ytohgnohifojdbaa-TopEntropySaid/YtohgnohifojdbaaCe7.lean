/- The spread fills every index; each symbol has as many indices as its norm says. No program in sight. -/
import Derived.Test.YtohgnohifojdbaaCe5
namespace Go.Proofs.Ytohgnohifojdbaa
set_option maxRecDepth 8000
open Go.RowKit Go
set_option linter.unusedVariables false

/-- Every index is visited. -/
theorem step_inv : ∀ l : Fin 10, ∃ i : Fin 512, i.val * stepN (2 ^ l.val) % 2 ^ l.val = 1 % 2 ^ l.val := by decide +kernel
theorem visits_all {l : Nat} (hl : l ≤ 9) {x : Nat} (hx : x < 2 ^ l) : x ∈ visits (2 ^ l) := by
  obtain ⟨⟨i, _⟩, hi⟩ := step_inv ⟨l, by omega⟩
  simp only at hi
  have hp : 0 < 2 ^ l := Nat.pow_pos (by omega)
  refine List.mem_map.2 ⟨x * i % 2 ^ l, by simpa using Nat.mod_lt _ hp, ?_⟩
  rw [Nat.mod_mul_mod, Nat.mul_assoc, Nat.mul_mod, hi, ← Nat.mul_mod, Nat.mul_one, Nat.mod_eq_of_lt hx]

/-- How many indices below s bear v. -/
def cntF (s : Nat) (f : Int → Option Int) (v : Nat) : Nat := ((List.range s).filter fun i : Nat => f (i : Int) == some (v : Int)).length
theorem cntF_succ (s : Nat) (f : Int → Option Int) (v : Nat) : cntF (s + 1) f v = cntF s f v + (if f (s : Int) = some (v : Int) then 1 else 0) := by
  unfold cntF
  rw [List.range_succ, List.filter_append, List.length_append]
  congr 1
  by_cases h : f (s : Int) = some (v : Int) <;> simp [h]
theorem cntF_far {s : Nat} {f : Int → Option Int} {x o : Int} {v : Nat} (h : (s : Int) ≤ x) : cntF s (upd f x o) v = cntF s f v := by
  unfold cntF
  congr 1
  refine List.filter_congr fun i hi => ?_
  have : i < s := by simpa using hi
  unfold upd
  rw [if_neg (by omega)]
theorem cntF_upd {f : Int → Option Int} {o v : Nat} : ∀ (s x : Nat), x < s → f (x : Int) = none → cntF s (upd f (x : Int) (o : Int)) v = cntF s f v + (if o = v then 1 else 0)
  | 0, x, h, _ => absurd h (by omega)
  | s + 1, x, h, hf => by
    rw [cntF_succ, cntF_succ]
    by_cases hx : x = s
    · subst hx
      rw [cntF_far (by omega), hf]
      by_cases ho : o = v
      · simp [upd, ho]
      · simp [upd, ho]; omega
    · have ih := cntF_upd (o := o) (v := v) s x (by omega) hf
      have e : upd f (x : Int) (o : Int) (s : Int) = f (s : Int) := by unfold upd; rw [if_neg (by omega)]
      rw [e]
      omega
theorem count_cons_nat (o : Nat) (r : List Nat) (v : Nat) : (o :: r).count v = r.count v + (if o = v then 1 else 0) := by
  rw [List.count_cons]
  congr 1
  by_cases h : o = v <;> simp [h]
theorem fillStep_cnt {s : Nat} {st : (Int → Option Int) × List Nat} {x : Nat} (hx : x < s) (v : Nat) : cntF s (fillStep st x).1 v + (fillStep st x).2.count v = cntF s st.1 v + st.2.count v := by
  obtain ⟨f, os⟩ := st
  unfold fillStep
  cases hf : f (x : Int) with
  | some u => simp only [hf]
  | none =>
    cases os with
    | nil => simp only [hf]
    | cons o r =>
      simp only [hf]
      rw [cntF_upd s x hx hf, count_cons_nat]
      omega
theorem fill_cnt {s : Nat} (st : (Int → Option Int) × List Nat) (v : Nat) : ∀ (ys : List Nat), (∀ y ∈ ys, y < s) → cntF s (fill st ys).1 v + (fill st ys).2.count v = cntF s st.1 v + st.2.count v := by
  refine snoc_ind ?_ ?_
  · intro _; rfl
  · intro ys x ih hy
    rw [fill_snoc, fillStep_cnt (hy x (by simp)), ih (fun y hm => hy y (by simp [hm]))]
theorem cntF_none (s v : Nat) : cntF s (fun _ => none) v = 0 := by
  unfold cntF
  rw [List.length_eq_zero_iff, List.filter_eq_nil_iff]
  simp
theorem cntF_rmap (s v : Nat) : ∀ (rs : List Nat), rs.length ≤ s → cntF s (rmap s rs) v = rs.count v := by
  refine snoc_ind ?_ ?_
  · intro _; rw [rmap_nil, cntF_none]; rfl
  · intro rs x ih h
    rw [List.length_append, List.length_singleton] at h
    have ih := ih (by omega)
    rw [← rmap_snoc]
    have e : (s : Int) - 1 - (rs.length : Int) = ((s - 1 - rs.length : Nat) : Int) := by omega
    have hn := rmap_next s rs
    rw [e] at hn ⊢
    have h2 := cntF_upd (f := rmap s rs) (o := x) (v := v) s (s - 1 - rs.length) (by omega) hn
    have h3 : (rs ++ [x]).count v = rs.count v + (if x = v then 1 else 0) := by
      rw [List.count_append, count_cons_nat]; simp
    rw [h3, ← ih]
    exact h2

theorem fillStep_some {st : (Int → Option Int) × List Nat} {x : Nat} {y : Int} (h : st.1 y ≠ none) : (fillStep st x).1 y ≠ none := by
  obtain ⟨f, os⟩ := st
  unfold fillStep
  split
  · next o r e1 e2 =>
    show (if y = (x : Int) then some (o : Int) else f y) ≠ none
    split
    · simp
    · exact h
  · exact h
theorem fillStep_self {s : Nat} {st : (Int → Option Int) × List Nat} {x : Nat} (hx : x < s) (h : st.2.length = freeC s st.1) : (fillStep st x).1 (x : Int) ≠ none := by
  obtain ⟨f, os⟩ := st
  unfold fillStep
  cases hf : f (x : Int) with
  | some u => simp only [hf]; simp
  | none =>
    have hp := freeC_pos hx hf
    cases os with
    | nil => simp at h; omega
    | cons o r => simp only [hf]; unfold upd; rw [if_pos rfl]; simp
theorem fill_covers {s : Nat} {st : (Int → Option Int) × List Nat} (h : st.2.length = freeC s st.1) : ∀ (ys : List Nat), (∀ y ∈ ys, y < s) → ∀ y ∈ ys, (fill st ys).1 (y : Int) ≠ none := by
  refine snoc_ind ?_ ?_
  · intro _ y hy; simp at hy
  · intro ys x ih hlt y hy
    have hlt' : ∀ y ∈ ys, y < s := fun y hm => hlt y (by simp [hm])
    rw [fill_snoc]
    rcases List.mem_append.1 hy with hy | hy
    · exact fillStep_some (ih hlt' y hy)
    · rw [List.mem_singleton.1 hy]
      exact fillStep_self (hlt x (by simp)) (fill_free h ys hlt')
/-- The values come from the lists. -/
theorem fill_vals {n : Nat} {st : (Int → Option Int) × List Nat} (h1 : ∀ j u, st.1 j = some u → ∃ v : Nat, v < n ∧ u = (v : Int)) (h2 : ∀ o ∈ st.2, o < n) : ∀ (ys : List Nat), (∀ j u, (fill st ys).1 j = some u → ∃ v : Nat, v < n ∧ u = (v : Int)) ∧ ∀ o ∈ (fill st ys).2, o < n := by
  refine snoc_ind ?_ ?_
  · exact ⟨h1, h2⟩
  · intro ys x ih
    rw [fill_snoc]
    obtain ⟨i1, i2⟩ := ih
    unfold fillStep
    split
    · next o9 r9 e1 e2 =>
      rw [e2] at i2
      refine ⟨fun j u hj => ?_, fun o ho => i2 o (by simp [ho])⟩
      replace hj : (if j = (x : Int) then some (o9 : Int) else (fill st ys).1 j) = some u := hj
      split at hj
      · injection hj with hj; exact ⟨_, i2 _ (by simp), hj.symm⟩
      · exact i1 j u hj
    · exact ⟨i1, i2⟩

theorem count_rare (zs : List Int) (v : Nat) : ∀ k, (rareTo zs k).count v = if v < k ∧ normAt zs v = -1 then 1 else 0
  | 0 => by simp [rareTo]
  | k + 1 => by
    rw [rareTo_succ, List.count_append, count_rare zs v k]
    by_cases hk : normAt zs k = -1
    · rw [if_pos hk, count_cons_nat]
      by_cases hv : k = v
      · subst hv; simp [hk]
      · simp [hv]
        by_cases h : v < k ∧ normAt zs v = -1
        · rw [if_pos h, if_pos ⟨by omega, h.2⟩]
        · rw [if_neg h, if_neg (fun h' => h ⟨by omega, h'.2⟩)]
    · rw [if_neg hk]
      by_cases hv : k = v
      · subst hv; simp [hk]
      · by_cases h : v < k ∧ normAt zs v = -1
        · rw [if_pos h, if_pos ⟨by omega, h.2⟩]; rfl
        · rw [if_neg h, if_neg (fun h' => h ⟨by omega, h'.2⟩)]; rfl
theorem count_others (zs : List Int) (v : Nat) : ∀ k, (othersTo zs k).count v = if v < k then (normAt zs v).toNat else 0
  | 0 => by simp [othersTo]
  | k + 1 => by
    rw [othersTo_succ, List.count_append, count_others zs v k, List.count_replicate]
    by_cases hv : k = v
    · subst hv; simp
    · simp [hv]
      by_cases h : v < k
      · rw [if_pos h, if_pos (by omega)]
      · rw [if_neg h, if_neg (by omega)]

theorem visits_lt (s : Nat) (hs : 0 < s) : ∀ y ∈ visits s, y < s := by
  intro y hy
  obtain ⟨k, _, rfl⟩ := List.mem_map.1 hy
  exact Nat.mod_lt _ hs
section
variable {l : Nat} {zs : List Int} (hT : okT (l : Int) zs)
include hT
theorem spread_some {x : Nat} (hx : x < 2 ^ l) : ∃ v : Nat, v < zs.length ∧ spreadF (2 ^ l) zs (x : Int) = some (v : Int) := by
  have hl := hT.1
  have h1 := fill_covers (start_free hT) _ (visits_lt (2 ^ l) (Nat.pow_pos (by omega))) x (visits_all (by omega) hx)
  have h2 := (fill_vals (n := zs.length) (st := start (2 ^ l) zs) (by
    intro j u hj
    unfold start rmap at hj
    simp only at hj
    split at hj
    · obtain ⟨y, hy, rfl⟩ := Option.map_eq_some_iff.1 hj
      exact ⟨y, rareTo_lt _ _ y (List.mem_of_getElem? hy), rfl⟩
    · cases hj) (fun o ho => othersTo_lt _ _ o ho) (visits (2 ^ l))).1
  cases hf : (fill (start (2 ^ l) zs) (visits (2 ^ l))).1 (x : Int) with
  | none => exact absurd hf h1
  | some u =>
    obtain ⟨v, hv, rfl⟩ := h2 _ _ hf
    exact ⟨v, hv, hf⟩
theorem spread_count (v : Nat) (hv : v < zs.length) : (cntF (2 ^ l) (spreadF (2 ^ l) zs) v : Int) = absZ (normAt zs v) := by
  have hl := hT.1
  have hlt := visits_lt (2 ^ l) (Nat.pow_pos (by omega))
  have h1 := fill_cnt (s := 2 ^ l) (start (2 ^ l) zs) v (visits (2 ^ l)) hlt
  have h2 := fill_free (start_free hT) (visits (2 ^ l)) hlt
  have h3 : freeC (2 ^ l) (fill (start (2 ^ l) zs) (visits (2 ^ l))).1 = 0 := by
    unfold freeC
    rw [List.length_eq_zero_iff, List.filter_eq_nil_iff]
    intro i hi
    obtain ⟨u, _, hu⟩ := spread_some hT (x := i) (by simpa using hi)
    unfold spreadF at hu
    rw [hu]; simp
  rw [h3] at h2
  rw [List.eq_nil_of_length_eq_zero h2] at h1
  have h4 := sum_parts hT.2.2.2.1 zs.length (Nat.le_refl _)
  rw [List.take_length, hT.2.2.2.2, Int.toNat_natCast, show ((2 : Int) ^ l) = ((2 ^ l : Nat) : Int) by simp] at h4
  have h5 : cntF (2 ^ l) (start (2 ^ l) zs).1 v = (rareTo zs zs.length).count v := cntF_rmap _ _ _ (by omega)
  have h6 : (start (2 ^ l) zs).2.count v = (othersTo zs zs.length).count v := rfl
  rw [h5, h6, count_rare, count_others, if_pos hv] at h1
  have hz := hT.2.2.2.1 (normAt zs v) (by unfold normAt; rw [List.getD_eq_getElem?_getD, List.getElem?_eq_getElem hv]; exact List.getElem_mem _)
  unfold spreadF
  unfold absZ
  by_cases hm : normAt zs v = -1
  · rw [if_pos ⟨hv, hm⟩, hm] at h1
    rw [hm]
    simp at h1
    omega
  · rw [if_neg (fun h => hm h.2)] at h1
    simp at h1
    omega
/-- Of the symbol v there are |norm| indices; each index bears a symbol of the table. -/
theorem spreadL_count (v : Nat) (hv : v < zs.length) : ((spreadL (2 ^ l) zs).count (v : Int) : Int) = absZ (normAt zs v) := by
  rw [← spread_count hT v hv]
  congr 1
  unfold spreadL cntF
  rw [List.count_eq_countP, List.countP_map, List.countP_eq_length_filter]
  congr 1
  refine List.filter_congr fun i hi => ?_
  obtain ⟨u, _, hu⟩ := spread_some hT (x := i) (by simpa using hi)
  simp [hu]
theorem spreadL_at {i : Nat} (hi : i < 2 ^ l) : ∃ v : Nat, v < zs.length ∧ (spreadL (2 ^ l) zs)[i]? = some (v : Int) := by
  obtain ⟨v, hv, hu⟩ := spread_some hT hi
  exact ⟨v, hv, by simp [spreadL, hi, hu]⟩
end
theorem spreadL_length (s : Nat) (zs : List Int) : (spreadL s zs).length = s := by simp [spreadL]
theorem count_take_lt {L : List Int} {i : Nat} {v : Int} (h : L[i]? = some v) : (L.take i).count v < L.count v := by
  obtain ⟨hi, e⟩ := List.getElem?_eq_some_iff.1 h
  have h1 := List.drop_eq_getElem_cons hi
  have h2 : L.count v = (L.take i).count v + (L.drop i).count v := by rw [← List.count_append, List.take_append_drop]
  rw [h2, h1, e, List.count_cons_self]
  omega
end Go.Proofs.Ytohgnohifojdbaa
