/- The encoder of flows as a fold over the indices visited (no program). -/
import Derived.Test.YtohgnohifojdbaaFlX
namespace Go.Proofs.Ytohgnohifojdbaa
set_option maxRecDepth 8000
set_option linter.unusedVariables false

abbrev Est := Nat × Nat × Nat × Nat
/-- One symbol more: the one at index i. -/
def stepE (L : Nat) (zs S : List Int) (st : Est) (i : Nat) : Est :=
  if S.length ≤ i + 2 then
    if i % 2 = 0 then (lowK L zs (S.getD i 0), st.2.1, st.2.2.1, st.2.2.2) else (st.1, lowK L zs (S.getD i 0), st.2.2.1, st.2.2.2)
  else if i % 2 = 0 then (pK L zs st.1 (S.getD i 0), st.2.1, st.2.2.1 + pN L zs st.1 (S.getD i 0), st.2.2.2 + (st.1 + 2 ^ L) % 2 ^ pN L zs st.1 (S.getD i 0) * 2 ^ st.2.2.1)
  else (st.1, pK L zs st.2.1 (S.getD i 0), st.2.2.1 + pN L zs st.2.1 (S.getD i 0), st.2.2.2 + (st.2.1 + 2 ^ L) % 2 ^ pN L zs st.2.1 (S.getD i 0) * 2 ^ st.2.2.1)
def encG (L : Nat) (zs S : List Int) (l : List Nat) : Est := l.foldl (stepE L zs S) (0, 0, 0, 0)
theorem encG_snoc (L : Nat) (zs S : List Int) (l : List Nat) (i : Nat) : encG L zs S (l ++ [i]) = stepE L zs S (encG L zs S l) i := by simp [encG]

def OkE (L : Nat) (st : Est) : Prop := st.1 < 2 ^ L ∧ st.2.1 < 2 ^ L ∧ st.2.2.2 < 2 ^ st.2.2.1

theorem add_bits {N T a b : Nat} (hN : N < 2 ^ T) (ha : a < 2 ^ b) : N + a * 2 ^ T < 2 ^ (T + b) := by
  have := Nat.mul_le_mul_right (2 ^ T) ha
  rw [Nat.succ_mul] at this
  rw [Nat.pow_add, Nat.mul_comm (2 ^ T)]
  omega

theorem stepE_ok {L : Nat} {zs S : List Int} (hT : okT (L : Int) zs) {st : Est} {i : Nat} (h : OkE L st) (hs : hasS zs (S.getD i 0)) : OkE L (stepE L zs S st i) ∧ (stepE L zs S st i).2.2.1 ≤ st.2.2.1 + L := by
  obtain ⟨h1, h2, h3⟩ := h
  have hlow := (low_use hT hs).1
  obtain ⟨p1, p2, -⟩ := pred_use hT hs h1
  obtain ⟨q1, q2, -⟩ := pred_use hT hs h2
  unfold stepE
  split
  · split
    · exact ⟨⟨hlow, h2, h3⟩, by simp⟩
    · exact ⟨⟨h1, hlow, h3⟩, by simp⟩
  · split
    · exact ⟨⟨p1, h2, add_bits h3 (Nat.mod_lt _ (Nat.pow_pos (by omega)))⟩, by simp only []; omega⟩
    · exact ⟨⟨h1, q1, add_bits h3 (Nat.mod_lt _ (Nat.pow_pos (by omega)))⟩, by simp only []; omega⟩

theorem encG_ok {L : Nat} {zs S : List Int} (hT : okT (L : Int) zs) : ∀ l : List Nat, (∀ i ∈ l, hasS zs (S.getD i 0)) → OkE L (encG L zs S l) ∧ (encG L zs S l).2.2.1 ≤ l.length * L := by
  have key : ∀ (l : List Nat) (st : Est), OkE L st → (∀ i ∈ l, hasS zs (S.getD i 0)) → OkE L (l.foldl (stepE L zs S) st) ∧ (l.foldl (stepE L zs S) st).2.2.1 ≤ st.2.2.1 + l.length * L := by
    intro l
    induction l with
    | nil => intro st h _; exact ⟨h, by simp⟩
    | cons i l ih =>
      intro st h hs
      obtain ⟨h1, h2⟩ := stepE_ok hT h (hs i (List.mem_cons_self ..))
      obtain ⟨h3, h4⟩ := ih _ h1 (fun j hj => hs j (List.mem_cons_of_mem _ hj))
      refine ⟨h3, ?_⟩
      rw [List.foldl_cons, List.length_cons, Nat.succ_mul]
      omega
  intro l hl
  have hp : 0 < 2 ^ L := Nat.pow_pos (by omega)
  obtain ⟨h1, h2⟩ := key l (0, 0, 0, 0) ⟨hp, hp, by simp⟩ hl
  exact ⟨h1, by simpa [encG] using h2⟩

/-- The indices in the order of the visits: the last one first. -/
def visB (n k : Nat) : List Nat := (List.range k).map fun j => n - 1 - j
theorem visB_succ (n k : Nat) : visB n (k + 1) = visB n k ++ [n - 1 - k] := by simp [visB, List.range_succ]

theorem encG_vis (L : Nat) (zs S : List Int) : ∀ k, k ≤ S.length → encG L zs S (visB S.length k) =
    (if (S.length - k) % 2 = 0 then ((encF L zs (S.drop (S.length - k))).1, (encF L zs (S.drop (S.length - k))).2.1, (encF L zs (S.drop (S.length - k))).2.2.1, (encF L zs (S.drop (S.length - k))).2.2.2)
      else ((encF L zs (S.drop (S.length - k))).2.1, (encF L zs (S.drop (S.length - k))).1, (encF L zs (S.drop (S.length - k))).2.2.1, (encF L zs (S.drop (S.length - k))).2.2.2))
  | 0, _ => by simp [visB, encG, encF]
  | k + 1, hk => by
    have ih := encG_vis L zs S k (by omega)
    obtain ⟨i, hi⟩ : ∃ i, i = S.length - (k + 1) := ⟨_, rfl⟩
    have e1 : S.length - 1 - k = i := by omega
    have e2 : S.length - k = i + 1 := by omega
    have hil : i < S.length := by omega
    rw [e2] at ih
    rw [visB_succ, encG_snoc, ih, e1, ← hi, List.drop_eq_getElem_cons hil]
    have hg : S.getD i 0 = S[i] := by rw [List.getD_eq_getElem?_getD, List.getElem?_eq_getElem hil]; rfl
    have hl : (S.drop (i + 1)).length = k := by rw [List.length_drop]; omega
    conv => rhs; unfold encF
    unfold stepE
    rw [hg, hl]
    by_cases h2 : k < 2
    · have h3 : S.length ≤ i + 2 := by omega
      simp only [h2, h3, if_true]
      by_cases hp : i % 2 = 0
      · have hp2 : ¬ (i + 1) % 2 = 0 := by omega
        simp only [hp, hp2, if_true, if_false]
      · have hp2 : (i + 1) % 2 = 0 := by omega
        simp only [hp, hp2, if_true, if_false]
    · have h3 : ¬ S.length ≤ i + 2 := by omega
      simp only [h2, h3, if_false]
      by_cases hp : i % 2 = 0
      · have hp2 : ¬ (i + 1) % 2 = 0 := by omega
        simp only [hp, hp2, if_true, if_false]
      · have hp2 : (i + 1) % 2 = 0 := by omega
        simp only [hp, hp2, if_true, if_false]

theorem encG_all (L : Nat) (zs S : List Int) : encG L zs S (visB S.length S.length) = encF L zs S := by
  rw [encG_vis L zs S S.length (Nat.le_refl _)]
  simp

theorem mem_visB {n k i : Nat} (hk : k ≤ n) : i ∈ visB n k → i < n := by
  unfold visB
  rw [List.mem_map]
  rintro ⟨j, hj, rfl⟩
  have := List.mem_range.1 hj
  omega
theorem visB_mem {n i : Nat} (hi : i < n) : i ∈ visB n n := by
  unfold visB
  rw [List.mem_map]
  exact ⟨n - 1 - i, List.mem_range.2 (by omega), by omega⟩

/-- The states, of L bits each. -/
def outG (L : Nat) (tw : List Nat) (T N : Nat) (l : List Nat) : Nat × Nat := l.foldl (fun p i => (p.1 + L, p.2 + tw.getD i 0 * 2 ^ p.1)) (T, N)
theorem outG_snoc (L : Nat) (tw : List Nat) (T N : Nat) (l : List Nat) (i : Nat) : outG L tw T N (l ++ [i]) = ((outG L tw T N l).1 + L, (outG L tw T N l).2 + tw.getD i 0 * 2 ^ (outG L tw T N l).1) := by simp [outG]
theorem outG_len (L : Nat) (tw : List Nat) (T N : Nat) : ∀ l : List Nat, (outG L tw T N l).1 = T + l.length * L := by
  intro l
  unfold outG
  induction l generalizing T N with
  | nil => simp
  | cons i l ih => rw [List.foldl_cons, ih, List.length_cons, Nat.succ_mul]; omega
theorem outG_fin (L : Nat) (zs S : List Int) : outG L [(encF L zs S).1, (encF L zs S).2.1] (encF L zs S).2.2.1 (encF L zs S).2.2.2 (visB (min S.length 2) (min S.length 2)) = (finT L zs S, finN L zs S) := by
  unfold finT finN
  by_cases h0 : S.length = 0
  · rw [h0]; simp [visB, outG]
  by_cases h1 : S.length = 1
  · rw [h1]; simp [visB, outG]
  · have h2 : min S.length 2 = 2 := by omega
    rw [h2, if_neg h0, if_neg h0, if_neg h1, if_neg h1]
    simp [visB, outG, List.range_succ, Nat.add_assoc]
end Go.Proofs.Ytohgnohifojdbaa
