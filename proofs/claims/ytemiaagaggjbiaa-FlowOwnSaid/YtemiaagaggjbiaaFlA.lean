/- The decoder of flows as a function of numbers (no program). -/
import Derived.Test.YtemiaagaggjbiaaSt1
namespace Go.Proofs.Ytemiaagaggjbiaa
set_option linter.unusedVariables false

/-- A cell of state k: symbol, number of bits, base. -/
def cS (C : List CellT) (k : Nat) : Int := (C.getD k (0, 0, 0)).1
def cB (C : List CellT) (k : Nat) : Nat := (C.getD k (0, 0, 0)).2.1.toNat
def cA (C : List CellT) (k : Nat) : Nat := (C.getD k (0, 0, 0)).2.2.toNat

/-- Symbols to come, the state whose turn it is, the other one, the bits left of N. -/
def decF (C : List CellT) (N : Nat) : Nat → Nat → Nat → Nat → Option (List Int)
  | 0, _, _, t => if t = 0 then some [] else none
  | r + 1, now, other, t =>
    if 2 ≤ r then
      if cB C now ≤ t then (decF C N r other (cA C now + N / 2 ^ (t - cB C now) % 2 ^ cB C now) (t - cB C now)).map (cS C now :: ·) else none
    else (decF C N r other now t).map (cS C now :: ·)

def startF (C : List CellT) (L N n T : Nat) : Option (List Int) :=
  if n = 0 then decF C N 0 0 0 T else if T < L then none else if n = 1 then decF C N 1 (N / 2 ^ (T - L) % 2 ^ L) 0 (T - L)
  else if T - L < L then none else decF C N n (N / 2 ^ (T - L) % 2 ^ L) (N / 2 ^ (T - L - L) % 2 ^ L) (T - L - L)

def hasS (zs : List Int) (s : Int) : Prop := ∃ (v : Nat) (z : Int), s = (v : Int) ∧ zs[v]? = some z ∧ z ≠ 0

theorem cell_use {L : Nat} {zs : List Int} (hT : okT (L : Int) zs) {k : Nat} (hk : k < 2 ^ L) :
    (buildL L zs)[k]? = some (cS (buildL L zs) k, (cB (buildL L zs) k : Int), (cA (buildL L zs) k : Int)) ∧ cB (buildL L zs) k ≤ L ∧ cA (buildL L zs) k + 2 ^ cB (buildL L zs) k ≤ 2 ^ L ∧ hasS zs (cS (buildL L zs) k) := by
  obtain ⟨v, x, n, z, h1, h2, h3, h4, h5, h6, h7, h8, h9, h10, h11⟩ := cell_fact hT hk
  have hL : L ≤ 9 := by have := hT.1; omega
  obtain ⟨g1, g2, g3, g4⟩ := bitsX_fact hL (x := x) (by omega) h10
  have hg : (buildL L zs).getD k (0, 0, 0) = ((v : Int), (bitsX L x : Int), (x : Int) * 2 ^ bitsX L x - ((2 ^ L : Nat) : Int)) := by rw [List.getD_eq_getElem?_getD, h7]; rfl
  have e1 : (x : Int) * 2 ^ bitsX L x = ((x * 2 ^ bitsX L x : Nat) : Int) := by simp
  have eS : cS (buildL L zs) k = (v : Int) := by unfold cS; rw [hg]
  have eB : cB (buildL L zs) k = bitsX L x := by unfold cB; rw [hg]; simp
  have eA : cA (buildL L zs) k = x * 2 ^ bitsX L x - 2 ^ L := by unfold cA; rw [hg, e1]; simp only []; omega
  have hA : ((cA (buildL L zs) k : Nat) : Int) = (x : Int) * 2 ^ bitsX L x - ((2 ^ L : Nat) : Int) := by rw [eA, e1]; omega
  rw [Nat.add_mul, Nat.one_mul, Nat.pow_succ] at g4
  refine ⟨?_, by omega, ?_, ?_⟩
  · rw [eS, eB, hA]; exact h7
  · rw [eA, eB]; omega
  · rw [eS]; exact ⟨v, z, rfl, h2, by rintro rfl; simp [absZ] at h4; omega⟩

theorem next_lt {L : Nat} {zs : List Int} (hT : okT (L : Int) zs) {k : Nat} (hk : k < 2 ^ L) (y : Nat) : cA (buildL L zs) k + y % 2 ^ cB (buildL L zs) k < 2 ^ L := by
  have h := (cell_use hT hk).2.2.1
  have := Nat.mod_lt y (show 0 < 2 ^ cB (buildL L zs) k from Nat.pow_pos (by omega))
  omega

theorem decF_total {L : Nat} {zs : List Int} (hT : okT (L : Int) zs) (N : Nat) : ∀ (r a b t : Nat) (l : List Int), a < 2 ^ L → b < 2 ^ L → decF (buildL L zs) N r a b t = some l → l.length = r ∧ ∀ s ∈ l, hasS zs s
  | 0, a, b, t, l, ha, hb, h => by
    unfold decF at h
    split at h
    · injection h with h; subst h; simp
    · cases h
  | r + 1, a, b, t, l, ha, hb, h => by
    unfold decF at h
    have hs := (cell_use hT ha).2.2.2
    split at h
    · split at h
      · obtain ⟨l', h1, h2⟩ := Option.map_eq_some_iff.1 h
        obtain ⟨e1, e2⟩ := decF_total hT N r _ _ _ l' hb (next_lt hT ha _) h1
        subst h2
        exact ⟨by simp [e1], fun s hs' => by rcases List.mem_cons.1 hs' with rfl | hs'; exact hs; exact e2 s hs'⟩
      · cases h
    · obtain ⟨l', h1, h2⟩ := Option.map_eq_some_iff.1 h
      obtain ⟨e1, e2⟩ := decF_total hT N r _ _ _ l' hb ha h1
      subst h2
      exact ⟨by simp [e1], fun s hs' => by rcases List.mem_cons.1 hs' with rfl | hs'; exact hs; exact e2 s hs'⟩

theorem startF_total {L : Nat} {zs : List Int} (hT : okT (L : Int) zs) {N n T : Nat} {l : List Int} (h : startF (buildL L zs) L N n T = some l) : l.length = n ∧ ∀ s ∈ l, hasS zs s := by
  have hp : 0 < 2 ^ L := Nat.pow_pos (by omega)
  unfold startF at h
  split at h
  · next h0 => subst h0; exact decF_total hT N 0 0 0 T l hp hp h
  · split at h
    · cases h
    · split at h
      · next h1 => subst h1; exact decF_total hT N 1 _ 0 _ l (Nat.mod_lt _ hp) hp h
      · split at h
        · cases h
        · exact decF_total hT N n _ _ _ l (Nat.mod_lt _ hp) (Nat.mod_lt _ hp) h

/-! ### One bit more at the beginning, one less -/
theorem more_bits (N d t b : Nat) (hb : b ≤ 1) (hd : d ≤ t) : (2 * N + b) / 2 ^ (t + 1 - d) = N / 2 ^ (t - d) := by
  rw [show t + 1 - d = (t - d) + 1 from by omega, Nat.pow_succ', ← Nat.div_div_eq_div_mul, show (2 * N + b) / 2 = N from by omega]
theorem less_bits (N d t : Nat) (hd : d + 1 ≤ t) : N / 2 / 2 ^ (t - 1 - d) = N / 2 ^ (t - d) := by
  rw [Nat.div_div_eq_div_mul, ← Nat.pow_succ', show (t - 1 - d).succ = t - d from by omega]

theorem decF_more (C : List CellT) (N x : Nat) (hx : x ≤ 1) : ∀ (r a b t : Nat) (l : List Int), decF C N r a b t = some l → decF C (2 * N + x) r a b (t + 1) = none
  | 0, a, b, t, l, h => by unfold decF; rw [if_neg (by omega)]
  | r + 1, a, b, t, l, h => by
    unfold decF at h ⊢
    split at h
    · next h2 =>
      rw [if_pos h2]
      split at h
      · next h3 =>
        obtain ⟨l', h1, _⟩ := Option.map_eq_some_iff.1 h
        rw [if_pos (by omega), more_bits N _ t x hx h3, show t + 1 - cB C a = t - cB C a + 1 from by omega, decF_more C N x hx r _ _ _ l' h1]
        rfl
      · cases h
    · next h2 =>
      obtain ⟨l', h1, _⟩ := Option.map_eq_some_iff.1 h
      rw [if_neg h2, decF_more C N x hx r _ _ _ l' h1]
      rfl

theorem startF_more (C : List CellT) (L N n T x : Nat) (hx : x ≤ 1) {l : List Int} (h : startF C L N n T = some l) : startF C L (2 * N + x) n (T + 1) = none := by
  unfold startF at h ⊢
  split at h
  · next h0 => rw [if_pos h0]; exact decF_more C N x hx _ _ _ _ _ h
  · next h0 =>
    rw [if_neg h0]
    split at h
    · cases h
    · next h1 =>
      rw [if_neg (by omega)]
      split at h
      · next h2 =>
        rw [if_pos h2, more_bits N _ T x hx (by omega), show T + 1 - L = T - L + 1 from by omega]
        exact decF_more C N x hx _ _ _ _ _ h
      · next h2 =>
        rw [if_neg h2]
        split at h
        · cases h
        · next h3 =>
          have e1 := more_bits N L T x hx (by omega)
          have e2 := more_bits N (L + L) T x hx (by omega)
          rw [if_neg (by omega), e1, show T + 1 - L - L = T + 1 - (L + L) from by omega, e2, show T + 1 - (L + L) = T - L - L + 1 from by omega, show T - (L + L) = T - L - L from by omega]
          exact decF_more C N x hx _ _ _ _ _ h

theorem decF_less (C : List CellT) (N : Nat) : ∀ (r a b t : Nat) (l : List Int), 1 ≤ t → decF C N r a b t = some l → decF C (N / 2) r a b (t - 1) = none
  | 0, a, b, t, l, ht, h => by unfold decF at h; rw [if_neg (by omega)] at h; cases h
  | r + 1, a, b, t, l, ht, h => by
    unfold decF at h ⊢
    split at h
    · next h2 =>
      rw [if_pos h2]
      split at h
      · next h3 =>
        obtain ⟨l', h1, _⟩ := Option.map_eq_some_iff.1 h
        by_cases h4 : cB C a ≤ t - 1
        · rw [if_pos h4, less_bits N _ t (by omega), show t - 1 - cB C a = t - cB C a - 1 from by omega, decF_less C N r _ _ _ l' (by omega) h1]
          rfl
        · rw [if_neg h4]
      · cases h
    · next h2 =>
      obtain ⟨l', h1, _⟩ := Option.map_eq_some_iff.1 h
      rw [if_neg h2, decF_less C N r _ _ _ l' ht h1]
      rfl

theorem startF_less (C : List CellT) (L N n T : Nat) (ht : 1 ≤ T) {l : List Int} (h : startF C L N n T = some l) : startF C L (N / 2) n (T - 1) = none := by
  unfold startF at h ⊢
  split at h
  · next h0 => rw [if_pos h0]; exact decF_less C N _ _ _ _ _ ht h
  · next h0 =>
    rw [if_neg h0]
    split at h
    · cases h
    · next h1 =>
      by_cases h5 : T - 1 < L
      · rw [if_pos h5]
      rw [if_neg h5]
      split at h
      · next h2 =>
        rw [if_pos h2, less_bits N _ T (by omega), show T - 1 - L = T - L - 1 from by omega]
        exact decF_less C N _ _ _ _ _ (by omega) h
      · next h2 =>
        rw [if_neg h2]
        split at h
        · cases h
        · next h3 =>
          by_cases h6 : T - 1 - L < L
          · rw [if_pos h6]
          have e1 := less_bits N L T (by omega)
          have e2 := less_bits N (L + L) T (by omega)
          rw [if_neg h6, e1, show T - 1 - L - L = T - 1 - (L + L) from by omega, e2, show T - 1 - (L + L) = T - L - L - 1 from by omega, show T - (L + L) = T - L - L from by omega]
          exact decF_less C N _ _ _ _ _ (by omega) h
end Go.Proofs.Ytemiaagaggjbiaa
