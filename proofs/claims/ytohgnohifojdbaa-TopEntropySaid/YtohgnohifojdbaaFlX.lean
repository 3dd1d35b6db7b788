/- Texts put together: FlA, FlB, FlC. -/
import Derived.Test.YtohgnohifojdbaaSt1
namespace Go.Proofs.Ytohgnohifojdbaa
section
set_option maxRecDepth 8000
set_option linter.unusedVariables false

/-- A cell of state k: symbol, number of bits, base. -/
def cS (C : List CellT) (k : Nat) : Int := (C.getD k (0, 0, 0)).1
def cB (C : List CellT) (k : Nat) : Nat := (C.getD k (0, 0, 0)).2.1.toNat
def cA (C : List CellT) (k : Nat) : Nat := (C.getD k (0, 0, 0)).2.2.toNat

/-- Symbols to come, the state whose turn it is, the other one, the bits left of N. -/
def decF (C : List CellT) (N : Nat) : Nat → Nat → Nat → Nat → Option (List Int)
  | 0, _, _, t => if t = 0 then some [] else none
  | r + 1, now, other, t =>
    if 2 ≤ r then
      if cB C now ≤ t then (decF C N r other (cA C now + N / 2 ^ (t - cB C now) % 2 ^ cB C now) (t - cB C now)).map (cS C now :: ·) else none
    else (decF C N r other now t).map (cS C now :: ·)

def startF (C : List CellT) (L N n T : Nat) : Option (List Int) :=
  if n = 0 then decF C N 0 0 0 T else if T < L then none else if n = 1 then decF C N 1 (N / 2 ^ (T - L) % 2 ^ L) 0 (T - L)
  else if T - L < L then none else decF C N n (N / 2 ^ (T - L) % 2 ^ L) (N / 2 ^ (T - L - L) % 2 ^ L) (T - L - L)

def hasS (zs : List Int) (s : Int) : Prop := ∃ (v : Nat) (z : Int), s = (v : Int) ∧ zs[v]? = some z ∧ z ≠ 0

theorem cell_use {L : Nat} {zs : List Int} (hT : okT (L : Int) zs) {k : Nat} (hk : k < 2 ^ L) :
    (buildL L zs)[k]? = some (cS (buildL L zs) k, (cB (buildL L zs) k : Int), (cA (buildL L zs) k : Int)) ∧ cB (buildL L zs) k ≤ L ∧ cA (buildL L zs) k + 2 ^ cB (buildL L zs) k ≤ 2 ^ L ∧ hasS zs (cS (buildL L zs) k) := by
  obtain ⟨v, x, n, z, h1, h2, h3, h4, h5, h6, h7, h8, h9, h10, h11⟩ := cell_fact hT hk
  have hL : L ≤ 9 := by have := hT.1; omega
  obtain ⟨g1, g2, g3, g4⟩ := bitsX_fact hL (x := x) (by omega) h10
  have hg : (buildL L zs).getD k (0, 0, 0) = ((v : Int), (bitsX L x : Int), (x : Int) * 2 ^ bitsX L x - ((2 ^ L : Nat) : Int)) := by rw [List.getD_eq_getElem?_getD, h7]; rfl
  have e1 : (x : Int) * 2 ^ bitsX L x = ((x * 2 ^ bitsX L x : Nat) : Int) := by simp
  have eS : cS (buildL L zs) k = (v : Int) := by unfold cS; rw [hg]
  have eB : cB (buildL L zs) k = bitsX L x := by unfold cB; rw [hg]; simp
  have eA : cA (buildL L zs) k = x * 2 ^ bitsX L x - 2 ^ L := by unfold cA; rw [hg, e1]; simp only []; omega
  have hA : ((cA (buildL L zs) k : Nat) : Int) = (x : Int) * 2 ^ bitsX L x - ((2 ^ L : Nat) : Int) := by rw [eA, e1]; omega
  rw [Nat.add_mul, Nat.one_mul, Nat.pow_succ] at g4
  refine ⟨?_, by omega, ?_, ?_⟩
  · rw [eS, eB, hA]; exact h7
  · rw [eA, eB]; omega
  · rw [eS]; exact ⟨v, z, rfl, h2, by rintro rfl; simp [absZ] at h4; omega⟩

theorem next_lt {L : Nat} {zs : List Int} (hT : okT (L : Int) zs) {k : Nat} (hk : k < 2 ^ L) (y : Nat) : cA (buildL L zs) k + y % 2 ^ cB (buildL L zs) k < 2 ^ L := by
  have h := (cell_use hT hk).2.2.1
  have := Nat.mod_lt y (show 0 < 2 ^ cB (buildL L zs) k from Nat.pow_pos (by omega))
  omega

theorem decF_total {L : Nat} {zs : List Int} (hT : okT (L : Int) zs) (N : Nat) : ∀ (r a b t : Nat) (l : List Int), a < 2 ^ L → b < 2 ^ L → decF (buildL L zs) N r a b t = some l → l.length = r ∧ ∀ s ∈ l, hasS zs s
  | 0, a, b, t, l, ha, hb, h => by
    unfold decF at h
    split at h
    · injection h with h; subst h; simp
    · cases h
  | r + 1, a, b, t, l, ha, hb, h => by
    unfold decF at h
    have hs := (cell_use hT ha).2.2.2
    split at h
    · split at h
      · obtain ⟨l', h1, h2⟩ := Option.map_eq_some_iff.1 h
        obtain ⟨e1, e2⟩ := decF_total hT N r _ _ _ l' hb (next_lt hT ha _) h1
        subst h2
        exact ⟨by simp [e1], fun s hs' => by rcases List.mem_cons.1 hs' with rfl | hs'; exact hs; exact e2 s hs'⟩
      · cases h
    · obtain ⟨l', h1, h2⟩ := Option.map_eq_some_iff.1 h
      obtain ⟨e1, e2⟩ := decF_total hT N r _ _ _ l' hb ha h1
      subst h2
      exact ⟨by simp [e1], fun s hs' => by rcases List.mem_cons.1 hs' with rfl | hs'; exact hs; exact e2 s hs'⟩

theorem startF_total {L : Nat} {zs : List Int} (hT : okT (L : Int) zs) {N n T : Nat} {l : List Int} (h : startF (buildL L zs) L N n T = some l) : l.length = n ∧ ∀ s ∈ l, hasS zs s := by
  have hp : 0 < 2 ^ L := Nat.pow_pos (by omega)
  unfold startF at h
  split at h
  · next h0 => subst h0; exact decF_total hT N 0 0 0 T l hp hp h
  · split at h
    · cases h
    · split at h
      · next h1 => subst h1; exact decF_total hT N 1 _ 0 _ l (Nat.mod_lt _ hp) hp h
      · split at h
        · cases h
        · exact decF_total hT N n _ _ _ l (Nat.mod_lt _ hp) (Nat.mod_lt _ hp) h

/-! ### One bit more at the beginning, one less -/
theorem more_bits (N d t b : Nat) (hb : b ≤ 1) (hd : d ≤ t) : (2 * N + b) / 2 ^ (t + 1 - d) = N / 2 ^ (t - d) := by
  rw [show t + 1 - d = (t - d) + 1 from by omega, Nat.pow_succ', ← Nat.div_div_eq_div_mul, show (2 * N + b) / 2 = N from by omega]
theorem less_bits (N d t : Nat) (hd : d + 1 ≤ t) : N / 2 / 2 ^ (t - 1 - d) = N / 2 ^ (t - d) := by
  rw [Nat.div_div_eq_div_mul, ← Nat.pow_succ', show (t - 1 - d).succ = t - d from by omega]

theorem decF_more (C : List CellT) (N x : Nat) (hx : x ≤ 1) : ∀ (r a b t : Nat) (l : List Int), decF C N r a b t = some l → decF C (2 * N + x) r a b (t + 1) = none
  | 0, a, b, t, l, h => by unfold decF; rw [if_neg (by omega)]
  | r + 1, a, b, t, l, h => by
    unfold decF at h ⊢
    split at h
    · next h2 =>
      rw [if_pos h2]
      split at h
      · next h3 =>
        obtain ⟨l', h1, _⟩ := Option.map_eq_some_iff.1 h
        rw [if_pos (by omega), more_bits N _ t x hx h3, show t + 1 - cB C a = t - cB C a + 1 from by omega, decF_more C N x hx r _ _ _ l' h1]
        rfl
      · cases h
    · next h2 =>
      obtain ⟨l', h1, _⟩ := Option.map_eq_some_iff.1 h
      rw [if_neg h2, decF_more C N x hx r _ _ _ l' h1]
      rfl

theorem startF_more (C : List CellT) (L N n T x : Nat) (hx : x ≤ 1) {l : List Int} (h : startF C L N n T = some l) : startF C L (2 * N + x) n (T + 1) = none := by
  unfold startF at h ⊢
  split at h
  · next h0 => rw [if_pos h0]; exact decF_more C N x hx _ _ _ _ _ h
  · next h0 =>
    rw [if_neg h0]
    split at h
    · cases h
    · next h1 =>
      rw [if_neg (by omega)]
      split at h
      · next h2 =>
        rw [if_pos h2, more_bits N _ T x hx (by omega), show T + 1 - L = T - L + 1 from by omega]
        exact decF_more C N x hx _ _ _ _ _ h
      · next h2 =>
        rw [if_neg h2]
        split at h
        · cases h
        · next h3 =>
          have e1 := more_bits N L T x hx (by omega)
          have e2 := more_bits N (L + L) T x hx (by omega)
          rw [if_neg (by omega), e1, show T + 1 - L - L = T + 1 - (L + L) from by omega, e2, show T + 1 - (L + L) = T - L - L + 1 from by omega, show T - (L + L) = T - L - L from by omega]
          exact decF_more C N x hx _ _ _ _ _ h

theorem decF_less (C : List CellT) (N : Nat) : ∀ (r a b t : Nat) (l : List Int), 1 ≤ t → decF C N r a b t = some l → decF C (N / 2) r a b (t - 1) = none
  | 0, a, b, t, l, ht, h => by unfold decF at h; rw [if_neg (by omega)] at h; cases h
  | r + 1, a, b, t, l, ht, h => by
    unfold decF at h ⊢
    split at h
    · next h2 =>
      rw [if_pos h2]
      split at h
      · next h3 =>
        obtain ⟨l', h1, _⟩ := Option.map_eq_some_iff.1 h
        by_cases h4 : cB C a ≤ t - 1
        · rw [if_pos h4, less_bits N _ t (by omega), show t - 1 - cB C a = t - cB C a - 1 from by omega, decF_less C N r _ _ _ l' (by omega) h1]
          rfl
        · rw [if_neg h4]
      · cases h
    · next h2 =>
      obtain ⟨l', h1, _⟩ := Option.map_eq_some_iff.1 h
      rw [if_neg h2, decF_less C N r _ _ _ l' ht h1]
      rfl

theorem startF_less (C : List CellT) (L N n T : Nat) (ht : 1 ≤ T) {l : List Int} (h : startF C L N n T = some l) : startF C L (N / 2) n (T - 1) = none := by
  unfold startF at h ⊢
  split at h
  · next h0 => rw [if_pos h0]; exact decF_less C N _ _ _ _ _ ht h
  · next h0 =>
    rw [if_neg h0]
    split at h
    · cases h
    · next h1 =>
      by_cases h5 : T - 1 < L
      · rw [if_pos h5]
      rw [if_neg h5]
      split at h
      · next h2 =>
        rw [if_pos h2, less_bits N _ T (by omega), show T - 1 - L = T - L - 1 from by omega]
        exact decF_less C N _ _ _ _ _ (by omega) h
      · next h2 =>
        rw [if_neg h2]
        split at h
        · cases h
        · next h3 =>
          by_cases h6 : T - 1 - L < L
          · rw [if_pos h6]
          have e1 := less_bits N L T (by omega)
          have e2 := less_bits N (L + L) T (by omega)
          rw [if_neg h6, e1, show T - 1 - L - L = T - 1 - (L + L) from by omega, e2, show T - 1 - (L + L) = T - L - L - 1 from by omega, show T - (L + L) = T - L - L from by omega]
          exact decF_less C N _ _ _ _ _ (by omega) h
end

section
set_option maxRecDepth 8000
set_option linter.unusedVariables false

def nOf (zs : List Int) (s : Int) : Nat := (absZ (normAt zs s.toNat)).toNat
def pN (L : Nat) (zs : List Int) (st : Nat) (s : Int) : Nat := predN 64 (st + 2 ^ L) (nOf zs s)
def pK (L : Nat) (zs : List Int) (st : Nat) (s : Int) : Nat := (posN (spreadL (2 ^ L) zs) s (2 ^ L)).getD (predX L (nOf zs s) st - nOf zs s) 0
def lowK (L : Nat) (zs : List Int) (s : Int) : Nat := (posN (spreadL (2 ^ L) zs) s (2 ^ L)).getD 0 0

/-- The state whose turn it is, the other one, the number of bits, their value: of the symbols from an index on. -/
def encF (L : Nat) (zs : List Int) : List Int → Nat × Nat × Nat × Nat
  | [] => (0, 0, 0, 0)
  | s :: r =>
    if r.length < 2 then (lowK L zs s, (encF L zs r).1, (encF L zs r).2.2.1, (encF L zs r).2.2.2)
    else (pK L zs (encF L zs r).2.1 s, (encF L zs r).1, (encF L zs r).2.2.1 + pN L zs (encF L zs r).2.1 s,
      (encF L zs r).2.2.2 + ((encF L zs r).2.1 + 2 ^ L) % 2 ^ pN L zs (encF L zs r).2.1 s * 2 ^ (encF L zs r).2.2.1)

def finT (L : Nat) (zs S : List Int) : Nat := (encF L zs S).2.2.1 + (if S.length = 0 then 0 else if S.length = 1 then L else L + L)
def finN (L : Nat) (zs S : List Int) : Nat := (encF L zs S).2.2.2 + (if S.length = 0 then 0 else if S.length = 1 then (encF L zs S).1 * 2 ^ (encF L zs S).2.2.1
  else (encF L zs S).2.1 * 2 ^ (encF L zs S).2.2.1 + (encF L zs S).1 * 2 ^ ((encF L zs S).2.2.1 + L))

theorem has_use {L : Nat} {zs : List Int} (hT : okT (L : Int) zs) {s : Int} (h : hasS zs s) : ∃ (v : Nat) (z : Int), s = (v : Int) ∧ v < zs.length ∧ zs[v]? = some z ∧ z ≠ 0 ∧ absZ z = ((nOf zs s : Nat) : Int) ∧ 0 < nOf zs s := by
  obtain ⟨v, z, rfl, h1, h2⟩ := h
  have hn : normAt zs (v : Int).toNat = z := by
    rw [Int.toNat_natCast]
    unfold normAt
    first | rw [List.getD_eq_getElem?_getD, h1]; rfl | simp [h1]
  have h3 : absZ z = ((nOf zs (v : Int) : Nat) : Int) := by
    unfold nOf
    rw [hn]
    have := absZ_nonneg z
    omega
  have hv : v < zs.length := by
    rcases Nat.lt_or_ge v zs.length with h | h
    · exact h
    · rw [List.getElem?_eq_none h] at h1; cases h1
  refine ⟨v, z, rfl, hv, h1, h2, h3, ?_⟩
  unfold absZ at h3
  omega

/-- The predecessor: its cell. -/
theorem pred_use {L : Nat} {zs : List Int} (hT : okT (L : Int) zs) {s : Int} (h : hasS zs s) {st : Nat} (hst : st < 2 ^ L) :
    pK L zs st s < 2 ^ L ∧ pN L zs st s ≤ L ∧ cS (buildL L zs) (pK L zs st s) = s ∧ cB (buildL L zs) (pK L zs st s) = pN L zs st s ∧ cA (buildL L zs) (pK L zs st s) + (st + 2 ^ L) % 2 ^ pN L zs st s = st ∧
      (posN (spreadL (2 ^ L) zs) s (2 ^ L))[predX L (nOf zs s) st - nOf zs s]? = some (pK L zs st s) := by
  obtain ⟨v, z, rfl, h1, h2, h3, h4, h5⟩ := has_use hT h
  obtain ⟨k, k1, k2, k3, k4, k5, k6, k7⟩ := pred_cell hT h2 h4 h5 hst
  have hk : pK L zs st (v : Int) = k := by unfold pK; rw [List.getD_eq_getElem?_getD, k5]; rfl
  have hu := (cell_use hT k1).1
  rw [k7] at hu
  injection hu with hu
  injection hu with e1 e2
  injection e2 with e2 e3
  have e2' : cB (buildL L zs) k = pN L zs st (v : Int) := by unfold pN; omega
  refine ⟨by rw [hk]; exact k1, k6, by rw [hk]; exact e1.symm, by rw [hk]; exact e2', ?_, by rw [hk]; exact k5⟩
  rw [hk]
  have e4 : predX L (nOf zs (v : Int)) st = (st + 2 ^ L) / 2 ^ pN L zs st (v : Int) := rfl
  have e5 := Nat.div_add_mod (st + 2 ^ L) (2 ^ pN L zs st (v : Int))
  have e6 : ((predX L (nOf zs (v : Int)) st * 2 ^ predN 64 (st + 2 ^ L) (nOf zs (v : Int)) : Nat) : Int) = ((2 ^ pN L zs st (v : Int) * ((st + 2 ^ L) / 2 ^ pN L zs st (v : Int)) : Nat) : Int) := by rw [e4, Nat.mul_comm]; rfl
  rw [e6] at e3
  omega

theorem low_use {L : Nat} {zs : List Int} (hT : okT (L : Int) zs) {s : Int} (h : hasS zs s) :
    lowK L zs s < 2 ^ L ∧ cS (buildL L zs) (lowK L zs s) = s ∧ (posN (spreadL (2 ^ L) zs) s (2 ^ L))[0]? = some (lowK L zs s) := by
  obtain ⟨v, z, rfl, h1, h2, h3, h4, h5⟩ := has_use hT h
  obtain ⟨k, k1, k2, k3, k4, k5, k6, k7⟩ := pred_cell hT h2 h4 h5 (st := 0) (Nat.pow_pos (by omega))
  have hl : (spreadL (2 ^ L) zs).length = 2 ^ L := by
    first | exact spreadL_length _ _ | exact spreadL_len _ _ | exact spreadL_length hT | simp
  obtain ⟨i, i1, i2, i3, i4⟩ := posN_at (spreadL (2 ^ L) zs) (v : Int) (2 ^ L) 0 (by omega) (by omega)
  have hk : lowK L zs (v : Int) = i := by unfold lowK; rw [List.getD_eq_getElem?_getD, i1]; rfl
  obtain ⟨v', x, n, z', g1, g2, g3, g4, g5, g6, g7, g8, g9⟩ := cell_fact hT i2
  rw [i3] at g6
  injection g6 with g6
  refine ⟨by omega, ?_, by rw [hk]; exact i1⟩
  rw [hk]
  unfold cS
  rw [List.getD_eq_getElem?_getD, g7]
  exact g6.symm

theorem encF_fact {L : Nat} {zs : List Int} (hT : okT (L : Int) zs) : ∀ S : List Int, (∀ s ∈ S, hasS zs s) →
    (encF L zs S).1 < 2 ^ L ∧ (encF L zs S).2.1 < 2 ^ L ∧ (encF L zs S).2.2.2 < 2 ^ (encF L zs S).2.2.1 ∧ (encF L zs S).2.2.1 ≤ L * (S.length - 2)
  | [], _ => by
    have hp : 0 < 2 ^ L := Nat.pow_pos (by omega)
    simp [encF, hp]
  | s :: r, h => by
    obtain ⟨h1, h2, h3, h4⟩ := encF_fact hT r (fun x hx => h x (List.mem_cons_of_mem _ hx))
    have hs := h s (List.mem_cons_self ..)
    unfold encF
    by_cases hr : r.length < 2
    · rw [if_pos hr]
      refine ⟨(low_use hT hs).1, h1, h3, ?_⟩
      have : r.length - 2 = 0 := by omega
      rw [this] at h4
      simp only [List.length_cons]
      omega
    · rw [if_neg hr]
      obtain ⟨p1, p2, p3, p4, p5, p6⟩ := pred_use hT hs h2
      refine ⟨p1, h1, ?_, ?_⟩
      · have hm := Nat.mod_lt ((encF L zs r).2.1 + 2 ^ L) (show 0 < 2 ^ pN L zs (encF L zs r).2.1 s from Nat.pow_pos (by omega))
        have := Nat.mul_le_mul_right (2 ^ (encF L zs r).2.2.1) hm
        show (encF L zs r).2.2.2 + ((encF L zs r).2.1 + 2 ^ L) % 2 ^ pN L zs (encF L zs r).2.1 s * 2 ^ (encF L zs r).2.2.1 < 2 ^ ((encF L zs r).2.2.1 + pN L zs (encF L zs r).2.1 s)
        rw [Nat.pow_add, Nat.mul_comm (2 ^ (encF L zs r).2.2.1)]
        rw [Nat.succ_mul] at this
        omega
      · have : (s :: r).length - 2 = r.length - 2 + 1 := by simp only [List.length_cons]; omega
        rw [this, Nat.mul_succ]
        simp only []
        omega

theorem slice_mod {M X a b T c : Nat} (h : M % 2 ^ T = X) (hc : a + b ≤ T) : M / 2 ^ a % 2 ^ b = X / 2 ^ a % 2 ^ b := by
  subst h
  have e : 2 ^ T = 2 ^ a * 2 ^ (T - a) := by rw [← Nat.pow_add]; congr 1; omega
  rw [e, Nat.mod_mul_right_div_self, Nat.mod_mod_of_dvd]
  exact Nat.pow_dvd_pow 2 (by omega)

theorem decF_enc {L : Nat} {zs : List Int} (hT : okT (L : Int) zs) : ∀ (S : List Int) (N : Nat), (∀ s ∈ S, hasS zs s) → N % 2 ^ (encF L zs S).2.2.1 = (encF L zs S).2.2.2 →
    decF (buildL L zs) N S.length (encF L zs S).1 (encF L zs S).2.1 (encF L zs S).2.2.1 = some S
  | [], N, _, h => by simp [encF, decF]
  | s :: r, N, h, hN => by
    have hr := fun x hx => h x (List.mem_cons_of_mem s hx)
    have ih := decF_enc hT r N hr
    obtain ⟨h1, h2, h3, h4⟩ := encF_fact hT r hr
    have hs := h s (List.mem_cons_self ..)
    unfold encF at hN ⊢
    by_cases hl : r.length < 2
    · rw [if_pos hl] at hN ⊢
      simp only [List.length_cons] at hN ⊢
      unfold decF
      rw [if_neg (by omega), (low_use hT hs).2.1]
      have ih' := ih hN
      have h0 : r.length - 2 = 0 := by omega
      have hz : (encF L zs r).2.2.1 = 0 := by rw [h0] at h4; omega
      match r, hl with
      | [], _ => simp [encF, decF]
      | [s2], _ =>
        have hs2 := hr s2 (List.mem_cons_self ..)
        simp [encF, decF, (low_use hT hs2).2.1]
    · rw [if_neg hl] at hN ⊢
      obtain ⟨p1, p2, p3, p4, p5, p6⟩ := pred_use hT hs h2
      simp only [List.length_cons] at hN ⊢
      have hm := Nat.mod_lt ((encF L zs r).2.1 + 2 ^ L) (show 0 < 2 ^ pN L zs (encF L zs r).2.1 s from Nat.pow_pos (by omega))
      have e1 : N / 2 ^ (encF L zs r).2.2.1 % 2 ^ pN L zs (encF L zs r).2.1 s = ((encF L zs r).2.1 + 2 ^ L) % 2 ^ pN L zs (encF L zs r).2.1 s := by
        rw [slice_mod (c := 0) hN (Nat.le_refl _), Nat.add_mul_div_right _ _ (Nat.pow_pos (by omega)), Nat.div_eq_of_lt h3, Nat.zero_add, Nat.mod_eq_of_lt hm]
      have e2 : N % 2 ^ (encF L zs r).2.2.1 = (encF L zs r).2.2.2 := by
        have := congrArg (· % 2 ^ (encF L zs r).2.2.1) hN
        rw [Nat.mod_mod_of_dvd _ (Nat.pow_dvd_pow 2 (by omega)), Nat.add_mul_mod_self_right, Nat.mod_eq_of_lt h3] at this
        exact this
      unfold decF
      rw [if_pos (by omega), p4, if_pos (by omega), p3, show (encF L zs r).2.2.1 + pN L zs (encF L zs r).2.1 s - pN L zs (encF L zs r).2.1 s = (encF L zs r).2.2.1 from by omega, e1, p5, ih e2]
      rfl

theorem finN_lt {L : Nat} {zs : List Int} (hT : okT (L : Int) zs) {S : List Int} (h : ∀ s ∈ S, hasS zs s) : finN L zs S < 2 ^ finT L zs S ∧ finT L zs S ≤ L * S.length := by
  obtain ⟨h1, h2, h3, h4⟩ := encF_fact hT S h
  unfold finN finT
  generalize (encF L zs S).1 = a at *
  generalize (encF L zs S).2.1 = b at *
  generalize (encF L zs S).2.2.1 = t at *
  generalize (encF L zs S).2.2.2 = x at *
  by_cases e0 : S.length = 0
  · rw [if_pos e0, if_pos e0]; rw [e0] at h4 ⊢; simp at h4 ⊢; subst h4; omega
  rw [if_neg e0, if_neg e0]
  by_cases e1 : S.length = 1
  · rw [if_pos e1, if_pos e1]
    rw [e1] at h4 ⊢
    have := Nat.mul_le_mul_right (2 ^ t) h1
    rw [Nat.succ_mul] at this
    rw [Nat.pow_add, Nat.mul_comm (2 ^ t)]
    refine ⟨by omega, ?_⟩
    simp at h4
    omega
  rw [if_neg e1, if_neg e1]
  have u1 := Nat.mul_le_mul_right (2 ^ t) h2
  have u2 := Nat.mul_le_mul_right (2 ^ (t + L)) h1
  rw [Nat.succ_mul] at u1 u2
  have e2 : 2 ^ L * 2 ^ t = 2 ^ (t + L) := by rw [Nat.pow_add, Nat.mul_comm]
  have e3 : 2 ^ L * 2 ^ (t + L) = 2 ^ (t + (L + L)) := by rw [← Nat.pow_add]; congr 1; omega
  rw [e2] at u1
  rw [e3] at u2
  refine ⟨by omega, ?_⟩
  have : S.length = S.length - 2 + 2 := by omega
  rw [this, Nat.mul_add]
  omega

theorem startF_enc {L : Nat} {zs : List Int} (hT : okT (L : Int) zs) {S : List Int} (h : ∀ s ∈ S, hasS zs s) {N : Nat} (hN : N % 2 ^ finT L zs S = finN L zs S) : startF (buildL L zs) L N S.length (finT L zs S) = some S := by
  obtain ⟨h1, h2, h3, h4⟩ := encF_fact hT S h
  have hd := decF_enc hT S N h
  unfold finT finN at hN
  unfold startF finT
  by_cases e0 : S.length = 0
  · rw [if_pos e0] at hN ⊢
    rw [if_pos e0] at hN ⊢
    have : S = [] := List.eq_nil_of_length_eq_zero e0
    subst this
    simp [encF, decF]
  rw [if_neg e0] at hN ⊢
  rw [if_neg e0] at hN ⊢
  by_cases e1 : S.length = 1
  · rw [if_pos e1] at hN ⊢
    rw [if_pos e1] at hN ⊢
    rw [if_neg (by omega)]
    have q1 : (encF L zs S).2.2.1 + L - L = (encF L zs S).2.2.1 := by omega
    rw [q1, slice_mod (c := 0) hN (Nat.le_refl _), Nat.add_mul_div_right _ _ (Nat.pow_pos (by omega)), Nat.div_eq_of_lt h3, Nat.zero_add, Nat.mod_eq_of_lt h1]
    have hN2 : N % 2 ^ (encF L zs S).2.2.1 = (encF L zs S).2.2.2 := by
      have := congrArg (· % 2 ^ (encF L zs S).2.2.1) hN
      rw [Nat.mod_mod_of_dvd _ (Nat.pow_dvd_pow 2 (by omega)), Nat.add_mul_mod_self_right, Nat.mod_eq_of_lt h3] at this
      exact this
    have := hd hN2
    rw [e1] at this
    match S, e1 with
    | [s], _ => exact this
  rw [if_neg e1] at hN ⊢
  rw [if_neg e1] at hN ⊢
  have q1 : (encF L zs S).2.2.1 + (L + L) - L = (encF L zs S).2.2.1 + L := by omega
  have q2 : (encF L zs S).2.2.1 + L - L = (encF L zs S).2.2.1 := by omega
  rw [if_neg (by omega), q1, if_neg (by omega), q2]
  have hx : (encF L zs S).2.2.2 + ((encF L zs S).2.1 * 2 ^ (encF L zs S).2.2.1 + (encF L zs S).1 * 2 ^ ((encF L zs S).2.2.1 + L)) = (encF L zs S).2.2.2 + ((encF L zs S).2.1 + (encF L zs S).1 * 2 ^ L) * 2 ^ (encF L zs S).2.2.1 := by
    rw [Nat.add_mul, Nat.mul_assoc, ← Nat.pow_add, Nat.add_comm L]
  rw [hx] at hN
  have f1 : N / 2 ^ (encF L zs S).2.2.1 % 2 ^ (L + L) = (encF L zs S).2.1 + (encF L zs S).1 * 2 ^ L := by
    rw [slice_mod (c := 0) hN (Nat.le_refl _), Nat.add_mul_div_right _ _ (Nat.pow_pos (by omega)), Nat.div_eq_of_lt h3, Nat.zero_add, Nat.mod_eq_of_lt]
    have := Nat.mul_le_mul_right (2 ^ L) h1
    rw [Nat.succ_mul] at this
    rw [Nat.pow_add]
    omega
  have f2 : N / 2 ^ ((encF L zs S).2.2.1 + L) % 2 ^ L = (encF L zs S).1 := by
    have := slice_mod (a := L) (b := L) (c := 0) f1 (Nat.le_refl _)
    rw [Nat.add_mul_div_right _ _ (Nat.pow_pos (by omega)), Nat.div_eq_of_lt h2, Nat.zero_add, Nat.mod_eq_of_lt h1, Nat.div_div_eq_div_mul, ← Nat.pow_add] at this
    exact this
  have f3 : N / 2 ^ (encF L zs S).2.2.1 % 2 ^ L = (encF L zs S).2.1 := by
    have := congrArg (· % 2 ^ L) f1
    rw [Nat.mod_mod_of_dvd _ (Nat.pow_dvd_pow 2 (by omega)), Nat.add_mul_mod_self_right, Nat.mod_eq_of_lt h2] at this
    exact this
  have hN2 : N % 2 ^ (encF L zs S).2.2.1 = (encF L zs S).2.2.2 := by
    have := congrArg (· % 2 ^ (encF L zs S).2.2.1) hN
    rw [Nat.mod_mod_of_dvd _ (Nat.pow_dvd_pow 2 (by omega)), Nat.add_mul_mod_self_right, Nat.mod_eq_of_lt h3] at this
    exact this
  rw [f2, f3]
  exact hd hN2
end

section
set_option maxRecDepth 8000
set_option linter.unusedVariables false

/-- k states are taken: the two states and the bits left. -/
def Ini (L N n T k a b t : Nat) : Prop :=
  (k = 0 ∧ a = 0 ∧ b = 0 ∧ t = T) ∨ (k = 1 ∧ 1 ≤ n ∧ L ≤ T ∧ a = N / 2 ^ (T - L) % 2 ^ L ∧ b = 0 ∧ t = T - L) ∨
    (k = 2 ∧ 2 ≤ n ∧ L ≤ T ∧ L ≤ T - L ∧ a = N / 2 ^ (T - L) % 2 ^ L ∧ b = N / 2 ^ (T - L - L) % 2 ^ L ∧ t = T - L - L)

theorem Ini.le {L N n T k a b t : Nat} (h : Ini L N n T k a b t) : t ≤ T ∧ k ≤ 2 := by
  rcases h with h | h | h <;> omega
theorem Ini.lt {L N n T k a b t : Nat} (h : Ini L N n T k a b t) : a < 2 ^ L ∧ b < 2 ^ L := by
  have hp : 0 < 2 ^ L := Nat.pow_pos (by omega)
  rcases h with ⟨_, rfl, rfl, _⟩ | ⟨_, _, _, rfl, rfl, _⟩ | ⟨_, _, _, _, rfl, rfl, _⟩
  · exact ⟨hp, hp⟩
  · exact ⟨Nat.mod_lt _ hp, hp⟩
  · exact ⟨Nat.mod_lt _ hp, Nat.mod_lt _ hp⟩
theorem Ini.step0 {L N n T a b t : Nat} (h : Ini L N n T 0 a b t) (hn : 1 ≤ n) (ht : L ≤ t) : Ini L N n T 1 (N / 2 ^ (t - L) % 2 ^ L) b (t - L) := by
  rcases h with ⟨_, rfl, rfl, rfl⟩ | h | h
  · exact .inr (.inl ⟨rfl, hn, ht, rfl, rfl, rfl⟩)
  · omega
  · omega
theorem Ini.step1 {L N n T a b t : Nat} (h : Ini L N n T 1 a b t) (hn : 2 ≤ n) (ht : L ≤ t) : Ini L N n T 2 a (N / 2 ^ (t - L) % 2 ^ L) (t - L) := by
  rcases h with h | ⟨_, h1, h2, rfl, rfl, rfl⟩ | h
  · omega
  · exact .inr (.inr ⟨rfl, hn, h2, ht, rfl, rfl, rfl⟩)
  · omega
theorem Ini.few {C : List CellT} {L N n T k a b t : Nat} (h : Ini L N n T k a b t) (hn : k < n) (hk : k < 2) (ht : t < L) : startF C L N n T = none := by
  rcases h with ⟨rfl, rfl, rfl, rfl⟩ | ⟨rfl, h1, h2, rfl, rfl, rfl⟩ | h
  · unfold startF; rw [if_neg (by omega), if_pos ht]
  · unfold startF; rw [if_neg (by omega), if_neg (by omega), if_neg (by omega), if_pos ht]
  · omega
/-- The states are taken. -/
def Run (C : List CellT) (L N n T k a b t : Nat) (o : List Int) : Prop := startF C L N n T = (decF C N (n - k) a b t).map (o ++ ·)
theorem map_nil_append (o : Option (List Int)) : o.map (([] : List Int) ++ ·) = o := by cases o <;> rfl
theorem Ini.run {C : List CellT} {L N n T k a b t : Nat} (h : Ini L N n T k a b t) (hk : k = n ∨ k = 2) (hn : k ≤ n) : Run C L N n T 0 a b t [] := by
  unfold Run
  rw [map_nil_append, Nat.sub_zero]
  unfold startF
  rcases h with ⟨rfl, rfl, rfl, rfl⟩ | ⟨rfl, h1, h2, rfl, rfl, rfl⟩ | ⟨rfl, h1, h2, h3, rfl, rfl, rfl⟩
  · obtain rfl : n = 0 := by omega
    rw [if_pos rfl]
  · obtain rfl : n = 1 := by omega
    rw [if_neg (by omega), if_neg (by omega), if_pos rfl]
  · rw [if_neg (by omega), if_neg (by omega), if_neg (by omega), if_neg (by omega)]
theorem Run.end_ {C : List CellT} {L N n T a b t : Nat} {o : List Int} (h : Run C L N n T n a b t o) : startF C L N n T = if t = 0 then some o else none := by
  unfold Run at h
  rw [h, Nat.sub_self]
  unfold decF
  split <;> simp
theorem Run.few {C : List CellT} {L N n T k a b t : Nat} {o : List Int} (h : Run C L N n T k a b t o) (hk : k + 2 < n) (ht : t < cB C a) : startF C L N n T = none := by
  unfold Run at h
  rw [h]
  obtain ⟨r, hr⟩ : ∃ r, n - k = r + 1 := ⟨n - k - 1, by omega⟩
  rw [hr]
  unfold decF
  rw [if_pos (by omega), if_neg (by omega)]
  rfl
theorem Run.read {C : List CellT} {L N n T k a b t : Nat} {o : List Int} (h : Run C L N n T k a b t o) (hk : k + 2 < n) (ht : cB C a ≤ t) :
    Run C L N n T (k + 1) b (cA C a + N / 2 ^ (t - cB C a) % 2 ^ cB C a) (t - cB C a) (o ++ [cS C a]) := by
  unfold Run at h ⊢
  rw [h]
  obtain ⟨r, hr⟩ : ∃ r, n - k = r + 1 := ⟨n - k - 1, by omega⟩
  rw [hr, show n - (k + 1) = r from by omega]
  conv => lhs; unfold decF
  rw [if_pos (by omega), if_pos ht, Option.map_map]
  congr 1
  funext x
  simp
theorem Run.pass {C : List CellT} {L N n T k a b t : Nat} {o : List Int} (h : Run C L N n T k a b t o) (hk : k < n) (hk2 : ¬ k + 2 < n) : Run C L N n T (k + 1) b a t (o ++ [cS C a]) := by
  unfold Run at h ⊢
  rw [h]
  obtain ⟨r, hr⟩ : ∃ r, n - k = r + 1 := ⟨n - k - 1, by omega⟩
  rw [hr, show n - (k + 1) = r from by omega]
  conv => lhs; unfold decF
  rw [if_neg (by omega), Option.map_map]
  congr 1
  funext x
  simp
end

end Go.Proofs.Ytohgnohifojdbaa
