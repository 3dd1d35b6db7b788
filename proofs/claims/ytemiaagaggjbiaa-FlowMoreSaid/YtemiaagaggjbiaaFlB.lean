/- The encoder of flows as a function of numbers, and that the decoder undoes it (no program). -/
import Derived.Test.YtemiaagaggjbiaaFlA
namespace Go.Proofs.Ytemiaagaggjbiaa
set_option linter.unusedVariables false

def nOf (zs : List Int) (s : Int) : Nat := (absZ (normAt zs s.toNat)).toNat
def pN (L : Nat) (zs : List Int) (st : Nat) (s : Int) : Nat := predN 64 (st + 2 ^ L) (nOf zs s)
def pK (L : Nat) (zs : List Int) (st : Nat) (s : Int) : Nat := (posN (spreadL (2 ^ L) zs) s (2 ^ L)).getD (predX L (nOf zs s) st - nOf zs s) 0
def lowK (L : Nat) (zs : List Int) (s : Int) : Nat := (posN (spreadL (2 ^ L) zs) s (2 ^ L)).getD 0 0

/-- The state whose turn it is, the other one, the number of bits, their value: of the symbols from an index on. -/
def encF (L : Nat) (zs : List Int) : List Int → Nat × Nat × Nat × Nat
  | [] => (0, 0, 0, 0)
  | s :: r =>
    if r.length < 2 then (lowK L zs s, (encF L zs r).1, (encF L zs r).2.2.1, (encF L zs r).2.2.2)
    else (pK L zs (encF L zs r).2.1 s, (encF L zs r).1, (encF L zs r).2.2.1 + pN L zs (encF L zs r).2.1 s,
      (encF L zs r).2.2.2 + ((encF L zs r).2.1 + 2 ^ L) % 2 ^ pN L zs (encF L zs r).2.1 s * 2 ^ (encF L zs r).2.2.1)

def finT (L : Nat) (zs S : List Int) : Nat := (encF L zs S).2.2.1 + (if S.length = 0 then 0 else if S.length = 1 then L else L + L)
def finN (L : Nat) (zs S : List Int) : Nat := (encF L zs S).2.2.2 + (if S.length = 0 then 0 else if S.length = 1 then (encF L zs S).1 * 2 ^ (encF L zs S).2.2.1
  else (encF L zs S).2.1 * 2 ^ (encF L zs S).2.2.1 + (encF L zs S).1 * 2 ^ ((encF L zs S).2.2.1 + L))

theorem has_use {L : Nat} {zs : List Int} (hT : okT (L : Int) zs) {s : Int} (h : hasS zs s) : ∃ (v : Nat) (z : Int), s = (v : Int) ∧ v < zs.length ∧ zs[v]? = some z ∧ z ≠ 0 ∧ absZ z = ((nOf zs s : Nat) : Int) ∧ 0 < nOf zs s := by
  obtain ⟨v, z, rfl, h1, h2⟩ := h
  have hn : normAt zs (v : Int).toNat = z := by
    rw [Int.toNat_natCast]
    unfold normAt
    first | rw [List.getD_eq_getElem?_getD, h1]; rfl | simp [h1]
  have h3 : absZ z = ((nOf zs (v : Int) : Nat) : Int) := by
    unfold nOf
    rw [hn]
    have := absZ_nonneg z
    omega
  have hv : v < zs.length := by
    rcases Nat.lt_or_ge v zs.length with h | h
    · exact h
    · rw [List.getElem?_eq_none h] at h1; cases h1
  refine ⟨v, z, rfl, hv, h1, h2, h3, ?_⟩
  unfold absZ at h3
  omega

/-- The predecessor: its cell. -/
theorem pred_use {L : Nat} {zs : List Int} (hT : okT (L : Int) zs) {s : Int} (h : hasS zs s) {st : Nat} (hst : st < 2 ^ L) :
    pK L zs st s < 2 ^ L ∧ pN L zs st s ≤ L ∧ cS (buildL L zs) (pK L zs st s) = s ∧ cB (buildL L zs) (pK L zs st s) = pN L zs st s ∧ cA (buildL L zs) (pK L zs st s) + (st + 2 ^ L) % 2 ^ pN L zs st s = st ∧
      (posN (spreadL (2 ^ L) zs) s (2 ^ L))[predX L (nOf zs s) st - nOf zs s]? = some (pK L zs st s) := by
  obtain ⟨v, z, rfl, h1, h2, h3, h4, h5⟩ := has_use hT h
  obtain ⟨k, k1, k2, k3, k4, k5, k6, k7⟩ := pred_cell hT h2 h4 h5 hst
  have hk : pK L zs st (v : Int) = k := by unfold pK; rw [List.getD_eq_getElem?_getD, k5]; rfl
  have hu := (cell_use hT k1).1
  rw [k7] at hu
  injection hu with hu
  injection hu with e1 e2
  injection e2 with e2 e3
  have e2' : cB (buildL L zs) k = pN L zs st (v : Int) := by unfold pN; omega
  refine ⟨by rw [hk]; exact k1, k6, by rw [hk]; exact e1.symm, by rw [hk]; exact e2', ?_, by rw [hk]; exact k5⟩
  rw [hk]
  have e4 : predX L (nOf zs (v : Int)) st = (st + 2 ^ L) / 2 ^ pN L zs st (v : Int) := rfl
  have e5 := Nat.div_add_mod (st + 2 ^ L) (2 ^ pN L zs st (v : Int))
  have e6 : ((predX L (nOf zs (v : Int)) st * 2 ^ predN 64 (st + 2 ^ L) (nOf zs (v : Int)) : Nat) : Int) = ((2 ^ pN L zs st (v : Int) * ((st + 2 ^ L) / 2 ^ pN L zs st (v : Int)) : Nat) : Int) := by rw [e4, Nat.mul_comm]; rfl
  rw [e6] at e3
  omega

theorem low_use {L : Nat} {zs : List Int} (hT : okT (L : Int) zs) {s : Int} (h : hasS zs s) :
    lowK L zs s < 2 ^ L ∧ cS (buildL L zs) (lowK L zs s) = s ∧ (posN (spreadL (2 ^ L) zs) s (2 ^ L))[0]? = some (lowK L zs s) := by
  obtain ⟨v, z, rfl, h1, h2, h3, h4, h5⟩ := has_use hT h
  obtain ⟨k, k1, k2, k3, k4, k5, k6, k7⟩ := pred_cell hT h2 h4 h5 (st := 0) (Nat.pow_pos (by omega))
  have hl : (spreadL (2 ^ L) zs).length = 2 ^ L := by
    first | exact spreadL_length _ _ | exact spreadL_len _ _ | exact spreadL_length hT | simp
  obtain ⟨i, i1, i2, i3, i4⟩ := posN_at (spreadL (2 ^ L) zs) (v : Int) (2 ^ L) 0 (by omega) (by omega)
  have hk : lowK L zs (v : Int) = i := by unfold lowK; rw [List.getD_eq_getElem?_getD, i1]; rfl
  obtain ⟨v', x, n, z', g1, g2, g3, g4, g5, g6, g7, g8, g9⟩ := cell_fact hT i2
  rw [i3] at g6
  injection g6 with g6
  refine ⟨by omega, ?_, by rw [hk]; exact i1⟩
  rw [hk]
  unfold cS
  rw [List.getD_eq_getElem?_getD, g7]
  exact g6.symm

theorem encF_fact {L : Nat} {zs : List Int} (hT : okT (L : Int) zs) : ∀ S : List Int, (∀ s ∈ S, hasS zs s) →
    (encF L zs S).1 < 2 ^ L ∧ (encF L zs S).2.1 < 2 ^ L ∧ (encF L zs S).2.2.2 < 2 ^ (encF L zs S).2.2.1 ∧ (encF L zs S).2.2.1 ≤ L * (S.length - 2)
  | [], _ => by
    have hp : 0 < 2 ^ L := Nat.pow_pos (by omega)
    simp [encF, hp]
  | s :: r, h => by
    obtain ⟨h1, h2, h3, h4⟩ := encF_fact hT r (fun x hx => h x (List.mem_cons_of_mem _ hx))
    have hs := h s (List.mem_cons_self ..)
    unfold encF
    by_cases hr : r.length < 2
    · rw [if_pos hr]
      refine ⟨(low_use hT hs).1, h1, h3, ?_⟩
      have : r.length - 2 = 0 := by omega
      rw [this] at h4
      simp only [List.length_cons]
      omega
    · rw [if_neg hr]
      obtain ⟨p1, p2, p3, p4, p5, p6⟩ := pred_use hT hs h2
      refine ⟨p1, h1, ?_, ?_⟩
      · have hm := Nat.mod_lt ((encF L zs r).2.1 + 2 ^ L) (show 0 < 2 ^ pN L zs (encF L zs r).2.1 s from Nat.pow_pos (by omega))
        have := Nat.mul_le_mul_right (2 ^ (encF L zs r).2.2.1) hm
        show (encF L zs r).2.2.2 + ((encF L zs r).2.1 + 2 ^ L) % 2 ^ pN L zs (encF L zs r).2.1 s * 2 ^ (encF L zs r).2.2.1 < 2 ^ ((encF L zs r).2.2.1 + pN L zs (encF L zs r).2.1 s)
        rw [Nat.pow_add, Nat.mul_comm (2 ^ (encF L zs r).2.2.1)]
        rw [Nat.succ_mul] at this
        omega
      · have : (s :: r).length - 2 = r.length - 2 + 1 := by simp only [List.length_cons]; omega
        rw [this, Nat.mul_succ]
        simp only []
        omega

theorem slice_mod {M X a b T c : Nat} (h : M % 2 ^ T = X) (hc : a + b ≤ T) : M / 2 ^ a % 2 ^ b = X / 2 ^ a % 2 ^ b := by
  subst h
  have e : 2 ^ T = 2 ^ a * 2 ^ (T - a) := by rw [← Nat.pow_add]; congr 1; omega
  rw [e, Nat.mod_mul_right_div_self, Nat.mod_mod_of_dvd]
  exact Nat.pow_dvd_pow 2 (by omega)

theorem decF_enc {L : Nat} {zs : List Int} (hT : okT (L : Int) zs) : ∀ (S : List Int) (N : Nat), (∀ s ∈ S, hasS zs s) → N % 2 ^ (encF L zs S).2.2.1 = (encF L zs S).2.2.2 →
    decF (buildL L zs) N S.length (encF L zs S).1 (encF L zs S).2.1 (encF L zs S).2.2.1 = some S
  | [], N, _, h => by simp [encF, decF]
  | s :: r, N, h, hN => by
    have hr := fun x hx => h x (List.mem_cons_of_mem s hx)
    have ih := decF_enc hT r N hr
    obtain ⟨h1, h2, h3, h4⟩ := encF_fact hT r hr
    have hs := h s (List.mem_cons_self ..)
    unfold encF at hN ⊢
    by_cases hl : r.length < 2
    · rw [if_pos hl] at hN ⊢
      simp only [List.length_cons] at hN ⊢
      unfold decF
      rw [if_neg (by omega), (low_use hT hs).2.1]
      have ih' := ih hN
      have h0 : r.length - 2 = 0 := by omega
      have hz : (encF L zs r).2.2.1 = 0 := by rw [h0] at h4; omega
      match r, hl with
      | [], _ => simp [encF, decF]
      | [s2], _ =>
        have hs2 := hr s2 (List.mem_cons_self ..)
        simp [encF, decF, (low_use hT hs2).2.1]
    · rw [if_neg hl] at hN ⊢
      obtain ⟨p1, p2, p3, p4, p5, p6⟩ := pred_use hT hs h2
      simp only [List.length_cons] at hN ⊢
      have hm := Nat.mod_lt ((encF L zs r).2.1 + 2 ^ L) (show 0 < 2 ^ pN L zs (encF L zs r).2.1 s from Nat.pow_pos (by omega))
      have e1 : N / 2 ^ (encF L zs r).2.2.1 % 2 ^ pN L zs (encF L zs r).2.1 s = ((encF L zs r).2.1 + 2 ^ L) % 2 ^ pN L zs (encF L zs r).2.1 s := by
        rw [slice_mod (c := 0) hN (Nat.le_refl _), Nat.add_mul_div_right _ _ (Nat.pow_pos (by omega)), Nat.div_eq_of_lt h3, Nat.zero_add, Nat.mod_eq_of_lt hm]
      have e2 : N % 2 ^ (encF L zs r).2.2.1 = (encF L zs r).2.2.2 := by
        have := congrArg (· % 2 ^ (encF L zs r).2.2.1) hN
        rw [Nat.mod_mod_of_dvd _ (Nat.pow_dvd_pow 2 (by omega)), Nat.add_mul_mod_self_right, Nat.mod_eq_of_lt h3] at this
        exact this
      unfold decF
      rw [if_pos (by omega), p4, if_pos (by omega), p3, show (encF L zs r).2.2.1 + pN L zs (encF L zs r).2.1 s - pN L zs (encF L zs r).2.1 s = (encF L zs r).2.2.1 from by omega, e1, p5, ih e2]
      rfl

theorem finN_lt {L : Nat} {zs : List Int} (hT : okT (L : Int) zs) {S : List Int} (h : ∀ s ∈ S, hasS zs s) : finN L zs S < 2 ^ finT L zs S ∧ finT L zs S ≤ L * S.length := by
  obtain ⟨h1, h2, h3, h4⟩ := encF_fact hT S h
  unfold finN finT
  generalize (encF L zs S).1 = a at *
  generalize (encF L zs S).2.1 = b at *
  generalize (encF L zs S).2.2.1 = t at *
  generalize (encF L zs S).2.2.2 = x at *
  by_cases e0 : S.length = 0
  · rw [if_pos e0, if_pos e0]; rw [e0] at h4 ⊢; simp at h4 ⊢; subst h4; omega
  rw [if_neg e0, if_neg e0]
  by_cases e1 : S.length = 1
  · rw [if_pos e1, if_pos e1]
    rw [e1] at h4 ⊢
    have := Nat.mul_le_mul_right (2 ^ t) h1
    rw [Nat.succ_mul] at this
    rw [Nat.pow_add, Nat.mul_comm (2 ^ t)]
    refine ⟨by omega, ?_⟩
    simp at h4
    omega
  rw [if_neg e1, if_neg e1]
  have u1 := Nat.mul_le_mul_right (2 ^ t) h2
  have u2 := Nat.mul_le_mul_right (2 ^ (t + L)) h1
  rw [Nat.succ_mul] at u1 u2
  have e2 : 2 ^ L * 2 ^ t = 2 ^ (t + L) := by rw [Nat.pow_add, Nat.mul_comm]
  have e3 : 2 ^ L * 2 ^ (t + L) = 2 ^ (t + (L + L)) := by rw [← Nat.pow_add]; congr 1; omega
  rw [e2] at u1
  rw [e3] at u2
  refine ⟨by omega, ?_⟩
  have : S.length = S.length - 2 + 2 := by omega
  rw [this, Nat.mul_add]
  omega

theorem startF_enc {L : Nat} {zs : List Int} (hT : okT (L : Int) zs) {S : List Int} (h : ∀ s ∈ S, hasS zs s) {N : Nat} (hN : N % 2 ^ finT L zs S = finN L zs S) : startF (buildL L zs) L N S.length (finT L zs S) = some S := by
  obtain ⟨h1, h2, h3, h4⟩ := encF_fact hT S h
  have hd := decF_enc hT S N h
  unfold finT finN at hN
  unfold startF finT
  by_cases e0 : S.length = 0
  · rw [if_pos e0] at hN ⊢
    rw [if_pos e0] at hN ⊢
    have : S = [] := List.eq_nil_of_length_eq_zero e0
    subst this
    simp [encF, decF]
  rw [if_neg e0] at hN ⊢
  rw [if_neg e0] at hN ⊢
  by_cases e1 : S.length = 1
  · rw [if_pos e1] at hN ⊢
    rw [if_pos e1] at hN ⊢
    rw [if_neg (by omega)]
    have q1 : (encF L zs S).2.2.1 + L - L = (encF L zs S).2.2.1 := by omega
    rw [q1, slice_mod (c := 0) hN (Nat.le_refl _), Nat.add_mul_div_right _ _ (Nat.pow_pos (by omega)), Nat.div_eq_of_lt h3, Nat.zero_add, Nat.mod_eq_of_lt h1]
    have hN2 : N % 2 ^ (encF L zs S).2.2.1 = (encF L zs S).2.2.2 := by
      have := congrArg (· % 2 ^ (encF L zs S).2.2.1) hN
      rw [Nat.mod_mod_of_dvd _ (Nat.pow_dvd_pow 2 (by omega)), Nat.add_mul_mod_self_right, Nat.mod_eq_of_lt h3] at this
      exact this
    have := hd hN2
    rw [e1] at this
    match S, e1 with
    | [s], _ => exact this
  rw [if_neg e1] at hN ⊢
  rw [if_neg e1] at hN ⊢
  have q1 : (encF L zs S).2.2.1 + (L + L) - L = (encF L zs S).2.2.1 + L := by omega
  have q2 : (encF L zs S).2.2.1 + L - L = (encF L zs S).2.2.1 := by omega
  rw [if_neg (by omega), q1, if_neg (by omega), q2]
  have hx : (encF L zs S).2.2.2 + ((encF L zs S).2.1 * 2 ^ (encF L zs S).2.2.1 + (encF L zs S).1 * 2 ^ ((encF L zs S).2.2.1 + L)) = (encF L zs S).2.2.2 + ((encF L zs S).2.1 + (encF L zs S).1 * 2 ^ L) * 2 ^ (encF L zs S).2.2.1 := by
    rw [Nat.add_mul, Nat.mul_assoc, ← Nat.pow_add, Nat.add_comm L]
  rw [hx] at hN
  have f1 : N / 2 ^ (encF L zs S).2.2.1 % 2 ^ (L + L) = (encF L zs S).2.1 + (encF L zs S).1 * 2 ^ L := by
    rw [slice_mod (c := 0) hN (Nat.le_refl _), Nat.add_mul_div_right _ _ (Nat.pow_pos (by omega)), Nat.div_eq_of_lt h3, Nat.zero_add, Nat.mod_eq_of_lt]
    have := Nat.mul_le_mul_right (2 ^ L) h1
    rw [Nat.succ_mul] at this
    rw [Nat.pow_add]
    omega
  have f2 : N / 2 ^ ((encF L zs S).2.2.1 + L) % 2 ^ L = (encF L zs S).1 := by
    have := slice_mod (a := L) (b := L) (c := 0) f1 (Nat.le_refl _)
    rw [Nat.add_mul_div_right _ _ (Nat.pow_pos (by omega)), Nat.div_eq_of_lt h2, Nat.zero_add, Nat.mod_eq_of_lt h1, Nat.div_div_eq_div_mul, ← Nat.pow_add] at this
    exact this
  have f3 : N / 2 ^ (encF L zs S).2.2.1 % 2 ^ L = (encF L zs S).2.1 := by
    have := congrArg (· % 2 ^ L) f1
    rw [Nat.mod_mod_of_dvd _ (Nat.pow_dvd_pow 2 (by omega)), Nat.add_mul_mod_self_right, Nat.mod_eq_of_lt h2] at this
    exact this
  have hN2 : N % 2 ^ (encF L zs S).2.2.1 = (encF L zs S).2.2.2 := by
    have := congrArg (· % 2 ^ (encF L zs S).2.2.1) hN
    rw [Nat.mod_mod_of_dvd _ (Nat.pow_dvd_pow 2 (by omega)), Nat.add_mul_mod_self_right, Nat.mod_eq_of_lt h3] at this
    exact this
  rw [f2, f3]
  exact hd hN2
end Go.Proofs.Ytemiaagaggjbiaa
