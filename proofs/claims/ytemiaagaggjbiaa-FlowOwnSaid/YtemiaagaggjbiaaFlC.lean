/- Steps of the decoder of flows (no program). -/
import Derived.Test.YtemiaagaggjbiaaFlA
namespace Go.Proofs.Ytemiaagaggjbiaa
set_option linter.unusedVariables false

/-- k states are taken: the two states and the bits left. -/
def Ini (L N n T k a b t : Nat) : Prop :=
  (k = 0 ∧ a = 0 ∧ b = 0 ∧ t = T) ∨ (k = 1 ∧ 1 ≤ n ∧ L ≤ T ∧ a = N / 2 ^ (T - L) % 2 ^ L ∧ b = 0 ∧ t = T - L) ∨
    (k = 2 ∧ 2 ≤ n ∧ L ≤ T ∧ L ≤ T - L ∧ a = N / 2 ^ (T - L) % 2 ^ L ∧ b = N / 2 ^ (T - L - L) % 2 ^ L ∧ t = T - L - L)

theorem Ini.le {L N n T k a b t : Nat} (h : Ini L N n T k a b t) : t ≤ T ∧ k ≤ 2 := by
  rcases h with h | h | h <;> omega
theorem Ini.lt {L N n T k a b t : Nat} (h : Ini L N n T k a b t) : a < 2 ^ L ∧ b < 2 ^ L := by
  have hp : 0 < 2 ^ L := Nat.pow_pos (by omega)
  rcases h with ⟨_, rfl, rfl, _⟩ | ⟨_, _, _, rfl, rfl, _⟩ | ⟨_, _, _, _, rfl, rfl, _⟩
  · exact ⟨hp, hp⟩
  · exact ⟨Nat.mod_lt _ hp, hp⟩
  · exact ⟨Nat.mod_lt _ hp, Nat.mod_lt _ hp⟩
theorem Ini.step0 {L N n T a b t : Nat} (h : Ini L N n T 0 a b t) (hn : 1 ≤ n) (ht : L ≤ t) : Ini L N n T 1 (N / 2 ^ (t - L) % 2 ^ L) b (t - L) := by
  rcases h with ⟨_, rfl, rfl, rfl⟩ | h | h
  · exact .inr (.inl ⟨rfl, hn, ht, rfl, rfl, rfl⟩)
  · omega
  · omega
theorem Ini.step1 {L N n T a b t : Nat} (h : Ini L N n T 1 a b t) (hn : 2 ≤ n) (ht : L ≤ t) : Ini L N n T 2 a (N / 2 ^ (t - L) % 2 ^ L) (t - L) := by
  rcases h with h | ⟨_, h1, h2, rfl, rfl, rfl⟩ | h
  · omega
  · exact .inr (.inr ⟨rfl, hn, h2, ht, rfl, rfl, rfl⟩)
  · omega
theorem Ini.few {C : List CellT} {L N n T k a b t : Nat} (h : Ini L N n T k a b t) (hn : k < n) (hk : k < 2) (ht : t < L) : startF C L N n T = none := by
  rcases h with ⟨rfl, rfl, rfl, rfl⟩ | ⟨rfl, h1, h2, rfl, rfl, rfl⟩ | h
  · unfold startF; rw [if_neg (by omega), if_pos ht]
  · unfold startF; rw [if_neg (by omega), if_neg (by omega), if_neg (by omega), if_pos ht]
  · omega
/-- The states are taken. -/
def Run (C : List CellT) (L N n T k a b t : Nat) (o : List Int) : Prop := startF C L N n T = (decF C N (n - k) a b t).map (o ++ ·)
theorem map_nil_append (o : Option (List Int)) : o.map (([] : List Int) ++ ·) = o := by cases o <;> rfl
theorem Ini.run {C : List CellT} {L N n T k a b t : Nat} (h : Ini L N n T k a b t) (hk : k = n ∨ k = 2) (hn : k ≤ n) : Run C L N n T 0 a b t [] := by
  unfold Run
  rw [map_nil_append, Nat.sub_zero]
  unfold startF
  rcases h with ⟨rfl, rfl, rfl, rfl⟩ | ⟨rfl, h1, h2, rfl, rfl, rfl⟩ | ⟨rfl, h1, h2, h3, rfl, rfl, rfl⟩
  · obtain rfl : n = 0 := by omega
    rw [if_pos rfl]
  · obtain rfl : n = 1 := by omega
    rw [if_neg (by omega), if_neg (by omega), if_pos rfl]
  · rw [if_neg (by omega), if_neg (by omega), if_neg (by omega), if_neg (by omega)]
theorem Run.end_ {C : List CellT} {L N n T a b t : Nat} {o : List Int} (h : Run C L N n T n a b t o) : startF C L N n T = if t = 0 then some o else none := by
  unfold Run at h
  rw [h, Nat.sub_self]
  unfold decF
  split <;> simp
theorem Run.few {C : List CellT} {L N n T k a b t : Nat} {o : List Int} (h : Run C L N n T k a b t o) (hk : k + 2 < n) (ht : t < cB C a) : startF C L N n T = none := by
  unfold Run at h
  rw [h]
  obtain ⟨r, hr⟩ : ∃ r, n - k = r + 1 := ⟨n - k - 1, by omega⟩
  rw [hr]
  unfold decF
  rw [if_pos (by omega), if_neg (by omega)]
  rfl
theorem Run.read {C : List CellT} {L N n T k a b t : Nat} {o : List Int} (h : Run C L N n T k a b t o) (hk : k + 2 < n) (ht : cB C a ≤ t) :
    Run C L N n T (k + 1) b (cA C a + N / 2 ^ (t - cB C a) % 2 ^ cB C a) (t - cB C a) (o ++ [cS C a]) := by
  unfold Run at h ⊢
  rw [h]
  obtain ⟨r, hr⟩ : ∃ r, n - k = r + 1 := ⟨n - k - 1, by omega⟩
  rw [hr, show n - (k + 1) = r from by omega]
  conv => lhs; unfold decF
  rw [if_pos (by omega), if_pos ht, Option.map_map]
  congr 1
  funext x
  simp
theorem Run.pass {C : List CellT} {L N n T k a b t : Nat} {o : List Int} (h : Run C L N n T k a b t o) (hk : k < n) (hk2 : ¬ k + 2 < n) : Run C L N n T (k + 1) b a t (o ++ [cS C a]) := by
  unfold Run at h ⊢
  rw [h]
  obtain ⟨r, hr⟩ : ∃ r, n - k = r + 1 := ⟨n - k - 1, by omega⟩
  rw [hr, show n - (k + 1) = r from by omega]
  conv => lhs; unfold decF
  rw [if_neg (by omega), Option.map_map]
  congr 1
  funext x
  simp
end Go.Proofs.Ytemiaagaggjbiaa
