/- norm.Check walked. -/
import Derived.Test.YtohgnohifojdbaaChecked
import Derived.Test.YtohgnohifojdbaaLib
import Derived.OpenShut
namespace Go.Proofs.Ytohgnohifojdbaa
set_option maxRecDepth 8000
open Go.RowKit Go
set_option linter.unusedVariables false

theorem int_cells {w : World} {B n : Nat} {A : Option Addr} {l : List Int} (h : Reads w B 1 A n (l.map (Value.int .i64))) {k : Nat} (hk : k < n) :
    ∃ b off z, A = some ⟨b, off, none⟩ ∧ b < B ∧ w.cell? ⟨b, off + k, none⟩ = some (.int .i64 z) ∧ l[k]? = some z := by
  obtain ⟨b, off, rfl, hb, hc⟩ := h.open_ (by omega) (by omega)
  have hkl : k < l.length := by have := h.1; simp at this; omega
  refine ⟨b, off, l[k], rfl, hb, hc _ _ ?_, List.getElem?_eq_getElem hkl⟩
  simp [hkl]

def absZ (z : Int) : Int := max z (-z)
def sumAbs : List Int → Int
  | [] => 0
  | z :: zs => absZ z + sumAbs zs
theorem absZ_nonneg (z : Int) : 0 ≤ absZ z := by unfold absZ; omega
theorem sumAbs_append (a b : List Int) : sumAbs (a ++ b) = sumAbs a + sumAbs b := by
  induction a with
  | nil => simp [sumAbs]
  | cons z zs ih => simp only [List.cons_append, sumAbs, ih]; omega
theorem sumAbs_nonneg (zs : List Int) : 0 ≤ sumAbs zs := by
  induction zs with
  | nil => simp [sumAbs]
  | cons z zs ih => have := absZ_nonneg z; simp only [sumAbs]; omega
theorem sumAbs_snoc {zs : List Int} {k : Nat} {z : Int} (h : zs[k]? = some z) : sumAbs (zs.take (k + 1)) = sumAbs (zs.take k) + absZ z := by
  rw [List.take_add_one, h, Option.toList_some, sumAbs_append]; simp [sumAbs]
theorem sumAbs_take_le (zs : List Int) (k : Nat) : sumAbs (zs.take k) ≤ sumAbs zs := by
  have h1 := sumAbs_append (zs.take k) (zs.drop k)
  rw [List.take_append_drop] at h1
  have := sumAbs_nonneg (zs.drop k)
  omega

/-- A table that may be: within the greatest bounds. -/
def okT (l : Int) (zs : List Int) : Prop := (0 ≤ l ∧ l ≤ 9) ∧ (0 < zs.length ∧ zs.length ≤ 256) ∧ zs.getLastD 0 ≠ 0 ∧ (∀ z ∈ zs, -1 ≤ z) ∧ sumAbs zs = 2 ^ l.toNat

theorem last_ofI {zs : List Int} {n : Nat} (hn : zs.length = n) (h : 0 < n) : zs[n - 1]? = some (zs.getLastD 0) := by
  rw [List.getLastD_eq_getLast?, List.getLast?_eq_getElem?, hn]
  cases hx : zs[n - 1]? with
  | none => rw [List.getElem?_eq_none_iff] at hx; omega
  | some x => rfl

set_option maxRecDepth 8000 in
set_option maxHeartbeats 4000000 in
theorem check_any (l : Int) (A : Option Addr) (n c : Nat) (zs : List Int) (w : World) (hn : zs.length = n) (hr : Reads w w.heap.size 1 A n (zs.map (Value.int .i64))) (hok : ∀ z ∈ zs, (Lit.int .i64 z).wf = true) (hc : n ≤ c) (hc' : c ≤ maxLen) :
    Calls Try.prog 45 #[.agg #[.int .i64 l, .slice A n c], .int .i64 256, .int .i64 9] w fun e w' =>
      ((okT l zs ∧ e = .returned (.int .i64 0)) ∨ (¬ okT l zs ∧ e = .returned (.int .i64 13))) ∧ Below w.heap.size w w' := by
  have B0 := hide ((Below.refl w.heap.size w).alloc (Nat.le_refl _) (.cells #[.int .i64 l, .slice A n c] 28 (0, 0)))
  have hmax : c ≤ 9223372036854775807 := by unfold maxLen at hc'; omega
  by_cases hbad : l < 0 ∨ (¬ l < 0 ∧ 9 < l) ∨ (¬ l < 0 ∧ ¬ 9 < l ∧ (n : Int) = 0) ∨ (¬ l < 0 ∧ ¬ 9 < l ∧ ¬ (n : Int) = 0 ∧ 256 < (n : Int))
  · have HB := hide (show ¬ okT l zs by
      rintro ⟨⟨h1, h2⟩, ⟨h3, h4⟩, _⟩
      omega)
    clear hr hok hn
    rcases hbad with h1 | ⟨h1, h2⟩ | ⟨h1, h2, h3⟩ | ⟨h1, h2, h3, h4⟩
    all_goals
      go_enter Try.func45, Try.ntmps45
      go_wp2
      go_ret
      exact ⟨.inr ⟨HB.out, rfl⟩, B0.out⟩
  have h1 : ¬ l < 0 := by omega
  have h2 : ¬ 9 < l := by omega
  have h3 : ¬ (n : Int) = 0 := by omega
  have h4 : ¬ 256 < (n : Int) := by omega
  have hnp : 0 < n := by omega
  obtain ⟨b, off, rfl, hbb, hcell⟩ := hr.open_ hnp (by omega)
  have hlast := last_ofI hn hnp
  obtain ⟨y, hy⟩ : ∃ y, y = zs.getLastD 0 := ⟨_, rfl⟩
  rw [← hy] at hlast
  have kl := hcell (n - 1) (.int .i64 y) (by simp [hlast])
  have hw1 : IntKind.i64.wrap ((n : Int) - 1) = ((n - 1 : Nat) : Int) := by rw [IntWalk.i64_in _ (by omega)]; omega
  obtain ⟨q, hq⟩ : ∃ q, q = n - 1 := ⟨_, rfl⟩
  rw [← hq] at kl hw1
  have hq0 : (0 : Int) ≤ (q : Int) := by omega
  have hqn : (q : Int) < (n : Int) := by omega
  have kl2 : (w.alloc (.cells #[.int .i64 l, .slice (some ⟨b, off, none⟩) n c] 28 (0, 0))).cell? ⟨b, off + q, none⟩ = some (.int .i64 y) := (World.cell?_alloc_lt w _ _ hbb).trans kl
  by_cases hy0 : y = 0
  · have HB := hide (show ¬ okT l zs by
      rintro ⟨_, _, h5, _⟩
      exact h5 (by rw [← hy, hy0]))
    have hy0b : (y == 0) = true := by simp [hy0]
    clear hr hok hn hlast hy hcell hbad kl hq
    go_enter Try.func45, Try.ntmps45
    go_wp2
    go_ret
    exact ⟨.inr ⟨HB.out, rfl⟩, B0.out⟩
  · have hy0b : (y == 0) = false := by simp [hy0]
    obtain ⟨L, rfl⟩ := Int.eq_ofNat_of_zero_le (show 0 ≤ l by omega)
    have hL : L ≤ 9 := by omega
    have hpow : 2 ^ L ≤ 2 ^ 9 := Nat.pow_le_pow_right (by omega) hL
    have hp9 : (2 : Nat) ^ 9 = 512 := by decide
    have hpp : 0 < 2 ^ L := Nat.pow_pos (by omega)
    obtain ⟨S, hS⟩ : ∃ S, S = 2 ^ L := ⟨_, rfl⟩
    have hS0 : ((2 : Int) ^ L) = (S : Int) := by rw [hS]; simp
    rw [← hS] at hpow hpp
    have hsh : IntKind.i64.wrap ((2 : Int) ^ L) = (S : Int) := by rw [hS0, IntWalk.i64_in _ (by omega)]
    have HOKT := hide (show okT (L : Int) zs ↔ ((∀ z ∈ zs, -1 ≤ z) ∧ sumAbs zs = (S : Int)) by
      unfold okT
      rw [Int.toNat_natCast, hS0]
      constructor
      · rintro ⟨_, _, _, h5, h6⟩; exact ⟨h5, h6⟩
      · rintro ⟨h5, h6⟩; exact ⟨⟨by omega, by omega⟩, ⟨by omega, by omega⟩, by rw [← hy]; exact hy0, h5, h6⟩)
    have HR := hide (hr.alloc (Nat.le_refl _) (.cells #[.int .i64 (L : Int), .slice (some ⟨b, off, none⟩) n c] 28 (0, 0)))
    have HN := hide hn
    have HK := hide hok
    have hSb : S ≤ 512 := by omega
    clear hr hok hn hlast hy hcell hbad kl hpow hp9 hS hS0 h1 hq
    have h1 : ¬ (L : Int) < 0 := by omega
    go_enter Try.func45, Try.ntmps45
    go_wp2
    go_loop [7, 50] (fun left i => ∃ k : Nat, k ≤ n ∧ i = .int .i64 k ∧ left = .int .i64 ((S : Int) - sumAbs (zs.take k)) ∧ 0 ≤ (S : Int) - sumAbs (zs.take k) ∧ ∀ z ∈ zs.take k, -1 ≤ z) (fun _ i => n - (intOf i).toNat)
    case atStart => exact ⟨0, Nat.zero_le _, rfl, by simp [sumAbs], by simp [sumAbs], by simp⟩
    case round =>
      obtain ⟨k, hk, rfl, rfl, hge, hall⟩ := hrel
      have HALL := hide hall
      have hnn := sumAbs_nonneg (zs.take k)
      obtain ⟨s, hs⟩ : ∃ s, s = (S : Int) - sumAbs (zs.take k) := ⟨_, rfl⟩
      rw [← hs] at hge ⊢
      have hsS : s ≤ (S : Int) := by omega
      have HS := hide hs
      clear hall hnn hs
      by_cases hlt : k < n
      · obtain ⟨b', off', z, hA, hbb', kz, hz⟩ := int_cells HR.out hlt
        obtain ⟨rfl, rfl⟩ : b = b' ∧ off = off' := by injection hA with hA; injection hA with h1 h2; exact ⟨h1, h2⟩
        have hzw := HK.out z (List.mem_of_getElem? hz)
        have hzb := bounds_i64 hzw
        have HZ := hide hz
        have hkn : (k : Int) < (n : Int) := by omega
        have hsn := sumAbs_snoc hz
        clear hA hbb' hz hzw
        by_cases hm1 : z < -1
        · have HB := hide (show ¬ okT (L : Int) zs from fun h => by
            have := (HOKT.out.1 h).1 z (List.mem_of_getElem? HZ.out)
            omega)
          clear hsn
          go_wp2
          go_ret
          exact ⟨.inr ⟨HB.out, rfl⟩, B0.out⟩
        · have hwn : IntKind.i64.wrap (-z) = -z := IntWalk.i64_in _ (by omega)
          have habs : (z = -1 ∧ absZ z = 1) ∨ (z = 0 ∧ absZ z = 0) ∨ (0 < z ∧ absZ z = z) := by unfold absZ; omega
          by_cases hgt : s < absZ z
          · have HB := hide (show ¬ okT (L : Int) zs from fun h => by
              have h5 := (HOKT.out.1 h).2
              have h6 := sumAbs_take_le zs (k + 1)
              have h7 := HS.out
              omega)
            clear hsn
            rcases habs with ⟨rfl, h⟩ | ⟨rfl, h⟩ | ⟨h0, h⟩
            · rw [h] at hgt
              have hs0 : s = 0 := by omega
              clear h
              go_wp2
              go_ret
              exact ⟨.inr ⟨HB.out, rfl⟩, B0.out⟩
            · omega
            · rw [h] at hgt
              have hn1 : ¬ z ≤ -z := by omega
              have hn2 : -z < z := by omega
              clear h
              go_wp2
              all_goals
                go_ret
                exact ⟨.inr ⟨HB.out, rfl⟩, B0.out⟩
          · have hws : IntKind.i64.wrap (s - absZ z) = s - absZ z := IntWalk.i64_in _ (by unfold absZ; omega)
            have HSN := hide hsn
            have HREL := hide (show ∀ a, a = absZ z → ((S : Int) - sumAbs (zs.take (k + 1)) = s - a ∧ 0 ≤ s - a ∧ ∀ z ∈ zs.take (k + 1), -1 ≤ z) by
              rintro a rfl
              refine ⟨by rw [HSN.out]; have := HS.out; omega, by omega, ?_⟩
              intro z' hz'
              rw [List.take_add_one, HZ.out] at hz'
              rcases List.mem_append.1 hz' with h | h
              · exact HALL.out z' h
              · simp at h; omega)
            clear hsn hzb
            rcases habs with ⟨rfl, h⟩ | ⟨rfl, h⟩ | ⟨h0, h⟩
            all_goals
              rw [h] at hgt hws
              have HH := hide h
              clear h
            · have hs1 : 1 ≤ s := by omega
              go_wp2
              go_round
              case rel =>
                have hq := HREL.out 1 HH.out.symm
                exact ⟨k + 1, by omega, by go_num, by rw [hq.1], by rw [hq.1]; exact hq.2.1, hq.2.2⟩
              case measure => simp [intOf]; try omega
            · go_wp2
              go_round
              case rel =>
                have hq := HREL.out 0 HH.out.symm
                exact ⟨k + 1, by omega, by go_num, by rw [hq.1]; simp, by rw [hq.1]; exact hq.2.1, hq.2.2⟩
              case measure => simp [intOf]; try omega
            · have hn1 : ¬ z ≤ -z := by omega
              have hn2 : -z < z := by omega
              have hn3 : ¬ s < -z := by omega
              have hn4 : max z (-z) = z := by omega
              go_wp2
              go_round
              case rel =>
                have hq := HREL.out z HH.out.symm
                exact ⟨k + 1, by omega, by go_num, by rw [hq.1], by rw [hq.1]; exact hq.2.1, hq.2.2⟩
              case measure => simp [intOf]; try omega
      · obtain rfl : k = n := by omega
        have hfull : zs.take k = zs := List.take_of_length_le (by have := HN.out; omega)
        have HFULL := hide hfull
        clear hfull
        have hge2 : ¬ (k : Int) < (k : Int) := by omega
        by_cases hs0 : s = 0
        · have HG := hide (show okT (L : Int) zs from HOKT.out.2 ⟨by have := HALL.out; rw [HFULL.out] at this; exact this, by have := HS.out; rw [HFULL.out] at this; omega⟩)
          have hs0b : (s != 0) = false := by simp [hs0]
          go_wp2
          go_ret
          exact ⟨.inl ⟨HG.out, rfl⟩, B0.out⟩
        · have HB := hide (show ¬ okT (L : Int) zs from fun h => by
            have h5 := (HOKT.out.1 h).2
            have h7 := HS.out
            rw [HFULL.out] at h7
            omega)
          have hs0b : (s != 0) = true := by simp [hs0]
          go_wp2
          go_ret
          exact ⟨.inr ⟨HB.out, rfl⟩, B0.out⟩
end Go.Proofs.Ytohgnohifojdbaa
