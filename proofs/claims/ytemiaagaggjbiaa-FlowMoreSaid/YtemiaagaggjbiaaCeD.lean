/- portmanteauref07.States, Size, May walked. -/
import Derived.Test.YtemiaagaggjbiaaCe1
import Derived.Test.YtemiaagaggjbiaaCe3
namespace Go.Proofs.Ytemiaagaggjbiaa
set_option maxRecDepth 8000
open Go.RowKit Go
set_option linter.unusedVariables false

theorem states_any (z : Int) (w : World) (h : -1 ≤ z) :
    Calls Try.prog 39 #[.int .i64 z] w fun e w' => e = .returned (.int .i64 (absZ z)) ∧ w' = w := by
  by_cases h1 : z = -1
  · subst h1
    go_enter Try.func39, Try.ntmps39
    go_wp2
    go_ret
    exact ⟨rfl, rfl⟩
  · have hb : (z == -1) = false := by simp [h1]
    have ha : absZ z = z := by unfold absZ; omega
    rw [ha]
    go_enter Try.func39, Try.ntmps39
    go_wp2
    go_ret
    exact ⟨rfl, rfl⟩

set_option maxHeartbeats 1000000 in
theorem size_any (L : Nat) (w : World) (h : L ≤ 20) :
    Calls Try.prog 40 #[.int .i64 (L : Int)] w fun e w' => e = .returned (.int .i64 ((2 ^ L : Nat) : Int)) ∧ w' = w := by
  have h1 : ¬ (L : Int) < 0 := by omega
  have h2 : ¬ 20 < (L : Int) := by omega
  go_enter Try.func40, Try.ntmps40
  go_wp2
  go_loop [3, 4] (fun n i => ∃ k : Nat, k ≤ L ∧ i = .int .i64 k ∧ n = .int .i64 ((2 ^ k : Nat) : Int)) (fun _ i => L - (intOf i).toNat)
  case atStart => exact ⟨0, Nat.zero_le _, rfl, rfl⟩
  case round =>
    obtain ⟨k, hk, rfl, rfl⟩ := hrel
    by_cases hlt : k < L
    · have hkn : (k : Int) < (L : Int) := by omega
      obtain ⟨p, hp⟩ : ∃ p, p = 2 ^ k := ⟨_, rfl⟩
      have hpb : p ≤ 1048576 := by
        rw [hp]
        have h1 : 2 ^ k ≤ 2 ^ 20 := Nat.pow_le_pow_right (by omega) (by omega)
        have h2 : (2:Nat) ^ 20 = 1048576 := by decide
        omega
      rw [← hp]
      have HP := hide hp
      clear hp
      go_wp2
      go_round
      case rel => exact ⟨k + 1, by omega, by go_num, by rw [Nat.pow_succ, ← HP.out]; go_num⟩
      case measure => simp [intOf]; omega
    · obtain rfl : k = L := by omega
      go_wp2
      go_ret
      exact ⟨rfl, rfl⟩

set_option maxRecDepth 8000 in
set_option maxHeartbeats 4000000 in
theorem may_any (lg l : Int) (A : Option Addr) (n c : Nat) (zs : List Int) (w : World) (hlg : lg = 9 ∨ (lg = 0 ∧ l = 0)) (hn : zs.length = n) (hr : Reads w w.heap.size 1 A n (zs.map (Value.int .i64))) (hok : ∀ z ∈ zs, (Lit.int .i64 z).wf = true) (hc : n ≤ c) (hc' : c ≤ maxLen) :
    Calls Try.prog 18 #[.agg #[.int .i64 l, .slice A n c], .int .i64 256, .int .i64 lg] w fun e w' =>
      ((okT l zs ∧ e = .returned (.int .i64 0)) ∨ (¬ okT l zs ∧ e = .returned (.int .i64 13))) ∧ Below w.heap.size w w' := by
  have B0 := hide ((Below.refl w.heap.size w).alloc (Nat.le_refl _) (.cells #[.int .i64 l, .slice A n c] 24 (0, 0)))
  have hmax : c ≤ 9223372036854775807 := by unfold maxLen at hc'; omega
  by_cases hbad : l < 0 ∨ (¬ l < 0 ∧ lg < l) ∨ (¬ l < 0 ∧ ¬ lg < l ∧ ¬ 9 < l ∧ (n : Int) < 1) ∨ (¬ l < 0 ∧ ¬ lg < l ∧ ¬ 9 < l ∧ ¬ (n : Int) < 1 ∧ 256 < (n : Int))
  · have HB := hide (show ¬ okT l zs by
      rintro ⟨⟨h1, h2⟩, ⟨h3, h4⟩, _⟩
      omega)
    clear hr hok hn hlg
    rcases hbad with h1 | ⟨h1, h2⟩ | ⟨h1, h2, h3, h4⟩ | ⟨h1, h2, h3, h4, h5⟩
    all_goals
      go_enter Try.func18, Try.ntmps18
      go_wp2
      go_ret
      exact ⟨.inr ⟨HB.out, rfl⟩, B0.out⟩
  have h1 : ¬ l < 0 := by omega
  have h2 : ¬ lg < l := by omega
  have h2' : ¬ 9 < l := by omega
  have h3 : ¬ (n : Int) < 1 := by omega
  have h4 : ¬ 256 < (n : Int) := by omega
  have hnp : 0 < n := by omega
  obtain ⟨b, off, rfl, hbb, hcell⟩ := hr.open_ hnp (by omega)
  have hlast := last_ofI hn hnp
  obtain ⟨y, hy⟩ : ∃ y, y = zs.getLastD 0 := ⟨_, rfl⟩
  rw [← hy] at hlast
  have kl := hcell (n - 1) (.int .i64 y) (by simp [hlast])
  have hw1 : IntKind.i64.wrap ((n : Int) - 1) = ((n - 1 : Nat) : Int) := by rw [IntWalk.i64_in _ (by omega)]; omega
  obtain ⟨q, hq⟩ : ∃ q, q = n - 1 := ⟨_, rfl⟩
  rw [← hq] at kl hw1
  have hq0 : (0 : Int) ≤ (q : Int) := by omega
  have hqn : (q : Int) < (n : Int) := by omega
  have kl2 : (w.alloc (.cells #[.int .i64 l, .slice (some ⟨b, off, none⟩) n c] 24 (0, 0))).cell? ⟨b, off + q, none⟩ = some (.int .i64 y) := (World.cell?_alloc_lt w _ _ hbb).trans kl
  by_cases hy0 : y = 0
  · have HB := hide (show ¬ okT l zs by
      rintro ⟨_, _, h5, _⟩
      exact h5 (by rw [← hy, hy0]))
    have hy0b : (y == 0) = true := by simp [hy0]
    clear hr hok hn hlast hy hcell hbad kl hq
    go_enter Try.func18, Try.ntmps18
    go_wp2
    go_ret
    exact ⟨.inr ⟨HB.out, rfl⟩, B0.out⟩
  · have hy0b : (y == 0) = false := by simp [hy0]
    obtain ⟨L, rfl⟩ := Int.eq_ofNat_of_zero_le (show 0 ≤ l by omega)
    have hL : L ≤ 9 := by omega
    have hpow : 2 ^ L ≤ 2 ^ 9 := Nat.pow_le_pow_right (by omega) hL
    have hp9 : (2 : Nat) ^ 9 = 512 := by decide
    have HSZ := hide (fun W => size_any L W (by omega))
    obtain ⟨S, hS⟩ : ∃ S, S = 2 ^ L := ⟨_, rfl⟩
    have hS0 : ((2 : Int) ^ L) = (S : Int) := by rw [hS]; simp
    rw [← hS] at hpow HSZ
    have HOKT := hide (show okT (L : Int) zs ↔ ((∀ z ∈ zs, -1 ≤ z) ∧ sumAbs zs = (S : Int)) by
      unfold okT
      rw [Int.toNat_natCast, hS0]
      constructor
      · rintro ⟨_, _, _, h5, h6⟩; exact ⟨h5, h6⟩
      · rintro ⟨h5, h6⟩; exact ⟨⟨by omega, by omega⟩, ⟨by omega, by omega⟩, by rw [← hy]; exact hy0, h5, h6⟩)
    have HR := hide (hr.alloc (Nat.le_refl _) (.cells #[.int .i64 (L : Int), .slice (some ⟨b, off, none⟩) n c] 24 (0, 0)))
    have HN := hide hn
    have HK := hide hok
    have hSb : S ≤ 512 := by omega
    clear hr hok hn hlast hy hcell hbad kl hpow hp9 hS hS0 h1 hq hlg
    have h1 : ¬ (L : Int) < 0 := by omega
    go_enter Try.func18, Try.ntmps18
    go_wp2
    go_loop [7, 8] (fun sum i => ∃ k : Nat, k ≤ n ∧ i = .int .i64 k ∧ sum = .int .i64 (sumAbs (zs.take k)) ∧ sumAbs (zs.take k) ≤ 1024 ∧ ∀ z ∈ zs.take k, -1 ≤ z) (fun _ i => n - (intOf i).toNat)
    case atStart => exact ⟨0, Nat.zero_le _, rfl, by simp [sumAbs], by simp [sumAbs], by simp⟩
    case round =>
      obtain ⟨k, hk, rfl, rfl, hge, hall⟩ := hrel
      have HALL := hide hall
      have hnn := sumAbs_nonneg (zs.take k)
      obtain ⟨s, hs⟩ : ∃ s, s = sumAbs (zs.take k) := ⟨_, rfl⟩
      rw [← hs] at hge hnn ⊢
      have HS := hide hs
      clear hall hs
      by_cases hlt : k < n
      · obtain ⟨b', off', z, hA, hbb', kz, hz⟩ := int_cells HR.out hlt
        obtain ⟨rfl, rfl⟩ : b = b' ∧ off = off' := by injection hA with hA; injection hA with h1 h2; exact ⟨h1, h2⟩
        have hzw := HK.out z (List.mem_of_getElem? hz)
        have hzb := bounds_i64 hzw
        have HZ := hide hz
        have hkn : (k : Int) < (n : Int) := by omega
        have HSN := hide (sumAbs_snoc hz)
        clear hA hbb' hz hzw
        by_cases hm1 : z < -1 ∨ (¬ z < -1 ∧ 512 < z) ∨ (¬ z < -1 ∧ ¬ 512 < z ∧ 512 < s)
        · have HB := hide (show ¬ okT (L : Int) zs from fun h => by
            have h5 := (HOKT.out.1 h).1 z (List.mem_of_getElem? HZ.out)
            have h6 := (HOKT.out.1 h).2
            have h7 := sumAbs_take_le zs (k + 1)
            have h8 := HSN.out
            have h9 := HS.out
            have h10 := absZ_nonneg z
            have h11 : z ≤ absZ z := by unfold absZ; omega
            omega)
          rcases hm1 with h | ⟨h, h'⟩ | ⟨h, h', h''⟩
          all_goals
            go_wp2
            go_ret
            exact ⟨.inr ⟨HB.out, rfl⟩, B0.out⟩
        · have g1 : ¬ z < -1 := by omega
          have g2 : ¬ 512 < z := by omega
          have g3 : ¬ 512 < s := by omega
          have HST := hide (fun W => states_any z W (by omega))
          have hab : 0 ≤ absZ z ∧ absZ z ≤ 512 := by unfold absZ; omega
          obtain ⟨a, ha⟩ : ∃ a, a = absZ z := ⟨_, rfl⟩
          rw [← ha] at hab HST
          have HA := hide ha
          clear ha
          have hws : IntKind.i64.wrap (s + a) = s + a := IntWalk.i64_in _ (by omega)
          have HREL := hide (show sumAbs (zs.take (k + 1)) = s + a ∧ ∀ z ∈ zs.take (k + 1), -1 ≤ z by
            refine ⟨by rw [HSN.out, ← HS.out, ← HA.out], ?_⟩
            intro z' hz'
            rw [List.take_add_one, HZ.out] at hz'
            rcases List.mem_append.1 hz' with h | h
            · exact HALL.out z' h
            · simp at h; subst h; omega)
          clear hm1
          go_wp2_with fail
          refine (HST.out _).mono ?_
          rintro e W ⟨rfl, rfl⟩
          go_wp2
          go_round
          case rel => exact ⟨k + 1, by omega, by go_num, by rw [HREL.out.1], by rw [HREL.out.1]; omega, HREL.out.2⟩
          case measure => simp [intOf]; omega
      · obtain rfl : k = n := by omega
        have HF := hide (show okT (L : Int) zs ↔ s = (S : Int) by
          rw [HOKT.out, HS.out, show zs.take k = zs from List.take_of_length_le (by rw [HN.out]; omega)]
          constructor
          · rintro ⟨_, h⟩; exact h
          · intro h
            refine ⟨?_, h⟩
            have := HALL.out
            rwa [show zs.take k = zs from List.take_of_length_le (by rw [HN.out]; omega)] at this)
        by_cases hsS : s = (S : Int)
        · have HT := hide (HF.out.2 hsS)
          have hbn : (s != (S : Int)) = false := by simp [hsS]
          clear hsS
          go_wp2_with fail
          refine (HSZ.out _).mono ?_
          rintro e W ⟨rfl, rfl⟩
          go_wp2
          go_ret
          exact ⟨.inl ⟨HT.out, rfl⟩, B0.out⟩
        · have HT := hide (fun h => hsS (HF.out.1 h))
          have hbn : (s != (S : Int)) = true := by simp [hsS]
          clear hsS
          go_wp2_with fail
          refine (HSZ.out _).mono ?_
          rintro e W ⟨rfl, rfl⟩
          go_wp2
          go_ret
          exact ⟨.inr ⟨HT.out, rfl⟩, B0.out⟩
end Go.Proofs.Ytemiaagaggjbiaa
