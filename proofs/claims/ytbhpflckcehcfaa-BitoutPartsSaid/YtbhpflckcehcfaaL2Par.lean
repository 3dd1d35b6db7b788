/- portmanteaulaw02.BitoutParts walked. -/
import Derived.Test.YtbhpflckcehcfaaL2B
import Derived.Test.YtbhpflckcehcfaaOpenPut
namespace Go.Proofs.Ytbhpflckcehcfaa
open Go.RowKit Go.ChangeAt
set_option linter.unusedVariables false

theorem shl_one (n : Nat) (h : n < 64) : IntKind.u64.wrap (2 ^ n) = ((2 ^ n : Nat) : Int) := by
  have h1 : 2 ^ n ≤ 2 ^ 63 := Nat.pow_le_pow_right (by omega) (by omega)
  have h2 : (2:Nat) ^ 63 = 9223372036854775808 := by decide
  have e0 : ((2 : Int) ^ n) = ((2 ^ n : Nat) : Int) := by simp
  rw [e0, IntKind.wrap_u64]
  generalize 2 ^ n = X at *
  omega

theorem pow_pos2 (n : Nat) : 0 < 2 ^ n := Nat.pow_pos (by omega)
theorem pow_ne (n : Nat) : (((2 ^ n : Nat) : Int) == 0) = false := by
  have := Nat.pow_pos (n := n) (show 0 < 2 by omega)
  rw [beq_eq_false_iff_ne]; omega

theorem parts_num (L N v n f : Nat) (hf : f ≤ n) : N + v % 2 ^ f * 2 ^ L + v / 2 ^ f * 2 ^ (L + f) = N + v * 2 ^ L ∧ L + f + (n - f) = L + n := by
  refine ⟨?_, by omega⟩
  have h := Nat.div_add_mod v (2 ^ f)
  rw [Nat.pow_add]
  generalize v / 2 ^ f = q at *
  generalize v % 2 ^ f = r at *
  subst h
  have e : q * (2 ^ L * 2 ^ f) = 2 ^ f * q * 2 ^ L := by rw [Nat.mul_comm q, Nat.mul_comm (2 ^ f) q, Nat.mul_comm (2 ^ L), Nat.mul_assoc, Nat.mul_comm (2 ^ L) q, ← Nat.mul_assoc, Nat.mul_comm (2 ^ f) q]
  rw [e, Nat.add_mul]
  omega

set_option maxHeartbeats 2000000 in
theorem parts_big {w : World} (A : Option Addr) (n c : Nat) (v m f : Int) (h : 60 < n ∨ (n ≤ 60 ∧ m < 0) ∨ (n ≤ 60 ∧ 0 ≤ m ∧ 64 < m) ∨ (n ≤ 60 ∧ 0 ≤ m ∧ m ≤ 64 ∧ f < 0) ∨ (n ≤ 60 ∧ 0 ≤ m ∧ m ≤ 64 ∧ 0 ≤ f ∧ m < f)) :
    Calls Try.prog 6 #[.slice A n c, .int .u64 v, .int .i64 m, .int .i64 f] w fun e w' => e = .returned (.bool true) ∧ Below w.heap.size w w' := by
  rcases h with h | ⟨h1, h2⟩ | ⟨h1, h2, h3⟩ | ⟨h1, h2, h3, h4⟩ | ⟨h1, h2, h3, h4, h5⟩
  all_goals
    go_enter Try.func6, Try.ntmps6
    go_wp2_with (go_at_call 11; refine (known_any _).mono ?_; rintro e w1 ⟨rfl, hb⟩)
    go_ret
    exact ⟨rfl, hb⟩

set_option maxHeartbeats 2000000 in
theorem parts_small {w : World} (A : Option Addr) (n c : Nat) (xs : List (Int × Int)) (hn : n = xs.length) (hr : Reads w w.heap.size 2 A n (putCells xs)) (hok : OkPuts xs)
    (v m f : Nat) (hv : v < 18446744073709551616) (h60 : n ≤ 60) (hm : m ≤ 64) (hf : f ≤ m) :
    Calls Try.prog 6 #[.slice A n c, .int .u64 v, .int .i64 m, .int .i64 f] w fun e w' => e = .returned (.bool true) ∧ Below w.heap.size w w' := by
  obtain ⟨O, hO⟩ : ∃ O, O = Obj.cells #[.int .u64 0, .int .i64 0, .slice none 0 0] 29 := ⟨_, rfl⟩
  have hw0 := Wr.new w w.heap.size (Nat.le_refl _)
  have hwy := Wr.new (w.alloc O) w.heap.size (by simp)
  have hb0 := ((Below.refl w.heap.size w).alloc (Nat.le_refl _) O).alloc (by simp) O
  rw [← hO] at hw0 hwy
  have hw0 := hw0.below ((Below.refl _ _).alloc (Nat.le_refl _) O)
  have hszO : (w.alloc O).heap.size = w.heap.size + 1 := size_alloc_w w O
  rw [hszO] at hwy
  obtain ⟨W0, hW0⟩ : ∃ W0, W0 = (w.alloc O).alloc O := ⟨_, rfl⟩
  rw [← hW0] at hw0 hwy hb0
  rw [hO] at hW0
  have HW0 := hide hW0
  have HX0 := hide hw0
  have HY0 := hide hwy
  have HB0 := hide hb0
  have hlen := allBits_le xs
  have hLb : (allBits xs).length ≤ 6400 := by omega
  have HN := hide hn
  have HOK := hide hok
  have HR := hide hr
  clear hr hok hn hw0 hwy hb0 hO hszO hW0 hlen
  by_cases h64 : m < 64
  · obtain ⟨P, hP⟩ : ∃ P, P = 2 ^ m := ⟨_, rfl⟩
    have hP0 : 0 < P := by rw [hP]; exact pow_pos2 m
    have e1 : IntKind.u64.wrap (2 ^ m) = (P : Int) := by rw [hP]; exact shl_one m h64
    obtain ⟨v1, hv1⟩ : ∃ v1, v1 = v % P := ⟨_, rfl⟩
    have e2 : (v : Int) % (P : Int) = (v1 : Int) := by rw [hv1]; simp
    have hv1m : v1 < 2 ^ m := by rw [hv1, ← hP]; exact Nat.mod_lt _ hP0
    have hv1b : v1 < 18446744073709551616 := lt64 hv1m hm
    clear hP hv1 hv
    have hf64 : f < 64 := by omega
    obtain ⟨Q, hQ⟩ : ∃ Q, Q = 2 ^ f := ⟨_, rfl⟩
    have hQ0 : 0 < Q := by rw [hQ]; exact pow_pos2 f
    have e3 : IntKind.u64.wrap (2 ^ f) = (Q : Int) := by rw [hQ]; exact shl_one f hf64
    obtain ⟨lo, hlo⟩ : ∃ lo, lo = v1 % Q := ⟨_, rfl⟩
    obtain ⟨hi, hhi⟩ : ∃ hi, hi = v1 / 2 ^ f := ⟨_, rfl⟩
    have e4 : (v1 : Int) % (Q : Int) = (lo : Int) := by rw [hlo]; simp
    have e5 : (v1 : Int) / 2 ^ f = (hi : Int) := by rw [hhi]; simp
    have hlom : lo < 2 ^ f := by rw [hlo, ← hQ]; exact Nat.mod_lt _ hQ0
    have him : hi < 2 ^ (m - f) := by
      rw [hhi]
      refine Nat.div_lt_of_lt_mul ?_
      rw [← Nat.pow_add, show f + (m - f) = m from by omega]
      exact hv1m
    have hnum : ∀ L N, N + lo * 2 ^ L + hi * 2 ^ (L + f) = N + v1 * 2 ^ L := fun L N => by rw [hlo, hQ, hhi]; exact (parts_num L N v1 m f hf).1
    have HNUM := hide hnum
    have HLO := hide hlom
    have HHI := hide him
    have HV1 := hide hv1m
    clear hQ hlo hhi hnum hlom him hv1m
    go_enter Try.func6, Try.ntmps6
    go_wp2_with fail
    rw [← HW0.out]
    refine (puts_any A n c xs W0 HX0.out (HR.out.below HB0.out) HOK.out HN.out (by omega) (by omega) HB0.out.size).mono ?_
    rintro e W1 ⟨rfl, F1, hp⟩
    have hx1 : Wr W1 w.heap.size w.heap.size F1 (allBits xs).length (natOf (allBits xs)) := by simpa using hp.wr
    have HB1 := hide (HB0.out.trans (hp.old (fun _ h => by cases h) HB0.out.size))
    have hy1 := HY0.out.chg hp.chg (fun h => by rcases h with h | h; omega; cases h) (fun _ h => by cases h)
    have hrow := hp.row
    have hlty := HY0.out.lt
    have hF1 : ∀ k, F1 = some k → k ≠ w.heap.size + 1 := fun k hk => by
      rcases hrow with h | ⟨b, h, hb⟩
      · rw [hk] at h; cases h
      · rw [hk] at h; injection h with h; omega
    have hF1l := hx1.ltF
    have HX1 := hide hx1
    have HY1 := hide hy1
    have HF1 := hide hF1
    have HF1L := hide hF1l
    clear hp hx1 hy1 hrow hF1 hF1l HX0 HY0
    go_wp2_with fail
    refine (puts_any A n c xs W1 HY1.out (HR.out.below HB1.out) HOK.out HN.out (by omega) (by omega) HB1.out.size).mono ?_
    rintro e W2 ⟨rfl, F2, hp⟩
    have hy2 : Wr W2 w.heap.size (w.heap.size + 1) F2 (allBits xs).length (natOf (allBits xs)) := by simpa using hp.wr
    have HB2 := hide (HB1.out.trans (hp.old (fun _ h => by cases h) HB1.out.size))
    have hx2 := HX1.out.chg hp.chg (fun h => by rcases h with h | h; omega; cases h) (fun k hk h => by
      rcases h with h | h
      · exact HF1.out k hk h
      · cases h)
    have hF2 : ∀ k, F2 = some k → k ≠ w.heap.size ∧ F1 ≠ some k := fun k hk => by
      rcases hp.row with h | ⟨b, h, hb⟩
      · rw [hk] at h; cases h
      · rw [hk] at h; injection h with h
        exact ⟨by have := HX1.out.lt; omega, fun h2 => by have := (HX1.out.ltF k h2).2.1; omega⟩
    have HF2 : Hid (∀ k, F2 = some k → k ≠ w.heap.size) := fun k hk => (hF2 k hk).1
    have HDIS : Hid (∀ k, F2 = some k → F1 ≠ some k) := fun k hk => (hF2 k hk).2
    have HX2 := hide hx2
    have HY2 := hide hy2
    clear hp hx2 hy2 hF2 HX1 HY1
    go_wp2_with fail
    go_wp2_with fail
    go_quiet (fail)
    go_wp2_with fail
    obtain ⟨W3, hW3⟩ : ∃ W3, W3 = W2.drewN nq := ⟨_, rfl⟩
    rw [← hW3]
    have HX3 : Hid (Wr W3 w.heap.size w.heap.size F1 (allBits xs).length (natOf (allBits xs))) := by rw [hW3]; exact HX2.out.drewN nq
    have HY3 : Hid (Wr W3 w.heap.size (w.heap.size + 1) F2 (allBits xs).length (natOf (allBits xs))) := by rw [hW3]; exact HY2.out.drewN nq
    have HB3 : Hid (Below w.heap.size w W3) := by rw [hW3]; exact HB2.out.trans (below_drewN (Below.refl _ _) nq)
    clear hW3
    obtain ⟨L, hL⟩ : ∃ L, L = (allBits xs).length := ⟨_, rfl⟩
    obtain ⟨N, hN⟩ : ∃ N, N = natOf (allBits xs) := ⟨_, rfl⟩
    have hx3 := HX3.out
    have hy3 := HY3.out
    rw [← hL, ← hN] at hx3 hy3
    have HX3 := hide hx3
    have HY3 := hide hy3
    clear hx3 hy3
    have hLb2 : L ≤ 6400 := by omega
    clear hL hN HX2 HY2
    refine (put_any _ _ W3 HX3.out (by omega) (by omega) (by omega) (by simpa using HV1.out) (by omega) HB3.out.size).mono ?_
    rintro e W4 ⟨rfl, G1, hp⟩
    have hx4 : Wr W4 w.heap.size w.heap.size G1 (L + m) (N + v1 * 2 ^ L) := by simpa using hp.wr
    have HB4 := hide (HB3.out.trans (hp.old (fun k hk => (HX3.out.ltF k hk).1) HB3.out.size))
    have hlty := HY3.out.ltF
    have hltx := HX3.out.ltF
    have hylt := HY3.out.lt
    have hdis : ∀ k, F2 = some k → F1 ≠ some k := HDIS.out
    have hy4 := HY3.out.chg hp.chg (fun h => by
      rcases h with h | h
      · omega
      · exact HF1.out _ h.symm rfl) (fun k hk h => by
      rcases h with h | h
      · exact HF2.out k hk h
      · exact hdis k hk h.symm)
    have hG1 : ∀ k, G1 = some k → k ≠ w.heap.size + 1 ∧ F2 ≠ some k := fun k hk => by
      rcases hp.row with h | ⟨b, h, hb⟩
      · rw [hk] at h
        exact ⟨HF1.out k h.symm, fun h2 => hdis k h2 h.symm⟩
      · rw [hk] at h; injection h with h
        exact ⟨by omega, fun h2 => by have := (hlty k h2).2.1; omega⟩
    have HX4 := hide hx4
    have HY4 := hide hy4
    have HG1 := hide hG1
    clear hp hx4 hy4 hG1 hlty hltx hdis HX3 HY3
    go_wp2_with fail
    refine (put_any _ _ W4 HY4.out (by omega) (by omega) (by omega) (by simpa using HLO.out) (by omega) HB4.out.size).mono ?_
    rintro e W5 ⟨rfl, G2, hp⟩
    have hy5 : Wr W5 w.heap.size (w.heap.size + 1) G2 (L + f) (N + lo * 2 ^ L) := by simpa using hp.wr
    have HP5 := hide hp
    have HB5 := hide (HB4.out.trans (hp.old (fun k hk => (HY4.out.ltF k hk).1) HB4.out.size))
    have HY5 := hide hy5
    clear hp hy5
    go_wp2_with fail
    refine (put_any _ _ W5 HY5.out (by omega) (by omega) (by omega) ?_ (by omega) HB5.out.size).mono ?_
    · have e7 : ((m : Int) - (f : Int)).toNat = m - f := by omega
      rw [e7, Int.toNat_natCast]
      exact HHI.out
    rintro e W6 ⟨rfl, G3, hp⟩
    have e6 : ((m : Int) - (f : Int)).toNat = m - f := by omega
    rw [e6] at hp
    have hp6 := HP5.out.trans hp
    have hy6 : Wr W6 w.heap.size (w.heap.size + 1) G3 (L + m) (N + v1 * 2 ^ L) := by
      have h1 := hp.wr
      have h2 : L + f + (m - f) = L + m := by omega
      rw [h2] at h1
      have h3 := HNUM.out L N
      simp only [Int.toNat_natCast] at h1
      rw [h3] at h1
      exact h1
    have hx6 := HX4.out.chg hp6.chg (fun h => by
      rcases h with h | h
      · omega
      · exact HF2.out _ h.symm rfl) (fun k hk h => by
      rcases h with h | h
      · exact (HG1.out k hk).1 h
      · exact (HG1.out k hk).2 h.symm)
    have HB6 := hide (HB5.out.trans (hp.old (fun k hk => (HY5.out.ltF k hk).1) HB5.out.size))
    obtain ⟨N1, hN1⟩ : ∃ N1, N1 = N + v1 * 2 ^ L := ⟨_, rfl⟩
    obtain ⟨L1, hL1⟩ : ∃ L1, L1 = L + m := ⟨_, rfl⟩
    rw [← hN1, ← hL1] at hx6 hy6
    have hL1b : L1 ≤ 6464 := by omega
    have HX6 := hide hx6
    have HY6 := hide hy6
    clear hp hp6 hx6 hy6 hN1 hL1 HX4 HY4 HY5 HP5
    go_wp2_with fail
    refine (bytes_of W6 HX6.out (by omega)).mono ?_
    rintro e W7 ⟨u7, rfl, own7, hb7⟩
    have HB7 := hide (HB6.out.trans (hb7.mono HB6.out.size))
    have HX7 := hide (HX6.out.below hb7)
    have HY7 := hide (HY6.out.below hb7)
    have HO7 := hide own7
    clear own7 hb7 HX6 HY6
    go_wp2_with fail
    refine (bytes_of W7 HY7.out (by omega)).mono ?_
    rintro e W8 ⟨u8, rfl, own8, hb8⟩
    have HB8 := hide (HB7.out.trans (hb8.mono HB7.out.size))
    have HX8 := hide (HX7.out.below hb8)
    have HY8 := hide (HY7.out.below hb8)
    have hsame := same_own u7 u8 _ _ W8 (own_below HO7.out hb8) own8 (pack_byte _ _) (pack_byte _ _)
    rw [decide_eq_true rfl] at hsame
    have HS := hide hsame
    clear own8 hb8 hsame HX7 HY7
    go_wp2_with fail
    refine HS.out.mono ?_
    rintro e W9 ⟨rfl, rfl⟩
    have hLL : ((L1 : Int) == (L1 : Int)) = true := by simp
    go_wp2_with fail
    refine (len_of W8 HX8.out (by omega)).mono ?_
    rintro e W9 ⟨rfl, k1, rfl⟩
    go_wp2_with fail
    refine (len_of (W8.drewN k1) (HY8.out.drewN k1) (by omega)).mono ?_
    rintro e W9 ⟨rfl, k2, hW9⟩
    have HB9 : Hid (Below w.heap.size w W9) := by rw [hW9]; exact (HB8.out.trans (below_drewN (Below.refl _ _) k1)).trans (below_drewN (Below.refl _ _) k2)
    clear hW9
    go_wp2_with fail
    refine (known_any _).mono ?_
    rintro e W10 ⟨rfl, hb10⟩
    have HB10 := hide (HB9.out.trans (hb10.mono HB9.out.size))
    clear hb10
    go_wp2_with fail
    go_ret
    exact ⟨rfl, HB10.out⟩
  · obtain ⟨v1, hv1⟩ : ∃ v1, v1 = v := ⟨_, rfl⟩
    rw [← hv1] at hv ⊢
    have hm64 : m = 64 := by omega
    have hv1m : v1 < 2 ^ m := by rw [hm64]; exact hv
    have hv1b : v1 < 18446744073709551616 := hv
    have hge : 64 ≤ m := by omega
    clear hv1 hv hm64
    by_cases hf64 : f < 64
    · obtain ⟨Q, hQ⟩ : ∃ Q, Q = 2 ^ f := ⟨_, rfl⟩
      have hQ0 : 0 < Q := by rw [hQ]; exact pow_pos2 f
      have e3 : IntKind.u64.wrap (2 ^ f) = (Q : Int) := by rw [hQ]; exact shl_one f hf64
      obtain ⟨lo, hlo⟩ : ∃ lo, lo = v1 % Q := ⟨_, rfl⟩
      obtain ⟨hi, hhi⟩ : ∃ hi, hi = v1 / 2 ^ f := ⟨_, rfl⟩
      have e4 : (v1 : Int) % (Q : Int) = (lo : Int) := by rw [hlo]; simp
      have e5 : (v1 : Int) / 2 ^ f = (hi : Int) := by rw [hhi]; simp
      have hlom : lo < 2 ^ f := by rw [hlo, ← hQ]; exact Nat.mod_lt _ hQ0
      have him : hi < 2 ^ (m - f) := by
        rw [hhi]
        refine Nat.div_lt_of_lt_mul ?_
        rw [← Nat.pow_add, show f + (m - f) = m from by omega]
        exact hv1m
      have hnum : ∀ L N, N + lo * 2 ^ L + hi * 2 ^ (L + f) = N + v1 * 2 ^ L := fun L N => by rw [hlo, hQ, hhi]; exact (parts_num L N v1 m f hf).1
      have HNUM := hide hnum
      have HLO := hide hlom
      have HHI := hide him
      have HV1 := hide hv1m
      clear hQ hlo hhi hnum hlom him hv1m
      go_enter Try.func6, Try.ntmps6
      go_wp2_with fail
      rw [← HW0.out]
      refine (puts_any A n c xs W0 HX0.out (HR.out.below HB0.out) HOK.out HN.out (by omega) (by omega) HB0.out.size).mono ?_
      rintro e W1 ⟨rfl, F1, hp⟩
      have hx1 : Wr W1 w.heap.size w.heap.size F1 (allBits xs).length (natOf (allBits xs)) := by simpa using hp.wr
      have HB1 := hide (HB0.out.trans (hp.old (fun _ h => by cases h) HB0.out.size))
      have hy1 := HY0.out.chg hp.chg (fun h => by rcases h with h | h; omega; cases h) (fun _ h => by cases h)
      have hrow := hp.row
      have hlty := HY0.out.lt
      have hF1 : ∀ k, F1 = some k → k ≠ w.heap.size + 1 := fun k hk => by
        rcases hrow with h | ⟨b, h, hb⟩
        · rw [hk] at h; cases h
        · rw [hk] at h; injection h with h; omega
      have hF1l := hx1.ltF
      have HX1 := hide hx1
      have HY1 := hide hy1
      have HF1 := hide hF1
      have HF1L := hide hF1l
      clear hp hx1 hy1 hrow hF1 hF1l HX0 HY0
      go_wp2_with fail
      refine (puts_any A n c xs W1 HY1.out (HR.out.below HB1.out) HOK.out HN.out (by omega) (by omega) HB1.out.size).mono ?_
      rintro e W2 ⟨rfl, F2, hp⟩
      have hy2 : Wr W2 w.heap.size (w.heap.size + 1) F2 (allBits xs).length (natOf (allBits xs)) := by simpa using hp.wr
      have HB2 := hide (HB1.out.trans (hp.old (fun _ h => by cases h) HB1.out.size))
      have hx2 := HX1.out.chg hp.chg (fun h => by rcases h with h | h; omega; cases h) (fun k hk h => by
        rcases h with h | h
        · exact HF1.out k hk h
        · cases h)
      have hF2 : ∀ k, F2 = some k → k ≠ w.heap.size ∧ F1 ≠ some k := fun k hk => by
        rcases hp.row with h | ⟨b, h, hb⟩
        · rw [hk] at h; cases h
        · rw [hk] at h; injection h with h
          exact ⟨by have := HX1.out.lt; omega, fun h2 => by have := (HX1.out.ltF k h2).2.1; omega⟩
      have HF2 : Hid (∀ k, F2 = some k → k ≠ w.heap.size) := fun k hk => (hF2 k hk).1
      have HDIS : Hid (∀ k, F2 = some k → F1 ≠ some k) := fun k hk => (hF2 k hk).2
      have HX2 := hide hx2
      have HY2 := hide hy2
      clear hp hx2 hy2 hF2 HX1 HY1
      go_wp2_with fail
      go_wp2_with fail
      go_quiet (fail)
      go_wp2_with fail
      obtain ⟨W3, hW3⟩ : ∃ W3, W3 = W2.drewN nq := ⟨_, rfl⟩
      rw [← hW3]
      have HX3 : Hid (Wr W3 w.heap.size w.heap.size F1 (allBits xs).length (natOf (allBits xs))) := by rw [hW3]; exact HX2.out.drewN nq
      have HY3 : Hid (Wr W3 w.heap.size (w.heap.size + 1) F2 (allBits xs).length (natOf (allBits xs))) := by rw [hW3]; exact HY2.out.drewN nq
      have HB3 : Hid (Below w.heap.size w W3) := by rw [hW3]; exact HB2.out.trans (below_drewN (Below.refl _ _) nq)
      clear hW3
      obtain ⟨L, hL⟩ : ∃ L, L = (allBits xs).length := ⟨_, rfl⟩
      obtain ⟨N, hN⟩ : ∃ N, N = natOf (allBits xs) := ⟨_, rfl⟩
      have hx3 := HX3.out
      have hy3 := HY3.out
      rw [← hL, ← hN] at hx3 hy3
      have HX3 := hide hx3
      have HY3 := hide hy3
      clear hx3 hy3
      have hLb2 : L ≤ 6400 := by omega
      clear hL hN HX2 HY2
      refine (put_any _ _ W3 HX3.out (by omega) (by omega) (by omega) (by simpa using HV1.out) (by omega) HB3.out.size).mono ?_
      rintro e W4 ⟨rfl, G1, hp⟩
      have hx4 : Wr W4 w.heap.size w.heap.size G1 (L + m) (N + v1 * 2 ^ L) := by simpa using hp.wr
      have HB4 := hide (HB3.out.trans (hp.old (fun k hk => (HX3.out.ltF k hk).1) HB3.out.size))
      have hlty := HY3.out.ltF
      have hltx := HX3.out.ltF
      have hylt := HY3.out.lt
      have hdis : ∀ k, F2 = some k → F1 ≠ some k := HDIS.out
      have hy4 := HY3.out.chg hp.chg (fun h => by
        rcases h with h | h
        · omega
        · exact HF1.out _ h.symm rfl) (fun k hk h => by
        rcases h with h | h
        · exact HF2.out k hk h
        · exact hdis k hk h.symm)
      have hG1 : ∀ k, G1 = some k → k ≠ w.heap.size + 1 ∧ F2 ≠ some k := fun k hk => by
        rcases hp.row with h | ⟨b, h, hb⟩
        · rw [hk] at h
          exact ⟨HF1.out k h.symm, fun h2 => hdis k h2 h.symm⟩
        · rw [hk] at h; injection h with h
          exact ⟨by omega, fun h2 => by have := (hlty k h2).2.1; omega⟩
      have HX4 := hide hx4
      have HY4 := hide hy4
      have HG1 := hide hG1
      clear hp hx4 hy4 hG1 hlty hltx hdis HX3 HY3
      go_wp2_with fail
      refine (put_any _ _ W4 HY4.out (by omega) (by omega) (by omega) (by simpa using HLO.out) (by omega) HB4.out.size).mono ?_
      rintro e W5 ⟨rfl, G2, hp⟩
      have hy5 : Wr W5 w.heap.size (w.heap.size + 1) G2 (L + f) (N + lo * 2 ^ L) := by simpa using hp.wr
      have HP5 := hide hp
      have HB5 := hide (HB4.out.trans (hp.old (fun k hk => (HY4.out.ltF k hk).1) HB4.out.size))
      have HY5 := hide hy5
      clear hp hy5
      go_wp2_with fail
      refine (put_any _ _ W5 HY5.out (by omega) (by omega) (by omega) ?_ (by omega) HB5.out.size).mono ?_
      · have e7 : ((m : Int) - (f : Int)).toNat = m - f := by omega
        rw [e7, Int.toNat_natCast]
        exact HHI.out
      rintro e W6 ⟨rfl, G3, hp⟩
      have e6 : ((m : Int) - (f : Int)).toNat = m - f := by omega
      rw [e6] at hp
      have hp6 := HP5.out.trans hp
      have hy6 : Wr W6 w.heap.size (w.heap.size + 1) G3 (L + m) (N + v1 * 2 ^ L) := by
        have h1 := hp.wr
        have h2 : L + f + (m - f) = L + m := by omega
        rw [h2] at h1
        have h3 := HNUM.out L N
        simp only [Int.toNat_natCast] at h1
        rw [h3] at h1
        exact h1
      have hx6 := HX4.out.chg hp6.chg (fun h => by
        rcases h with h | h
        · omega
        · exact HF2.out _ h.symm rfl) (fun k hk h => by
        rcases h with h | h
        · exact (HG1.out k hk).1 h
        · exact (HG1.out k hk).2 h.symm)
      have HB6 := hide (HB5.out.trans (hp.old (fun k hk => (HY5.out.ltF k hk).1) HB5.out.size))
      obtain ⟨N1, hN1⟩ : ∃ N1, N1 = N + v1 * 2 ^ L := ⟨_, rfl⟩
      obtain ⟨L1, hL1⟩ : ∃ L1, L1 = L + m := ⟨_, rfl⟩
      rw [← hN1, ← hL1] at hx6 hy6
      have hL1b : L1 ≤ 6464 := by omega
      have HX6 := hide hx6
      have HY6 := hide hy6
      clear hp hp6 hx6 hy6 hN1 hL1 HX4 HY4 HY5 HP5
      go_wp2_with fail
      refine (bytes_of W6 HX6.out (by omega)).mono ?_
      rintro e W7 ⟨u7, rfl, own7, hb7⟩
      have HB7 := hide (HB6.out.trans (hb7.mono HB6.out.size))
      have HX7 := hide (HX6.out.below hb7)
      have HY7 := hide (HY6.out.below hb7)
      have HO7 := hide own7
      clear own7 hb7 HX6 HY6
      go_wp2_with fail
      refine (bytes_of W7 HY7.out (by omega)).mono ?_
      rintro e W8 ⟨u8, rfl, own8, hb8⟩
      have HB8 := hide (HB7.out.trans (hb8.mono HB7.out.size))
      have HX8 := hide (HX7.out.below hb8)
      have HY8 := hide (HY7.out.below hb8)
      have hsame := same_own u7 u8 _ _ W8 (own_below HO7.out hb8) own8 (pack_byte _ _) (pack_byte _ _)
      rw [decide_eq_true rfl] at hsame
      have HS := hide hsame
      clear own8 hb8 hsame HX7 HY7
      go_wp2_with fail
      refine HS.out.mono ?_
      rintro e W9 ⟨rfl, rfl⟩
      have hLL : ((L1 : Int) == (L1 : Int)) = true := by simp
      go_wp2_with fail
      refine (len_of W8 HX8.out (by omega)).mono ?_
      rintro e W9 ⟨rfl, k1, rfl⟩
      go_wp2_with fail
      refine (len_of (W8.drewN k1) (HY8.out.drewN k1) (by omega)).mono ?_
      rintro e W9 ⟨rfl, k2, hW9⟩
      have HB9 : Hid (Below w.heap.size w W9) := by rw [hW9]; exact (HB8.out.trans (below_drewN (Below.refl _ _) k1)).trans (below_drewN (Below.refl _ _) k2)
      clear hW9
      go_wp2_with fail
      refine (known_any _).mono ?_
      rintro e W10 ⟨rfl, hb10⟩
      have HB10 := hide (HB9.out.trans (hb10.mono HB9.out.size))
      clear hb10
      go_wp2_with fail
      go_ret
      exact ⟨rfl, HB10.out⟩
    · have hf64' : f = 64 := by omega
      have hm64' : m = 64 := by omega
      subst hf64' hm64'
      have hnum : ∀ L N, N + v1 * 2 ^ L + 0 * 2 ^ (L + 64) = N + v1 * 2 ^ L := fun L N => by omega
      have HNUM := hide hnum
      have HV1 := hide hv1m
      have HVF := hide hv1m
      clear hnum hv1m
      go_enter Try.func6, Try.ntmps6
      go_wp2_with fail
      rw [← HW0.out]
      refine (puts_any A n c xs W0 HX0.out (HR.out.below HB0.out) HOK.out HN.out (by omega) (by omega) HB0.out.size).mono ?_
      rintro e W1 ⟨rfl, F1, hp⟩
      have hx1 : Wr W1 w.heap.size w.heap.size F1 (allBits xs).length (natOf (allBits xs)) := by simpa using hp.wr
      have HB1 := hide (HB0.out.trans (hp.old (fun _ h => by cases h) HB0.out.size))
      have hy1 := HY0.out.chg hp.chg (fun h => by rcases h with h | h; omega; cases h) (fun _ h => by cases h)
      have hrow := hp.row
      have hlty := HY0.out.lt
      have hF1 : ∀ k, F1 = some k → k ≠ w.heap.size + 1 := fun k hk => by
        rcases hrow with h | ⟨b, h, hb⟩
        · rw [hk] at h; cases h
        · rw [hk] at h; injection h with h; omega
      have hF1l := hx1.ltF
      have HX1 := hide hx1
      have HY1 := hide hy1
      have HF1 := hide hF1
      have HF1L := hide hF1l
      clear hp hx1 hy1 hrow hF1 hF1l HX0 HY0
      go_wp2_with fail
      refine (puts_any A n c xs W1 HY1.out (HR.out.below HB1.out) HOK.out HN.out (by omega) (by omega) HB1.out.size).mono ?_
      rintro e W2 ⟨rfl, F2, hp⟩
      have hy2 : Wr W2 w.heap.size (w.heap.size + 1) F2 (allBits xs).length (natOf (allBits xs)) := by simpa using hp.wr
      have HB2 := hide (HB1.out.trans (hp.old (fun _ h => by cases h) HB1.out.size))
      have hx2 := HX1.out.chg hp.chg (fun h => by rcases h with h | h; omega; cases h) (fun k hk h => by
        rcases h with h | h
        · exact HF1.out k hk h
        · cases h)
      have hF2 : ∀ k, F2 = some k → k ≠ w.heap.size ∧ F1 ≠ some k := fun k hk => by
        rcases hp.row with h | ⟨b, h, hb⟩
        · rw [hk] at h; cases h
        · rw [hk] at h; injection h with h
          exact ⟨by have := HX1.out.lt; omega, fun h2 => by have := (HX1.out.ltF k h2).2.1; omega⟩
      have HF2 : Hid (∀ k, F2 = some k → k ≠ w.heap.size) := fun k hk => (hF2 k hk).1
      have HDIS : Hid (∀ k, F2 = some k → F1 ≠ some k) := fun k hk => (hF2 k hk).2
      have HX2 := hide hx2
      have HY2 := hide hy2
      clear hp hx2 hy2 hF2 HX1 HY1
      go_wp2_with fail
      go_wp2_with fail
      obtain ⟨W3, hW3⟩ : ∃ W3, W3 = W2 := ⟨_, rfl⟩
      rw [← hW3]
      have HX3 : Hid (Wr W3 w.heap.size w.heap.size F1 (allBits xs).length (natOf (allBits xs))) := by rw [hW3]; exact HX2.out
      have HY3 : Hid (Wr W3 w.heap.size (w.heap.size + 1) F2 (allBits xs).length (natOf (allBits xs))) := by rw [hW3]; exact HY2.out
      have HB3 : Hid (Below w.heap.size w W3) := by rw [hW3]; exact HB2.out
      clear hW3
      obtain ⟨L, hL⟩ : ∃ L, L = (allBits xs).length := ⟨_, rfl⟩
      obtain ⟨N, hN⟩ : ∃ N, N = natOf (allBits xs) := ⟨_, rfl⟩
      have hx3 := HX3.out
      have hy3 := HY3.out
      rw [← hL, ← hN] at hx3 hy3
      have HX3 := hide hx3
      have HY3 := hide hy3
      clear hx3 hy3
      have hLb2 : L ≤ 6400 := by omega
      clear hL hN HX2 HY2
      refine (put_any _ _ W3 HX3.out (by omega) (by omega) (by omega) (by simpa using HV1.out) (by omega) HB3.out.size).mono ?_
      rintro e W4 ⟨rfl, G1, hp⟩
      have hx4 : Wr W4 w.heap.size w.heap.size G1 (L + 64) (N + v1 * 2 ^ L) := by simpa using hp.wr
      have HB4 := hide (HB3.out.trans (hp.old (fun k hk => (HX3.out.ltF k hk).1) HB3.out.size))
      have hlty := HY3.out.ltF
      have hltx := HX3.out.ltF
      have hylt := HY3.out.lt
      have hdis : ∀ k, F2 = some k → F1 ≠ some k := HDIS.out
      have hy4 := HY3.out.chg hp.chg (fun h => by
        rcases h with h | h
        · omega
        · exact HF1.out _ h.symm rfl) (fun k hk h => by
        rcases h with h | h
        · exact HF2.out k hk h
        · exact hdis k hk h.symm)
      have hG1 : ∀ k, G1 = some k → k ≠ w.heap.size + 1 ∧ F2 ≠ some k := fun k hk => by
        rcases hp.row with h | ⟨b, h, hb⟩
        · rw [hk] at h
          exact ⟨HF1.out k h.symm, fun h2 => hdis k h2 h.symm⟩
        · rw [hk] at h; injection h with h
          exact ⟨by omega, fun h2 => by have := (hlty k h2).2.1; omega⟩
      have HX4 := hide hx4
      have HY4 := hide hy4
      have HG1 := hide hG1
      clear hp hx4 hy4 hG1 hlty hltx hdis HX3 HY3
      go_wp2_with fail
      refine (put_any _ _ W4 HY4.out (by omega) (by omega) (by omega) (by simpa using HVF.out) (by omega) HB4.out.size).mono ?_
      rintro e W5 ⟨rfl, G2, hp⟩
      have hy5 : Wr W5 w.heap.size (w.heap.size + 1) G2 (L + 64) (N + v1 * 2 ^ L) := by simpa using hp.wr
      have HP5 := hide hp
      have HB5 := hide (HB4.out.trans (hp.old (fun k hk => (HY4.out.ltF k hk).1) HB4.out.size))
      have HY5 := hide hy5
      clear hp hy5
      go_wp2_with fail
      refine (put_any _ _ W5 HY5.out (by omega) (by omega) (by omega) ?_ (by omega) HB5.out.size).mono ?_
      · decide
      rintro e W6 ⟨rfl, G3, hp⟩
      have hp6 := HP5.out.trans hp
      have hy6 : Wr W6 w.heap.size (w.heap.size + 1) G3 (L + 64) (N + v1 * 2 ^ L) := by
        have h1 := hp.wr
        have h2 : L + 64 + 0 = L + 64 := by omega
        simp only [Int.toNat_zero, Nat.zero_mul, Nat.add_zero] at h1
        exact h1
      have hx6 := HX4.out.chg hp6.chg (fun h => by
        rcases h with h | h
        · omega
        · exact HF2.out _ h.symm rfl) (fun k hk h => by
        rcases h with h | h
        · exact (HG1.out k hk).1 h
        · exact (HG1.out k hk).2 h.symm)
      have HB6 := hide (HB5.out.trans (hp.old (fun k hk => (HY5.out.ltF k hk).1) HB5.out.size))
      obtain ⟨N1, hN1⟩ : ∃ N1, N1 = N + v1 * 2 ^ L := ⟨_, rfl⟩
      obtain ⟨L1, hL1⟩ : ∃ L1, L1 = L + 64 := ⟨_, rfl⟩
      rw [← hN1, ← hL1] at hx6 hy6
      have hL1b : L1 ≤ 6464 := by omega
      have HX6 := hide hx6
      have HY6 := hide hy6
      clear hp hp6 hx6 hy6 hN1 hL1 HX4 HY4 HY5 HP5
      go_wp2_with fail
      refine (bytes_of W6 HX6.out (by omega)).mono ?_
      rintro e W7 ⟨u7, rfl, own7, hb7⟩
      have HB7 := hide (HB6.out.trans (hb7.mono HB6.out.size))
      have HX7 := hide (HX6.out.below hb7)
      have HY7 := hide (HY6.out.below hb7)
      have HO7 := hide own7
      clear own7 hb7 HX6 HY6
      go_wp2_with fail
      refine (bytes_of W7 HY7.out (by omega)).mono ?_
      rintro e W8 ⟨u8, rfl, own8, hb8⟩
      have HB8 := hide (HB7.out.trans (hb8.mono HB7.out.size))
      have HX8 := hide (HX7.out.below hb8)
      have HY8 := hide (HY7.out.below hb8)
      have hsame := same_own u7 u8 _ _ W8 (own_below HO7.out hb8) own8 (pack_byte _ _) (pack_byte _ _)
      rw [decide_eq_true rfl] at hsame
      have HS := hide hsame
      clear own8 hb8 hsame HX7 HY7
      go_wp2_with fail
      refine HS.out.mono ?_
      rintro e W9 ⟨rfl, rfl⟩
      have hLL : ((L1 : Int) == (L1 : Int)) = true := by simp
      go_wp2_with fail
      refine (len_of W8 HX8.out (by omega)).mono ?_
      rintro e W9 ⟨rfl, k1, rfl⟩
      go_wp2_with fail
      refine (len_of (W8.drewN k1) (HY8.out.drewN k1) (by omega)).mono ?_
      rintro e W9 ⟨rfl, k2, hW9⟩
      have HB9 : Hid (Below w.heap.size w W9) := by rw [hW9]; exact (HB8.out.trans (below_drewN (Below.refl _ _) k1)).trans (below_drewN (Below.refl _ _) k2)
      clear hW9
      go_wp2_with fail
      refine (known_any _).mono ?_
      rintro e W10 ⟨rfl, hb10⟩
      have HB10 := hide (HB9.out.trans (hb10.mono HB9.out.size))
      clear hb10
      go_wp2_with fail
      go_ret
      exact ⟨rfl, HB10.out⟩

theorem walk_BitoutParts {w : World} (A : Option Addr) (n c : Nat) (xs : List (Int × Int)) (hn : n = xs.length) (hr : Reads w w.heap.size 2 A n (putCells xs)) (hok : OkPuts xs) (hm : c ≤ maxLen) (hc : n ≤ c)
    (v : Int) (wv : (Lit.int .u64 v).wf = true) (m : Int) (wm : (Lit.int .i64 m).wf = true) (f : Int) (wf : (Lit.int .i64 f).wf = true) :
    Calls Try.prog 6 #[.slice A n c, .int .u64 v, .int .i64 m, .int .i64 f] w fun e w' => e = .returned (.bool true) ∧ Below w.heap.size w w' := by
  have bv := bounds_u64 wv
  by_cases h : 60 < n ∨ (n ≤ 60 ∧ m < 0) ∨ (n ≤ 60 ∧ 0 ≤ m ∧ 64 < m) ∨ (n ≤ 60 ∧ 0 ≤ m ∧ m ≤ 64 ∧ f < 0) ∨ (n ≤ 60 ∧ 0 ≤ m ∧ m ≤ 64 ∧ 0 ≤ f ∧ m < f)
  · exact parts_big A n c v m f h
  · obtain ⟨v, rfl⟩ := Int.eq_ofNat_of_zero_le bv.1
    obtain ⟨m, rfl⟩ := Int.eq_ofNat_of_zero_le (show 0 ≤ m by omega)
    obtain ⟨f, rfl⟩ := Int.eq_ofNat_of_zero_le (show 0 ≤ f by omega)
    exact parts_small A n c xs hn hr hok v m f (by omega) (by omega) (by omega) (by omega)
end Go.Proofs.Ytbhpflckcehcfaa
