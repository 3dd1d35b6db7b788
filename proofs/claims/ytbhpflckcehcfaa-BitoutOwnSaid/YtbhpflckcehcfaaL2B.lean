/- portmanteaulaw02.put walked. -/
import Derived.Test.YtbhpflckcehcfaaL2A
namespace Go.Proofs.Ytbhpflckcehcfaa
open Go.RowKit
set_option linter.unusedVariables false
attribute [local go_sem ↓] Go.wp_at_zero Go.wp_at_succ

theorem natOf_bitsOf (v n : Nat) : natOf (bitsOf v n) = v % 2 ^ n := by
  induction n with
  | zero => simp [bitsOf, natOf, Nat.mod_one]
  | succ n ih =>
    rw [bitsOf_succ, natOf_snoc, ih, bitsOf_length, Nat.pow_succ, Nat.mod_mul]
    congr 1
    rw [Nat.mul_comm]
    congr 1
    have := Nat.mod_two_eq_zero_or_one (v / 2 ^ n)
    rcases this with h | h <;> simp [h]

/-- One call more. -/
theorem allBits_nat {xs : List (Int × Int)} {k : Nat} {x m : Int} (h : xs[k]? = some (x, m)) (L N : Nat) (hm : mayB x m = true) :
    L + (allBits (xs.take (k + 1))).length = L + (allBits (xs.take k)).length + m.toNat ∧
    N + natOf (allBits (xs.take (k + 1))) * 2 ^ L = N + natOf (allBits (xs.take k)) * 2 ^ L + x.toNat * 2 ^ (L + (allBits (xs.take k)).length) := by
  have hl := mayB_le hm
  rw [allBits_snoc h, hm]
  simp only [if_true, List.length_append, bitsOf_length]
  refine ⟨by omega, ?_⟩
  rw [natOf_append, natOf_bitsOf, Nat.mod_eq_of_lt hl.2.2, Nat.add_mul, Nat.pow_add]
  have : 2 ^ (allBits (xs.take k)).length * x.toNat * 2 ^ L = x.toNat * (2 ^ L * 2 ^ (allBits (xs.take k)).length) := by
    rw [Nat.mul_comm (2 ^ (allBits (xs.take k)).length) x.toNat, Nat.mul_assoc, Nat.mul_comm (2 ^ (allBits (xs.take k)).length)]
  omega
theorem allBits_none {xs : List (Int × Int)} {k : Nat} {x m : Int} (h : xs[k]? = some (x, m)) (hm : mayB x m = false) : allBits (xs.take (k + 1)) = allBits (xs.take k) := by
  rw [allBits_snoc h, hm]; simp

theorem bad_of {x m : Int} (hm : mayB x m = false) (hx0 : 0 ≤ x) (hm1 : m < 9223372036854775808) : m < 0 ∨ (0 ≤ m ∧ 64 < m) ∨ (0 ≤ m ∧ m < 64 ∧ (x / 2 ^ m.toNat != 0) = true) ∨ (m = 64 ∧ 18446744073709551616 ≤ x) := by
  by_cases h0 : m < 0
  · exact .inl h0
  · by_cases h64 : 64 < m
    · exact .inr (.inl ⟨by omega, h64⟩)
    · simp only [mayB, Bool.and_eq_false_iff, decide_eq_false_iff_not] at hm
      have h2 : ¬ x.toNat < 2 ^ m.toNat := by rcases hm with (hm | hm) | hm <;> first | omega | exact hm
      obtain ⟨x, rfl⟩ := Int.eq_ofNat_of_zero_le hx0
      obtain ⟨m, rfl⟩ := Int.eq_ofNat_of_zero_le (by omega : 0 ≤ m)
      simp only [Int.toNat_natCast] at h2 ⊢
      by_cases he : m = 64
      · subst he
        exact .inr (.inr (.inr ⟨by omega, by have : (2:Nat) ^ 64 = 18446744073709551616 := by decide
                                             omega⟩))
      · refine .inr (.inr (.inl ⟨by omega, by omega, ?_⟩))
        have e : ((x : Int) / 2 ^ m) = ((x / 2 ^ m : Nat) : Int) := by simp
        have hp : 0 < x / 2 ^ m := Nat.div_pos (by omega) (Nat.pow_pos (by omega))
        rw [e, bne_iff_ne]
        omega

theorem put_refuses {g : Nat} {x m : Int} (w : World) (hm : mayB x m = false) (hx0 : 0 ≤ x) (hx1 : x < 18446744073709551616) (hm1 : m < 9223372036854775808) :
    Calls Try.prog 21 #[.pointer (some ⟨g, 0, none⟩), .int .u64 x, .int .i64 m] w fun e w' => e = .returned (.int .i64 2) ∧ w = w' := by
  rcases bad_of hm hx0 hm1 with h | h | h | h
  · exact put_bad g x m w (.inl h) hx0 hx1
  · exact put_bad g x m w (.inr (.inl h)) hx0 hx1
  · exact put_bad g x m w (.inr (.inr h)) hx0 hx1
  · omega

set_option maxHeartbeats 2000000 in
theorem puts_any {B g : Nat} {F : Option Nat} {L N : Nat} (A : Option Addr) (n c : Nat) (xs : List (Int × Int)) (w : World) (h : Wr w B g F L N) (hr : Reads w B 2 A n (putCells xs)) (hok : OkPuts xs) (hn : n = xs.length) (hn' : n ≤ 100000) (hL : L ≤ 1000000000) (hB : B ≤ w.heap.size) :
    Calls Try.prog 12 #[.pointer (some ⟨g, 0, none⟩), .slice A n c] w fun e w' => e = .returned (.bool true) ∧ ∃ F', PutTo w w' B g F F' (L + (allBits xs).length) (N + natOf (allBits xs) * 2 ^ L) := by
  have hF := h.ltF
  have HW := hide h
  have HR := hide hr
  have HN := hide hn
  have HOK := hide hok
  have HF := hide hF
  clear h hr hn hok hF
  go_enter Try.func12, Try.ntmps12
  go_wp2
  go_loopw [5] (fun i wr => ∃ k : Nat, k ≤ n ∧ i = .int .i64 k ∧ ∃ F', PutTo w wr B g F F' (L + (allBits (xs.take k)).length) (N + natOf (allBits (xs.take k)) * 2 ^ L)) (fun i _ => n - (intOf i).toNat)
  case atStart => exact ⟨0, Nat.zero_le _, rfl, F, by simpa [allBits, natOf] using PutTo.start HW.out⟩
  case round =>
    obtain ⟨k, hk, rfl, F1, hp⟩ := hrel
    have hsz := hp.chg.size
    have hbel := hp.old (fun j hj => (HF.out j hj).1) hB
    have HP := hide hp
    have HBE := hide hbel
    clear hp hbel
    by_cases hlt : k < n
    · obtain ⟨b, off, x, m, rfl, hbb, k0, k1, hx⟩ := put_cells (HR.out.below HBE.out) HN.out hlt
      obtain ⟨⟨ok1, ok2⟩, ok3, ok4⟩ := HOK.out _ (List.mem_of_getElem? hx)
      have HX := hide hx
      clear hx
      have hkn : (k : Int) < (n : Int) := by omega
      have hmay := fun W => may_any x m W ok1 ok2
      obtain ⟨M, hM⟩ : ∃ M, M = L + (allBits (xs.take k)).length := ⟨_, rfl⟩
      have hMb : M ≤ 1006400000 := by
        have h1 := allBits_le (xs.take k)
        have h2 := List.length_take_le k xs
        omega
      cases hm : mayB x m with
      | true =>
        rw [hm] at hmay
        have hl := mayB_le hm
        have hnat := allBits_nat HX.out L N hm
        rw [← hM] at hnat
        have hp := HP.out
        rw [← hM] at hp
        have hput := fun (W : World) (hW : Wr W B g F1 M (N + natOf (allBits (xs.take k)) * 2 ^ L)) (hWB : B ≤ W.heap.size) => put_any x m W hW ok1 hl.1 hl.2.1 hl.2.2 (by omega) hWB
        have HPP := hide hp
        have HNAT := hide hnat
        have HMAY := hide hmay
        have HPUT := hide hput
        have HM := hide hM
        clear hm hmay hl hnat hput hM hp HP
        go_wp2
        go_quiet ((go_at_call 22; exact quiet_left (HMAY.out _)))
        go_wp2
        obtain ⟨wd, hwd⟩ : ∃ wd, wd = wr.drewN nq := ⟨_, rfl⟩
        rw [← hwd]
        have kd0 : wd.cell? ⟨b, off + k * 2, none⟩ = some (.int .u64 x) := by rw [hwd]; exact k0
        have kd1 : wd.cell? ⟨b, off + k * 2 + 1, none⟩ = some (.int .i64 m) := by rw [hwd]; exact k1
        have hpd : PutTo w wd B g F F1 M (N + natOf (allBits (xs.take k)) * 2 ^ L) := by rw [hwd]; exact HPP.out.below (below_drewN (Below.refl _ _) _)
        have hsd := hpd.chg.size
        have HPD := hide hpd
        clear hwd hpd
        go_region_held3 (fun w' => w'.cell? ⟨b, off + k * 2, none⟩ = some (.int .u64 x) ∧ w'.cell? ⟨b, off + k * 2 + 1, none⟩ = some (.int .i64 m)) (go_keep)
          (first
            | (go_at_call 21; refine (HPUT.out _ (HPD.out.wr.below (Below.refl _ _).drew) (Nat.le_trans hB hsd)).mono ?_; rintro e w1 ⟨rfl, F2, hp2⟩; replace hp2 := (HPD.out.below ((Below.refl _ wd).drew)).trans hp2; have hb2 := hp2.old (fun j hj => (HF.out j hj).1) hB; have j0 := (hb2.cell (p := ⟨b, off + k * 2, none⟩) hbb).trans ((HBE.out.cell (p := ⟨b, off + k * 2, none⟩) hbb).symm.trans k0); have j1 := (hb2.cell (p := ⟨b, off + k * 2 + 1, none⟩) hbb).trans ((HBE.out.cell (p := ⟨b, off + k * 2 + 1, none⟩) hbb).symm.trans k1); have HP2 := hide hp2; clear hp2 hb2))
        go_wp2
        go_roundw
        case rel => exact ⟨k + 1, by omega, by go_num, F2, by have h2 := HP2.out; rw [HNAT.out.1, HNAT.out.2]; exact h2⟩
        case measure => simp [intOf]; omega
      | false =>
        rw [hm] at hmay
        have HMAY := hide hmay
        have HPUT := hide (fun W => put_refuses (g := g) W hm ok1 ok2 ok4)
        have HNO := hide (allBits_none HX.out hm)
        clear hm hmay hM
        go_wp2
        go_quiet ((go_at_call 22; exact quiet_left (HMAY.out _)))
        go_wp2
        go_quiet ((go_at_call 21; exact quiet_add_left (HPUT.out _)))
        go_wp2
        go_roundw
        case rel => exact ⟨k + 1, by omega, by go_num, F1, by rw [HNO.out]; exact HP.out.below (below_drewN (Below.refl _ _) _)⟩
        case measure => simp [intOf]; omega
    · have hkn : k = xs.length := by have := HN.out; omega
      have HK := hide hkn
      clear hkn
      go_wp2
      go_ret
      have ho := HP.out
      rw [HK.out, List.take_length] at ho
      exact ⟨rfl, F1, ho⟩
end Go.Proofs.Ytbhpflckcehcfaa
