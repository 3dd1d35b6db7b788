/- portmanteaulaw03.BitinPeeks walked. -/
import Derived.Test.YtifolinoadllbaaL3B
namespace Go.Proofs.Ytifolinoadllbaa
open Go.RowKit Go
set_option linter.unusedVariables false

set_option maxHeartbeats 4000000 in
theorem walk_BitinPeeks {w : World} (A : Option Addr) (n c : Nat) (zs : List Int) (hn : zs.length = n) (hr : Reads w w.heap.size 1 A n (zs.map (Value.int .u8))) (hok : ∀ z ∈ zs, (Lit.int .u8 z).wf = true) (hm : c ≤ maxLen) (hc : n ≤ c)
    (a : Int) (wa : (Lit.int .i64 a).wf = true) (v : Int) (wv : (Lit.int .i64 v).wf = true) :
    Calls Try.prog 5 #[.slice A n c, .int .i64 a, .int .i64 v] w fun e w' => e = .returned (.bool true) ∧ Below w.heap.size w w' := by
  have ba := bounds_i64 wa
  have bv := bounds_i64 wv
  have hmax : c ≤ 9223372036854775807 := by unfold maxLen at hm; omega
  obtain ⟨hu1, hu2⟩ := u8s_of hok
  rw [hu1] at hr
  obtain ⟨bs, hbs⟩ : ∃ bs, bs = zs.map Int.toNat := ⟨_, rfl⟩
  have hbl : n = bs.length := by rw [hbs]; simpa using hn.symm
  rw [← hbs] at hr hu2
  have HKN := hide known_any
  by_cases hbig : (n : Int) > 200 ∨ v < 0 ∨ v > 64
  · clear hr hu1 hu2 hbs hbl hn hok wa wv
    rcases hbig with h | h | h
    · go_enter Try.func5, Try.ntmps5
      go_wp2_with fail
      refine (HKN.out _).mono ?_
      rintro e W ⟨rfl, b⟩
      go_wp2
      go_ret
      exact ⟨rfl, b⟩
    · by_cases h' : (n : Int) > 200
      all_goals
        go_enter Try.func5, Try.ntmps5
        go_wp2_with fail
        refine (HKN.out _).mono ?_
        rintro e W ⟨rfl, b⟩
        go_wp2
        go_ret
        exact ⟨rfl, b⟩
    · by_cases h' : (n : Int) > 200
      all_goals
        have h2 : ¬ v < 0 := by omega
        go_enter Try.func5, Try.ntmps5
        go_wp2_with fail
        refine (HKN.out _).mono ?_
        rintro e W ⟨rfl, b⟩
        go_wp2
        go_ret
        exact ⟨rfl, b⟩
  · have h1 : ¬ (n : Int) > 200 := by omega
    have h2 : ¬ v < 0 := by omega
    have h3 : ¬ v > 64 := by omega
    obtain ⟨k, rfl⟩ := Int.eq_ofNat_of_zero_le (show 0 ≤ v by omega)
    have hk : k ≤ 64 := by omega
    have hn200 : n ≤ 200 := by omega
    clear hbig hn hok wa wv hu1 hbs
    have HR := hide hr
    have HU := hide hu2
    have HL := hide hbl
    clear hr hu2 hbl
    by_cases h0 : bs.getLastD 0 = 0
    · have HB := fun W (b : Below w.heap.size w W) => newb_nil A n c bs W ((HR.out.below b).more b.size) HL.out h0 (by omega)
      have HNB := hide HB
      clear HB h0
      go_enter Try.func5, Try.ntmps5
      go_wp2_with fail
      refine (HNB.out _ (Below.refl _ _)).mono ?_
      rintro e W1 ⟨rfl, b1⟩
      have B := hide b1
      clear b1
      go_wp2_with fail
      refine (HNB.out _ B.out).mono ?_
      rintro e W2 ⟨rfl, b2⟩
      replace B := hide (B.out.trans (b2.mono B.out.size))
      clear b2
      go_wp2_with fail
      refine (HKN.out _).mono ?_
      rintro e W3 ⟨rfl, b3⟩
      replace B := hide (B.out.trans (b3.mono B.out.size))
      clear b3
      go_wp2
      go_ret
      exact ⟨rfl, B.out⟩
    · have hT : ∃ T, T + 9 = 8 * n + Lib.bitLen (bs.getLastD 0) := by
        refine ⟨8 * n + Lib.bitLen (bs.getLastD 0) - 9, ?_⟩
        have hpos : 0 < Lib.bitLen (bs.getLastD 0) := by
          unfold Lib.bitLen
          rw [show (64 : Nat) = 63 + 1 from rfl, Lib.bitLenAux, if_neg h0]
          omega
        have hn0 : 0 < n := by
          have := HL.out
          rcases bs with _ | ⟨x, l⟩
          · exact absurd rfl h0
          · simp at this; omega
        omega
      obtain ⟨T0, hT⟩ := hT
      have HB := fun W (b : Below w.heap.size w W) => newb_of A n c bs W ((HR.out.below b).more b.size) HU.out HL.out h0 (by omega) hT
      have HNB := hide HB
      clear HB h0 hT
      go_enter Try.func5, Try.ntmps5
      go_wp2_with fail
      refine (HNB.out _ (Below.refl _ _)).mono ?_
      rintro e W1 ⟨g1, rfl, r1, b1⟩
      have B := hide b1
      have R1 := hide r1
      obtain ⟨i1, e1⟩ : ∃ i1, i1 = W1.heap.size := ⟨_, rfl⟩
      rw [← e1] at R1
      have E1 := hide e1
      clear b1 r1 e1
      go_wp2_with fail
      refine (HNB.out _ B.out).mono ?_
      rintro e W2 ⟨g2, rfl, r2, b2⟩
      replace B := hide (B.out.trans (b2.mono B.out.size))
      replace R1 := hide (R1.out.below b2)
      have R2 := hide (r2.low (lo' := i1) (by rw [E1.out]; exact Nat.le_refl _))
      obtain ⟨i2, e2⟩ : ∃ i2, i2 = W2.heap.size := ⟨_, rfl⟩
      rw [← e2] at R2
      obtain ⟨i0, e0⟩ : ∃ i0, i0 = w.heap.size := ⟨_, rfl⟩
      rw [← e0] at R1
      have l1 := R1.out.lt
      have l2 := R2.out.lt
      have LL := hide (show i0 ≤ g1 ∧ g1 < i1 ∧ i1 ≤ g2 ∧ g2 < i2 by omega)
      have E0 := hide e0
      clear b2 r2 e2 E1 e0 l1 l2
      obtain ⟨N, hN⟩ : ∃ N, N = leN bs := ⟨_, rfl⟩
      have tk1 := fun W t (r : Rdr W i0 i1 g1 58 bs 0 t) m => btake_out r m
      have sk2 := fun W t (r : Rdr W i1 i2 g2 58 bs 0 t) m => bskip_out r m
      have pk1 := fun W t (r : Rdr W i0 i1 g1 58 bs 0 t) => bpeek_out r k hk
      have pk2 := fun W t (r : Rdr W i1 i2 g2 58 bs 0 t) => bpeek_out r k hk
      rw [← hN] at tk1 sk2 pk1 pk2
      have TK1 := hide tk1
      have SK2 := hide sk2
      have PK1 := hide pk1
      have PK2 := hide pk2
      have HN := hide hN
      clear tk1 sk2 pk1 pk2 hN
      go_wp2_with fail
      obtain ⟨v0, hv0⟩ : ∃ v0, v0 = (oB N 0 T0 a).1 := ⟨_, rfl⟩
      obtain ⟨er, her⟩ : ∃ er, er = (oB N 0 T0 a).2.1 := ⟨_, rfl⟩
      obtain ⟨T1, hT1⟩ : ∃ T1, T1 = (oB N 0 T0 a).2.2 := ⟨_, rfl⟩
      have t1 := TK1.out _ _ R1.out a
      have t2 := fun W r => SK2.out W T0 r a
      rw [← hv0, ← her, ← hT1] at t1
      rw [← her, ← hT1] at t2
      have T2 := hide t2
      clear hv0 her hT1 t2
      refine t1.mono ?_
      clear t1
      rintro e W ⟨rfl, r, ch⟩
      replace R1 := hide r
      replace R2 := hide (R2.out.chg ch (by rintro b rfl; have := LL.out; omega))
      replace B := hide (B.out.trans (ch.below (by rintro b rfl; have := LL.out; have := E0.out; omega) B.out.size))
      clear r ch
      go_wp2_with fail
      refine (T2.out _ R2.out).mono ?_
      rintro e W ⟨rfl, r, ch⟩
      replace R2 := hide r
      replace R1 := hide (R1.out.chg ch (by rintro b rfl; have := LL.out; omega))
      replace B := hide (B.out.trans (ch.below (by rintro b rfl; have := LL.out; have := E0.out; omega) B.out.size))
      clear r ch T2
      have hTb : T1 ≤ 1600 := by have h1 := R1.out.bounds; have h2 := HL.out; omega
      obtain ⟨P, hP⟩ : ∃ P, P = pk N 0 T1 k := ⟨_, rfl⟩
      have p1 := fun W r => PK1.out W T1 r
      have p2 := fun W r => PK2.out W T1 r
      rw [← hP] at p1 p2
      have P1 := hide p1
      have P2 := hide p2
      have HP := hide hP
      clear p1 p2 hP
      go_wp2_with fail
      refine (bleft_below R1.out).mono ?_
      rintro e W ⟨rfl, b⟩
      rw [Nat.sub_zero]
      replace R1 := hide (R1.out.below b)
      replace R2 := hide (R2.out.below b)
      replace B := hide (B.out.trans (b.mono B.out.size))
      clear b
      go_wp2_with fail
      refine (bleft_below R2.out).mono ?_
      rintro e W ⟨rfl, b⟩
      rw [Nat.sub_zero]
      replace R1 := hide (R1.out.below b)
      replace R2 := hide (R2.out.below b)
      replace B := hide (B.out.trans (b.mono B.out.size))
      clear b
      go_wp2_with fail
      refine (bleft_below R1.out).mono ?_
      rintro e W ⟨rfl, b⟩
      rw [Nat.sub_zero]
      replace R1 := hide (R1.out.below b)
      replace R2 := hide (R2.out.below b)
      replace B := hide (B.out.trans (b.mono B.out.size))
      clear b
      go_wp2_with fail
      refine (P1.out _ R1.out).mono ?_
      rintro e W ⟨rfl, b⟩
      replace R1 := hide (R1.out.below b)
      replace R2 := hide (R2.out.below b)
      replace B := hide (B.out.trans (b.mono B.out.size))
      clear b
      go_wp2_with fail
      refine (P1.out _ R1.out).mono ?_
      rintro e W ⟨rfl, b⟩
      replace R1 := hide (R1.out.below b)
      replace R2 := hide (R2.out.below b)
      replace B := hide (B.out.trans (b.mono B.out.size))
      clear b
      go_wp2_with fail
      refine (bleft_below R1.out).mono ?_
      rintro e W ⟨rfl, b⟩
      rw [Nat.sub_zero]
      replace R1 := hide (R1.out.below b)
      replace R2 := hide (R2.out.below b)
      replace B := hide (B.out.trans (b.mono B.out.size))
      clear b
      go_wp2_with fail
      refine (P2.out _ R2.out).mono ?_
      rintro e W ⟨rfl, b⟩
      replace R1 := hide (R1.out.below b)
      replace R2 := hide (R2.out.below b)
      replace B := hide (B.out.trans (b.mono B.out.size))
      clear b
      rcases Nat.lt_or_ge T1 k with hkt | hkt
      · have hkt' : (T1 : Int) < (k : Int) := by omega
        have HT := hide (btake_few R1.out k hk (by omega))
        go_wp2_with fail
        refine HT.out.mono ?_
        rintro e W ⟨rfl, r, ch⟩
        replace R1 := hide r
        replace B := hide (B.out.trans (ch.below (by rintro b rfl; have := LL.out; have := E0.out; omega) B.out.size))
        clear r ch HT
        go_wp2_with fail
        refine (bleft_below R1.out).mono ?_
        rintro e W ⟨rfl, b⟩
        rw [Nat.sub_zero]
        replace B := hide (B.out.trans (b.mono B.out.size))
        clear b
        go_wp2_with fail
        refine (HKN.out _).mono ?_
        rintro e W3 ⟨rfl, b3⟩
        replace B := hide (B.out.trans (b3.mono B.out.size))
        clear b3
        go_wp2
        go_ret
        exact ⟨rfl, B.out⟩
      · have ht := btake_good R1.out k (T1 - k) hk (by omega) (by omega)
        have hPe : leN bs / 2 ^ (T1 - k) % 2 ^ k = P := by
          rw [HP.out, ← HN.out]
          unfold pk
          rw [Nat.sub_zero, Nat.min_eq_left hkt]
          simp
        rw [hPe] at ht
        have HT := hide ht
        have hw1 : IntKind.i64.wrap ((T1 : Int) - (k : Int)) = ((T1 - k : Nat) : Int) := by rw [IntWalk.i64_in _ (by omega)]; omega
        clear ht hPe
        obtain ⟨T2, hT2⟩ : ∃ T2, T2 = T1 - k := ⟨_, rfl⟩
        rw [← hT2] at HT hw1
        clear hT2 hkt
        go_wp2_with fail
        refine HT.out.mono ?_
        rintro e W ⟨rfl, r, ch⟩
        replace R1 := hide r
        replace B := hide (B.out.trans (ch.below (by rintro b rfl; have := LL.out; have := E0.out; omega) B.out.size))
        clear r ch HT
        go_wp2_with fail
        refine (bleft_below R1.out).mono ?_
        rintro e W ⟨rfl, b⟩
        rw [Nat.sub_zero]
        replace B := hide (B.out.trans (b.mono B.out.size))
        clear b
        go_wp2_with fail
        refine (HKN.out _).mono ?_
        rintro e W3 ⟨rfl, b3⟩
        replace B := hide (B.out.trans (b3.mono B.out.size))
        clear b3
        go_wp2
        go_ret
        exact ⟨rfl, B.out⟩
end Go.Proofs.Ytifolinoadllbaa
