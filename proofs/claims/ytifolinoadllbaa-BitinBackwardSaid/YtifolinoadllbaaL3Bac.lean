/- portmanteaulaw03.BitinBackward walked. -/
import Derived.Test.YtifolinoadllbaaL3For
namespace Go.Proofs.Ytifolinoadllbaa
open Go.RowKit Go
set_option linter.unusedVariables false

set_option maxRecDepth 4000 in
set_option maxHeartbeats 16000000 in
theorem walk_BitinBackward {w : World} (A : Option Addr) (n c : Nat) (zs : List Int) (hn : zs.length = n) (hr : Reads w w.heap.size 1 A n (zs.map (Value.int .u8))) (hok : ∀ z ∈ zs, (Lit.int .u8 z).wf = true) (hm : c ≤ maxLen) (hc : n ≤ c)
    (A' : Option Addr) (n' c' : Nat) (ys : List Int) (hn' : ys.length = n') (hr' : Reads w w.heap.size 1 A' n' (ys.map (Value.int .i64))) (hok' : ∀ z ∈ ys, (Lit.int .i64 z).wf = true) (hm' : c' ≤ maxLen) (hc' : n' ≤ c') :
    Calls Try.prog 3 #[.slice A n c, .slice A' n' c'] w fun e w' => e = .returned (.bool true) ∧ Below w.heap.size w w' := by
  obtain ⟨hu1, hu2⟩ := u8s_of hok
  rw [hu1] at hr
  obtain ⟨bs, hbs⟩ : ∃ bs, bs = zs.map Int.toNat := ⟨_, rfl⟩
  have hbl : n = bs.length := by rw [hbs]; simpa using hn.symm
  rw [← hbs] at hr hu2
  have HKN := hide known_any
  clear hu1 hbs hn hok hm hn' hok' hm'
  by_cases hbig : (n : Int) > 200 ∨ (¬ (n : Int) > 200 ∧ (n' : Int) > 60)
  · clear hr hu2 hbl hr'
    rcases hbig with h | ⟨h, h1⟩
    all_goals
      go_enter Try.func3, Try.ntmps3
      go_wp2_with fail
      refine (HKN.out _).mono ?_
      rintro e W ⟨rfl, b⟩
      go_wp2
      go_ret
      exact ⟨rfl, b⟩
  · have hb1 : ¬ (n : Int) > 200 := by omega
    have hb2 : ¬ (n' : Int) > 60 := by omega
    have hn200 : n ≤ 200 := by omega
    have hn60 : n' ≤ 60 := by omega
    have HY := hide hr'
    have HR := hide hr
    have HU := hide hu2
    have HL := hide hbl
    clear hr hu2 hbl hr' hbig
    by_cases h0 : bs.getLastD 0 = 0
    · have HNB := hide (fun W (b : Below w.heap.size w W) => newb_nil A n c bs W ((HR.out.below b).more b.size) HL.out h0 (by omega))
      have HRB := hide (fun W (b : Below w.heap.size w W) => rback_bad A n c bs W ((HR.out.below b).more b.size) HU.out HL.out h0 (by omega))
      clear h0
      go_enter Try.func3, Try.ntmps3
      go_wp2_with fail
      refine (HNB.out _ (Below.refl _ _)).mono ?_
      rintro e W1 ⟨rfl, b1⟩
      have B := hide b1
      clear b1
      go_wp2_with fail
      refine (HRB.out _ B.out).mono ?_
      rintro e W2 ⟨rfl, b2⟩
      replace B := hide (B.out.trans (b2.mono B.out.size))
      clear b2
      go_wp2_with fail
      refine (HKN.out _).mono ?_
      rintro e W9 ⟨rfl, b9⟩
      replace B := hide (B.out.trans (b9.mono B.out.size))
      clear b9
      go_wp2
      go_ret
      exact ⟨rfl, B.out⟩
    have hT : ∃ T, T + 9 = 8 * n + Lib.bitLen (bs.getLastD 0) := by
      refine ⟨8 * n + Lib.bitLen (bs.getLastD 0) - 9, ?_⟩
      have hpos : 0 < Lib.bitLen (bs.getLastD 0) := by
        unfold Lib.bitLen
        rw [show (64 : Nat) = 63 + 1 from rfl, Lib.bitLenAux, if_neg h0]
        omega
      have hn0 : 0 < n := by
        have := HL.out
        rcases bs with _ | ⟨x, l⟩
        · exact absurd rfl h0
        · simp at this; omega
      omega
    obtain ⟨T0, hT⟩ := hT
    have HNF := hide (fun W (b : Below w.heap.size w W) => newb_of A n c bs W ((HR.out.below b).more b.size) HU.out HL.out h0 (by omega) hT)
    have HRF := hide (fun W (b : Below w.heap.size w W) => rback_ok A n c bs W ((HR.out.below b).more b.size) HU.out HL.out h0 (by omega) hT)
    clear h0 hT
    go_enter Try.func3, Try.ntmps3
    go_wp2_with fail
    refine (HNF.out _ (Below.refl _ _)).mono ?_
    rintro e W1 ⟨g1, rfl, r1, b1⟩
    have B := hide b1
    have R1 := hide r1
    obtain ⟨i1, e1⟩ : ∃ i1, i1 = W1.heap.size := ⟨_, rfl⟩
    rw [← e1] at R1
    have E1 := hide e1
    clear b1 r1 e1
    go_wp2_with fail
    refine (HRF.out _ B.out).mono ?_
    rintro e W2 ⟨g2, rfl, r2, b2⟩
    replace B := hide (B.out.trans (b2.mono B.out.size))
    replace R1 := hide (R1.out.below b2)
    have F1 := hide (r2.low (lo' := i1) (by rw [E1.out]; exact Nat.le_refl _))
    obtain ⟨i2, e2⟩ : ∃ i2, i2 = W2.heap.size := ⟨_, rfl⟩
    rw [← e2] at F1
    obtain ⟨i0, e0⟩ : ∃ i0, i0 = w.heap.size := ⟨_, rfl⟩
    rw [← e0] at R1
    have l1 := R1.out.lt
    have l2 := F1.out.lt
    have LL := hide (show i0 ≤ g1 ∧ g1 < i1 ∧ i1 ≤ g2 ∧ g2 < i2 by omega)
    have E0 := hide e0
    clear b2 r2 e2 E1 e0 l1 l2 HNF HRF
    obtain ⟨N, hN⟩ : ∃ N, N = leN bs := ⟨_, rfl⟩
    rw [← hN] at F1
    have HN := hide hN
    have hT2 : T0 ≤ 2000 := by have := HL.out; have := R1.out.bounds; omega
    clear hN HL
    go_wp2_with fail
    go_loopw [9] (fun i wr => ∃ k t r : Nat, k ≤ n' ∧ i = .int .i64 k ∧ t ≤ 2000 ∧ Rdr wr i0 i1 g1 58 bs 0 t ∧ Rf wr i1 i2 g2 (seg N 0 t) r ∧ Below w.heap.size w wr) (fun i _ => n' - (intOf i).toNat)
    case atStart => exact ⟨0, T0, 0, Nat.zero_le _, rfl, hT2, R1.out, F1.out, B.out⟩
    case round =>
      obtain ⟨k, t, r, hk, rfl, ht2, hr1, hf1, hb⟩ := hrel
      replace R1 := hide hr1
      replace F1 := hide hf1
      replace B := hide hb
      clear hr1 hf1 hb
      by_cases hlt : k < n'
      · have hkn : (k : Int) < (n' : Int) := by omega
        obtain ⟨b, off, z, rfl, hbb, k0, hz⟩ := int_cells (HY.out.below B.out) hlt
        have HZ := hide hz
        have hbW := Nat.lt_of_lt_of_le hbb B.out.size
        have tp := fun W (r : Rdr W i0 i1 g1 58 bs 0 t) => bpeek_int r z
        have tq := fun W (h : Rf W i1 i2 g2 (seg N 0 t) r) => rpeek_out h (Nat.zero_le _) z
        rw [← HN.out] at tp
        obtain ⟨pv, hpv⟩ : ∃ v, v = pk N 0 t (clampN z) := ⟨_, rfl⟩
        rw [← hpv] at tp tq
        have TP := hide tp
        have TQ := hide tq
        have HK0 := hide k0
        clear hz tp tq hpv
        go_wp2_with fail
        go_region_held3 (fun w' => w'.cell? ⟨b, off + k, none⟩ = some (.int .i64 z)) (go_keep)
          (first
          | (go_at_call 14; refine (TP.out _ (R1.out.below (Below.refl _ wr).drew)).mono ?_; rintro e w1 ⟨rfl, hb1⟩; replace hb1 := (Below.refl _ wr).drew.trans hb1; have j2 := (hb1.cell (p := ⟨b, off + k, none⟩) hbW).trans k0; have HB1 := hide hb1; clear hb1)
          | (go_at_call 15; refine (TQ.out _ (F1.out.below HB1.out)).mono ?_; rintro e w2 ⟨rfl, hb2⟩; have j3 := (hb2.cell (p := ⟨b, off + k, none⟩) (Nat.lt_of_lt_of_le hbW HB1.out.size)).trans j2; have HB2 := hide (HB1.out.trans (hb2.mono HB1.out.size)); clear hb2))
        replace R1 := hide (R1.out.below HB2.out)
        replace F1 := hide (F1.out.below HB2.out)
        replace B := hide (B.out.trans (HB2.out.mono B.out.size))
        clear HB1 HB2 k0 j2 TP TQ HK0 hbW
        have k0 := j3
        clear j3
        by_cases h100 : z > 100
        · have ta := fun x W (r : Rdr W i0 i1 g1 58 bs 0 t) => bskip_out r x
          have tb := fun x W (h : Rf W i1 i2 g2 (seg N 0 t) r) => last_out h (Nat.zero_le _) x
          rw [← HN.out] at ta
          obtain ⟨x, hx⟩ : ∃ x, x = IntKind.i64.wrap (z - 100) := ⟨_, rfl⟩
          have hwx : IntKind.i64.wrap (z - 100) = x := hx.symm
          have hyt : (oB N 0 t x).2.2 ≤ t := by unfold oB okN; split <;> simp
          replace ta := ta x
          replace tb := tb x
          obtain ⟨v, hv⟩ : ∃ v, v = (oB N 0 t x).1 := ⟨_, rfl⟩
          obtain ⟨e, he⟩ : ∃ v, v = (oB N 0 t x).2.1 := ⟨_, rfl⟩
          obtain ⟨y, hy⟩ : ∃ v, v = (oB N 0 t x).2.2 := ⟨_, rfl⟩
          rw [← he, ← hy] at ta
          rw [← hv, ← he, ← hy] at tb
          rw [← hy] at hyt
          have TA := hide ta
          have TB := hide tb
          clear ta tb hv he hy hx
          go_wp2_with fail
          refine (TB.out _ F1.out).mono ?_
          rintro e W ⟨rfl, rr, ch⟩
          replace F1 := hide rr
          replace R1 := hide (R1.out.chg ch (by rintro b rfl; have := LL.out; omega))
          replace B := hide (B.out.trans (ch.below (by rintro b rfl; have := LL.out; have := E0.out; omega) B.out.size))
          clear rr ch k0
          obtain ⟨b', off', z', hA, hbb', k1, hz'⟩ := int_cells (HY.out.below B.out) hlt
          obtain ⟨rfl, rfl⟩ : b = b' ∧ off = off' := by injection hA with hA; injection hA with h1 h2; exact ⟨h1, h2⟩
          obtain rfl : z = z' := by have := HZ.out; rw [this] at hz'; injection hz'
          clear hA hbb' hz'
          go_wp2_with fail
          refine (TA.out _ R1.out).mono ?_
          rintro e W ⟨rfl, rr, ch⟩
          replace R1 := hide rr
          replace F1 := hide (F1.out.chg ch (by rintro b rfl; have := LL.out; omega))
          replace B := hide (B.out.trans (ch.below (by rintro b rfl; have := LL.out; have := E0.out; omega) B.out.size))
          clear rr ch TA TB k1
          have HLE := hide (fun m => quiet_ex (n := m) (bleft_of (R1.out.drewN m)))
          obtain ⟨AA, cc, c0, c1⟩ := F1.out.seg_cells
          go_wp2_with fail
          go_quiet ((go_at_call 19; exact HLE.out _))
          go_wp2
          go_roundw
          case rel =>
            have B1 := B.out.trans (below_drewN (Below.refl _ _) nq |>.mono B.out.size)
            first
            | exact ⟨k + 1, y, _, by omega, by go_num, by omega, R1.out.drewN nq, F1.out.below (below_drewN (Below.refl _ _) nq), B1⟩
            | ((repeat apply Exists.intro); exact ⟨⟨k + 1, y, _, by omega, by go_num, by omega, R1.out.drewN nq, F1.out.below (below_drewN (Below.refl _ _) nq), B1⟩, rfl⟩)
          case measure => simp [intOf]; try omega
        · have ta := fun W (r : Rdr W i0 i1 g1 58 bs 0 t) => btake_out r z
          have tb := fun W (h : Rf W i1 i2 g2 (seg N 0 t) r) => last_out h (Nat.zero_le _) z
          rw [← HN.out] at ta
          have hyt : (oB N 0 t z).2.2 ≤ t := by unfold oB okN; split <;> simp
          obtain ⟨v, hv⟩ : ∃ v, v = (oB N 0 t z).1 := ⟨_, rfl⟩
          obtain ⟨e, he⟩ : ∃ v, v = (oB N 0 t z).2.1 := ⟨_, rfl⟩
          obtain ⟨y, hy⟩ : ∃ v, v = (oB N 0 t z).2.2 := ⟨_, rfl⟩
          rw [← hv, ← he, ← hy] at ta tb
          rw [← hy] at hyt
          have TA := hide ta
          have TB := hide tb
          clear ta tb hv he hy
          go_wp2_with fail
          refine (TA.out _ R1.out).mono ?_
          rintro e W ⟨rfl, rr, ch⟩
          replace R1 := hide rr
          replace F1 := hide (F1.out.chg ch (by rintro b rfl; have := LL.out; omega))
          replace B := hide (B.out.trans (ch.below (by rintro b rfl; have := LL.out; have := E0.out; omega) B.out.size))
          clear rr ch k0
          obtain ⟨b', off', z', hA, hbb', k1, hz'⟩ := int_cells (HY.out.below B.out) hlt
          obtain ⟨rfl, rfl⟩ : b = b' ∧ off = off' := by injection hA with hA; injection hA with h1 h2; exact ⟨h1, h2⟩
          obtain rfl : z = z' := by have := HZ.out; rw [this] at hz'; injection hz'
          clear hA hbb' hz'
          go_wp2_with fail
          refine (TB.out _ F1.out).mono ?_
          rintro e W ⟨rfl, rr, ch⟩
          replace F1 := hide rr
          replace R1 := hide (R1.out.chg ch (by rintro b rfl; have := LL.out; omega))
          replace B := hide (B.out.trans (ch.below (by rintro b rfl; have := LL.out; have := E0.out; omega) B.out.size))
          clear rr ch TA TB k1
          have HLE := hide (fun m => quiet_ex (n := m) (bleft_of (R1.out.drewN m)))
          obtain ⟨AA, cc, c0, c1⟩ := F1.out.seg_cells
          go_wp2_with fail
          go_quiet ((go_at_call 19; exact HLE.out _))
          go_wp2
          go_roundw
          case rel =>
            have B1 := B.out.trans (below_drewN (Below.refl _ _) nq |>.mono B.out.size)
            first
            | exact ⟨k + 1, y, _, by omega, by go_num, by omega, R1.out.drewN nq, F1.out.below (below_drewN (Below.refl _ _) nq), B1⟩
            | ((repeat apply Exists.intro); exact ⟨⟨k + 1, y, _, by omega, by go_num, by omega, R1.out.drewN nq, F1.out.below (below_drewN (Below.refl _ _) nq), B1⟩, rfl⟩)
          case measure => simp [intOf]; try omega
      · have hge : ¬ (k : Int) < (n' : Int) := by omega
        go_wp2_with fail
        refine (HKN.out _).mono ?_
        rintro e W9 ⟨rfl, b9⟩
        replace B := hide (B.out.trans (b9.mono B.out.size))
        clear b9
        go_wp2
        go_ret
        exact ⟨rfl, B.out⟩
end Go.Proofs.Ytifolinoadllbaa
