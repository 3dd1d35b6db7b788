/- portmanteaulaw03.BitinParts walked. -/
import Derived.Test.YtifolinoadllbaaL3Par
namespace Go.Proofs.Ytifolinoadllbaa
open Go.RowKit Go
set_option linter.unusedVariables false

set_option maxRecDepth 4000 in
set_option maxHeartbeats 16000000 in
theorem walk_BitinParts {w : World} (A : Option Addr) (n c : Nat) (zs : List Int) (hn : zs.length = n) (hr : Reads w w.heap.size 1 A n (zs.map (Value.int .u8))) (hok : ∀ z ∈ zs, (Lit.int .u8 z).wf = true) (hm : c ≤ maxLen) (hc : n ≤ c)
    (a : Int) (wa : (Lit.int .i64 a).wf = true) (v : Int) (wv : (Lit.int .i64 v).wf = true) :
    Calls Try.prog 4 #[.slice A n c, .int .i64 a, .int .i64 v] w fun e w' => e = .returned (.bool true) ∧ Below w.heap.size w w' := by
  have ba := bounds_i64 wa
  have bv := bounds_i64 wv
  have hmax : c ≤ 9223372036854775807 := by unfold maxLen at hm; omega
  obtain ⟨hu1, hu2⟩ := u8s_of hok
  rw [hu1] at hr
  obtain ⟨bs, hbs⟩ : ∃ bs, bs = zs.map Int.toNat := ⟨_, rfl⟩
  have hbl : n = bs.length := by rw [hbs]; simpa using hn.symm
  rw [← hbs] at hr hu2
  have HKN := hide known_any
  obtain ⟨S, hS⟩ : ∃ S, S = IntKind.i64.wrap (a + v) := ⟨_, rfl⟩
  have hS0 := hS
  rw [IntKind.wrap_i64] at hS0
  by_cases hbig : (n : Int) > 200 ∨ a < 0 ∨ v < 0 ∨ S > 64
  · clear hr hu1 hu2 hbs hbl hn hok wa wv hS0
    have h4 : (n : Int) > 200 ∨ (¬ (n : Int) > 200 ∧ a < 0) ∨ (¬ (n : Int) > 200 ∧ ¬ a < 0 ∧ v < 0) ∨ (¬ (n : Int) > 200 ∧ ¬ a < 0 ∧ ¬ v < 0 ∧ S > 64) := by omega
    have hSw : IntKind.i64.wrap (a + v) = S := hS.symm
    clear hbig hS
    rcases h4 with h | ⟨h, h1⟩ | ⟨h, h1, h2⟩ | ⟨h, h1, h2, h3⟩
    all_goals
      go_enter Try.func4, Try.ntmps4
      go_wp2_with fail
      refine (HKN.out _).mono ?_
      rintro e W ⟨rfl, b⟩
      go_wp2
      go_ret
      exact ⟨rfl, b⟩
  · have h1 : ¬ (n : Int) > 200 := by omega
    have h2 : ¬ a < 0 := by omega
    have h3 : ¬ v < 0 := by omega
    have h4 : ¬ S > 64 := by omega
    have hcase : (a + v ≤ 64 ∧ S = a + v) ∨ (64 < a + v ∧ 128 < a + v ∧ S < 0) := by omega
    have hn200 : n ≤ 200 := by omega
    have LF := parts_f (leN bs) (8 * n) a v S (by omega) (by omega) hcase
    have LB := fun t => parts_b (leN bs) t a v S (by omega) (by omega) hcase
    have hSw : IntKind.i64.wrap (a + v) = S := hS.symm
    clear hbig hn hok wa wv hu1 hbs hS hS0 hcase
    have HR := hide hr
    have HU := hide hu2
    have HL := hide hbl
    clear hr hu2 hbl
    have HNF := hide (fun W (b : Below w.heap.size w W) => newf_of A n c bs W ((HR.out.below b).more b.size) HU.out HL.out (by omega))
    obtain ⟨N, hN⟩ : ∃ N, N = leN bs := ⟨_, rfl⟩
    rw [← hN] at LF
    obtain ⟨x, hx⟩ : ∃ x, x = (oF N 0 (8 * n) a).1 := ⟨_, rfl⟩
    obtain ⟨ex, hex⟩ : ∃ x, x = (oF N 0 (8 * n) a).2.1 := ⟨_, rfl⟩
    obtain ⟨fx, hfx⟩ : ∃ x, x = (oF N 0 (8 * n) a).2.2 := ⟨_, rfl⟩
    rw [← hx, ← hex, ← hfx] at LF
    obtain ⟨y, hy⟩ : ∃ x, x = (oF N fx (8 * n) v).1 := ⟨_, rfl⟩
    obtain ⟨ey, hey⟩ : ∃ x, x = (oF N fx (8 * n) v).2.1 := ⟨_, rfl⟩
    obtain ⟨fy, hfy⟩ : ∃ x, x = (oF N fx (8 * n) v).2.2 := ⟨_, rfl⟩
    rw [← hy, ← hey] at LF
    obtain ⟨z, hz⟩ : ∃ x, x = (oF N 0 (8 * n) S).1 := ⟨_, rfl⟩
    obtain ⟨ez, hez⟩ : ∃ x, x = (oF N 0 (8 * n) S).2.1 := ⟨_, rfl⟩
    obtain ⟨fz, hfz⟩ : ∃ x, x = (oF N 0 (8 * n) S).2.2 := ⟨_, rfl⟩
    rw [← hz, ← hez] at LF
    have tx := fun W lo hi g (r : Rdr W lo hi g 57 bs 0 (8 * n)) => ftake_out r a
    have ty := fun W lo hi g (r : Rdr W lo hi g 57 bs fx (8 * n)) => ftake_out r v
    have tz := fun W lo hi g (r : Rdr W lo hi g 57 bs 0 (8 * n)) => ftake_out r S
    rw [← hN] at tx ty tz LB
    rw [← hx, ← hex, ← hfx] at tx
    rw [← hy, ← hey, ← hfy] at ty
    rw [← hz, ← hez, ← hfz] at tz
    have TX := hide tx
    have TY := hide ty
    have TZ := hide tz
    clear tx ty tz hx hex hfx hy hey hfy hz hez hfz
    have HXF : (ez = 0 ∧ ex = 0 ∧ ey = 0 ∧ a ≤ 64 ∧ bits BinOp.or IntKind.u64 (x : Int) (IntKind.u64.wrap ((y : Int) * 2 ^ a.toNat)) = (z : Int)) ∨ ((ez == 0) = false ∧ (ex == 0) = false) ∨ ((ez == 0) = false ∧ ex = 0 ∧ (ey == 0) = false) := by
      rcases LF with h | ⟨h, h'⟩ | ⟨h, h', h''⟩
      · exact .inl h
      · exact .inr (.inl ⟨by simpa using h, by simpa using h'⟩)
      · exact .inr (.inr ⟨by simpa using h, h', by simpa using h''⟩)
    clear LF
    by_cases h0 : bs.getLastD 0 = 0
    · have HNB := hide (fun W (b : Below w.heap.size w W) => newb_nil A n c bs W ((HR.out.below b).more b.size) HL.out h0 (by omega))
      clear h0 LB
      rcases HXF with ⟨rfl, rfl, rfl, ha64, hor⟩ | ⟨hz, hx⟩ | ⟨hz, rfl, hy⟩
      all_goals
        go_enter Try.func4, Try.ntmps4
        go_wp2_with fail
        refine (HNF.out _ (Below.refl _ _)).mono ?_
        rintro e W1 ⟨g1, rfl, r1, b1⟩
        have B := hide b1
        have R1 := hide r1
        obtain ⟨i1, e1⟩ : ∃ i1, i1 = W1.heap.size := ⟨_, rfl⟩
        rw [← e1] at R1
        have E1 := hide e1
        clear b1 r1 e1
        go_wp2_with fail
        refine (HNF.out _ B.out).mono ?_
        rintro e W2 ⟨g2, rfl, r2, b2⟩
        replace B := hide (B.out.trans (b2.mono B.out.size))
        replace R1 := hide (R1.out.below b2)
        have R2 := hide (r2.low (lo' := i1) (by rw [E1.out]; exact Nat.le_refl _))
        obtain ⟨i2, e2⟩ : ∃ i2, i2 = W2.heap.size := ⟨_, rfl⟩
        rw [← e2] at R2
        obtain ⟨i0, e0⟩ : ∃ i0, i0 = w.heap.size := ⟨_, rfl⟩
        rw [← e0] at R1
        have l1 := R1.out.lt
        have l2 := R2.out.lt
        have LL := hide (show i0 ≤ g1 ∧ g1 < i1 ∧ i1 ≤ g2 ∧ g2 < i2 by omega)
        have E0 := hide e0
        clear b2 r2 e2 E1 e0 l1 l2
        go_wp2_with fail
        refine (TX.out _ _ _ _ R1.out).mono ?_
        rintro e W ⟨rfl, r, ch⟩
        replace R2 := hide (R2.out.chg ch (by rintro b rfl; have := LL.out; omega))
        have R1 := hide r
        replace B := hide (B.out.trans (ch.below (by rintro b rfl; have := LL.out; have := E0.out; omega) B.out.size))
        clear r ch
        go_wp2_with fail
        refine (TY.out _ _ _ _ R1.out).mono ?_
        rintro e W ⟨rfl, r, ch⟩
        replace R2 := hide (R2.out.chg ch (by rintro b rfl; have := LL.out; omega))
        have R1 := hide r
        replace B := hide (B.out.trans (ch.below (by rintro b rfl; have := LL.out; have := E0.out; omega) B.out.size))
        clear r ch
        go_wp2_with fail
        refine (TZ.out _ _ _ _ R2.out).mono ?_
        rintro e W ⟨rfl, r, ch⟩
        replace R1 := hide (R1.out.chg ch (by rintro b rfl; have := LL.out; omega))
        have R2 := hide r
        replace B := hide (B.out.trans (ch.below (by rintro b rfl; have := LL.out; have := E0.out; omega) B.out.size))
        clear r ch R1 R2 LL E0
        go_wp2_with fail
        refine (HNB.out _ B.out).mono ?_
        rintro e W1 ⟨rfl, b1⟩
        replace B := hide (B.out.trans (b1.mono B.out.size))
        clear b1
        go_wp2_with fail
        refine (HNB.out _ B.out).mono ?_
        rintro e W2 ⟨rfl, b2⟩
        replace B := hide (B.out.trans (b2.mono B.out.size))
        clear b2
        go_wp2_with fail
        refine (HKN.out _).mono ?_
        rintro e W3 ⟨rfl, b3⟩
        replace B := hide (B.out.trans (b3.mono B.out.size))
        clear b3
        go_wp2
        go_ret
        exact ⟨rfl, B.out⟩
    · have hT : ∃ T, T + 9 = 8 * n + Lib.bitLen (bs.getLastD 0) := by
        refine ⟨8 * n + Lib.bitLen (bs.getLastD 0) - 9, ?_⟩
        have hpos : 0 < Lib.bitLen (bs.getLastD 0) := by
          unfold Lib.bitLen
          rw [show (64 : Nat) = 63 + 1 from rfl, Lib.bitLenAux, if_neg h0]
          omega
        have hn0 : 0 < n := by
          have := HL.out
          rcases bs with _ | ⟨x, l⟩
          · exact absurd rfl h0
          · simp at this; omega
        omega
      obtain ⟨T0, hT⟩ := hT
      have HNB := hide (fun W (b : Below w.heap.size w W) => newb_of A n c bs W ((HR.out.below b).more b.size) HU.out HL.out h0 (by omega) hT)
      replace LB := LB T0
      clear h0 hT
      obtain ⟨p, hp⟩ : ∃ x, x = (oB N 0 T0 a).1 := ⟨_, rfl⟩
      obtain ⟨ep, hep⟩ : ∃ x, x = (oB N 0 T0 a).2.1 := ⟨_, rfl⟩
      obtain ⟨fp, hfp⟩ : ∃ x, x = (oB N 0 T0 a).2.2 := ⟨_, rfl⟩
      rw [← hp, ← hep, ← hfp] at LB
      obtain ⟨q, hq⟩ : ∃ x, x = (oB N 0 fp v).1 := ⟨_, rfl⟩
      obtain ⟨eq, heq⟩ : ∃ x, x = (oB N 0 fp v).2.1 := ⟨_, rfl⟩
      obtain ⟨fq, hfq⟩ : ∃ x, x = (oB N 0 fp v).2.2 := ⟨_, rfl⟩
      rw [← hq, ← heq] at LB
      obtain ⟨r, hr⟩ : ∃ x, x = (oB N 0 T0 S).1 := ⟨_, rfl⟩
      obtain ⟨er, her⟩ : ∃ x, x = (oB N 0 T0 S).2.1 := ⟨_, rfl⟩
      obtain ⟨fr, hfr⟩ : ∃ x, x = (oB N 0 T0 S).2.2 := ⟨_, rfl⟩
      rw [← hr, ← her] at LB
      have tp := fun W lo hi g (r : Rdr W lo hi g 58 bs 0 T0) => btake_out r a
      have tq := fun W lo hi g (r : Rdr W lo hi g 58 bs 0 fp) => btake_out r v
      have tr := fun W lo hi g (r : Rdr W lo hi g 58 bs 0 T0) => btake_out r S
      rw [← hN] at tp tq tr
      rw [← hp, ← hep, ← hfp] at tp
      rw [← hq, ← heq, ← hfq] at tq
      rw [← hr, ← her, ← hfr] at tr
      have TP := hide tp
      have TQ := hide tq
      have TR := hide tr
      clear tp tq tr hp hep hfp hq heq hfq hr her hfr hN
      have HXB : (er = 0 ∧ ep = 0 ∧ eq = 0 ∧ v ≤ 64 ∧ bits BinOp.or IntKind.u64 (IntKind.u64.wrap ((p : Int) * 2 ^ v.toNat)) (q : Int) = (r : Int)) ∨ ((er == 0) = false ∧ (ep == 0) = false) ∨ ((er == 0) = false ∧ ep = 0 ∧ (eq == 0) = false) := by
        rcases LB with h | ⟨h, h'⟩ | ⟨h, h', h''⟩
        · exact .inl h
        · exact .inr (.inl ⟨by simpa using h, by simpa using h'⟩)
        · exact .inr (.inr ⟨by simpa using h, h', by simpa using h''⟩)
      clear LB
      rcases HXF with ⟨rfl, rfl, rfl, ha64, hor⟩ | ⟨hz, hx⟩ | ⟨hz, rfl, hy⟩
      all_goals rcases HXB with ⟨rfl, rfl, rfl, hv64, hob⟩ | ⟨hr, hp⟩ | ⟨hr, rfl, hq⟩
      all_goals try (have hr2 : ¬ er = 0 := by simpa using hr)
      all_goals try (have hp2 : ¬ ep = 0 := by simpa using hp)
      all_goals try (have hq2 : ¬ eq = 0 := by simpa using hq)
      all_goals
        go_enter Try.func4, Try.ntmps4
        go_wp2_with fail
        refine (HNF.out _ (Below.refl _ _)).mono ?_
        rintro e W1 ⟨g1, rfl, r1, b1⟩
        have B := hide b1
        have R1 := hide r1
        obtain ⟨i1, e1⟩ : ∃ i1, i1 = W1.heap.size := ⟨_, rfl⟩
        rw [← e1] at R1
        have E1 := hide e1
        clear b1 r1 e1
        go_wp2_with fail
        refine (HNF.out _ B.out).mono ?_
        rintro e W2 ⟨g2, rfl, r2, b2⟩
        replace B := hide (B.out.trans (b2.mono B.out.size))
        replace R1 := hide (R1.out.below b2)
        have R2 := hide (r2.low (lo' := i1) (by rw [E1.out]; exact Nat.le_refl _))
        obtain ⟨i2, e2⟩ : ∃ i2, i2 = W2.heap.size := ⟨_, rfl⟩
        rw [← e2] at R2
        obtain ⟨i0, e0⟩ : ∃ i0, i0 = w.heap.size := ⟨_, rfl⟩
        rw [← e0] at R1
        have l1 := R1.out.lt
        have l2 := R2.out.lt
        have LL := hide (show i0 ≤ g1 ∧ g1 < i1 ∧ i1 ≤ g2 ∧ g2 < i2 by omega)
        have E0 := hide e0
        clear b2 r2 e2 E1 e0 l1 l2
        go_wp2_with fail
        refine (TX.out _ _ _ _ R1.out).mono ?_
        rintro e W ⟨rfl, r, ch⟩
        replace R2 := hide (R2.out.chg ch (by rintro b rfl; have := LL.out; omega))
        have R1 := hide r
        replace B := hide (B.out.trans (ch.below (by rintro b rfl; have := LL.out; have := E0.out; omega) B.out.size))
        clear r ch
        go_wp2_with fail
        refine (TY.out _ _ _ _ R1.out).mono ?_
        rintro e W ⟨rfl, r, ch⟩
        replace R2 := hide (R2.out.chg ch (by rintro b rfl; have := LL.out; omega))
        have R1 := hide r
        replace B := hide (B.out.trans (ch.below (by rintro b rfl; have := LL.out; have := E0.out; omega) B.out.size))
        clear r ch
        go_wp2_with fail
        refine (TZ.out _ _ _ _ R2.out).mono ?_
        rintro e W ⟨rfl, r, ch⟩
        replace R1 := hide (R1.out.chg ch (by rintro b rfl; have := LL.out; omega))
        have R2 := hide r
        replace B := hide (B.out.trans (ch.below (by rintro b rfl; have := LL.out; have := E0.out; omega) B.out.size))
        clear r ch R1 R2 LL E0
        go_wp2_with fail
        refine (HNB.out _ B.out).mono ?_
        rintro e W1 ⟨g1, rfl, r1, b1⟩
        have Y1 := hide r1
        obtain ⟨i1, e1⟩ : ∃ i1, i1 = W1.heap.size := ⟨_, rfl⟩
        rw [← e1] at Y1
        replace Y1 := hide (Y1.out.low (lo' := w.heap.size) B.out.size)
        replace B := hide (B.out.trans (b1.mono B.out.size))
        have E1 := hide e1
        clear b1 r1 e1
        go_wp2_with fail
        refine (HNB.out _ B.out).mono ?_
        rintro e W2 ⟨g2, rfl, r2, b2⟩
        replace B := hide (B.out.trans (b2.mono B.out.size))
        replace Y1 := hide (Y1.out.below b2)
        have Y2 := hide (r2.low (lo' := i1) (by rw [E1.out]; exact Nat.le_refl _))
        obtain ⟨i2, e2⟩ : ∃ i2, i2 = W2.heap.size := ⟨_, rfl⟩
        rw [← e2] at Y2
        obtain ⟨i0, e0⟩ : ∃ i0, i0 = w.heap.size := ⟨_, rfl⟩
        rw [← e0] at Y1
        have l1 := Y1.out.lt
        have l2 := Y2.out.lt
        have LL := hide (show i0 ≤ g1 ∧ g1 < i1 ∧ i1 ≤ g2 ∧ g2 < i2 by omega)
        have E0 := hide e0
        clear b2 r2 e2 E1 e0 l1 l2
        go_wp2_with fail
        refine (TP.out _ _ _ _ Y1.out).mono ?_
        rintro e W ⟨rfl, r, ch⟩
        replace Y2 := hide (Y2.out.chg ch (by rintro b rfl; have := LL.out; omega))
        have Y1 := hide r
        replace B := hide (B.out.trans (ch.below (by rintro b rfl; have := LL.out; have := E0.out; omega) B.out.size))
        clear r ch
        go_wp2_with fail
        refine (TQ.out _ _ _ _ Y1.out).mono ?_
        rintro e W ⟨rfl, r, ch⟩
        replace Y2 := hide (Y2.out.chg ch (by rintro b rfl; have := LL.out; omega))
        have Y1 := hide r
        replace B := hide (B.out.trans (ch.below (by rintro b rfl; have := LL.out; have := E0.out; omega) B.out.size))
        clear r ch
        go_wp2_with fail
        refine (TR.out _ _ _ _ Y2.out).mono ?_
        rintro e W ⟨rfl, r, ch⟩
        replace Y1 := hide (Y1.out.chg ch (by rintro b rfl; have := LL.out; omega))
        have Y2 := hide r
        replace B := hide (B.out.trans (ch.below (by rintro b rfl; have := LL.out; have := E0.out; omega) B.out.size))
        clear r ch
        try clear hor ha64


        go_wp2_with fail
        refine (HKN.out _).mono ?_
        rintro e W3 ⟨rfl, b3⟩
        replace B := hide (B.out.trans (b3.mono B.out.size))
        clear b3
        go_wp2
        go_ret
        exact ⟨rfl, B.out⟩
end Go.Proofs.Ytifolinoadllbaa
