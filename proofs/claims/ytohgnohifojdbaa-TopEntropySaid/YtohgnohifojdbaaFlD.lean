/- flow.Decode walked. -/
import Derived.Test.YtohgnohifojdbaaFlX
import Derived.Test.YtohgnohifojdbaaStC
import Derived.Test.YtohgnohifojdbaaInM
namespace Go.Proofs.Ytohgnohifojdbaa
set_option maxRecDepth 8000
open Go.RowKit Go
set_option linter.unusedVariables false
set_option maxRecDepth 8000

section
variable {m c nb cb : Nat} {A B : Option Addr} {zs : List Int} {bs : List Nat}

set_option maxHeartbeats 4000000 in
theorem dec_table (l n : Int) (w : World) (hm : zs.length = m) (hr : Reads w w.heap.size 1 A m (zs.map (Value.int .i64))) (hok : ∀ z ∈ zs, (Lit.int .i64 z).wf = true) (hc : m ≤ c) (hc' : c ≤ maxLen) (hT : ¬ okT l zs) :
    Calls Try.prog 14 #[.agg #[.int .i64 l, .slice A m c], .slice B nb cb, .int .i64 n] w fun e w' => e = .returned (.tuple #[.slice none 0 0, .int .i64 13]) ∧ Below w.heap.size w w' := by
  have HB := hide (fun W (b : Below w.heap.size w W) => build_bad l A m c zs W hm ((hr.below b).more b.size) hok hc hc' hT)
  clear hr hok hc hc' hT
  go_enter Try.func14, Try.ntmps14
  go_wp2_with fail
  refine (HB.out _ ((Below.refl w.heap.size w).alloc (Nat.le_refl _) _)).mono ?_
  rintro e W1 ⟨rfl, b1⟩
  have B1 := hide (((Below.refl w.heap.size w).alloc (Nat.le_refl _) (.cells #[.int .i64 l, .slice A m c] 28 (0, 0))).trans (b1.mono (by simp)))
  clear b1
  go_wp2
  go_ret2
  exact ⟨rfl, B1.out⟩

set_option maxHeartbeats 4000000 in
theorem dec_arg (l : Nat) (n : Int) (w : World) (hm : zs.length = m) (hr : Reads w w.heap.size 1 A m (zs.map (Value.int .i64))) (hok : ∀ z ∈ zs, (Lit.int .i64 z).wf = true) (hc : m ≤ c) (hc' : c ≤ maxLen) (hT : okT (l : Int) zs) (hn : n < 0 ∨ (¬ n < 0 ∧ 131072 < n)) :
    Calls Try.prog 14 #[.agg #[.int .i64 (l : Int), .slice A m c], .slice B nb cb, .int .i64 n] w fun e w' => e = .returned (.tuple #[.slice none 0 0, .int .i64 2]) ∧ Below w.heap.size w w' := by
  have HB := hide (fun W (b : Below w.heap.size w W) => build_ok l A m c zs W hm ((hr.below b).more b.size) hok hc hc' hT)
  clear hr hok hc hc' hT
  go_enter Try.func14, Try.ntmps14
  go_wp2_with fail
  refine (HB.out _ ((Below.refl w.heap.size w).alloc (Nat.le_refl _) _)).mono ?_
  rintro e W1 ⟨v1, rfl, -, b1⟩
  have B1 := hide (((Below.refl w.heap.size w).alloc (Nat.le_refl _) (.cells #[.int .i64 (l : Int), .slice A m c] 28 (0, 0))).trans (b1.mono (by simp)))
  clear b1
  rcases hn with hn | ⟨hn, hn2⟩
  all_goals
    go_wp2
    go_ret2
    exact ⟨rfl, B1.out⟩

set_option maxHeartbeats 4000000 in
theorem dec_open (l : Nat) (n : Int) (w : World) (hm : zs.length = m) (hr : Reads w w.heap.size 1 A m (zs.map (Value.int .i64))) (hok : ∀ z ∈ zs, (Lit.int .i64 z).wf = true) (hc : m ≤ c) (hc' : c ≤ maxLen) (hT : okT (l : Int) zs) (hn : ¬ n < 0 ∧ ¬ 131072 < n)
    (hrb : Reads w w.heap.size 1 B nb (u8s bs)) (hnb : nb = bs.length) (h0 : bs.getLastD 0 = 0) (hmb : nb ≤ 1000000) :
    Calls Try.prog 14 #[.agg #[.int .i64 (l : Int), .slice A m c], .slice B nb cb, .int .i64 n] w fun e w' => e = .returned (.tuple #[.slice none 0 0, .int .i64 14]) ∧ Below w.heap.size w w' := by
  have HB := hide (fun W (b : Below w.heap.size w W) => build_ok l A m c zs W hm ((hr.below b).more b.size) hok hc hc' hT)
  have HN := hide (fun W (b : Below w.heap.size w W) => newb_bad B nb cb bs W ((hrb.below b).more b.size) hnb h0 (by omega))
  clear hr hok hc hc' hT hrb hnb h0
  obtain ⟨hn1, hn2⟩ := hn
  go_enter Try.func14, Try.ntmps14
  go_wp2_with fail
  refine (HB.out _ ((Below.refl w.heap.size w).alloc (Nat.le_refl _) _)).mono ?_
  rintro e W1 ⟨v1, rfl, -, b1⟩
  have B1 := hide (((Below.refl w.heap.size w).alloc (Nat.le_refl _) (.cells #[.int .i64 (l : Int), .slice A m c] 28 (0, 0))).trans (b1.mono (by simp)))
  clear b1
  go_wp2_with fail
  refine (HN.out _ B1.out).mono ?_
  rintro e W2 ⟨rfl, k, rfl⟩
  go_wp2
  go_ret2
  exact ⟨rfl, below_drewN B1.out _⟩

set_option maxHeartbeats 16000000 in
theorem dec_run (l : Nat) (n : Nat) (w : World) (hm : zs.length = m) (hr : Reads w w.heap.size 1 A m (zs.map (Value.int .i64))) (hok : ∀ z ∈ zs, (Lit.int .i64 z).wf = true) (hc : m ≤ c) (hc' : c ≤ maxLen) (hT : okT (l : Int) zs) (hn : n ≤ 131072)
    (hrb : Reads w w.heap.size 1 B nb (u8s bs)) (h8 : ∀ x ∈ bs, x < 256) (hnb : nb = bs.length) (h0 : bs.getLastD 0 ≠ 0) (hmb : nb ≤ 1000000) {T : Nat} (hT' : T + 9 = 8 * nb + Lib.bitLen (bs.getLastD 0)) :
    Calls Try.prog 14 #[.agg #[.int .i64 (l : Int), .slice A m c], .slice B nb cb, .int .i64 (n : Int)] w fun e w' => ∃ v k S, e = .returned (.tuple #[v, .int .i64 k]) ∧
      ((startF (buildL l zs) l (leN bs) n T = some S ∧ k = 0) ∨ (startF (buildL l zs) l (leN bs) n T = none ∧ k = 14 ∧ S = [])) ∧ w'.ownsRow w.heap.size 3 1 v S.length (intsV S) ∧ Below w.heap.size w w' := by
  obtain ⟨i0, hi, hz0, hz1, hz2⟩ := info_parts info_int
  obtain ⟨W0, hW0⟩ : ∃ W0, W0 = w.alloc (.cells #[.int .i64 (l : Int), .slice A m c] 28 (0, 0)) := ⟨_, rfl⟩
  have g1 : W0.heap[w.heap.size]? = some (.cells #[.int .i64 (l : Int), .slice A m c] 28 (0, 0)) := by rw [hW0]; exact heap_alloc_new w _
  have b0 : Below w.heap.size w W0 := by rw [hW0]; exact (Below.refl w.heap.size w).alloc (Nat.le_refl _) _
  have hs0 : W0.heap.size = w.heap.size + 1 := by rw [hW0]; simp
  have k00 := cell_blk g1 0
  have k01 := cell_blk g1 1
  have HB := hide (build_ok l A m c zs W0 hm ((hr.below b0).more b0.size) hok hc hc' hT)
  have HN := hide (fun W (b : Below w.heap.size w W) => newb_of B nb cb bs W ((hrb.below b).more b.size) h8 hnb h0 (by omega) hT')
  have HU := hide (fun k (hk : k < 2 ^ l) => cell_use hT hk)
  have HNX := hide (fun k (hk : k < 2 ^ l) y => next_lt hT hk y)
  have hl9 : l ≤ 9 := by have := hT.1; omega
  have hS2 : 2 ^ l ≤ 2 ^ 9 := Nat.pow_le_pow_right (by omega) hl9
  have h29 : (2 : Nat) ^ 9 = 512 := by decide
  rw [h29] at hS2
  have HG1 := hide g1
  have HB0 := hide b0
  have HW0 := hide hW0
  have HS0 := hide hs0
  have hn1 : ¬ (n : Int) < 0 := by omega
  have hn2 : ¬ 131072 < (n : Int) := by omega
  clear hr hok hc hc' hT hrb hnb h0 g1 b0 hW0 hm h8 h29 hs0
  obtain ⟨N, hN⟩ : ∃ N, N = leN bs := ⟨_, rfl⟩
  have HNN := hide hN
  rw [← hN]
  obtain ⟨C, hC⟩ : ∃ C, C = buildL l zs := ⟨_, rfl⟩
  have HCL : Hid (C.length = 2 ^ l) := hide (by rw [hC]; simp [buildL])
  rw [← hC] at HB HU HNX ⊢
  clear hN hC
  go_enter Try.func14, Try.ntmps14
  go_wp2_with fail
  rw [← HW0.out]
  go_wp2_with fail
  refine HB.out.mono ?_
  rintro e W1 ⟨v1, rfl, ho1, b1⟩
  obtain ⟨A1, c1, rfl⟩ := own_form ho1
  have G1 := hide ((b1.block _ (by have := HS0.out; omega)).trans HG1.out)
  have B1 := hide (HB0.out.trans (b1.mono HB0.out.size))
  have O1 := hide (Reads.of_own ho1)
  have hsz1 := hide b1.size
  clear b1 ho1 HB HB0 HG1 k00 k01 HW0
  go_wp2_with fail
  refine (HN.out _ B1.out).mono ?_
  rintro e W2 ⟨g, rfl, hrd, b2⟩
  have G2 := hide ((b2.block _ (lt_of_heap G1.out)).trans G1.out)
  have B2 := hide (B1.out.trans (b2.mono B1.out.size))
  have O2 := hide (O1.out.below b2)
  have R2 := hide hrd
  have k20 := cell_blk G2.out 0
  clear b2 hrd G1 B1 O1 HN
  go_wp2_with fail
  obtain ⟨M, hM⟩ : ∃ M, M = min n 2 := ⟨_, rfl⟩
  have hMi : min (n : Int) 2 = (M : Int) := by omega
  obtain ⟨p, hp⟩ : ∃ p, p = W2.heap.size := ⟨_, rfl⟩
  obtain ⟨W3, hW3⟩ : ∃ W3, W3 = W2.alloc (.cells #[.int .i64 0, .int .i64 0] 79 (0, 0)) := ⟨_, rfl⟩
  have g3 : W3.heap[p]? = some (.cells #[.int .i64 0, .int .i64 0] 79 (0, 0)) := by rw [hW3, hp]; exact heap_alloc_new W2 _
  have x2 : W3.heap[w.heap.size]? = some (.cells #[.int .i64 (l : Int), .slice A m c] 28 (0, 0)) := by rw [hW3]; exact alloc_far G2.out _
  have x3 : Below w.heap.size w W3 := by rw [hW3]; exact B2.out.alloc B2.out.size _
  have x4 : Reads W3 W1.heap.size 3 A1 (2 ^ l) (cellsV C) := by rw [hW3]; exact O2.out.alloc (by have := R2.out.lt; omega) _
  have x5 : Rdr W3 W1.heap.size W2.heap.size g 129 bs 0 T := by rw [hW3]; exact R2.out.below ((Below.refl _ _).alloc (Nat.le_refl _) _)
  rw [hMi, ← hp, ← hW3]
  rw [← hp] at x5
  have hq : W1.heap.size ≤ p ∧ w.heap.size < W1.heap.size ∧ W3.heap.size = p + 1 := by
    have e1 := R2.out.lt
    have e2 := HS0.out
    have e3 := hsz1.out
    have e4 : W3.heap.size = W2.heap.size + 1 := by rw [hW3]; simp
    omega
  obtain ⟨i1, hi1⟩ : ∃ i1, i1 = W1.heap.size := ⟨_, rfl⟩
  rw [← hi1] at x4 x5 hq
  have hgl := x5.lt
  have HQ := hide hq
  have HGL := hide hgl
  have G3 := hide g3
  have X2 := hide x2
  have X3 := hide x3
  have X4 := hide x4
  have X5 := hide x5
  have HM := hide hM
  have HTT := hide x5.bounds
  clear hM hMi hp hW3 g3 x2 x3 x4 x5 hq hi1 hgl k20 B2 O2 R2 G2 hsz1 HS0
  go_loopw [44] (fun i wr => ∃ k a b t : Nat, k ≤ M ∧ i = .int .i64 k ∧ Ini l N n T k a b t ∧ wr.heap[p]? = some (.cells #[.int .i64 a, .int .i64 b] 79 (0, 0)) ∧ wr.heap[w.heap.size]? = some (.cells #[.int .i64 (l : Int), .slice A m c] 28 (0, 0)) ∧
    Reads wr i1 3 A1 (2 ^ l) (cellsV C) ∧ Rdr wr i1 p g 129 bs 0 t ∧ Below w.heap.size w wr ∧ p + 1 ≤ wr.heap.size) (fun i _ => M - (intOf i).toNat)
  case atStart => exact ⟨0, 0, 0, T, Nat.zero_le _, rfl, .inl ⟨rfl, rfl, rfl, rfl⟩, G3.out, X2.out, X4.out, X5.out, X3.out, Nat.le_of_eq HQ.out.2.2.symm⟩
  case round =>
    obtain ⟨k, a, b, t, hk, rfl, hini, y1, y2, y3, y4, y5, y6⟩ := hrel
    have HI := hide hini
    have Y1 := hide y1
    have Y2 := hide y2
    have Y3 := hide y3
    have Y4 := hide y4
    have Y5 := hide y5
    have Y6 := hide y6
    have HIL := hide hini.le
    clear hini y1 y2 y3 y4 y5 y6
    by_cases hlt : k < M
    · have hkM : (k : Int) < (M : Int) := by omega
      have k20 := cell_blk Y2.out 0
      have hM2 := HM.out
      by_cases ht : t < l
      · have hnone : startF C l N n T = none := HI.out.few (by omega) (by omega) ht
        have HX := hide hnone
        have HTK := hide (btake_few Y4.out l (by omega) (by omega))
        clear hnone ht hM2
        go_wp2_with fail
        refine HTK.out.mono ?_
        rintro e W4 ⟨rfl, hr4, hc4⟩
        have hb4 : Below w.heap.size w W4 := Y5.out.trans (hc4.below (fun q hq => by have := HGL.out; have := HQ.out; omega) Y5.out.size)
        have HB4 := hide hb4
        clear hr4 hc4 hb4
        go_wp2
        go_ret2
        exact ⟨_, 14, [], rfl, .inr ⟨HX.out, rfl, rfl⟩, World.ownsRow_nil _ _ _ _, HB4.out⟩
      · have HTK := hide (btake_good Y4.out l (t - l) (by omega) (by omega) (Nat.zero_le _))
        obtain ⟨V, hV⟩ : ∃ V, V = N / 2 ^ (t - l) % 2 ^ l := ⟨_, rfl⟩
        have hVl : V < 2 ^ l := by rw [hV]; exact Nat.mod_lt _ (Nat.pow_pos (by omega))
        have hw : IntKind.i64.wrap (V : Int) = (V : Int) := IntWalk.i64_in _ (by omega)
        rw [← HNN.out, ← hV] at HTK
        have HV := hide hV
        have HTL := hide ht
        clear hV ht hM2
        go_wp2_with fail
        refine HTK.out.mono ?_
        rintro e W4 ⟨rfl, hr4, hc4⟩
        have R4 := hide hr4
        have Z1 := hide (hc4.heap Y1.out (by have := HGL.out; omega))
        have Z2 := hide (hc4.heap Y2.out (by have := HGL.out; have := HQ.out; omega))
        have Z3 := hide (Y3.out.chg hc4 (by have := HGL.out; have := Y6.out; omega) (fun ad h e => by have := HGL.out; have := Y3.out.2 (Nat.pow_pos (by omega)); obtain ⟨ad', h1, h2, _⟩ := this; rw [h] at h1; injection h1 with h1; subst h1; omega))
        have Z5 := hide (show Below w.heap.size w W4 from Y5.out.trans (hc4.below (fun q hq => by have := HGL.out; have := HQ.out; omega) Y5.out.size))
        have Z6 := hide (show p + 1 ≤ W4.heap.size from Nat.le_trans Y6.out hc4.size)
        clear hr4 hc4 HTK
        have hk2 : k < 2 := by have := HM.out; omega
        rcases (show k = 0 ∨ k = 1 by omega) with rfl | rfl
        all_goals
          have c0 := cell_blk Z1.out 0
          have c1' := cell_blk Z1.out 1
          have f0 := frozen_blk Z1.out 0
          have f1 := frozen_blk Z1.out 1
          go_wp2
          go_roundw
        case rel =>
          have hcs := (Chg.refl (fun q => q = p) W4).setCell (p := ⟨p, 0, none⟩) (.inl rfl) (.int .i64 (V : Int))
          have hi2 := HI.out.step0 (by have := HM.out; omega) (by have := HTL.out; omega)
          rw [← HV.out] at hi2
          exact ⟨1, V, b, t - l, by omega, rfl, hi2, set_blk Z1.out 0 _, hcs.heap Z2.out (by have := HQ.out; omega), Z3.out.chg hcs (by have := Z6.out; have := HQ.out; omega) (fun ad h e => by have := Z3.out.2 (Nat.pow_pos (by omega)); obtain ⟨ad', h1, h2, _⟩ := this; rw [h] at h1; injection h1 with h1; subst h1; have := HQ.out; omega),
            R4.out.chg hcs (fun q hq => by omega), Z5.out.trans (hcs.below (fun q hq => by have := HQ.out; omega) Z5.out.size), Nat.le_trans Z6.out hcs.size⟩
        case rel =>
          have hcs := (Chg.refl (fun q => q = p) W4).setCell (p := ⟨p, 1, none⟩) (.inl rfl) (.int .i64 (V : Int))
          have hi2 := HI.out.step1 (by have := HM.out; omega) (by have := HTL.out; omega)
          rw [← HV.out] at hi2
          exact ⟨2, a, V, t - l, by omega, rfl, hi2, set_blk Z1.out 1 _, hcs.heap Z2.out (by have := HQ.out; omega), Z3.out.chg hcs (by have := Z6.out; have := HQ.out; omega) (fun ad h e => by have := Z3.out.2 (Nat.pow_pos (by omega)); obtain ⟨ad', h1, h2, _⟩ := this; rw [h] at h1; injection h1 with h1; subst h1; have := HQ.out; omega),
            R4.out.chg hcs (fun q hq => by omega), Z5.out.trans (hcs.below (fun q hq => by have := HQ.out; omega) Z5.out.size), Nat.le_trans Z6.out hcs.size⟩
        case measure => simp [intOf]; omega
        case measure => simp [intOf]; omega
    · obtain rfl : M = k := by omega
      have hrun : Run C l N n T 0 a b t [] := HI.out.run (by have := HM.out; omega) (by have := HM.out; omega)
      have hlt2 := HI.out.lt
      have HAB := hide hlt2
      have HRUN := hide hrun
      clear hrun hlt2 HI
      clear HIL HTT HM
      have HNT := hide (show (wr.heap.size) = wr.heap.size from rfl)
      obtain ⟨P, hP⟩ : ∃ P, P = wr.heap.size := ⟨_, rfl⟩
      have HP := hide (show w.heap.size < P ∧ p < P by have := Y6.out; have := HQ.out; omega)
      have HPE := hide hP
      clear hP hk
      go_wp2_with fail
      go_loopw [15, 63] (fun out i wr => ∃ k now other x0 x1 t : Nat, ∃ o : List Int, k ≤ n ∧ i = .int .i64 k ∧ Run C l N n T k now other t o ∧ now < 2 ^ l ∧ other < 2 ^ l ∧ ((k % 2 = 0 ∧ x0 = now ∧ x1 = other) ∨ (k % 2 = 1 ∧ x0 = other ∧ x1 = now)) ∧ wr.heap[p]? = some (.cells #[.int .i64 x0, .int .i64 x1] 79 (0, 0)) ∧
        Reads wr i1 3 A1 (2 ^ l) (cellsV C) ∧ Rdr wr i1 p g 129 bs 0 t ∧ Below w.heap.size w wr ∧ P ≤ wr.heap.size ∧ o.length = k ∧ wr.ownsRow P 3 1 out k (intsV o)) (fun _ i _ => n - (intOf i).toNat)
      case atStart => exact ⟨0, a, b, a, b, t, [], Nat.zero_le _, rfl, HRUN.out, HAB.out.1, HAB.out.2, .inl ⟨rfl, rfl, rfl⟩, Y1.out, Y3.out, Y4.out, Y5.out, Nat.le_of_eq HPE.out, rfl, World.ownsRow_nil _ _ _ _⟩
      case round =>
        obtain ⟨k, now, other, x0, x1, t, o, hk, rfl, hrun, hnow, hoth, hpar, y1, y3, y4, y5, y6, hol, hown⟩ := hrel
        have HR := hide hrun
        have Y1 := hide y1
        have Y3 := hide y3
        have Y4 := hide y4
        have Y5 := hide y5
        have Y6 := hide y6
        have HOL := hide hol
        have HO := hide hown
        clear hrun y1 y3 y4 y5 y6 hol hown
        by_cases hlt : k < n
        · obtain ⟨u1, u2, u3, u4⟩ := HU.out now hnow
          obtain ⟨bA, off, e1, e2, e3, rfl, hbA, m1, m2, m3, hx⟩ := cell_cells Y3.out HCL.out.symm hnow
          rw [u1] at hx
          injection hx with hx
          injection hx with hx1 hx2
          injection hx2 with hx2 hx3
          subst hx1 hx2 hx3
          have hkn : (k : Int) < (n : Int) := by omega
          have c0 := cell_blk Y1.out 0
          have c1' := cell_blk Y1.out 1
          have hnl : (now : Int) < ((2 ^ l : Nat) : Int) := by omega
          have HU1 := hide u1
          have HU2 := hide u2
          have HU3 := hide u3
          have HHAS := hide u4
          clear u1 u2 u3 u4
          obtain ⟨sy, hsy⟩ : ∃ sy, sy = cS C now := ⟨_, rfl⟩
          obtain ⟨bi, hbi⟩ : ∃ bi, bi = cB C now := ⟨_, rfl⟩
          obtain ⟨ba, hba⟩ : ∃ ba, ba = cA C now := ⟨_, rfl⟩
          rw [← hsy] at m1
          rw [← hbi] at m2
          rw [← hba] at m3
          have HSY := hide hsy
          have HBI := hide hbi
          have HBA := hide hba
          clear hsy hbi hba
          obtain ⟨r, hr⟩ : ∃ r, r = k % 2 := ⟨_, rfl⟩
          have hrem : (k : Int).tmod 2 = (r : Int) := by rw [Int.tmod_eq_emod_of_nonneg (by omega)]; omega
          have hr2 : (r : Int) < 2 := by omega
          have crr : wr.cell? ⟨p, r, none⟩ = some (.int .i64 now) := by
            rw [cell_blk Y1.out r]
            rcases hpar with ⟨h0, rfl, rfl⟩ | ⟨h0, rfl, rfl⟩
            · obtain rfl : r = 0 := by omega
              rfl
            · obtain rfl : r = 1 := by omega
              rfl
          have HPAR := hide hpar
          have HRR := hide hr
          have hrn := reads_new (wr.alloc (.cells #[.int .i64 sy, .int .i64 (bi : Int), .int .i64 (ba : Int)] 98 (0, 0))) (.int .i64 sy) 3
          simp only [World.size_alloc] at hrn
          have HRN := hide hrn
          have HOA := hide ((HO.out.alloc (.cells #[.int .i64 sy, .int .i64 (bi : Int), .int .i64 (ba : Int)] 98 (0, 0))).alloc (.cells #[.int .i64 sy] 3 (0, 0)))
          have hsz : P ≤ ((wr.alloc (.cells #[.int .i64 sy, .int .i64 (bi : Int), .int .i64 (ba : Int)] 98 (0, 0))).alloc (.cells #[.int .i64 sy] 3 (0, 0))).heap.size := by have := Y6.out; simp; omega
          have HSZ := hide hsz
          clear hpar hr c0 c1' hrn hsz
          have HC3 := hide (fun w3 (hg : ((wr.alloc (.cells #[.int .i64 sy, .int .i64 (bi : Int), .int .i64 (ba : Int)] 98 (0, 0))).alloc (.cells #[.int .i64 sy] 3 (0, 0))).grownBy w3 u15.ownBlock) => ((((Chg.refl (fun q => P ≤ q) wr).alloc (.cells #[.int .i64 sy, .int .i64 (bi : Int), .int .i64 (ba : Int)] 98 (0, 0))).alloc (.cells #[.int .i64 sy] 3 (0, 0))).grown hg (fun q hq => .inl (HO.out.lt q hq).1) : Chg (fun q => P ≤ q) wr w3))
          have HX3 := hide (fun w3 (hg : ((wr.alloc (.cells #[.int .i64 sy, .int .i64 (bi : Int), .int .i64 (ba : Int)] 98 (0, 0))).alloc (.cells #[.int .i64 sy] 3 (0, 0))).grownBy w3 u15.ownBlock) => (hg.block wr.heap.size (by simp; omega) (fun e => by have := (HO.out.lt _ e.symm).2; omega)).trans (alloc_far (heap_alloc_new wr (.cells #[.int .i64 sy, .int .i64 (bi : Int), .int .i64 (ba : Int)] 98 (0, 0))) (.cells #[.int .i64 sy] 3 (0, 0))))
          by_cases h2 : k + 2 < n
          · have h2i : (k : Int) + 2 < (n : Int) := by omega
            by_cases hb : bi ≤ t
            · have hbl : bi ≤ l := by have := HU2.out; have := HBI.out; omega
              have HTK := hide (fun W (h : Rdr W i1 p g 129 bs 0 t) => btake_good h bi (t - bi) (by omega) (by omega) (Nat.zero_le _))
              rw [← HNN.out] at HTK
              have hrd := HR.out.read h2 (by rw [← HBI.out]; exact hb)
              have hnx := HNX.out now hnow (N / 2 ^ (t - cB C now))
              rw [← HBI.out, ← HBA.out, ← HSY.out] at hrd
              rw [← HBI.out, ← HBA.out] at hnx
              obtain ⟨V, hV⟩ : ∃ V, V = N / 2 ^ (t - bi) % 2 ^ bi := ⟨_, rfl⟩
              rw [← hV] at HTK hrd hnx
              have hb9 : 2 ^ bi ≤ 2 ^ 9 := Nat.pow_le_pow_right (by omega) (by omega)
              have hVb : V < 2 ^ bi := by rw [hV]; exact Nat.mod_lt _ (Nat.pow_pos (by omega))
              have hcl : clampC (bi : Int) = bi := by unfold clampC; omega
              have hval : wrap64 ((ba : Int) + ((V % 2 ^ clampC (bi : Int) : Nat) : Int)) = ((ba + V : Nat) : Int) := by
                rw [hcl, Nat.mod_eq_of_lt hVb]
                unfold wrap64
                omega
              have HNE := hide (fun W => next_any sy (bi : Int) (ba : Int) V W (by omega))
              rw [hval] at HNE
              obtain ⟨Y, hY⟩ : ∃ Y, Y = ba + V := ⟨_, rfl⟩
              rw [← hY] at HNE hrd hnx
              have HRD := hide hrd
              have HYL := hide hnx
              clear hV hVb hcl hval hrd hnx hb hY hb9
              go_wp2_with (at_builtin; refine wpList_append_any _ rfl (.tmp 73) (.tmp 76) _ rfl P 3 i0 _ 1 8 Try.underlying24 hi hz0 hz1 hz2 rfl Nat.zero_lt_one u15 k _ rfl HOA.out (wr.heap.size + 1 + 1) (some ⟨wr.heap.size + 1, 0, none⟩) 1 1 [.int .i64 sy] rfl HRN.out (by simp [Value.oneCell']) (by unfold maxLen; omega) (by omega) HSZ.out ?_; intro v3 w3 hown3 hg3 hat3; have hx3 := HX3.out w3 hg3; have q0 := cell_blk hx3 0; have q1 := cell_blk hx3 1; have q2 := cell_blk hx3 2)
              have hc3 := HC3.out w3 hg3
              have e1 : intsV o ++ [.int .i64 sy] = intsV (o ++ [sy]) := by simp [intsV]
              rw [e1] at hown3
              refine (HTK.out w3 (Y4.out.chg hc3 (fun q hq => by have := HP.out; omega))).mono ?_
              rintro e W4 ⟨rfl, hr4, hc4⟩
              have hk4 : Chg (fun q => q = g ∨ P ≤ q) wr W4 := (hc3.mono (fun q hq => .inl (.inr hq))).trans hc4 (fun q hq => .inl (.inl hq))
              have hx4 := hc4.heap hx3 (by have := Y4.out.lt; have := HP.out; have := Y6.out; omega)
              have q0 := cell_blk hx4 0
              have q1 := cell_blk hx4 1
              have q2 := cell_blk hx4 2
              have hown4 := own_chg hown3 hc4 (fun q hq h => by have := (hown3.lt q hq).1; have := HGL.out; have := HP.out; omega)
              have HR4 := hide hr4
              have HK4 := hide hk4
              have HO4 := hide hown4
              clear hx3 hc3 hc4 hr4 hk4 hown4 hown3 hg3 hx4 e1
              go_wp2_with fail
              refine (HNE.out W4).mono ?_
              rintro e W5 ⟨rfl, b5⟩
              have hk5 : Chg (fun q => q = g ∨ P ≤ q) wr W5 := HK4.out.trans (Chg.of_below (S := fun _ => False) b5) (fun q hq => hq.elim)
              have HR5 := hide (HR4.out.below b5)
              have HO5 := hide (own_below HO4.out b5)
              have hy5 := hk5.heap Y1.out (by have := HP.out; have := HGL.out; omega)
              have f5 := frozen_blk hy5 r
              have crr5 : W5.cell? ⟨p, r, none⟩ = some (.int .i64 now) := (World.cell?_of_block (hk5.block p (by have := Y6.out; have := HP.out; omega) (by have := HP.out; have := HGL.out; omega))).trans crr
              have HK5 := hide hk5
              have HY5 := hide hy5
              clear b5 hk5 hy5 q0 q1 q2
              go_wp2
              go_roundw
              case rel =>
                have hcs := (Chg.refl (fun q => q = p) W5).setCell (p := ⟨p, r, none⟩) (.inl rfl) (.int .i64 (Y : Int))
                have hk6 : Chg (fun q => q = g ∨ q = p ∨ P ≤ q) wr (W5.setCell ⟨p, r, none⟩ (.int .i64 (Y : Int))) :=
                  (HK5.out.mono (T := fun q => q = g ∨ q = p ∨ P ≤ q) (fun q hq => .inl (by omega))).trans hcs (fun q hq => .inl (by omega))
                have hb6 := Y5.out.trans (hk6.below (B := w.heap.size) (fun q hq => by have := HGL.out; have := HQ.out; have := HP.out; omega) Y5.out.size)
                have ho6 := own_chg HO5.out hcs (fun q hq h => by have := (HO5.out.lt q hq).1; have := HP.out; omega)
                have hr6 := HR5.out.chg hcs (fun q hq => by omega)
                have hrd6 := Y3.out.chg hk6 (by have := Y6.out; have := HP.out; have := HQ.out; omega) (fun ad h e => by injection h with h; subst h; have := HP.out; have := HQ.out; have := HGL.out; simp at e; omega)
                have hs6 : P ≤ (W5.setCell ⟨p, r, none⟩ (.int .i64 (Y : Int))).heap.size := Nat.le_trans Y6.out hk6.size
                have hset := set_blk HY5.out r (.int .i64 (Y : Int))
                rcases HPAR.out with ⟨h0, h1, h2⟩ | ⟨h0, h1, h2⟩
                · obtain rfl : r = 0 := by have := HRR.out; omega
                  exact ⟨k + 1, other, Y, Y, x1, t - bi, o ++ [sy], by omega, by go_num, HRD.out, hoth, HYL.out, .inr ⟨by omega, rfl, h2⟩, hset, hrd6, hr6, hb6, hs6, by simp [HOL.out], ho6⟩
                · obtain rfl : r = 1 := by have := HRR.out; omega
                  exact ⟨k + 1, other, Y, x0, Y, t - bi, o ++ [sy], by omega, by go_num, HRD.out, hoth, HYL.out, .inl ⟨by omega, h1, rfl⟩, hset, hrd6, hr6, hb6, hs6, by simp [HOL.out], ho6⟩
              case measure => simp [intOf]; omega
            · have hnone : startF C l N n T = none := HR.out.few h2 (by rw [← HBI.out]; omega)
              have HNO := hide hnone
              have HTK := hide (fun W (h : Rdr W i1 p g 129 bs 0 t) => btake_few h bi (by have := HU2.out; have := HBI.out; omega) (by omega))
              clear hnone hb
              go_wp2_with (at_builtin; refine wpList_append_any _ rfl (.tmp 73) (.tmp 76) _ rfl P 3 i0 _ 1 8 Try.underlying24 hi hz0 hz1 hz2 rfl Nat.zero_lt_one u15 k _ rfl HOA.out (wr.heap.size + 1 + 1) (some ⟨wr.heap.size + 1, 0, none⟩) 1 1 [.int .i64 sy] rfl HRN.out (by simp [Value.oneCell']) (by unfold maxLen; omega) (by omega) HSZ.out ?_; intro v3 w3 hown3 hg3 hat3; have hx3 := HX3.out w3 hg3; have q0 := cell_blk hx3 0; have q1 := cell_blk hx3 1; have q2 := cell_blk hx3 2)
              have hc3 := HC3.out w3 hg3
              refine (HTK.out w3 (Y4.out.chg hc3 (fun q hq => by have := HP.out; omega))).mono ?_
              rintro e W4 ⟨rfl, hr4, hc4⟩
              have HB4 := hide ((Y5.out.trans (hc3.below (fun q hq => by have := HP.out; omega) Y5.out.size)).trans (hc4.below (fun q hq => by have := HGL.out; have := HQ.out; omega) (Nat.le_trans Y5.out.size hc3.size)))
              clear hr4 hc4 hc3 hx3 q0 q1 q2
              go_wp2
              go_ret2
              exact ⟨_, 14, [], rfl, .inr ⟨HNO.out, rfl, rfl⟩, World.ownsRow_nil _ _ _ _, HB4.out⟩
          · have h2i : ¬ (k : Int) + 2 < (n : Int) := by omega
            go_wp2_with (at_builtin; refine wpList_append_any _ rfl (.tmp 73) (.tmp 76) _ rfl P 3 i0 _ 1 8 Try.underlying24 hi hz0 hz1 hz2 rfl Nat.zero_lt_one u15 k _ rfl HOA.out (wr.heap.size + 1 + 1) (some ⟨wr.heap.size + 1, 0, none⟩) 1 1 [.int .i64 sy] rfl HRN.out (by simp [Value.oneCell']) (by unfold maxLen; omega) (by omega) HSZ.out ?_; intro v3 w3 hown3 hg3 hat3; have hx3 := HX3.out w3 hg3; have q0 := cell_blk hx3 0; have q1 := cell_blk hx3 1; have q2 := cell_blk hx3 2)
            have hc3 := HC3.out w3 hg3
            have e1 : intsV o ++ [.int .i64 sy] = intsV (o ++ [sy]) := by simp [intsV]
            rw [e1] at hown3
            go_roundw
            case rel =>
              refine ⟨k + 1, other, now, x0, x1, t, o ++ [sy], by omega, by go_num, by rw [HSY.out]; exact HR.out.pass hlt h2, hoth, hnow, ?_, hc3.heap Y1.out (by have := HP.out; omega), Y3.out.chg hc3 (by have := Y6.out; have := HP.out; have := HQ.out; omega) (fun ad h e => ?_), Y4.out.chg hc3 (fun q hq => by have := HP.out; omega), Y5.out.trans (hc3.below (fun q hq => by have := HP.out; omega) Y5.out.size), Nat.le_trans Y6.out hc3.size, by simp [HOL.out], hown3⟩
              · rcases HPAR.out with ⟨h0, h1, h2⟩ | ⟨h0, h1, h2⟩
                · exact .inr ⟨by omega, h1, h2⟩
                · exact .inl ⟨by omega, h1, h2⟩
              · injection h with h; subst h; have := HP.out; have := HQ.out; simp at e; omega
            case measure => simp [intOf]; omega
        · obtain rfl : n = k := by omega
          have hrun := HR.out.end_
          have HLF := hide (bleft_of Y4.out)
          have HRUN2 := hide hrun
          clear hrun
          by_cases ht0 : t = 0
          · subst ht0
            go_wp2_with fail
            refine HLF.out.mono ?_
            rintro e W4 ⟨rfl, j, rfl⟩
            go_wp2
            go_ret2
            exact ⟨_, 0, o, rfl, .inl ⟨by have h := HRUN2.out; simpa using h, rfl⟩, own_base (by rw [HOL.out]; exact HO.out) (fun q hq => by have := (HO.out.lt q hq).1; have := HP.out; omega), below_drewN Y5.out _⟩
          · have htn : ((t - 0 : Nat) : Int) != 0 := by simp; omega
            go_wp2_with fail
            refine HLF.out.mono ?_
            rintro e W4 ⟨rfl, j, rfl⟩
            go_wp2
            go_ret2
            exact ⟨_, 14, [], rfl, .inr ⟨by rw [HRUN2.out, if_neg ht0], rfl, rfl⟩, World.ownsRow_nil _ _ _ _, below_drewN Y5.out _⟩
end
end Go.Proofs.Ytohgnohifojdbaa
