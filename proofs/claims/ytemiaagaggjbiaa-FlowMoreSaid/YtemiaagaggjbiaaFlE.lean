/- portmanteauref12.Decode walked. -/
import Derived.Test.YtemiaagaggjbiaaFlC
import Derived.Test.YtemiaagaggjbiaaStK
import Derived.Test.YtemiaagaggjbiaaRfM
namespace Go.Proofs.Ytemiaagaggjbiaa
open Go.RowKit Go
set_option linter.unusedVariables false
set_option maxRecDepth 8000

section
variable {lo hi g N t r : Nat} {W : World}
theorem rlast_good (h : Rf W lo hi g (seg N 0 t) r) (n : Nat) (h64 : n ≤ 64) (ht : n ≤ t) :
    Calls Try.prog 30 #[.pointer (some ⟨g, 0, none⟩), .int .i64 (n : Int)] W fun e w' =>
      e = .returned (.tuple #[.int .u64 ((N / 2 ^ (t - n) % 2 ^ n : Nat) : Int), .int .i64 0]) ∧ (∃ r', Rf w' lo hi g (seg N 0 (t - n)) r') ∧ Chg (fun k => k = g) W w' := by
  have h1 : oB N 0 t (n : Int) = (N / 2 ^ (t - n) % 2 ^ n, 0, t - n) := by
    unfold oB
    rw [if_pos (by unfold okN; simp; omega)]
    simp
  have h2 := last_out h (Nat.zero_le _) (n : Int)
  rw [h1] at h2
  exact h2.mono fun e w' ⟨a, b, c⟩ => ⟨a, ⟨_, b⟩, c⟩
theorem rlast_few (h : Rf W lo hi g (seg N 0 t) r) (n : Nat) (h64 : n ≤ 64) (ht : t < n) :
    Calls Try.prog 30 #[.pointer (some ⟨g, 0, none⟩), .int .i64 (n : Int)] W fun e w' =>
      e = .returned (.tuple #[.int .u64 0, .int .i64 14]) ∧ Chg (fun k => k = g) W w' := by
  have h1 : oB N 0 t (n : Int) = (0, 14, t) := by
    unfold oB
    rw [if_neg (by unfold okN; simp; omega), if_neg (by omega)]
  have h2 := last_out h (Nat.zero_le _) (n : Int)
  rw [h1] at h2
  exact h2.mono fun e w' ⟨a, b, c⟩ => ⟨a, c⟩
end

section
variable {m c nb cb : Nat} {A B : Option Addr} {zs : List Int} {bs : List Nat}

set_option maxHeartbeats 4000000 in
theorem decR_table (l n : Int) (w : World) (hm : zs.length = m) (hr : Reads w w.heap.size 1 A m (zs.map (Value.int .i64))) (hok : ∀ z ∈ zs, (Lit.int .i64 z).wf = true) (hc : m ≤ c) (hc' : c ≤ maxLen) (hT : ¬ okT l zs) :
    Calls Try.prog 14 #[.agg #[.int .i64 l, .slice A m c], .slice B nb cb, .int .i64 n] w fun e w' => e = .returned (.tuple #[.slice none 0 0, .int .i64 13]) ∧ Below w.heap.size w w' := by
  have HB := hide (fun W (b : Below w.heap.size w W) => ref9_bad l A m c zs W hm ((hr.below b).more b.size) hok hc hc' hT)
  clear hr hok hc hc' hT
  go_enter Try.func14, Try.ntmps14
  go_wp2_with fail
  refine (HB.out _ ((Below.refl w.heap.size w).alloc (Nat.le_refl _) _)).mono ?_
  rintro e W1 ⟨rfl, b1⟩
  have B1 := hide (((Below.refl w.heap.size w).alloc (Nat.le_refl _) (.cells #[.int .i64 l, .slice A m c] 24 (0, 0))).trans (b1.mono (by simp)))
  clear b1
  go_wp2
  go_ret2
  exact ⟨rfl, B1.out⟩

set_option maxHeartbeats 4000000 in
theorem decR_arg (l : Nat) (n : Int) (w : World) (hm : zs.length = m) (hr : Reads w w.heap.size 1 A m (zs.map (Value.int .i64))) (hok : ∀ z ∈ zs, (Lit.int .i64 z).wf = true) (hc : m ≤ c) (hc' : c ≤ maxLen) (hT : okT (l : Int) zs) (hn : n < 0 ∨ (¬ n < 0 ∧ 131072 < n)) :
    Calls Try.prog 14 #[.agg #[.int .i64 (l : Int), .slice A m c], .slice B nb cb, .int .i64 n] w fun e w' => e = .returned (.tuple #[.slice none 0 0, .int .i64 2]) ∧ Below w.heap.size w w' := by
  have HB := hide (fun W (b : Below w.heap.size w W) => ref9_ok l A m c zs W hm ((hr.below b).more b.size) hok hc hc' hT)
  clear hr hok hc hc' hT
  go_enter Try.func14, Try.ntmps14
  go_wp2_with fail
  refine (HB.out _ ((Below.refl w.heap.size w).alloc (Nat.le_refl _) _)).mono ?_
  rintro e W1 ⟨v1, rfl, -, b1⟩
  have B1 := hide (((Below.refl w.heap.size w).alloc (Nat.le_refl _) (.cells #[.int .i64 (l : Int), .slice A m c] 24 (0, 0))).trans (b1.mono (by simp)))
  clear b1
  rcases hn with hn | ⟨hn, hn2⟩
  all_goals
    go_wp2
    go_ret2
    exact ⟨rfl, B1.out⟩

set_option maxHeartbeats 4000000 in
theorem decR_open (l : Nat) (n : Int) (w : World) (hm : zs.length = m) (hr : Reads w w.heap.size 1 A m (zs.map (Value.int .i64))) (hok : ∀ z ∈ zs, (Lit.int .i64 z).wf = true) (hc : m ≤ c) (hc' : c ≤ maxLen) (hT : okT (l : Int) zs) (hn : ¬ n < 0 ∧ ¬ 131072 < n)
    (hrb : Reads w w.heap.size 1 B nb (u8s bs)) (h8 : ∀ x ∈ bs, x < 256) (hnb : nb = bs.length) (h0 : bs.getLastD 0 = 0) (hmb : nb ≤ 1000000) :
    Calls Try.prog 14 #[.agg #[.int .i64 (l : Int), .slice A m c], .slice B nb cb, .int .i64 n] w fun e w' => e = .returned (.tuple #[.slice none 0 0, .int .i64 14]) ∧ Below w.heap.size w w' := by
  have HB := hide (fun W (b : Below w.heap.size w W) => ref9_ok l A m c zs W hm ((hr.below b).more b.size) hok hc hc' hT)
  have HN := hide (fun W (b : Below w.heap.size w W) => rback_bad B nb cb bs W ((hrb.below b).more b.size) h8 hnb h0 (by omega))
  clear hr hok hc hc' hT hrb hnb h0 h8
  obtain ⟨hn1, hn2⟩ := hn
  go_enter Try.func14, Try.ntmps14
  go_wp2_with fail
  refine (HB.out _ ((Below.refl w.heap.size w).alloc (Nat.le_refl _) _)).mono ?_
  rintro e W1 ⟨v1, rfl, -, b1⟩
  have B1 := hide (((Below.refl w.heap.size w).alloc (Nat.le_refl _) (.cells #[.int .i64 (l : Int), .slice A m c] 24 (0, 0))).trans (b1.mono (by simp)))
  clear b1
  go_wp2_with fail
  refine (HN.out _ B1.out).mono ?_
  rintro e W2 ⟨rfl, b2⟩
  have B2 := hide (B1.out.trans (b2.mono B1.out.size))
  clear b2
  go_wp2
  go_ret2
  exact ⟨rfl, B2.out⟩

set_option maxHeartbeats 16000000 in
theorem decR_run (l : Nat) (n : Nat) (w : World) (hm : zs.length = m) (hr : Reads w w.heap.size 1 A m (zs.map (Value.int .i64))) (hok : ∀ z ∈ zs, (Lit.int .i64 z).wf = true) (hc : m ≤ c) (hc' : c ≤ maxLen) (hT : okT (l : Int) zs) (hn : n ≤ 131072)
    (hrb : Reads w w.heap.size 1 B nb (u8s bs)) (h8 : ∀ x ∈ bs, x < 256) (hnb : nb = bs.length) (h0 : bs.getLastD 0 ≠ 0) (hmb : nb ≤ 1000000) {T : Nat} (hT' : T + 9 = 8 * nb + Lib.bitLen (bs.getLastD 0)) :
    Calls Try.prog 14 #[.agg #[.int .i64 (l : Int), .slice A m c], .slice B nb cb, .int .i64 (n : Int)] w fun e w' => ∃ v k S, e = .returned (.tuple #[v, .int .i64 k]) ∧
      ((startF (buildL l zs) l (leN bs) n T = some S ∧ k = 0) ∨ (startF (buildL l zs) l (leN bs) n T = none ∧ k = 14 ∧ S = [])) ∧ w'.ownsRow w.heap.size 3 1 v S.length (intsV S) ∧ Below w.heap.size w w' := by
  obtain ⟨i0, hi, hz0, hz1, hz2⟩ := info_parts info_int
  obtain ⟨W0, hW0⟩ : ∃ W0, W0 = w.alloc (.cells #[.int .i64 (l : Int), .slice A m c] 24 (0, 0)) := ⟨_, rfl⟩
  have g1 : W0.heap[w.heap.size]? = some (.cells #[.int .i64 (l : Int), .slice A m c] 24 (0, 0)) := by rw [hW0]; exact heap_alloc_new w _
  have b0 : Below w.heap.size w W0 := by rw [hW0]; exact (Below.refl w.heap.size w).alloc (Nat.le_refl _) _
  have hs0 : W0.heap.size = w.heap.size + 1 := by rw [hW0]; simp
  have k00 := cell_blk g1 0
  have k01 := cell_blk g1 1
  have HB := hide (ref9_ok l A m c zs W0 hm ((hr.below b0).more b0.size) hok hc hc' hT)
  have HN := hide (fun W (b : Below w.heap.size w W) => rback_ok B nb cb bs W ((hrb.below b).more b.size) h8 hnb h0 (by omega) hT')
  have HU := hide (fun k (hk : k < 2 ^ l) => cell_use hT hk)
  have HNX := hide (fun k (hk : k < 2 ^ l) y => next_lt hT hk y)
  have hl9 : l ≤ 9 := by have := hT.1; omega
  have hS2 : 2 ^ l ≤ 2 ^ 9 := Nat.pow_le_pow_right (by omega) hl9
  have h29 : (2 : Nat) ^ 9 = 512 := by decide
  rw [h29] at hS2
  have HG1 := hide g1
  have HB0 := hide b0
  have HW0 := hide hW0
  have HS0 := hide hs0
  have hn1 : ¬ (n : Int) < 0 := by omega
  have hn2 : ¬ 131072 < (n : Int) := by omega
  clear hr hok hc hc' hT hrb hnb h0 g1 b0 hW0 hm h8 h29 hs0
  obtain ⟨N, hN⟩ : ∃ N, N = leN bs := ⟨_, rfl⟩
  rw [← hN] at HN ⊢
  obtain ⟨C, hC⟩ : ∃ C, C = buildL l zs := ⟨_, rfl⟩
  have HCL : Hid (C.length = 2 ^ l) := hide (by rw [hC]; simp [buildL])
  rw [← hC] at HB HU HNX ⊢
  clear hN hC
  go_enter Try.func14, Try.ntmps14
  go_wp2_with fail
  rw [← HW0.out]
  go_wp2_with fail
  refine HB.out.mono ?_
  rintro e W1 ⟨v1, rfl, ho1, b1⟩
  obtain ⟨A1, c1, rfl⟩ := own_form ho1
  have G1 := hide ((b1.block _ (by have := HS0.out; omega)).trans HG1.out)
  have B1 := hide (HB0.out.trans (b1.mono HB0.out.size))
  have O1 := hide (Reads.of_own ho1)
  have hsz1 := hide b1.size
  clear b1 ho1 HB HB0 HG1 k00 k01 HW0
  go_wp2_with fail
  refine (HN.out _ B1.out).mono ?_
  rintro e W2 ⟨g, rfl, hrd, b2⟩
  have hw1 : w.heap.size < W1.heap.size := by have := HS0.out; have := hsz1.out; omega
  obtain ⟨i1, hi1⟩ : ∃ i1, i1 = W1.heap.size := ⟨_, rfl⟩
  have Y2 := hide ((b2.block _ (lt_of_heap G1.out)).trans G1.out)
  have Y5 := hide (B1.out.trans (b2.mono B1.out.size))
  have Y3 := hide (O1.out.below b2)
  rw [← hi1] at Y3 hrd hw1
  obtain ⟨p, hp⟩ : ∃ p, p = W2.heap.size := ⟨_, rfl⟩
  rw [← hp] at hrd
  have hgl := hrd.lt
  have Y4 := hide hrd
  have HGL := hide hgl
  have HW1 := hide hw1
  have k20 := cell_blk Y2.out 0
  clear b2 hrd G1 B1 O1 HN hi1 hp hgl hw1 hsz1 HS0
  have hstep : ∀ (W W' : World) (t r : Nat), W.heap[w.heap.size]? = some (.cells #[.int .i64 (l : Int), .slice A m c] 24 (0, 0)) → Reads W i1 3 A1 (2 ^ l) (cellsV C) → Rf W i1 p g (seg N 0 t) r → Below w.heap.size w W → Chg (fun q => q = g) W W' →
      W'.heap[w.heap.size]? = some (.cells #[.int .i64 (l : Int), .slice A m c] 24 (0, 0)) ∧ Reads W' i1 3 A1 (2 ^ l) (cellsV C) ∧ Below w.heap.size w W' := by
    intro W W' t r y2 y3 y4 y5 hc
    have e1 := y4.lt
    have e2 := HW1.out
    refine ⟨hc.heap y2 (by omega), y3.chg hc (by omega) (fun ad h e => ?_), y5.trans (hc.below (fun q hq => by omega) y5.size)⟩
    obtain ⟨ad', h1, h2, _⟩ := y3.2 (Nat.pow_pos (by omega))
    rw [h] at h1
    injection h1 with h1
    subst h1
    omega
  have HSTEP := hide hstep
  clear hstep
  rcases (show n = 0 ∨ 1 ≤ n by omega) with hnz | hnz
  · have HRUN : Hid (Run C l N n T 0 0 0 T []) := hide (by unfold Run; rw [map_nil_append]; unfold startF; rw [if_pos hnz, hnz])
    have hnz1 : ¬ 0 < (n : Int) := by omega
    have hnz3 : ¬ 1 < (n : Int) := by omega
    have HAB : Hid (0 < 2 ^ l ∧ 0 < 2 ^ l) := hide ⟨Nat.pow_pos (by omega), Nat.pow_pos (by omega)⟩
    go_wp2_with fail
    obtain ⟨P, hP⟩ : ∃ P, P = W2.heap.size := ⟨_, rfl⟩
    have HP := hide (show w.heap.size < P ∧ p ≤ P by have := Y4.out.lt; have := HW1.out; omega)
    have HPE := hide hP
    clear hP k20 HSTEP
    go_loopw [14, 15, 16, 17] (fun nowv othv out i wr => ∃ k now other t r : Nat, ∃ o : List Int, k ≤ n ∧ nowv = .int .i64 now ∧ othv = .int .i64 other ∧ i = .int .i64 k ∧ Run C l N n T k now other t o ∧ now < 2 ^ l ∧ other < 2 ^ l ∧
      Reads wr i1 3 A1 (2 ^ l) (cellsV C) ∧ Rf wr i1 p g (seg N 0 t) r ∧ Below w.heap.size w wr ∧ P ≤ wr.heap.size ∧ o.length = k ∧ wr.ownsRow P 3 1 out k (intsV o)) (fun _ _ _ i _ => n - (intOf i).toNat)
    case atStart =>
      refine ⟨0, _, _, _, _, [], Nat.zero_le _, ?_, ?_, rfl, HRUN.out, HAB.out.1, HAB.out.2, Y3.out, Y4.out, Y5.out, Nat.le_of_eq HPE.out, rfl, World.ownsRow_nil _ _ _ _⟩ <;> rfl
    case round =>
      obtain ⟨k, now, other, t, r, o, hk, rfl, rfl, rfl, hrun, hnow, hoth, y3, y4, y5, y6, hol, hown⟩ := hrel
      have HR := hide hrun
      have Y3 := hide y3
      have Y4 := hide y4
      have Y5 := hide y5
      have Y6 := hide y6
      have HOL := hide hol
      have HO := hide hown
      clear hrun y3 y4 y5 y6 hol hown
      by_cases hlt : k < n
      · exfalso
        omega
      · obtain rfl : n = k := by omega
        have hrun := HR.out.end_
        obtain ⟨AR, cR, hcR, -⟩ := Y4.out.cells
        rw [seg_length, Nat.sub_zero] at hcR
        have HRUN2 := hide hrun
        clear hrun
        by_cases ht0 : t = 0
        · subst ht0
          go_wp2
          go_ret2
          exact ⟨_, 0, rfl, o, .inl ⟨by have h := HRUN2.out; first | simpa using h | simpa [hnz] using h | simpa [hnz2] using h, rfl⟩, own_base (by rw [HOL.out]; exact HO.out) (fun q hq => by have := (HO.out.lt q hq).1; have := HP.out; omega), Y5.out⟩
        · have htn : 0 < (t : Int) := by omega
          go_wp2
          go_ret2
          exact ⟨_, 14, [], rfl, .inr ⟨by rw [HRUN2.out, if_neg ht0], rfl, rfl⟩, World.ownsRow_nil _ _ _ _, Y5.out⟩
  · have hnz1 : 0 < (n : Int) := by omega
    by_cases ht : T < l
    · have hnone : startF C l N n T = none := by unfold startF; rw [if_neg (by omega), if_pos ht]
      have HNO := hide hnone
      have HTK := hide (rlast_few Y4.out l (by omega) ht)
      clear hnone ht
      rcases (show n = 1 ∨ 2 ≤ n by omega) with hnz2 | hnz2
      · have hnz3 : ¬ 1 < (n : Int) := by omega
        go_wp2_with fail
        refine HTK.out.mono ?_
        rintro e W4 ⟨rfl, hc4⟩
        have HS := hide (HSTEP.out _ _ _ _ Y2.out Y3.out Y4.out Y5.out hc4)
        clear hc4
        go_wp2
        go_ret2
        exact ⟨_, 14, [], rfl, .inr ⟨HNO.out, rfl, rfl⟩, World.ownsRow_nil _ _ _ _, HS.out.2.2⟩
      · have hnz3 : 1 < (n : Int) := by omega
        go_wp2_with fail
        refine HTK.out.mono ?_
        rintro e W4 ⟨rfl, hc4⟩
        have HS := hide (HSTEP.out _ _ _ _ Y2.out Y3.out Y4.out Y5.out hc4)
        clear hc4
        go_wp2
        go_ret2
        exact ⟨_, 14, [], rfl, .inr ⟨HNO.out, rfl, rfl⟩, World.ownsRow_nil _ _ _ _, HS.out.2.2⟩
    · have HTK := hide (rlast_good Y4.out l (by omega) (by omega))
      obtain ⟨a, ha⟩ : ∃ a, a = N / 2 ^ (T - l) % 2 ^ l := ⟨_, rfl⟩
      have hal : a < 2 ^ l := by rw [ha]; exact Nat.mod_lt _ (Nat.pow_pos (by omega))
      have hwa : IntKind.i64.wrap (a : Int) = (a : Int) := IntWalk.i64_in _ (by omega)
      rw [← ha] at HTK
      have HA := hide ha
      have HAL := hide hal
      have HT := hide ht
      clear ha hal ht
      rcases (show n = 1 ∨ 2 ≤ n by omega) with hnz2 | hnz2
      · have hnz3 : ¬ 1 < (n : Int) := by omega
        go_wp2_with fail
        refine HTK.out.mono ?_
        rintro e W4 ⟨rfl, ⟨r', hr4⟩, hc4⟩
        obtain ⟨y2, y3, y5⟩ := HSTEP.out _ _ _ _ Y2.out Y3.out Y4.out Y5.out hc4
        replace Y2 := hide y2
        replace Y3 := hide y3
        replace Y4 := hide hr4
        replace Y5 := hide y5
        have HRUN : Hid (Run C l N n (T) 0 a 0 (T - l) []) := hide (by unfold Run; rw [map_nil_append]; unfold startF; rw [if_neg (by omega), if_neg HT.out, if_pos hnz2, Nat.sub_zero, hnz2, HA.out])
        have HAB : Hid (a < 2 ^ l ∧ 0 < 2 ^ l) := hide ⟨HAL.out, Nat.pow_pos (by omega)⟩
        clear hc4 hr4 y2 y3 y5 HA HAL HT hnz
        go_wp2_with fail
        obtain ⟨P, hP⟩ : ∃ P, P = W4.heap.size := ⟨_, rfl⟩
        have HP := hide (show w.heap.size < P ∧ p ≤ P by have := Y4.out.lt; have := HW1.out; omega)
        have HPE := hide hP
        clear hP k20 HSTEP
        go_loopw [14, 15, 16, 17] (fun nowv othv out i wr => ∃ k now other t r : Nat, ∃ o : List Int, k ≤ n ∧ nowv = .int .i64 now ∧ othv = .int .i64 other ∧ i = .int .i64 k ∧ Run C l N n T k now other t o ∧ now < 2 ^ l ∧ other < 2 ^ l ∧
          Reads wr i1 3 A1 (2 ^ l) (cellsV C) ∧ Rf wr i1 p g (seg N 0 t) r ∧ Below w.heap.size w wr ∧ P ≤ wr.heap.size ∧ o.length = k ∧ wr.ownsRow P 3 1 out k (intsV o)) (fun _ _ _ i _ => n - (intOf i).toNat)
        case atStart =>
          refine ⟨0, _, _, _, _, [], Nat.zero_le _, ?_, ?_, rfl, HRUN.out, HAB.out.1, HAB.out.2, Y3.out, Y4.out, Y5.out, Nat.le_of_eq HPE.out, rfl, World.ownsRow_nil _ _ _ _⟩ <;> rfl
        case round =>
          obtain ⟨k, now, other, t, r, o, hk, rfl, rfl, rfl, hrun, hnow, hoth, y3, y4, y5, y6, hol, hown⟩ := hrel
          have HR := hide hrun
          have Y3 := hide y3
          have Y4 := hide y4
          have Y5 := hide y5
          have Y6 := hide y6
          have HOL := hide hol
          have HO := hide hown
          clear hrun y3 y4 y5 y6 hol hown
          by_cases hlt : k < n
          · obtain ⟨u1, u2, u3, u4⟩ := HU.out now hnow
            obtain ⟨bA, off, e1, e2, e3, rfl, hbA, m1, m2, m3, hx⟩ := cell_cells Y3.out HCL.out.symm hnow
            rw [u1] at hx
            injection hx with hx
            injection hx with hx1 hx2
            injection hx2 with hx2 hx3
            subst hx1 hx2 hx3
            have hkn : (k : Int) < (n : Int) := by omega
            have hnl : (now : Int) < ((2 ^ l : Nat) : Int) := by omega
            have HU1 := hide u1
            have HU2 := hide u2
            clear u1 u2 u3 u4
            obtain ⟨sy, hsy⟩ : ∃ sy, sy = cS C now := ⟨_, rfl⟩
            obtain ⟨bi, hbi⟩ : ∃ bi, bi = cB C now := ⟨_, rfl⟩
            obtain ⟨ba, hba⟩ : ∃ ba, ba = cA C now := ⟨_, rfl⟩
            rw [← hsy] at m1
            rw [← hbi] at m2
            rw [← hba] at m3
            have HSY := hide hsy
            have HBI := hide hbi
            have HBA := hide hba
            clear hsy hbi hba
            have hrn := reads_new wr (.int .i64 sy) 3
            have HRN := hide hrn
            have HOA := hide (HO.out.alloc (.cells #[.int .i64 sy] 3 (0, 0)))
            have hsz : P ≤ (wr.alloc (.cells #[.int .i64 sy] 3 (0, 0))).heap.size := by have := Y6.out; simp; omega
            have HSZ := hide hsz
            have HC3 := hide (fun w3 (hg : (wr.alloc (.cells #[.int .i64 sy] 3 (0, 0))).grownBy w3 u16.ownBlock) => (((Chg.refl (fun q => P ≤ q) wr).alloc (.cells #[.int .i64 sy] 3 (0, 0))).grown hg (fun q hq => .inl (HO.out.lt q hq).1) : Chg (fun q => P ≤ q) wr w3))
            have hbA2 : bA < wr.heap.size ∧ bA < P := by have := Y4.out.lt; have := HP.out; omega
            have HX3 := hide (fun w3 (hc : Chg (fun q => P ≤ q) wr w3) => (⟨(World.cell?_of_block (hc.block bA hbA2.1 (by omega))).trans m2, (World.cell?_of_block (hc.block bA hbA2.1 (by omega))).trans m3⟩ : w3.cell? ⟨bA, off + now * 3 + 1, none⟩ = some (.int .i64 bi) ∧ w3.cell? ⟨bA, off + now * 3 + 2, none⟩ = some (.int .i64 ba)))
            have HBA2 := hide hbA2
            have HBL := hide hbA
            clear hrn hsz hbA2 hbA
            by_cases h2 : k + 2 < n
            · exfalso
              omega
            · have h2i : ¬ (k : Int) + 2 < (n : Int) := by omega
              go_wp2_with (at_builtin; refine wpList_append_any _ rfl (.tmp 76) (.tmp 82) _ rfl P 3 i0 _ 1 8 Try.underlying22 hi hz0 hz1 hz2 rfl Nat.zero_lt_one u16 k _ rfl HOA.out (wr.heap.size + 1) (some ⟨wr.heap.size, 0, none⟩) 1 1 [.int .i64 sy] rfl HRN.out (by simp [Value.oneCell']) (by unfold maxLen; omega) (by omega) HSZ.out ?_; intro v3 w3 hown3 hg3 hat3; obtain ⟨q1, q2⟩ := HX3.out w3 (HC3.out w3 hg3))
              have hc3 := HC3.out w3 hg3
              have e1 : intsV o ++ [.int .i64 sy] = intsV (o ++ [sy]) := by simp [intsV]
              rw [e1] at hown3
              go_roundw
              case rel =>
                exact ⟨k + 1, other, now, t, r, o ++ [sy], by omega, rfl, rfl, by go_num, by rw [HSY.out]; exact HR.out.pass hlt h2, hoth, hnow, Y3.out.chg hc3 (by have := Y4.out.lt; omega) (fun ad h e => by injection h with h; subst h; have := HBA2.out; simp at e; omega), Y4.out.chg hc3 (fun q hq => by have := HP.out; omega), Y5.out.trans (hc3.below (fun q hq => by have := HP.out; omega) Y5.out.size), Nat.le_trans Y6.out hc3.size, by simp [HOL.out], hown3⟩
              case measure => simp [intOf]; omega
          · obtain rfl : n = k := by omega
            have hrun := HR.out.end_
            obtain ⟨AR, cR, hcR, -⟩ := Y4.out.cells
            rw [seg_length, Nat.sub_zero] at hcR
            have HRUN2 := hide hrun
            clear hrun
            by_cases ht0 : t = 0
            · subst ht0
              go_wp2
              go_ret2
              exact ⟨_, 0, rfl, o, .inl ⟨by have h := HRUN2.out; first | simpa using h | simpa [hnz] using h | simpa [hnz2] using h, rfl⟩, own_base (by rw [HOL.out]; exact HO.out) (fun q hq => by have := (HO.out.lt q hq).1; have := HP.out; omega), Y5.out⟩
            · have htn : 0 < (t : Int) := by omega
              go_wp2
              go_ret2
              exact ⟨_, 14, [], rfl, .inr ⟨by rw [HRUN2.out, if_neg ht0], rfl, rfl⟩, World.ownsRow_nil _ _ _ _, Y5.out⟩
      · have hnz3 : 1 < (n : Int) := by omega
        by_cases ht2 : T - l < l
        · have hnone : startF C l N n T = none := by unfold startF; rw [if_neg (by omega), if_neg HT.out, if_neg (by omega), if_pos ht2]
          have HNO := hide hnone
          have HTK2 := hide (fun W r' (h : Rf W i1 p g (seg N 0 (T - l)) r') => rlast_few h l (by omega) ht2)
          clear hnone ht2
          go_wp2_with fail
          refine HTK.out.mono ?_
          rintro e W4 ⟨rfl, ⟨r', hr4⟩, hc4⟩
          obtain ⟨y2, y3, y5⟩ := HSTEP.out _ _ _ _ Y2.out Y3.out Y4.out Y5.out hc4
          have k24 := cell_blk y2 0
          replace Y2 := hide y2
          replace Y3 := hide y3
          replace Y4 := hide hr4
          replace Y5 := hide y5
          clear hc4 hr4 y2 y3 y5
          go_wp2_with fail
          refine (HTK2.out _ _ Y4.out).mono ?_
          rintro e W5 ⟨rfl, hc5⟩
          have HS := hide (HSTEP.out _ _ _ _ Y2.out Y3.out Y4.out Y5.out hc5)
          clear hc5
          go_wp2
          go_ret2
          exact ⟨_, 14, [], rfl, .inr ⟨HNO.out, rfl, rfl⟩, World.ownsRow_nil _ _ _ _, HS.out.2.2⟩
        · have HTK2 := hide (fun W r' (h : Rf W i1 p g (seg N 0 (T - l)) r') => rlast_good h l (by omega) (by omega))
          obtain ⟨b, hb⟩ : ∃ b, b = N / 2 ^ (T - l - l) % 2 ^ l := ⟨_, rfl⟩
          have hbl : b < 2 ^ l := by rw [hb]; exact Nat.mod_lt _ (Nat.pow_pos (by omega))
          have hwb : IntKind.i64.wrap (b : Int) = (b : Int) := IntWalk.i64_in _ (by omega)
          rw [← hb] at HTK2
          have HRUN : Hid (Run C l N n T 0 a b (T - l - l) []) := hide (by unfold Run; rw [map_nil_append]; unfold startF; rw [if_neg (by omega), if_neg HT.out, if_neg (by omega), if_neg ht2, Nat.sub_zero, HA.out, hb])
          have HAB : Hid (a < 2 ^ l ∧ b < 2 ^ l) := hide ⟨HAL.out, hbl⟩
          clear hb hbl HA HAL HT ht2
          go_wp2_with fail
          refine HTK.out.mono ?_
          rintro e W4 ⟨rfl, ⟨r', hr4⟩, hc4⟩
          obtain ⟨y2, y3, y5⟩ := HSTEP.out _ _ _ _ Y2.out Y3.out Y4.out Y5.out hc4
          have k24 := cell_blk y2 0
          replace Y2 := hide y2
          replace Y3 := hide y3
          replace Y4 := hide hr4
          replace Y5 := hide y5
          clear hc4 hr4 y2 y3 y5
          go_wp2_with fail
          refine (HTK2.out _ _ Y4.out).mono ?_
          rintro e W5 ⟨rfl, ⟨r5, hr5⟩, hc5⟩
          obtain ⟨y2, y3, y5⟩ := HSTEP.out _ _ _ _ Y2.out Y3.out Y4.out Y5.out hc5
          replace Y2 := hide y2
          replace Y3 := hide y3
          replace Y4 := hide hr5
          replace Y5 := hide y5
          clear hc5 hr5 y2 y3 y5 HTK HTK2 hnz2 hnz k24
          go_wp2_with fail
          obtain ⟨P, hP⟩ : ∃ P, P = W5.heap.size := ⟨_, rfl⟩
          have HP := hide (show w.heap.size < P ∧ p ≤ P by have := Y4.out.lt; have := HW1.out; omega)
          have HPE := hide hP
          clear hP k20 HSTEP
          go_loopw [14, 15, 16, 17] (fun nowv othv out i wr => ∃ k now other t r : Nat, ∃ o : List Int, k ≤ n ∧ nowv = .int .i64 now ∧ othv = .int .i64 other ∧ i = .int .i64 k ∧ Run C l N n T k now other t o ∧ now < 2 ^ l ∧ other < 2 ^ l ∧
            Reads wr i1 3 A1 (2 ^ l) (cellsV C) ∧ Rf wr i1 p g (seg N 0 t) r ∧ Below w.heap.size w wr ∧ P ≤ wr.heap.size ∧ o.length = k ∧ wr.ownsRow P 3 1 out k (intsV o)) (fun _ _ _ i _ => n - (intOf i).toNat)
          case atStart =>
            refine ⟨0, _, _, _, _, [], Nat.zero_le _, ?_, ?_, rfl, HRUN.out, HAB.out.1, HAB.out.2, Y3.out, Y4.out, Y5.out, Nat.le_of_eq HPE.out, rfl, World.ownsRow_nil _ _ _ _⟩ <;> rfl
          case round =>
            obtain ⟨k, now, other, t, r, o, hk, rfl, rfl, rfl, hrun, hnow, hoth, y3, y4, y5, y6, hol, hown⟩ := hrel
            have HR := hide hrun
            have Y3 := hide y3
            have Y4 := hide y4
            have Y5 := hide y5
            have Y6 := hide y6
            have HOL := hide hol
            have HO := hide hown
            clear hrun y3 y4 y5 y6 hol hown
            by_cases hlt : k < n
            · obtain ⟨u1, u2, u3, u4⟩ := HU.out now hnow
              obtain ⟨bA, off, e1, e2, e3, rfl, hbA, m1, m2, m3, hx⟩ := cell_cells Y3.out HCL.out.symm hnow
              rw [u1] at hx
              injection hx with hx
              injection hx with hx1 hx2
              injection hx2 with hx2 hx3
              subst hx1 hx2 hx3
              have hkn : (k : Int) < (n : Int) := by omega
              have hnl : (now : Int) < ((2 ^ l : Nat) : Int) := by omega
              have HU1 := hide u1
              have HU2 := hide u2
              clear u1 u2 u3 u4
              obtain ⟨sy, hsy⟩ : ∃ sy, sy = cS C now := ⟨_, rfl⟩
              obtain ⟨bi, hbi⟩ : ∃ bi, bi = cB C now := ⟨_, rfl⟩
              obtain ⟨ba, hba⟩ : ∃ ba, ba = cA C now := ⟨_, rfl⟩
              rw [← hsy] at m1
              rw [← hbi] at m2
              rw [← hba] at m3
              have HSY := hide hsy
              have HBI := hide hbi
              have HBA := hide hba
              clear hsy hbi hba
              have hrn := reads_new wr (.int .i64 sy) 3
              have HRN := hide hrn
              have HOA := hide (HO.out.alloc (.cells #[.int .i64 sy] 3 (0, 0)))
              have hsz : P ≤ (wr.alloc (.cells #[.int .i64 sy] 3 (0, 0))).heap.size := by have := Y6.out; simp; omega
              have HSZ := hide hsz
              have HC3 := hide (fun w3 (hg : (wr.alloc (.cells #[.int .i64 sy] 3 (0, 0))).grownBy w3 u16.ownBlock) => (((Chg.refl (fun q => P ≤ q) wr).alloc (.cells #[.int .i64 sy] 3 (0, 0))).grown hg (fun q hq => .inl (HO.out.lt q hq).1) : Chg (fun q => P ≤ q) wr w3))
              have hbA2 : bA < wr.heap.size ∧ bA < P := by have := Y4.out.lt; have := HP.out; omega
              have HX3 := hide (fun w3 (hc : Chg (fun q => P ≤ q) wr w3) => (⟨(World.cell?_of_block (hc.block bA hbA2.1 (by omega))).trans m2, (World.cell?_of_block (hc.block bA hbA2.1 (by omega))).trans m3⟩ : w3.cell? ⟨bA, off + now * 3 + 1, none⟩ = some (.int .i64 bi) ∧ w3.cell? ⟨bA, off + now * 3 + 2, none⟩ = some (.int .i64 ba)))
              have HBA2 := hide hbA2
              have HBL := hide hbA
              clear hrn hsz hbA2 hbA
              by_cases h2 : k + 2 < n
              · have h2i : (k : Int) + 2 < (n : Int) := by omega
                by_cases hb : bi ≤ t
                · have hbl : bi ≤ l := by have := HU2.out; have := HBI.out; omega
                  have HTK := hide (fun W (h : Rf W i1 p g (seg N 0 t) r) => rlast_good h bi (by omega) hb)
                  have hrd := HR.out.read h2 (by rw [← HBI.out]; exact hb)
                  have hnx := HNX.out now hnow (N / 2 ^ (t - cB C now))
                  rw [← HBI.out, ← HBA.out, ← HSY.out] at hrd
                  rw [← HBI.out, ← HBA.out] at hnx
                  obtain ⟨V, hV⟩ : ∃ V, V = N / 2 ^ (t - bi) % 2 ^ bi := ⟨_, rfl⟩
                  rw [← hV] at HTK hrd hnx
                  have hwV : IntKind.i64.wrap (V : Int) = (V : Int) := IntWalk.i64_in _ (by omega)
                  have hwY : IntKind.i64.wrap ((ba : Int) + (V : Int)) = ((ba + V : Nat) : Int) := by rw [IntWalk.i64_in _ (by omega)]; omega
                  have HRD := hide hrd
                  have HYL := hide hnx
                  clear hV hrd hnx hb
                  go_wp2_with (at_builtin; refine wpList_append_any _ rfl (.tmp 76) (.tmp 82) _ rfl P 3 i0 _ 1 8 Try.underlying22 hi hz0 hz1 hz2 rfl Nat.zero_lt_one u16 k _ rfl HOA.out (wr.heap.size + 1) (some ⟨wr.heap.size, 0, none⟩) 1 1 [.int .i64 sy] rfl HRN.out (by simp [Value.oneCell']) (by unfold maxLen; omega) (by omega) HSZ.out ?_; intro v3 w3 hown3 hg3 hat3; obtain ⟨q1, q2⟩ := HX3.out w3 (HC3.out w3 hg3))
                  have hc3 := HC3.out w3 hg3
                  have e1 : intsV o ++ [.int .i64 sy] = intsV (o ++ [sy]) := by simp [intsV]
                  rw [e1] at hown3
                  refine (HTK.out w3 (Y4.out.chg hc3 (fun q hq => by have := HP.out; omega))).mono ?_
                  rintro e W9 ⟨rfl, ⟨r9, hr9⟩, hc9⟩
                  have hk9 : Chg (fun q => q = g ∨ P ≤ q) wr W9 := (hc3.mono (fun q hq => .inl (.inr hq))).trans hc9 (fun q hq => .inl (.inl hq))
                  have q3 : W9.cell? ⟨bA, off + now * 3 + 2, none⟩ = some (.int .i64 ba) := (World.cell?_of_block (hk9.block bA HBA2.out.1 (by have := HBL.out; have := HGL.out; have := HBA2.out; omega))).trans m3
                  have hown9 := own_chg hown3 hc9 (fun q hq h => by have := (hown3.lt q hq).1; have := HGL.out; have := HP.out; omega)
                  have HR9 := hide hr9
                  have HK9 := hide hk9
                  have HO9 := hide hown9
                  clear hc3 hc9 hr9 hk9 hown9 hown3 hg3 e1 q1 q2
                  go_wp2
                  go_roundw
                  case rel =>
                    exact ⟨k + 1, other, ba + V, t - bi, r9, o ++ [sy], by omega, rfl, by go_num, by go_num, HRD.out, hoth, HYL.out, Y3.out.chg HK9.out (by have := Y4.out.lt; omega) (fun ad h e => by injection h with h; subst h; have := HBL.out; have := HGL.out; have := HBA2.out; simp at e; omega), HR9.out, Y5.out.trans (HK9.out.below (fun q hq => by have := HGL.out; have := HW1.out; have := HP.out; omega) Y5.out.size), Nat.le_trans Y6.out HK9.out.size, by simp [HOL.out], HO9.out⟩
                  case measure => simp [intOf]; omega
                · have hnone : startF C l N n T = none := HR.out.few h2 (by rw [← HBI.out]; omega)
                  have HNO := hide hnone
                  have HTK := hide (fun W (h : Rf W i1 p g (seg N 0 t) r) => rlast_few h bi (by have := HU2.out; have := HBI.out; omega) (by omega))
                  clear hnone hb
                  go_wp2_with (at_builtin; refine wpList_append_any _ rfl (.tmp 76) (.tmp 82) _ rfl P 3 i0 _ 1 8 Try.underlying22 hi hz0 hz1 hz2 rfl Nat.zero_lt_one u16 k _ rfl HOA.out (wr.heap.size + 1) (some ⟨wr.heap.size, 0, none⟩) 1 1 [.int .i64 sy] rfl HRN.out (by simp [Value.oneCell']) (by unfold maxLen; omega) (by omega) HSZ.out ?_; intro v3 w3 hown3 hg3 hat3; obtain ⟨q1, q2⟩ := HX3.out w3 (HC3.out w3 hg3))
                  have hc3 := HC3.out w3 hg3
                  refine (HTK.out w3 (Y4.out.chg hc3 (fun q hq => by have := HP.out; omega))).mono ?_
                  rintro e W9 ⟨rfl, hc9⟩
                  have HB9 := hide ((Y5.out.trans (hc3.below (fun q hq => by have := HP.out; omega) Y5.out.size)).trans (hc9.below (fun q hq => by have := HGL.out; have := HW1.out; omega) (Nat.le_trans Y5.out.size hc3.size)))
                  clear hc9 hc3 q1 q2
                  go_wp2
                  go_ret2
                  exact ⟨_, 14, [], rfl, .inr ⟨HNO.out, rfl, rfl⟩, World.ownsRow_nil _ _ _ _, HB9.out⟩
              · have h2i : ¬ (k : Int) + 2 < (n : Int) := by omega
                go_wp2_with (at_builtin; refine wpList_append_any _ rfl (.tmp 76) (.tmp 82) _ rfl P 3 i0 _ 1 8 Try.underlying22 hi hz0 hz1 hz2 rfl Nat.zero_lt_one u16 k _ rfl HOA.out (wr.heap.size + 1) (some ⟨wr.heap.size, 0, none⟩) 1 1 [.int .i64 sy] rfl HRN.out (by simp [Value.oneCell']) (by unfold maxLen; omega) (by omega) HSZ.out ?_; intro v3 w3 hown3 hg3 hat3; obtain ⟨q1, q2⟩ := HX3.out w3 (HC3.out w3 hg3))
                have hc3 := HC3.out w3 hg3
                have e1 : intsV o ++ [.int .i64 sy] = intsV (o ++ [sy]) := by simp [intsV]
                rw [e1] at hown3
                go_roundw
                case rel =>
                  exact ⟨k + 1, other, now, t, r, o ++ [sy], by omega, rfl, rfl, by go_num, by rw [HSY.out]; exact HR.out.pass hlt h2, hoth, hnow, Y3.out.chg hc3 (by have := Y4.out.lt; omega) (fun ad h e => by injection h with h; subst h; have := HBA2.out; simp at e; omega), Y4.out.chg hc3 (fun q hq => by have := HP.out; omega), Y5.out.trans (hc3.below (fun q hq => by have := HP.out; omega) Y5.out.size), Nat.le_trans Y6.out hc3.size, by simp [HOL.out], hown3⟩
                case measure => simp [intOf]; omega
            · obtain rfl : n = k := by omega
              have hrun := HR.out.end_
              obtain ⟨AR, cR, hcR, -⟩ := Y4.out.cells
              rw [seg_length, Nat.sub_zero] at hcR
              have HRUN2 := hide hrun
              clear hrun
              by_cases ht0 : t = 0
              · subst ht0
                go_wp2
                go_ret2
                exact ⟨_, 0, rfl, o, .inl ⟨by have h := HRUN2.out; first | simpa using h | simpa [hnz] using h | simpa [hnz2] using h, rfl⟩, own_base (by rw [HOL.out]; exact HO.out) (fun q hq => by have := (HO.out.lt q hq).1; have := HP.out; omega), Y5.out⟩
              · have htn : 0 < (t : Int) := by omega
                go_wp2
                go_ret2
                exact ⟨_, 14, [], rfl, .inr ⟨by rw [HRUN2.out, if_neg ht0], rfl, rfl⟩, World.ownsRow_nil _ _ _ _, Y5.out⟩
end
end Go.Proofs.Ytemiaagaggjbiaa
