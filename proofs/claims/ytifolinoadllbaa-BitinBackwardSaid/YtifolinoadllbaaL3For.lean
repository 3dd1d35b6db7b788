/- portmanteaulaw03.BitinForward walked. -/
import Derived.Test.YtifolinoadllbaaRfD
namespace Go.Proofs.Ytifolinoadllbaa
open Go.RowKit Go
set_option linter.unusedVariables false

theorem int_cells {w : World} {B n : Nat} {A : Option Addr} {l : List Int} (h : Reads w B 1 A n (l.map (Value.int .i64))) {k : Nat} (hk : k < n) :
    ∃ b off z, A = some ⟨b, off, none⟩ ∧ b < B ∧ w.cell? ⟨b, off + k, none⟩ = some (.int .i64 z) ∧ l[k]? = some z := by
  obtain ⟨b, off, rfl, hb, hc⟩ := h.open_ (by omega) (by omega)
  have hkl : k < l.length := by have := h.1; simp at this; omega
  refine ⟨b, off, l[k], rfl, hb, hc _ _ ?_, List.getElem?_eq_getElem hkl⟩
  simp [hkl]
theorem Rf.seg_cells {w : World} {lo hi g r N f t : Nat} (h : Rf w lo hi g (seg N f t) r) :
    ∃ A c, w.cell? ⟨g, 0, none⟩ = some (.slice A (t - f) c) ∧ w.cell? ⟨g, 1, none⟩ = some (.int .i64 r) := by
  have := h.cells
  rwa [seg_length] at this
theorem quiet_ex {P : Program} {f : FuncId} {args : Array Value} {w : World} {n : Nat} {v : Value}
    (h : Calls P f args (w.drewN n) fun e w' => e = .returned v ∧ ∃ k, w' = (w.drewN n).drewN k) : Calls P f args (w.drewN n) fun e w'' => e = .returned v ∧ ∃ m, w'' = w.drewN m :=
  h.mono fun _ _ ⟨he, k, hm⟩ => ⟨he, n + k, by rw [hm, World.drewN_drewN]⟩

set_option maxRecDepth 4000 in
set_option maxHeartbeats 16000000 in
theorem walk_BitinForward {w : World} (A : Option Addr) (n c : Nat) (zs : List Int) (hn : zs.length = n) (hr : Reads w w.heap.size 1 A n (zs.map (Value.int .u8))) (hok : ∀ z ∈ zs, (Lit.int .u8 z).wf = true) (hm : c ≤ maxLen) (hc : n ≤ c)
    (A' : Option Addr) (n' c' : Nat) (ys : List Int) (hn' : ys.length = n') (hr' : Reads w w.heap.size 1 A' n' (ys.map (Value.int .i64))) (hok' : ∀ z ∈ ys, (Lit.int .i64 z).wf = true) (hm' : c' ≤ maxLen) (hc' : n' ≤ c') :
    Calls Try.prog 7 #[.slice A n c, .slice A' n' c'] w fun e w' => e = .returned (.bool true) ∧ Below w.heap.size w w' := by
  obtain ⟨hu1, hu2⟩ := u8s_of hok
  rw [hu1] at hr
  obtain ⟨bs, hbs⟩ : ∃ bs, bs = zs.map Int.toNat := ⟨_, rfl⟩
  have hbl : n = bs.length := by rw [hbs]; simpa using hn.symm
  rw [← hbs] at hr hu2
  have HKN := hide known_any
  clear hu1 hbs hn hok hm hn' hok' hm'
  by_cases hbig : (n : Int) > 200 ∨ (¬ (n : Int) > 200 ∧ (n' : Int) > 60)
  · clear hr hu2 hbl hr'
    rcases hbig with h | ⟨h, h1⟩
    all_goals
      go_enter Try.func7, Try.ntmps7
      go_wp2_with fail
      refine (HKN.out _).mono ?_
      rintro e W ⟨rfl, b⟩
      go_wp2
      go_ret
      exact ⟨rfl, b⟩
  · have hb1 : ¬ (n : Int) > 200 := by omega
    have hb2 : ¬ (n' : Int) > 60 := by omega
    have hn200 : n ≤ 200 := by omega
    have hn60 : n' ≤ 60 := by omega
    have HNF := hide (fun W (b : Below w.heap.size w W) => newf_of A n c bs W ((hr.below b).more b.size) hu2 hbl (by omega))
    have HRF := hide (fun W (b : Below w.heap.size w W) => rforward_of A n c bs W ((hr.below b).more b.size) hu2 hbl (by omega))
    have HY := hide hr'
    have HL := hide hbl
    clear hr hu2 hbl hr' hbig
    go_enter Try.func7, Try.ntmps7
    go_wp2_with fail
    refine (HNF.out _ (Below.refl _ _)).mono ?_
    rintro e W1 ⟨g1, rfl, r1, b1⟩
    have B := hide b1
    have R1 := hide r1
    obtain ⟨i1, e1⟩ : ∃ i1, i1 = W1.heap.size := ⟨_, rfl⟩
    rw [← e1] at R1
    have E1 := hide e1
    clear b1 r1 e1
    go_wp2_with fail
    refine (HRF.out _ B.out).mono ?_
    rintro e W2 ⟨g2, rfl, r2, b2⟩
    replace B := hide (B.out.trans (b2.mono B.out.size))
    replace R1 := hide (R1.out.below b2)
    have F1 := hide (r2.low (lo' := i1) (by rw [E1.out]; exact Nat.le_refl _))
    obtain ⟨i2, e2⟩ : ∃ i2, i2 = W2.heap.size := ⟨_, rfl⟩
    rw [← e2] at F1
    obtain ⟨i0, e0⟩ : ∃ i0, i0 = w.heap.size := ⟨_, rfl⟩
    rw [← e0] at R1
    have l1 := R1.out.lt
    have l2 := F1.out.lt
    have LL := hide (show i0 ≤ g1 ∧ g1 < i1 ∧ i1 ≤ g2 ∧ g2 < i2 by omega)
    have E0 := hide e0
    clear b2 r2 e2 E1 e0 l1 l2 HNF HRF
    obtain ⟨N, hN⟩ : ∃ N, N = leN bs := ⟨_, rfl⟩
    obtain ⟨M, hM⟩ : ∃ M, M = 8 * n := ⟨_, rfl⟩
    rw [← hN, ← hM] at F1
    rw [← hM] at R1
    have HN := hide hN
    have HM := hide (show M % 8 = 0 by omega)
    have HMB := hide (show M = 8 * bs.length by rw [hM, HL.out])
    have hMs : M ≤ 1600 := by omega
    clear hN hM HL
    go_wp2_with fail
    go_loopw [7] (fun i wr => ∃ k f : Nat, k ≤ n' ∧ i = .int .i64 k ∧ Rdr wr i0 i1 g1 57 bs f M ∧ Rf wr i1 i2 g2 (seg N f M) f ∧ Below w.heap.size w wr) (fun i _ => n' - (intOf i).toNat)
    case atStart => exact ⟨0, 0, Nat.zero_le _, rfl, R1.out, F1.out, B.out⟩
    case round =>
      obtain ⟨k, f, hk, rfl, hr1, hf1, hb⟩ := hrel
      replace R1 := hide hr1
      replace F1 := hide hf1
      replace B := hide hb
      have hfM : f ≤ M := hr1.bounds.1
      clear hr1 hf1 hb
      by_cases hlt : k < n'
      · have hkn : (k : Int) < (n' : Int) := by omega
        obtain ⟨b, off, z, rfl, hbb, k0, hz⟩ := int_cells (HY.out.below B.out) hlt
        have HZ := hide hz
        clear hz
        by_cases h99 : z = 99
        · subst h99
          have ta := fun W (r : Rdr W i0 i1 g1 57 bs f M) => align_out r HMB.out
          have tb := fun W (r : Rf W i1 i2 g2 (seg N f M) f) => whole_out r hfM HM.out
          rw [← HN.out] at ta
          obtain ⟨v, hv⟩ : ∃ v, v = (oA N f).1 := ⟨_, rfl⟩
          obtain ⟨e, he⟩ : ∃ v, v = (oA N f).2.1 := ⟨_, rfl⟩
          obtain ⟨y, hy⟩ : ∃ v, v = (oA N f).2.2 := ⟨_, rfl⟩
          rw [← hv, ← he, ← hy] at ta tb
          have TA := hide ta
          have TB := hide tb
          clear ta tb hv he hy
          go_wp2_with fail
          refine (TA.out _ R1.out).mono ?_
          rintro e W ⟨rfl, r, ch⟩
          replace R1 := hide r
          replace F1 := hide (F1.out.chg ch (by rintro b rfl; have := LL.out; omega))
          replace B := hide (B.out.trans (ch.below (by rintro b rfl; have := LL.out; have := E0.out; omega) B.out.size))
          clear r ch
          go_wp2_with fail
          refine (TB.out _ F1.out).mono ?_
          rintro e W ⟨rfl, r, ch⟩
          replace F1 := hide r
          replace R1 := hide (R1.out.chg ch (by rintro b rfl; have := LL.out; omega))
          replace B := hide (B.out.trans (ch.below (by rintro b rfl; have := LL.out; have := E0.out; omega) B.out.size))
          clear r ch TA TB k0
          have HAT := hide (fun m => quiet_ex (n := m) (fat_of (R1.out.drewN m)))
          have HLE := hide (fun m => quiet_ex (n := m) (fleft_of (R1.out.drewN m)))
          obtain ⟨AA, cc, c0, c1⟩ := F1.out.seg_cells
          go_wp2_with fail
          go_quiet ((first
            | (go_at_call 27; exact HAT.out _)
            | (go_at_call 28; exact HLE.out _)))
          go_wp2
          go_roundw
          case rel =>
            have B1 := B.out.trans (below_drewN (Below.refl _ _) nq |>.mono B.out.size)
            first
            | exact ⟨k + 1, y, by omega, by go_num, R1.out.drewN nq, F1.out.below (below_drewN (Below.refl _ _) nq), B1⟩
            | ((repeat apply Exists.intro); exact ⟨⟨k + 1, y, by omega, by go_num, R1.out.drewN nq, F1.out.below (below_drewN (Below.refl _ _) nq), B1⟩, rfl⟩)
          case measure => simp [intOf]; try omega
        · have ta := fun W (r : Rdr W i0 i1 g1 57 bs f M) => ftake_out r z
          have tb := fun W (r : Rf W i1 i2 g2 (seg N f M) f) => first_out r hfM z
          rw [← HN.out] at ta
          have hyf : f + ((oF N f M z).2.2 - f) = (oF N f M z).2.2 := by unfold oF okN; split <;> simp <;> omega
          rw [hyf] at tb
          obtain ⟨v, hv⟩ : ∃ v, v = (oF N f M z).1 := ⟨_, rfl⟩
          obtain ⟨e, he⟩ : ∃ v, v = (oF N f M z).2.1 := ⟨_, rfl⟩
          obtain ⟨y, hy⟩ : ∃ v, v = (oF N f M z).2.2 := ⟨_, rfl⟩
          rw [← hv, ← he, ← hy] at ta tb
          have TA := hide ta
          have TB := hide tb
          clear ta tb hv he hy hyf
          go_wp2_with fail
          refine (TA.out _ R1.out).mono ?_
          rintro e W ⟨rfl, r, ch⟩
          replace R1 := hide r
          replace F1 := hide (F1.out.chg ch (by rintro b rfl; have := LL.out; omega))
          replace B := hide (B.out.trans (ch.below (by rintro b rfl; have := LL.out; have := E0.out; omega) B.out.size))
          clear r ch k0
          obtain ⟨b', off', z', hA, hbb', k1, hz'⟩ := int_cells (HY.out.below B.out) hlt
          obtain ⟨rfl, rfl⟩ : b = b' ∧ off = off' := by injection hA with hA; injection hA with h1 h2; exact ⟨h1, h2⟩
          obtain rfl : z = z' := by have := HZ.out; rw [this] at hz'; injection hz'
          clear hA hbb' hz'
          go_wp2_with fail
          refine (TB.out _ F1.out).mono ?_
          rintro e W ⟨rfl, r, ch⟩
          replace F1 := hide r
          replace R1 := hide (R1.out.chg ch (by rintro b rfl; have := LL.out; omega))
          replace B := hide (B.out.trans (ch.below (by rintro b rfl; have := LL.out; have := E0.out; omega) B.out.size))
          clear r ch TA TB k1
          have HAT := hide (fun m => quiet_ex (n := m) (fat_of (R1.out.drewN m)))
          have HLE := hide (fun m => quiet_ex (n := m) (fleft_of (R1.out.drewN m)))
          obtain ⟨AA, cc, c0, c1⟩ := F1.out.seg_cells
          go_wp2_with fail
          go_quiet ((first
            | (go_at_call 27; exact HAT.out _)
            | (go_at_call 28; exact HLE.out _)))
          go_wp2
          go_roundw
          case rel =>
            have B1 := B.out.trans (below_drewN (Below.refl _ _) nq |>.mono B.out.size)
            first
            | exact ⟨k + 1, y, by omega, by go_num, R1.out.drewN nq, F1.out.below (below_drewN (Below.refl _ _) nq), B1⟩
            | ((repeat apply Exists.intro); exact ⟨⟨k + 1, y, by omega, by go_num, R1.out.drewN nq, F1.out.below (below_drewN (Below.refl _ _) nq), B1⟩, rfl⟩)
          case measure => simp [intOf]; try omega
      · have hge : ¬ (k : Int) < (n' : Int) := by omega
        go_wp2_with fail
        refine (HKN.out _).mono ?_
        rintro e W9 ⟨rfl, b9⟩
        replace B := hide (B.out.trans (b9.mono B.out.size))
        clear b9
        go_wp2
        go_ret
        exact ⟨rfl, B.out⟩
end Go.Proofs.Ytifolinoadllbaa
