/- portmanteaulaw03.BitinBack walked. -/
import Derived.Test.YtifolinoadllbaaBaA
namespace Go.Proofs.Ytifolinoadllbaa
open Go.RowKit Go
set_option linter.unusedVariables false

theorem quiet_ex0 {P : Program} {f : FuncId} {args : Array Value} {w : World} {n : Nat} {v : Value}
    (h : Calls P f args (w.drewN n) fun e w' => e = .returned v ∧ ∃ k, w' = (w.drewN n).drewN k) : Calls P f args (w.drewN n) fun e w'' => e = .returned v ∧ ∃ m, w'' = w.drewN m :=
  h.mono fun _ _ ⟨he, k, hm⟩ => ⟨he, n + k, by rw [hm, World.drewN_drewN]⟩

set_option maxRecDepth 4000 in
set_option maxHeartbeats 16000000 in
theorem walk_BitinBack {w : World} (A : Option Addr) (n c : Nat) (xs : List (Int × Int)) (hn : n = xs.length) (hr : Reads w w.heap.size 2 A n (putCells xs)) (hok : OkPuts xs) (hm : c ≤ maxLen) (hc : n ≤ c) :
    Calls Try.prog 9 #[.slice A n c] w fun e w' => e = .returned (.bool true) ∧ Below w.heap.size w w' := by
  have HKN := hide known_any
  by_cases hbig : (n : Int) > 60
  · clear hr hok hn hm hc
    go_enter Try.func9, Try.ntmps9
    go_wp2_with fail
    refine (HKN.out _).mono ?_
    rintro e W ⟨rfl, b⟩
    go_wp2
    go_ret
    exact ⟨rfl, b⟩
  have hn60 : n ≤ 60 := by omega
  have hw0 := Wr.new w w.heap.size (Nat.le_refl _)
  have hb0 := (Below.refl w.heap.size w).alloc (Nat.le_refl _) (.cells #[.int .u64 0, .int .i64 0, .slice none 0 0] 64)
  obtain ⟨W0, hW0⟩ : ∃ W0, W0 = w.alloc (.cells #[.int .u64 0, .int .i64 0, .slice none 0 0] 64) := ⟨_, rfl⟩
  rw [← hW0] at hw0 hb0
  have HW0 := hide hW0
  have HX0 := hide hw0
  have HB0 := hide hb0
  have HN := hide hn
  have HR := hide hr
  have HOK := hide hok
  clear hm hr hok hn hw0 hb0 hW0 hc
  go_enter Try.func9, Try.ntmps9
  go_wp2_with fail
  rw [← HW0.out]
  go_loopw [4] (fun i wr => ∃ k : Nat, k ≤ n ∧ i = .int .i64 k ∧ okAll (xs.take k) ∧ ∃ F', PutTo W0 wr w.heap.size w.heap.size none F' (bl (xs.take k)) (bn (xs.take k))) (fun i _ => n - (intOf i).toNat)
  case atStart => exact ⟨0, Nat.zero_le _, rfl, by intro p hp; simp at hp, none, PutTo.start HX0.out⟩
  case round =>
    obtain ⟨k, hk, rfl, hoa, F1, hp⟩ := hrel
    have hbel := HB0.out.trans (hp.old (fun j hj => by cases hj) HB0.out.size)
    have HP := hide hp
    have B := hide hbel
    have HOA := hide hoa
    clear hp hbel hoa
    by_cases hlt : k < n
    · obtain ⟨b, off, x, m, rfl, hbb, k0, k1, hx⟩ := put_cells (HR.out.below B.out) HN.out hlt
      obtain ⟨⟨ok1, ok2⟩, ok3, ok4⟩ := HOK.out _ (List.mem_of_getElem? hx)
      have HX := hide hx
      clear hx
      have hkn : (k : Int) < (n : Int) := by omega
      have hble : bl (xs.take k) ≤ 3840 := by have := bl_le HOA.out; rw [List.length_take] at this; omega
      cases hmy : mayB x m with
      | false =>
        have HPUT := hide (fun W => put_refuses (g := w.heap.size) W hmy ok1 ok2 ok4)
        clear hmy ok1 ok2 ok3 ok4 hble
        go_wp2_with fail
        go_still_tail 10, (by kernel_rfl)
        go_wp2_with fail
        refine (HPUT.out _).mono ?_
        rintro e w1 ⟨rfl, rfl⟩
        go_wp2_with fail
        refine (HKN.out _).mono ?_
        rintro e W9 ⟨rfl, b9⟩
        replace B := hide (B.out.drew.trans (b9.mono B.out.drew.size))
        clear b9
        go_wp2
        go_ret
        exact ⟨rfl, B.out⟩
      | true =>
        have hml := mayB_le hmy
        have HPUT := hide (fun (W : World) (hW : Wr W w.heap.size w.heap.size F1 (bl (xs.take k)) (bn (xs.take k))) (hWB : w.heap.size ≤ W.heap.size) => put_any x m W hW ok1 hml.1 hml.2.1 hml.2.2 (by omega) hWB)
        have HMY := hide hmy
        clear hmy ok1 ok2 ok3 ok4 hble hml
        go_wp2_with fail
        go_still_tail 10, (by kernel_rfl)
        go_wp2_with fail
        refine (HPUT.out _ (HP.out.below (Below.refl _ wr).drew).wr B.out.size).mono ?_
        rintro e w1 ⟨rfl, F2, hp2⟩
        have HP2 := hide ((HP.out.below (Below.refl _ wr).drew).trans hp2)
        clear hp2
        go_wp2
        go_roundw
        case rel =>
          have h2 := HP2.out
          rw [← bl_snoc HX.out, ← bn_snoc HX.out] at h2
          exact ⟨k + 1, by omega, by go_num, ok_snoc HX.out HOA.out HMY.out, F2, h2⟩
        case measure => simp [intOf]; omega
    · have hge : ¬ (k : Int) < (n : Int) := by omega
      obtain rfl : k = n := by omega
      have hoa := HOA.out
      have hx1 := HP.out.wr
      rw [List.take_of_length_le (by have := HN.out; omega)] at hoa hx1
      have hbl := bl_le hoa
      rw [← HN.out] at hbl
      obtain ⟨L, hL⟩ : ∃ L, L = bl xs := ⟨_, rfl⟩
      obtain ⟨N, hNN⟩ : ∃ N, N = bn xs := ⟨_, rfl⟩
      have hNL := bn_lt hoa
      rw [← hL, ← hNN] at hx1 hNL
      rw [← hL] at hbl
      have hL4 : L ≤ 3840 := by omega
      have HOA2 := hide hoa
      have X := hide hx1
      have HL := hide hL
      have HNN := hide hNN
      have HNL := hide hNL
      have hFF := hx1.ltF
      have hF1 := hide (fun j hj => (hx1.ltF j hj).2.1 : ∀ j, F1 = some j → j < wr.heap.size)
      have hG1 := hide hx1.lt
      have HRD := hide (fun (q : Nat) (x m : Int) (h : xs[q]? = some (x, m)) => by
        have := bn_read hoa h 0
        rw [Nat.mul_zero, Nat.add_zero, ← hNN] at this
        exact this : ∀ (q : Nat) (x m : Int), xs[q]? = some (x, m) → N / 2 ^ bl (xs.take q) % 2 ^ m.toNat = x.toNat)
      have HRC := hide (fun (q : Nat) (x m : Int) (h : xs[q]? = some (x, m)) => by
        have := bn_read hoa h 1
        rw [Nat.mul_one, ← hNN, ← hL] at this
        exact this : ∀ (q : Nat) (x m : Int), xs[q]? = some (x, m) → (N + 2 ^ L) / 2 ^ bl (xs.take q) % 2 ^ m.toNat = x.toNat)
      clear hoa hx1 hbl hNN hNL HP HOA hFF hL HNN
      obtain ⟨M2, hM2⟩ : ∃ M2, M2 = (pack L N).length := ⟨_, rfl⟩
      have hM2b : M2 = (L + 7) / 8 := by rw [hM2, pack_len]
      obtain ⟨M4, hM4⟩ : ∃ M4, M4 = (pack (L + 1) (N + 2 ^ L)).length := ⟨_, rfl⟩
      have hM4b : M4 = (L + 8) / 8 := by rw [hM4, pack_len]
      have hcl := close_last HNL.out
      rw [← hM4] at hcl
      have HCL := hide hcl
      have HM2 := hide hM2
      have HM4 := hide hM4
      have HM2B := hide hM2b
      have hM2l : M2 ≤ 1000 := by omega
      have hM4l : M4 ≤ 1000 := by omega
      clear hM2 hM4 hcl hM2b hM4b
      obtain ⟨W1, hW1⟩ : ∃ W1, W1 = wr := ⟨_, rfl⟩
      subst hW1
      go_wp2_with fail
      refine (bytes_of W1 X.out (by omega)).mono ?_
      rintro e W2 ⟨u2, rfl, own2, b2⟩
      rw [← HM2.out] at own2
      obtain ⟨A2, c2, rfl⟩ := own_form own2
      replace B := hide (B.out.trans (b2.mono B.out.size))
      replace X := hide (X.out.below b2)
      have HRB := hide (Reads.of_own own2)
      have hs12 := hide b2.size
      clear own2 b2
      go_wp2_with fail
      refine (newf_of A2 M2 c2 (pack L N) W2 HRB.out (pack_byte _ _) HM2.out (by omega)).mono ?_
      rintro e W3 ⟨g1, rfl, r1, b3⟩
      replace B := hide (B.out.trans (b3.mono B.out.size))
      replace X := hide (X.out.below b3)
      obtain ⟨i1, e1⟩ : ∃ i1, i1 = W2.heap.size := ⟨_, rfl⟩
      obtain ⟨i2, e2⟩ : ∃ i2, i2 = W3.heap.size := ⟨_, rfl⟩
      rw [← e1, ← e2] at r1
      have R1 := hide r1
      have l1 := r1.lt
      have LA := hide (show w.heap.size < i1 ∧ (∀ j, F1 = some j → j < i1) ∧ i1 ≤ g1 ∧ g1 < i2 from ⟨by have := hG1.out; have := hs12.out; omega, fun j hj => by have := hF1.out j hj; have := hs12.out; omega, l1.1, l1.2.1⟩)
      clear r1 b3 e1 l1 HRB hs12 hF1 hG1
      go_wp2_with fail
      refine (close_of W3 X.out (by omega)).mono ?_
      rintro e W4 ⟨u4, rfl, own4, b4⟩
      rw [← HM4.out] at own4
      obtain ⟨A4, c4, rfl⟩ := own_form own4
      replace B := hide (B.out.trans (b4.mono B.out.size))
      replace X := hide (X.out.below b4)
      replace R1 := hide (R1.out.below b4)
      have HRB := hide (Reads.of_own own4)
      have hs34 := hide b4.size
      clear own4 b4
      go_wp2_with fail
      refine (newb_of A4 M4 c4 (pack (L + 1) (N + 2 ^ L)) W4 HRB.out (pack_byte _ _) HM4.out HCL.out.1 (by omega) HCL.out.2).mono ?_
      rintro e W5 ⟨g2, rfl, r2, b5⟩
      replace B := hide (B.out.trans (b5.mono B.out.size))
      replace X := hide (X.out.below b5)
      replace R1 := hide (R1.out.below b5)
      obtain ⟨i3, e3⟩ : ∃ i3, i3 = W4.heap.size := ⟨_, rfl⟩
      obtain ⟨i4, e4⟩ : ∃ i4, i4 = W5.heap.size := ⟨_, rfl⟩
      rw [← e3, ← e4] at r2
      have R2 := hide r2
      have l2 := r2.lt
      have LB := hide (show i2 ≤ i3 ∧ i3 ≤ g2 ∧ g2 < i4 from ⟨by have := hs34.out; omega, l2.1, l2.2.1⟩)
      clear r2 b5 e3 e4 l2 HRB hs34 e2 HCL HM4 hM4l
      obtain ⟨P1, hP1⟩ : ∃ P1, P1 = pack L N := ⟨_, rfl⟩
      obtain ⟨P2, hP2⟩ : ∃ P2, P2 = pack (L + 1) (N + 2 ^ L) := ⟨_, rfl⟩
      have hN1 : leN P1 = N := by rw [hP1]; exact leN_pack HNL.out
      have hN2 : leN P2 = N + 2 ^ L := by
        rw [hP2]; refine leN_pack ?_
        have := HNL.out
        rw [Nat.pow_succ]; omega
      have HP1L := hide (show 8 * M2 = 8 * P1.length by rw [hP1, HM2.out])
      rw [← hP1] at R1
      rw [← hP2] at R2
      have HN1 := hide hN1
      have HN2 := hide hN2
      clear hP1 hP2 hN1 hN2 HM2
      go_wp2_with fail
      go_loopw [8] (fun i wr => ∃ q : Nat, q ≤ k ∧ i = .int .i64 q ∧ Rdr wr i1 i2 g1 57 P1 (bl (xs.take q)) (8 * M2) ∧ Rdr wr i3 i4 g2 58 P2 0 L ∧ Wr wr w.heap.size w.heap.size F1 L N ∧ Below w.heap.size w wr) (fun i _ => k - (intOf i).toNat)
      case atStart => exact ⟨0, Nat.zero_le _, rfl, R1.out, R2.out, X.out, B.out⟩
      case round =>
      obtain ⟨q, hq, rfl, hr1, hr2, hx2, hb2⟩ := hrel
      replace R1 := hide hr1
      replace R2 := hide hr2
      replace X := hide hx2
      replace B := hide hb2
      clear hr1 hr2 hx2 hb2
      by_cases hlt2 : q < k
      · have hqk : (q : Int) < (k : Int) := by omega
        obtain ⟨b, off, x, m, rfl, hbb, k0, k1, hx⟩ := put_cells (HR.out.below B.out) HN.out hlt2
        have hml := mayB_le (HOA2.out _ (List.mem_of_getElem? hx))
        have hx64 := (HOK.out _ (List.mem_of_getElem? hx)).1
        obtain ⟨m, rfl⟩ := Int.eq_ofNat_of_zero_le hml.1
        obtain ⟨x, rfl⟩ := Int.eq_ofNat_of_zero_le hx64.1
        have hsn := bl_snoc hx
        have hle := bl_take_le xs (q + 1)
        have hrd := HRD.out _ _ _ hx
        simp only [Int.toNat_natCast] at hsn hrd
        have HX := hide hx
        have hLL := HL.out
        have hm64 : m ≤ 64 := by omega
        have hfit : bl (xs.take q) + m ≤ 8 * M2 := by have := HM2B.out; omega
        have HSN := hide hsn
        have HRD1 := hide hrd
        clear hml hx hsn hle hrd hLL hx64
        go_wp2_with fail
        refine (ftake_good R1.out m hm64 hfit).mono ?_
        rintro e W ⟨rfl, r, ch⟩
        rw [HN1.out, HRD1.out]
        replace R1 := hide r
        replace R2 := hide (R2.out.chg ch (by rintro b rfl; have := LA.out; have := LB.out; omega))
        replace X := hide (X.out.chg ch (by intro h; have := LA.out; omega) (by intro j hj h; have := LA.out.2.1 j hj; have := LA.out; omega))
        replace B := hide (B.out.trans (ch.below (by rintro b rfl; have := LA.out; omega) B.out.size))
        clear r ch k0 k1 hfit
        obtain ⟨b', off', x', m', hA, hbb', j0, j1, hx'⟩ := put_cells (HR.out.below B.out) HN.out hlt2
        obtain ⟨rfl, rfl⟩ : b = b' ∧ off = off' := by injection hA with hA; injection hA with h1 h2; exact ⟨h1, h2⟩
        obtain ⟨rfl, rfl⟩ : (x : Int) = x' ∧ (m : Int) = m' := by rw [HX.out] at hx'; injection hx' with h; injection h with h1 h2; exact ⟨h1, h2⟩
        clear hA hbb' hx'
        go_wp2_with fail
        refine (took_any _ _ _ _ _).mono ?_
        rintro e W' ⟨rfl, rfl⟩
        go_wp2
        go_roundw
        case rel =>
          first
          | exact ⟨q + 1, by omega, by go_num, by rw [HSN.out]; exact R1.out, R2.out, X.out, B.out⟩
          | ((repeat apply Exists.intro); exact ⟨⟨q + 1, by omega, by go_num, by rw [HSN.out]; exact R1.out, R2.out, X.out, B.out⟩, rfl⟩)
        case measure => simp [intOf]; try omega
      · have hge2 : ¬ (q : Int) < (k : Int) := by omega
        have hqk : q = k := by omega
        have hr1 := R1.out
        rw [List.take_of_length_le (by have := HN.out; omega), ← HL.out] at hr1
        replace R1 := hide hr1
        have hw2 : IntKind.i64.wrap ((k : Int) - 1) = (k : Int) - 1 := IntWalk.i64_in _ (by omega)
        clear hr1 hqk
        go_wp2_with fail
        go_loopw [11] (fun i wr => ∃ j : Nat, j ≤ k ∧ i = .int .i64 ((j : Int) - 1) ∧ Rdr wr i1 i2 g1 57 P1 L (8 * M2) ∧ Rdr wr i3 i4 g2 58 P2 0 (bl (xs.take j)) ∧ Wr wr w.heap.size w.heap.size F1 L N ∧ Below w.heap.size w wr) (fun i _ => (intOf i + 1).toNat)
        case atStart => exact ⟨k, Nat.le_refl _, rfl, R1.out, by rw [List.take_of_length_le (by have := HN.out; omega), ← HL.out]; exact R2.out, X.out, B.out⟩
        case round =>
        obtain ⟨j, hj, rfl, hr1, hr2, hx2, hb2⟩ := hrel
        replace R1 := hide hr1
        replace R2 := hide hr2
        replace X := hide hx2
        replace B := hide hb2
        clear hr1 hr2 hx2 hb2
        rcases j with _ | p
        · have hm1 : ((0 : Nat) : Int) - 1 = -1 := by omega
          rw [hm1]
          have hr2 := R2.out
          rw [List.take_zero, show bl [] = 0 from rfl] at hr2
          replace R2 := hide hr2
          have hal := fun W (r : Rdr W i1 i2 g1 57 P1 L (8 * M2)) => align_out r HP1L.out
          have hoa : oA (leN P1) L = (M2, 0, 8 * M2) := by
            have h1 := HNL.out
            have h2 := HM2B.out
            have hg : L + gap L = 8 * M2 := by have h3 := gap_mod L; have h4 := gap_le L; omega
            unfold oA
            rw [HN1.out, Nat.div_eq_of_lt h1, Nat.zero_mod, if_pos rfl, hg, Nat.mul_div_cancel_left _ (by omega)]
          rw [hoa] at hal
          have HAL := hide hal
          clear hm1 hr2 hal hoa
          go_wp2_with fail
          refine (HAL.out _ R1.out).mono ?_
          rintro e W ⟨rfl, r, ch⟩
          replace R1 := hide r
          replace R2 := hide (R2.out.chg ch (by rintro b rfl; have := LA.out; have := LB.out; omega))
          replace X := hide (X.out.chg ch (by intro h; have := LA.out; omega) (by intro j hj h; have := LA.out.2.1 j hj; have := LA.out; omega))
          replace B := hide (B.out.trans (ch.below (by rintro b rfl; have := LA.out; omega) B.out.size))
          clear r ch
          go_wp2_with fail
          refine (bytes_of W X.out (by omega)).mono ?_
          rintro e W6 ⟨u6, rfl, own6, b6⟩
          obtain ⟨A6, c6, rfl⟩ := own_form own6
          rw [pack_len, ← HM2B.out]
          replace B := hide (B.out.trans (b6.mono B.out.size))
          replace R1 := hide (R1.out.below b6)
          replace R2 := hide (R2.out.below b6)
          clear own6 b6
          go_wp2_with fail
          refine (fleft_below R1.out).mono ?_
          rintro e W7 ⟨rfl, b7⟩
          rw [Nat.sub_self]
          replace B := hide (B.out.trans (b7.mono B.out.size))
          replace R2 := hide (R2.out.below b7)
          clear b7
          go_wp2_with fail
          refine (bleft_below R2.out).mono ?_
          rintro e W8 ⟨rfl, b8⟩
          replace B := hide (B.out.trans (b8.mono B.out.size))
          clear b8
          go_wp2_with fail
          refine (HKN.out _).mono ?_
          rintro e W9 ⟨rfl, b9⟩
          replace B := hide (B.out.trans (b9.mono B.out.size))
          clear b9
          go_wp2
          go_ret
          exact ⟨rfl, B.out⟩
        · have hm1 : ((p + 1 : Nat) : Int) - 1 = (p : Int) := by omega
          rw [hm1]
          have hpk : (p : Int) < (k : Int) := by omega
          have hp0 : (0 : Int) ≤ (p : Int) := by omega
          obtain ⟨b, off, x, m, rfl, hbb, k0, k1, hx⟩ := put_cells (HR.out.below B.out) HN.out (show p < k by omega)
          have hml := mayB_le (HOA2.out _ (List.mem_of_getElem? hx))
          have hx64 := (HOK.out _ (List.mem_of_getElem? hx)).1
          obtain ⟨m, rfl⟩ := Int.eq_ofNat_of_zero_le hml.1
          obtain ⟨x, rfl⟩ := Int.eq_ofNat_of_zero_le hx64.1
          have hsn := bl_snoc hx
          have hrd := HRC.out _ _ _ hx
          simp only [Int.toNat_natCast] at hsn hrd
          have HX := hide hx
          have hm64 : m ≤ 64 := by omega
          have HSN := hide hsn.symm
          have HRD1 := hide hrd
          have hbW := Nat.lt_of_lt_of_le hbb B.out.size
          clear hm1 hml hx hsn hrd hx64
          have HPK := hide (bpeek_all (R2.out.below (Below.refl _ wr).drew) m (bl (xs.take p)) hm64 (Nat.zero_le _) HSN.out)
          have hpk2 := HPK.out
          rw [HN2.out, HRD1.out] at hpk2
          have HPK2 := hide hpk2
          clear HPK hpk2
          go_wp2_with fail
          go_region_held3 (fun w' => w'.cell? ⟨b, off + p * 2, none⟩ = some (.int .u64 (x : Int)) ∧ w'.cell? ⟨b, off + p * 2 + 1, none⟩ = some (.int .i64 (m : Int))) (go_keep)
            (first
            | (go_at_call 14; refine HPK2.out.mono ?_; rintro e w1 ⟨rfl, hb1⟩; replace hb1 := (Below.refl _ wr).drew.trans hb1; have j0 := (hb1.cell (p := ⟨b, off + p * 2, none⟩) hbW).trans k0; have j1 := (hb1.cell (p := ⟨b, off + p * 2 + 1, none⟩) hbW).trans k1; have HB1 := hide hb1; clear hb1))
          replace R1 := hide (R1.out.below HB1.out)
          replace R2 := hide (R2.out.below HB1.out)
          replace X := hide (X.out.below HB1.out)
          replace B := hide (B.out.trans (HB1.out.mono B.out.size))
          clear HB1 HPK2 k0 k1 hbW
          go_wp2_with fail
          refine (btake_good R2.out m (bl (xs.take p)) hm64 HSN.out (Nat.zero_le _)).mono ?_
          rintro e W ⟨rfl, r, ch⟩
          rw [HN2.out, HRD1.out]
          replace R2 := hide r
          replace R1 := hide (R1.out.chg ch (by rintro b rfl; have := LA.out; have := LB.out; omega))
          replace X := hide (X.out.chg ch (by intro h; have := LA.out; have := LB.out; omega) (by intro j hj h; have := LA.out.2.1 j hj; have := LA.out; have := LB.out; omega))
          replace B := hide (B.out.trans (ch.below (by rintro b rfl; have := LA.out; have := LB.out; omega) B.out.size))
          clear r ch j0 j1
          obtain ⟨b', off', x', m', hA, hbb', j0, j1, hx'⟩ := put_cells (HR.out.below B.out) HN.out (show p < k by omega)
          obtain ⟨rfl, rfl⟩ : b = b' ∧ off = off' := by injection hA with hA; injection hA with h1 h2; exact ⟨h1, h2⟩
          obtain ⟨rfl, rfl⟩ : (x : Int) = x' ∧ (m : Int) = m' := by rw [HX.out] at hx'; injection hx' with h; injection h with h1 h2; exact ⟨h1, h2⟩
          clear hA hbb' hx'
          go_wp2_with fail
          refine (took_any _ _ _ _ _).mono ?_
          rintro e W' ⟨rfl, rfl⟩
          go_wp2
          go_roundw
          case rel =>
            have hww : IntKind.i64.wrap ((p : Int) - 1) = (p : Int) - 1 := IntWalk.i64_in _ (by omega)
            first
            | exact ⟨p, by omega, rfl, R1.out, R2.out, X.out, B.out⟩
            | exact ⟨p, by omega, by rw [hww], R1.out, R2.out, X.out, B.out⟩
            | ((repeat apply Exists.intro); exact ⟨⟨p, by omega, rfl, R1.out, R2.out, X.out, B.out⟩, rfl⟩)
            | ((repeat apply Exists.intro); exact ⟨⟨p, by omega, by rw [hww], R1.out, R2.out, X.out, B.out⟩, rfl⟩)
          case measure => simp [intOf]; try omega
end Go.Proofs.Ytifolinoadllbaa
