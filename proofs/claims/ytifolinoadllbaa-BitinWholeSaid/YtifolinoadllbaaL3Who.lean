/- portmanteaulaw03.BitinWhole walked. -/
import Derived.Test.YtifolinoadllbaaL3Bck
namespace Go.Proofs.Ytifolinoadllbaa
open Go.RowKit Go
set_option linter.unusedVariables false

/-- The bits up to the next whole byte, in bytes that hold L bits of a stream and more bytes behind. -/
theorem gap_zero {L N M X : Nat} (hN : N < 2 ^ L) (hM : L + gap L = 8 * M) : (N + 256 ^ M * X) / 2 ^ L % 2 ^ gap L = 0 := by
  rw [pow_256, ← hM, Nat.pow_add, Nat.mul_assoc, Nat.add_mul_div_left _ _ (Nat.pow_pos (by omega)), Nat.div_eq_of_lt hN, Nat.zero_add, Nat.mul_mod_right]
theorem gap_one {L N M X : Nat} (hN : N < 2 ^ L) (hM : L + gap L = 8 * M) (hg : 0 < gap L) : (N + 2 ^ L + 256 ^ M * X) / 2 ^ L % 2 ^ gap L ≠ 0 := by
  obtain ⟨d, hd⟩ : ∃ d, gap L = d + 1 := ⟨gap L - 1, by omega⟩
  have e : N + 2 ^ L + 256 ^ M * X = N + 2 ^ L * (1 + 2 ^ gap L * X) := by
    rw [pow_256, ← hM, Nat.pow_add, Nat.mul_add, Nat.mul_one, Nat.mul_assoc, Nat.add_assoc]
  rw [e, Nat.add_mul_div_left _ _ (Nat.pow_pos (by omega)), Nat.div_eq_of_lt hN, Nat.zero_add, Nat.add_mul_mod_self_left, Nat.mod_eq_of_lt]
  · omega
  · rw [hd, Nat.pow_succ]; have := Nat.pow_pos (a := 2) (n := d) (by omega); omega

set_option maxRecDepth 4000 in
set_option maxHeartbeats 32000000 in
theorem walk_BitinWhole {w : World} (A : Option Addr) (n c : Nat) (xs : List (Int × Int)) (hn : n = xs.length) (hr : Reads w w.heap.size 2 A n (putCells xs)) (hok : OkPuts xs) (hm : c ≤ maxLen) (hc : n ≤ c)
    (A' : Option Addr) (n' c' : Nat) (zs : List Int) (hn' : zs.length = n') (hr' : Reads w w.heap.size 1 A' n' (zs.map (Value.int .u8))) (hok' : ∀ z ∈ zs, (Lit.int .u8 z).wf = true) (hm' : c' ≤ maxLen) (hc' : n' ≤ c') (bv : Bool) :
    Calls Try.prog 10 #[.slice A n c, .slice A' n' c', .bool bv] w fun e w' => e = .returned (.bool true) ∧ Below w.heap.size w w' := by
  have HKN := hide known_any
  by_cases hbig : (n : Int) > 60 ∨ (¬ (n : Int) > 60 ∧ (n' : Int) > 60)
  · clear hr hok hn hm hc hr' hok' hn' hm' hc'
    rcases hbig with h | ⟨h, h1⟩
    all_goals
      go_enter Try.func10, Try.ntmps10
      go_wp2_with fail
      refine (HKN.out _).mono ?_
      rintro e W ⟨rfl, b⟩
      go_wp2
      go_ret
      exact ⟨rfl, b⟩
  have hb1 : ¬ (n : Int) > 60 := by omega
  have hb2 : ¬ (n' : Int) > 60 := by omega
  have hn60' : n' ≤ 60 := by omega
  obtain ⟨t0, hti, htz0, htz1, htz2⟩ := info_parts info_u8
  obtain ⟨hu1, hu2⟩ := u8s_of hok'
  rw [hu1] at hr'
  obtain ⟨ms, hms⟩ : ∃ bs, bs = zs.map Int.toNat := ⟨_, rfl⟩
  have hbl' : n' = ms.length := by rw [hms]; simpa using hn'.symm
  rw [← hms] at hr' hu2
  have HR' := hide hr'
  have HU := hide hu2
  have HL' := hide hbl'
  clear hu1 hms hn' hok' hm' hr' hu2 hbl' hbig
  have hn60 : n ≤ 60 := by omega
  have hw0 := Wr.new w w.heap.size (Nat.le_refl _)
  have hb0 := (Below.refl w.heap.size w).alloc (Nat.le_refl _) (.cells #[.int .u64 0, .int .i64 0, .slice none 0 0] 64)
  obtain ⟨W0, hW0⟩ : ∃ W0, W0 = w.alloc (.cells #[.int .u64 0, .int .i64 0, .slice none 0 0] 64) := ⟨_, rfl⟩
  rw [← hW0] at hw0 hb0
  have HW0 := hide hW0
  have HX0 := hide hw0
  have HB0 := hide hb0
  have HN := hide hn
  have HR := hide hr
  have HOK := hide hok
  clear hm hr hok hn hw0 hb0 hW0 hc
  go_enter Try.func10, Try.ntmps10
  go_wp2_with fail
  rw [← HW0.out]
  go_loopw [8] (fun i wr => ∃ k : Nat, k ≤ n ∧ i = .int .i64 k ∧ okAll (xs.take k) ∧ ∃ F', PutTo W0 wr w.heap.size w.heap.size none F' (bl (xs.take k)) (bn (xs.take k))) (fun i _ => n - (intOf i).toNat)
  case atStart => exact ⟨0, Nat.zero_le _, rfl, by intro p hp; simp at hp, none, PutTo.start HX0.out⟩
  case round =>
    obtain ⟨k, hk, rfl, hoa, F1, hp⟩ := hrel
    have hbel := HB0.out.trans (hp.old (fun j hj => by cases hj) HB0.out.size)
    have HP := hide hp
    have B := hide hbel
    have HOA := hide hoa
    clear hp hbel hoa
    by_cases hlt : k < n
    · obtain ⟨b, off, x, m, rfl, hbb, k0, k1, hx⟩ := put_cells (HR.out.below B.out) HN.out hlt
      obtain ⟨⟨ok1, ok2⟩, ok3, ok4⟩ := HOK.out _ (List.mem_of_getElem? hx)
      have HX := hide hx
      clear hx
      have hkn : (k : Int) < (n : Int) := by omega
      have hble : bl (xs.take k) ≤ 3840 := by have := bl_le HOA.out; rw [List.length_take] at this; omega
      cases hmy : mayB x m with
      | false =>
        have HPUT := hide (fun W => put_refuses (g := w.heap.size) W hmy ok1 ok2 ok4)
        clear hmy ok1 ok2 ok3 ok4 hble
        go_wp2_with fail
        go_still_tail 10, (by kernel_rfl)
        go_wp2_with fail
        refine (HPUT.out _).mono ?_
        rintro e w1 ⟨rfl, rfl⟩
        go_wp2_with fail
        refine (HKN.out _).mono ?_
        rintro e W9 ⟨rfl, b9⟩
        replace B := hide (B.out.drew.trans (b9.mono B.out.drew.size))
        clear b9
        go_wp2
        go_ret
        exact ⟨rfl, B.out⟩
      | true =>
        have hml := mayB_le hmy
        have HPUT := hide (fun (W : World) (hW : Wr W w.heap.size w.heap.size F1 (bl (xs.take k)) (bn (xs.take k))) (hWB : w.heap.size ≤ W.heap.size) => put_any x m W hW ok1 hml.1 hml.2.1 hml.2.2 (by omega) hWB)
        have HMY := hide hmy
        clear hmy ok1 ok2 ok3 ok4 hble hml
        go_wp2_with fail
        go_still_tail 10, (by kernel_rfl)
        go_wp2_with fail
        refine (HPUT.out _ (HP.out.below (Below.refl _ wr).drew).wr B.out.size).mono ?_
        rintro e w1 ⟨rfl, F2, hp2⟩
        have HP2 := hide ((HP.out.below (Below.refl _ wr).drew).trans hp2)
        clear hp2
        go_wp2
        go_roundw
        case rel =>
          have h2 := HP2.out
          rw [← bl_snoc HX.out, ← bn_snoc HX.out] at h2
          exact ⟨k + 1, by omega, by go_num, ok_snoc HX.out HOA.out HMY.out, F2, h2⟩
        case measure => simp [intOf]; omega
    · have hge : ¬ (k : Int) < (n : Int) := by omega
      obtain rfl : k = n := by omega
      have hoa := HOA.out
      have hx1 := HP.out.wr
      rw [List.take_of_length_le (by have := HN.out; omega)] at hoa hx1
      have hbl := bl_le hoa
      rw [← HN.out] at hbl
      obtain ⟨L, hL⟩ : ∃ L, L = bl xs := ⟨_, rfl⟩
      obtain ⟨N, hNN⟩ : ∃ N, N = bn xs := ⟨_, rfl⟩
      have hNL := bn_lt hoa
      rw [← hL, ← hNN] at hx1 hNL
      rw [← hL] at hbl
      have hL4 : L ≤ 3840 := by omega
      have HOA2 := hide hoa
      have X := hide hx1
      have HL := hide hL
      have HNN := hide hNN
      have HNL := hide hNL
      have hFF := hx1.ltF
      have HNL0 := HNL
      clear hoa hx1 hbl hNN hNL HP HOA hFF hL HNN
      obtain ⟨W1, hW1⟩ : ∃ W1, W1 = wr := ⟨_, rfl⟩
      subst hW1
      have hcs : (bv = false) ∨ (bv = true ∧ (L : Int) % 8 = 0) ∨ (bv = true ∧ ¬ (L : Int) % 8 = 0) := by
        cases bv
        · exact .inl rfl
        · by_cases h : (L : Int) % 8 = 0
          · exact .inr (.inl ⟨rfl, h⟩)
          · exact .inr (.inr ⟨rfl, h⟩)
      rcases hcs with rfl | ⟨rfl, hL8⟩ | ⟨rfl, hL8⟩
      · go_wp2_with fail
        refine (len_of W1 X.out (by omega)).mono ?_
        rintro e W2 ⟨rfl, hj⟩
        have b2 := below_of_drewN hj
        replace B := hide (B.out.trans (b2.mono B.out.size))
        replace X := hide (X.out.below b2)
        clear hj b2
        obtain ⟨L1, hL1⟩ : ∃ L1, L1 = L := ⟨_, rfl⟩
        obtain ⟨N1, hN1⟩ : ∃ N1, N1 = N := ⟨_, rfl⟩
        rw [← hL1, ← hN1] at X
        have hNL1 : N1 < 2 ^ L1 := by rw [hL1, hN1]; exact HNL.out
        have hgap : L + gap L = 8 * ((L1 + 7) / 8) := by rw [hL1]; unfold gap; omega
        go_wp2_with fail
        refine (bytes_of _ X.out (by omega)).mono ?_
        rintro e W4 ⟨u4, rfl, own4, b4⟩
        obtain ⟨A4, c4, rfl⟩ := own_form own4
        replace B := hide (B.out.trans (b4.mono B.out.size))
        obtain ⟨P0, hP0⟩ : ∃ P0, P0 = pack L1 N1 := ⟨_, rfl⟩
        have hPN : leN P0 = N1 := by rw [hP0]; exact leN_pack hNL1
        have hPB : ∀ b ∈ P0, b < 256 := by rw [hP0]; exact pack_byte _ _
        have hPL : P0.length = (L1 + 7) / 8 := by rw [hP0, pack_len]
        rw [← hP0] at own4 ⊢
        obtain ⟨M, hM⟩ : ∃ M, M = P0.length := ⟨_, rfl⟩
        have hMl : M ≤ 500 := by rw [hM, hPL]; omega
        rw [← hM] at own4 ⊢
        rw [← hPL, ← hM] at hgap
        have HGAP := hide hgap
        have HM := hide hM
        have hxxN := HNL.out
        have HOA := hide (show (N + 256 ^ M * leN ms) / 2 ^ L % 2 ^ gap L = 0 from gap_zero (X := leN ms) hxxN hgap)
        have HPN := hide hPN
        have HPB := hide hPB
        have HRD := hide (Reads.of_own own4)
        clear own4 b4 hP0 hPN hPB hPL hM hgap X HNL HNL0 hNL1 hxxN hL1
        go_wp2_with (first
          | (at_builtin; refine wpList_append_any _ rfl (.const (.slice none 0 0)) (.tmp 59) _ rfl W4.heap.size 5 t0 _ 1 1 Try.underlying22 hti htz0 htz1 htz2 rfl Nat.zero_lt_one (.slice none 0 0) 0 _ rfl (World.ownsRow_nil _ _ _ _) W4.heap.size A4 M c4 _ rfl HRD.out (u8s_one P0) (by unfold maxLen; omega) (by omega) (Nat.le_refl _) ?_; intro v5 W5 hown5 hg5 hat5; have B5 := hide ((Below.refl W4.heap.size W4).grown hg5 (Nat.le_refl _) (fun j hj => by cases hj)); rw [Nat.zero_add, List.nil_append] at hown5; have HO5 := hide hown5; clear hown5 hg5 hat5; obtain ⟨A5, c5, rfl⟩ := own_form HO5.out; have HRM := hide ((HR'.out.below (B.out.trans (B5.out.mono B.out.size))).more (Nat.le_trans B.out.size B5.out.size)))
          | (at_builtin; refine wpList_append_any _ rfl (.tmp 60) (.tmp 61) _ rfl W4.heap.size 5 t0 _ 1 1 Try.underlying22 hti htz0 htz1 htz2 rfl Nat.zero_lt_one (.slice A5 M c5) M _ rfl HO5.out W5.heap.size A' n' c' _ rfl HRM.out (u8s_one ms) (by unfold maxLen; omega) (by omega) B5.out.size ?_; intro v6 W6 hown6 hg6 hat6; have B6 := hide (B5.out.grown hg6 B5.out.size (fun j hj => (HO5.out.lt j hj).1)); have HO6 := hide hown6; clear hown6 hg6 hat6; obtain ⟨A6, c6, rfl⟩ := own_form HO6.out)
          | fail)
        replace B := hide (B.out.trans (B6.out.mono B.out.size))
        have ho6 := HO6.out
        have eP : u8s P0 ++ u8s ms = u8s (P0 ++ ms) := by simp [u8s]
        have hPl : M + n' = (P0 ++ ms).length := by rw [List.length_append, ← HM.out, ← HL'.out]
        have hPb : ∀ b ∈ P0 ++ ms, b < 256 := by
          intro b hb
          rcases List.mem_append.1 hb with hb | hb
          · exact HPB.out b hb
          · exact HU.out b hb
        have ho7 : W6.ownsRow W4.heap.size 5 1 (.slice A6 (M + n') c6) (M + n') (u8s (P0 ++ ms)) := by rw [← eP]; exact ho6
        have hPN2 : leN (P0 ++ ms) = leN P0 + 256 ^ M * leN ms := by rw [leN_append, HM.out]
        rw [HPN.out, hN1] at hPN2
        have hget : ∀ i x, ms[i]? = some x → (P0 ++ ms)[M + i]? = some x := by
          intro i x h
          rw [List.getElem?_append_right (by rw [← HM.out]; omega), ← HM.out, show M + i - M = i by omega]; exact h
        obtain ⟨P, hP⟩ : ∃ P, P = P0 ++ ms := ⟨_, rfl⟩
        rw [← hP] at ho7 hPl hPb hPN2 hget
        obtain ⟨Q, hQ⟩ : ∃ Q, Q = M + n' := ⟨_, rfl⟩
        rw [← hQ] at ho7 hPl ⊢
        have hoa2 := HOA.out
        rw [← hPN2] at hoa2
        have HOA2x := hide hoa2
        have HPb := hide hPb
        have HPl := hide hPl
        have HGET := hide hget
        have HRQ := hide (Reads.of_own ho7)
        have hQl : Q ≤ 600 := by omega
        have HQ := hide hQ
        clear ho6 ho7 eP hPl hPb hPN2 hget hP hoa2 HOA HPN HPB HRD HO6 HO5 HRM B5 B6 hQ hN1
        refine (newf_of A6 Q c6 P _ HRQ.out HPb.out HPl.out (by omega)).mono ?_
        rintro e W7 ⟨g1, rfl, r1, b7⟩
        obtain ⟨i1, e1⟩ : ∃ i1, i1 = W6.heap.size := ⟨_, rfl⟩
        obtain ⟨i2, e2⟩ : ∃ i2, i2 = W7.heap.size := ⟨_, rfl⟩
        rw [← e1, ← e2] at r1
        have l1 := r1.lt
        have HG := hide (show w.heap.size ≤ g1 by have := B.out.size; omega)
        replace B := hide (B.out.trans (b7.mono B.out.size))
        have R1 := hide r1
        clear r1 b7 e1 e2 l1 HRQ
        go_wp2_with fail
        go_loopw [12] (fun i wr => ∃ q : Nat, q ≤ k ∧ i = .int .i64 q ∧ Rdr wr i1 i2 g1 57 P (bl (xs.take q)) (8 * Q) ∧ Below w.heap.size w wr) (fun i _ => k - (intOf i).toNat)
        case atStart => exact ⟨0, Nat.zero_le _, rfl, R1.out, B.out⟩
        case round =>
        obtain ⟨q, hq, rfl, hr1, hb2⟩ := hrel
        replace R1 := hide hr1
        replace B := hide hb2
        clear hr1 hb2
        by_cases hlt2 : q < k
        · have hqk : (q : Int) < (k : Int) := by omega
          obtain ⟨b, off, x, m, rfl, hbb, k0, k1, hx⟩ := put_cells (HR.out.below B.out) HN.out hlt2
          have hml := mayB_le (HOA2.out _ (List.mem_of_getElem? hx))
          obtain ⟨m, rfl⟩ := Int.eq_ofNat_of_zero_le hml.1
          have hsn := bl_snoc hx
          have hle := bl_take_le xs (q + 1)
          simp only [Int.toNat_natCast] at hsn
          have hLL := HL.out
          have hm64 : m ≤ 64 := by omega
          have hfit : bl (xs.take q) + m ≤ 8 * Q := by have := HQ.out; have := HGAP.out; omega
          have HSN := hide hsn
          clear hml hx hsn hle hLL
          go_wp2_with fail
          refine (ftake_good R1.out m hm64 hfit).mono ?_
          rintro e W ⟨rfl, r, ch⟩
          replace R1 := hide r
          replace B := hide (B.out.trans (ch.below (by rintro b rfl; exact HG.out) B.out.size))
          clear r ch k0 k1 hfit
          go_wp2
          go_roundw
          case rel =>
            first
            | exact ⟨q + 1, by omega, by go_num, by rw [HSN.out]; exact R1.out, B.out⟩
            | ((repeat apply Exists.intro); exact ⟨⟨q + 1, by omega, by go_num, by rw [HSN.out]; exact R1.out, B.out⟩, rfl⟩)
          case measure => simp [intOf]; try omega
        · have hge2 : ¬ (q : Int) < (k : Int) := by omega
          have hqk : q = k := by omega
          have hr1 := R1.out
          rw [List.take_of_length_le (by have := HN.out; omega), ← HL.out] at hr1
          replace R1 := hide hr1
          have hal := fun W (r : Rdr W i1 i2 g1 57 P L (8 * Q)) => align_out r (show 8 * Q = 8 * P.length by rw [HPl.out])
          have hoa : oA (leN P) L = (M, 0, 8 * M) := by
            unfold oA
            rw [if_pos HOA2x.out, HGAP.out, Nat.mul_div_cancel_left _ (by omega)]
          rw [hoa] at hal
          have HAL := hide hal
          clear hr1 hal hoa hqk
          obtain ⟨Wx, hWx⟩ : ∃ Wx, Wx = wr := ⟨_, rfl⟩
          subst hWx
          go_wp2_with fail
          refine (HAL.out _ R1.out).mono ?_
          rintro e W ⟨rfl, r, ch⟩
          replace R1 := hide r
          replace B := hide (B.out.trans (ch.below (by rintro b rfl; exact HG.out) B.out.size))
          clear r ch
          go_wp2_with fail
          refine (fat_below R1.out).mono ?_
          rintro e W8 ⟨rfl, b8⟩
          replace B := hide (B.out.trans (b8.mono B.out.size))
          replace R1 := hide (R1.out.below b8)
          clear b8
          go_wp2_with fail
          refine (fleft_below R1.out).mono ?_
          rintro e W9 ⟨rfl, b9⟩
          rw [show 8 * Q - 8 * M = 8 * n' by have := HQ.out; omega]
          replace B := hide (B.out.trans (b9.mono B.out.size))
          replace R1 := hide (R1.out.below b9)
          clear b9
          go_wp2_with fail
          go_loopw [15] (fun i wr => ∃ p : Nat, p ≤ n' ∧ i = .int .i64 p ∧ Rdr wr i1 i2 g1 57 P (8 * (M + p)) (8 * Q) ∧ Below w.heap.size w wr) (fun i _ => n' - (intOf i).toNat)
          case atStart => exact ⟨0, Nat.zero_le _, rfl, R1.out, B.out⟩
          case round =>
          obtain ⟨p, hp, rfl, hr1, hb2⟩ := hrel
          replace R1 := hide hr1
          replace B := hide hb2
          clear hr1 hb2
          by_cases hlt3 : p < n'
          · have hpn : (p : Int) < (n' : Int) := by omega
            have hfit : 8 * (M + p) + 8 ≤ 8 * Q := by have := HQ.out; omega
            go_wp2_with fail
            refine (ftake_good R1.out 8 (by omega) hfit).mono ?_
            rintro e W ⟨rfl, r, ch⟩
            replace R1 := hide r
            replace B := hide (B.out.trans (ch.below (by rintro b rfl; exact HG.out) B.out.size))
            clear r ch hfit
            obtain ⟨b, off, x, rfl, hbb, k0, hx⟩ := byte_cells (HR'.out.below B.out) hlt3
            have hx256 := HU.out x (List.mem_of_getElem? hx)
            rw [byte_digit HPb.out (HGET.out p x hx)]
            clear hx
            go_wp2_with fail
            refine (took_any _ _ _ _ _).mono ?_
            rintro e W' ⟨rfl, rfl⟩
            go_wp2
            go_roundw
            case rel =>
              have hr9 := R1.out
              rw [show 8 * (M + p) + 8 = 8 * (M + (p + 1)) by omega] at hr9
              first
              | exact ⟨p + 1, by omega, by go_num, hr9, B.out⟩
              | ((repeat apply Exists.intro); exact ⟨⟨p + 1, by omega, by go_num, hr9, B.out⟩, rfl⟩)
            case measure => simp [intOf]; try omega
          · have hge3 : ¬ (p : Int) < (n' : Int) := by omega
            go_wp2_with fail
            refine (HKN.out _).mono ?_
            rintro e W9 ⟨rfl, b9⟩
            replace B := hide (B.out.trans (b9.mono B.out.size))
            clear b9
            go_wp2
            go_ret
            exact ⟨rfl, B.out⟩
      · have hL8b : ((L : Int) % 8 != 0) = false := by simp; omega
        go_wp2_with fail
        refine (len_of W1 X.out (by omega)).mono ?_
        rintro e W2 ⟨rfl, hj⟩
        have b2 := below_of_drewN hj
        replace B := hide (B.out.trans (b2.mono B.out.size))
        replace X := hide (X.out.below b2)
        clear hj b2
        obtain ⟨L1, hL1⟩ : ∃ L1, L1 = L := ⟨_, rfl⟩
        obtain ⟨N1, hN1⟩ : ∃ N1, N1 = N := ⟨_, rfl⟩
        rw [← hL1, ← hN1] at X
        have hNL1 : N1 < 2 ^ L1 := by rw [hL1, hN1]; exact HNL.out
        have hgap : L + gap L = 8 * ((L1 + 7) / 8) := by rw [hL1]; unfold gap; omega
        go_wp2_with fail
        refine (bytes_of _ X.out (by omega)).mono ?_
        rintro e W4 ⟨u4, rfl, own4, b4⟩
        obtain ⟨A4, c4, rfl⟩ := own_form own4
        replace B := hide (B.out.trans (b4.mono B.out.size))
        obtain ⟨P0, hP0⟩ : ∃ P0, P0 = pack L1 N1 := ⟨_, rfl⟩
        have hPN : leN P0 = N1 := by rw [hP0]; exact leN_pack hNL1
        have hPB : ∀ b ∈ P0, b < 256 := by rw [hP0]; exact pack_byte _ _
        have hPL : P0.length = (L1 + 7) / 8 := by rw [hP0, pack_len]
        rw [← hP0] at own4 ⊢
        obtain ⟨M, hM⟩ : ∃ M, M = P0.length := ⟨_, rfl⟩
        have hMl : M ≤ 500 := by rw [hM, hPL]; omega
        rw [← hM] at own4 ⊢
        rw [← hPL, ← hM] at hgap
        have HGAP := hide hgap
        have HM := hide hM
        have hxxN := HNL.out
        have HOA := hide (show (N + 256 ^ M * leN ms) / 2 ^ L % 2 ^ gap L = 0 from gap_zero (X := leN ms) hxxN hgap)
        have HPN := hide hPN
        have HPB := hide hPB
        have HRD := hide (Reads.of_own own4)
        clear own4 b4 hP0 hPN hPB hPL hM hgap X HNL HNL0 hNL1 hxxN hL1
        go_wp2_with (first
          | (at_builtin; refine wpList_append_any _ rfl (.const (.slice none 0 0)) (.tmp 59) _ rfl W4.heap.size 5 t0 _ 1 1 Try.underlying22 hti htz0 htz1 htz2 rfl Nat.zero_lt_one (.slice none 0 0) 0 _ rfl (World.ownsRow_nil _ _ _ _) W4.heap.size A4 M c4 _ rfl HRD.out (u8s_one P0) (by unfold maxLen; omega) (by omega) (Nat.le_refl _) ?_; intro v5 W5 hown5 hg5 hat5; have B5 := hide ((Below.refl W4.heap.size W4).grown hg5 (Nat.le_refl _) (fun j hj => by cases hj)); rw [Nat.zero_add, List.nil_append] at hown5; have HO5 := hide hown5; clear hown5 hg5 hat5; obtain ⟨A5, c5, rfl⟩ := own_form HO5.out; have HRM := hide ((HR'.out.below (B.out.trans (B5.out.mono B.out.size))).more (Nat.le_trans B.out.size B5.out.size)))
          | (at_builtin; refine wpList_append_any _ rfl (.tmp 60) (.tmp 61) _ rfl W4.heap.size 5 t0 _ 1 1 Try.underlying22 hti htz0 htz1 htz2 rfl Nat.zero_lt_one (.slice A5 M c5) M _ rfl HO5.out W5.heap.size A' n' c' _ rfl HRM.out (u8s_one ms) (by unfold maxLen; omega) (by omega) B5.out.size ?_; intro v6 W6 hown6 hg6 hat6; have B6 := hide (B5.out.grown hg6 B5.out.size (fun j hj => (HO5.out.lt j hj).1)); have HO6 := hide hown6; clear hown6 hg6 hat6; obtain ⟨A6, c6, rfl⟩ := own_form HO6.out)
          | fail)
        replace B := hide (B.out.trans (B6.out.mono B.out.size))
        have ho6 := HO6.out
        have eP : u8s P0 ++ u8s ms = u8s (P0 ++ ms) := by simp [u8s]
        have hPl : M + n' = (P0 ++ ms).length := by rw [List.length_append, ← HM.out, ← HL'.out]
        have hPb : ∀ b ∈ P0 ++ ms, b < 256 := by
          intro b hb
          rcases List.mem_append.1 hb with hb | hb
          · exact HPB.out b hb
          · exact HU.out b hb
        have ho7 : W6.ownsRow W4.heap.size 5 1 (.slice A6 (M + n') c6) (M + n') (u8s (P0 ++ ms)) := by rw [← eP]; exact ho6
        have hPN2 : leN (P0 ++ ms) = leN P0 + 256 ^ M * leN ms := by rw [leN_append, HM.out]
        rw [HPN.out, hN1] at hPN2
        have hget : ∀ i x, ms[i]? = some x → (P0 ++ ms)[M + i]? = some x := by
          intro i x h
          rw [List.getElem?_append_right (by rw [← HM.out]; omega), ← HM.out, show M + i - M = i by omega]; exact h
        obtain ⟨P, hP⟩ : ∃ P, P = P0 ++ ms := ⟨_, rfl⟩
        rw [← hP] at ho7 hPl hPb hPN2 hget
        obtain ⟨Q, hQ⟩ : ∃ Q, Q = M + n' := ⟨_, rfl⟩
        rw [← hQ] at ho7 hPl ⊢
        have hoa2 := HOA.out
        rw [← hPN2] at hoa2
        have HOA2x := hide hoa2
        have HPb := hide hPb
        have HPl := hide hPl
        have HGET := hide hget
        have HRQ := hide (Reads.of_own ho7)
        have hQl : Q ≤ 600 := by omega
        have HQ := hide hQ
        clear ho6 ho7 eP hPl hPb hPN2 hget hP hoa2 HOA HPN HPB HRD HO6 HO5 HRM B5 B6 hQ hN1
        refine (newf_of A6 Q c6 P _ HRQ.out HPb.out HPl.out (by omega)).mono ?_
        rintro e W7 ⟨g1, rfl, r1, b7⟩
        obtain ⟨i1, e1⟩ : ∃ i1, i1 = W6.heap.size := ⟨_, rfl⟩
        obtain ⟨i2, e2⟩ : ∃ i2, i2 = W7.heap.size := ⟨_, rfl⟩
        rw [← e1, ← e2] at r1
        have l1 := r1.lt
        have HG := hide (show w.heap.size ≤ g1 by have := B.out.size; omega)
        replace B := hide (B.out.trans (b7.mono B.out.size))
        have R1 := hide r1
        clear r1 b7 e1 e2 l1 HRQ
        go_wp2_with fail
        go_loopw [12] (fun i wr => ∃ q : Nat, q ≤ k ∧ i = .int .i64 q ∧ Rdr wr i1 i2 g1 57 P (bl (xs.take q)) (8 * Q) ∧ Below w.heap.size w wr) (fun i _ => k - (intOf i).toNat)
        case atStart => exact ⟨0, Nat.zero_le _, rfl, R1.out, B.out⟩
        case round =>
        obtain ⟨q, hq, rfl, hr1, hb2⟩ := hrel
        replace R1 := hide hr1
        replace B := hide hb2
        clear hr1 hb2
        by_cases hlt2 : q < k
        · have hqk : (q : Int) < (k : Int) := by omega
          obtain ⟨b, off, x, m, rfl, hbb, k0, k1, hx⟩ := put_cells (HR.out.below B.out) HN.out hlt2
          have hml := mayB_le (HOA2.out _ (List.mem_of_getElem? hx))
          obtain ⟨m, rfl⟩ := Int.eq_ofNat_of_zero_le hml.1
          have hsn := bl_snoc hx
          have hle := bl_take_le xs (q + 1)
          simp only [Int.toNat_natCast] at hsn
          have hLL := HL.out
          have hm64 : m ≤ 64 := by omega
          have hfit : bl (xs.take q) + m ≤ 8 * Q := by have := HQ.out; have := HGAP.out; omega
          have HSN := hide hsn
          clear hml hx hsn hle hLL
          go_wp2_with fail
          refine (ftake_good R1.out m hm64 hfit).mono ?_
          rintro e W ⟨rfl, r, ch⟩
          replace R1 := hide r
          replace B := hide (B.out.trans (ch.below (by rintro b rfl; exact HG.out) B.out.size))
          clear r ch k0 k1 hfit
          go_wp2
          go_roundw
          case rel =>
            first
            | exact ⟨q + 1, by omega, by go_num, by rw [HSN.out]; exact R1.out, B.out⟩
            | ((repeat apply Exists.intro); exact ⟨⟨q + 1, by omega, by go_num, by rw [HSN.out]; exact R1.out, B.out⟩, rfl⟩)
          case measure => simp [intOf]; try omega
        · have hge2 : ¬ (q : Int) < (k : Int) := by omega
          have hqk : q = k := by omega
          have hr1 := R1.out
          rw [List.take_of_length_le (by have := HN.out; omega), ← HL.out] at hr1
          replace R1 := hide hr1
          have hal := fun W (r : Rdr W i1 i2 g1 57 P L (8 * Q)) => align_out r (show 8 * Q = 8 * P.length by rw [HPl.out])
          have hoa : oA (leN P) L = (M, 0, 8 * M) := by
            unfold oA
            rw [if_pos HOA2x.out, HGAP.out, Nat.mul_div_cancel_left _ (by omega)]
          rw [hoa] at hal
          have HAL := hide hal
          clear hr1 hal hoa hqk
          obtain ⟨Wx, hWx⟩ : ∃ Wx, Wx = wr := ⟨_, rfl⟩
          subst hWx
          go_wp2_with fail
          refine (HAL.out _ R1.out).mono ?_
          rintro e W ⟨rfl, r, ch⟩
          replace R1 := hide r
          replace B := hide (B.out.trans (ch.below (by rintro b rfl; exact HG.out) B.out.size))
          clear r ch
          go_wp2_with fail
          refine (fat_below R1.out).mono ?_
          rintro e W8 ⟨rfl, b8⟩
          replace B := hide (B.out.trans (b8.mono B.out.size))
          replace R1 := hide (R1.out.below b8)
          clear b8
          go_wp2_with fail
          refine (fleft_below R1.out).mono ?_
          rintro e W9 ⟨rfl, b9⟩
          rw [show 8 * Q - 8 * M = 8 * n' by have := HQ.out; omega]
          replace B := hide (B.out.trans (b9.mono B.out.size))
          replace R1 := hide (R1.out.below b9)
          clear b9
          go_wp2_with fail
          go_loopw [15] (fun i wr => ∃ p : Nat, p ≤ n' ∧ i = .int .i64 p ∧ Rdr wr i1 i2 g1 57 P (8 * (M + p)) (8 * Q) ∧ Below w.heap.size w wr) (fun i _ => n' - (intOf i).toNat)
          case atStart => exact ⟨0, Nat.zero_le _, rfl, R1.out, B.out⟩
          case round =>
          obtain ⟨p, hp, rfl, hr1, hb2⟩ := hrel
          replace R1 := hide hr1
          replace B := hide hb2
          clear hr1 hb2
          by_cases hlt3 : p < n'
          · have hpn : (p : Int) < (n' : Int) := by omega
            have hfit : 8 * (M + p) + 8 ≤ 8 * Q := by have := HQ.out; omega
            go_wp2_with fail
            refine (ftake_good R1.out 8 (by omega) hfit).mono ?_
            rintro e W ⟨rfl, r, ch⟩
            replace R1 := hide r
            replace B := hide (B.out.trans (ch.below (by rintro b rfl; exact HG.out) B.out.size))
            clear r ch hfit
            obtain ⟨b, off, x, rfl, hbb, k0, hx⟩ := byte_cells (HR'.out.below B.out) hlt3
            have hx256 := HU.out x (List.mem_of_getElem? hx)
            rw [byte_digit HPb.out (HGET.out p x hx)]
            clear hx
            go_wp2_with fail
            refine (took_any _ _ _ _ _).mono ?_
            rintro e W' ⟨rfl, rfl⟩
            go_wp2
            go_roundw
            case rel =>
              have hr9 := R1.out
              rw [show 8 * (M + p) + 8 = 8 * (M + (p + 1)) by omega] at hr9
              first
              | exact ⟨p + 1, by omega, by go_num, hr9, B.out⟩
              | ((repeat apply Exists.intro); exact ⟨⟨p + 1, by omega, by go_num, hr9, B.out⟩, rfl⟩)
            case measure => simp [intOf]; try omega
          · have hge3 : ¬ (p : Int) < (n' : Int) := by omega
            go_wp2_with fail
            refine (HKN.out _).mono ?_
            rintro e W9 ⟨rfl, b9⟩
            replace B := hide (B.out.trans (b9.mono B.out.size))
            clear b9
            go_wp2
            go_ret
            exact ⟨rfl, B.out⟩
      · have hL8b : ((L : Int) % 8 != 0) = true := by simp; omega
        go_wp2_with fail
        refine (len_of W1 X.out (by omega)).mono ?_
        rintro e W2 ⟨rfl, hj⟩
        have b2 := below_of_drewN hj
        replace B := hide (B.out.trans (b2.mono B.out.size))
        replace X := hide (X.out.below b2)
        clear hj b2
        go_wp2_with fail
        refine (put_any 1 1 W2 X.out (by omega) (by omega) (by omega) (by decide) (by omega) B.out.size).mono ?_
        rintro e W3 ⟨rfl, F3, hp3⟩
        have x3 := hp3.wr
        have hF3 := X.out.ltF
        replace B := hide (B.out.trans (hp3.old (fun j hj => (hF3 j hj).1) B.out.size))
        rw [show (1 : Int).toNat = 1 from rfl, Nat.one_mul] at x3
        replace X := hide x3
        clear x3 hp3 hF3
        obtain ⟨L1, hL1⟩ : ∃ L1, L1 = L + 1 := ⟨_, rfl⟩
        obtain ⟨N1, hN1⟩ : ∃ N1, N1 = N + 2 ^ L := ⟨_, rfl⟩
        rw [← hL1, ← hN1] at X
        have hNL1 : N1 < 2 ^ L1 := by have := HNL.out; rw [hL1, hN1, Nat.pow_succ]; omega
        have hgap : L + gap L = 8 * ((L1 + 7) / 8) := by rw [hL1]; unfold gap; omega
        have hgp : 0 < gap L := by unfold gap; omega
        go_wp2_with fail
        refine (bytes_of _ X.out (by omega)).mono ?_
        rintro e W4 ⟨u4, rfl, own4, b4⟩
        obtain ⟨A4, c4, rfl⟩ := own_form own4
        replace B := hide (B.out.trans (b4.mono B.out.size))
        obtain ⟨P0, hP0⟩ : ∃ P0, P0 = pack L1 N1 := ⟨_, rfl⟩
        have hPN : leN P0 = N1 := by rw [hP0]; exact leN_pack hNL1
        have hPB : ∀ b ∈ P0, b < 256 := by rw [hP0]; exact pack_byte _ _
        have hPL : P0.length = (L1 + 7) / 8 := by rw [hP0, pack_len]
        rw [← hP0] at own4 ⊢
        obtain ⟨M, hM⟩ : ∃ M, M = P0.length := ⟨_, rfl⟩
        have hMl : M ≤ 500 := by rw [hM, hPL]; omega
        rw [← hM] at own4 ⊢
        rw [← hPL, ← hM] at hgap
        have HGAP := hide hgap
        have HM := hide hM
        have hxxN := HNL.out
        have HOA := hide (show (N + 2 ^ L + 256 ^ M * leN ms) / 2 ^ L % 2 ^ gap L ≠ 0 from gap_one (X := leN ms) hxxN hgap hgp)
        have HPN := hide hPN
        have HPB := hide hPB
        have HRD := hide (Reads.of_own own4)
        clear own4 b4 hP0 hPN hPB hPL hM hgap X HNL HNL0 hNL1 hxxN hgp hL1
        go_wp2_with (first
          | (at_builtin; refine wpList_append_any _ rfl (.const (.slice none 0 0)) (.tmp 59) _ rfl W4.heap.size 5 t0 _ 1 1 Try.underlying22 hti htz0 htz1 htz2 rfl Nat.zero_lt_one (.slice none 0 0) 0 _ rfl (World.ownsRow_nil _ _ _ _) W4.heap.size A4 M c4 _ rfl HRD.out (u8s_one P0) (by unfold maxLen; omega) (by omega) (Nat.le_refl _) ?_; intro v5 W5 hown5 hg5 hat5; have B5 := hide ((Below.refl W4.heap.size W4).grown hg5 (Nat.le_refl _) (fun j hj => by cases hj)); rw [Nat.zero_add, List.nil_append] at hown5; have HO5 := hide hown5; clear hown5 hg5 hat5; obtain ⟨A5, c5, rfl⟩ := own_form HO5.out; have HRM := hide ((HR'.out.below (B.out.trans (B5.out.mono B.out.size))).more (Nat.le_trans B.out.size B5.out.size)))
          | (at_builtin; refine wpList_append_any _ rfl (.tmp 60) (.tmp 61) _ rfl W4.heap.size 5 t0 _ 1 1 Try.underlying22 hti htz0 htz1 htz2 rfl Nat.zero_lt_one (.slice A5 M c5) M _ rfl HO5.out W5.heap.size A' n' c' _ rfl HRM.out (u8s_one ms) (by unfold maxLen; omega) (by omega) B5.out.size ?_; intro v6 W6 hown6 hg6 hat6; have B6 := hide (B5.out.grown hg6 B5.out.size (fun j hj => (HO5.out.lt j hj).1)); have HO6 := hide hown6; clear hown6 hg6 hat6; obtain ⟨A6, c6, rfl⟩ := own_form HO6.out)
          | fail)
        replace B := hide (B.out.trans (B6.out.mono B.out.size))
        have ho6 := HO6.out
        have eP : u8s P0 ++ u8s ms = u8s (P0 ++ ms) := by simp [u8s]
        have hPl : M + n' = (P0 ++ ms).length := by rw [List.length_append, ← HM.out, ← HL'.out]
        have hPb : ∀ b ∈ P0 ++ ms, b < 256 := by
          intro b hb
          rcases List.mem_append.1 hb with hb | hb
          · exact HPB.out b hb
          · exact HU.out b hb
        have ho7 : W6.ownsRow W4.heap.size 5 1 (.slice A6 (M + n') c6) (M + n') (u8s (P0 ++ ms)) := by rw [← eP]; exact ho6
        have hPN2 : leN (P0 ++ ms) = leN P0 + 256 ^ M * leN ms := by rw [leN_append, HM.out]
        rw [HPN.out, hN1] at hPN2
        have hget : ∀ i x, ms[i]? = some x → (P0 ++ ms)[M + i]? = some x := by
          intro i x h
          rw [List.getElem?_append_right (by rw [← HM.out]; omega), ← HM.out, show M + i - M = i by omega]; exact h
        obtain ⟨P, hP⟩ : ∃ P, P = P0 ++ ms := ⟨_, rfl⟩
        rw [← hP] at ho7 hPl hPb hPN2 hget
        obtain ⟨Q, hQ⟩ : ∃ Q, Q = M + n' := ⟨_, rfl⟩
        rw [← hQ] at ho7 hPl ⊢
        have hoa2 := HOA.out
        rw [← hPN2] at hoa2
        have HOA2x := hide hoa2
        have HPb := hide hPb
        have HPl := hide hPl
        have HGET := hide hget
        have HRQ := hide (Reads.of_own ho7)
        have hQl : Q ≤ 600 := by omega
        have HQ := hide hQ
        clear ho6 ho7 eP hPl hPb hPN2 hget hP hoa2 HOA HPN HPB HRD HO6 HO5 HRM B5 B6 hQ hN1
        refine (newf_of A6 Q c6 P _ HRQ.out HPb.out HPl.out (by omega)).mono ?_
        rintro e W7 ⟨g1, rfl, r1, b7⟩
        obtain ⟨i1, e1⟩ : ∃ i1, i1 = W6.heap.size := ⟨_, rfl⟩
        obtain ⟨i2, e2⟩ : ∃ i2, i2 = W7.heap.size := ⟨_, rfl⟩
        rw [← e1, ← e2] at r1
        have l1 := r1.lt
        have HG := hide (show w.heap.size ≤ g1 by have := B.out.size; omega)
        replace B := hide (B.out.trans (b7.mono B.out.size))
        have R1 := hide r1
        clear r1 b7 e1 e2 l1 HRQ
        go_wp2_with fail
        go_loopw [12] (fun i wr => ∃ q : Nat, q ≤ k ∧ i = .int .i64 q ∧ Rdr wr i1 i2 g1 57 P (bl (xs.take q)) (8 * Q) ∧ Below w.heap.size w wr) (fun i _ => k - (intOf i).toNat)
        case atStart => exact ⟨0, Nat.zero_le _, rfl, R1.out, B.out⟩
        case round =>
        obtain ⟨q, hq, rfl, hr1, hb2⟩ := hrel
        replace R1 := hide hr1
        replace B := hide hb2
        clear hr1 hb2
        by_cases hlt2 : q < k
        · have hqk : (q : Int) < (k : Int) := by omega
          obtain ⟨b, off, x, m, rfl, hbb, k0, k1, hx⟩ := put_cells (HR.out.below B.out) HN.out hlt2
          have hml := mayB_le (HOA2.out _ (List.mem_of_getElem? hx))
          obtain ⟨m, rfl⟩ := Int.eq_ofNat_of_zero_le hml.1
          have hsn := bl_snoc hx
          have hle := bl_take_le xs (q + 1)
          simp only [Int.toNat_natCast] at hsn
          have hLL := HL.out
          have hm64 : m ≤ 64 := by omega
          have hfit : bl (xs.take q) + m ≤ 8 * Q := by have := HQ.out; have := HGAP.out; omega
          have HSN := hide hsn
          clear hml hx hsn hle hLL
          go_wp2_with fail
          refine (ftake_good R1.out m hm64 hfit).mono ?_
          rintro e W ⟨rfl, r, ch⟩
          replace R1 := hide r
          replace B := hide (B.out.trans (ch.below (by rintro b rfl; exact HG.out) B.out.size))
          clear r ch k0 k1 hfit
          go_wp2
          go_roundw
          case rel =>
            first
            | exact ⟨q + 1, by omega, by go_num, by rw [HSN.out]; exact R1.out, B.out⟩
            | ((repeat apply Exists.intro); exact ⟨⟨q + 1, by omega, by go_num, by rw [HSN.out]; exact R1.out, B.out⟩, rfl⟩)
          case measure => simp [intOf]; try omega
        · have hge2 : ¬ (q : Int) < (k : Int) := by omega
          have hqk : q = k := by omega
          have hr1 := R1.out
          rw [List.take_of_length_le (by have := HN.out; omega), ← HL.out] at hr1
          replace R1 := hide hr1
          have hal := fun W (r : Rdr W i1 i2 g1 57 P L (8 * Q)) => align_out r (show 8 * Q = 8 * P.length by rw [HPl.out])
          have hoa : oA (leN P) L = (0, 14, L) := by
            unfold oA
            rw [if_neg HOA2x.out]
          rw [hoa] at hal
          have HAL := hide hal
          clear hr1 hal hoa hqk
          obtain ⟨Wx, hWx⟩ : ∃ Wx, Wx = wr := ⟨_, rfl⟩
          subst hWx
          go_wp2_with fail
          refine (HAL.out _ R1.out).mono ?_
          rintro e W ⟨rfl, r, ch⟩
          replace R1 := hide r
          replace B := hide (B.out.trans (ch.below (by rintro b rfl; exact HG.out) B.out.size))
          clear r ch
          go_wp2_with fail
          refine (fat_below R1.out).mono ?_
          rintro e W8 ⟨rfl, b8⟩
          replace B := hide (B.out.trans (b8.mono B.out.size))
          replace R1 := hide (R1.out.below b8)
          clear b8
          go_wp2_with fail
          refine (HKN.out _).mono ?_
          rintro e W9 ⟨rfl, b9⟩
          replace B := hide (B.out.trans (b9.mono B.out.size))
          clear b9
          go_wp2
          go_ret
          exact ⟨rfl, B.out⟩
end Go.Proofs.Ytifolinoadllbaa
