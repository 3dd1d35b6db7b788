/- Writer.Put walked. -/
import Derived.Test.YtifolinoadllbaaOutPut
import Derived.StillTailTactics
namespace Go.Proofs.Ytifolinoadllbaa
open Go.RowKit
set_option linter.unusedVariables false

def putInv (w : World) (B g : Nat) (F : Option Nat) (L T : Nat) (wr : World) (y r : Nat) : Prop :=
  ∃ bs v n, PutSt w wr B g F bs v n ∧ n < 8 ∧ y < 2 ^ r ∧ r ≤ 64 ∧ 8 * bs.length + n + r = L ∧ strm bs v + y * 2 ^ (8 * bs.length + n) = T
def putMid (w : World) (B g : Nat) (F : Option Nat) (L T : Nat) (wr : World) : Prop :=
  ∃ bs v n, PutSt w wr B g F bs v n ∧ 8 * bs.length + n = L ∧ strm bs v = T
def pendOf (g : Nat) (w : World) : Nat := match w.cell? ⟨g, 1, none⟩ with | some (.int _ k) => k.toNat | _ => 0

theorem mask_num (y r : Nat) (hy : y < 18446744073709551616) (hr : r ≤ 32) :
    bits BinOp.and IntKind.u64 (y : Int) (IntKind.u64.wrap (IntKind.u64.wrap (2 ^ r) - 1)) = ((y % 2 ^ r : Nat) : Int) := by
  have h1 : 2 ^ r ≤ 2 ^ 32 := Nat.pow_le_pow_right (by omega) hr
  have h2 : (2:Nat) ^ 32 = 4294967296 := by decide
  have h3 : 0 < 2 ^ r := Nat.pow_pos (by omega)
  have e0 : ((2 : Int) ^ r) = ((2 ^ r : Nat) : Int) := by simp
  have e1 : IntKind.u64.wrap (2 ^ r) = ((2 ^ r : Nat) : Int) := by rw [e0, IntKind.wrap_u64]; omega
  have e2 : IntKind.u64.wrap (IntKind.u64.wrap (2 ^ r) - 1) = ((2 ^ r - 1 : Nat) : Int) := by rw [e1, IntKind.wrap_u64]; omega
  rw [e2, u64_and_nat y (2 ^ r - 1) hy (by omega), Nat.and_two_pow_sub_one_eq_mod]
theorem mask_32 (y : Nat) (hy : y < 18446744073709551616) :
    bits BinOp.and IntKind.u64 (y : Int) 4294967295 = ((y % 2 ^ 32 : Nat) : Int) := mask_num y 32 hy (by omega)
theorem wrap_a : IntKind.u64.wrap 4294967296 = 4294967296 := by decide
theorem wrap_b : IntKind.u64.wrap (4294967296 - 1) = 4294967295 := by decide

theorem pend_of {w : World} {g v n : Nat} {sl : Value} {t : TypeId} (h : w.heap[g]? = some (.cells #[.int .u64 v, .int .i64 (n : Int), sl] t (0, 0))) : pendOf g w = n := by
  unfold pendOf
  rw [cell_blk h 1]
  simp
theorem lt64 {y r : Nat} (h : y < 2 ^ r) (hr : r ≤ 64) : y < 18446744073709551616 := by
  have h1 : 2 ^ r ≤ 2 ^ 64 := Nat.pow_le_pow_right (by omega) hr
  have h2 : (2:Nat) ^ 64 = 18446744073709551616 := by decide
  omega

theorem PutSt.pend {w wr : World} {B g : Nat} {F : Option Nat} {bs : List Nat} {v n : Nat} (h : PutSt w wr B g F bs v n) : pendOf g wr = n := by
  obtain ⟨F', ⟨A, c, a1, _⟩, _⟩ := h
  exact pend_of a1

/-- The round's end: y and r less k bits. -/
theorem putInv.next {w wr : World} {B g : Nat} {F : Option Nat} {L T y r k : Nat} {bs : List Nat} {v n : Nat} {bs2 : List Nat} {v2 n2 : Nat} (h : PutSt w wr B g F bs2 v2 n2)
    (hn2 : n2 < 8) (hl2 : 8 * bs2.length + n2 = 8 * bs.length + (n + k)) (ht2 : strm bs2 v2 = strm bs (v + y % 2 ^ k * 2 ^ n)) (hk : k ≤ r) (hr : r ≤ 64) (hy : y < 2 ^ r)
    (hl : 8 * bs.length + n + r = L) (ht : strm bs v + y * 2 ^ (8 * bs.length + n) = T) : putInv w B g F L T wr (y / 2 ^ k) (r - k) := by
  refine ⟨bs2, v2, n2, h, hn2, ?_, by omega, by omega, ?_⟩
  · have e : 2 ^ r = 2 ^ k * 2 ^ (r - k) := by rw [← Nat.pow_add]; congr 1; omega
    exact Nat.div_lt_of_lt_mul (by rw [← e]; exact hy)
  · rw [ht2, hl2, ← ht]
    exact strm_add bs v n y k

set_option maxHeartbeats 8000000 in
theorem put_ok (B g : Nat) (F : Option Nat) (bs : List Nat) (v n : Nat) (x m : Nat) (w : World) (h : WrR w B g F bs v n) (hn : n < 8) (hm : m ≤ 64) (hx : x < 2 ^ m) (hlen : bs.length ≤ 1000000000) (hB : B ≤ w.heap.size)
    (hq : ((m : Int) < 64 ∧ ((x : Int) / 2 ^ m != 0) = false ∧ decide ((m : Int) < 64) = true) ∨ m = 64) :
    Calls Try.prog 29 #[.pointer (some ⟨g, 0, none⟩), .int .u64 (x : Int), .int .i64 (m : Int)] w fun e w' => e = .returned (.int .i64 0) ∧
      ∃ bs' v' n', PutSt w w' B g F bs' v' n' ∧ n' < 8 ∧ 8 * bs'.length + n' = 8 * bs.length + n + m ∧ strm bs' v' = strm bs v + x * 2 ^ (8 * bs.length + n) := by
  have hstart : putInv w B g F (8 * bs.length + n + m) (strm bs v + x * 2 ^ (8 * bs.length + n)) w x m := ⟨bs, v, n, PutSt.start h, hn, hx, hm, rfl, rfl⟩
  obtain ⟨L, hL⟩ : ∃ L, L = 8 * bs.length + n + m := ⟨_, rfl⟩
  obtain ⟨T, hT⟩ : ∃ T, T = strm bs v + x * 2 ^ (8 * bs.length + n) := ⟨_, rfl⟩
  have hLb : L ≤ 9000000000 := by omega
  rw [← hL, ← hT] at hstart
  have HL := hide hL
  have HT := hide hT
  have HS := hide hstart
  have HB := hide hB
  have HLb := hide hLb
  clear hL hT hstart hn hx hlen h hB hLb
  obtain ⟨i0, hi, hz0, hz1, hz2⟩ := info_parts info_u8
  rcases hq with ⟨h64, hq', hd⟩ | h64
  · go_enter Try.func29, Try.ntmps29
    go_wp2
    go_loopw [1, 2] (fun s1 s2 wr => ∃ y r : Nat, s1 = .int .u64 (y : Int) ∧ s2 = .int .i64 (r : Int) ∧ putInv w B g F L T wr y r) (fun _ s2 _ => (intOf s2).toNat)
    case atStart => exact ⟨x, m, rfl, rfl, HS.out⟩
    case round =>
      obtain ⟨y, r, rfl, rfl, hinv⟩ := hrel
      obtain ⟨bs1, v1, n1, hst, hn1, hy, hr, hl, ht⟩ := hinv
      have HST := hide hst
      have HY := hide hy
      have HLL := hide hl
      have HTT := hide ht
      clear hst hy hl ht
      by_cases h0 : r = 0
      · subst h0
        go_wp2
        go_ret
        refine ⟨rfl, bs1, v1, n1, HST.out, hn1, by rw [← HL.out, ← HLL.out]; omega, ?_⟩
        rw [← HT.out, ← HTT.out]
        have := HY.out
        have : y = 0 := by omega
        rw [this]; omega
      · have hym := lt64 HY.out hr
        have HYM := hide hym
        clear hym
        have hB1 := HB.out
        by_cases h32 : r ≤ 32
        · obtain ⟨q, hq0⟩ : ∃ q, q = y % 2 ^ r := ⟨_, rfl⟩
          have e1 := mask_num y r HYM.out h32
          rw [← hq0] at e1
          have E1 := hide e1
          have HQ := hide hq0
          clear e1 hq0
          go_wp2
          go_still_tail 9, (by kernel_rfl)
          rw [E1.out]
          have hst' := HST.out.drew
          change wpList _ _ _ _ _ wr.drew
          generalize wr.drew = wd at hst' ⊢
          have hqlt : q < 2 ^ r := by rw [HQ.out]; exact Nat.mod_lt _ (Nat.pow_pos (by omega))
          have HC := hide (add_st (r : Int) hst' hn1 (by omega) (by omega) (by simpa using hqlt))
          clear hst' hqlt
          go_wp2_with fail
          refine HC.out.mono ?_
          rintro e w1 ⟨rfl, hst1⟩
          rw [Int.toNat_natCast] at hst1
          have HS1 := hide hst1
          clear hst1 HC
          go_wp2_with fail
          go_loopw [8] (fun _ wr2 => putMid w B g F (8 * bs1.length + (n1 + r)) (strm bs1 (v1 + q * 2 ^ n1)) wr2) (fun _ wr2 => pendOf g wr2)
          case atStart => exact ⟨bs1, _, _, HS1.out, rfl, rfl⟩
          case round =>
            obtain ⟨bs2, v2, n2, hst2, hl2, ht2⟩ := hrel
            have HS2 := hide hst2
            have HL2 := hide hl2
            have HT2 := hide ht2
            clear hst2 hl2 ht2
            by_cases hn2 : n2 < 8
            · go_wp2_with (go_at_call 41; refine (whole_st_no HS2.out hn2).mono ?_; rintro e w2 ⟨rfl, rfl⟩)
              go_roundw
              case rel =>
                refine ⟨y / 2 ^ r, r - r, by simp, by simp, ?_⟩
                exact putInv.next HS2.out hn2 HL2.out (by rw [HT2.out, HQ.out]) (by omega) hr HY.out HLL.out HTT.out
              case measure => simp [intOf]; omega
            · obtain ⟨x2, hx2⟩ : ∃ x2, x2 = v2 % 256 := ⟨_, rfl⟩
              have c2 := whole_st HS2.out (by omega)
              rw [← hx2] at c2
              have HC2 := hide c2
              have HX2 := hide hx2
              have hx256 : x2 < 256 := by omega
              have hbl : bs2.length ≤ 2000000000 := by have := HL2.out; have := HLL.out; have := HLb.out; omega
              clear c2 hx2
              go_wp2_with (first
                | (go_at_call 41; refine HC2.out.mono ?_; rintro e w2 ⟨rfl, F3, hw3, hF3, hc3⟩; have hb3 : B ≤ w2.heap.size := Nat.le_trans hB1 hc3.size; obtain ⟨A3, c3, b1, b2, b3, b4, b5, b6, b7⟩ := id hw3; have HW3 := hide hw3; have k0 := cell_blk b1 2; have k1 := frozen_blk b1 2; simp only [List.getElem?_toArray, List.getElem?_cons_zero, List.getElem?_cons_succ] at k0; have HB1 := hide b1; have HF3 := hide hF3; have HB4 := hide b4; clear hw3 b1 b2 hF3 b4 b5 b6 b7)
                | (at_builtin; refine wpList_append_any _ rfl (.tmp 57) (.tmp 59) _ rfl B 5 i0 _ 1 1 Try.underlying22 hi hz0 hz1 hz2 rfl (by omega) (.slice A3 bs2.length c3) bs2.length _ rfl (b3.alloc _) (w2.heap.size + 1) (some ⟨w2.heap.size, 0, none⟩) 1 1 [.int .u8 (x2 : Int)] rfl (reads_new w2 _ _) (by simp [Value.oneCell']) (by unfold maxLen; omega) (by omega) (by simp; omega) ?_; intro v' w3 hown hg3 hat; have hlt := lt_of_heap HB1.out; have hgF := own_blk_ne b3 HB1.out (by decide); have h3 := (hg3.block g (by simp; omega) (Ne.symm hgF)).trans (alloc_far HB1.out _); have m0 := cell_blk h3 2; have m1 := frozen_blk h3 2; simp only [List.getElem?_toArray, List.getElem?_cons_zero, List.getElem?_cons_succ] at m0; obtain ⟨A4, c4, rfl⟩ := own_form hown; simp only [size_alloc_w] at hat; have HP := hide (PutSt.push HW3.out HB4.out hx256 HF3.out hc3 hown hg3 hat); clear hown hg3 hat h3))
              go_roundw
              case rel => exact ⟨_, _, _, HP.out, by rw [← HL2.out]; simp; omega, by rw [← HT2.out, HX2.out]; exact strm_push _ _⟩
              case measure => rw [HP.out.pend, HS2.out.pend]; omega
        · obtain ⟨q, hq0⟩ : ∃ q, q = y % 2 ^ 32 := ⟨_, rfl⟩
          have e1 := mask_32 y HYM.out
          rw [← hq0] at e1
          have E1 := hide e1
          have HQ := hide hq0
          clear e1 hq0
          go_wp2
          go_still_tail 9, (by kernel_rfl)
          rw [wrap_a, wrap_b, E1.out]
          have hst' := HST.out.drew
          change wpList _ _ _ _ _ wr.drew
          generalize wr.drew = wd at hst' ⊢
          have hqlt : q < 2 ^ 32 := by rw [HQ.out]; exact Nat.mod_lt _ (Nat.pow_pos (by omega))
          have HC := hide (add_st 32 hst' hn1 (by omega) (by omega) (by simpa using hqlt))
          clear hst' hqlt
          go_wp2_with fail
          refine HC.out.mono ?_
          rintro e w1 ⟨rfl, hst1⟩
          change PutSt _ _ _ _ _ _ _ (n1 + 32) at hst1
          have HS1 := hide hst1
          clear hst1 HC
          go_wp2_with fail
          go_loopw [8] (fun _ wr2 => putMid w B g F (8 * bs1.length + (n1 + 32)) (strm bs1 (v1 + q * 2 ^ n1)) wr2) (fun _ wr2 => pendOf g wr2)
          case atStart => exact ⟨bs1, _, _, HS1.out, rfl, rfl⟩
          case round =>
            obtain ⟨bs2, v2, n2, hst2, hl2, ht2⟩ := hrel
            have HS2 := hide hst2
            have HL2 := hide hl2
            have HT2 := hide ht2
            clear hst2 hl2 ht2
            by_cases hn2 : n2 < 8
            · go_wp2_with (go_at_call 41; refine (whole_st_no HS2.out hn2).mono ?_; rintro e w2 ⟨rfl, rfl⟩)
              go_roundw
              case rel =>
                refine ⟨y / 2 ^ 32, r - 32, by simp, by simp; omega, ?_⟩
                exact putInv.next HS2.out hn2 HL2.out (by rw [HT2.out, HQ.out]) (by omega) hr HY.out HLL.out HTT.out
              case measure => simp [intOf]; omega
            · obtain ⟨x2, hx2⟩ : ∃ x2, x2 = v2 % 256 := ⟨_, rfl⟩
              have c2 := whole_st HS2.out (by omega)
              rw [← hx2] at c2
              have HC2 := hide c2
              have HX2 := hide hx2
              have hx256 : x2 < 256 := by omega
              have hbl : bs2.length ≤ 2000000000 := by have := HL2.out; have := HLL.out; have := HLb.out; omega
              clear c2 hx2
              go_wp2_with (first
                | (go_at_call 41; refine HC2.out.mono ?_; rintro e w2 ⟨rfl, F3, hw3, hF3, hc3⟩; have hb3 : B ≤ w2.heap.size := Nat.le_trans hB1 hc3.size; obtain ⟨A3, c3, b1, b2, b3, b4, b5, b6, b7⟩ := id hw3; have HW3 := hide hw3; have k0 := cell_blk b1 2; have k1 := frozen_blk b1 2; simp only [List.getElem?_toArray, List.getElem?_cons_zero, List.getElem?_cons_succ] at k0; have HB1 := hide b1; have HF3 := hide hF3; have HB4 := hide b4; clear hw3 b1 b2 hF3 b4 b5 b6 b7)
                | (at_builtin; refine wpList_append_any _ rfl (.tmp 57) (.tmp 59) _ rfl B 5 i0 _ 1 1 Try.underlying22 hi hz0 hz1 hz2 rfl (by omega) (.slice A3 bs2.length c3) bs2.length _ rfl (b3.alloc _) (w2.heap.size + 1) (some ⟨w2.heap.size, 0, none⟩) 1 1 [.int .u8 (x2 : Int)] rfl (reads_new w2 _ _) (by simp [Value.oneCell']) (by unfold maxLen; omega) (by omega) (by simp; omega) ?_; intro v' w3 hown hg3 hat; have hlt := lt_of_heap HB1.out; have hgF := own_blk_ne b3 HB1.out (by decide); have h3 := (hg3.block g (by simp; omega) (Ne.symm hgF)).trans (alloc_far HB1.out _); have m0 := cell_blk h3 2; have m1 := frozen_blk h3 2; simp only [List.getElem?_toArray, List.getElem?_cons_zero, List.getElem?_cons_succ] at m0; obtain ⟨A4, c4, rfl⟩ := own_form hown; simp only [size_alloc_w] at hat; have HP := hide (PutSt.push HW3.out HB4.out hx256 HF3.out hc3 hown hg3 hat); clear hown hg3 hat h3))
              go_roundw
              case rel => exact ⟨_, _, _, HP.out, by rw [← HL2.out]; simp; omega, by rw [← HT2.out, HX2.out]; exact strm_push _ _⟩
              case measure => rw [HP.out.pend, HS2.out.pend]; omega
  · have h64' : m = 64 := h64
    have HM := hide h64
    subst h64
    go_enter Try.func29, Try.ntmps29
    go_wp2
    go_loopw [1, 2] (fun s1 s2 wr => ∃ y r : Nat, s1 = .int .u64 (y : Int) ∧ s2 = .int .i64 (r : Int) ∧ putInv w B g F L T wr y r) (fun _ s2 _ => (intOf s2).toNat)
    case atStart => exact ⟨x, 64, rfl, rfl, HS.out⟩
    case round =>
      obtain ⟨y, r, rfl, rfl, hinv⟩ := hrel
      obtain ⟨bs1, v1, n1, hst, hn1, hy, hr, hl, ht⟩ := hinv
      have HST := hide hst
      have HY := hide hy
      have HLL := hide hl
      have HTT := hide ht
      clear hst hy hl ht
      by_cases h0 : r = 0
      · subst h0
        go_wp2
        go_ret
        refine ⟨rfl, bs1, v1, n1, HST.out, hn1, by rw [← HL.out, ← HLL.out]; omega, ?_⟩
        rw [← HT.out, ← HTT.out]
        have := HY.out
        have : y = 0 := by omega
        rw [this]; omega
      · have hym := lt64 HY.out hr
        have HYM := hide hym
        clear hym
        have hB1 := HB.out
        by_cases h32 : r ≤ 32
        · obtain ⟨q, hq0⟩ : ∃ q, q = y % 2 ^ r := ⟨_, rfl⟩
          have e1 := mask_num y r HYM.out h32
          rw [← hq0] at e1
          have E1 := hide e1
          have HQ := hide hq0
          clear e1 hq0
          go_wp2
          go_still_tail 9, (by kernel_rfl)
          rw [E1.out]
          have hst' := HST.out.drew
          change wpList _ _ _ _ _ wr.drew
          generalize wr.drew = wd at hst' ⊢
          have hqlt : q < 2 ^ r := by rw [HQ.out]; exact Nat.mod_lt _ (Nat.pow_pos (by omega))
          have HC := hide (add_st (r : Int) hst' hn1 (by omega) (by omega) (by simpa using hqlt))
          clear hst' hqlt
          go_wp2_with fail
          refine HC.out.mono ?_
          rintro e w1 ⟨rfl, hst1⟩
          rw [Int.toNat_natCast] at hst1
          have HS1 := hide hst1
          clear hst1 HC
          go_wp2_with fail
          go_loopw [8] (fun _ wr2 => putMid w B g F (8 * bs1.length + (n1 + r)) (strm bs1 (v1 + q * 2 ^ n1)) wr2) (fun _ wr2 => pendOf g wr2)
          case atStart => exact ⟨bs1, _, _, HS1.out, rfl, rfl⟩
          case round =>
            obtain ⟨bs2, v2, n2, hst2, hl2, ht2⟩ := hrel
            have HS2 := hide hst2
            have HL2 := hide hl2
            have HT2 := hide ht2
            clear hst2 hl2 ht2
            by_cases hn2 : n2 < 8
            · go_wp2_with (go_at_call 41; refine (whole_st_no HS2.out hn2).mono ?_; rintro e w2 ⟨rfl, rfl⟩)
              go_roundw
              case rel =>
                refine ⟨y / 2 ^ r, r - r, by simp, by simp, ?_⟩
                exact putInv.next HS2.out hn2 HL2.out (by rw [HT2.out, HQ.out]) (by omega) hr HY.out HLL.out HTT.out
              case measure => simp [intOf]; omega
            · obtain ⟨x2, hx2⟩ : ∃ x2, x2 = v2 % 256 := ⟨_, rfl⟩
              have c2 := whole_st HS2.out (by omega)
              rw [← hx2] at c2
              have HC2 := hide c2
              have HX2 := hide hx2
              have hx256 : x2 < 256 := by omega
              have hbl : bs2.length ≤ 2000000000 := by have := HL2.out; have := HLL.out; have := HLb.out; omega
              clear c2 hx2
              go_wp2_with (first
                | (go_at_call 41; refine HC2.out.mono ?_; rintro e w2 ⟨rfl, F3, hw3, hF3, hc3⟩; have hb3 : B ≤ w2.heap.size := Nat.le_trans hB1 hc3.size; obtain ⟨A3, c3, b1, b2, b3, b4, b5, b6, b7⟩ := id hw3; have HW3 := hide hw3; have k0 := cell_blk b1 2; have k1 := frozen_blk b1 2; simp only [List.getElem?_toArray, List.getElem?_cons_zero, List.getElem?_cons_succ] at k0; have HB1 := hide b1; have HF3 := hide hF3; have HB4 := hide b4; clear hw3 b1 b2 hF3 b4 b5 b6 b7)
                | (at_builtin; refine wpList_append_any _ rfl (.tmp 57) (.tmp 59) _ rfl B 5 i0 _ 1 1 Try.underlying22 hi hz0 hz1 hz2 rfl (by omega) (.slice A3 bs2.length c3) bs2.length _ rfl (b3.alloc _) (w2.heap.size + 1) (some ⟨w2.heap.size, 0, none⟩) 1 1 [.int .u8 (x2 : Int)] rfl (reads_new w2 _ _) (by simp [Value.oneCell']) (by unfold maxLen; omega) (by omega) (by simp; omega) ?_; intro v' w3 hown hg3 hat; have hlt := lt_of_heap HB1.out; have hgF := own_blk_ne b3 HB1.out (by decide); have h3 := (hg3.block g (by simp; omega) (Ne.symm hgF)).trans (alloc_far HB1.out _); have m0 := cell_blk h3 2; have m1 := frozen_blk h3 2; simp only [List.getElem?_toArray, List.getElem?_cons_zero, List.getElem?_cons_succ] at m0; obtain ⟨A4, c4, rfl⟩ := own_form hown; simp only [size_alloc_w] at hat; have HP := hide (PutSt.push HW3.out HB4.out hx256 HF3.out hc3 hown hg3 hat); clear hown hg3 hat h3))
              go_roundw
              case rel => exact ⟨_, _, _, HP.out, by rw [← HL2.out]; simp; omega, by rw [← HT2.out, HX2.out]; exact strm_push _ _⟩
              case measure => rw [HP.out.pend, HS2.out.pend]; omega
        · obtain ⟨q, hq0⟩ : ∃ q, q = y % 2 ^ 32 := ⟨_, rfl⟩
          have e1 := mask_32 y HYM.out
          rw [← hq0] at e1
          have E1 := hide e1
          have HQ := hide hq0
          clear e1 hq0
          go_wp2
          go_still_tail 9, (by kernel_rfl)
          rw [wrap_a, wrap_b, E1.out]
          have hst' := HST.out.drew
          change wpList _ _ _ _ _ wr.drew
          generalize wr.drew = wd at hst' ⊢
          have hqlt : q < 2 ^ 32 := by rw [HQ.out]; exact Nat.mod_lt _ (Nat.pow_pos (by omega))
          have HC := hide (add_st 32 hst' hn1 (by omega) (by omega) (by simpa using hqlt))
          clear hst' hqlt
          go_wp2_with fail
          refine HC.out.mono ?_
          rintro e w1 ⟨rfl, hst1⟩
          change PutSt _ _ _ _ _ _ _ (n1 + 32) at hst1
          have HS1 := hide hst1
          clear hst1 HC
          go_wp2_with fail
          go_loopw [8] (fun _ wr2 => putMid w B g F (8 * bs1.length + (n1 + 32)) (strm bs1 (v1 + q * 2 ^ n1)) wr2) (fun _ wr2 => pendOf g wr2)
          case atStart => exact ⟨bs1, _, _, HS1.out, rfl, rfl⟩
          case round =>
            obtain ⟨bs2, v2, n2, hst2, hl2, ht2⟩ := hrel
            have HS2 := hide hst2
            have HL2 := hide hl2
            have HT2 := hide ht2
            clear hst2 hl2 ht2
            by_cases hn2 : n2 < 8
            · go_wp2_with (go_at_call 41; refine (whole_st_no HS2.out hn2).mono ?_; rintro e w2 ⟨rfl, rfl⟩)
              go_roundw
              case rel =>
                refine ⟨y / 2 ^ 32, r - 32, by simp, by simp; omega, ?_⟩
                exact putInv.next HS2.out hn2 HL2.out (by rw [HT2.out, HQ.out]) (by omega) hr HY.out HLL.out HTT.out
              case measure => simp [intOf]; omega
            · obtain ⟨x2, hx2⟩ : ∃ x2, x2 = v2 % 256 := ⟨_, rfl⟩
              have c2 := whole_st HS2.out (by omega)
              rw [← hx2] at c2
              have HC2 := hide c2
              have HX2 := hide hx2
              have hx256 : x2 < 256 := by omega
              have hbl : bs2.length ≤ 2000000000 := by have := HL2.out; have := HLL.out; have := HLb.out; omega
              clear c2 hx2
              go_wp2_with (first
                | (go_at_call 41; refine HC2.out.mono ?_; rintro e w2 ⟨rfl, F3, hw3, hF3, hc3⟩; have hb3 : B ≤ w2.heap.size := Nat.le_trans hB1 hc3.size; obtain ⟨A3, c3, b1, b2, b3, b4, b5, b6, b7⟩ := id hw3; have HW3 := hide hw3; have k0 := cell_blk b1 2; have k1 := frozen_blk b1 2; simp only [List.getElem?_toArray, List.getElem?_cons_zero, List.getElem?_cons_succ] at k0; have HB1 := hide b1; have HF3 := hide hF3; have HB4 := hide b4; clear hw3 b1 b2 hF3 b4 b5 b6 b7)
                | (at_builtin; refine wpList_append_any _ rfl (.tmp 57) (.tmp 59) _ rfl B 5 i0 _ 1 1 Try.underlying22 hi hz0 hz1 hz2 rfl (by omega) (.slice A3 bs2.length c3) bs2.length _ rfl (b3.alloc _) (w2.heap.size + 1) (some ⟨w2.heap.size, 0, none⟩) 1 1 [.int .u8 (x2 : Int)] rfl (reads_new w2 _ _) (by simp [Value.oneCell']) (by unfold maxLen; omega) (by omega) (by simp; omega) ?_; intro v' w3 hown hg3 hat; have hlt := lt_of_heap HB1.out; have hgF := own_blk_ne b3 HB1.out (by decide); have h3 := (hg3.block g (by simp; omega) (Ne.symm hgF)).trans (alloc_far HB1.out _); have m0 := cell_blk h3 2; have m1 := frozen_blk h3 2; simp only [List.getElem?_toArray, List.getElem?_cons_zero, List.getElem?_cons_succ] at m0; obtain ⟨A4, c4, rfl⟩ := own_form hown; simp only [size_alloc_w] at hat; have HP := hide (PutSt.push HW3.out HB4.out hx256 HF3.out hc3 hown hg3 hat); clear hown hg3 hat h3))
              go_roundw
              case rel => exact ⟨_, _, _, HP.out, by rw [← HL2.out]; simp; omega, by rw [← HT2.out, HX2.out]; exact strm_push _ _⟩
              case measure => rw [HP.out.pend, HS2.out.pend]; omega
end Go.Proofs.Ytifolinoadllbaa
