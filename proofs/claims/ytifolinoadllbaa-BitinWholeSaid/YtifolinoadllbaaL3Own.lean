/- portmanteaulaw03.BitinOwn walked. -/
import Derived.Test.YtifolinoadllbaaInZ2
namespace Go.Proofs.Ytifolinoadllbaa
open Go.RowKit Go
set_option linter.unusedVariables false

theorem byte_cells {w : World} {B n : Nat} {A : Option Addr} {l : List Nat} (h : Reads w B 1 A n (u8s l)) {k : Nat} (hk : k < n) :
    ∃ b off x, A = some ⟨b, off, none⟩ ∧ b < B ∧ w.cell? ⟨b, off + k, none⟩ = some (.int .u8 ((x : Nat) : Int)) ∧ l[k]? = some x := by
  obtain ⟨b, off, rfl, hb, hc⟩ := h.open_ (by omega) (by omega)
  have hl : (u8s l).length = n := by have := h.1; omega
  have hkl : k < l.length := by simp [u8s] at hl; omega
  refine ⟨b, off, l[k], rfl, hb, hc _ _ ?_, List.getElem?_eq_getElem hkl⟩
  simp [u8s, hkl]

theorem byte_digit {bs : List Nat} {k x : Nat} (h : ∀ b ∈ bs, b < 256) (hx : bs[k]? = some x) : leN bs / 2 ^ (8 * k) % 2 ^ 8 = x := by
  obtain ⟨hk, e⟩ := List.getElem?_eq_some_iff.1 hx
  have := leN_digit bs 0 k h hk
  rw [Nat.mul_zero, Nat.add_zero, pow_256] at this
  rw [show (2 : Nat) ^ 8 = 256 from rfl, this]
  simp [List.getD, hx]

theorem last_of {bs : List Nat} {n : Nat} (hn : n = bs.length) (h : 0 < n) : bs[n - 1]? = some (bs.getLastD 0) := by
  rw [List.getLastD_eq_getLast?, List.getLast?_eq_getElem?, ← hn]
  cases hx : bs[n - 1]? with
  | none => rw [List.getElem?_eq_none_iff] at hx; omega
  | some x => rfl

set_option maxRecDepth 4000 in
set_option maxHeartbeats 16000000 in
theorem walk_BitinOwn {w : World} (A : Option Addr) (n c : Nat) (zs : List Int) (hn : zs.length = n) (hr : Reads w w.heap.size 1 A n (zs.map (Value.int .u8))) (hok : ∀ z ∈ zs, (Lit.int .u8 z).wf = true) (hm : c ≤ maxLen) (hc : n ≤ c) :
    Calls Try.prog 6 #[.slice A n c] w fun e w' => e = .returned (.bool true) ∧ Below w.heap.size w w' := by
  obtain ⟨hu1, hu2⟩ := u8s_of hok
  rw [hu1] at hr
  obtain ⟨bs, hbs⟩ : ∃ bs, bs = zs.map Int.toNat := ⟨_, rfl⟩
  have hbl : n = bs.length := by rw [hbs]; simpa using hn.symm
  rw [← hbs] at hr hu2
  have HKN := hide known_any
  clear hu1 hbs hn hok hm
  by_cases hbig : (n : Int) > 60
  · clear hr hu2 hbl
    go_enter Try.func6, Try.ntmps6
    go_wp2_with fail
    refine (HKN.out _).mono ?_
    rintro e W ⟨rfl, b⟩
    go_wp2
    go_ret
    exact ⟨rfl, b⟩
  · obtain ⟨t0, hi, hz0, hz1, hz2⟩ := info_parts info_u8
    have hn60 : n ≤ 60 := by omega
    have HR := hide hr
    have HU := hide hu2
    have HL := hide hbl
    have hw1 : IntKind.i64.wrap ((n : Int) - 2) = (n : Int) - 2 := IntWalk.i64_in _ (by omega)
    have hw2 : IntKind.i64.wrap ((n : Int) - 1) = (n : Int) - 1 := IntWalk.i64_in _ (by omega)
    clear hr hu2 hbl
    by_cases hz : n = 0
    · have h0 : bs.getLastD 0 = 0 := by
        have := HL.out
        rw [hz] at this
        rw [List.eq_nil_of_length_eq_zero this.symm]; rfl
      have hn0 : ¬ (n : Int) > 0 := by omega
      clear hz
      go_enter Try.func6, Try.ntmps6
      go_wp2_with (first
        | (at_builtin; refine wpList_append_any _ rfl (.const (.slice none 0 0)) (.tmp 18) _ rfl w.heap.size 5 t0 _ 1 1 Try.underlying22 hi hz0 hz1 hz2 rfl Nat.zero_lt_one (.slice none 0 0) 0 _ rfl (World.ownsRow_nil _ _ _ _) w.heap.size A n c _ rfl HR.out (u8s_one bs) (by unfold maxLen; omega) (by omega) (Nat.le_refl _) ?_; intro v1 W1 hown1 hg1 hat1; have B := hide ((Below.refl w.heap.size w).grown hg1 (Nat.le_refl _) (fun j hj => by cases hj)); rw [Nat.zero_add, List.nil_append] at hown1; have HO := hide hown1; clear hown1 hg1 hat1; obtain ⟨A1, c1, rfl⟩ := own_form HO.out)
        | fail)
      obtain ⟨i0, e0⟩ : ∃ i0, i0 = w.heap.size := ⟨_, rfl⟩
      obtain ⟨i1, e1⟩ : ∃ i1, i1 = W1.heap.size := ⟨_, rfl⟩
      have LO := hide (show ∀ b, (Value.slice A1 n c1).ownBlock = some b → i0 ≤ b ∧ b < i1 by rw [e0, e1]; exact HO.out.lt)
      have hfit := (Reads.of_own HO.out)
      have HI := hide (show i0 ≤ i1 by rw [e0, e1]; exact B.out.size)
      refine (newf_of A1 n c1 bs W1 hfit HU.out HL.out (by omega)).mono ?_
      rintro e W2 ⟨g1, rfl, r1, b1⟩
      replace B := hide (B.out.trans (b1.mono B.out.size))
      replace HO := hide (own_below HO.out b1)
      obtain ⟨i2, e2⟩ : ∃ i2, i2 = W2.heap.size := ⟨_, rfl⟩
      rw [← e1, ← e2] at r1
      have R1 := hide r1
      have hfit2 := hide (Reads.of_own HO.out)
      have l1 := r1.lt
      have L12 := hide (show i1 ≤ g1 ∧ g1 < i2 from ⟨l1.1, l1.2.1⟩)
      have i01 : i0 ≤ i1 := HI.out
      clear r1 b1 hfit l1 e1
      go_wp2_with fail
      refine (newb_nil A1 n c1 bs W2 hfit2.out HL.out h0 (by omega)).mono ?_
      rintro e W3 ⟨rfl, b3⟩
      replace B := hide (B.out.trans (b3.mono B.out.size))
      replace R1 := hide (R1.out.below b3)
      replace HO := hide (own_below HO.out b3)
      clear b3 hfit2 e2
      go_wp2_with fail
      go_loopw [7] (fun i wr => ∃ k : Nat, k ≤ n ∧ i = .int .i64 k ∧ Chg (fun b => (Value.slice A1 n c1).ownBlock = some b) W3 wr ∧ ∃ l : List Value, wr.ownsRow 0 5 1 (.slice A1 n c1) n l ∧ ∀ u ∈ l, ∃ z, u = .int .u8 z) (fun i _ => n - (intOf i).toNat)
      case atStart =>
        refine ⟨0, Nat.zero_le _, rfl, Chg.refl _ _, _, own_low HO.out, ?_⟩
        intro u hu
        obtain ⟨x, _, rfl⟩ := List.mem_map.1 hu
        exact ⟨_, rfl⟩
      case round =>
        obtain ⟨k, hk, rfl, hchg, l, hol, hlu⟩ := hrel
        have HCH := hide hchg
        have HOL := hide hol
        have HLU := hide hlu
        clear hchg hol hlu
        by_cases hlt : k < n
        · exact absurd hlt (by omega)
        · replace B := hide (B.out.trans (HCH.out.below (fun b hb => by rw [← e0]; exact (LO.out b hb).1) B.out.size))
          replace R1 := hide (R1.out.chg HCH.out (fun b hb => .inl (LO.out b hb).2))
          skip
          have hge : ¬ (k : Int) < (n : Int) := by omega
          clear HCH HOL HLU HO LO hk hlt
          obtain ⟨W4, hW4⟩ : ∃ W4, W4 = wr := ⟨_, rfl⟩
          subst hW4
          go_wp2_with fail
          go_loopw [8, 9, 10] (fun i _ _ wr => ∃ k : Nat, k ≤ n ∧ i = .int .i64 k ∧ Rdr wr i1 i2 g1 57 bs (8 * k) (8 * n) ∧ Below w.heap.size w wr) (fun i _ _ _ => n - (intOf i).toNat)
          case atStart => exact ⟨0, Nat.zero_le _, rfl, R1.out, B.out⟩
          case round =>
            obtain ⟨k, hk, rfl, hr1, hb1⟩ := hrel
            replace R1 := hide hr1
            replace B := hide hb1
            skip
            clear hr1 hb1
            by_cases hlt : k < n
            · exact absurd hlt (by omega)
            · have hge : ¬ (k : Int) < (n : Int) := by omega
              clear R1 hk hlt L12
              obtain ⟨W5, hW5⟩ : ∃ W5, W5 = wr := ⟨_, rfl⟩
              subst hW5
              go_wp2_with fail
              go_loopw [11, 12, 13] (fun i _ _ wr => i = .int .i64 ((n : Int) - 2) ∧ wr = W5) (fun _ _ _ _ => 0)
              case atStart => exact ⟨rfl, rfl⟩
              case round =>
              obtain ⟨rfl, rfl⟩ := hrel
              have h2 : ¬ (n : Int) - 2 ≥ 0 := by omega
              all_goals
                go_wp2_with fail
                refine (HKN.out _).mono ?_
                rintro e W9 ⟨rfl, b9⟩
                replace B := hide (B.out.trans (b9.mono B.out.size))
                clear b9
                go_wp2
                go_ret
                exact ⟨rfl, B.out⟩
    · have HLAST := hide (last_of HL.out (by omega))
      obtain ⟨y, hy⟩ : ∃ y, y = bs.getLastD 0 := ⟨_, rfl⟩
      rw [← hy] at HLAST
      have hy256 := HU.out y (List.mem_of_getElem? HLAST.out)
      have hnp : (n : Int) > 0 := by omega
      by_cases h0 : bs.getLastD 0 = 0
      · obtain rfl : y = 0 := by rw [hy, h0]
        clear hy hz
        go_enter Try.func6, Try.ntmps6
        go_wp2_with (first
          | (at_builtin; refine wpList_append_any _ rfl (.const (.slice none 0 0)) (.tmp 18) _ rfl w.heap.size 5 t0 _ 1 1 Try.underlying22 hi hz0 hz1 hz2 rfl Nat.zero_lt_one (.slice none 0 0) 0 _ rfl (World.ownsRow_nil _ _ _ _) w.heap.size A n c _ rfl HR.out (u8s_one bs) (by unfold maxLen; omega) (by omega) (Nat.le_refl _) ?_; intro v1 W1 hown1 hg1 hat1; have B := hide ((Below.refl w.heap.size w).grown hg1 (Nat.le_refl _) (fun j hj => by cases hj)); rw [Nat.zero_add, List.nil_append] at hown1; have HO := hide hown1; clear hown1 hg1 hat1; obtain ⟨A1, c1, rfl⟩ := own_form HO.out)
          | fail)
        obtain ⟨i0, e0⟩ : ∃ i0, i0 = w.heap.size := ⟨_, rfl⟩
        obtain ⟨i1, e1⟩ : ∃ i1, i1 = W1.heap.size := ⟨_, rfl⟩
        have LO := hide (show ∀ b, (Value.slice A1 n c1).ownBlock = some b → i0 ≤ b ∧ b < i1 by rw [e0, e1]; exact HO.out.lt)
        have hfit := (Reads.of_own HO.out)
        have HI := hide (show i0 ≤ i1 by rw [e0, e1]; exact B.out.size)
        refine (newf_of A1 n c1 bs W1 hfit HU.out HL.out (by omega)).mono ?_
        rintro e W2 ⟨g1, rfl, r1, b1⟩
        replace B := hide (B.out.trans (b1.mono B.out.size))
        replace HO := hide (own_below HO.out b1)
        obtain ⟨i2, e2⟩ : ∃ i2, i2 = W2.heap.size := ⟨_, rfl⟩
        rw [← e1, ← e2] at r1
        have R1 := hide r1
        have hfit2 := hide (Reads.of_own HO.out)
        have l1 := r1.lt
        have L12 := hide (show i1 ≤ g1 ∧ g1 < i2 from ⟨l1.1, l1.2.1⟩)
        have i01 : i0 ≤ i1 := HI.out
        clear r1 b1 hfit l1 e1
        go_wp2_with fail
        refine (newb_nil A1 n c1 bs W2 hfit2.out HL.out h0 (by omega)).mono ?_
        rintro e W3 ⟨rfl, b3⟩
        replace B := hide (B.out.trans (b3.mono B.out.size))
        replace R1 := hide (R1.out.below b3)
        replace HO := hide (own_below HO.out b3)
        clear b3 hfit2 e2
        obtain ⟨b9, off9, x9, rfl, hb9, kx9, hx9⟩ := byte_cells (HR.out.below B.out) (k := n - 1) (by omega)
        rw [HLAST.out] at hx9
        obtain rfl : x9 = 0 := by simpa using hx9.symm
        obtain ⟨q9, hq9⟩ : ∃ q9, q9 = n - 1 := ⟨_, rfl⟩
        have hq9i : (n : Int) - 1 = (q9 : Int) := by omega
        have hq9l : (q9 : Int) < (n : Int) := by omega
        rw [← hq9] at kx9
        clear hx9 hq9
        go_wp2_with fail
        go_loopw [7] (fun i wr => ∃ k : Nat, k ≤ n ∧ i = .int .i64 k ∧ Chg (fun b => (Value.slice A1 n c1).ownBlock = some b) W3 wr ∧ ∃ l : List Value, wr.ownsRow 0 5 1 (.slice A1 n c1) n l ∧ ∀ u ∈ l, ∃ z, u = .int .u8 z) (fun i _ => n - (intOf i).toNat)
        case atStart =>
          refine ⟨0, Nat.zero_le _, rfl, Chg.refl _ _, _, own_low HO.out, ?_⟩
          intro u hu
          obtain ⟨x, _, rfl⟩ := List.mem_map.1 hu
          exact ⟨_, rfl⟩
        case round =>
          obtain ⟨k, hk, rfl, hchg, l, hol, hlu⟩ := hrel
          have HCH := hide hchg
          have HOL := hide hol
          have HLU := hide hlu
          clear hchg hol hlu
          by_cases hlt : k < n
          · obtain ⟨g9, cu, hAeq, _, _⟩ := HOL.out.form (by omega)
            have hll : k < l.length := by have := HOL.out.1; omega
            have hA2 : A1 = some ⟨g9, 0, none⟩ := by injection hAeq
            subst hA2
            have kk := HOL.out.cellAt k (by omega)
            rw [List.getElem?_eq_getElem hll] at kk
            obtain ⟨z, hz⟩ := HLU.out _ (List.getElem_mem hll)
            rw [hz] at kk
            have kf := HOL.out.frozenAt k
            have hkn : (k : Int) < (n : Int) := by omega
            clear hz hAeq
            go_wp2
            go_roundw
            case rel =>
              refine ⟨k + 1, by omega, by go_num, HCH.out.setCell (p := ⟨g9, k, none⟩) (.inl rfl) _, _, (HOL.out.stored k (.int .u8 _)).1, ?_⟩
              intro u hu
              rcases List.mem_or_eq_of_mem_set hu with h | rfl
              · exact HLU.out u h
              · exact ⟨_, rfl⟩
            case measure => simp [intOf]; omega
          · replace B := hide (B.out.trans (HCH.out.below (fun b hb => by rw [← e0]; exact (LO.out b hb).1) B.out.size))
            replace R1 := hide (R1.out.chg HCH.out (fun b hb => .inl (LO.out b hb).2))
            skip
            have hge : ¬ (k : Int) < (n : Int) := by omega
            clear HCH HOL HLU HO LO hk hlt
            obtain ⟨W4, hW4⟩ : ∃ W4, W4 = wr := ⟨_, rfl⟩
            subst hW4
            go_wp2_with fail
            go_loopw [8, 9, 10] (fun i _ _ wr => ∃ k : Nat, k ≤ n ∧ i = .int .i64 k ∧ Rdr wr i1 i2 g1 57 bs (8 * k) (8 * n) ∧ Below w.heap.size w wr) (fun i _ _ _ => n - (intOf i).toNat)
            case atStart => exact ⟨0, Nat.zero_le _, rfl, R1.out, B.out⟩
            case round =>
              obtain ⟨k, hk, rfl, hr1, hb1⟩ := hrel
              replace R1 := hide hr1
              replace B := hide hb1
              skip
              clear hr1 hb1
              by_cases hlt : k < n
              · have hkn : (k : Int) < (n : Int) := by omega
                go_wp2_with fail
                refine (ftake_good R1.out 8 (by omega) (by omega)).mono ?_
                rintro e W ⟨rfl, r, ch⟩
                replace R1 := hide r
                skip
                replace B := hide (B.out.trans (ch.below (by rintro b rfl; have := L12.out; omega) B.out.size))
                clear r ch
                obtain ⟨b, off, x, hA, hbb, k0, hx⟩ := byte_cells (HR.out.below B.out) hlt
                obtain ⟨rfl, rfl⟩ : b = b9 ∧ off = off9 := by injection hA with hA; injection hA with h1 h2; exact ⟨h1.symm, h2.symm⟩
                rw [byte_digit HU.out hx]
                have hx256 := HU.out x (List.mem_of_getElem? hx)
                clear hx
                go_wp2_with fail
                refine (took_any _ _ _ _ _).mono ?_
                rintro e W' ⟨rfl, rfl⟩
                go_wp2
                go_roundw
                case rel => first | exact ⟨k + 1, by omega, by go_num, by rw [Nat.mul_add]; exact R1.out, B.out⟩ | ((repeat apply Exists.intro); exact ⟨⟨k + 1, by omega, by go_num, by rw [Nat.mul_add]; exact R1.out, B.out⟩, rfl⟩)
                case measure => simp [intOf]; omega
              · have hge : ¬ (k : Int) < (n : Int) := by omega
                clear R1 hk hlt L12
                obtain ⟨W5, hW5⟩ : ∃ W5, W5 = wr := ⟨_, rfl⟩
                subst hW5
                go_wp2_with fail
                go_loopw [11, 12, 13] (fun i _ _ wr => i = .int .i64 ((n : Int) - 2) ∧ wr = W5) (fun _ _ _ _ => 0)
                case atStart => exact ⟨rfl, rfl⟩
                case round =>
                obtain ⟨rfl, rfl⟩ := hrel
                by_cases h2 : (n : Int) - 2 ≥ 0
                all_goals
                  go_wp2_with fail
                  refine (HKN.out _).mono ?_
                  rintro e W9 ⟨rfl, b9⟩
                  replace B := hide (B.out.trans (b9.mono B.out.size))
                  clear b9
                  go_wp2
                  go_ret
                  exact ⟨rfl, B.out⟩
      · have hy0 : ¬ (y : Int) = 0 := by rw [hy]; omega
        have hy0b : ((y : Int) != 0) = true := by simp; omega
        have hbl8 : Lib.bitLen y ≤ 8 := Lib.bitLen_le8 ⟨y, hy256⟩
        have hpos : 0 < Lib.bitLen y := by
          unfold Lib.bitLen
          rw [show (64 : Nat) = 63 + 1 from rfl, Lib.bitLenAux, if_neg (by omega)]
          omega
        obtain ⟨T0, hT⟩ : ∃ T, T + 9 = 8 * n + Lib.bitLen (bs.getLastD 0) := ⟨8 * n + Lib.bitLen (bs.getLastD 0) - 9, by rw [← hy]; omega⟩
        have hT1 : 8 * (n - 1) ≤ T0 ∧ T0 ≤ 8 * (n - 1) + 7 := by rw [← hy] at hT; omega
        obtain ⟨hTa, hTb⟩ := hT1
        clear hy hz hbl8 hpos hy256
        go_enter Try.func6, Try.ntmps6
        go_wp2_with (first
          | (at_builtin; refine wpList_append_any _ rfl (.const (.slice none 0 0)) (.tmp 18) _ rfl w.heap.size 5 t0 _ 1 1 Try.underlying22 hi hz0 hz1 hz2 rfl Nat.zero_lt_one (.slice none 0 0) 0 _ rfl (World.ownsRow_nil _ _ _ _) w.heap.size A n c _ rfl HR.out (u8s_one bs) (by unfold maxLen; omega) (by omega) (Nat.le_refl _) ?_; intro v1 W1 hown1 hg1 hat1; have B := hide ((Below.refl w.heap.size w).grown hg1 (Nat.le_refl _) (fun j hj => by cases hj)); rw [Nat.zero_add, List.nil_append] at hown1; have HO := hide hown1; clear hown1 hg1 hat1; obtain ⟨A1, c1, rfl⟩ := own_form HO.out)
          | fail)
        obtain ⟨i0, e0⟩ : ∃ i0, i0 = w.heap.size := ⟨_, rfl⟩
        obtain ⟨i1, e1⟩ : ∃ i1, i1 = W1.heap.size := ⟨_, rfl⟩
        have LO := hide (show ∀ b, (Value.slice A1 n c1).ownBlock = some b → i0 ≤ b ∧ b < i1 by rw [e0, e1]; exact HO.out.lt)
        have hfit := (Reads.of_own HO.out)
        have HI := hide (show i0 ≤ i1 by rw [e0, e1]; exact B.out.size)
        refine (newf_of A1 n c1 bs W1 hfit HU.out HL.out (by omega)).mono ?_
        rintro e W2 ⟨g1, rfl, r1, b1⟩
        replace B := hide (B.out.trans (b1.mono B.out.size))
        replace HO := hide (own_below HO.out b1)
        obtain ⟨i2, e2⟩ : ∃ i2, i2 = W2.heap.size := ⟨_, rfl⟩
        rw [← e1, ← e2] at r1
        have R1 := hide r1
        have hfit2 := hide (Reads.of_own HO.out)
        have l1 := r1.lt
        have L12 := hide (show i1 ≤ g1 ∧ g1 < i2 from ⟨l1.1, l1.2.1⟩)
        have i01 : i0 ≤ i1 := HI.out
        clear r1 b1 hfit l1 e1
        go_wp2_with fail
        refine (newb_of A1 n c1 bs W2 hfit2.out HU.out HL.out h0 (by omega) hT).mono ?_
        rintro e W3 ⟨g2, rfl, r2, b3⟩
        replace B := hide (B.out.trans (b3.mono B.out.size))
        replace R1 := hide (R1.out.below b3)
        replace HO := hide (own_below HO.out b3)
        obtain ⟨i3, e3⟩ : ∃ i3, i3 = W3.heap.size := ⟨_, rfl⟩
        rw [← e2, ← e3] at r2
        have l2 := r2.lt
        have L23 := hide (show i2 ≤ g2 ∧ g2 < i3 from ⟨l2.1, l2.2.1⟩)
        have HG2 := hide (show w.heap.size ≤ g2 by have h8 := L12.out; omega)
        have R2 := hide r2
        clear b3 hfit2 e2 r2 e3 l2 hT h0
        obtain ⟨b9, off9, x9, rfl, hb9, kx9, hx9⟩ := byte_cells (HR.out.below B.out) (k := n - 1) (by omega)
        rw [HLAST.out] at hx9
        obtain rfl : y = x9 := by simpa using hx9
        obtain ⟨q9, hq9⟩ : ∃ q9, q9 = n - 1 := ⟨_, rfl⟩
        have hq9i : (n : Int) - 1 = (q9 : Int) := by omega
        have hq9l : (q9 : Int) < (n : Int) := by omega
        rw [← hq9] at kx9
        clear hx9 hq9
        go_wp2_with fail
        go_loopw [7] (fun i wr => ∃ k : Nat, k ≤ n ∧ i = .int .i64 k ∧ Chg (fun b => (Value.slice A1 n c1).ownBlock = some b) W3 wr ∧ ∃ l : List Value, wr.ownsRow 0 5 1 (.slice A1 n c1) n l ∧ ∀ u ∈ l, ∃ z, u = .int .u8 z) (fun i _ => n - (intOf i).toNat)
        case atStart =>
          refine ⟨0, Nat.zero_le _, rfl, Chg.refl _ _, _, own_low HO.out, ?_⟩
          intro u hu
          obtain ⟨x, _, rfl⟩ := List.mem_map.1 hu
          exact ⟨_, rfl⟩
        case round =>
          obtain ⟨k, hk, rfl, hchg, l, hol, hlu⟩ := hrel
          have HCH := hide hchg
          have HOL := hide hol
          have HLU := hide hlu
          clear hchg hol hlu
          by_cases hlt : k < n
          · obtain ⟨g9, cu, hAeq, _, _⟩ := HOL.out.form (by omega)
            have hll : k < l.length := by have := HOL.out.1; omega
            have hA2 : A1 = some ⟨g9, 0, none⟩ := by injection hAeq
            subst hA2
            have kk := HOL.out.cellAt k (by omega)
            rw [List.getElem?_eq_getElem hll] at kk
            obtain ⟨z, hz⟩ := HLU.out _ (List.getElem_mem hll)
            rw [hz] at kk
            have kf := HOL.out.frozenAt k
            have hkn : (k : Int) < (n : Int) := by omega
            clear hz hAeq
            go_wp2
            go_roundw
            case rel =>
              refine ⟨k + 1, by omega, by go_num, HCH.out.setCell (p := ⟨g9, k, none⟩) (.inl rfl) _, _, (HOL.out.stored k (.int .u8 _)).1, ?_⟩
              intro u hu
              rcases List.mem_or_eq_of_mem_set hu with h | rfl
              · exact HLU.out u h
              · exact ⟨_, rfl⟩
            case measure => simp [intOf]; omega
          · replace B := hide (B.out.trans (HCH.out.below (fun b hb => by rw [← e0]; exact (LO.out b hb).1) B.out.size))
            replace R1 := hide (R1.out.chg HCH.out (fun b hb => .inl (LO.out b hb).2))
            replace R2 := hide (R2.out.chg HCH.out (fun b hb => .inl (Nat.lt_trans (LO.out b hb).2 (Nat.lt_of_le_of_lt L12.out.1 L12.out.2))))
            have hge : ¬ (k : Int) < (n : Int) := by omega
            clear HCH HOL HLU HO LO hk hlt
            obtain ⟨W4, hW4⟩ : ∃ W4, W4 = wr := ⟨_, rfl⟩
            subst hW4
            go_wp2_with fail
            go_loopw [8, 9, 10] (fun i _ _ wr => ∃ k : Nat, k ≤ n ∧ i = .int .i64 k ∧ Rdr wr i1 i2 g1 57 bs (8 * k) (8 * n) ∧ Below w.heap.size w wr ∧ Rdr wr i2 i3 g2 58 bs 0 T0) (fun i _ _ _ => n - (intOf i).toNat)
            case atStart => exact ⟨0, Nat.zero_le _, rfl, R1.out, B.out, R2.out⟩
            case round =>
              obtain ⟨k, hk, rfl, hr1, hb1, hr2⟩ := hrel
              replace R1 := hide hr1
              replace B := hide hb1
              replace R2 := hide hr2; clear hr2
              clear hr1 hb1
              by_cases hlt : k < n
              · have hkn : (k : Int) < (n : Int) := by omega
                go_wp2_with fail
                refine (ftake_good R1.out 8 (by omega) (by omega)).mono ?_
                rintro e W ⟨rfl, r, ch⟩
                replace R1 := hide r
                replace R2 := hide (R2.out.chg ch (by rintro b rfl; exact .inl L12.out.2))
                replace B := hide (B.out.trans (ch.below (by rintro b rfl; have := L12.out; omega) B.out.size))
                clear r ch
                obtain ⟨b, off, x, hA, hbb, k0, hx⟩ := byte_cells (HR.out.below B.out) hlt
                obtain ⟨rfl, rfl⟩ : b = b9 ∧ off = off9 := by injection hA with hA; injection hA with h1 h2; exact ⟨h1.symm, h2.symm⟩
                rw [byte_digit HU.out hx]
                have hx256 := HU.out x (List.mem_of_getElem? hx)
                clear hx
                go_wp2_with fail
                refine (took_any _ _ _ _ _).mono ?_
                rintro e W' ⟨rfl, rfl⟩
                go_wp2
                go_roundw
                case rel => first | exact ⟨k + 1, by omega, by go_num, by rw [Nat.mul_add]; exact R1.out, B.out, R2.out⟩ | ((repeat apply Exists.intro); exact ⟨⟨k + 1, by omega, by go_num, by rw [Nat.mul_add]; exact R1.out, B.out, R2.out⟩, rfl⟩)
                case measure => simp [intOf]; omega
              · have hge : ¬ (k : Int) < (n : Int) := by omega
                clear R1 hk hlt L12
                obtain ⟨W5, hW5⟩ : ∃ W5, W5 = wr := ⟨_, rfl⟩
                subst hW5
                go_wp2_with fail
                go_loopw [11, 12, 13] (fun i _ _ wr => ∃ j : Nat, j + 1 ≤ n ∧ i = .int .i64 ((j : Int) - 1) ∧ Rdr wr i2 i3 g2 58 bs 0 (if j + 1 = n then T0 else 8 * j) ∧ Below w.heap.size w wr) (fun i _ _ _ => (intOf i + 1).toNat)
                case atStart =>
                  refine ⟨n - 1, by omega, ?_, by rw [if_pos (by omega)]; exact R2.out, B.out⟩
                  congr 1; omega
                case round =>
                obtain ⟨j, hj, rfl, hr2, hb2⟩ := hrel
                replace B := hide hb2
                replace R2 := hide hr2
                clear hr2 hb2
                rcases j with _ | q
                · have hm1 : ((0 : Nat) : Int) - 1 = -1 := by omega
                  rw [hm1]
                  clear R2 hm1
                  go_wp2_with fail
                  refine (HKN.out _).mono ?_
                  rintro e W9 ⟨rfl, b9⟩
                  replace B := hide (B.out.trans (b9.mono B.out.size))
                  clear b9
                  go_wp2
                  go_ret
                  exact ⟨rfl, B.out⟩
                · have hm1 : ((q + 1 : Nat) : Int) - 1 = (q : Int) := by omega
                  rw [hm1]
                  have hqn : (q : Int) < (n : Int) := by omega
                  have hx2 := fun W (b : Below w.heap.size w W) => byte_cells (HR.out.below b) (k := q) (by omega)
                  have HX2 := hide hx2
                  clear hm1 hx2
                  by_cases hlast : q + 1 + 1 = n
                  · have hq2 : ((q : Int) == (n : Int) - 2) = true := by simp; omega
                    have HQ2 := hide (show (n : Int) - 2 = (q : Int) by omega)
                    have hr2 := R2.out
                    rw [if_pos hlast] at hr2
                    have hT1 : ∃ s : Nat, s ≤ 7 ∧ 8 * (q + 1) + s = T0 := ⟨T0 - 8 * (q + 1), by omega, by omega⟩
                    obtain ⟨s, hs7, hsT⟩ := hT1
                    have hsub : (T0 : Int) - 8 * (q9 : Int) = (s : Int) := by omega
                    replace R2 := hide hr2
                    have HS := hide hsT
                    clear hr2 hsT
                    go_wp2_with fail
                    refine (bleft_below R2.out).mono ?_
                    rintro e W ⟨rfl, b⟩
                    replace R2 := hide (R2.out.below b)
                    replace B := hide (B.out.trans (b.mono B.out.size))
                    clear b
                    go_wp2_with fail
                    refine (btake_good R2.out s (8 * (q + 1)) (by omega) HS.out (by omega)).mono ?_
                    rintro e W ⟨rfl, r, ch⟩
                    replace R2 := hide r
                    replace B := hide (B.out.trans (ch.below (by rintro b rfl; exact HG2.out) B.out.size))
                    clear r ch
                    go_wp2_with fail
                    refine (btake_good R2.out 8 (8 * q) (by omega) (by omega) (by omega)).mono ?_
                    rintro e W ⟨rfl, r, ch⟩
                    replace R2 := hide r
                    replace B := hide (B.out.trans (ch.below (by rintro b rfl; exact HG2.out) B.out.size))
                    clear r ch
                    obtain ⟨b, off, x, hA, hbb, k0, hx⟩ := HX2.out _ B.out
                    obtain ⟨rfl, rfl⟩ : b = b9 ∧ off = off9 := by injection hA with hA; injection hA with h1 h2; exact ⟨h1.symm, h2.symm⟩
                    rw [byte_digit HU.out hx]
                    have hx256 := HU.out x (List.mem_of_getElem? hx)
                    clear hx
                    go_wp2_with fail
                    refine (took_any _ _ _ _ _).mono ?_
                    rintro e W' ⟨rfl, rfl⟩
                    go_wp2
                    go_roundw
                    case rel =>
                      first
                      | exact ⟨q, by omega, by first | rfl | (congr 1; rw [IntWalk.i64_in _ (by omega)]), by rw [if_neg (by omega)]; exact R2.out, B.out⟩
                      | ((repeat apply Exists.intro); exact ⟨⟨q, by omega, by first | rfl | (congr 1; rw [IntWalk.i64_in _ (by omega)]), by rw [if_neg (by omega)]; exact R2.out, B.out⟩, rfl⟩)
                    case measure => simp [intOf]; try omega
                  · have hq2 : ((q : Int) == (n : Int) - 2) = false := by simp; omega
                    have hq3 : ¬ (q : Int) = (n : Int) - 2 := by omega
                    have hr2 := R2.out
                    rw [if_neg hlast] at hr2
                    replace R2 := hide hr2
                    clear hr2
                    go_wp2_with fail
                    refine (btake_good R2.out 8 (8 * q) (by omega) (by omega) (by omega)).mono ?_
                    rintro e W ⟨rfl, r, ch⟩
                    replace R2 := hide r
                    replace B := hide (B.out.trans (ch.below (by rintro b rfl; exact HG2.out) B.out.size))
                    clear r ch
                    obtain ⟨b, off, x, hA, hbb, k0, hx⟩ := HX2.out _ B.out
                    obtain ⟨rfl, rfl⟩ : b = b9 ∧ off = off9 := by injection hA with hA; injection hA with h1 h2; exact ⟨h1.symm, h2.symm⟩
                    rw [byte_digit HU.out hx]
                    have hx256 := HU.out x (List.mem_of_getElem? hx)
                    clear hx
                    go_wp2_with fail
                    refine (took_any _ _ _ _ _).mono ?_
                    rintro e W' ⟨rfl, rfl⟩
                    go_wp2
                    go_roundw
                    case rel =>
                      first
                      | exact ⟨q, by omega, by first | rfl | (congr 1; rw [IntWalk.i64_in _ (by omega)]), by rw [if_neg (by omega)]; exact R2.out, B.out⟩
                      | ((repeat apply Exists.intro); exact ⟨⟨q, by omega, by first | rfl | (congr 1; rw [IntWalk.i64_in _ (by omega)]), by rw [if_neg (by omega)]; exact R2.out, B.out⟩, rfl⟩)
                    case measure => simp [intOf]; try omega
end Go.Proofs.Ytifolinoadllbaa
