/- Both decoders of flows, in one form; portmanteauref08.Same, portmanteaulaw12.small and known. -/
import Derived.Test.YtemiaagaggjbiaaFlD
import Derived.Test.YtemiaagaggjbiaaFlE
import Derived.Test.YtemiaagaggjbiaaSt8
namespace Go.Proofs.Ytemiaagaggjbiaa
open Go.RowKit Go Go.Shelf
set_option linter.unusedVariables false
set_option maxRecDepth 8000

/-- What Decode answers: the error's number, the symbols. -/
def OutD (l : Int) (zs : List Int) (bs : List Nat) (n k : Int) (S : List Int) : Prop :=
  (¬ okT l zs ∧ k = 13 ∧ S = []) ∨ (okT l zs ∧ (n < 0 ∨ (¬ n < 0 ∧ 131072 < n)) ∧ k = 2 ∧ S = []) ∨ (okT l zs ∧ (¬ n < 0 ∧ ¬ 131072 < n) ∧ bs.getLastD 0 = 0 ∧ k = 14 ∧ S = []) ∨
    (∃ L m T : Nat, l = (L : Int) ∧ n = (m : Int) ∧ okT (L : Int) zs ∧ m ≤ 131072 ∧ bs.getLastD 0 ≠ 0 ∧ T + 9 = 8 * bs.length + Lib.bitLen (bs.getLastD 0) ∧
      ((startF (buildL L zs) L (leN bs) m T = some S ∧ k = 0) ∨ (startF (buildL L zs) L (leN bs) m T = none ∧ k = 14 ∧ S = [])))

theorem okT_nat {l : Int} {zs : List Int} (h : okT l zs) : ∃ L : Nat, l = (L : Int) := ⟨l.toNat, by have := h.1; omega⟩

theorem last_bits {bs : List Nat} (h0 : bs.getLastD 0 ≠ 0) : ∃ T, T + 9 = 8 * bs.length + Lib.bitLen (bs.getLastD 0) := by
  refine ⟨8 * bs.length + Lib.bitLen (bs.getLastD 0) - 9, ?_⟩
  have hpos : 0 < Lib.bitLen (bs.getLastD 0) := by
    unfold Lib.bitLen
    rw [show (64 : Nat) = 63 + 1 from rfl, Lib.bitLenAux, if_neg h0]
    omega
  have hn0 : 0 < bs.length := by
    rcases bs with _ | ⟨x, l⟩
    · exact absurd rfl h0
    · simp
  omega

theorem outD_ex (l : Int) (zs : List Int) (bs : List Nat) (n : Int) : ∃ k S, OutD l zs bs n k S := by
  by_cases hT : okT l zs
  · by_cases hn : n < 0 ∨ (¬ n < 0 ∧ 131072 < n)
    · exact ⟨2, [], .inr (.inl ⟨hT, hn, rfl, rfl⟩)⟩
    · by_cases h0 : bs.getLastD 0 = 0
      · exact ⟨14, [], .inr (.inr (.inl ⟨hT, by omega, h0, rfl, rfl⟩))⟩
      · obtain ⟨L, rfl⟩ := okT_nat hT
        obtain ⟨T, h3⟩ := last_bits h0
        obtain ⟨m, rfl⟩ : ∃ m : Nat, n = (m : Int) := ⟨n.toNat, by omega⟩
        cases hs : startF (buildL L zs) L (leN bs) m T with
        | none => exact ⟨14, [], .inr (.inr (.inr ⟨L, m, T, rfl, rfl, hT, by omega, h0, h3, .inr ⟨hs, rfl, rfl⟩⟩))⟩
        | some S => exact ⟨0, S, .inr (.inr (.inr ⟨L, m, T, rfl, rfl, hT, by omega, h0, h3, .inl ⟨hs, rfl⟩⟩))⟩
  · exact ⟨13, [], .inl ⟨hT, rfl, rfl⟩⟩

theorem outD_total {l : Int} {zs : List Int} {bs : List Nat} {n k : Int} {S : List Int} (h : OutD l zs bs n k S) :
    (k = 0 ∧ okT l zs ∧ (S.length : Int) = n ∧ ∀ s ∈ S, hasS zs s) ∨ ((k = 13 ∨ k = 2 ∨ k = 14) ∧ S = []) := by
  rcases h with ⟨_, rfl, rfl⟩ | ⟨_, _, rfl, rfl⟩ | ⟨_, _, _, rfl, rfl⟩ | ⟨L, m, T, rfl, rfl, hT, _, _, _, ⟨hs, rfl⟩ | ⟨_, rfl, rfl⟩⟩
  · exact .inr ⟨.inl rfl, rfl⟩
  · exact .inr ⟨.inr (.inl rfl), rfl⟩
  · exact .inr ⟨.inr (.inr rfl), rfl⟩
  · obtain ⟨h1, h2⟩ := startF_total hT hs
    exact .inl ⟨rfl, hT, by omega, h2⟩
  · exact .inr ⟨.inr (.inr rfl), rfl⟩

section
variable {m c nb cb : Nat} {A B : Option Addr} {zs : List Int} {bs : List Nat} {l n k : Int} {S : List Int}
theorem dec_any (hO : OutD l zs bs n k S) (w : World) (hm : zs.length = m) (hr : Reads w w.heap.size 1 A m (zs.map (Value.int .i64))) (hok : ∀ z ∈ zs, (Lit.int .i64 z).wf = true) (hc : m ≤ c) (hc' : c ≤ maxLen)
    (hrb : Reads w w.heap.size 1 B nb (u8s bs)) (h8 : ∀ x ∈ bs, x < 256) (hnb : nb = bs.length) (hmb : nb ≤ 1000000) :
    Calls Try.prog 13 #[.agg #[.int .i64 l, .slice A m c], .slice B nb cb, .int .i64 n] w fun e w' => ∃ v, e = .returned (.tuple #[v, .int .i64 k]) ∧ w'.ownsRow w.heap.size 3 1 v S.length (intsV S) ∧ Below w.heap.size w w' := by
  rcases hO with ⟨hT, rfl, rfl⟩ | ⟨hT, hn, rfl, rfl⟩ | ⟨hT, hn, h0, rfl, rfl⟩ | ⟨L, mm, T, rfl, rfl, hT, hn, h0, hb, hs⟩
  · exact (dec_table l n w hm hr hok hc hc' hT).mono fun e w' ⟨h1, h2⟩ => ⟨_, h1, World.ownsRow_nil _ _ _ _, h2⟩
  · obtain ⟨L, rfl⟩ := okT_nat hT
    exact (dec_arg L n w hm hr hok hc hc' hT hn).mono fun e w' ⟨h1, h2⟩ => ⟨_, h1, World.ownsRow_nil _ _ _ _, h2⟩
  · obtain ⟨L, rfl⟩ := okT_nat hT
    exact (dec_open L n w hm hr hok hc hc' hT hn hrb hnb h0 hmb).mono fun e w' ⟨h1, h2⟩ => ⟨_, h1, World.ownsRow_nil _ _ _ _, h2⟩
  · refine (dec_run L mm w hm hr hok hc hc' hT hn hrb h8 hnb h0 hmb (hnb ▸ hb)).mono ?_
    rintro e w' ⟨v, k', S', rfl, h1, h2, h3⟩
    rcases hs with ⟨hs, rfl⟩ | ⟨hs, rfl, rfl⟩ <;> rcases h1 with ⟨h1, rfl⟩ | ⟨h1, rfl, rfl⟩ <;> rw [hs] at h1
    · injection h1 with h1
      subst h1
      exact ⟨v, rfl, h2, h3⟩
    · cases h1
    · cases h1
    · exact ⟨v, rfl, h2, h3⟩

theorem decR_any (hO : OutD l zs bs n k S) (w : World) (hm : zs.length = m) (hr : Reads w w.heap.size 1 A m (zs.map (Value.int .i64))) (hok : ∀ z ∈ zs, (Lit.int .i64 z).wf = true) (hc : m ≤ c) (hc' : c ≤ maxLen)
    (hrb : Reads w w.heap.size 1 B nb (u8s bs)) (h8 : ∀ x ∈ bs, x < 256) (hnb : nb = bs.length) (hmb : nb ≤ 1000000) :
    Calls Try.prog 14 #[.agg #[.int .i64 l, .slice A m c], .slice B nb cb, .int .i64 n] w fun e w' => ∃ v, e = .returned (.tuple #[v, .int .i64 k]) ∧ w'.ownsRow w.heap.size 3 1 v S.length (intsV S) ∧ Below w.heap.size w w' := by
  rcases hO with ⟨hT, rfl, rfl⟩ | ⟨hT, hn, rfl, rfl⟩ | ⟨hT, hn, h0, rfl, rfl⟩ | ⟨L, mm, T, rfl, rfl, hT, hn, h0, hb, hs⟩
  · exact (decR_table l n w hm hr hok hc hc' hT).mono fun e w' ⟨h1, h2⟩ => ⟨_, h1, World.ownsRow_nil _ _ _ _, h2⟩
  · obtain ⟨L, rfl⟩ := okT_nat hT
    exact (decR_arg L n w hm hr hok hc hc' hT hn).mono fun e w' ⟨h1, h2⟩ => ⟨_, h1, World.ownsRow_nil _ _ _ _, h2⟩
  · obtain ⟨L, rfl⟩ := okT_nat hT
    exact (decR_open L n w hm hr hok hc hc' hT hn hrb h8 hnb h0 hmb).mono fun e w' ⟨h1, h2⟩ => ⟨_, h1, World.ownsRow_nil _ _ _ _, h2⟩
  · refine (decR_run L mm w hm hr hok hc hc' hT hn hrb h8 hnb h0 hmb (hnb ▸ hb)).mono ?_
    rintro e w' ⟨v, k', S', rfl, h1, h2, h3⟩
    rcases hs with ⟨hs, rfl⟩ | ⟨hs, rfl, rfl⟩ <;> rcases h1 with ⟨h1, rfl⟩ | ⟨h1, rfl, rfl⟩ <;> rw [hs] at h1
    · injection h1 with h1
      subst h1
      exact ⟨v, rfl, h2, h3⟩
    · cases h1
    · cases h1
    · exact ⟨v, rfl, h2, h3⟩
end

set_option maxHeartbeats 4000000 in
theorem isame_any {B1 B2 : Nat} (A1 A2 : Option Addr) (n1 c1 n2 c2 : Nat) (xs ys : List Int) (w : World) (h1 : Reads w B1 1 A1 n1 (intsV xs)) (h2 : Reads w B2 1 A2 n2 (intsV ys)) (l1 : n1 = xs.length) (l2 : n2 = ys.length) (lm : n1 ≤ 1000000000) :
    Calls Try.prog 15 #[.slice A1 n1 c1, .slice A2 n2 c2] w fun e w' => e = .returned (.bool (decide (xs = ys))) ∧ ∃ k, w' = w.drewN k := by
  have L1 := hide l1
  have L2 := hide l2
  have R1 := hide h1
  have R2 := hide h2
  clear l1 l2 h1 h2
  by_cases hne : n1 = n2
  · subst hne
    have hz : ((n1 : Int) != (n1 : Int)) = false := by simp
    go_enter Try.func15, Try.ntmps15
    go_wp2
    go_loopw [5] (fun i wr => ∃ k : Nat, k ≤ n1 ∧ i = .int .i64 k ∧ xs.take k = ys.take k ∧ ∃ j, wr = w.drewN j) (fun i _ => n1 - (intOf i).toNat)
    case atStart => exact ⟨0, Nat.zero_le _, rfl, by simp, 0, rfl⟩
    case round =>
      obtain ⟨k, hk, rfl, hpre, j, rfl⟩ := hrel
      have HP := hide hpre
      clear hpre
      by_cases hlt : k < n1
      · obtain ⟨b1, o1, x, rfl, hb1, k1, hx⟩ := int_cells R1.out hlt
        obtain ⟨b2, o2, y, rfl, hb2, k2, hy⟩ := int_cells R2.out hlt
        have HX := hide hx
        have HY := hide hy
        clear hx hy
        have hkn : (k : Int) < (n1 : Int) := by omega
        by_cases hxy : x = y
        · have HXY := hide hxy
          have hneq : (x != y) = false := by simp [hxy]
          clear hxy
          go_wp2
          go_quiet (fail)
          go_wp2
          go_roundw
          case rel => exact ⟨k + 1, by omega, by go_num, by rw [take_snoc_some HX.out, take_snoc_some HY.out, HP.out, HXY.out], _, rfl⟩
          case measure => simp [intOf]; omega
        · have hf : decide (xs = ys) = false := by
            simp only [decide_eq_false_iff_not]
            intro h
            have h1 := HX.out
            rw [h, HY.out] at h1
            injection h1 with h1
            exact hxy h1.symm
          have HF := hide hf
          have hneq : (x != y) = true := by simp [hxy]
          clear hf hxy
          go_wp2
          go_quiet (fail)
          go_wp2
          go_ret
          exact ⟨ret_bool HF.out.symm, _, World.drewN_drewN _ _ _⟩
      · obtain rfl : n1 = k := by omega
        go_wp2
        go_ret
        refine ⟨ret_bool ?_, _, rfl⟩
        have h := HP.out
        rw [List.take_of_length_le (by have := L1.out; omega), List.take_of_length_le (by have := L2.out; omega)] at h
        simp [h]
  · have hz : ((n1 : Int) != (n2 : Int)) = true := by simp; omega
    have hf : decide (xs = ys) = false := by
      simp only [decide_eq_false_iff_not]
      rintro rfl
      exact hne (by rw [L1.out, L2.out])
    have HF := hide hf
    clear hf
    go_enter Try.func15, Try.ntmps15
    go_wp2
    go_ret
    exact ⟨ret_bool HF.out.symm, 0, rfl⟩

set_option maxHeartbeats 4000000 in
theorem small_any (w : World) : Calls Try.prog 23 #[] w fun e w' =>
    ∃ A, e = .returned (.agg #[.int .i64 2, .slice A 2 2]) ∧ Reads w' w'.heap.size 1 A 2 ([3, 1].map (Value.int .i64)) ∧ Below w.heap.size w w' := by
  go_enter Try.func23, Try.ntmps23
  go_wp2
  have h := heap_alloc_new (w.alloc (.cells #[.int .i64 2, .slice (some ⟨w.heap.size + 1, 0, none⟩) 2 2] 24 (0, 0))) (.cells #[.int .i64 3, .int .i64 1] 3 (0, 0))
  simp only [World.size_alloc] at h
  have h0 := alloc_far (heap_alloc_new w (.cells #[.int .i64 2, .slice (some ⟨w.heap.size + 1, 0, none⟩) 2 2] 24 (0, 0))) (.cells #[.int .i64 3, .int .i64 1] 3 (0, 0))
  have c0 := cell_blk h0 0
  have c1 := cell_blk h0 1
  refine bodyPost_ret (v := .agg #[.int .i64 2, .slice (some ⟨w.heap.size + 1, 0, none⟩) 2 2]) ?_ rfl ⟨_, rfl, reads_blk h rfl, ((Below.refl w.heap.size w).alloc (Nat.le_refl _) _).alloc (by simp) _⟩
  simp only [results, Try.results23, go_sem]
  simp [c0, c1, go_sem]
end Go.Proofs.Ytemiaagaggjbiaa
