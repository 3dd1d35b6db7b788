/- portmanteaulaw10.StatesAhead walked. -/
import Derived.Test.YtpedhioicfjpkaaStH
namespace Go.Proofs.Ytpedhioicfjpkaa
open Go.RowKit Go Go.Shelf
set_option linter.unusedVariables false
attribute [local go_sem high] eql_step eql_cell

theorem count_step {pl : List Int} {v : Int} {a b : Nat} (ha : pl[a]? = some v) (hab : a < b) : (pl.take a).count v < (pl.take b).count v := by
  have e : (pl.take (a + 1)).count v = (pl.take a).count v + 1 := by rw [List.take_add_one, ha, Option.toList_some, List.count_append, List.count_singleton_self]
  have := count_take_mono pl v (show a + 1 ≤ b from hab)
  omega

set_option maxHeartbeats 1000000 in
theorem ahead_out {W : World} {S c : Nat} {A : Option Addr} {st sym : Int} (hs : st < 0 ∨ (¬ st < 0 ∧ (S : Int) ≤ st)) :
    Calls Try.prog 16 #[.slice A S c, .int .i64 st, .int .i64 sym] W fun e w' => e = .returned (.tuple #[.agg #[.int .i64 0, .int .u64 0, .int .i64 0], .int .i64 21]) ∧ Below W.heap.size W w' := by
  obtain ⟨W0, hW0⟩ : ∃ W0, W0 = W.alloc (.cells #[.int .i64 0, .int .u64 0, .int .i64 0] 33 (0, 0)) := ⟨_, rfl⟩
  have g0 : W0.heap[W.heap.size]? = some (.cells #[.int .i64 0, .int .u64 0, .int .i64 0] 33 (0, 0)) := by rw [hW0]; exact heap_alloc_new W _
  have b0 : Below W.heap.size W W0 := by rw [hW0]; exact (Below.refl W.heap.size W).alloc (Nat.le_refl _) _
  have s1' := set_blk g0 0 (.int .i64 0)
  have s2' := set_blk s1' 1 (.int .u64 0)
  have s3' := set_blk s2' 2 (.int .i64 0)
  have u0 := cell_blk g0 0
  have u1 := cell_blk g0 1
  have u2 := cell_blk g0 2
  have p0 := frozen_blk g0 0
  have p1 := frozen_blk g0 1
  have p2 := frozen_blk g0 2
  have u1' := cell_blk s1' 1
  have u2' := cell_blk s2' 2
  have p1' := frozen_blk s1' 1
  have p2' := frozen_blk s2' 2
  have z0 := cell_blk s3' 0
  have z1 := cell_blk s3' 1
  have z2 := cell_blk s3' 2
  have hb := ((b0.setCell (p := ⟨W.heap.size, 0, none⟩) (Nat.le_refl _) (.int .i64 0)).setCell (p := ⟨W.heap.size, 1, none⟩) (Nat.le_refl _) (.int .u64 0)).setCell (p := ⟨W.heap.size, 2, none⟩) (Nat.le_refl _) (.int .i64 0)
  rw [hW0] at u0 u1 u2 p0 p1 p2 u1' u2' p1' p2' z0 z1 z2 hb
  have HB := hide hb
  clear g0 b0 s1' s2' s3' hb hW0
  rcases hs with hs | ⟨hs, hs'⟩
  all_goals
    go_enter Try.func16, Try.ntmps16
    go_wp2
    refine bodyPost_ret (v := .tuple #[.agg #[.int .i64 0, .int .u64 0, .int .i64 0], .int .i64 21]) ?_ rfl ⟨rfl, by first | exact HB.out | exact (Below.refl _ _).alloc (Nat.le_refl _) _⟩
    simp only [results, Try.results16, go_sem]
    simp [go_sem]

theorem build_bounds {L : Nat} {zs : List Int} (hT : okT (L : Int) zs) : ∀ t ∈ buildL L zs, (∃ N : Nat, t.2.1 = (N : Int) ∧ N ≤ 10) ∧ 0 ≤ t.2.2 ∧ t.2.2 ≤ 1024 := by
  intro t ht
  obtain ⟨k, hk, rfl⟩ := List.getElem_of_mem ht
  have hk' : k < 2 ^ L := by simpa [buildL] using hk
  obtain ⟨v, x, n, z, hv, hz, hz1, hzn, hn, hpl, hcell, hx, hx2, hx3, _⟩ := cell_fact hT hk'
  have hL : L ≤ 9 := by have := hT.1; omega
  obtain ⟨hp0, hp1⟩ := pow_len hL
  obtain ⟨a1, a2, a3, a4⟩ := bitsX_fact (L := L) (x := x) hL (by omega) hx3
  rw [List.getElem?_eq_getElem hk] at hcell
  injection hcell with hcell
  rw [hcell]
  rw [Nat.add_mul, Nat.one_mul, Nat.pow_succ] at a4
  have hxi : (x : Int) * 2 ^ bitsX L x = ((x * 2 ^ bitsX L x : Nat) : Int) := by simp
  have hle : x * 2 ^ bitsX L x ≤ 2 ^ L * 2 := Nat.le_trans (Nat.le_add_right _ _) a4
  exact ⟨⟨_, rfl, by omega⟩, by show 0 ≤ (x : Int) * 2 ^ bitsX L x - ((2 ^ L : Nat) : Int); rw [hxi]; omega, by show (x : Int) * 2 ^ bitsX L x - ((2 ^ L : Nat) : Int) ≤ 1024; rw [hxi]; omega⟩

/-- No cell bears a symbol that has no states. -/
theorem no_cell {L m : Nat} {zs : List Int} (hT : okT (L : Int) zs) (hm : zs.length = m) {sym : Int} (h : sym < 0 ∨ (0 ≤ sym ∧ (m : Int) ≤ sym) ∨ (∃ v : Nat, sym = (v : Int) ∧ v < m ∧ zs[v]? = some 0)) : ∀ (j : Nat) (u : CellT), (buildL L zs)[j]? = some u → u.1 ≠ sym := by
  intro j u hu he
  have hj : j < 2 ^ L := by
    rcases Nat.lt_or_ge j (buildL L zs).length with h1 | h1
    · simpa [buildL] using h1
    · rw [List.getElem?_eq_none h1] at hu; cases hu
  obtain ⟨v', x, n', z', hv', hz', hz1, hzn', hn', hpl, hbl, _⟩ := cell_fact hT hj
  rw [hbl] at hu
  injection hu with hu
  subst hu
  simp only at he
  rcases h with h | ⟨_, h⟩ | ⟨v, rfl, _, hz⟩
  · omega
  · omega
  · obtain rfl : v' = v := by omega
    rw [hz] at hz'
    injection hz' with hz'
    subst hz'
    have : absZ 0 = 0 := by decide
    omega
theorem bad_pos {L m : Nat} {zs : List Int} (hT : okT (L : Int) zs) (hm : zs.length = m) {sym : Int} (h : sym < 0 ∨ (0 ≤ sym ∧ (m : Int) ≤ sym) ∨ (∃ v : Nat, sym = (v : Int) ∧ v < m ∧ zs[v]? = some 0)) :
    sym < 0 ∨ (¬ sym < 0 ∧ (zs.length : Int) ≤ sym) ∨ (∃ v : Nat, sym = (v : Int) ∧ v < zs.length ∧ (posZ (spreadL (2 ^ L) zs) (v : Int) (2 ^ L)).length = 0) := by
  rcases h with h | ⟨h, h'⟩ | ⟨v, rfl, hv, hz⟩
  · exact .inl h
  · exact .inr (.inl ⟨by omega, by omega⟩)
  · refine .inr (.inr ⟨v, rfl, by omega, ?_⟩)
    have hc := spreadL_count hT v (by omega)
    rw [normAt_of hz, show absZ 0 = 0 by decide] at hc
    rw [posZ_length, posN_count _ _ _ (by rw [spreadL_length]; exact Nat.le_refl _), List.take_of_length_le (by rw [spreadL_length]; exact Nat.le_refl _)]
    omega

/-- The predecessor and the search answer alike. -/
theorem same_pred {L m : Nat} {zs : List Int} (hT : okT (L : Int) zs) (hm : zs.length = m) (st sym : Int) : ∃ s1 s2 s3 E : Int,
    (∀ (W : World) (g : Nat), CoR W g L zs → Calls Try.prog 15 #[.pointer (some ⟨g, 0, none⟩), .int .i64 st, .int .i64 sym] W fun e w' => e = .returned (.tuple #[.agg #[.int .i64 s1, .int .u64 s2, .int .i64 s3], .int .i64 E]) ∧ Below W.heap.size W w') ∧
    (∀ (W : World) (B : Nat) (A : Option Addr) (c : Nat), Reads W B 3 A (2 ^ L) (cellsV (buildL L zs)) → B ≤ W.heap.size → Calls Try.prog 16 #[.slice A (2 ^ L) c, .int .i64 st, .int .i64 sym] W fun e w' => e = .returned (.tuple #[.agg #[.int .i64 s1, .int .u64 s2, .int .i64 s3], .int .i64 E]) ∧ Below W.heap.size W w') := by
  have hL : L ≤ 9 := by have := hT.1; omega
  obtain ⟨hp0, hp1⟩ := pow_len hL
  have hbl : (2 ^ L : Nat) = (buildL L zs).length := by simp [buildL]
  by_cases hin : 0 ≤ st ∧ st < ((2 ^ L : Nat) : Int)
  · obtain ⟨s, rfl⟩ := Int.eq_ofNat_of_zero_le hin.1
    have hs : s < 2 ^ L := by omega
    rcases has_cases sym hm with hb | ⟨v, z, rfl, hv, hz, hz0⟩
    · have hno := no_cell hT hm hb
      refine ⟨0, 0, 0, 2, fun W g h => pred_bad h (.inr ⟨⟨s, rfl, hs⟩, rfl, bad_pos hT hm hb⟩), fun W B A c hr hB => ?_⟩
      exact ahead_in hr hB hbl (by omega) hs (build_bounds hT) (K := 2 ^ L) (Nat.le_refl _) (fun j u _ hu hl => hno j u hu hl.1) (fun u hu => by rw [hbl, List.getElem?_eq_none (Nat.le_refl _)] at hu; cases hu) (.inl ⟨rfl, rfl, rfl, rfl, rfl⟩)
    · obtain ⟨n, hzn⟩ : ∃ n : Nat, absZ z = (n : Int) := ⟨(absZ z).toNat, by have := absZ_nonneg z; omega⟩
      have hn : 0 < n := by unfold absZ at hzn; omega
      obtain ⟨k, hk, hX1, hX2, hlen, hat, hNL, hcell⟩ := pred_cell hT hz hzn hn hs
      have hdm := Nat.div_add_mod (s + 2 ^ L) (2 ^ predN 64 (s + 2 ^ L) n)
      have hml := Nat.mod_lt (s + 2 ^ L) (show 2 ^ predN 64 (s + 2 ^ L) n > 0 from Nat.pow_pos (by omega))
      have hpx : predX L n s = (s + 2 ^ L) / 2 ^ predN 64 (s + 2 ^ L) n := rfl
      rw [← hpx, Nat.mul_comm] at hdm
      refine ⟨(k : Int), (((s + 2 ^ L) % 2 ^ predN 64 (s + 2 ^ L) n : Nat) : Int), ((predN 64 (s + 2 ^ L) n : Nat) : Int), 0, fun W g h => ?_, fun W B A c hr hB => ?_⟩
      · exact (pred_ok h hT hz hzn hn hs).mono fun e w' ⟨⟨k', h1, h2⟩, h3⟩ => ⟨by rw [hat] at h1; injection h1 with h1; rw [h2, h1], h3⟩
      · refine ahead_in hr hB hbl (by omega) hs (build_bounds hT) (K := k) (Nat.le_of_lt hk) ?_ ?_ (.inr ⟨_, hcell, rfl, ?_, rfl, rfl⟩)
        · intro j u hj hu hl
          have hj2 : j < 2 ^ L := by omega
          obtain ⟨v', x, n', z', hv', hz', hz1, hzn', hn', hpl, hbl', hx, hx2, hx3, _⟩ := cell_fact hT hj2
          rw [hbl'] at hu
          injection hu with hu
          subst hu
          obtain ⟨l1, l2, l3⟩ := hl
          simp only at l1 l2 l3
          obtain rfl : v' = v := by omega
          rw [hz] at hz'
          injection hz' with hz'
          subst hz'
          obtain rfl : n' = n := by omega
          have hxi : (x : Int) * 2 ^ bitsX L x = ((x * 2 ^ bitsX L x : Nat) : Int) := by simp
          rw [hxi] at l2 l3
          simp only [Int.toNat_natCast] at l3
          rw [show (2 : Int) ^ bitsX L x = ((2 ^ bitsX L x : Nat) : Int) by simp] at l3
          obtain ⟨_, _, a3, _⟩ := bitsX_fact (L := L) (x := x) hL (by omega) hx3
          obtain ⟨_, o2, _⟩ := onto_pred (L := L) (n := n') (x := x) (r := s + 2 ^ L - x * 2 ^ bitsX L x) (t := s) hL hn' (by omega) hx2 hx3 (by omega) (by omega)
          have hself := posN_self (spreadL_length (2 ^ L) zs) hj2 hpl
          rw [o2, show x - n' = ((spreadL (2 ^ L) zs).take j).count (v' : Int) by omega, hself] at hat
          injection hat with hat
          omega
        · intro u hu
          rw [hcell] at hu
          injection hu with hu
          subst hu
          refine ⟨rfl, ?_, ?_⟩
          · show ((predX L n s * 2 ^ predN 64 (s + 2 ^ L) n : Nat) : Int) - ((2 ^ L : Nat) : Int) ≤ (s : Int)
            omega
          · show (s : Int) - (((predX L n s * 2 ^ predN 64 (s + 2 ^ L) n : Nat) : Int) - ((2 ^ L : Nat) : Int)) < 2 ^ (((predN 64 (s + 2 ^ L) n : Nat) : Int)).toNat
            rw [Int.toNat_natCast, show (2 : Int) ^ predN 64 (s + 2 ^ L) n = ((2 ^ predN 64 (s + 2 ^ L) n : Nat) : Int) by simp]
            omega
        · show (((s + 2 ^ L) % 2 ^ predN 64 (s + 2 ^ L) n : Nat) : Int) = (s : Int) - (((predX L n s * 2 ^ predN 64 (s + 2 ^ L) n : Nat) : Int) - ((2 ^ L : Nat) : Int))
          omega
  · have hout : st < 0 ∨ (¬ st < 0 ∧ ((2 ^ L : Nat) : Int) ≤ st) := by omega
    exact ⟨0, 0, 0, 21, fun W g h => pred_bad h (.inl ⟨hout, rfl⟩), fun W B A c _ _ => ahead_out hout⟩

/-- The lowest state and the first index answer alike. -/
theorem same_first {L m : Nat} {zs : List Int} (hT : okT (L : Int) zs) (hm : zs.length = m) (sym : Int) : ∃ f E : Int,
    (∀ (W : World) (g : Nat), CoR W g L zs → Calls Try.prog 17 #[.pointer (some ⟨g, 0, none⟩), .int .i64 sym] W fun e w' => e = .returned (.tuple #[.int .i64 f, .int .i64 E]) ∧ w' = W) ∧
    (∀ (W : World) (B : Nat) (A : Option Addr) (c : Nat), Reads W B 3 A (2 ^ L) (cellsV (buildL L zs)) → Calls Try.prog 18 #[.slice A (2 ^ L) c, .int .i64 sym] W fun e w' => e = .returned (.tuple #[.int .i64 f, .int .i64 E]) ∧ w' = W) := by
  have hL : L ≤ 9 := by have := hT.1; omega
  obtain ⟨hp0, hp1⟩ := pow_len hL
  have hbl : (2 ^ L : Nat) = (buildL L zs).length := by simp [buildL]
  rcases has_cases sym hm with hb | ⟨v, z, rfl, hv, hz, hz0⟩
  · exact ⟨0, 2, fun W g h => lowest_bad h (bad_pos hT hm hb), fun W B A c hr => first_none hr hbl (by omega) (no_cell hT hm hb)⟩
  · have hc := spreadL_count hT v (by omega)
    rw [normAt_of hz] at hc
    have hcp : 0 < (spreadL (2 ^ L) zs).count (v : Int) := by unfold absZ at hc; omega
    obtain ⟨k, e1, e2, e3, e4⟩ := posN_at (spreadL (2 ^ L) zs) (v : Int) (2 ^ L) 0 (by rw [spreadL_length]; exact Nat.le_refl _) (by rw [posN_count _ _ _ (by rw [spreadL_length]; exact Nat.le_refl _), List.take_of_length_le (by rw [spreadL_length]; exact Nat.le_refl _)]; exact hcp)
    refine ⟨(k : Int), 0, fun W g h => lowest_ok h (by omega) e1, fun W B A c hr => ?_⟩
    obtain ⟨v', x, n', z', hv', hz', hz1, hzn', hn', hpl, hbl', _⟩ := cell_fact hT e2
    refine first_found hr hbl (by omega) e2 hbl' ?_ ?_
    · rw [e3] at hpl
      injection hpl with hpl
      exact hpl.symm
    · intro j u hj hu he
      obtain ⟨v2, x2, n2, z2, _, _, _, _, _, hpl2, hbl2, _⟩ := cell_fact hT (show j < 2 ^ L by omega)
      rw [hbl2] at hu
      injection hu with hu
      subst hu
      simp only at he
      rw [he] at hpl2
      have := count_step hpl2 hj
      omega

set_option maxRecDepth 4000 in
set_option maxHeartbeats 8000000 in
theorem walk_StatesAhead {w : World} (l : Int) (A : Option Addr) (m c : Nat) (zs : List Int) (wl : (Lit.int .i64 l).wf = true) (hm : zs.length = m) (hr : Reads w w.heap.size 1 A m (zs.map (Value.int .i64))) (hok : ∀ z ∈ zs, (Lit.int .i64 z).wf = true) (hc' : c ≤ maxLen) (hc : m ≤ c) (st : Int) (wst : (Lit.int .i64 st).wf = true) (sym : Int) (ws : (Lit.int .i64 sym).wf = true) :
    Calls Try.prog 3 #[.agg #[.int .i64 l, .slice A m c], .int .i64 st, .int .i64 sym] w fun e w' => e = .returned (.bool true) ∧ Below w.heap.size w w' := by
  have HKN := hide known_any
  obtain ⟨W0, hW0⟩ : ∃ W0, W0 = w.alloc (.cells #[.int .i64 l, .slice A m c] 24 (0, 0)) := ⟨_, rfl⟩
  have g0 : W0.heap[w.heap.size]? = some (.cells #[.int .i64 l, .slice A m c] 24 (0, 0)) := by rw [hW0]; exact heap_alloc_new w _
  have b0 : Below w.heap.size w W0 := by rw [hW0]; exact (Below.refl w.heap.size w).alloc (Nat.le_refl _) _
  have hs0 : w.heap.size < W0.heap.size := lt_of_heap g0
  have k00 := cell_blk g0 0
  have k01 := cell_blk g0 1
  have HB0 := hide b0
  have HW0 := hide hW0
  have HR0 := hide ((hr.below b0).more b0.size)
  have HG0 := hide g0
  have HS0 := hide hs0
  have HM := hide hm
  clear b0 hW0 hr g0 hs0
  by_cases hbig : 300 < m
  · have hb' : (300 : Int) < (m : Int) := by omega
    go_enter Try.func3, Try.ntmps3
    go_wp2_with fail
    try rw [← HW0.out]
    go_wp2_with fail
    refine (HKN.out _).mono ?_
    rintro e W9 ⟨rfl, b9⟩
    have HB9 := hide (HB0.out.trans (b9.mono HB0.out.size))
    clear b9
    go_wp2
    go_ret
    exact ⟨rfl, HB9.out⟩
  have hb' : ¬ (300 : Int) < (m : Int) := by omega
  have HMAY := hide (may_any 9 l A m c zs W0 (.inl rfl) hm HR0.out hok hc hc')
  by_cases hT : ¬ okT l zs
  · have HT := hide hT
    clear hT
    go_enter Try.func3, Try.ntmps3
    go_wp2_with fail
    try rw [← HW0.out]
    go_wp2_with fail
    refine HMAY.out.mono ?_
    rintro e W1 ⟨he, b1⟩
    obtain rfl : e = .returned (.int .i64 13) := he.elim (fun h => absurd h.1 HT.out) (fun h => h.2)
    have HB1 := hide (HB0.out.trans (b1.mono HB0.out.size))
    clear b1 he
    go_wp2_with fail
    refine (HKN.out _).mono ?_
    rintro e W9 ⟨rfl, b9⟩
    have HB9 := hide (HB1.out.trans (b9.mono HB1.out.size))
    clear b9
    go_wp2
    go_ret
    exact ⟨rfl, HB9.out⟩
  replace hT := Classical.not_not.1 hT
  obtain ⟨L, rfl⟩ := Int.eq_ofNat_of_zero_le hT.1.1
  have hL : L ≤ 9 := by have := hT.1; omega
  obtain ⟨hp0, hp1⟩ := pow_len hL
  have HSIZE := hide (fun W => size_any L W (by omega))
  have HCE := hide (fun W hr => cells10_any L A m c zs W hm hr hok hc hc' hT)
  obtain ⟨s1, s2, s3, E1, hsp1, hsp2⟩ := same_pred hT hm st sym
  obtain ⟨f1, E2, hsf1, hsf2⟩ := same_first hT hm sym
  have HP1 := hide hsp1
  have HP2 := hide hsp2
  have HF1 := hide hsf1
  have HF2 := hide hsf2
  clear hsp1 hsp2 hsf1 hsf2
  have HBG := hide (fun W hr => begin_ok L A m c zs W hm hr hok hc hc' hT)
  have HT := hide hT
  obtain ⟨S, hS⟩ : ∃ S, S = 2 ^ L := ⟨_, rfl⟩
  rw [← hS] at HSIZE hp0 hp1 HCE HP2 HF2
  have HSQ := hide hS
  clear hS hT hm hok
  have hee := eqS_self (s1, s2, s3)
  have q1 : (E1 == E1) = true := by simp
  have q2 : (f1 == f1) = true := by simp
  have q3 : (E2 == E2) = true := by simp
  go_enter Try.func3, Try.ntmps3
  go_wp2_with fail
  try rw [← HW0.out]
  go_wp2_with fail
  refine HMAY.out.mono ?_
  rintro e W1 ⟨he, b1⟩
  obtain rfl : e = .returned (.int .i64 0) := he.elim (fun h => h.2) (fun h => absurd HT.out h.1)
  have g1 := (b1.block _ HS0.out).trans HG0.out
  have k10 := cell_blk g1 0
  have k11 := cell_blk g1 1
  have HG1 := hide g1
  have HB1 := hide (HB0.out.trans (b1.mono HB0.out.size))
  have HR1 := hide ((HR0.out.below b1).more b1.size)
  have HS1 := hide (Nat.lt_of_lt_of_le HS0.out b1.size)
  clear b1 g1
  go_wp2_with fail
  refine (HBG.out _ HR1.out).mono ?_
  rintro e W3 ⟨g, rfl, hco, _, b3⟩
  have g3 := (b3.block _ HS1.out).trans HG1.out
  have k30 := cell_blk g3 0
  have k31 := cell_blk g3 1
  have HB3 := hide (HB1.out.trans (b3.mono HB1.out.size))
  have HR3 := hide ((HR1.out.below b3).more b3.size)
  have HCO3 := hide hco
  clear b3 hco k10 k11 g3
  go_wp2_with fail
  refine (HCE.out _ HR3.out).mono ?_
  rintro e W4 ⟨v4, rfl, ho4, b4⟩
  obtain ⟨A4, c4, rfl⟩ := own_form ho4
  have HB4 := hide (HB3.out.trans (b4.mono HB3.out.size))
  have HCO4 := hide (HCO3.out.below b4)
  have HO4 := hide ho4
  clear ho4 b4 k30 k31
  go_wp2_with fail
  refine (HP1.out _ _ HCO4.out).mono ?_
  rintro e W5 ⟨rfl, b5⟩
  obtain ⟨W6, hW6⟩ : ∃ W6, W6 = W5.alloc (.cells #[.int .i64 s1, .int .u64 s2, .int .i64 s3] 33 (0, 0)) := ⟨_, rfl⟩
  have hg6 : W6.heap[W5.heap.size]? = some (.cells #[.int .i64 s1, .int .u64 s2, .int .i64 s3] 33 (0, 0)) := by rw [hW6]; exact heap_alloc_new W5 _
  have HB6 : Hid (Below w.heap.size w W6) := by rw [hW6]; exact (HB4.out.trans (b5.mono HB4.out.size)).alloc (Nat.le_trans HB4.out.size b5.size) _
  have HCO6 : Hid (CoR W6 g L zs) := by rw [hW6]; exact (HCO4.out.below b5).below ((Below.refl _ _).alloc (Nat.le_refl _) _)
  have HO6 : Hid (W6.ownsRow W3.heap.size 53 3 (.slice A4 S c4) S (cellsV (buildL L zs))) := by rw [hW6]; exact (own_below HO4.out b5).alloc _
  have HG6 := hide hg6
  have HW6 := hide hW6
  clear hg6 hW6 b5
  go_wp2_with fail
  try rw [← HW6.out]
  refine (HP2.out _ _ _ _ (Reads.of_own HO6.out) (Nat.le_refl _)).mono ?_
  rintro e W7 ⟨rfl, b7⟩
  obtain ⟨W8, hW8⟩ : ∃ W8, W8 = W7.alloc (.cells #[.int .i64 s1, .int .u64 s2, .int .i64 s3] 33 (0, 0)) := ⟨_, rfl⟩
  have hg8 : W8.heap[W7.heap.size]? = some (.cells #[.int .i64 s1, .int .u64 s2, .int .i64 s3] 33 (0, 0)) := by rw [hW8]; exact heap_alloc_new W7 _
  have hg86 : W8.heap[W5.heap.size]? = some (.cells #[.int .i64 s1, .int .u64 s2, .int .i64 s3] 33 (0, 0)) := by rw [hW8]; exact alloc_far ((b7.block _ (lt_of_heap HG6.out)).trans HG6.out) _
  have HB8 : Hid (Below w.heap.size w W8) := by rw [hW8]; exact (HB6.out.trans (b7.mono HB6.out.size)).alloc (Nat.le_trans HB6.out.size b7.size) _
  have HCO8 : Hid (CoR W8 g L zs) := by rw [hW8]; exact (HCO6.out.below b7).below ((Below.refl _ _).alloc (Nat.le_refl _) _)
  have HO8 : Hid (W8.ownsRow W3.heap.size 53 3 (.slice A4 S c4) S (cellsV (buildL L zs))) := by rw [hW8]; exact (own_below HO6.out b7).alloc _
  have a0 := cell_blk hg8 0
  have a1 := cell_blk hg8 1
  have a2 := cell_blk hg8 2
  have c0 := cell_blk hg86 0
  have c1 := cell_blk hg86 1
  have c2 := cell_blk hg86 2
  have HW8 := hide hW8
  clear hg8 hg86 hW8 b7
  go_wp2_with fail
  try rw [← HW8.out]
  refine (HF1.out _ _ HCO8.out).mono ?_
  rintro e W9 ⟨rfl, rfl⟩
  go_wp2_with fail
  refine (HF2.out _ _ _ _ (Reads.of_own HO8.out)).mono ?_
  rintro e W10 ⟨rfl, rfl⟩
  go_wp2_with fail
  refine (HKN.out _).mono ?_
  rintro e W12 ⟨rfl, b12⟩
  have HB12 := hide (HB8.out.trans (b12.mono HB8.out.size))
  clear b12
  go_wp2
  go_ret
  exact ⟨rfl, HB12.out⟩
end Go.Proofs.Ytpedhioicfjpkaa
