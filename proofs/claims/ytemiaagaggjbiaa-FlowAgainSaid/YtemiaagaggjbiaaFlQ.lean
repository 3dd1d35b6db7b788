/- portmanteaulaw12.FlowAgain walked. -/
import Derived.Test.YtemiaagaggjbiaaFlN
namespace Go.Proofs.Ytemiaagaggjbiaa
open Go.RowKit Go Go.Shelf
set_option linter.unusedVariables false
set_option maxRecDepth 8000

theorem outD_fun {l : Int} {zs : List Int} {bs : List Nat} {n k k' : Int} {S S' : List Int} (h : OutD l zs bs n k S) (h' : OutD l zs bs n k' S') : k = k' ∧ S = S' := by
  rcases h with ⟨a1, rfl, rfl⟩ | ⟨a1, a2, rfl, rfl⟩ | ⟨a1, a2, a3, rfl, rfl⟩ | ⟨L, m, T, rfl, rfl, a1, a2, a3, a4, a5⟩ <;>
    rcases h' with ⟨b1, rfl, rfl⟩ | ⟨b1, b2, rfl, rfl⟩ | ⟨b1, b2, b3, rfl, rfl⟩ | ⟨L', m', T', e1, e2, b1, b2, b3, b4, b5⟩
  all_goals first
    | exact ⟨rfl, rfl⟩
    | exact absurd a1 b1
    | exact absurd b1 a1
    | exact absurd a3 b3
    | exact absurd b3 a3
    | (subst e1; exact absurd b1 a1)
    | (exfalso; omega)
    | skip
  · obtain rfl : L = L' := by omega
    obtain rfl : m = m' := by omega
    obtain rfl : T = T' := by omega
    rcases a5 with ⟨a5, rfl⟩ | ⟨a5, rfl, rfl⟩ <;> rcases b5 with ⟨b5, rfl⟩ | ⟨b5, rfl, rfl⟩ <;> rw [a5] at b5
    · injection b5 with b5
      exact ⟨rfl, b5⟩
    · cases b5
    · cases b5
    · exact ⟨rfl, rfl⟩

set_option maxHeartbeats 16000000 in
theorem walk_FlowAgain {w : World} (l : Int) (A : Option Addr) (m c : Nat) (zs : List Int) (wl : (Lit.int .i64 l).wf = true) (hm : zs.length = m) (hr : Reads w w.heap.size 1 A m (zs.map (Value.int .i64))) (hok : ∀ z ∈ zs, (Lit.int .i64 z).wf = true) (hc' : c ≤ maxLen) (hc : m ≤ c)
    (B : Option Addr) (nb cb : Nat) (ys : List Int) (hn : ys.length = nb) (hrb : Reads w w.heap.size 1 B nb (ys.map (Value.int .u8))) (hokb : ∀ z ∈ ys, (Lit.int .u8 z).wf = true) (hmb : cb ≤ maxLen) (hcb : nb ≤ cb) (n : Int) (wn : (Lit.int .i64 n).wf = true)
    (O : Option Addr) (no co : Nat) (os : List Int) (hno : os.length = no) (hro : Reads w w.heap.size 1 O no (os.map (Value.int .i64))) (hoko : ∀ z ∈ os, (Lit.int .i64 z).wf = true) (hmo : co ≤ maxLen) (hco : no ≤ co) :
    Calls Try.prog 9 #[.agg #[.int .i64 l, .slice A m c], .slice B nb cb, .int .i64 n, .slice O no co] w fun e w' => e = .returned (.bool true) ∧ Below w.heap.size w w' := by
  obtain ⟨hu1, hu2⟩ := u8s_of hokb
  rw [hu1] at hrb
  obtain ⟨bs0, hbs⟩ : ∃ bs, bs = ys.map Int.toNat := ⟨_, rfl⟩
  have hbl : nb = bs0.length := by rw [hbs]; simpa using hn.symm
  rw [← hbs] at hrb hu2
  have HKN := hide known_any
  obtain ⟨W0, hW0⟩ : ∃ W0, W0 = w.alloc (.cells #[.int .i64 l, .slice A m c] 24 (0, 0)) := ⟨_, rfl⟩
  have g1 : W0.heap[w.heap.size]? = some (.cells #[.int .i64 l, .slice A m c] 24 (0, 0)) := by rw [hW0]; exact heap_alloc_new w _
  have b0 : Below w.heap.size w W0 := by rw [hW0]; exact (Below.refl w.heap.size w).alloc (Nat.le_refl _) _
  have k0 := cell_blk g1 0
  have k1 := cell_blk g1 1
  have HG0 := hide g1
  have HB0 := hide b0
  have HW0 := hide hW0
  have HRT := hide (fun W (b : Below w.heap.size w W) => (hr.below b).more b.size)
  have HRB := hide (fun W (b : Below w.heap.size w W) => (hrb.below b).more b.size)
  have HRO := hide (fun W (b : Below w.heap.size w W) => ((hro.below b).more b.size : Reads W W.heap.size 1 O no (intsV os)))
  clear hu1 hbs hn hokb hmb hcb g1 b0 hW0 hr hrb hro hoko hmo hco
  by_cases hbig : (300 < (m : Int)) ∨ (¬ 300 < (m : Int) ∧ 400 < (nb : Int)) ∨ (¬ 300 < (m : Int) ∧ ¬ 400 < (nb : Int) ∧ 300 < n) ∨ (¬ 300 < (m : Int) ∧ ¬ 400 < (nb : Int) ∧ ¬ 300 < n ∧ 300 < (no : Int))
  · clear hu2 hbl hm hok hc hc' hno
    rcases hbig with h | ⟨h, h1⟩ | ⟨h, h1, h2⟩ | ⟨h, h1, h2, h3⟩
    all_goals
      go_enter Try.func9, Try.ntmps9
      go_wp2_with fail
      rw [← HW0.out]
      go_wp2_with fail
      refine (HKN.out _).mono ?_
      rintro e W9 ⟨rfl, b9⟩
      have HB9 := hide (HB0.out.trans (b9.mono HB0.out.size))
      clear b9
      go_wp2
      go_ret
      exact ⟨rfl, HB9.out⟩
  have h1 : ¬ 300 < (m : Int) := by omega
  have h2 : ¬ 400 < (nb : Int) := by omega
  have h3 : ¬ 300 < n := by omega
  have h4 : ¬ 300 < (no : Int) := by omega
  clear hbig
  obtain ⟨k, S, hO⟩ := outD_ex l zs bs0 n
  have HDEC := hide (fun W (b : Below w.heap.size w W) => dec_any (cb := cb) hO W hm (HRT.out W b) hok hc hc' (HRB.out W b) hu2 hbl (by omega))
  rcases outD_total hO with ⟨rfl, hT, hSn, hall⟩ | ⟨hk, rfl⟩
  rotate_left
  · clear hO hu2 hbl hm hok hc hc' hno
    rcases hk with rfl | rfl | rfl
    all_goals
      go_enter Try.func9, Try.ntmps9
      go_wp2_with fail
      rw [← HW0.out]
      go_wp2_with fail
      refine (HDEC.out _ HB0.out).mono ?_
      rintro e W1 ⟨v1, rfl, ho1, b1⟩
      obtain ⟨A1, c1, rfl⟩ := own_form ho1
      have HB1 := hide (HB0.out.trans (b1.mono HB0.out.size))
      clear b1 ho1
      go_wp2_with fail
      refine (HKN.out _).mono ?_
      rintro e W9 ⟨rfl, b9⟩
      have HB9 := hide (HB1.out.trans (b9.mono HB1.out.size))
      clear b9
      go_wp2
      go_ret
      exact ⟨rfl, HB9.out⟩
  have hns : S.length ≤ 131072 := by omega
  obtain ⟨L, rfl, hE⟩ := outE_all hT hns hall
  have hD := outD_back hT hns hall
  have hfl := flow_len hT hall
  have hnb := pack_small (finT L zs S + 1) (finN L zs S + 2 ^ finT L zs S)
  obtain ⟨bs, hbs⟩ : ∃ bs, bs = pack (finT L zs S + 1) (finN L zs S + 2 ^ finT L zs S) := ⟨_, rfl⟩
  rw [← hbs] at hE hD hfl hnb
  have hlb : bs.length ≤ 1000 := by omega
  have HENC := hide (fun W (A' : Option Addr) (cs : Nat) (b : Below w.heap.size w W) (r : Reads W W.heap.size 1 A' S.length (intsV S)) => enc_any (cs := cs) hE W hm (HRT.out W b) hok hc hc' rfl r)
  have HDEC2 := hide (fun W (b : Below w.heap.size w W) (B' : Option Addr) (cb : Nat) (r : Reads W W.heap.size 1 B' bs.length (u8s bs)) => dec_any (cb := cb) hD W hm (HRT.out W b) hok hc hc' r hnb rfl (by omega))
  have HHAS := hide (fun W (b : Below w.heap.size w W) => has_any (c2 := co) (c := c) (L : Int) hm (HRT.out W b) hno (HRO.out W b) (by omega))
  rw [hSn] at HDEC2
  have hOE := outE_ex (L : Int) zs os
  have HOE := hide (fun (k' : Int) (bs' : List Nat) (h : OutE (L : Int) zs os k' bs') W (b : Below w.heap.size w W) => enc_any (cs := co) h W hm (HRT.out W b) hok hc hc' hno (HRO.out W b))
  have HT := hide hT
  have HD := hide hD
  have HNB := hide hnb
  have HNO := hide hno
  have HSN := hide hSn
  by_cases hln : (no : Int) = n
  rotate_left
  · have hne : ((no : Int) != n) = true := by simp [hln]
    clear hm hok hc hc' hno hT hD hE hfl hnb hbs hSn hOE hO hall hu2 hbl
    go_enter Try.func9, Try.ntmps9
    go_wp2_with fail
    rw [← HW0.out]
    go_wp2_with fail
    refine (HDEC.out _ HB0.out).mono ?_
    rintro e W1 ⟨v1, rfl, ho1, b1⟩
    obtain ⟨A1, c1, rfl⟩ := own_form ho1
    have HL1 := hide (Reads.of_own ho1)
    have HB1 := hide (HB0.out.trans (b1.mono HB0.out.size))
    have HG1 := hide ((b1.block _ (lt_of_heap HG0.out)).trans HG0.out)
    have k10 := cell_blk HG1.out 0
    have k11 := cell_blk HG1.out 1
    clear b1 ho1
    go_wp2_with fail
    refine (HENC.out W1 A1 c1 HB1.out HL1.out).mono ?_
    rintro e W2 ⟨v2, rfl, ho2, b2⟩
    obtain ⟨A2, c2, rfl⟩ := own_form ho2
    have HL2 := hide ((HL1.out.below b2).more b2.size)
    have HC2 := hide (Reads.of_own ho2)
    have HB2 := hide (HB1.out.trans (b2.mono HB1.out.size))
    have HG2 := hide ((b2.block _ (lt_of_heap HG1.out)).trans HG1.out)
    have k20 := cell_blk HG2.out 0
    have k21 := cell_blk HG2.out 1
    clear b2 ho2 k10 k11
    go_wp2_with fail
    refine (HDEC2.out _ HB2.out A2 c2 HC2.out).mono ?_
    rintro e W3 ⟨v3, rfl, ho3, b3⟩
    obtain ⟨A3, c3, rfl⟩ := own_form ho3
    have HL3 := hide ((HL2.out.below b3).more b3.size)
    have HC3 := hide ((HC2.out.below b3).more b3.size)
    have HM3 := hide (Reads.of_own ho3)
    have HB3 := hide (HB2.out.trans (b3.mono HB2.out.size))
    have HG3 := hide ((b3.block _ (lt_of_heap HG2.out)).trans HG2.out)
    have k30 := cell_blk HG3.out 0
    have k31 := cell_blk HG3.out 1
    clear b3 ho3 k20 k21
    go_wp2_with fail
    refine (isame_any A1 A3 S.length c1 S.length c3 S S W3 HL3.out HM3.out rfl rfl (by omega)).mono ?_
    rintro e W4 ⟨he, j, rfl⟩
    obtain rfl : e = .returned (.bool true) := he.trans (ret_bool (by simp))
    have HB4 := hide (below_drewN HB3.out j)
    have HL4 := hide (HL3.out.drewN j)
    have HC4 := hide (HC3.out.drewN j)
    have HG4 := hide (show (W3.drewN j).heap[w.heap.size]? = _ from HG3.out)
    have k40 := cell_blk HG4.out 0
    have k41 := cell_blk HG4.out 1
    clear he k30 k31
    go_wp2_with fail
    refine (HKN.out _).mono ?_
    rintro e W9 ⟨rfl, b9⟩
    have HB9 := hide (HB4.out.trans (b9.mono HB4.out.size))
    clear b9
    go_wp2
    go_ret
    exact ⟨rfl, HB9.out⟩
  have hne : ((no : Int) != n) = false := by simp [hln]
  by_cases ha : ∀ s ∈ os, hasS zs s
  rotate_left
  · clear hm hok hc hc' hno hT hD hE hfl hnb hbs hSn hOE hO hall hu2 hbl hln
    go_enter Try.func9, Try.ntmps9
    go_wp2_with fail
    rw [← HW0.out]
    go_wp2_with fail
    refine (HDEC.out _ HB0.out).mono ?_
    rintro e W1 ⟨v1, rfl, ho1, b1⟩
    obtain ⟨A1, c1, rfl⟩ := own_form ho1
    have HL1 := hide (Reads.of_own ho1)
    have HB1 := hide (HB0.out.trans (b1.mono HB0.out.size))
    have HG1 := hide ((b1.block _ (lt_of_heap HG0.out)).trans HG0.out)
    have k10 := cell_blk HG1.out 0
    have k11 := cell_blk HG1.out 1
    clear b1 ho1
    go_wp2_with fail
    refine (HENC.out W1 A1 c1 HB1.out HL1.out).mono ?_
    rintro e W2 ⟨v2, rfl, ho2, b2⟩
    obtain ⟨A2, c2, rfl⟩ := own_form ho2
    have HL2 := hide ((HL1.out.below b2).more b2.size)
    have HC2 := hide (Reads.of_own ho2)
    have HB2 := hide (HB1.out.trans (b2.mono HB1.out.size))
    have HG2 := hide ((b2.block _ (lt_of_heap HG1.out)).trans HG1.out)
    have k20 := cell_blk HG2.out 0
    have k21 := cell_blk HG2.out 1
    clear b2 ho2 k10 k11
    go_wp2_with fail
    refine (HDEC2.out _ HB2.out A2 c2 HC2.out).mono ?_
    rintro e W3 ⟨v3, rfl, ho3, b3⟩
    obtain ⟨A3, c3, rfl⟩ := own_form ho3
    have HL3 := hide ((HL2.out.below b3).more b3.size)
    have HC3 := hide ((HC2.out.below b3).more b3.size)
    have HM3 := hide (Reads.of_own ho3)
    have HB3 := hide (HB2.out.trans (b3.mono HB2.out.size))
    have HG3 := hide ((b3.block _ (lt_of_heap HG2.out)).trans HG2.out)
    have k30 := cell_blk HG3.out 0
    have k31 := cell_blk HG3.out 1
    clear b3 ho3 k20 k21
    go_wp2_with fail
    refine (isame_any A1 A3 S.length c1 S.length c3 S S W3 HL3.out HM3.out rfl rfl (by omega)).mono ?_
    rintro e W4 ⟨he, j, rfl⟩
    obtain rfl : e = .returned (.bool true) := he.trans (ret_bool (by simp))
    have HB4 := hide (below_drewN HB3.out j)
    have HL4 := hide (HL3.out.drewN j)
    have HC4 := hide (HC3.out.drewN j)
    have HG4 := hide (show (W3.drewN j).heap[w.heap.size]? = _ from HG3.out)
    have k40 := cell_blk HG4.out 0
    have k41 := cell_blk HG4.out 1
    clear he k30 k31
    go_wp2_with fail
    refine (HHAS.out _ HB4.out).mono ?_
    rintro e W5 ⟨b', rfl, hb', b5⟩
    obtain rfl : b' = false := by
      cases b' with
      | false => rfl
      | true => exact absurd (hb'.1 rfl) ha
    have HB5 := hide (HB4.out.trans (b5.mono HB4.out.size))
    clear b5 hb' k40 k41
    go_wp2_with fail
    refine (HKN.out _).mono ?_
    rintro e W9 ⟨rfl, b9⟩
    have HB9 := hide (HB5.out.trans (b9.mono HB5.out.size))
    clear b9
    go_wp2
    go_ret
    exact ⟨rfl, HB9.out⟩
  have HA := hide ha
  have hSl : S.length = no := by omega
  by_cases heq : os = S
  · have HEQ := hide heq
    clear hm hok hc hc' hno hT hD hE hfl hnb hbs hSn hOE hO hall hu2 hbl hln heq hSl
    go_enter Try.func9, Try.ntmps9
    go_wp2_with fail
    rw [← HW0.out]
    go_wp2_with fail
    refine (HDEC.out _ HB0.out).mono ?_
    rintro e W1 ⟨v1, rfl, ho1, b1⟩
    obtain ⟨A1, c1, rfl⟩ := own_form ho1
    have HL1 := hide (Reads.of_own ho1)
    have HB1 := hide (HB0.out.trans (b1.mono HB0.out.size))
    have HG1 := hide ((b1.block _ (lt_of_heap HG0.out)).trans HG0.out)
    have k10 := cell_blk HG1.out 0
    have k11 := cell_blk HG1.out 1
    clear b1 ho1
    go_wp2_with fail
    refine (HENC.out W1 A1 c1 HB1.out HL1.out).mono ?_
    rintro e W2 ⟨v2, rfl, ho2, b2⟩
    obtain ⟨A2, c2, rfl⟩ := own_form ho2
    have HL2 := hide ((HL1.out.below b2).more b2.size)
    have HC2 := hide (Reads.of_own ho2)
    have HB2 := hide (HB1.out.trans (b2.mono HB1.out.size))
    have HG2 := hide ((b2.block _ (lt_of_heap HG1.out)).trans HG1.out)
    have k20 := cell_blk HG2.out 0
    have k21 := cell_blk HG2.out 1
    clear b2 ho2 k10 k11
    go_wp2_with fail
    refine (HDEC2.out _ HB2.out A2 c2 HC2.out).mono ?_
    rintro e W3 ⟨v3, rfl, ho3, b3⟩
    obtain ⟨A3, c3, rfl⟩ := own_form ho3
    have HL3 := hide ((HL2.out.below b3).more b3.size)
    have HC3 := hide ((HC2.out.below b3).more b3.size)
    have HM3 := hide (Reads.of_own ho3)
    have HB3 := hide (HB2.out.trans (b3.mono HB2.out.size))
    have HG3 := hide ((b3.block _ (lt_of_heap HG2.out)).trans HG2.out)
    have k30 := cell_blk HG3.out 0
    have k31 := cell_blk HG3.out 1
    clear b3 ho3 k20 k21
    go_wp2_with fail
    refine (isame_any A1 A3 S.length c1 S.length c3 S S W3 HL3.out HM3.out rfl rfl (by omega)).mono ?_
    rintro e W4 ⟨he, j, rfl⟩
    obtain rfl : e = .returned (.bool true) := he.trans (ret_bool (by simp))
    have HB4 := hide (below_drewN HB3.out j)
    have HL4 := hide (HL3.out.drewN j)
    have HC4 := hide (HC3.out.drewN j)
    have HG4 := hide (show (W3.drewN j).heap[w.heap.size]? = _ from HG3.out)
    have k40 := cell_blk HG4.out 0
    have k41 := cell_blk HG4.out 1
    clear he k30 k31
    go_wp2_with fail
    refine (HHAS.out _ HB4.out).mono ?_
    rintro e W5 ⟨b', rfl, hb', b5⟩
    obtain rfl : b' = true := hb'.2 HA.out
    have HL5 := hide ((HL4.out.below b5).more b5.size)
    have HC5 := hide ((HC4.out.below b5).more b5.size)
    have HB5 := hide (HB4.out.trans (b5.mono HB4.out.size))
    have HG5 := hide ((b5.block _ (lt_of_heap HG4.out)).trans HG4.out)
    have k50 := cell_blk HG5.out 0
    have k51 := cell_blk HG5.out 1
    clear b5 hb' k40 k41
    go_wp2_with fail
    refine (isame_any O A1 no co S.length c1 os S W5 (HRO.out _ HB5.out) HL5.out HNO.out.symm rfl (by omega)).mono ?_
    rintro e W6 ⟨he, j6, rfl⟩
    obtain rfl : e = .returned (.bool true) := he.trans (ret_bool (by simp [HEQ.out]))
    have HB6 := hide (below_drewN HB5.out j6)
    clear he k50 k51
    go_wp2_with fail
    refine (HKN.out _).mono ?_
    rintro e W9 ⟨rfl, b9⟩
    have HB9 := hide (HB6.out.trans (b9.mono HB6.out.size))
    clear b9
    go_wp2
    go_ret
    exact ⟨rfl, HB9.out⟩
  have hons : os.length ≤ 131072 := by omega
  obtain ⟨L2, hL2, hE2⟩ := outE_all hT hons ha
  obtain rfl : L = L2 := by omega
  have hD2 := outD_back hT hons ha
  have hfl2 := flow_len hT ha
  have hnb2 := pack_small (finT L zs os + 1) (finN L zs os + 2 ^ finT L zs os)
  obtain ⟨bs2, hbs2⟩ : ∃ bs, bs = pack (finT L zs os + 1) (finN L zs os + 2 ^ finT L zs os) := ⟨_, rfl⟩
  rw [← hbs2] at hE2 hD2 hfl2 hnb2
  have hneb : ¬ bs = bs2 := by
    rintro rfl
    rw [show os.length = S.length by omega] at hD2
    exact heq (outD_fun hD2 hD).2
  · have HNEB := hide hneb
    have HNEQ := hide heq
    have HNB2 := hide hnb2
    have HENC2 := hide (HOE.out _ _ hE2)
    clear hm hok hc hc' hno hT hD hE hfl hnb hbs hSn hOE hO hall hu2 hbl hln heq hneb hE2 hD2 hfl2 hnb2 hbs2 hL2 hSl
    go_enter Try.func9, Try.ntmps9
    go_wp2_with fail
    rw [← HW0.out]
    go_wp2_with fail
    refine (HDEC.out _ HB0.out).mono ?_
    rintro e W1 ⟨v1, rfl, ho1, b1⟩
    obtain ⟨A1, c1, rfl⟩ := own_form ho1
    have HL1 := hide (Reads.of_own ho1)
    have HB1 := hide (HB0.out.trans (b1.mono HB0.out.size))
    have HG1 := hide ((b1.block _ (lt_of_heap HG0.out)).trans HG0.out)
    have k10 := cell_blk HG1.out 0
    have k11 := cell_blk HG1.out 1
    clear b1 ho1
    go_wp2_with fail
    refine (HENC.out W1 A1 c1 HB1.out HL1.out).mono ?_
    rintro e W2 ⟨v2, rfl, ho2, b2⟩
    obtain ⟨A2, c2, rfl⟩ := own_form ho2
    have HL2 := hide ((HL1.out.below b2).more b2.size)
    have HC2 := hide (Reads.of_own ho2)
    have HB2 := hide (HB1.out.trans (b2.mono HB1.out.size))
    have HG2 := hide ((b2.block _ (lt_of_heap HG1.out)).trans HG1.out)
    have k20 := cell_blk HG2.out 0
    have k21 := cell_blk HG2.out 1
    clear b2 ho2 k10 k11
    go_wp2_with fail
    refine (HDEC2.out _ HB2.out A2 c2 HC2.out).mono ?_
    rintro e W3 ⟨v3, rfl, ho3, b3⟩
    obtain ⟨A3, c3, rfl⟩ := own_form ho3
    have HL3 := hide ((HL2.out.below b3).more b3.size)
    have HC3 := hide ((HC2.out.below b3).more b3.size)
    have HM3 := hide (Reads.of_own ho3)
    have HB3 := hide (HB2.out.trans (b3.mono HB2.out.size))
    have HG3 := hide ((b3.block _ (lt_of_heap HG2.out)).trans HG2.out)
    have k30 := cell_blk HG3.out 0
    have k31 := cell_blk HG3.out 1
    clear b3 ho3 k20 k21
    go_wp2_with fail
    refine (isame_any A1 A3 S.length c1 S.length c3 S S W3 HL3.out HM3.out rfl rfl (by omega)).mono ?_
    rintro e W4 ⟨he, j, rfl⟩
    obtain rfl : e = .returned (.bool true) := he.trans (ret_bool (by simp))
    have HB4 := hide (below_drewN HB3.out j)
    have HL4 := hide (HL3.out.drewN j)
    have HC4 := hide (HC3.out.drewN j)
    have HG4 := hide (show (W3.drewN j).heap[w.heap.size]? = _ from HG3.out)
    have k40 := cell_blk HG4.out 0
    have k41 := cell_blk HG4.out 1
    clear he k30 k31
    go_wp2_with fail
    refine (HHAS.out _ HB4.out).mono ?_
    rintro e W5 ⟨b', rfl, hb', b5⟩
    obtain rfl : b' = true := hb'.2 HA.out
    have HL5 := hide ((HL4.out.below b5).more b5.size)
    have HC5 := hide ((HC4.out.below b5).more b5.size)
    have HB5 := hide (HB4.out.trans (b5.mono HB4.out.size))
    have HG5 := hide ((b5.block _ (lt_of_heap HG4.out)).trans HG4.out)
    have k50 := cell_blk HG5.out 0
    have k51 := cell_blk HG5.out 1
    clear b5 hb' k40 k41
    go_wp2_with fail
    refine (isame_any O A1 no co S.length c1 os S W5 (HRO.out _ HB5.out) HL5.out HNO.out.symm rfl (by omega)).mono ?_
    rintro e W6 ⟨he, j6, rfl⟩
    obtain rfl : e = .returned (.bool false) := he.trans (ret_bool (by simp [HNEQ.out]))
    have HB6 := hide (below_drewN HB5.out j6)
    have HC6 := hide (HC5.out.drewN j6)
    have HG6 := hide (show (W5.drewN j6).heap[w.heap.size]? = _ from HG5.out)
    have k60 := cell_blk HG6.out 0
    have k61 := cell_blk HG6.out 1
    clear he k50 k51
    go_wp2_with fail
    refine (HENC2.out _ HB6.out).mono ?_
    rintro e W7 ⟨v7, rfl, ho7, b7⟩
    obtain ⟨A7, c7, rfl⟩ := own_form ho7
    have HC7 := hide ((HC6.out.below b7).more b7.size)
    have HD7 := hide (Reads.of_own ho7)
    have HB7 := hide (HB6.out.trans (b7.mono HB6.out.size))
    clear b7 ho7 k60 k61
    go_wp2_with fail
    refine (same_any A2 A7 bs.length c2 bs2.length c7 bs bs2 W7 HC7.out HD7.out HNB.out HNB2.out).mono ?_
    rintro e W8 ⟨he, rfl⟩
    obtain rfl : e = .returned (.bool false) := he.trans (ret_bool (by simp [HNEB.out]))
    clear he
    go_wp2_with fail
    refine (HKN.out _).mono ?_
    rintro e W9 ⟨rfl, b9⟩
    have HB9 := hide (HB7.out.trans (b9.mono HB7.out.size))
    clear b9
    go_wp2
    go_ret
    exact ⟨rfl, HB9.out⟩
end Go.Proofs.Ytemiaagaggjbiaa
