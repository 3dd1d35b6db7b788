/- portmanteaulaw12.FlowLength walked. -/
import Derived.Test.YtemiaagaggjbiaaFlO
import Derived.Test.YtemiaagaggjbiaaRfM
namespace Go.Proofs.Ytemiaagaggjbiaa
open Go.RowKit Go Go.Shelf
set_option linter.unusedVariables false
set_option maxRecDepth 8000

set_option maxHeartbeats 8000000 in
theorem walk_FlowLength {w : World} (l : Int) (A : Option Addr) (m c : Nat) (zs : List Int) (wl : (Lit.int .i64 l).wf = true) (hm : zs.length = m) (hr : Reads w w.heap.size 1 A m (zs.map (Value.int .i64))) (hok : ∀ z ∈ zs, (Lit.int .i64 z).wf = true) (hc' : c ≤ maxLen) (hc : m ≤ c)
    (B : Option Addr) (ns cs : Nat) (S : List Int) (hS : S.length = ns) (hrS : Reads w w.heap.size 1 B ns (S.map (Value.int .i64))) (hokS : ∀ z ∈ S, (Lit.int .i64 z).wf = true) (hms : cs ≤ maxLen) (hcs : ns ≤ cs) :
    Calls Try.prog 7 #[.agg #[.int .i64 l, .slice A m c], .slice B ns cs] w fun e w' => e = .returned (.bool true) ∧ Below w.heap.size w w' := by
  have HKN := hide known_any
  obtain ⟨W0, hW0⟩ : ∃ W0, W0 = w.alloc (.cells #[.int .i64 l, .slice A m c] 24 (0, 0)) := ⟨_, rfl⟩
  have g1 : W0.heap[w.heap.size]? = some (.cells #[.int .i64 l, .slice A m c] 24 (0, 0)) := by rw [hW0]; exact heap_alloc_new w _
  have b0 : Below w.heap.size w W0 := by rw [hW0]; exact (Below.refl w.heap.size w).alloc (Nat.le_refl _) _
  have k0 := cell_blk g1 0
  have k1 := cell_blk g1 1
  have HG0 := hide g1
  have HB0 := hide b0
  have HW0 := hide hW0
  have HRT := hide (fun W (b : Below w.heap.size w W) => (hr.below b).more b.size)
  have HRS := hide (fun W (b : Below w.heap.size w W) => ((hrS.below b).more b.size : Reads W W.heap.size 1 B ns (intsV S)))
  have HM := hide hm
  have HOK := hide hok
  have HS := hide hS
  clear g1 b0 hW0 hr hrS hokS hms hcs
  by_cases hb1 : 300 < (m : Int)
  · clear hm hok hc hc'
    go_enter Try.func7, Try.ntmps7
    go_wp2_with fail
    rw [← HW0.out]
    go_wp2_with fail
    refine (HKN.out _).mono ?_
    rintro e W9 ⟨rfl, b9⟩
    have HB9 := hide (HB0.out.trans (b9.mono HB0.out.size))
    clear b9
    go_wp2
    go_ret
    exact ⟨rfl, HB9.out⟩
  by_cases hb2 : 300 < (ns : Int)
  · clear hm hok hc hc'
    go_enter Try.func7, Try.ntmps7
    go_wp2_with fail
    rw [← HW0.out]
    go_wp2_with fail
    refine (HKN.out _).mono ?_
    rintro e W9 ⟨rfl, b9⟩
    have HB9 := hide (HB0.out.trans (b9.mono HB0.out.size))
    clear b9
    go_wp2
    go_ret
    exact ⟨rfl, HB9.out⟩
  have HMAY := hide (fun W (b : Below w.heap.size w W) => may_any 9 l A m c zs W (.inl rfl) hm (HRT.out W b) hok hc hc')
  by_cases hT : okT l zs
  rotate_left
  · clear hm hok hc hc'
    go_enter Try.func7, Try.ntmps7
    go_wp2_with fail
    rw [← HW0.out]
    go_wp2_with fail
    refine (HMAY.out _ HB0.out).mono ?_
    rintro e W1 ⟨⟨h, _⟩ | ⟨_, rfl⟩, b1⟩
    · exact absurd h hT
    have HB1 := hide (HB0.out.trans (b1.mono HB0.out.size))
    clear b1
    go_wp2_with fail
    refine (HKN.out _).mono ?_
    rintro e W9 ⟨rfl, b9⟩
    have HB9 := hide (HB1.out.trans (b9.mono HB1.out.size))
    clear b9
    go_wp2
    go_ret
    exact ⟨rfl, HB9.out⟩
  have HHAS := hide (fun W (b : Below w.heap.size w W) => has_any (c2 := cs) (c := c) l hm (HRT.out W b) hS (HRS.out W b) (by omega))
  by_cases hall : ∀ s ∈ S, hasS zs s
  rotate_left
  · clear hm hok hc hc'
    go_enter Try.func7, Try.ntmps7
    go_wp2_with fail
    rw [← HW0.out]
    go_wp2_with fail
    refine (HMAY.out _ HB0.out).mono ?_
    rintro e W1 ⟨⟨_, rfl⟩ | ⟨h, _⟩, b1⟩
    rotate_left
    · exact absurd hT h
    have HB1 := hide (HB0.out.trans (b1.mono HB0.out.size))
    have HG1 := hide ((b1.block _ (lt_of_heap HG0.out)).trans HG0.out)
    have k10 := cell_blk HG1.out 0
    have k11 := cell_blk HG1.out 1
    clear b1
    go_wp2_with fail
    refine (HHAS.out _ HB1.out).mono ?_
    rintro e W2 ⟨b', rfl, hb', b2⟩
    obtain rfl : b' = false := by
      cases b' with
      | false => rfl
      | true => exact absurd (hb'.1 rfl) hall
    have HB2 := hide (HB1.out.trans (b2.mono HB1.out.size))
    clear b2 hb' k10 k11
    go_wp2_with fail
    refine (HKN.out _).mono ?_
    rintro e W9 ⟨rfl, b9⟩
    have HB9 := hide (HB2.out.trans (b9.mono HB2.out.size))
    clear b9
    go_wp2
    go_ret
    exact ⟨rfl, HB9.out⟩
  have hns : S.length ≤ 131072 := by omega
  obtain ⟨L, rfl, hE⟩ := outE_all hT hns hall
  have hD := outD_back hT hns hall
  have hfl := flow_len hT hall
  have hnb := pack_small (finT L zs S + 1) (finN L zs S + 2 ^ finT L zs S)
  obtain ⟨bs, hbs⟩ : ∃ bs, bs = pack (finT L zs S + 1) (finN L zs S + 2 ^ finT L zs S) := ⟨_, rfl⟩
  rw [← hbs] at hE hD hfl hnb
  have hlb : bs.length ≤ 1000 := by omega
  have HENC := hide (fun W (b : Below w.heap.size w W) => enc_any (cs := cs) hE W hm (HRT.out W b) hok hc hc' hS (HRS.out W b))
  have HT := hide hT
  have HALL := hide hall
  have hfin := finN_lt hT hall
  have hcl := close_last hfin.1
  obtain ⟨T, hTT⟩ : ∃ T, T = finT L zs S := ⟨_, rfl⟩
  rw [← hbs, ← hTT] at hcl
  have hTL := hfin.2
  rw [← hTT] at hTL
  have HRB := hide (fun W (b : Below w.heap.size w W) (B' : Option Addr) (cb : Nat) (r : Reads W W.heap.size 1 B' bs.length (u8s bs)) => rback_ok B' bs.length cb bs W r hnb rfl hcl.1 (by omega) hcl.2)
  have hl9 : L ≤ 9 := by have := hT.1; omega
  have hmul : (L : Int) * (S.length : Int) = ((L * S.length : Nat) : Int) := by simp
  have hmb : L * S.length ≤ 9 * 300 := Nat.mul_le_mul hl9 (by omega)
  obtain ⟨P, hP⟩ : ∃ P, P = L * S.length := ⟨_, rfl⟩
  rw [← hP] at hmul hmb hTL
  have hwm : IntKind.i64.wrap ((L : Int) * (S.length : Int)) = (P : Int) := by rw [hmul, IntWalk.i64_in _ (by omega)]
  have hgt : decide ((P : Int) < (T : Int)) = false := by simp; omega
  have hgt2 : ¬ (P : Int) < (T : Int) := by omega
  have h01 : L = 0 → bs = [1] := by
    intro h0
    subst h0
    rw [Nat.zero_mul] at hP
    have hT0 : finT 0 zs S = 0 := by omega
    have hN0 := hfin.1
    rw [hT0] at hN0
    have hN1 : finN 0 zs S = 0 := by simpa using hN0
    rw [hbs, hT0, hN1]
    decide +kernel
  have HNB := hide hnb
  have H01 := hide h01
  subst hS
  clear hm hok hc hc' hT hall hE hD hfl hnb hbs hfin hcl hTT hTL hmul hmb hP h01
  go_enter Try.func7, Try.ntmps7
  go_wp2_with fail
  rw [← HW0.out]
  go_wp2_with fail
  refine (HMAY.out _ HB0.out).mono ?_
  rintro e W1 ⟨⟨_, rfl⟩ | ⟨h, _⟩, b1⟩
  rotate_left
  · exact absurd HT.out h
  have HB1 := hide (HB0.out.trans (b1.mono HB0.out.size))
  have HG1 := hide ((b1.block _ (lt_of_heap HG0.out)).trans HG0.out)
  have k10 := cell_blk HG1.out 0
  have k11 := cell_blk HG1.out 1
  clear b1
  go_wp2_with fail
  refine (HHAS.out _ HB1.out).mono ?_
  rintro e W2 ⟨b', rfl, hb', b2⟩
  obtain rfl : b' = true := hb'.2 HALL.out
  have HB2 := hide (HB1.out.trans (b2.mono HB1.out.size))
  have HG2 := hide ((b2.block _ (lt_of_heap HG1.out)).trans HG1.out)
  have k20 := cell_blk HG2.out 0
  have k21 := cell_blk HG2.out 1
  clear b2 hb' k10 k11
  go_wp2_with fail
  refine (HENC.out _ HB2.out).mono ?_
  rintro e W3 ⟨v3, rfl, ho3, b3⟩
  obtain ⟨A3, c3, rfl⟩ := own_form ho3
  have HR3 := hide (Reads.of_own ho3)
  have HB3 := hide (HB2.out.trans (b3.mono HB2.out.size))
  have HG3 := hide ((b3.block _ (lt_of_heap HG2.out)).trans HG2.out)
  have k30 := cell_blk HG3.out 0
  have k31 := cell_blk HG3.out 1
  clear b3 ho3 k20 k21
  go_wp2_with fail
  refine (HRB.out _ HB3.out A3 c3 HR3.out).mono ?_
  rintro e W4 ⟨g, rfl, hrf, b4⟩
  have HR4 := hide ((HR3.out.below b4).more b4.size)
  have HRF := hide hrf
  obtain ⟨AR, cR, hcR, -⟩ := hrf.cells
  rw [seg_length, Nat.sub_zero] at hcR
  have HB4 := hide (HB3.out.trans (b4.mono HB3.out.size))
  have HG4 := hide ((b4.block _ (lt_of_heap HG3.out)).trans HG3.out)
  have k40 := cell_blk HG4.out 0
  have k41 := cell_blk HG4.out 1
  clear b4 hrf k30 k31
  go_wp2_with fail
  go_quiet (fail)
  have HBQ := hide (below_drewN HB4.out nq)
  go_wp2_with fail
  · have hb1 := H01.out (by omega)
    obtain ⟨X, hX⟩ : ∃ X, X = (W4.drewN nq).alloc (.cells #[.int .u8 1] 5 (0, 0)) := ⟨_, rfl⟩
    have hx : Reads X X.heap.size 1 (some ⟨W4.heap.size, 0, none⟩) 1 (u8s [1]) := by rw [hX]; exact reads_blk (heap_alloc_new (W4.drewN nq) _) rfl
    have hbX : Below w.heap.size w X := by rw [hX]; exact HBQ.out.alloc HBQ.out.size _
    have hrX : Reads X X.heap.size 1 A3 bs.length (u8s bs) := by rw [hX]; exact (((HR4.out.drewN nq).alloc (Nat.le_refl _) _).more (by simp))
    have HX := hide hx
    have HBX := hide hbX
    have HRX := hide hrX
    have HXE := hide hX
    have HB1' := hide hb1
    clear hx hbX hrX hX hb1
    rw [← HXE.out]
    refine (same_any A3 (some ⟨W4.heap.size, 0, none⟩) bs.length c3 1 1 bs [1] X HRX.out HX.out HNB.out (by decide)).mono ?_
    rintro e W5 ⟨he, rfl⟩
    obtain rfl : e = .returned (.bool true) := he.trans (ret_bool (by simp [HB1'.out]))
    clear he
    go_wp2_with fail
    refine (HKN.out _).mono ?_
    rintro e W9 ⟨rfl, b9⟩
    have HB9 := hide (HBX.out.trans (b9.mono HBX.out.size))
    clear b9
    go_wp2
    go_ret
    exact ⟨rfl, HB9.out⟩
  · refine (HKN.out _).mono ?_
    rintro e W9 ⟨rfl, b9⟩
    have HB9 := hide (HBQ.out.trans (b9.mono HBQ.out.size))
    clear b9
    go_wp2
    go_ret
    exact ⟨rfl, HB9.out⟩

end Go.Proofs.Ytemiaagaggjbiaa
