/- portmanteaulaw12.FlowEncodes and FlowBack walked. -/
import Derived.Test.YtemiaagaggjbiaaFlN
namespace Go.Proofs.Ytemiaagaggjbiaa
open Go.RowKit Go Go.Shelf
set_option linter.unusedVariables false
set_option maxRecDepth 8000

set_option maxHeartbeats 8000000 in
theorem walk_FlowBack {w : World} (l : Int) (A : Option Addr) (m c : Nat) (zs : List Int) (wl : (Lit.int .i64 l).wf = true) (hm : zs.length = m) (hr : Reads w w.heap.size 1 A m (zs.map (Value.int .i64))) (hok : ∀ z ∈ zs, (Lit.int .i64 z).wf = true) (hc' : c ≤ maxLen) (hc : m ≤ c)
    (B : Option Addr) (ns cs : Nat) (S : List Int) (hS : S.length = ns) (hrS : Reads w w.heap.size 1 B ns (S.map (Value.int .i64))) (hokS : ∀ z ∈ S, (Lit.int .i64 z).wf = true) (hms : cs ≤ maxLen) (hcs : ns ≤ cs) :
    Calls Try.prog 6 #[.agg #[.int .i64 l, .slice A m c], .slice B ns cs] w fun e w' => e = .returned (.bool true) ∧ Below w.heap.size w w' := by
  have HKN := hide known_any
  obtain ⟨W0, hW0⟩ : ∃ W0, W0 = w.alloc (.cells #[.int .i64 l, .slice A m c] 24 (0, 0)) := ⟨_, rfl⟩
  have g1 : W0.heap[w.heap.size]? = some (.cells #[.int .i64 l, .slice A m c] 24 (0, 0)) := by rw [hW0]; exact heap_alloc_new w _
  have b0 : Below w.heap.size w W0 := by rw [hW0]; exact (Below.refl w.heap.size w).alloc (Nat.le_refl _) _
  have k0 := cell_blk g1 0
  have k1 := cell_blk g1 1
  have HG0 := hide g1
  have HB0 := hide b0
  have HW0 := hide hW0
  have HRT := hide (fun W (b : Below w.heap.size w W) => (hr.below b).more b.size)
  have HRS := hide (fun W (b : Below w.heap.size w W) => ((hrS.below b).more b.size : Reads W W.heap.size 1 B ns (intsV S)))
  have HM := hide hm
  have HOK := hide hok
  have HS := hide hS
  clear g1 b0 hW0 hr hrS hokS hms hcs
  by_cases hb1 : 300 < (m : Int)
  · clear hm hok hc hc'
    go_enter Try.func6, Try.ntmps6
    go_wp2_with fail
    rw [← HW0.out]
    go_wp2_with fail
    refine (HKN.out _).mono ?_
    rintro e W9 ⟨rfl, b9⟩
    have HB9 := hide (HB0.out.trans (b9.mono HB0.out.size))
    clear b9
    go_wp2
    go_ret
    exact ⟨rfl, HB9.out⟩
  by_cases hb2 : 300 < (ns : Int)
  · clear hm hok hc hc'
    go_enter Try.func6, Try.ntmps6
    go_wp2_with fail
    rw [← HW0.out]
    go_wp2_with fail
    refine (HKN.out _).mono ?_
    rintro e W9 ⟨rfl, b9⟩
    have HB9 := hide (HB0.out.trans (b9.mono HB0.out.size))
    clear b9
    go_wp2
    go_ret
    exact ⟨rfl, HB9.out⟩
  have HMAY := hide (fun W (b : Below w.heap.size w W) => may_any 9 l A m c zs W (.inl rfl) hm (HRT.out W b) hok hc hc')
  by_cases hT : okT l zs
  rotate_left
  · clear hm hok hc hc'
    go_enter Try.func6, Try.ntmps6
    go_wp2_with fail
    rw [← HW0.out]
    go_wp2_with fail
    refine (HMAY.out _ HB0.out).mono ?_
    rintro e W1 ⟨⟨h, _⟩ | ⟨_, rfl⟩, b1⟩
    · exact absurd h hT
    have HB1 := hide (HB0.out.trans (b1.mono HB0.out.size))
    clear b1
    go_wp2_with fail
    refine (HKN.out _).mono ?_
    rintro e W9 ⟨rfl, b9⟩
    have HB9 := hide (HB1.out.trans (b9.mono HB1.out.size))
    clear b9
    go_wp2
    go_ret
    exact ⟨rfl, HB9.out⟩
  have HHAS := hide (fun W (b : Below w.heap.size w W) => has_any (c2 := cs) (c := c) l hm (HRT.out W b) hS (HRS.out W b) (by omega))
  by_cases hall : ∀ s ∈ S, hasS zs s
  rotate_left
  · clear hm hok hc hc'
    go_enter Try.func6, Try.ntmps6
    go_wp2_with fail
    rw [← HW0.out]
    go_wp2_with fail
    refine (HMAY.out _ HB0.out).mono ?_
    rintro e W1 ⟨⟨_, rfl⟩ | ⟨h, _⟩, b1⟩
    rotate_left
    · exact absurd hT h
    have HB1 := hide (HB0.out.trans (b1.mono HB0.out.size))
    have HG1 := hide ((b1.block _ (lt_of_heap HG0.out)).trans HG0.out)
    have k10 := cell_blk HG1.out 0
    have k11 := cell_blk HG1.out 1
    clear b1
    go_wp2_with fail
    refine (HHAS.out _ HB1.out).mono ?_
    rintro e W2 ⟨b', rfl, hb', b2⟩
    obtain rfl : b' = false := by
      cases b' with
      | false => rfl
      | true => exact absurd (hb'.1 rfl) hall
    have HB2 := hide (HB1.out.trans (b2.mono HB1.out.size))
    clear b2 hb' k10 k11
    go_wp2_with fail
    refine (HKN.out _).mono ?_
    rintro e W9 ⟨rfl, b9⟩
    have HB9 := hide (HB2.out.trans (b9.mono HB2.out.size))
    clear b9
    go_wp2
    go_ret
    exact ⟨rfl, HB9.out⟩
  have hns : S.length ≤ 131072 := by omega
  obtain ⟨L, rfl, hE⟩ := outE_all hT hns hall
  have hD := outD_back hT hns hall
  have hfl := flow_len hT hall
  have hnb := pack_small (finT L zs S + 1) (finN L zs S + 2 ^ finT L zs S)
  obtain ⟨bs, hbs⟩ : ∃ bs, bs = pack (finT L zs S + 1) (finN L zs S + 2 ^ finT L zs S) := ⟨_, rfl⟩
  rw [← hbs] at hE hD hfl hnb
  have hlb : bs.length ≤ 1000 := by omega
  have HENC := hide (fun W (b : Below w.heap.size w W) => enc_any (cs := cs) hE W hm (HRT.out W b) hok hc hc' hS (HRS.out W b))
  have HT := hide hT
  have HALL := hide hall
  have HDEC := hide (fun W (b : Below w.heap.size w W) (B' : Option Addr) (cb : Nat) (r : Reads W W.heap.size 1 B' bs.length (u8s bs)) => dec_any (cb := cb) hD W hm (HRT.out W b) hok hc hc' r hnb rfl (by omega))
  subst hS
  clear hm hok hc hc' hT hall hE hD hfl hnb hbs
  go_enter Try.func6, Try.ntmps6
  go_wp2_with fail
  rw [← HW0.out]
  go_wp2_with fail
  refine (HMAY.out _ HB0.out).mono ?_
  rintro e W1 ⟨⟨_, rfl⟩ | ⟨h, _⟩, b1⟩
  rotate_left
  · exact absurd HT.out h
  have HB1 := hide (HB0.out.trans (b1.mono HB0.out.size))
  have HG1 := hide ((b1.block _ (lt_of_heap HG0.out)).trans HG0.out)
  have k10 := cell_blk HG1.out 0
  have k11 := cell_blk HG1.out 1
  clear b1
  go_wp2_with fail
  refine (HHAS.out _ HB1.out).mono ?_
  rintro e W2 ⟨b', rfl, hb', b2⟩
  obtain rfl : b' = true := hb'.2 HALL.out
  have HB2 := hide (HB1.out.trans (b2.mono HB1.out.size))
  have HG2 := hide ((b2.block _ (lt_of_heap HG1.out)).trans HG1.out)
  have k20 := cell_blk HG2.out 0
  have k21 := cell_blk HG2.out 1
  clear b2 hb' k10 k11
  go_wp2_with fail
  refine (HENC.out _ HB2.out).mono ?_
  rintro e W3 ⟨v3, rfl, ho3, b3⟩
  obtain ⟨A3, c3, rfl⟩ := own_form ho3
  have HR3 := hide (Reads.of_own ho3)
  have HB3 := hide (HB2.out.trans (b3.mono HB2.out.size))
  have HG3 := hide ((b3.block _ (lt_of_heap HG2.out)).trans HG2.out)
  have k30 := cell_blk HG3.out 0
  have k31 := cell_blk HG3.out 1
  clear b3 ho3 k20 k21
  go_wp2_with fail
  refine (HDEC.out _ HB3.out A3 c3 HR3.out).mono ?_
  rintro e W4 ⟨v4, rfl, ho4, b4⟩
  obtain ⟨A4, c4, rfl⟩ := own_form ho4
  have HR4 := hide (Reads.of_own ho4)
  have HB4 := hide (HB3.out.trans (b4.mono HB3.out.size))
  have HG4 := hide ((b4.block _ (lt_of_heap HG3.out)).trans HG3.out)
  have k40 := cell_blk HG4.out 0
  have k41 := cell_blk HG4.out 1
  clear b4 ho4 k30 k31
  go_wp2_with fail
  refine (isame_any A4 B S.length c4 S.length cs S S W4 HR4.out (HRS.out _ HB4.out) rfl rfl (by omega)).mono ?_
  rintro e W5 ⟨he, j, rfl⟩
  obtain rfl : e = .returned (.bool true) := he.trans (ret_bool (by simp))
  have HB5 := hide (below_drewN HB4.out j)
  clear he
  go_wp2_with fail
  refine (HKN.out _).mono ?_
  rintro e W9 ⟨rfl, b9⟩
  have HB9 := hide (HB5.out.trans (b9.mono HB5.out.size))
  clear b9
  go_wp2
  go_ret
  exact ⟨rfl, HB9.out⟩

set_option maxHeartbeats 8000000 in
theorem walk_FlowEncodes {w : World} (l : Int) (A : Option Addr) (m c : Nat) (zs : List Int) (wl : (Lit.int .i64 l).wf = true) (hm : zs.length = m) (hr : Reads w w.heap.size 1 A m (zs.map (Value.int .i64))) (hok : ∀ z ∈ zs, (Lit.int .i64 z).wf = true) (hc' : c ≤ maxLen) (hc : m ≤ c)
    (B : Option Addr) (ns cs : Nat) (S : List Int) (hS : S.length = ns) (hrS : Reads w w.heap.size 1 B ns (S.map (Value.int .i64))) (hokS : ∀ z ∈ S, (Lit.int .i64 z).wf = true) (hms : cs ≤ maxLen) (hcs : ns ≤ cs) :
    Calls Try.prog 5 #[.agg #[.int .i64 l, .slice A m c], .slice B ns cs] w fun e w' => e = .returned (.bool true) ∧ Below w.heap.size w w' := by
  have HKN := hide known_any
  obtain ⟨W0, hW0⟩ : ∃ W0, W0 = w.alloc (.cells #[.int .i64 l, .slice A m c] 24 (0, 0)) := ⟨_, rfl⟩
  have g1 : W0.heap[w.heap.size]? = some (.cells #[.int .i64 l, .slice A m c] 24 (0, 0)) := by rw [hW0]; exact heap_alloc_new w _
  have b0 : Below w.heap.size w W0 := by rw [hW0]; exact (Below.refl w.heap.size w).alloc (Nat.le_refl _) _
  have k0 := cell_blk g1 0
  have k1 := cell_blk g1 1
  have HG0 := hide g1
  have HB0 := hide b0
  have HW0 := hide hW0
  have HRT := hide (fun W (b : Below w.heap.size w W) => (hr.below b).more b.size)
  have HRS := hide (fun W (b : Below w.heap.size w W) => ((hrS.below b).more b.size : Reads W W.heap.size 1 B ns (intsV S)))
  have HM := hide hm
  have HOK := hide hok
  have HS := hide hS
  clear g1 b0 hW0 hr hrS hokS hms hcs
  by_cases hb1 : 300 < (m : Int)
  · clear hm hok hc hc'
    go_enter Try.func5, Try.ntmps5
    go_wp2_with fail
    rw [← HW0.out]
    go_wp2_with fail
    refine (HKN.out _).mono ?_
    rintro e W9 ⟨rfl, b9⟩
    have HB9 := hide (HB0.out.trans (b9.mono HB0.out.size))
    clear b9
    go_wp2
    go_ret
    exact ⟨rfl, HB9.out⟩
  by_cases hb2 : 300 < (ns : Int)
  · clear hm hok hc hc'
    go_enter Try.func5, Try.ntmps5
    go_wp2_with fail
    rw [← HW0.out]
    go_wp2_with fail
    refine (HKN.out _).mono ?_
    rintro e W9 ⟨rfl, b9⟩
    have HB9 := hide (HB0.out.trans (b9.mono HB0.out.size))
    clear b9
    go_wp2
    go_ret
    exact ⟨rfl, HB9.out⟩
  have hns : S.length ≤ 131072 := by omega
  have HMAY := hide (fun W (b : Below w.heap.size w W) => may_any 9 l A m c zs W (.inl rfl) hm (HRT.out W b) hok hc hc')
  have HHAS := hide (fun W (b : Below w.heap.size w W) => has_any (c2 := cs) (c := c) l hm (HRT.out W b) hS (HRS.out W b) (by omega))
  by_cases hT : okT l zs
  rotate_left
  · have HENC := hide (fun W (b : Below w.heap.size w W) => enc_any (cs := cs) (S := S) (k := 13) (bs := []) (.inl ⟨hT, rfl, rfl⟩) W hm (HRT.out W b) hok hc hc' hS (HRS.out W b))
    clear hm hok hc hc'
    go_enter Try.func5, Try.ntmps5
    go_wp2_with fail
    rw [← HW0.out]
    go_wp2_with fail
    refine (HENC.out _ HB0.out).mono ?_
    rintro e W1 ⟨v1, rfl, ho1, b1⟩
    obtain ⟨A1, c1, rfl⟩ := own_form ho1
    have HB1 := hide (HB0.out.trans (b1.mono HB0.out.size))
    have HG1 := hide ((b1.block _ (lt_of_heap HG0.out)).trans HG0.out)
    have k10 := cell_blk HG1.out 0
    have k11 := cell_blk HG1.out 1
    clear b1 ho1
    go_wp2_with fail
    refine (HMAY.out _ HB1.out).mono ?_
    rintro e W2 ⟨⟨h, _⟩ | ⟨_, rfl⟩, b2⟩
    · exact absurd h hT
    have HB2 := hide (HB1.out.trans (b2.mono HB1.out.size))
    clear b2 k10 k11
    go_wp2_with fail
    refine (HKN.out _).mono ?_
    rintro e W9 ⟨rfl, b9⟩
    have HB9 := hide (HB2.out.trans (b9.mono HB2.out.size))
    clear b9
    go_wp2
    go_ret
    exact ⟨rfl, HB9.out⟩
  by_cases hall : ∀ s ∈ S, hasS zs s
  rotate_left
  · have HENC := hide (fun W (b : Below w.heap.size w W) => enc_any (cs := cs) (S := S) (k := 2) (bs := []) (.inr (.inr (.inl ⟨hT, hns, hall, rfl, rfl⟩))) W hm (HRT.out W b) hok hc hc' hS (HRS.out W b))
    clear hm hok hc hc'
    go_enter Try.func5, Try.ntmps5
    go_wp2_with fail
    rw [← HW0.out]
    go_wp2_with fail
    refine (HENC.out _ HB0.out).mono ?_
    rintro e W1 ⟨v1, rfl, ho1, b1⟩
    obtain ⟨A1, c1, rfl⟩ := own_form ho1
    have HB1 := hide (HB0.out.trans (b1.mono HB0.out.size))
    have HG1 := hide ((b1.block _ (lt_of_heap HG0.out)).trans HG0.out)
    have k10 := cell_blk HG1.out 0
    have k11 := cell_blk HG1.out 1
    clear b1 ho1
    go_wp2_with fail
    refine (HMAY.out _ HB1.out).mono ?_
    rintro e W2 ⟨⟨_, rfl⟩ | ⟨h, _⟩, b2⟩
    rotate_left
    · exact absurd hT h
    have HB2 := hide (HB1.out.trans (b2.mono HB1.out.size))
    have HG2 := hide ((b2.block _ (lt_of_heap HG1.out)).trans HG1.out)
    have k20 := cell_blk HG2.out 0
    have k21 := cell_blk HG2.out 1
    clear b2 k10 k11
    go_wp2_with fail
    refine (HHAS.out _ HB2.out).mono ?_
    rintro e W3 ⟨b', rfl, hb', b3⟩
    obtain rfl : b' = false := by
      cases b' with
      | false => rfl
      | true => exact absurd (hb'.1 rfl) hall
    have HB3 := hide (HB2.out.trans (b3.mono HB2.out.size))
    clear b3 hb' k20 k21
    go_wp2_with fail
    refine (HKN.out _).mono ?_
    rintro e W9 ⟨rfl, b9⟩
    have HB9 := hide (HB3.out.trans (b9.mono HB3.out.size))
    clear b9
    go_wp2
    go_ret
    exact ⟨rfl, HB9.out⟩
  obtain ⟨L, rfl, hE⟩ := outE_all hT hns hall
  have hD := outD_back hT hns hall
  have hfl := flow_len hT hall
  have hnb := pack_small (finT L zs S + 1) (finN L zs S + 2 ^ finT L zs S)
  obtain ⟨bs, hbs⟩ : ∃ bs, bs = pack (finT L zs S + 1) (finN L zs S + 2 ^ finT L zs S) := ⟨_, rfl⟩
  rw [← hbs] at hE hD hfl hnb
  have hlb : bs.length ≤ 1000 := by omega
  have HENC := hide (fun W (b : Below w.heap.size w W) => enc_any (cs := cs) hE W hm (HRT.out W b) hok hc hc' hS (HRS.out W b))
  have HT := hide hT
  have HALL := hide hall
  have HDEC := hide (fun W (b : Below w.heap.size w W) (B' : Option Addr) (cb : Nat) (r : Reads W W.heap.size 1 B' bs.length (u8s bs)) => decR_any (cb := cb) hD W hm (HRT.out W b) hok hc hc' r hnb rfl (by omega))
  subst hS
  clear hm hok hc hc' hT hall hE hD hfl hnb hbs
  go_enter Try.func5, Try.ntmps5
  go_wp2_with fail
  rw [← HW0.out]
  go_wp2_with fail
  refine (HENC.out _ HB0.out).mono ?_
  rintro e W1 ⟨v1, rfl, ho1, b1⟩
  obtain ⟨A1, c1, rfl⟩ := own_form ho1
  have HR1 := hide (Reads.of_own ho1)
  have HB1 := hide (HB0.out.trans (b1.mono HB0.out.size))
  have HG1 := hide ((b1.block _ (lt_of_heap HG0.out)).trans HG0.out)
  have k10 := cell_blk HG1.out 0
  have k11 := cell_blk HG1.out 1
  clear b1 ho1
  go_wp2_with fail
  refine (HMAY.out _ HB1.out).mono ?_
  rintro e W2 ⟨⟨_, rfl⟩ | ⟨h, _⟩, b2⟩
  rotate_left
  · exact absurd HT.out h
  have HR2 := hide ((HR1.out.below b2).more b2.size)
  have HB2 := hide (HB1.out.trans (b2.mono HB1.out.size))
  have HG2 := hide ((b2.block _ (lt_of_heap HG1.out)).trans HG1.out)
  have k20 := cell_blk HG2.out 0
  have k21 := cell_blk HG2.out 1
  clear b2 k10 k11
  go_wp2_with fail
  refine (HHAS.out _ HB2.out).mono ?_
  rintro e W3 ⟨b', rfl, hb', b3⟩
  obtain rfl : b' = true := hb'.2 HALL.out
  have HR3 := hide ((HR2.out.below b3).more b3.size)
  have HB3 := hide (HB2.out.trans (b3.mono HB2.out.size))
  have HG3 := hide ((b3.block _ (lt_of_heap HG2.out)).trans HG2.out)
  have k30 := cell_blk HG3.out 0
  have k31 := cell_blk HG3.out 1
  clear b3 hb' k20 k21
  go_wp2_with fail
  refine (HDEC.out _ HB3.out A1 c1 HR3.out).mono ?_
  rintro e W4 ⟨v4, rfl, ho4, b4⟩
  obtain ⟨A4, c4, rfl⟩ := own_form ho4
  have HR4 := hide (Reads.of_own ho4)
  have HB4 := hide (HB3.out.trans (b4.mono HB3.out.size))
  have HG4 := hide ((b4.block _ (lt_of_heap HG3.out)).trans HG3.out)
  have k40 := cell_blk HG4.out 0
  have k41 := cell_blk HG4.out 1
  clear b4 ho4 k30 k31
  go_wp2_with fail
  refine (isame_any A4 B S.length c4 S.length cs S S W4 HR4.out (HRS.out _ HB4.out) rfl rfl (by omega)).mono ?_
  rintro e W5 ⟨he, j, rfl⟩
  obtain rfl : e = .returned (.bool true) := he.trans (ret_bool (by simp))
  have HB5 := hide (below_drewN HB4.out j)
  clear he
  go_wp2_with fail
  refine (HKN.out _).mono ?_
  rintro e W9 ⟨rfl, b9⟩
  have HB9 := hide (HB5.out.trans (b9.mono HB5.out.size))
  clear b9
  go_wp2
  go_ret
  exact ⟨rfl, HB9.out⟩
end Go.Proofs.Ytemiaagaggjbiaa
