/- portmanteaulaw12.FlowMore walked. -/
import Derived.Test.YtemiaagaggjbiaaFlO
import Derived.Test.YtemiaagaggjbiaaRfM
namespace Go.Proofs.Ytemiaagaggjbiaa
open Go.RowKit Go Go.Shelf
set_option linter.unusedVariables false
set_option maxRecDepth 8000

theorem own_bit (w : World) (b : Bool) : (w.alloc (.cells #[.bool b] 4 (0, 0))).ownsRow w.heap.size 4 1 (.slice (some ⟨w.heap.size, 0, none⟩) 1 1) 1 (bools [b]) := by
  cases b
  · exact own_false w w.heap.size (Nat.le_refl _)
  · exact ⟨rfl, .inr ⟨w.heap.size, 1, #[.bool true], rfl, Nat.le_refl _, alloc_new w _ rfl, Nat.le_refl _, by unfold maxLen; omega, rfl, rfl⟩⟩

/-- One bit more at the beginning, one less: no flow. -/
theorem outD_more {L : Nat} {zs S : List Int} (hT : okT (L : Int) zs) (hn : S.length ≤ 131072) (hs : ∀ s ∈ S, hasS zs s) (b : Bool) : OutD (L : Int) zs (pack (finT L zs S + 1 + 1) (b.toNat + 2 * finN L zs S + 2 ^ (finT L zs S + 1))) (S.length : Int) 14 [] := by
  obtain ⟨h1, h2⟩ := finN_lt hT hs
  have hb : b.toNat ≤ 1 := by cases b <;> simp
  have hst := startF_enc hT hs (N := finN L zs S + 2 ^ finT L zs S) (by rw [Nat.add_mod_right, Nat.mod_eq_of_lt h1])
  have hm := startF_more (buildL L zs) L _ _ _ b.toNat hb hst
  refine outD_num hT hn (by rw [Nat.pow_succ]; omega) (.inr ⟨?_, rfl, rfl⟩)
  rw [← hm]
  congr 1
  rw [Nat.pow_succ]
  omega
theorem outD_less {L : Nat} {zs S : List Int} (hT : okT (L : Int) zs) (hn : S.length ≤ 131072) (hs : ∀ s ∈ S, hasS zs s) {T : Nat} (hTT : finT L zs S = T + 1) : OutD (L : Int) zs (pack (T + 1) (finN L zs S / 2 + 2 ^ T)) (S.length : Int) 14 [] := by
  obtain ⟨h1, h2⟩ := finN_lt hT hs
  have hst := startF_enc hT hs (N := finN L zs S + 2 ^ finT L zs S) (by rw [Nat.add_mod_right, Nat.mod_eq_of_lt h1])
  have hm := startF_less (buildL L zs) L _ _ _ (by omega) hst
  rw [hTT, Nat.pow_succ] at h1
  refine outD_num hT hn (by omega) (.inr ⟨?_, rfl, rfl⟩)
  rw [hTT, Nat.add_sub_cancel, Nat.pow_succ] at hm
  rw [← hm]
  congr 1
  omega

set_option maxHeartbeats 8000000 in
theorem walk_FlowMore {w : World} (l : Int) (A : Option Addr) (m c : Nat) (zs : List Int) (wl : (Lit.int .i64 l).wf = true) (hm : zs.length = m) (hr : Reads w w.heap.size 1 A m (zs.map (Value.int .i64))) (hok : ∀ z ∈ zs, (Lit.int .i64 z).wf = true) (hc' : c ≤ maxLen) (hc : m ≤ c)
    (B : Option Addr) (ns cs : Nat) (S : List Int) (hS : S.length = ns) (hrS : Reads w w.heap.size 1 B ns (S.map (Value.int .i64))) (hokS : ∀ z ∈ S, (Lit.int .i64 z).wf = true) (hms : cs ≤ maxLen) (hcs : ns ≤ cs) (bit : Bool) :
    Calls Try.prog 8 #[.agg #[.int .i64 l, .slice A m c], .slice B ns cs, .bool bit] w fun e w' => e = .returned (.bool true) ∧ Below w.heap.size w w' := by
  have HKN := hide known_any
  obtain ⟨W0, hW0⟩ : ∃ W0, W0 = w.alloc (.cells #[.int .i64 l, .slice A m c] 24 (0, 0)) := ⟨_, rfl⟩
  have g1 : W0.heap[w.heap.size]? = some (.cells #[.int .i64 l, .slice A m c] 24 (0, 0)) := by rw [hW0]; exact heap_alloc_new w _
  have b0 : Below w.heap.size w W0 := by rw [hW0]; exact (Below.refl w.heap.size w).alloc (Nat.le_refl _) _
  have k0 := cell_blk g1 0
  have k1 := cell_blk g1 1
  have HG0 := hide g1
  have HB0 := hide b0
  have HW0 := hide hW0
  have HRT := hide (fun W (b : Below w.heap.size w W) => (hr.below b).more b.size)
  have HRS := hide (fun W (b : Below w.heap.size w W) => ((hrS.below b).more b.size : Reads W W.heap.size 1 B ns (intsV S)))
  have HM := hide hm
  have HOK := hide hok
  have HS := hide hS
  clear g1 b0 hW0 hr hrS hokS hms hcs
  by_cases hb1 : 300 < (m : Int)
  · clear hm hok hc hc'
    go_enter Try.func8, Try.ntmps8
    go_wp2_with fail
    rw [← HW0.out]
    go_wp2_with fail
    refine (HKN.out _).mono ?_
    rintro e W9 ⟨rfl, b9⟩
    have HB9 := hide (HB0.out.trans (b9.mono HB0.out.size))
    clear b9
    go_wp2
    go_ret
    exact ⟨rfl, HB9.out⟩
  by_cases hb2 : 300 < (ns : Int)
  · clear hm hok hc hc'
    go_enter Try.func8, Try.ntmps8
    go_wp2_with fail
    rw [← HW0.out]
    go_wp2_with fail
    refine (HKN.out _).mono ?_
    rintro e W9 ⟨rfl, b9⟩
    have HB9 := hide (HB0.out.trans (b9.mono HB0.out.size))
    clear b9
    go_wp2
    go_ret
    exact ⟨rfl, HB9.out⟩
  have HMAY := hide (fun W (b : Below w.heap.size w W) => may_any 9 l A m c zs W (.inl rfl) hm (HRT.out W b) hok hc hc')
  by_cases hT : okT l zs
  rotate_left
  · clear hm hok hc hc'
    go_enter Try.func8, Try.ntmps8
    go_wp2_with fail
    rw [← HW0.out]
    go_wp2_with fail
    refine (HMAY.out _ HB0.out).mono ?_
    rintro e W1 ⟨⟨h, _⟩ | ⟨_, rfl⟩, b1⟩
    · exact absurd h hT
    have HB1 := hide (HB0.out.trans (b1.mono HB0.out.size))
    clear b1
    go_wp2_with fail
    refine (HKN.out _).mono ?_
    rintro e W9 ⟨rfl, b9⟩
    have HB9 := hide (HB1.out.trans (b9.mono HB1.out.size))
    clear b9
    go_wp2
    go_ret
    exact ⟨rfl, HB9.out⟩
  have HHAS := hide (fun W (b : Below w.heap.size w W) => has_any (c2 := cs) (c := c) l hm (HRT.out W b) hS (HRS.out W b) (by omega))
  by_cases hall : ∀ s ∈ S, hasS zs s
  rotate_left
  · clear hm hok hc hc'
    go_enter Try.func8, Try.ntmps8
    go_wp2_with fail
    rw [← HW0.out]
    go_wp2_with fail
    refine (HMAY.out _ HB0.out).mono ?_
    rintro e W1 ⟨⟨_, rfl⟩ | ⟨h, _⟩, b1⟩
    rotate_left
    · exact absurd hT h
    have HB1 := hide (HB0.out.trans (b1.mono HB0.out.size))
    have HG1 := hide ((b1.block _ (lt_of_heap HG0.out)).trans HG0.out)
    have k10 := cell_blk HG1.out 0
    have k11 := cell_blk HG1.out 1
    clear b1
    go_wp2_with fail
    refine (HHAS.out _ HB1.out).mono ?_
    rintro e W2 ⟨b', rfl, hb', b2⟩
    obtain rfl : b' = false := by
      cases b' with
      | false => rfl
      | true => exact absurd (hb'.1 rfl) hall
    have HB2 := hide (HB1.out.trans (b2.mono HB1.out.size))
    clear b2 hb' k10 k11
    go_wp2_with fail
    refine (HKN.out _).mono ?_
    rintro e W9 ⟨rfl, b9⟩
    have HB9 := hide (HB2.out.trans (b9.mono HB2.out.size))
    clear b9
    go_wp2
    go_ret
    exact ⟨rfl, HB9.out⟩
  have hns : S.length ≤ 131072 := by omega
  obtain ⟨L, rfl, hE⟩ := outE_all hT hns hall
  have hD := outD_back hT hns hall
  have hfl := flow_len hT hall
  have hnb := pack_small (finT L zs S + 1) (finN L zs S + 2 ^ finT L zs S)
  obtain ⟨bs, hbs⟩ : ∃ bs, bs = pack (finT L zs S + 1) (finN L zs S + 2 ^ finT L zs S) := ⟨_, rfl⟩
  rw [← hbs] at hE hD hfl hnb
  have hlb : bs.length ≤ 1000 := by omega
  have HENC := hide (fun W (b : Below w.heap.size w W) => enc_any (cs := cs) hE W hm (HRT.out W b) hok hc hc' hS (HRS.out W b))
  have HT := hide hT
  have HALL := hide hall
  have hfin := finN_lt hT hall
  have hcl := close_last hfin.1
  have hclo := closed_num hfin.1
  obtain ⟨T, hTT⟩ : ∃ T, T = finT L zs S := ⟨_, rfl⟩
  have hD7 := outD_more hT hns hall bit
  have hD8 : ∀ T1, T = T1 + 1 → OutD (L : Int) zs (pack (T1 + 1) (finN L zs S / 2 + 2 ^ T1)) (S.length : Int) 14 [] := fun T1 h => outD_less hT hns hall (hTT ▸ h)
  rw [← hbs, ← hTT] at hcl
  rw [← hbs, ← hTT] at hclo
  have hTL : T ≤ 3000 := by
    have := hfin.2
    have := Nat.mul_le_mul (show L ≤ 9 by have := hT.1; omega) (show S.length ≤ 300 by omega)
    omega
  rw [← hTT] at hD7 hfin
  obtain ⟨fN, hfN⟩ : ∃ fN, fN = finN L zs S := ⟨_, rfl⟩
  rw [← hfN] at hD7 hD8 hclo hfin
  have hseg : natOf (seg (leN bs) 0 T) = fN := by
    rw [seg_nat, hclo, Nat.pow_zero, Nat.div_one, Nat.sub_zero, Nat.add_mod_right, Nat.mod_eq_of_lt hfin.1]
  obtain ⟨Ls, hLs⟩ : ∃ Ls, Ls = seg (leN bs) 0 T := ⟨_, rfl⟩
  have hLl : Ls.length = T := by rw [hLs, seg_length, Nat.sub_zero]
  rw [← hLs] at hseg
  have HRB := hide (fun W (b : Below w.heap.size w W) (B' : Option Addr) (cb : Nat) (r : Reads W W.heap.size 1 B' bs.length (u8s bs)) => rback_ok B' bs.length cb bs W r hnb rfl hcl.1 (by omega) hcl.2)
  rw [← hLs] at HRB
  obtain ⟨b7, hb7⟩ : ∃ b7, b7 = pack (T + 1 + 1) (bit.toNat + 2 * fN + 2 ^ (T + 1)) := ⟨_, rfl⟩
  have hb7l : b7.length ≤ 1000 := by rw [hb7, pack_len]; omega
  have hn7 : ∀ x ∈ b7, x < 256 := by rw [hb7]; exact pack_small _ _
  have HCLO := hide (fun W (A' : Option Addr) (c' : Nat) (r : Reads W W.heap.size 1 A' (1 + T) (bools (bit :: Ls))) => rclose_any A' (1 + T) c' (bit :: Ls) W r (by omega))
  have hnat : natOf (bit :: Ls) = bit.toNat + 2 * fN := by show bit.toNat + 2 * natOf Ls = _; rw [hseg]
  have hb7' : pack (1 + T + 1) (bit.toNat + 2 * fN + 2 ^ (1 + T)) = b7 := by rw [hb7, Nat.add_comm 1 T]
  rw [hnat, hb7'] at HCLO
  rw [← hb7] at hD7
  have HDEC7 := hide (fun W (b : Below w.heap.size w W) (B' : Option Addr) (cb : Nat) (r : Reads W W.heap.size 1 B' b7.length (u8s b7)) => dec_any (cb := cb) hD7 W hm (HRT.out W b) hok hc hc' r hn7 rfl (by omega))
  have HDEC8 : Hid (∀ T1, T = T1 + 1 → ∀ W (b : Below w.heap.size w W) (B' : Option Addr) (cb : Nat) (b8 : List Nat) (h8 : b8 = pack (T1 + 1) (fN / 2 + 2 ^ T1)) (r : Reads W W.heap.size 1 B' b8.length (u8s b8)),
      Calls Try.prog 13 #[.agg #[.int .i64 (L : Int), .slice A m c], .slice B' b8.length cb, .int .i64 (S.length : Int)] W fun e w' => ∃ v, e = .returned (.tuple #[v, .int .i64 14]) ∧ w'.ownsRow W.heap.size 3 1 v ([] : List Int).length (intsV []) ∧ Below W.heap.size W w') := hide (by
    intro T1 hT1 W b B' cb b8 h8 r
    subst h8
    exact dec_any (cb := cb) (hD8 T1 hT1) W hm (HRT.out W b) hok hc hc' r (pack_small _ _) rfl (by rw [pack_len]; omega))
  have HCLO8 := hide (fun T1 (h : T = T1 + 1) W (A' : Option Addr) (c' : Nat) (r : Reads W W.heap.size 1 A' T1 (bools (Ls.drop 1))) => rclose_any A' T1 c' (Ls.drop 1) W r (by omega))
  have hnat8 : natOf (Ls.drop 1) = fN / 2 := by
    rw [← hseg]
    cases Ls with
    | nil => rfl
    | cons b l => show natOf l = (b.toNat + 2 * natOf l) / 2; cases b <;> simp <;> omega
  rw [hnat8] at HCLO8
  have HLL := hide hLl
  obtain ⟨ib, hib, hib0, hib1, hib2⟩ := info_parts info_bool
  have HUBL := hide Try.underlying41
  have hbone : ∀ u ∈ bools Ls, u.oneCell' = true := by
    intro u hu
    obtain ⟨x, _, rfl⟩ := List.mem_map.1 hu
    rfl
  have HBONE := hide hbone
  subst hS
  clear hm hok hc hc' hT hall hE hD hfl hnb hbs hfin hcl hTT hclo hD7 hD8 hfN hseg hLs hb7 hb7' hb7l hn7 hnat hnat8 hLl hbone
  go_enter Try.func8, Try.ntmps8
  go_wp2_with fail
  rw [← HW0.out]
  go_wp2_with fail
  refine (HMAY.out _ HB0.out).mono ?_
  rintro e W1 ⟨⟨_, rfl⟩ | ⟨h, _⟩, b1⟩
  rotate_left
  · exact absurd HT.out h
  have HB1 := hide (HB0.out.trans (b1.mono HB0.out.size))
  have HG1 := hide ((b1.block _ (lt_of_heap HG0.out)).trans HG0.out)
  have k10 := cell_blk HG1.out 0
  have k11 := cell_blk HG1.out 1
  clear b1
  go_wp2_with fail
  refine (HHAS.out _ HB1.out).mono ?_
  rintro e W2 ⟨b', rfl, hb', b2⟩
  obtain rfl : b' = true := hb'.2 HALL.out
  have HB2 := hide (HB1.out.trans (b2.mono HB1.out.size))
  have HG2 := hide ((b2.block _ (lt_of_heap HG1.out)).trans HG1.out)
  have k20 := cell_blk HG2.out 0
  have k21 := cell_blk HG2.out 1
  clear b2 hb' k10 k11
  go_wp2_with fail
  refine (HENC.out _ HB2.out).mono ?_
  rintro e W3 ⟨v3, rfl, ho3, b3⟩
  obtain ⟨A3, c3, rfl⟩ := own_form ho3
  have HR3 := hide (Reads.of_own ho3)
  have HB3 := hide (HB2.out.trans (b3.mono HB2.out.size))
  have HG3 := hide ((b3.block _ (lt_of_heap HG2.out)).trans HG2.out)
  have k30 := cell_blk HG3.out 0
  have k31 := cell_blk HG3.out 1
  clear b3 ho3 k20 k21
  go_wp2_with fail
  refine (HRB.out _ HB3.out A3 c3 HR3.out).mono ?_
  rintro e W4 ⟨g, rfl, hrf, b4⟩
  have HRF := hide hrf
  have HB4 := hide (HB3.out.trans (b4.mono HB3.out.size))
  have HG4 := hide ((b4.block _ (lt_of_heap HG3.out)).trans HG3.out)
  have k40 := cell_blk HG4.out 0
  have k41 := cell_blk HG4.out 1
  obtain ⟨AR, nR, cR, hin, hg1, hg2, hg3, hg4⟩ := hrf
  have hnR : nR = T := by rw [hin.len, HLL.out]
  subst hnR
  have kg := hin.cells.1
  have hrL := hin.reads
  have ltg := lt_of_heap hin.row
  have HCR := hide hin.cap
  have lt0 : w.heap.size < W4.heap.size := lt_of_heap HG4.out
  have HRL := hide hrL
  have hbox := own_bit W4.drew bit
  obtain ⟨X, hX⟩ : ∃ X, X = W4.drew.alloc (.cells #[.bool bit] 4 (0, 0)) := ⟨_, rfl⟩
  have hbX : Below W4.heap.size W4 X := by rw [hX]; exact (Below.refl _ W4).drew.alloc (Nat.le_refl _) _
  have x0 := (hbX.cell (p := ⟨w.heap.size, 0, none⟩) lt0).trans k40
  have x1 := (hbX.cell (p := ⟨w.heap.size, 1, none⟩) lt0).trans k41
  have xg := (hbX.cell (p := ⟨g, 0, none⟩) ltg).trans kg
  have hrX : Reads X W4.heap.size 1 AR nR (bools Ls) := hrL.below hbX
  have hsX : W4.heap.size ≤ X.heap.size := hbX.size
  have hlim1 : 1 + nR ≤ maxLen := by unfold maxLen; omega
  have hlim2 : (1 + nR) * 1 ≤ 140737488355328 := by omega
  rw [← hX] at hbox
  have HBOX := hide hbox
  have HBX := hide hbX
  have HRX := hide hrX
  have HST : Hid (∀ w1 : World, X.grownBy w1 (Value.slice (some ⟨W4.heap.size, 0, none⟩) 1 1).ownBlock → Below W4.heap.size W4 w1) := hide (fun w1 hg => HBX.out.grown hg hsX (fun q hq => by simp [Value.ownBlock] at hq; omega))
  have HXE := hide hX
  rw [hX] at x0 x1 xg HBOX HRX hsX HST
  clear b4 hin hg1 hg2 hg3 hg4 hbox hbX hrX hX k30 k31 hrL
  go_wp2_with fail
  go_region_held3 (fun w' => w'.cell? ⟨w.heap.size, 0, none⟩ = some (.int .i64 (L : Int)) ∧ w'.cell? ⟨w.heap.size, 1, none⟩ = some (.slice A m c) ∧ w'.cell? ⟨g, 0, none⟩ = some (.slice AR nR cR)) (go_keep)
    (first
    | (refine step_append_any _ (by rfl) (.tmp 56) (.tmp 60) _ (by rfl) W4.heap.size 4 ib _ 1 1 HUBL.out hib hib0 hib1 hib2 rfl Nat.zero_lt_one (.slice (some ⟨W4.heap.size, 0, none⟩) 1 1) 1 _ (by rfl) HBOX.out W4.heap.size AR nR cR _ (by rfl) HRX.out HBONE.out hlim1 hlim2 hsX ?_; intro v5 w5 hown5 hg5 hat5; have hb5 := HST.out w5 hg5; have j0 := (hb5.cell (p := ⟨w.heap.size, 0, none⟩) lt0).trans k40; have j1 := (hb5.cell (p := ⟨w.heap.size, 1, none⟩) lt0).trans k41; have j2 := (hb5.cell (p := ⟨g, 0, none⟩) ltg).trans kg; obtain ⟨A5, c5, rfl⟩ := own_form hown5; have HO5 := hide hown5; have HB5 := hide hb5; clear hown5 hg5 hat5 hb5)
    | (go_at_call 21; refine (HCLO.out _ A5 c5 (Reads.of_own HO5.out)).mono ?_; rintro e w6 ⟨u6, rfl, ho6, hb6⟩; have HB6 := hide (HB5.out.trans (hb6.mono HB5.out.size)); have i0 := (HB6.out.cell (p := ⟨w.heap.size, 0, none⟩) lt0).trans k40; have i1 := (HB6.out.cell (p := ⟨w.heap.size, 1, none⟩) lt0).trans k41; have i2 := (HB6.out.cell (p := ⟨g, 0, none⟩) ltg).trans kg; obtain ⟨A6, c6, rfl⟩ := own_form ho6; have HO6 := hide ho6; clear ho6 hb6)
    | (go_at_call 13; refine (HDEC7.out _ (HB4.out.trans (HB6.out.mono HB4.out.size)) A6 c6 (Reads.of_own HO6.out)).mono ?_; rintro e w7 ⟨v7, rfl, ho7, hb7⟩; have HB7 := hide (HB6.out.trans (hb7.mono HB6.out.size)); have l0 := (HB7.out.cell (p := ⟨w.heap.size, 0, none⟩) lt0).trans k40; have l1 := (HB7.out.cell (p := ⟨w.heap.size, 1, none⟩) lt0).trans k41; have l2 := (HB7.out.cell (p := ⟨g, 0, none⟩) ltg).trans kg; obtain ⟨A7, c7, rfl⟩ := own_form ho7; clear ho7 hb7))
  have HBw7 := hide (HB4.out.trans (HB7.out.mono HB4.out.size))
  have HR7 := hide ((HRL.out.below HB7.out).more HB7.out.size)
  have HLG := hide (show w.heap.size < w7.heap.size ∧ g < w7.heap.size from ⟨Nat.lt_of_lt_of_le lt0 HB7.out.size, Nat.lt_of_lt_of_le ltg HB7.out.size⟩)
  have K40 := hide k40
  have K41 := hide k41
  have KG := hide kg
  clear x0 x1 xg k40 k41 kg j0 j1 j2 i0 i1 i2 hsX
  rcases Nat.eq_zero_or_pos nR with hz | hz
  · subst hz
    go_wp2_with fail
    refine (HKN.out _).mono ?_
    rintro e W9 ⟨rfl, b9⟩
    have HB9 := hide (HBw7.out.trans (b9.mono HBw7.out.size))
    clear b9
    go_wp2
    go_ret
    exact ⟨rfl, HB9.out⟩
  · obtain ⟨T1, hT1⟩ : ∃ T1, nR = T1 + 1 := ⟨nR - 1, by omega⟩
    obtain ⟨c1, hc1⟩ : ∃ c1, cR = c1 + 1 := ⟨cR - 1, by have := HCR.out; omega⟩
    obtain ⟨b8, hb8⟩ : ∃ b8, b8 = pack (T1 + 1) (fN / 2 + 2 ^ T1) := ⟨_, rfl⟩
    have HC8 := hide (HCLO8.out T1 hT1)
    rw [← hb8] at HC8
    have HD8 := hide (fun W b B' cb r => HDEC8.out T1 hT1 W b B' cb b8 hb8 r)
    subst hT1 hc1
    have hcut := HR7.out.cut (k := 1) (by omega) HCR.out
    rw [bools_drop, Nat.add_sub_cancel] at hcut
    have hcR := HCR.out
    have h1R : (1 : Int) ≤ ((T1 + 1 : Nat) : Int) := by omega
    have h1c : (1 : Int) ≤ ((c1 + 1 : Nat) : Int) := by omega
    have hzb : ((T1 : Int) + 1 == 0) = false := by simp; omega
    clear hb8
    by_cases hc1 : c1 = 0
    · subst hc1
      have hT0 : T1 = 0 := by omega
      subst hT0
      rw [if_pos rfl] at hcut
      have HCUT := hide hcut
      clear hcut hcR hz
      go_wp2_with fail
      go_region_held3 (fun w' => w'.cell? ⟨w.heap.size, 0, none⟩ = some (.int .i64 (L : Int)) ∧ w'.cell? ⟨w.heap.size, 1, none⟩ = some (.slice A m c) ∧ w'.cell? ⟨g, 0, none⟩ = some (.slice AR (0 + 1) (0 + 1))) (go_keep)
        (first
        | (go_at_call 21; refine (HC8.out w7.drew _ _ HCUT.out).mono ?_; rintro e w8 ⟨u8, rfl, ho8, hb8⟩; have HB8 := hide (HB7.out.trans (((Below.refl _ w7).drew.trans hb8).mono HB7.out.size)); have i0 := (HB8.out.cell (p := ⟨w.heap.size, 0, none⟩) lt0).trans K40.out; have i1 := (HB8.out.cell (p := ⟨w.heap.size, 1, none⟩) lt0).trans K41.out; have i2 := (HB8.out.cell (p := ⟨g, 0, none⟩) ltg).trans KG.out; obtain ⟨A8, c8, rfl⟩ := own_form ho8; have HO8 := hide ho8; clear ho8 hb8)
        | (go_at_call 13; refine (HD8.out _ (HB4.out.trans (HB8.out.mono HB4.out.size)) A8 c8 (Reads.of_own HO8.out)).mono ?_; rintro e w9 ⟨v9, rfl, ho9, hb9⟩; have HB9 := hide (HB8.out.trans (hb9.mono HB8.out.size)); have n0 := (HB9.out.cell (p := ⟨w.heap.size, 0, none⟩) lt0).trans K40.out; have n1 := (HB9.out.cell (p := ⟨w.heap.size, 1, none⟩) lt0).trans K41.out; have n2 := (HB9.out.cell (p := ⟨g, 0, none⟩) ltg).trans KG.out; obtain ⟨A9, c9, rfl⟩ := own_form ho9; clear ho9 hb9))
      have HBw9 := hide (HB4.out.trans (HB9.out.mono HB4.out.size))
      go_wp2_with fail
      refine (HKN.out _).mono ?_
      rintro e W9 ⟨rfl, b9⟩
      have HBl := hide (HBw9.out.trans (b9.mono HBw9.out.size))
      clear b9
      go_wp2
      go_ret
      exact ⟨rfl, HBl.out⟩
    · rw [if_neg (by omega), Nat.mul_one] at hcut
      obtain ⟨b, off, rfl, hbb, -⟩ := HR7.out.open_ (by omega) (by omega)
      have HCUT := hide hcut
      have q1 : T1 ≤ c1 := by omega
      have q2 : (T1 : Int) ≤ (c1 : Int) := by omega
      have q3 : ¬ (c1 : Int) = 0 := by omega
      have q4 : ¬ c1 + 1 = 1 := by omega
      have q6 : (T1 : Int) + 1 ≤ (c1 : Int) + 1 := by omega
      have q7 : (1 : Int) ≤ (T1 : Int) + 1 := by omega
      have q8 : (1 : Int) ≤ (c1 : Int) + 1 := by omega
      clear hcut hcR hz
      go_wp2_with fail
      go_region_held3 (fun w' => w'.cell? ⟨w.heap.size, 0, none⟩ = some (.int .i64 (L : Int)) ∧ w'.cell? ⟨w.heap.size, 1, none⟩ = some (.slice A m c) ∧ w'.cell? ⟨g, 0, none⟩ = some (.slice (some ⟨b, off, none⟩) (T1 + 1) (c1 + 1))) (go_keep)
        (first
        | (go_at_call 21; refine (HC8.out w7.drew _ _ HCUT.out).mono ?_; rintro e w8 ⟨u8, rfl, ho8, hb8⟩; have HB8 := hide (HB7.out.trans (((Below.refl _ w7).drew.trans hb8).mono HB7.out.size)); have i0 := (HB8.out.cell (p := ⟨w.heap.size, 0, none⟩) lt0).trans K40.out; have i1 := (HB8.out.cell (p := ⟨w.heap.size, 1, none⟩) lt0).trans K41.out; have i2 := (HB8.out.cell (p := ⟨g, 0, none⟩) ltg).trans KG.out; obtain ⟨A8, c8, rfl⟩ := own_form ho8; have HO8 := hide ho8; clear ho8 hb8)
        | (go_at_call 13; refine (HD8.out _ (HB4.out.trans (HB8.out.mono HB4.out.size)) A8 c8 (Reads.of_own HO8.out)).mono ?_; rintro e w9 ⟨v9, rfl, ho9, hb9⟩; have HB9 := hide (HB8.out.trans (hb9.mono HB8.out.size)); have n0 := (HB9.out.cell (p := ⟨w.heap.size, 0, none⟩) lt0).trans K40.out; have n1 := (HB9.out.cell (p := ⟨w.heap.size, 1, none⟩) lt0).trans K41.out; have n2 := (HB9.out.cell (p := ⟨g, 0, none⟩) ltg).trans KG.out; obtain ⟨A9, c9, rfl⟩ := own_form ho9; clear ho9 hb9))
      have HBw9 := hide (HB4.out.trans (HB9.out.mono HB4.out.size))
      go_wp2_with fail
      refine (HKN.out _).mono ?_
      rintro e W9 ⟨rfl, b9⟩
      have HBl := hide (HBw9.out.trans (b9.mono HBw9.out.size))
      clear b9
      go_wp2
      go_ret
      exact ⟨rfl, HBl.out⟩

end Go.Proofs.Ytemiaagaggjbiaa
