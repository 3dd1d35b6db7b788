/- Texts put together: TnP, TnQ. -/
import Derived.Test.YtohgnohifojdbaaTnS
import Derived.Test.YtohgnohifojdbaaTnT
import Derived.Test.YtohgnohifojdbaaTnV
import Derived.Test.YtohgnohifojdbaaTnW
import Derived.Test.YtohgnohifojdbaaStE
namespace Go.Proofs.Ytohgnohifojdbaa
section
set_option maxRecDepth 8000
set_option maxRecDepth 8000
open Go.RowKit Go
set_option linter.unusedVariables false

theorem sum_addI : ∀ (l : List Nat) (f g : Nat → Int), (l.map fun j => f j + g j).sum = (l.map f).sum + (l.map g).sum
  | [], f, g => rfl
  | a :: l, f, g => by
    have := sum_addI l f g
    simp only [List.map_cons, List.sum_cons] at this ⊢
    omega

theorem ind_sum : ∀ (N b : Nat), ((List.range N).map fun j => if b = j then (1 : Int) else 0).sum = if b < N then 1 else 0
  | 0, b => by simp
  | N + 1, b => by
    rw [List.range_succ, List.map_append, List.sum_append, ind_sum N b]
    simp only [List.map_cons, List.map_nil, List.sum_cons, List.sum_nil]
    by_cases h1 : b < N
    · rw [if_pos h1, if_neg (by omega), if_pos (by omega)]; rfl
    · by_cases h2 : b = N
      · rw [if_neg h1, if_pos h2, if_pos (by omega)]; rfl
      · rw [if_neg h1, if_neg h2, if_neg (by omega)]; rfl

theorem histL_sum : ∀ bs : List Nat, (histL bs).sum ≤ (bs.length : Int)
  | [] => by
    have h : histL [] = List.replicate 256 0 := by decide
    rw [h]
    decide
  | b :: bs => by
    have h1 : histL (b :: bs) = (List.range 256).map fun j => ((bs.count j : Nat) : Int) + if b = j then (1 : Int) else 0 := by
      unfold histL
      apply List.map_congr_left
      intro j hj
      rw [List.count_cons]
      by_cases h : b = j
      · subst h; simp
      · have h2 : (b == j) = false := by simp [h]
        rw [h2, if_neg h]
        simp
    have h2 := histL_sum bs
    rw [h1, sum_addI, ind_sum]
    unfold histL at h2
    rw [List.length_cons]
    split <;> omega

theorem histL_getD (bs : List Nat) {x : Nat} (hx : x < 256) : (histL bs).getD x 0 = ((bs.count x : Nat) : Int) := by
  rw [List.getD_eq_getElem?_getD]
  simp [histL, hx]

theorem histL_pos {bs : List Nat} (h8 : ∀ x ∈ bs, x < 256) {x : Nat} (h : x ∈ bs) : 0 < (histL bs).getD x 0 := by
  rw [histL_getD bs (h8 x h)]
  have := List.count_pos_iff.2 h
  omega

theorem histL_count {bs : List Nat} (h8 : ∀ x ∈ bs, x < 256) (h0 : 0 < bs.length) (hl : bs.length ≤ 2000) : CountI (histL bs) := by
  refine ⟨fun z hz => ?_, ?_, by simp [histL], ?_⟩
  · unfold histL at hz
    obtain ⟨j, _, rfl⟩ := List.mem_map.1 hz
    omega
  · have := histL_sum bs
    omega
  · obtain ⟨x, hx⟩ : ∃ x, x ∈ bs := ⟨_, List.getElem_mem h0⟩
    have h1 := histL_pos h8 hx
    unfold usedI
    refine List.countP_pos_iff.2 ⟨(histL bs).getD x 0, ?_, by simpa using h1⟩
    have h2 : x < (histL bs).length := lt_of_getD (by omega)
    rw [List.getD_eq_getElem?_getD, List.getElem?_eq_getElem h2, Option.getD_some]
    exact List.getElem_mem h2

/-- A description's bytes. -/
theorem desc_bytes {L : Nat} {zs : List Int} (hT : okT (L : Int) zs) (hL : 1 ≤ L) :
    ∃ ds n, ds = pack (bl (descAll L zs)) (bn (descAll L zs)) ∧ n = ds.length ∧ 0 < n ∧ n ≤ 1024 ∧ (∀ x ∈ ds, x < 256) ∧ leN ds = bn (descAll L zs) ∧ bl (descAll L zs) ≤ 8 * n ∧ 8 * n < bl (descAll L zs) + 8 := by
  have h1 := bl_descAll hT
  have h2 : 4 ≤ bl (descAll L zs) := by unfold descAll; simp only [bl]; omega
  refine ⟨_, _, rfl, rfl, ?_, ?_, pack_byte _ _, leN_packB (bn_lt (ok_descAll hT hL)), ?_, ?_⟩
  all_goals
    rw [pack_len]
    omega
end

section
set_option maxRecDepth 8000
set_option maxRecDepth 8000
open Go.RowKit Go
set_option linter.unusedVariables false

set_option maxHeartbeats 4000000 in
theorem walk_TopEntropy {w : World} (A : Option Addr) (n c : Nat) (xs : List Int) (hn : xs.length = n) (hr0 : Reads w w.heap.size 1 A n (xs.map (Value.int .u8))) (hok : ∀ z ∈ xs, (Lit.int .u8 z).wf = true) (hm : c ≤ maxLen) (hc : n ≤ c)
    (most : Int) (wm : (Lit.int .i64 most).wf = true) :
    Calls Try.prog 3 #[.slice A n c, .int .i64 most] w fun e w' => e = .returned (.bool true) ∧ Below w.heap.size w w' := by
  obtain ⟨hu1, hu2⟩ := u8s_of hok
  rw [hu1] at hr0
  obtain ⟨bs, hbs⟩ : ∃ bs, bs = xs.map Int.toNat := ⟨_, rfl⟩
  have hbl : bs.length = n := by rw [hbs]; simpa using hn
  rw [← hbs] at hr0 hu2
  have HKN := hide alive_any
  have HR := hide hr0
  have H8 := hide hu2
  have HBL := hide hbl
  clear hu1 hbs hn hok hr0 hu2 hbl
  by_cases hbig : (n : Int) = 0 ∨ (¬ (n : Int) = 0 ∧ 2000 < (n : Int))
  · rcases hbig with h | ⟨h, h1⟩
    · obtain rfl : n = 0 := by omega
      clear h
      go_enter Try.func3, Try.ntmps3
      go_wp2_with fail
      refine (HKN.out _).mono ?_
      rintro e W ⟨rfl, b⟩
      have HB := hide b
      clear b
      go_wp2
      go_ret
      exact ⟨rfl, HB.out⟩
    · have hb0 : ((n : Int) == 0) = false := by simpa using h
      have hb1 : decide (2000 < n) = true := by simp; omega
      have hb2 : decide (2000 < (n : Int)) = true := by simp; omega
      go_enter Try.func3, Try.ntmps3
      go_wp2_with fail
      refine (HKN.out _).mono ?_
      rintro e W ⟨rfl, b⟩
      have HB := hide b
      clear b
      go_wp2
      go_ret
      exact ⟨rfl, HB.out⟩
  have hn0 : 0 < n := by omega
  have hn2 : n ≤ 2000 := by omega
  have hb0 : ((n : Int) == 0) = false := by simp; omega
  have hb1 : decide (2000 < n) = false := by simp; omega
  have hb2 : decide (2000 < (n : Int)) = false := by simp; omega
  clear hbig
  obtain ⟨W0, hW0⟩ : ∃ W0, W0 = w.alloc (.cells #[.slice A n c] 22 (0, 0)) := ⟨_, rfl⟩
  have g0 : W0.heap[w.heap.size]? = some (.cells #[.slice A n c] 22 (0, 0)) := by rw [hW0]; exact heap_alloc_new w _
  have b0 : Below w.heap.size w W0 := by rw [hW0]; exact (Below.refl w.heap.size w).alloc (Nat.le_refl _) _
  have HH := hide (hist_ok (some ⟨w.heap.size, 0, none⟩) A n c 1 bs W0 HBL.out ((HR.out.below b0).more b0.size) H8.out (reads_blk g0 rfl) hn2)
  have HB0 := hide b0
  have HW0 := hide hW0
  clear g0 b0 hW0
  go_enter Try.func3, Try.ntmps3
  go_wp2_with fail
  rw [← HW0.out]
  refine HH.out.mono ?_
  rintro e W1 ⟨g, rfl, hr1, b1⟩
  have hcnt := histL_count H8.out (by rw [HBL.out]; exact hn0) (by rw [HBL.out]; exact hn2)
  have hlen : (histL bs).length = 256 := by simp [histL]
  have HRL := hide (rlog_any (some ⟨g, 0, none⟩) 256 256 (histL bs) most W1 hlen hr1 hcnt (Nat.le_refl _) (by unfold maxLen; omega) wm)
  have HR1 := hide hr1
  have HB1 := hide (HB0.out.trans (b1.mono HB0.out.size))
  have HCN := hide hcnt
  have HLN := hide hlen
  clear hr1 b1 hcnt hlen
  go_wp2_with fail
  refine HRL.out.mono ?_
  rintro e W1 ⟨r, rfl, rfl, hr⟩
  rcases hr with hlt | ⟨L, rfl, hL1, hL9, hu⟩
  · go_wp2_with fail
    refine (HKN.out _).mono ?_
    rintro e W ⟨rfl, b⟩
    have HB := hide (HB1.out.trans (b.mono HB1.out.size))
    clear b
    go_wp2
    go_ret
    exact ⟨rfl, HB.out⟩
  have HNO := hide (normalize_ok L (some ⟨g, 0, none⟩) 256 256 (histL bs) W1 HLN.out HR1.out HCN.out (Nat.le_refl _) (by unfold maxLen; omega) hL9 hu)
  have hL0 : ¬ (L : Int) < 1 := by omega
  clear hu
  go_wp2_with fail
  refine HNO.out.mono ?_
  rintro e W2 ⟨v2, zs, rfl, ho2, hT, hpos, b2⟩
  obtain ⟨A2, c2, rfl⟩ := own_form ho2
  obtain ⟨hc1, hc2⟩ := own_caps ho2
  obtain ⟨gt, hgt⟩ : ∃ gt, gt = W2.heap.size := ⟨_, rfl⟩
  obtain ⟨X2, hX2⟩ : ∃ X2, X2 = W2.alloc (.cells #[.int .i64 (L : Int), .slice A2 zs.length c2] 28 (0, 0)) := ⟨_, rfl⟩
  have gX2 : X2.heap[gt]? = some (.cells #[.int .i64 (L : Int), .slice A2 zs.length c2] 28 (0, 0)) := by rw [hX2, hgt]; exact heap_alloc_new W2 _
  have bX2 : Below w.heap.size w X2 := by
    have h1 := HB1.out.trans (b2.mono HB1.out.size)
    rw [hX2]
    exact h1.alloc h1.size _
  have hrz : Reads X2 X2.heap.size 1 A2 zs.length (zs.map (Value.int .i64)) := by rw [hX2]; exact ((Reads.of_own ho2).alloc (Nat.le_refl _) _).more (by simp)
  have k20 : X2.cell? ⟨gt, 0, none⟩ = some (.int .i64 (L : Int)) := cell_blk gX2 0
  have k21 : X2.cell? ⟨gt, 1, none⟩ = some (.slice A2 zs.length c2) := cell_blk gX2 1
  have HDE := hide (dencode_ok L A2 zs.length c2 zs X2 rfl hrz (okT_wf hT) hc1 hc2 hT hL1)
  have hzl : zs.length ≤ 256 := hT.2.1.2
  have HT := hide hT
  have HPOS := hide hpos
  have HGT := hide hgt
  have HX2 := hide hX2
  have HG2 := hide gX2
  have HB2 := hide bX2
  have HRZ := hide hrz
  clear ho2 hT hpos b2 hgt hX2 gX2 bX2 hrz
  go_wp2_with fail
  rw [← HX2.out, ← HGT.out]
  refine HDE.out.mono ?_
  rintro e W3 ⟨u3, rfl, ho3, b3⟩
  obtain ⟨ds, nd, hds, hnd, hnd0, hnd2, hd8, hdl, hdb1, hdb2⟩ := desc_bytes HT.out hL1
  rw [← hds, ← hnd] at ho3
  obtain ⟨A3, c3, rfl⟩ := own_form ho3
  have HNC := hide (ncur_ok A3 nd c3 ds W3 (Reads.of_own ho3) hnd (by omega))
  have HDD := hide (fun (W : World) (gc c : Nat) (A : Option Addr) (h : CurI W gc A nd c ds 0) (hc : nd ≤ c) => ddecode_ok h hnd0 hc hnd2 hd8 HT.out hL1 hdl hdb1 hdb2)
  have HB3 := hide b3
  have hs3 := b3.size
  clear ho3 b3 hds hnd hd8 hdl hdb1 hdb2
  go_wp2_with fail
  refine HNC.out.mono ?_
  rintro e W4 ⟨gc, A4, c4, rfl, hcur, hgc, hA4, b4, hcap⟩
  have HD4 := hide (HDD.out W4 gc c4 A4 hcur hcap)
  have HB4 := hide b4
  have HGC := hide hgc
  have HS3 := hide hs3
  clear hcur hgc hA4 b4 hcap hs3
  go_wp2_with fail
  refine HD4.out.mono ?_
  rintro e W5 ⟨v5, rfl, ho5, hcur5, hc5⟩
  obtain ⟨A5, c5, rfl⟩ := own_form ho5
  obtain ⟨hc51, hc52⟩ := own_caps ho5
  have b5 : Below X2.heap.size X2 W5 := by
    have h4 := HB3.out.trans (HB4.out.mono HB3.out.size)
    exact h4.trans (hc5.below (fun k hk => by have := HGC.out; have := HS3.out; omega) h4.size)
  obtain ⟨gu, hgu⟩ : ∃ gu, gu = W5.heap.size := ⟨_, rfl⟩
  obtain ⟨X5, hX5⟩ : ∃ X5, X5 = W5.alloc (.cells #[.int .i64 (L : Int), .slice A5 zs.length c5] 28 (0, 0)) := ⟨_, rfl⟩
  have gX5 : X5.heap[gu]? = some (.cells #[.int .i64 (L : Int), .slice A5 zs.length c5] 28 (0, 0)) := by rw [hX5, hgu]; exact heap_alloc_new W5 _
  have bX5 : Below X2.heap.size X2 X5 := by rw [hX5]; exact b5.alloc b5.size _
  have hry : Reads X5 X5.heap.size 1 A5 zs.length (zs.map (Value.int .i64)) := by rw [hX5]; exact ((Reads.of_own ho5).alloc (Nat.le_refl _) _).more (by simp)
  have hrz5 : Reads X5 X5.heap.size 1 A2 zs.length (zs.map (Value.int .i64)) := (HRZ.out.below bX5).more bX5.size
  have gt5 : X5.heap[gt]? = some (.cells #[.int .i64 (L : Int), .slice A2 zs.length c2] 28 (0, 0)) := (bX5.block _ (lt_of_heap HG2.out)).trans HG2.out
  have hcx : CurI X5 gc A4 nd c4 ds nd := by rw [hX5]; exact hcur5.chg (S := fun _ => False) ((Chg.refl _ W5).alloc _) (fun h => h) (fun _ _ h => h)
  have HEND := hide (cend_ok hcx)
  have k50 : X5.cell? ⟨gt, 0, none⟩ = some (.int .i64 (L : Int)) := cell_blk gt5 0
  have k51 : X5.cell? ⟨gt, 1, none⟩ = some (.slice A2 zs.length c2) := cell_blk gt5 1
  have k52 : X5.cell? ⟨gu, 0, none⟩ = some (.int .i64 (L : Int)) := cell_blk gX5 0
  have k53 : X5.cell? ⟨gu, 1, none⟩ = some (.slice A5 zs.length c5) := cell_blk gX5 1
  have HRY := hide hry
  have HRZ5 := hide hrz5
  have HGT5 := hide gt5
  have HGU5 := hide gX5
  have HB5 := hide (HB2.out.trans (bX5.mono HB2.out.size))
  have HX5 := hide hX5
  have HGU := hide hgu
  clear ho5 hcur5 hc5 b5 hgu hX5 gX5 bX5 hry hrz5 gt5 hcx k20 k21
  go_wp2_with fail
  rw [← HX5.out, ← HGU.out]
  refine HEND.out.mono ?_
  rintro e W6 ⟨rfl, j, rfl⟩
  go_wp2_with fail
  refine (tsame_any (L : Int) (L : Int) A2 A5 zs.length c2 zs.length c5 zs zs (X5.drewN j) (HRZ5.out.drewN j) (HRY.out.drewN j) rfl rfl (by omega)).mono ?_
  rintro e W7 ⟨he, b7⟩
  obtain rfl : e = .returned (.bool true) := he.trans (by simp)
  have gt7 : W7.heap[gt]? = some (.cells #[.int .i64 (L : Int), .slice A2 zs.length c2] 28 (0, 0)) := (b7.block gt (lt_of_heap HGT5.out)).trans HGT5.out
  have gu7 : W7.heap[gu]? = some (.cells #[.int .i64 (L : Int), .slice A5 zs.length c5] 28 (0, 0)) := (b7.block gu (lt_of_heap HGU5.out)).trans HGU5.out
  have rz7 : Reads W7 W7.heap.size 1 A2 zs.length (zs.map (Value.int .i64)) := ((HRZ5.out.drewN j).below b7).more b7.size
  have ry7 : Reads W7 W7.heap.size 1 A5 zs.length (zs.map (Value.int .i64)) := ((HRY.out.drewN j).below b7).more b7.size
  have bw7 : Below w.heap.size w W7 := (below_drewN HB5.out j).trans (b7.mono HB5.out.size)
  obtain ⟨ls, hls⟩ : ∃ ls : List Int, ls = bs.map fun x : Nat => (x : Int) := ⟨_, rfl⟩
  have hll : ls.length = n := by rw [hls, List.length_map]; exact HBL.out
  have hsl : ∀ s ∈ ls, hasS zs s := by
    intro s hs
    rw [hls] at hs
    obtain ⟨x, hx, rfl⟩ := List.mem_map.1 hs
    obtain ⟨z, h1, h2⟩ := HPOS.out x (histL_pos H8.out hx)
    exact ⟨x, z, rfl, h1, h2⟩
  obtain ⟨fs, hoe, hod, hf8, hfl⟩ := round_ok HT.out (by rw [hll]; omega) hsl
  rw [hll] at hod hfl
  have hws := okT_wf HT.out
  obtain ⟨i0, hi0, hz0, hz1, hz2⟩ := info_parts info_int
  have HWF := hide hws
  have HOE := hide hoe
  have HOD := hide hod
  have HF8 := hide hf8
  have HLS := hide hls
  have HLL := hide hll
  have HG7 := hide gt7
  have HU7 := hide gu7
  have HRZ7 := hide rz7
  have HRY7 := hide ry7
  have HB7 := hide bw7
  clear he b7 gt7 gu7 rz7 ry7 bw7 hls hll hsl hoe hod hf8 hws k50 k51 k52 k53
  go_wp2_with fail
  go_loopw [14, 15] (fun l i wr => ∃ (k : Nat) (A' : Option Addr) (c' : Nat), k ≤ n ∧ i = .int .i64 k ∧ l = .slice A' k c' ∧ wr.ownsRow W7.heap.size 3 1 (.slice A' k c') k (intsV (ls.take k)) ∧ Below W7.heap.size W7 wr) (fun _ i _ => n - (intOf i).toNat)
  case atStart => exact ⟨0, none, 0, Nat.zero_le _, rfl, rfl, World.ownsRow_nil _ _ _ _, Below.refl _ _⟩
  case round =>
    obtain ⟨k, A', c', hk, rfl, rfl, hown, hb⟩ := hrel
    have hbw : Below w.heap.size w wr := HB7.out.trans (hb.mono HB7.out.size)
    by_cases hlt : k < n
    · have hkn : (k : Int) < (n : Int) := by omega
      have hwk : IntKind.i64.wrap ((k : Int) + 1) = (k : Int) + 1 := IntWalk.i64_in _ (by omega)
      obtain ⟨b, off, x, rfl, hbb, kx, hx⟩ := u8_cells (HR.out.below hbw) hlt
      have hx8 := H8.out x (List.mem_of_getElem? hx)
      have hwx : IntKind.i64.wrap (x : Int) = (x : Int) := IntWalk.i64_in _ (by omega)
      have hsnoc : intsV (ls.take k) ++ [.int .i64 (x : Int)] = intsV (ls.take (k + 1)) := by
        have h1 : ls[k]? = some (x : Int) := by rw [HLS.out, List.getElem?_map, hx]; rfl
        rw [List.take_add_one, h1]
        simp [intsV]
      have hlow := hown.lt
      have hsz := hb.size
      have HLOW := hide hlow
      have HO := hide hown
      have HB := hide hb
      have HSN := hide hsnoc
      clear hown hb hbw hbb hx hsnoc hlow
      go_wp2_with (at_builtin; refine wpList_append_any _ rfl (.tmp 85) (.tmp 91) _ rfl W7.heap.size 3 i0 _ 1 8 Try.underlying24 hi0 hz0 hz1 hz2 rfl Nat.zero_lt_one (.slice A' k c') k _ rfl (HO.out.alloc _) (wr.heap.size + 1) (some ⟨wr.heap.size, 0, none⟩) 1 1 [.int .i64 (x : Int)] rfl (reads_new wr _ _) (by simp [Value.oneCell']) (by unfold maxLen; omega) (by omega) (by simp; omega) ?_; intro v4 W4 hown4 hg4 hat4; obtain ⟨A4, c4, rfl⟩ := own_form hown4; have HO4 := hide hown4; have HG4 := hide hg4; clear hown4 hg4 hat4)
      go_roundw
      case rel =>
        have ho4 := HO4.out
        rw [HSN.out] at ho4
        refine ⟨k + 1, A4, c4, by omega, by go_num, rfl, ho4, (HB.out.alloc HB.out.size _).grown HG4.out ?_ ?_⟩
        · have := HB.out.size
          simp
          omega
        · exact fun q hq => (HLOW.out q hq).1
      case measure => simp [intOf]; try omega
    · obtain rfl : n = k := by omega
      have hge2 : ¬ (n : Int) < (n : Int) := by omega
      rw [List.take_of_length_le (by rw [HLL.out]; exact Nat.le_refl _)] at hown
      have g8 := (hb.block gt (lt_of_heap HG7.out)).trans HG7.out
      have g9 := (hb.block gu (lt_of_heap HU7.out)).trans HU7.out
      have k80 : wr.cell? ⟨gt, 0, none⟩ = some (.int .i64 (L : Int)) := cell_blk g8 0
      have k81 : wr.cell? ⟨gt, 1, none⟩ = some (.slice A2 zs.length c2) := cell_blk g8 1
      have HEN := hide (enc_any (cs := c') HOE.out wr rfl ((HRZ7.out.below hb).more hb.size) HWF.out hc1 hc2 HLL.out (Reads.of_own hown))
      have HRL8 := hide (Reads.of_own hown)
      have HRY8 := hide ((HRY7.out.below hb).more hb.size)
      have HU8 := hide g9
      have HB8 := hide hbw
      clear hown hb hbw g8 g9
      go_wp2_with fail
      refine HEN.out.mono ?_
      rintro e W9 ⟨v9, rfl, ho9, b9⟩
      obtain ⟨A9, c9, rfl⟩ := own_form ho9
      have g9 := (b9.block gu (lt_of_heap HU8.out)).trans HU8.out
      have k90 : W9.cell? ⟨gu, 0, none⟩ = some (.int .i64 (L : Int)) := cell_blk g9 0
      have k91 : W9.cell? ⟨gu, 1, none⟩ = some (.slice A5 zs.length c5) := cell_blk g9 1
      have HDC := hide (dec_any (B := A9) (cb := c9) (A := A5) (c := c5) HOD.out W9 rfl ((HRY8.out.below b9).more b9.size) HWF.out hc51 hc52 (Reads.of_own ho9) HF8.out rfl (by omega))
      have HRL9 := hide ((HRL8.out.below b9).more b9.size)
      have HB9 := hide (HB8.out.trans (b9.mono HB8.out.size))
      clear ho9 b9 g9 k80 k81
      go_wp2_with fail
      refine HDC.out.mono ?_
      rintro e W10 ⟨v10, rfl, ho10, b10⟩
      rw [HLL.out] at ho10
      obtain ⟨A10, c10, rfl⟩ := own_form ho10
      have HRT := hide (Reads.of_own ho10)
      have HRL10 := hide ((HRL9.out.below b10).more b10.size)
      have HB10 := hide (HB9.out.trans (b10.mono HB9.out.size))
      clear ho10 b10 k90 k91
      go_wp2_with fail
      go_loopw [20] (fun i wr => ∃ k : Nat, k ≤ n ∧ i = .int .i64 k ∧ ∃ m, wr = W10.drewN m) (fun i _ => n - (intOf i).toNat)
      case atStart => exact ⟨0, Nat.zero_le _, rfl, 0, rfl⟩
      case round =>
        obtain ⟨k, hk, rfl, m, rfl⟩ := hrel
        by_cases hlt : k < n
        · have hkn : (k : Int) < (n : Int) := by omega
          have hwk : IntKind.i64.wrap ((k : Int) + 1) = (k : Int) + 1 := IntWalk.i64_in _ (by omega)
          obtain ⟨b1, o1, z1, hA1, _, kz1, hz1⟩ := int_cells HRT.out hlt
          obtain ⟨b2, o2, z2, hA2, _, kz2, hz2⟩ := int_cells HRL10.out hlt
          rw [hz1] at hz2
          injection hz2 with hz2
          subst hz2 hA1 hA2
          clear hz1
          go_wp2_with fail
          go_quiet (fail)
          go_wp2_with fail
          go_roundw
          case rel => exact ⟨k + 1, by omega, by go_num, m + nq, rfl⟩
          case measure => simp [intOf]; try omega
        · obtain rfl : n = k := by omega
          have hge2 : ¬ (n : Int) < (n : Int) := by omega
          go_wp2_with fail
          refine (HKN.out _).mono ?_
          rintro e W ⟨rfl, b⟩
          have HB := hide ((below_drewN HB10.out m).trans (b.mono HB10.out.size))
          clear b
          go_wp2
          go_ret
          exact ⟨rfl, HB.out⟩
end

end Go.Proofs.Ytohgnohifojdbaa
