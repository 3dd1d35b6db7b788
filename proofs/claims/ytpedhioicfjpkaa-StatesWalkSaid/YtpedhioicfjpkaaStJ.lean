/- portmanteaulaw10.StatesWalk walked. -/
import Derived.Test.YtpedhioicfjpkaaStI
import Derived.Test.YtpedhioicfjpkaaStF
namespace Go.Proofs.Ytpedhioicfjpkaa
open Go.RowKit Go Go.Shelf
set_option linter.unusedVariables false

theorem info_u64 : (Try.prog.info? 31).map (fun i => (i.zero, i.size, i.bytes)) = some (some (.int .u64 0), 1, 8) := by kernel_rfl

/-- A symbol of the table that has states. -/
def goodS (m : Nat) (zs : List Int) (y : Int) : Prop := ∃ (v : Nat) (z : Int), y = (v : Int) ∧ v < m ∧ zs[v]? = some z ∧ z ≠ 0

theorem low_exists {L m : Nat} {zs : List Int} (hT : okT (L : Int) zs) (hm : zs.length = m) {y : Int} (hy : goodS m zs y) : ∃ (k : Nat) (t : CellT), k < 2 ^ L ∧ (buildL L zs)[k]? = some t ∧ t.1 = y ∧
    ∀ (W : World) (g : Nat), CoR W g L zs → Calls Try.prog 17 #[.pointer (some ⟨g, 0, none⟩), .int .i64 y] W fun e w' => e = .returned (.tuple #[.int .i64 (k : Int), .int .i64 0]) ∧ w' = W := by
  obtain ⟨v, z, rfl, hv, hz, hz0⟩ := hy
  have hc := spreadL_count hT v (by omega)
  rw [normAt_of hz] at hc
  have hcp : 0 < (spreadL (2 ^ L) zs).count (v : Int) := by unfold absZ at hc; omega
  obtain ⟨k, e1, e2, e3, e4⟩ := posN_at (spreadL (2 ^ L) zs) (v : Int) (2 ^ L) 0 (by rw [spreadL_length]; exact Nat.le_refl _) (by rw [posN_count _ _ _ (by rw [spreadL_length]; exact Nat.le_refl _), List.take_of_length_le (by rw [spreadL_length]; exact Nat.le_refl _)]; exact hcp)
  obtain ⟨v', x, n', z', hv', hz', hz1, hzn', hn', hpl, hbl', _⟩ := cell_fact hT e2
  rw [e3] at hpl
  injection hpl with hpl
  exact ⟨k, _, e2, hbl', hpl.symm, fun W g h => lowest_ok h (by omega) e1⟩

theorem pred_exists {L m st : Nat} {zs : List Int} (hT : okT (L : Int) zs) (hm : zs.length = m) {y : Int} (hy : goodS m zs y) (hst : st < 2 ^ L) : ∃ (k r : Nat) (t : CellT), k < 2 ^ L ∧ r < 2 ^ 64 ∧ (buildL L zs)[k]? = some t ∧ t.1 = y ∧ wrap64 (t.2.2 + ((r % 2 ^ clampN t.2.1 : Nat) : Int)) = (st : Int) ∧
    ∀ (W : World) (g : Nat), CoR W g L zs → Calls Try.prog 15 #[.pointer (some ⟨g, 0, none⟩), .int .i64 (st : Int), .int .i64 y] W fun e w' => e = .returned (.tuple #[.agg #[.int .i64 (k : Int), .int .u64 (r : Int), .int .i64 t.2.1], .int .i64 0]) ∧ Below W.heap.size W w' := by
  obtain ⟨v, z, rfl, hv, hz, hz0⟩ := hy
  have hL : L ≤ 9 := by have := hT.1; omega
  obtain ⟨hp0, hp1⟩ := pow_len hL
  obtain ⟨n, hzn⟩ : ∃ n : Nat, absZ z = (n : Int) := ⟨(absZ z).toNat, by have := absZ_nonneg z; omega⟩
  have hn : 0 < n := by unfold absZ at hzn; omega
  obtain ⟨k, hk, hX1, hX2, hlen, hat, hNL, hcell⟩ := pred_cell hT hz hzn hn hst
  have hdm := Nat.div_add_mod (st + 2 ^ L) (2 ^ predN 64 (st + 2 ^ L) n)
  have hml := Nat.mod_lt (st + 2 ^ L) (show 2 ^ predN 64 (st + 2 ^ L) n > 0 from Nat.pow_pos (by omega))
  have hpx : predX L n st = (st + 2 ^ L) / 2 ^ predN 64 (st + 2 ^ L) n := rfl
  rw [← hpx, Nat.mul_comm] at hdm
  have hcl : clampN ((predN 64 (st + 2 ^ L) n : Nat) : Int) = predN 64 (st + 2 ^ L) n := by unfold clampN; omega
  have h64 : (2 : Nat) ^ 64 = 18446744073709551616 := by decide
  refine ⟨k, (st + 2 ^ L) % 2 ^ predN 64 (st + 2 ^ L) n, _, hk, ?_, hcell, rfl, ?_, fun W g h => ?_⟩
  · have := Nat.mod_le (st + 2 ^ L) (2 ^ predN 64 (st + 2 ^ L) n)
    omega
  · simp only
    rw [hcl, Nat.mod_eq_of_lt hml]
    unfold wrap64
    omega
  · exact (pred_ok h hT hz hzn hn hst).mono fun e w' ⟨⟨k', h1, h2⟩, h3⟩ => ⟨by rw [hat] at h1; injection h1 with h1; rw [h2, h1], h3⟩

/-- The chain of states from j on. -/
def chainS (L n lo : Nat) (zs ys : List Int) (f rr : Nat → Nat) : Prop := ∀ j, lo ≤ j → j < n → f j < 2 ^ L ∧ ∃ t, (buildL L zs)[f j]? = some t ∧ ys[j]? = some t.1 ∧ (j + 1 < n → rr j < 2 ^ 64 ∧ wrap64 (t.2.2 + ((rr j % 2 ^ clampN t.2.1 : Nat) : Int)) = (f (j + 1) : Int))
def bitsV (n d : Nat) (rr : Nat → Nat) : List Value := (List.range d).map fun q => .int .u64 (rr (n - 2 - q) : Int)
theorem bitsV_length (n d : Nat) (rr : Nat → Nat) : (bitsV n d rr).length = d := by simp [bitsV]
theorem bitsV_succ (n d : Nat) (rr : Nat → Nat) : bitsV n (d + 1) rr = bitsV n d rr ++ [.int .u64 (rr (n - 2 - d) : Int)] := by simp [bitsV, List.range_succ]
theorem bitsV_same {n d : Nat} {rr rr' : Nat → Nat} (h : ∀ q, q < d → rr (n - 2 - q) = rr' (n - 2 - q)) : bitsV n d rr = bitsV n d rr' := by
  unfold bitsV
  refine List.map_congr_left fun q hq => ?_
  rw [h q (by simpa using hq)]
theorem chain_next {L n j k r : Nat} {zs ys : List Int} {f rr : Nat → Nat} {t : CellT} (h : chainS L n (j + 1) zs ys f rr) (hj : j + 1 < n) (hk : k < 2 ^ L) (hr : r < 2 ^ 64) (ht : (buildL L zs)[k]? = some t) (hy : ys[j]? = some t.1) (hw : wrap64 (t.2.2 + ((r % 2 ^ clampN t.2.1 : Nat) : Int)) = (f (j + 1) : Int)) :
    chainS L n j zs ys (fun i => if i = j then k else f i) (fun i => if i = j then r else rr i) := by
  intro i hi hin
  by_cases hij : i = j
  · subst hij
    exact ⟨by simp [hk], t, by simp [ht], hy, fun _ => ⟨by simp [hr], by simpa using hw⟩⟩
  · have h5 := h i (by omega) hin
    simpa [hij, show ¬ (i + 1 = j) by omega] using h5

set_option maxRecDepth 4000 in
set_option maxHeartbeats 8000000 in
theorem walk_StatesWalk {w : World} (l : Int) (A : Option Addr) (m c : Nat) (zs : List Int) (wl : (Lit.int .i64 l).wf = true) (hm : zs.length = m) (hr : Reads w w.heap.size 1 A m (zs.map (Value.int .i64))) (hok : ∀ z ∈ zs, (Lit.int .i64 z).wf = true) (hc' : c ≤ maxLen) (hc : m ≤ c) (A2 : Option Addr) (n2 c2 : Nat) (ys : List Int) (hn2 : ys.length = n2) (hr2 : Reads w w.heap.size 1 A2 n2 (ys.map (Value.int .i64))) (hok2 : ∀ z ∈ ys, (Lit.int .i64 z).wf = true) (hm2 : c2 ≤ maxLen) (hc2 : n2 ≤ c2) :
    Calls Try.prog 8 #[.agg #[.int .i64 l, .slice A m c], .slice A2 n2 c2] w fun e w' => e = .returned (.bool true) ∧ Below w.heap.size w w' := by
  have HKN := hide known_any
  obtain ⟨W0, hW0⟩ : ∃ W0, W0 = w.alloc (.cells #[.int .i64 l, .slice A m c] 24 (0, 0)) := ⟨_, rfl⟩
  have g0 : W0.heap[w.heap.size]? = some (.cells #[.int .i64 l, .slice A m c] 24 (0, 0)) := by rw [hW0]; exact heap_alloc_new w _
  have b0 : Below w.heap.size w W0 := by rw [hW0]; exact (Below.refl w.heap.size w).alloc (Nat.le_refl _) _
  have hs0 : w.heap.size < W0.heap.size := lt_of_heap g0
  have k00 := cell_blk g0 0
  have k01 := cell_blk g0 1
  have HB0 := hide b0
  have HW0 := hide hW0
  have HR0 := hide ((hr.below b0).more b0.size)
  have HG0 := hide g0
  have HS0 := hide hs0
  have HM := hide hm
  clear b0 hW0 hr g0 hs0
  by_cases hbig : 300 < m
  · have hb' : (300 : Int) < (m : Int) := by omega
    clear hr2
    go_enter Try.func8, Try.ntmps8
    go_wp2_with fail
    try rw [← HW0.out]
    go_wp2_with fail
    refine (HKN.out _).mono ?_
    rintro e W9 ⟨rfl, b9⟩
    have HB9 := hide (HB0.out.trans (b9.mono HB0.out.size))
    clear b9
    go_wp2
    go_ret
    exact ⟨rfl, HB9.out⟩
  have hb' : ¬ (300 : Int) < (m : Int) := by omega
  by_cases hb2 : 200 < n2
  · have hb2' : (200 : Int) < (n2 : Int) := by omega
    clear hr2
    go_enter Try.func8, Try.ntmps8
    go_wp2_with fail
    try rw [← HW0.out]
    go_wp2_with fail
    refine (HKN.out _).mono ?_
    rintro e W9 ⟨rfl, b9⟩
    have HB9 := hide (HB0.out.trans (b9.mono HB0.out.size))
    clear b9
    go_wp2
    go_ret
    exact ⟨rfl, HB9.out⟩
  have hb2' : ¬ (200 : Int) < (n2 : Int) := by omega
  by_cases hb3 : n2 = 0
  · subst hb3
    clear hr2
    go_enter Try.func8, Try.ntmps8
    go_wp2_with fail
    try rw [← HW0.out]
    go_wp2_with fail
    refine (HKN.out _).mono ?_
    rintro e W9 ⟨rfl, b9⟩
    have HB9 := hide (HB0.out.trans (b9.mono HB0.out.size))
    clear b9
    go_wp2
    go_ret
    exact ⟨rfl, HB9.out⟩
  have hb3' : ((n2 : Int) == 0) = false := by simp; omega
  have HMAY := hide (may_any 9 l A m c zs W0 (.inl rfl) hm HR0.out hok hc hc')
  by_cases hT : ¬ okT l zs
  · have HT := hide hT
    clear hT hr2
    go_enter Try.func8, Try.ntmps8
    go_wp2_with fail
    try rw [← HW0.out]
    go_wp2_with fail
    refine HMAY.out.mono ?_
    rintro e W1 ⟨he, b1⟩
    obtain rfl : e = .returned (.int .i64 13) := he.elim (fun h => absurd h.1 HT.out) (fun h => h.2)
    have HB1 := hide (HB0.out.trans (b1.mono HB0.out.size))
    clear b1 he
    go_wp2_with fail
    refine (HKN.out _).mono ?_
    rintro e W9 ⟨rfl, b9⟩
    have HB9 := hide (HB1.out.trans (b9.mono HB1.out.size))
    clear b9
    go_wp2
    go_ret
    exact ⟨rfl, HB9.out⟩
  replace hT := Classical.not_not.1 hT
  obtain ⟨L, rfl⟩ := Int.eq_ofNat_of_zero_le hT.1.1
  have hL : L ≤ 9 := by have := hT.1; omega
  obtain ⟨i0, hi, hz0, hz1, hz2⟩ := info_parts info_u64
  obtain ⟨b2, o2, rfl, hbb, hcell⟩ := hr2.open_ (by omega) (by omega)
  have HBG := hide (fun W hr => begin_ok L A m c zs W hm hr hok hc hc' hT)
  have HLO := hide (fun y (hy : goodS m zs y) => low_exists hT hm hy)
  have HPE := hide (fun y st (hy : goodS m zs y) (hst : st < 2 ^ L) => pred_exists (st := st) hT hm hy hst)
  have HCM := hide (fun (W : World) (g s : Nat) (t : CellT) (h : CoR W g L zs) hs ht => cellm_ok (st := s) (t := t) h hs ht)
  have HNM := hide (fun (W : World) (g s r : Nat) (t : CellT) (h : CoR W g L zs) hs ht hr => nextm_ok (s := s) (t := t) h hs ht r hr)
  have HT := hide hT
  have HCELL := hide (fun (j : Nat) (y : Int) (h : ys[j]? = some y) => (show w.cell? ⟨b2, o2 + j, none⟩ = some (.int .i64 y) from hcell j _ (by simp [h])))
  have HN2 := hide hn2
  have hn0 : 0 < n2 := by omega
  clear hT hm hok hr2 hcell hn2 hok2 hb3
  go_enter Try.func8, Try.ntmps8
  go_wp2_with fail
  try rw [← HW0.out]
  go_wp2_with fail
  refine HMAY.out.mono ?_
  rintro e W1 ⟨he, b1⟩
  obtain rfl : e = .returned (.int .i64 0) := he.elim (fun h => h.2) (fun h => absurd HT.out h.1)
  have g1 := (b1.block _ HS0.out).trans HG0.out
  have k10 := cell_blk g1 0
  have k11 := cell_blk g1 1
  have HG1 := hide g1
  have HB1 := hide (HB0.out.trans (b1.mono HB0.out.size))
  have HR1 := hide ((HR0.out.below b1).more b1.size)
  have HS1 := hide (Nat.lt_of_lt_of_le HS0.out b1.size)
  clear b1 g1
  go_wp2_with fail
  clear k00 k01 k10 k11
  go_loopw [5] (fun iv wr => ∃ i : Nat, i ≤ n2 ∧ iv = .int .i64 i ∧ (∀ j y, j < i → ys[j]? = some y → goodS m zs y) ∧ wr.heap[w.heap.size]? = some (.cells #[.int .i64 (L : Int), .slice A m c] 24 (0, 0)) ∧ Reads wr wr.heap.size 1 A m (zs.map (Value.int .i64)) ∧ Below w.heap.size w wr) (fun iv _ => n2 - (intOf iv).toNat)
  case atStart => exact ⟨0, Nat.zero_le _, rfl, fun j y hj => absurd hj (by omega), HG1.out, HR1.out, HB1.out⟩
  case round =>
    obtain ⟨i, hi2, rfl, hgood, y1, hrd, hb⟩ := hrel
    have q0 : wr.cell? ⟨w.heap.size, 0, none⟩ = some (.int .i64 (L : Int)) := cell_blk y1 0
    have q1 : wr.cell? ⟨w.heap.size, 1, none⟩ = some (.slice A m c) := cell_blk y1 1
    have lt0 := lt_of_heap y1
    have HGD := hide hgood
    have HY1 := hide y1
    have HRD := hide hrd
    have HB := hide hb
    by_cases hlt : i < n2
    · obtain ⟨y, hy⟩ : ∃ y, ys[i]? = some y := ⟨_, List.getElem?_eq_getElem (by have := HN2.out; omega)⟩
      have ky := (hb.cell (p := ⟨b2, o2 + i, none⟩) hbb).trans (HCELL.out i y hy)
      have lt1 : b2 < wr.heap.size := Nat.lt_of_lt_of_le hbb (Nat.le_of_lt lt0)
      have hin : (i : Int) < (n2 : Int) := by omega
      have HY := hide hy
      clear hgood y1 hrd hb hy
      rcases has_cases y HM.out with hbad | hgd
      · have hhas := has_no (w := wr.drew) (l := (L : Int)) (c := c) HM.out HRD.out hbad
        have HHAS := hide hhas
        clear hbad hhas
        go_wp2_with fail
        go_region_held3 (fun w' => w'.cell? ⟨w.heap.size, 0, none⟩ = some (.int .i64 (L : Int)) ∧ w'.cell? ⟨w.heap.size, 1, none⟩ = some (.slice A m c) ∧ w'.cell? ⟨b2, o2 + i, none⟩ = some (.int .i64 y)) (go_keep)
          (first
          | (go_at_call 19; refine HHAS.out.mono ?_; rintro e x1 ⟨rfl, hx1⟩; replace hx1 := (Below.refl _ wr).drew.trans hx1; have j0 := (hx1.cell (p := ⟨w.heap.size, 0, none⟩) lt0).trans q0; have j1 := (hx1.cell (p := ⟨w.heap.size, 1, none⟩) lt0).trans q1; have j2 := (hx1.cell (p := ⟨b2, o2 + i, none⟩) lt1).trans ky; have HX1 := hide hx1; clear hx1))
        have HB2 := hide (HB.out.trans (HX1.out.mono HB.out.size))
        go_wp2_with fail
        refine (HKN.out _).mono ?_
        rintro e W9 ⟨rfl, b9⟩
        have HB9 := hide (HB2.out.trans (b9.mono HB2.out.size))
        clear b9
        go_wp2
        go_ret
        exact ⟨rfl, HB9.out⟩
      · obtain ⟨v, z, rfl, hvm, hz, hz0'⟩ := hgd
        have hhas := has_yes (w := wr.drew) (l := (L : Int)) (c := c) HM.out HRD.out hvm hz hz0'
        have HHAS := hide hhas
        have HGO := hide (show goodS m zs (v : Int) from ⟨v, z, rfl, hvm, hz, hz0'⟩)
        clear hhas hvm hz hz0'
        go_wp2_with fail
        go_region_held3 (fun w' => w'.cell? ⟨w.heap.size, 0, none⟩ = some (.int .i64 (L : Int)) ∧ w'.cell? ⟨w.heap.size, 1, none⟩ = some (.slice A m c) ∧ w'.cell? ⟨b2, o2 + i, none⟩ = some (.int .i64 (v : Int))) (go_keep)
          (first
          | (go_at_call 19; refine HHAS.out.mono ?_; rintro e x1 ⟨rfl, hx1⟩; replace hx1 := (Below.refl _ wr).drew.trans hx1; have j0 := (hx1.cell (p := ⟨w.heap.size, 0, none⟩) lt0).trans q0; have j1 := (hx1.cell (p := ⟨w.heap.size, 1, none⟩) lt0).trans q1; have j2 := (hx1.cell (p := ⟨b2, o2 + i, none⟩) lt1).trans ky; have HX1 := hide hx1; clear hx1))
        go_wp2
        go_roundw
        case rel =>
          refine ⟨i + 1, by omega, by go_num, fun j y hj hjy => ?_, (HX1.out.block _ lt0).trans HY1.out, (HRD.out.below HX1.out).more HX1.out.size, HB.out.trans (HX1.out.mono HB.out.size)⟩
          by_cases hji : j < i
          · exact HGD.out j y hji hjy
          · obtain rfl : j = i := by omega
            rw [HY.out] at hjy
            injection hjy with hjy
            rw [← hjy]
            exact HGO.out
        case measure => simp [intOf]; omega
    · obtain rfl : n2 = i := by omega
      have hbg := HBG.out _ hrd
      have HBGW := hide hbg
      have HAG := hide (fun j y (h : ys[j]? = some y) => hgood j y (by
        rcases Nat.lt_or_ge j ys.length with h1 | h1
        · have := HN2.out; omega
        · rw [List.getElem?_eq_none h1] at h; cases h) h)
      clear hgood y1 hrd hb hbg HGD HBG
      go_wp2_with fail
      refine HBGW.out.mono ?_
      rintro e W3 ⟨g, rfl, hco, _, b3⟩
      have HB3 := hide (HB.out.trans (b3.mono HB.out.size))
      have HCO3 := hide hco
      obtain ⟨yl, hyl⟩ : ∃ yl, ys[n2 - 1]? = some yl := ⟨_, List.getElem?_eq_getElem (by have := HN2.out; omega)⟩
      obtain ⟨k0, t0, hk0, ht0, hty, hlow⟩ := HLO.out yl (HAG.out _ _ hyl)
      have ky := (HB3.out.cell (p := ⟨b2, o2 + (n2 - 1), none⟩) hbb).trans (HCELL.out _ yl hyl)
      obtain ⟨nl, hnl⟩ : ∃ nl, nl = n2 - 1 := ⟨_, rfl⟩
      rw [← hnl] at ky hyl
      have hwl : IntKind.i64.wrap ((n2 : Int) - 1) = (nl : Int) := by rw [IntWalk.i64_in _ (by omega)]; omega
      have hnl2 : (nl : Int) < (n2 : Int) := by omega
      have HCH := hide (show chainS L n2 nl zs ys (fun _ => k0) (fun _ => 0) from fun j h1 h2 => ⟨hk0, t0, ht0, by rw [hty, show j = nl by omega]; exact hyl, fun h3 => by omega⟩)
      have hlw := hlow W3 g HCO3.out
      have HLW := hide hlw
      have HNL := hide hnl
      clear b3 hco hyl hk0 ht0 hty hlow hlw hnl q0 q1 HBGW HLO
      go_wp2_with fail
      refine HLW.out.mono ?_
      rintro e W4 ⟨rfl, rfl⟩
      have hw2 : IntKind.i64.wrap ((n2 : Int) - 2) = (n2 : Int) - 2 := IntWalk.i64_in _ (by omega)
      have hn200 : n2 ≤ 200 := by omega
      clear ky hwl
      go_wp2
      go_loopw [7, 9, 10] (fun sv bv iv wr => ∃ (d : Nat) (f rr : Nat → Nat), d ≤ nl ∧ iv = .int .i64 ((n2 : Int) - 2 - (d : Int)) ∧ sv = .int .i64 (f (n2 - 1 - d) : Int) ∧ chainS L n2 (n2 - 1 - d) zs ys f rr ∧ wr.ownsRow W4.heap.size 31 1 bv d (bitsV n2 d rr) ∧ Below W4.heap.size W4 wr) (fun _ _ iv _ => (intOf iv + 2).toNat)
      case atStart => exact ⟨0, _, _, Nat.zero_le _, by simp, rfl, by rw [Nat.sub_zero, ← HNL.out]; exact HCH.out, World.ownsRow_nil _ _ _ _, Below.refl _ _⟩
      case round =>
        obtain ⟨d, f, rr, hd, rfl, rfl, hch, hown, hb4⟩ := hrel
        have hb := HB3.out.trans (hb4.mono HB3.out.size)
        have hco := HCO3.out.below hb4
        have HB4 := hide hb4
        have hnl := HNL.out
        by_cases hdn : d < nl
        · obtain ⟨j, hj⟩ : ∃ j, j = n2 - 2 - d := ⟨_, rfl⟩
          have hji : (n2 : Int) - 2 - (d : Int) = (j : Int) := by omega
          have hj1 : n2 - 1 - d = j + 1 := by omega
          rw [hji, hj1]
          rw [hj1] at hch
          obtain ⟨y, hy⟩ : ∃ y, ys[j]? = some y := ⟨_, List.getElem?_eq_getElem (by have := HN2.out; omega)⟩
          obtain ⟨k, r, t, hk, hr, ht, hty, hwt, hpr⟩ := HPE.out y (f (j + 1)) (HAG.out _ _ hy) (hch (j + 1) (Nat.le_refl _) (by omega)).1
          have ky := (hb.cell (p := ⟨b2, o2 + j, none⟩) hbb).trans (HCELL.out _ y hy)
          have hprw := hpr _ g hco
          have HPR := hide hprw
          have hch2 := chain_next hch (by omega) hk hr ht (by rw [hty]; exact hy) hwt
          have HCH2 := hide hch2
          have HJ := hide hj
          have HO := hide hown
          have HB := hide hb
          have HCO := hide hco
          have hjn : (j : Int) < (n2 : Int) := by omega
          have hj0 : (0 : Int) ≤ (j : Int) := by omega
          have hwj : IntKind.i64.wrap ((j : Int) - 1) = (j : Int) - 1 := IntWalk.i64_in _ (by omega)
          have HD := hide (show (j : Int) - 1 = (n2 : Int) - 2 - ((d + 1 : Nat) : Int) by omega)
          have HD2 := hide (show n2 - 1 - (d + 1) = j by omega)
          obtain ⟨tb, htb⟩ : ∃ tb, tb = t.2.1 := ⟨_, rfl⟩
          rw [← htb] at HPR
          have hd200 : d ≤ 200 := by omega
          clear hch hown hb hb4 hco hy hk hr ht hty hwt hpr hprw hch2 hj hji hj1 hnl htb
          go_wp2_with fail
          refine HPR.out.mono ?_
          rintro e W5 ⟨rfl, b5⟩
          obtain ⟨W6, hW6⟩ : ∃ W6, W6 = W5.alloc (.cells #[.int .i64 (k : Int), .int .u64 (r : Int), .int .i64 tb] 33 (0, 0)) := ⟨_, rfl⟩
          have hg6 : W6.heap[W5.heap.size]? = some (.cells #[.int .i64 (k : Int), .int .u64 (r : Int), .int .i64 tb] 33 (0, 0)) := by rw [hW6]; exact heap_alloc_new W5 _
          have HB6 : Hid (Below W4.heap.size W4 W6) := by rw [hW6]; exact (HB4.out.trans (b5.mono HB4.out.size)).alloc (Nat.le_trans HB4.out.size b5.size) _
          have HO6 : Hid (W6.ownsRow W4.heap.size 31 1 u9 d (bitsV n2 d rr)) := by rw [hW6]; exact (own_below HO.out b5).alloc _
          have a0 := cell_blk hg6 0
          have a1 := cell_blk hg6 1
          rw [hW6] at a0 a1
          have HW6 := hide hW6
          clear hg6 hW6 b5 HPR
          have hown6 := HO6.out
          rw [HW6.out] at hown6
          have HOW6 := hide hown6
          have hrn := reads_new (W5.alloc (.cells #[.int .i64 (k : Int), .int .u64 (r : Int), .int .i64 tb] 33 (0, 0))) (.int .u64 (r : Int)) 31
          rw [World.size_alloc] at hrn
          have HRN := hide hrn
          have hsz6 : W4.heap.size ≤ ((W5.alloc (.cells #[.int .i64 (k : Int), .int .u64 (r : Int), .int .i64 tb] 33 (0, 0))).alloc (.cells #[.int .u64 (r : Int)] 31)).heap.size := by have := HB6.out.size; rw [HW6.out] at this; simp at this ⊢; omega
          clear hown6 hrn
          go_wp2_with (at_builtin; refine wpList_append_any _ rfl (.tmp 88) (.tmp 91) _ rfl W4.heap.size 31 i0 _ 1 8 Try.underlying59 hi hz0 hz1 hz2 rfl Nat.zero_lt_one u9 d _ rfl (HOW6.out.alloc _) (W5.heap.size + 1 + 1) (some ⟨W5.heap.size + 1, 0, none⟩) 1 1 [.int .u64 (r : Int)] rfl HRN.out (by simp [Value.oneCell']) (by unfold maxLen; omega) (by omega) hsz6 ?_; intro v3 w3 hown3 hg3 hat3)
          rw [← HW6.out] at hg3
          go_roundw
          case rel =>
            refine ⟨d + 1, (fun i => if i = j then k else f i), (fun i => if i = j then r else rr i), by omega, by rw [← HD.out], ?_, ?_, ?_, ?_⟩
            · rw [HD2.out]; simp
            · rw [HD2.out]; exact HCH2.out
            · have e1 : bitsV n2 d rr ++ [.int .u64 (r : Int)] = bitsV n2 (d + 1) (fun i => if i = j then r else rr i) := by
                rw [bitsV_succ, ← HJ.out, if_pos rfl]
                congr 1
                refine bitsV_same fun q hq => ?_
                have := HJ.out
                rw [if_neg (by omega)]
              rw [e1] at hown3
              exact hown3
            · exact ((HB6.out.alloc HB6.out.size _).grown hg3 (by rw [HW6.out]; exact hsz6) (fun q hq => (HO6.out.lt q hq).1))
          case measure => simp [intOf]; omega
        · obtain rfl : nl = d := by omega
          have hlo : n2 - 1 - nl = 0 := by omega
          rw [hlo] at hch
          have HCF := hide hch
          obtain ⟨A9, c9, rfl⟩ := own_form hown
          have HO := hide hown
          have hge : ¬ (0 : Int) ≤ (n2 : Int) - 2 - (nl : Int) := by omega
          rw [hlo]
          have HNL2 := hide hnl
          clear hch hown hb hco hb4 HNL HCH HPE hnl hlo
          go_wp2
          go_loopw [7, 13] (fun sv iv wr => ∃ i : Nat, i ≤ n2 ∧ iv = .int .i64 i ∧ (i < n2 → sv = .int .i64 (f i : Int)) ∧ wr.ownsRow W4.heap.size 31 1 (.slice A9 nl c9) nl (bitsV n2 nl rr) ∧ Below W4.heap.size W4 wr) (fun _ iv _ => n2 - (intOf iv).toNat)
          case atStart => exact ⟨0, Nat.zero_le _, rfl, fun _ => rfl, HO.out, HB4.out⟩
          case round =>
            obtain ⟨i, hi3, rfl, hsv, hown, hb4⟩ := hrel
            have hb := HB3.out.trans (hb4.mono HB3.out.size)
            have hco := HCO3.out.below hb4
            have HB5 := hide hb4
            have HO5 := hide hown
            have HCO5 := hide hco
            have HBW := hide hb
            by_cases hlt : i < n2
            · obtain rfl := hsv hlt
              obtain ⟨hfi, ⟨x, y, z⟩, ht, hy, hnx⟩ := HCF.out i (Nat.zero_le _) hlt
              have hcm := HCM.out wr g (f i) (x, y, z) hco hfi ht
              simp only at hcm hy hnx
              have HC := hide hcm
              have ky := (hb.cell (p := ⟨b2, o2 + i, none⟩) hbb).trans (HCELL.out i x hy)
              have hbw := Nat.lt_of_lt_of_le hbb hb.size
              have hin : (i : Int) < (n2 : Int) := by omega
              have hxx : (x != x) = false := by simp
              have HFI := hide hfi
              have HT2 := hide ht
              have HNX := hide hnx
              clear hcm hown hb4 hb hco hfi ht hy hnx hsv
              go_wp2_with fail
              refine HC.out.mono ?_
              rintro e W6 ⟨rfl, b6⟩
              obtain ⟨W7, hW7⟩ : ∃ W7, W7 = W6.alloc (.cells #[.int .i64 x, .int .i64 y, .int .i64 z] 53 (0, 0)) := ⟨_, rfl⟩
              have hg7 : W7.heap[W6.heap.size]? = some (.cells #[.int .i64 x, .int .i64 y, .int .i64 z] 53 (0, 0)) := by rw [hW7]; exact heap_alloc_new W6 _
              have b7 : Below wr.heap.size wr W7 := by rw [hW7]; exact b6.alloc b6.size _
              have a0 : W7.cell? ⟨W6.heap.size, 0, none⟩ = some (.int .i64 x) := cell_blk hg7 0
              have ky7 := (b7.cell (p := ⟨b2, o2 + i, none⟩) hbw).trans ky
              have HB7 := hide (HB5.out.trans (b7.mono HB5.out.size))
              have HO7 := hide (own_below HO5.out b7)
              have HCO7 := hide (HCO5.out.below b7)
              have HW7 := hide hW7
              clear hg7 hW7 b6 b7 ky HC
              go_wp2_with fail
              try rw [← HW7.out]
              go_wp2_with fail
              go_quiet (fail)
              obtain ⟨W8, hW8⟩ : ∃ W8, W8 = W7.drewN nq := ⟨_, rfl⟩
              have HB8 : Hid (Below W4.heap.size W4 W8) := by rw [hW8]; exact HB7.out.trans (below_drewN (Below.refl _ _) _)
              have HO8 : Hid (W8.ownsRow W4.heap.size 31 1 (.slice A9 nl c9) nl (bitsV n2 nl rr)) := by rw [hW8]; exact HO7.out
              have HCO8 : Hid (CoR W8 g L zs) := by rw [hW8]; exact HCO7.out.drewN _
              rw [← hW8]
              clear hW8 a0 ky7 HB7 HO7 HCO7
              by_cases hlast : i + 1 < n2
              · have hnl := HNL2.out
                obtain ⟨hr64, hwf⟩ := HNX.out hlast
                have hnm := HNM.out W8 g (f i) (rr i) (x, y, z) HCO8.out HFI.out HT2.out hr64
                simp only at hnm
                rw [hwf] at hnm
                have HN := hide hnm
                have hinl : (i : Int) < (nl : Int) := by omega
                obtain ⟨p, hp⟩ : ∃ p, p = nl - 1 - i := ⟨_, rfl⟩
                have hw1 : IntKind.i64.wrap ((nl : Int) - 1) = (nl : Int) - 1 := IntWalk.i64_in _ (by omega)
                have hw2' : IntKind.i64.wrap ((nl : Int) - 1 - (i : Int)) = (p : Int) := by rw [IntWalk.i64_in _ (by omega)]; omega
                have hpn : (p : Int) < (nl : Int) := by omega
                obtain ⟨g9, cu9, hA, _, _⟩ := HO8.out.form (by omega)
                have hA' : A9 = some ⟨g9, 0, none⟩ := by injection hA
                subst hA'
                have kb := HO8.out.cellAt p (by omega)
                rw [show (bitsV n2 nl rr)[p]? = some (.int .u64 (rr i : Int)) by
                  unfold bitsV
                  rw [List.getElem?_map, List.getElem?_range (by omega), Option.map_some, show n2 - 2 - p = i by omega]] at kb
                clear hnm hr64 hwf hp hA hnl
                go_wp2_with fail
                refine HN.out.mono ?_
                rintro e W10 ⟨rfl, b10⟩
                have HB10 := hide (HB8.out.trans (b10.mono HB8.out.size))
                have HO10 := hide (own_below HO8.out b10)
                clear b10
                go_wp2
                go_roundw
                case rel => exact ⟨i + 1, by omega, by go_num, fun _ => rfl, HO10.out, HB10.out⟩
                case measure => simp [intOf]; omega
              · have hnl := HNL2.out
                have hinl : ¬ (i : Int) < (nl : Int) := by omega
                clear hnl
                go_wp2
                go_roundw
                case rel => exact ⟨i + 1, by omega, by go_num, fun h => absurd h (by omega), HO8.out, HB8.out⟩
                case measure => simp [intOf]; omega
            · obtain rfl : n2 = i := by omega
              clear hsv hown hb4 hb hco
              go_wp2_with fail
              refine (HKN.out _).mono ?_
              rintro e W9 ⟨rfl, b9⟩
              have HB9 := hide (HBW.out.trans (b9.mono HBW.out.size))
              clear b9
              go_wp2
              go_ret
              exact ⟨rfl, HB9.out⟩
end Go.Proofs.Ytpedhioicfjpkaa
