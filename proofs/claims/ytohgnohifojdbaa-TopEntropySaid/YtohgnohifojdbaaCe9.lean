/- cells.Build walked. -/
import Derived.Test.YtohgnohifojdbaaCe6
import Derived.Test.YtohgnohifojdbaaCe8
namespace Go.Proofs.Ytohgnohifojdbaa
set_option maxRecDepth 8000
open Go.RowKit Go
set_option linter.unusedVariables false

theorem info_cell : (Try.prog.info? 98).map (fun i => (i.zero, i.size, i.bytes)) = some (some (.agg #[.int .i64 0, .int .i64 0, .int .i64 0]), 3, 24) := by kernel_rfl

/-- A cell: its symbol, its bits, its base. -/
abbrev CellT := Int × Int × Int
def cellV (t : CellT) : List Value := [.int .i64 t.1, .int .i64 t.2.1, .int .i64 t.2.2]
def cellsV (l : List CellT) : List Value := l.flatMap cellV
theorem cellsV_append (a b : List CellT) : cellsV (a ++ b) = cellsV a ++ cellsV b := by simp [cellsV]
theorem cellsV_length (l : List CellT) : (cellsV l).length = l.length * 3 := by
  induction l with
  | nil => rfl
  | cons t l ih =>
    have e : cellsV (t :: l) = cellV t ++ cellsV l := rfl
    rw [e, List.length_append, ih, List.length_cons]
    show 3 + _ = _
    omega
theorem cellsV_one (l : List CellT) : ∀ u ∈ cellsV l, u.oneCell' = true := by
  intro u hu
  obtain ⟨t, _, ht⟩ := List.mem_flatMap.1 hu
  simp [cellV] at ht
  rcases ht with rfl | rfl | rfl <;> rfl

/-- The state x of symbol v at index k; the bits; the cell. -/
def xAt (zs : List Int) (pl : List Int) (k : Nat) : Nat := (absZ (normAt zs (pl.getD k 0).toNat)).toNat + (pl.take k).count (pl.getD k 0)
def cellAt (l : Nat) (zs : List Int) (pl : List Int) (k : Nat) : CellT :=
  (pl.getD k 0, ((l + 1 - Lib.bitLen (xAt zs pl k) : Nat) : Int), (xAt zs pl k : Int) * 2 ^ (l + 1 - Lib.bitLen (xAt zs pl k)) - ((2 ^ l : Nat) : Int))
/-- The cells of a table that may be. -/
def buildL (l : Nat) (zs : List Int) : List CellT := (List.range (2 ^ l)).map (cellAt l zs (spreadL (2 ^ l) zs))

def hadF (pl : List Int) (k : Nat) : Int → Option Int := fun j => if (pl.take k).count j = 0 then none else some (((pl.take k).count j : Nat) : Int)
theorem hadF_zero (pl : List Int) : hadF pl 0 = fun _ => none := by funext j; simp [hadF]
theorem hadF_getD (pl : List Int) (k : Nat) (j : Int) : (hadF pl k j).getD 0 = (((pl.take k).count j : Nat) : Int) := by
  unfold hadF
  split
  · next h => rw [h]; rfl
  · rfl
theorem hadF_succ {pl : List Int} {k : Nat} {v : Int} (h : pl[k]? = some v) : upd (hadF pl k) v ((((pl.take k).count v : Nat) : Int) + 1) = hadF pl (k + 1) := by
  funext j
  unfold upd hadF
  have e : pl.take (k + 1) = pl.take k ++ [v] := by rw [List.take_add_one, h, Option.toList_some]
  rw [e, List.count_append]
  by_cases hj : j = v
  · subst hj
    rw [if_pos rfl, List.count_singleton_self, if_neg (by omega)]
    simp
  · rw [if_neg hj]
    have : [v].count j = 0 := by rw [List.count_eq_zero]; simp [hj]
    rw [this, Nat.add_zero]
theorem absZ_le_sum {zs : List Int} {v : Nat} (hv : v < zs.length) : absZ (normAt zs v) ≤ sumAbs zs := by
  have h1 := sumAbs_snoc (List.getElem?_eq_getElem hv)
  have h2 := sumAbs_take_le zs (v + 1)
  have h3 := sumAbs_nonneg (zs.take v)
  rw [normAt_of (List.getElem?_eq_getElem hv)]
  omega
/-- What index k of the spread is like. -/
theorem at_index {l : Nat} {zs : List Int} (hT : okT (l : Int) zs) {k : Nat} (hk : k < 2 ^ l) : ∃ (v : Nat) (z : Int), v < zs.length ∧ (spreadL (2 ^ l) zs)[k]? = some (v : Int) ∧ zs[v]? = some z ∧ -1 ≤ z ∧ z ≠ 0 ∧
    (xAt zs (spreadL (2 ^ l) zs) k : Int) = absZ z + (((spreadL (2 ^ l) zs).take k).count (v : Int) : Int) ∧ xAt zs (spreadL (2 ^ l) zs) k < 2 ^ (l + 1) ∧ absZ z ≤ xAt zs (spreadL (2 ^ l) zs) k ∧ Lib.bitLen (xAt zs (spreadL (2 ^ l) zs) k) ≤ l + 1 := by
  obtain ⟨v, hv, hpl⟩ := spreadL_at hT hk
  have hz : zs[v]? = some zs[v] := List.getElem?_eq_getElem hv
  have hn := normAt_of hz
  have hc := spreadL_count hT v hv
  have hlt := count_take_lt hpl
  have hle := absZ_le_sum hv
  have hsum := hT.2.2.2.2
  rw [Int.toNat_natCast, show ((2 : Int) ^ l) = ((2 ^ l : Nat) : Int) by simp] at hsum
  have hl := hT.1
  rw [hn] at hc hle
  have hx : (xAt zs (spreadL (2 ^ l) zs) k : Int) = absZ zs[v] + (((spreadL (2 ^ l) zs).take k).count (v : Int) : Int) := by
    unfold xAt
    rw [List.getD_eq_getElem?_getD, hpl, Option.getD_some, Int.toNat_natCast, hn]
    have := absZ_nonneg zs[v]
    omega
  have hx2 : xAt zs (spreadL (2 ^ l) zs) k < 2 ^ (l + 1) := by rw [Nat.pow_succ]; omega
  refine ⟨v, zs[v], hv, hpl, hz, hT.2.2.2.1 _ (List.getElem_mem hv), ?_, hx, hx2, by omega, Lib.bitLen_le _ _ (by omega) hx2⟩
  intro h0
  rw [h0] at hc
  have : absZ 0 = 0 := by decide
  omega

theorem reads_cell (w : World) (t : CellT) : Reads (w.alloc (.cells #[.int .i64 t.1, .int .i64 t.2.1, .int .i64 t.2.2] 98)) (w.heap.size + 1) 3 (some ⟨w.heap.size, 0, none⟩) 1 (cellV t) := by
  refine ⟨rfl, fun _ => ⟨_, rfl, by simp, fun j u hu => ?_⟩⟩
  have hh := heap_alloc_new w (.cells #[.int .i64 t.1, .int .i64 t.2.1, .int .i64 t.2.2] 98 (0, 0))
  match j, hu with
  | 0, hu => exact (cell_blk hh 0).trans hu
  | 1, hu => exact (cell_blk hh 1).trans hu
  | 2, hu => exact (cell_blk hh 2).trans hu

set_option maxRecDepth 8000 in
set_option maxHeartbeats 8000000 in
theorem build_ok (l : Nat) (A : Option Addr) (m c : Nat) (zs : List Int) (w : World) (hm : zs.length = m) (hr : Reads w w.heap.size 1 A m (zs.map (Value.int .i64))) (hok : ∀ z ∈ zs, (Lit.int .i64 z).wf = true) (hc : m ≤ c) (hc' : c ≤ maxLen) (hT : okT (l : Int) zs) :
    Calls Try.prog 38 #[.agg #[.int .i64 (l : Int), .slice A m c]] w fun e w' =>
      ∃ v, e = .returned (.tuple #[v, .int .i64 0]) ∧ w'.ownsRow w.heap.size 98 3 v (2 ^ l) (cellsV (buildL l zs)) ∧ Below w.heap.size w w' := by
  obtain ⟨i0, hi, hz0, hz1, hz2⟩ := info_parts info_cell
  have hmm := @run_makeMap Try.prog
  have hmf : ∀ (fn : Fn) (first cap : Array Value) (w : World), (Instr.makeFunc fn first cap).run Try.prog w = .ok (.func fn first cap) w := fun _ _ _ _ => rfl
  have hl9 : l ≤ 9 := by have := hT.1; omega
  have hm256 : m ≤ 256 := by have := hT.2.1; omega
  have hS2 : 2 ^ l ≤ 2 ^ 9 := Nat.pow_le_pow_right (by omega) hl9
  have h29 : (2 : Nat) ^ 9 = 512 := by decide
  obtain ⟨W0, hW0⟩ : ∃ W0, W0 = w.alloc (.cells #[.int .i64 (l : Int), .slice A m c] 28 (0, 0)) := ⟨_, rfl⟩
  have g1 : W0.heap[w.heap.size]? = some (.cells #[.int .i64 (l : Int), .slice A m c] 28 (0, 0)) := by rw [hW0]; exact heap_alloc_new w _
  have b0 : Below w.heap.size w W0 := by rw [hW0]; exact (Below.refl w.heap.size w).alloc (Nat.le_refl _) _
  have hs0 : W0.heap.size = w.heap.size + 1 := by rw [hW0]; simp
  have HSP := hide (callsIn_wide.1 (spread_in 6 (Nat.le_refl _) l A m c zs W0 hm ((hr.below b0).more b0.size) hok hc hc' hT))
  have k00 := cell_blk g1 0
  have k01 := cell_blk g1 1
  have HIX := hide (fun k (hk : k < 2 ^ l) => at_index hT hk)
  obtain ⟨S, hS⟩ : ∃ S, S = 2 ^ l := ⟨_, rfl⟩
  have hSS := hS
  rw [← hS] at HSP HIX hS2 ⊢
  have HS := hide hSS
  have HB0 := hide b0
  have HG1 := hide g1
  have HM := hide hm
  have HR := hide hr
  have HSZ0 := hide hs0
  have HW0 := hide hW0
  clear hW0 hS hSS hr hok hm hT b0 g1 hc hc' hs0
  rw [h29] at hS2
  clear h29
  go_enter Try.func38, Try.ntmps38
  go_wp2_with fail
  rw [← HW0.out]
  refine HSP.out.mono ?_
  rintro e W1 ⟨v1, rfl, own1, b1⟩
  obtain ⟨A1, c1, rfl⟩ := own_form own1
  have G1 := hide ((b1.block w.heap.size (by have := HSZ0.out; omega)).trans HG1.out)
  have B1 := hide (HB0.out.trans (b1.mono HB0.out.size))
  have HO1 := hide own1
  have hsz1 := hide b1.size
  clear own1 b1 HG1 HSP
  go_wp2
  have x1 := alloc_far (alloc_far (alloc_far G1.out (.cells #[.slice A1 S c1] 24 (0, 0))) (.map #[] 0)) (.cells #[.map (some (W1.heap.size + 1))] 126 (0, 0))
  have x4 := alloc_far (alloc_far (heap_alloc_new W1 (.cells #[.slice A1 S c1] 24 (0, 0))) (.map #[] 0)) (.cells #[.map (some (W1.heap.size + 1))] 126 (0, 0))
  have x6 := heap_alloc_new ((W1.alloc (.cells #[.slice A1 S c1] 24 (0, 0))).alloc (.map #[] 0)) (.cells #[.map (some (W1.heap.size + 1))] 126 (0, 0))
  have xm := (MapI.made (W1.alloc (.cells #[.slice A1 S c1] 24 (0, 0)))).below ((Below.refl _ _).alloc (Nat.le_refl _) (.cells #[.map (some (W1.heap.size + 1))] 126 (0, 0)))
  have xo := ((HO1.out.alloc (.cells #[.slice A1 S c1] 24 (0, 0))).alloc (.map #[] 0)).alloc (.cells #[.map (some (W1.heap.size + 1))] 126 (0, 0))
  have xb := B1.out.trans ((((Below.refl _ W1).alloc (Nat.le_refl _) (.cells #[.slice A1 S c1] 24 (0, 0))).alloc (by simp) (.map #[] 0)).alloc (by simp; omega) (.cells #[.map (some (W1.heap.size + 1))] 126 (0, 0)) |>.mono B1.out.size)
  have xlow : ∀ q, (Value.slice A1 S c1).ownBlock = some q → W0.heap.size ≤ q ∧ q < W1.heap.size := HO1.out.lt
  simp only [World.size_alloc] at x6 xm
  obtain ⟨W2, hW2⟩ : ∃ W2, W2 = (((W1.alloc (.cells #[.slice A1 S c1] 24 (0, 0))).alloc (.map #[] 0)).alloc (.cells #[.map (some (W1.heap.size + 1))] 126 (0, 0))) := ⟨_, rfl⟩
  have hs2 : W2.heap.size = W1.heap.size + 1 + 1 + 1 := by rw [hW2]; simp
  rw [← hW2] at x1 x4 x6 xm xo xb ⊢
  have hwp : w.heap.size < W1.heap.size := by have := HSZ0.out; have := hsz1.out; omega
  obtain ⟨p, hp⟩ : ∃ p, p = W1.heap.size := ⟨_, rfl⟩
  rw [← hp] at x4 x6 xm xlow hs2 hwp ⊢
  obtain ⟨pl, hpl⟩ : ∃ pl, pl = spreadL S zs := ⟨_, rfl⟩
  rw [← hpl] at xo HIX
  rw [← hadF_zero pl] at xm
  have hbl : buildL l zs = (List.range S).map (cellAt l zs pl) := by unfold buildL; rw [← HS.out, ← hpl]
  have hpll : pl.length = S := by rw [hpl, spreadL_length]
  have HBL := hide hbl
  have HPL := hide hpll
  have X1 := hide x1
  have X4 := hide x4
  have X6 := hide x6
  have XM := hide xm
  have XO := hide xo
  have XB := hide xb
  have HLOW := hide xlow
  have HS2 := hide hs2
  have hu26 := Try.underlying89
  have HUN := hide hu26
  clear x1 x4 x6 xm xo xb hW2 hp hpl hbl hpll G1 B1 HO1 xlow hs2 hsz1 HB0 HSZ0 HW0 k00 k01 hu26
  go_loopw [8, 23] (fun out i wr => ∃ k : Nat, k ≤ S ∧ i = .int .i64 k ∧ wr.heap[w.heap.size]? = some (.cells #[.int .i64 (l : Int), .slice A m c] 28 (0, 0)) ∧ wr.heap[p + 1 + 1]? = some (.cells #[.map (some (p + 1))] 126 (0, 0)) ∧ wr.heap[p]? = some (.cells #[.slice A1 S c1] 24 (0, 0)) ∧
      (∃ cc, MapI wr (p + 1) k cc (hadF pl k)) ∧ wr.ownsRow W0.heap.size 3 1 (.slice A1 S c1) S (intsV pl) ∧ wr.ownsRow (p + 1 + 1 + 1) 98 3 out k (cellsV ((buildL l zs).take k)) ∧ Below w.heap.size w wr ∧ p + 1 + 1 + 1 ≤ wr.heap.size) (fun _ i _ => S - (intOf i).toNat)
  case atStart => exact ⟨0, Nat.zero_le _, rfl, X1.out, X6.out, X4.out, ⟨_, XM.out⟩, XO.out, World.ownsRow_nil _ _ _ _, XB.out, by rw [HS2.out]; exact Nat.le_refl _⟩
  case round =>
    obtain ⟨k, hk, rfl, y1, y6, y4, ⟨cc, hM⟩, hpo, hown, hbel, hsz⟩ := hrel
    have Y1 := hide y1
    have Y6 := hide y6
    have Y4 := hide y4
    have HM4 := hide hM
    have HPO := hide hpo
    have HO := hide hown
    have HBE := hide hbel
    have HSZ := hide hsz
    clear y1 y6 y4 hM hpo hown hbel hsz X1 X6 X4 XM XO XB HS2
    by_cases hlt : k < S
    · obtain ⟨v, z, hv, hplk, hz, hz1, hz0', hx, hx2, hxa, hbit⟩ := HIX.out k hlt
      obtain ⟨gA, cu, hAeq, _, _⟩ := HPO.out.form (by omega)
      have hA2 : A1 = some ⟨gA, 0, none⟩ := by injection hAeq
      subst hA2
      have kp := HPO.out.cellAt k (by omega)
      have hik : (intsV pl)[k]? = some (.int .i64 (v : Int)) := by simp [intsV, hplk]
      rw [hik] at kp
      have hkS : (k : Int) < (S : Int) := by omega
      obtain ⟨x, hxx⟩ : ∃ x, x = xAt zs pl k := ⟨_, rfl⟩
      rw [← hxx] at hx hx2 hxa hbit
      obtain ⟨B, hB⟩ : ∃ B, B = l + 1 - Lib.bitLen x := ⟨_, rfl⟩
      have hcell := fun (W : World) (hW : W = wr) => by
        subst hW
        exact cell_any (v := v) (z := z) (x := x) (B := B) (h := (pl.take k).count (v : Int)) Y1.out Y6.out Y4.out ((HR.out.below HBE.out).more HBE.out.size) (by have := HM.out; omega) hz HM4.out (by omega) (hadF_getD pl k v) hx hz1 hz0' hm256 hl9 HS.out hx2 (by omega)
      have HCELL := hide (hcell wr rfl)
      have hct : cellAt l zs pl k = ((v : Int), (B : Int), (x : Int) * 2 ^ B - (S : Int)) := by
        unfold cellAt
        rw [← hxx, ← hB, ← HS.out, List.getD_eq_getElem?_getD, hplk, Option.getD_some]
      have hbt : (buildL l zs).take (k + 1) = (buildL l zs).take k ++ [cellAt l zs pl k] := by
        rw [List.take_add_one, HBL.out, List.getElem?_map, List.getElem?_range hlt]
        rfl
      obtain ⟨base, hbase⟩ : ∃ base, base = (x : Int) * 2 ^ B - (S : Int) := ⟨_, rfl⟩
      rw [← hbase] at HCELL hct
      have HCT := hide hct
      have HBT := hide hbt
      have HPK := hide hplk
      clear hcell hct hbt hplk hik hz hz1 hz0' hx hx2 hxa hbit hxx hB hbase hAeq hv
      go_wp2_with fail
      refine HCELL.out.mono ?_
      rintro e w1 ⟨rfl, ⟨cc', hM1⟩, hch⟩
      rw [hadF_succ HPK.out] at hM1
      have HM5 := hide hM1
      have HCH := hide hch
      have HO5 := hide (own_chg HO.out hch (fun q hq he => by have := (HO.out.lt q hq).1; omega))
      have hsz5 := hide (Nat.le_trans HSZ.out hch.size)
      clear hM1 hch HCELL HO HM4
      go_wp2_with ((at_builtin; refine wpList_append_any _ rfl (.tmp 27) (.tmp 31) _ rfl (p + 1 + 1 + 1) 98 i0 _ 3 24 HUN.out hi hz0 hz1 hz2 rfl (by omega) _ k _ rfl (HO5.out.alloc _) (w1.heap.size + 1) (some ⟨w1.heap.size, 0, none⟩) 1 1 (cellV ((v : Int), (B : Int), base)) rfl (reads_cell w1 _) (fun u hu => cellsV_one [((v : Int), (B : Int), base)] u (by simpa [cellsV] using hu)) (by unfold maxLen; omega) (by omega) (by have := hsz5.out; simp; omega) ?_; intro v3 w3 hown3 hg3 hat3))
      go_roundw
      case rel =>
        have hlow := HO5.out.lt
        have hch3 : Chg (fun q => q = p + 1 ∨ u8.ownBlock = some q) wr w3 :=
          ((HCH.out.mono (T := fun q => q = p + 1 ∨ u8.ownBlock = some q) (fun q hq => .inl (.inl hq))).alloc _).grown hg3 (fun q hq => .inl (.inr hq))
        have hfar : ∀ q, q < p + 1 → ¬ (q = p + 1 ∨ u8.ownBlock = some q) := fun q hq h => by
          rcases h with h | h
          · omega
          · have := (hlow q h).1; omega
        have e1 : cellsV ((buildL l zs).take k) ++ cellV ((v : Int), (B : Int), base) = cellsV ((buildL l zs).take (k + 1)) := by rw [HBT.out, HCT.out, cellsV_append]; simp [cellsV]
        rw [e1] at hown3
        have hm3 : MapI w3 (p + 1) (k + 1) cc' (hadF pl (k + 1)) := HM5.out.chg (((Chg.refl (fun q => u8.ownBlock = some q) w1).alloc _).grown hg3 (fun q hq => .inl hq)) (fun h => by have := (hlow _ h).1; omega)
        exact ⟨k + 1, by omega, by go_num, hch3.heap Y1.out (hfar _ (by omega)), hch3.heap Y6.out (fun h => by rcases h with h | h; omega; have := (hlow _ h).1; omega), hch3.heap Y4.out (hfar _ (by omega)), ⟨_, hm3⟩,
          own_chg HPO.out hch3 (fun q hq => hfar q (by have := (HLOW.out q hq).2; omega)), hown3, HBE.out.trans (hch3.below (fun q hq => by rcases hq with h | h; omega; have := (hlow _ h).1; omega) HBE.out.size), Nat.le_trans HSZ.out hch3.size⟩
      case measure => simp [intOf]; try omega
    · obtain rfl : k = S := by omega
      have hge : ¬ (k : Int) < (k : Int) := by omega
      have hfull : (buildL l zs).take k = buildL l zs := List.take_of_length_le (by rw [HBL.out]; simp)
      have HFULL := hide hfull
      clear hfull
      go_wp2
      go_ret2
      have ho := HO.out
      rw [HFULL.out] at ho
      exact ⟨_, rfl, own_base ho (fun q hq => by have := (HO.out.lt q hq).1; omega), HBE.out⟩
end Go.Proofs.Ytohgnohifojdbaa
