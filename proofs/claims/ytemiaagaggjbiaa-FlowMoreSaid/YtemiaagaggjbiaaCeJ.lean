/- portmanteauref09.Of walked. -/
import Derived.Test.YtemiaagaggjbiaaCeI
import Derived.Lib.BitFns
namespace Go.Proofs.Ytemiaagaggjbiaa
set_option maxRecDepth 8000
open Go.RowKit Go
set_option linter.unusedVariables false

set_option maxHeartbeats 1000000 in
theorem ref9_bad (l : Int) (A : Option Addr) (m c : Nat) (zs : List Int) (w : World) (hm : zs.length = m) (hr : Reads w w.heap.size 1 A m (zs.map (Value.int .i64))) (hok : ∀ z ∈ zs, (Lit.int .i64 z).wf = true) (hc : m ≤ c) (hc' : c ≤ maxLen) (hT : ¬ okT l zs) :
    Calls Try.prog 29 #[.agg #[.int .i64 l, .slice A m c]] w fun e w' => e = .returned (.tuple #[.slice none 0 0, .int .i64 13]) ∧ Below w.heap.size w w' := by
  obtain ⟨W0, hW0⟩ : ∃ W0, W0 = w.alloc (.cells #[.int .i64 l, .slice A m c] 24 (0, 0)) := ⟨_, rfl⟩
  have g1 : W0.heap[w.heap.size]? = some (.cells #[.int .i64 l, .slice A m c] 24 (0, 0)) := by rw [hW0]; exact heap_alloc_new w _
  have b0 : Below w.heap.size w W0 := by rw [hW0]; exact (Below.refl w.heap.size w).alloc (Nat.le_refl _) _
  have HRB := hide (ref8_bad l A m c zs W0 hm ((hr.below b0).more b0.size) hok hc hc' hT)
  have k00 := cell_blk g1 0
  have k01 := cell_blk g1 1
  have HB0 := hide b0
  have HW0 := hide hW0
  clear b0 hW0 g1 hr hok hc hc' hm hT
  go_enter Try.func29, Try.ntmps29
  go_wp2_with fail
  rw [← HW0.out]
  go_wp2_with fail
  refine HRB.out.mono ?_
  rintro e w1 ⟨rfl, b1⟩
  have HB1 := hide (HB0.out.trans (b1.mono HB0.out.size))
  clear b1
  go_wp2
  go_ret2
  exact ⟨rfl, HB1.out⟩

/-- Where halving ends. -/
theorem bitLen_end {x d : Nat} (hx : x < 2 ^ 64) (h0 : 1 ≤ x / 2 ^ d) (h1 : x / 2 ^ d ≤ 1) : Lib.bitLen x = d + 1 := by
  have h2 : 2 ^ d ≤ x := by
    rcases Nat.lt_or_ge x (2 ^ d) with h | h
    · rw [Nat.div_eq_of_lt h] at h0; omega
    · exact h
  rw [Lib.bitLen_shift d x h2 hx, show x / 2 ^ d = 1 by omega]
  rfl

set_option maxRecDepth 8000 in
set_option maxHeartbeats 8000000 in
theorem ref9_ok (l : Nat) (A : Option Addr) (m c : Nat) (zs : List Int) (w : World) (hm : zs.length = m) (hr : Reads w w.heap.size 1 A m (zs.map (Value.int .i64))) (hok : ∀ z ∈ zs, (Lit.int .i64 z).wf = true) (hc : m ≤ c) (hc' : c ≤ maxLen) (hT : okT (l : Int) zs) :
    Calls Try.prog 29 #[.agg #[.int .i64 (l : Int), .slice A m c]] w fun e w' =>
      ∃ v, e = .returned (.tuple #[v, .int .i64 0]) ∧ w'.ownsRow w.heap.size 62 3 v (2 ^ l) (cellsV (buildL l zs)) ∧ Below w.heap.size w w' := by
  obtain ⟨i0, hi, hz0, hz1, hz2⟩ := info_parts info_cell
  have hl9 : l ≤ 9 := by have := hT.1; omega
  have hm256 : m ≤ 256 := by have := hT.2.1; omega
  have hm0 : 0 < m := by have := hT.2.1; omega
  have hS2 : 2 ^ l ≤ 2 ^ 9 := Nat.pow_le_pow_right (by omega) hl9
  have h29 : (2 : Nat) ^ 9 = 512 := by decide
  obtain ⟨b, off, rfl, hbb, hcell⟩ := hr.open_ hm0 (by omega)
  obtain ⟨W0, hW0⟩ : ∃ W0, W0 = w.alloc (.cells #[.int .i64 (l : Int), .slice (some ⟨b, off, none⟩) m c] 24 (0, 0)) := ⟨_, rfl⟩
  have g1 : W0.heap[w.heap.size]? = some (.cells #[.int .i64 (l : Int), .slice (some ⟨b, off, none⟩) m c] 24 (0, 0)) := by rw [hW0]; exact heap_alloc_new w _
  have b0 : Below w.heap.size w W0 := by rw [hW0]; exact (Below.refl w.heap.size w).alloc (Nat.le_refl _) _
  have hs0 : W0.heap.size = w.heap.size + 1 := by rw [hW0]; simp
  have HR8 := hide (ref8_ok l (some ⟨b, off, none⟩) m c zs W0 hm ((hr.below b0).more b0.size) hok hc hc' hT)
  have k00 := cell_blk g1 0
  have k01 := cell_blk g1 1
  have HIX := hide (fun k (hk : k < 2 ^ l) => at_index hT hk)
  have HSIZE := hide (fun (L : Nat) (hL : L ≤ 20) W => size_any L W hL)
  obtain ⟨S, hS⟩ : ∃ S, S = 2 ^ l := ⟨_, rfl⟩
  have hS' := hS
  obtain ⟨pl, hpl⟩ : ∃ pl, pl = spreadL (2 ^ l) zs := ⟨_, rfl⟩
  have hbl : buildL l zs = (List.range S).map (cellAt l zs pl) := by unfold buildL; rw [hS, hpl]
  have hpll : pl.length = S := by rw [hpl, spreadL_length, hS]
  rw [← hpl, ← hS] at HR8
  rw [← hpl, ← hS] at HIX
  rw [← hS] at hS2 ⊢
  rw [h29] at hS2
  have HBL := hide hbl
  have HPLL := hide hpll
  have HS := hide hS
  have HB0 := hide b0
  have HG1 := hide g1
  have HM := hide hm
  have HCELL := hide hcell
  have HS0 := hide hs0
  have HW0 := hide hW0
  clear b0 hW0 g1 hr hok hc hc' hm hT hs0 hS hS' h29 hcell hbl hpl hpll
  go_enter Try.func29, Try.ntmps29
  go_wp2_with fail
  rw [← HW0.out]
  go_wp2_with fail
  refine HR8.out.mono ?_
  rintro e W1 ⟨v1, rfl, own1, b1⟩
  obtain ⟨A1, c1, rfl⟩ := own_form own1
  have hSp : 0 < S := by rw [HS.out]; exact Nat.pow_pos (by omega)
  obtain ⟨gA, cu, hAeq, hgl, hgs⟩ := own1.form hSp
  have hA2 : A1 = some ⟨gA, 0, none⟩ := by injection hAeq
  subst hA2
  have g2 := (b1.block _ (by have := HS0.out; omega)).trans HG1.out
  have HG2 := hide g2
  have HO1 := hide own1
  have HB1 := hide (HB0.out.trans (b1.mono HB0.out.size))
  have hs1 := b1.size
  have HS1 := hide (show w.heap.size < W1.heap.size by have := HS0.out; omega)
  have HGL := hide hgl
  have HGS := hide hgs
  clear b1 hs1 g2 k00 k01 own1 hgl hAeq HB0 HG1 HW0 HR8
  go_wp2
  go_loopw [6, 7] (fun out i wr => ∃ k : Nat, k ≤ S ∧ i = .int .i64 k ∧ wr.heap[w.heap.size]? = some (.cells #[.int .i64 (l : Int), .slice (some ⟨b, off, none⟩) m c] 24 (0, 0)) ∧ wr.ownsRow W0.heap.size 3 1 (.slice (some ⟨gA, 0, none⟩) S c1) S (intsV pl) ∧ wr.ownsRow W1.heap.size 62 3 out k (cellsV ((buildL l zs).take k)) ∧ Below w.heap.size w wr ∧ W1.heap.size ≤ wr.heap.size) (fun _ i _ => S - (intOf i).toNat)
  case atStart => exact ⟨0, Nat.zero_le _, rfl, HG2.out, HO1.out, World.ownsRow_nil _ _ _ _, HB1.out, Nat.le_refl _⟩
  case round =>
    obtain ⟨k, hk, rfl, y1, hpo, hown, hb, hsz⟩ := hrel
    have HY1 := hide y1
    have HPO := hide hpo
    have HO := hide hown
    have HB := hide hb
    have HSZ := hide hsz
    clear y1 hpo hown hb hsz
    by_cases hlt : k < S
    · obtain ⟨v, z, hv, hplk, hz, hz1, hz0', hx, hx2, hxa, hbit⟩ := HIX.out k hlt
      have kp := HPO.out.cellAt k (by omega)
      rw [show (intsV pl)[k]? = some (.int .i64 (v : Int)) by simp [intsV, hplk]] at kp
      have hkS : (k : Int) < (S : Int) := by omega
      have kz := (HB.out.cell (p := ⟨b, off + v, none⟩) hbb).trans (HCELL.out v (.int .i64 z) (by simp [hz]))
      have hvm : (v : Int) < (m : Int) := by have := HM.out; omega
      obtain ⟨x, hxx⟩ : ∃ x, x = xAt zs pl k := ⟨_, rfl⟩
      rw [← hxx] at hx hx2 hxa hbit
      have k10 : wr.cell? ⟨w.heap.size, 0, none⟩ = some (.int .i64 (l : Int)) := cell_blk HY1.out 0
      have k11 : wr.cell? ⟨w.heap.size, 1, none⟩ = some (.slice (some ⟨b, off, none⟩) m c) := cell_blk HY1.out 1
      obtain ⟨B, hBq⟩ : ∃ B, B = l + 1 - Lib.bitLen x := ⟨_, rfl⟩
      have hct : cellAt l zs pl k = ((v : Int), (B : Int), (x : Int) * 2 ^ B - (S : Int)) := by
        unfold cellAt
        rw [← hxx, ← hBq, ← HS.out, List.getD_eq_getElem?_getD, hplk, Option.getD_some]
      have hbt : (buildL l zs).take (k + 1) = (buildL l zs).take k ++ [cellAt l zs pl k] := by
        rw [List.take_add_one, HBL.out, List.getElem?_map, List.getElem?_range hlt]
        rfl
      have HST := hide (fun W => states_any z W hz1)
      have HCT := hide hct
      have HBT := hide hbt
      have HPK := hide hplk
      have HX := hide hx
      have HX2 := hide hx2
      have HBIT := hide hbit
      have HBQ := hide hBq
      have hx1 : 1 ≤ x := by unfold absZ at hxa; omega
      have hx1024 : x < 1024 := by rw [Nat.pow_succ, ← HS.out] at hx2; omega
      clear hct hbt hplk hz hz1 hz0' hx hx2 hbit hxa hxx hBq
      go_wp2
      go_loopw [8, 9] (fun kv jv wr' => ∃ j : Nat, j ≤ k ∧ jv = .int .i64 j ∧ kv = .int .i64 (((pl.take j).count (v : Int) : Nat) : Int) ∧ ∃ n, wr' = wr.drewN n) (fun _ jv _ => k - (intOf jv).toNat)
      case atStart => exact ⟨0, Nat.zero_le _, rfl, by simp, 0, rfl⟩
      case round =>
        obtain ⟨j, hj, rfl, rfl, nd, rfl⟩ := hrel
        by_cases hjk : j < k
        · obtain ⟨y, hy⟩ : ∃ y, pl[j]? = some y := ⟨_, List.getElem?_eq_getElem (by have := HPLL.out; omega)⟩
          have kj := HPO.out.cellAt j (by omega)
          rw [show (intsV pl)[j]? = some (.int .i64 y) by simp [intsV, hy]] at kj
          have hjki : (j : Int) < (k : Int) := by omega
          have hjS : (j : Int) < (S : Int) := by omega
          have htk : pl.take (j + 1) = pl.take j ++ [y] := by rw [List.take_add_one, hy]; rfl
          have hcl : (pl.take j).count (v : Int) ≤ j := by
            have := List.count_le_length (a := (v : Int)) (l := pl.take j)
            rw [List.length_take] at this
            omega
          obtain ⟨cn, hcn⟩ : ∃ cn, cn = (pl.take j).count (v : Int) := ⟨_, rfl⟩
          rw [← hcn] at hcl ⊢
          have HCN := hide hcn
          have HTK := hide htk
          clear hy htk hcn
          by_cases hyv : y = (v : Int)
          · subst hyv
            go_wp2
            go_quiet (fail)
            go_wp2
            go_roundw
            case rel =>
              refine ⟨j + 1, by omega, by go_num, ?_, _, rfl⟩
              rw [HTK.out, List.count_append, List.count_singleton_self, ← HCN.out]
              go_num
            case measure => simp [intOf]; omega
          · have hyb : (y == (v : Int)) = false := by simp [hyv]
            have h0 : [y].count (v : Int) = 0 := by rw [List.count_eq_zero]; simp; exact fun h => hyv h.symm
            have H0 := hide h0
            clear h0 hyv
            go_wp2
            go_quiet (fail)
            go_wp2
            go_roundw
            case rel => exact ⟨j + 1, by omega, by go_num, by rw [HTK.out, List.count_append, H0.out, ← HCN.out, Nat.add_zero], _, rfl⟩
            case measure => simp [intOf]; omega
        · obtain rfl : k = j := by omega
          obtain ⟨cn, hcn⟩ : ∃ cn, cn = (pl.take k).count (v : Int) := ⟨_, rfl⟩
          rw [← hcn] at HX ⊢
          have hwx : IntKind.i64.wrap (absZ z + (cn : Int)) = (x : Int) := by rw [← HX.out, IntWalk.i64_in _ (by omega)]
          obtain ⟨W3, hW3⟩ : ∃ W3, W3 = wr.drewN nd := ⟨_, rfl⟩
          have j10 : W3.cell? ⟨w.heap.size, 0, none⟩ = some (.int .i64 (l : Int)) := by rw [hW3]; exact k10
          have j11 : W3.cell? ⟨w.heap.size, 1, none⟩ = some (.slice (some ⟨b, off, none⟩) m c) := by rw [hW3]; exact k11
          have jz : W3.cell? ⟨b, off + v, none⟩ = some (.int .i64 z) := by rw [hW3]; exact kz
          have jp : W3.cell? ⟨gA, k, none⟩ = some (.int .i64 (v : Int)) := by rw [hW3]; exact kp
          have HPO3 : Hid (W3.ownsRow W0.heap.size 3 1 (.slice (some ⟨gA, 0, none⟩) S c1) S (intsV pl)) := by rw [hW3]; exact HPO.out
          have HO3 : Hid (W3.ownsRow W1.heap.size 62 3 u6 k (cellsV ((buildL l zs).take k))) := by rw [hW3]; exact HO.out
          have HY3 : Hid (W3.heap[w.heap.size]? = some (.cells #[.int .i64 (l : Int), .slice (some ⟨b, off, none⟩) m c] 24 (0, 0))) := by rw [hW3]; exact HY1.out
          have HB3 : Hid (Below w.heap.size w W3) := by rw [hW3]; exact HB.out.trans (below_drewN (Below.refl _ _) _)
          have HSZ3 : Hid (W1.heap.size ≤ W3.heap.size) := by rw [hW3]; exact HSZ.out
          rw [← hW3]
          clear hcn hW3 k10 k11 kz kp
          go_wp2
          go_quiet ((go_at_call 39; exact quiet_len (HST.out _)))
          go_wp2
          obtain ⟨W5, hW5⟩ : ∃ W5, W5 = W3.drewN nq := ⟨_, rfl⟩
          have m10 : W5.cell? ⟨w.heap.size, 0, none⟩ = some (.int .i64 (l : Int)) := by rw [hW5]; exact j10
          have mp : W5.cell? ⟨gA, k, none⟩ = some (.int .i64 (v : Int)) := by rw [hW5]; exact jp
          have HPO5 : Hid (W5.ownsRow W0.heap.size 3 1 (.slice (some ⟨gA, 0, none⟩) S c1) S (intsV pl)) := by rw [hW5]; exact HPO3.out
          have HO5 : Hid (W5.ownsRow W1.heap.size 62 3 u6 k (cellsV ((buildL l zs).take k))) := by rw [hW5]; exact HO3.out
          have HY5 : Hid (W5.heap[w.heap.size]? = some (.cells #[.int .i64 (l : Int), .slice (some ⟨b, off, none⟩) m c] 24 (0, 0))) := by rw [hW5]; exact HY3.out
          have HB5 : Hid (Below w.heap.size w W5) := by rw [hW5]; exact HB3.out.trans (below_drewN (Below.refl _ _) _)
          have HSZ5 : Hid (W1.heap.size ≤ W5.heap.size) := by rw [hW5]; exact HSZ3.out
          rw [← hW5]
          clear hW5 j10 j11 jz jp HPO3 HO3 HY3 HB3 HSZ3 hwx HX HST
          go_loopw [11, 12] (fun bv yv wr' => ∃ d : Nat, bv = .int .i64 ((l : Int) - (d : Int)) ∧ yv = .int .i64 ((x / 2 ^ d : Nat) : Int) ∧ 1 ≤ x / 2 ^ d ∧ wr' = W5) (fun _ yv _ => (intOf yv).toNat)
          case atStart => exact ⟨0, by simp, by simp, by simpa using hx1, rfl⟩
          case round =>
            obtain ⟨d, rfl, rfl, hd1, hWq⟩ := hrel
            rw [hWq]
            clear hWq
            have hd9 : d ≤ 9 := by
              rcases Nat.lt_or_ge d 10 with h | h
              · omega
              · have h2 : 2 ^ 10 ≤ 2 ^ d := Nat.pow_le_pow_right (by omega) h
                rw [Nat.div_eq_of_lt (by omega)] at hd1
                omega
            obtain ⟨y, hy⟩ : ∃ y, y = x / 2 ^ d := ⟨_, rfl⟩
            have hyx : y ≤ x := by rw [hy]; exact Nat.div_le_self _ _
            have hnx : x / 2 ^ (d + 1) = y / 2 := by rw [Nat.pow_succ, ← Nat.div_div_eq_div_mul, ← hy]
            rw [← hy] at hd1 ⊢
            by_cases hy1 : 1 < y
            · have HNX := hide hnx
              clear hy hnx
              go_wp2
              go_roundw
              case rel => exact ⟨d + 1, by go_num, by rw [HNX.out]; go_num, by rw [HNX.out]; omega, trivial⟩
              case measure => simp [intOf]; omega
            · have hbl := bitLen_end (x := x) (d := d) (by omega) (by omega) (by omega)
              have hdl : d ≤ l := by have := HBIT.out; omega
              have hB : (l : Int) - (d : Int) = (B : Int) := by have := HBQ.out; omega
              have hB9 : B ≤ 9 := by have := HBQ.out; omega
              rw [hB]
              have HSIZ := hide (fun W => HSIZE.out B (by omega) W)
              have hpB : 2 ^ B ≤ 2 ^ 9 := Nat.pow_le_pow_right (by omega) hB9
              have hp9 : (2 : Nat) ^ 9 = 512 := by decide
              have hxB : x * 2 ^ B ≤ 1024 * 512 := Nat.mul_le_mul (by omega) (by omega)
              obtain ⟨P, hP⟩ : ∃ P, P = 2 ^ B := ⟨_, rfl⟩
              have hbase : (x : Int) * 2 ^ B - (S : Int) = ((x * P : Nat) : Int) - (S : Int) := by rw [hP]; simp
              rw [← hP] at HSIZ hxB
              have hwm : IntKind.i64.wrap ((x : Int) * (P : Int)) = ((x * P : Nat) : Int) := by rw [IntWalk.i64_in _ (by rw [← Int.natCast_mul]; omega)]; simp
              obtain ⟨X, hX⟩ : ∃ X, X = x * P := ⟨_, rfl⟩
              rw [← hX] at hwm hxB hbase
              obtain ⟨base, hbs⟩ : ∃ base, base = (X : Int) - (S : Int) := ⟨_, rfl⟩
              have hws : IntKind.i64.wrap ((X : Int) - (S : Int)) = base := by rw [IntWalk.i64_in _ (by omega), hbs]
              rw [hbase, ← hbs] at HCT
              have HOD : Hid (W5.drew.ownsRow W1.heap.size 62 3 u6 k (cellsV ((buildL l zs).take k))) := HO5.out
              clear hbl hdl hB hB9 hpB hp9 hxB hP hX hbs hbase hy hnx hd1 hd9 HSIZE HIX
              have hsz5 := HSZ5.out
              have hsz6 : W1.heap.size ≤ (W5.drew.alloc (.cells #[.int .i64 (v : Int), .int .i64 (B : Int), .int .i64 base] 62)).heap.size := by simp; omega
              have HRC := hide (reads_cell W5.drew ((v : Int), (B : Int), base))
              have hone : ∀ u ∈ cellV ((v : Int), (B : Int), base), u.oneCell' = true := fun u hu => cellsV_one [((v : Int), (B : Int), base)] u (by simpa [cellsV] using hu)
              have hlim1 : k + 1 ≤ maxLen := by unfold maxLen; omega
              have hlim2 : (k + 1) * 24 ≤ 140737488355328 := by omega
              have hlow := HO5.out.lt
              have hun := Try.underlying51
              have HUN := hide hun
              have HXK : Hid (Below W1.heap.size W5.drew (W5.drew.alloc (.cells #[.int .i64 (v : Int), .int .i64 (B : Int), .int .i64 base] 62))) := (Below.refl _ W5.drew).alloc hsz5 _
              have HON := hide hone
              clear hone hun
              go_wp2
              go_region_held3 (fun w' => w'.cell? ⟨gA, k, none⟩ = some (.int .i64 (v : Int))) (go_keep)
                (first
                | (go_at_call 40; refine (HSIZ.out _).mono ?_; rintro e w7 ⟨rfl, rfl⟩)
                | (refine step_append_any _ (by rfl) (.tmp 63) (.tmp 77) _ (by rfl) W1.heap.size 62 i0 _ 3 24 HUN.out hi hz0 hz1 hz2 rfl (by omega) u6 k _ (by rfl) (HOD.out.alloc _) (W5.drew.heap.size + 1) (some ⟨W5.drew.heap.size, 0, none⟩) 1 1 _ (by rfl) HRC.out HON.out hlim1 hlim2 hsz6 ?_; intro v3 w3 hown3 hg3 hat3; have hb3 : Below W1.heap.size W5.drew w3 := HXK.out.grown hg3 hsz6 (fun q hq => (hlow q hq).1); have j2 := (hb3.cell (p := ⟨gA, k, none⟩) HGS.out).trans mp; have HO3 := hide hown3; have HB3 := hide hb3; clear hown3 hb3 hg3 hat3))
              go_wp2
              go_roundw
              case rel =>
                have hc3 : Chg (fun q => W1.heap.size ≤ q) W5.drew w3 := ⟨HB3.out.os, HB3.out.tape, HB3.out.output, HB3.out.size, fun q hq hS => HB3.out.block q (by omega)⟩
                have e1 : cellsV ((buildL l zs).take k) ++ cellV ((v : Int), (B : Int), base) = cellsV ((buildL l zs).take (k + 1)) := by rw [HBT.out, HCT.out, cellsV_append]; simp [cellsV]
                have ho3 := HO3.out
                rw [e1] at ho3
                refine ⟨k + 1, by omega, by go_num, (HB3.out.block _ HS1.out).trans HY5.out, own_chg (w := W5.drew) HPO5.out hc3 (fun q hq => ?_), ho3, (HB5.out.drew).trans (HB3.out.mono (Nat.le_of_lt HS1.out)), Nat.le_trans hsz5 HB3.out.size⟩
                have : gA = q := by simpa [Value.ownBlock] using hq
                have := HGS.out
                omega
              case measure => simp [intOf]; omega
    · obtain rfl : S = k := by omega
      have ho := HO.out
      rw [List.take_of_length_le (by rw [HBL.out]; simp)] at ho
      have HO2 := hide ho
      clear ho
      go_wp2
      go_ret2
      exact ⟨_, rfl, own_base HO2.out (fun q hq => by have := (HO2.out.lt q hq).1; have := HS1.out; omega), HB.out⟩
end Go.Proofs.Ytemiaagaggjbiaa
