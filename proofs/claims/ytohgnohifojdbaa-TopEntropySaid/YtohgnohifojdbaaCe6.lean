/- spread.Spread walked. -/
import Derived.Test.YtohgnohifojdbaaCe5
namespace Go.Proofs.Ytohgnohifojdbaa
set_option maxRecDepth 8000
open Go.RowKit Go Go.Shelf
set_option linter.unusedVariables false
attribute [local go_sem] Oper.semAt_some

theorem own_cap' {w : World} {base n c : Nat} {e : TypeId} {A : Option Addr} {xs : List Value} (h : w.ownsRow base e 1 (.slice A n c) n xs) : n ≤ c := by
  rcases h.2 with ⟨h1, h2⟩ | ⟨g, cap, cur, h1, _, _, h2, _⟩
  · omega
  · injection h1 with _ _ h3; omega
theorem info_int : (Try.prog.info? 3).map (fun i => (i.zero, i.size, i.bytes)) = some (some (.int .i64 0), 1, 8) := by kernel_rfl

def natsV (l : List Nat) : List Value := l.map fun x : Nat => Value.int .i64 (x : Int)
def intsV (l : List Int) : List Value := l.map (Value.int .i64)
theorem natsV_one (l : List Nat) : ∀ u ∈ natsV l, u.oneCell' = true := by
  intro u hu
  obtain ⟨b, _, rfl⟩ := List.mem_map.1 hu
  rfl

/-- Spread's boxes: the table's, the map's, the others'. -/
structure SpB (w : World) (a1 a6 a7 b : Nat) (v : Value) (tabs : Array Value) : Prop where
  h1 : w.heap[a1]? = some (.cells tabs 28 (0, 0))
  h6 : w.heap[a6]? = some (.cells #[.map (some b)] 126 (0, 0))
  h7 : w.heap[a7]? = some (.cells #[v] 24 (0, 0))

theorem SpB.chg {S : Nat → Prop} {w w' : World} {a1 a6 a7 b : Nat} {v : Value} {tabs : Array Value} (h : SpB w a1 a6 a7 b v tabs) (hc : Chg S w w') (n1 : ¬ S a1) (n6 : ¬ S a6) (n7 : ¬ S a7) : SpB w' a1 a6 a7 b v tabs :=
  ⟨hc.heap h.h1 n1, hc.heap h.h6 n6, hc.heap h.h7 n7⟩
theorem SpB.set7 {w : World} {a1 a6 a7 b : Nat} {v v' : Value} {tabs : Array Value} (h : SpB w a1 a6 a7 b v tabs) (n1 : a1 ≠ a7) (n6 : a6 ≠ a7) : SpB (w.setCell ⟨a7, 0, none⟩ v') a1 a6 a7 b v' tabs :=
  ⟨set_far h.h1 n1 _, set_far h.h6 n6 _, set_blk h.h7 0 _⟩

theorem fillStep_sub (st : (Int → Option Int) × List Nat) (x : Nat) : ∀ o ∈ (fillStep st x).2, o ∈ st.2 := by
  intro o ho
  unfold fillStep at ho
  split at ho
  · next h1 h2 => rw [h2]; exact List.mem_cons_of_mem _ ho
  · exact ho
theorem fill_sub (st : (Int → Option Int) × List Nat) : ∀ (ys : List Nat), ∀ o ∈ (fill st ys).2, o ∈ st.2 := by
  refine snoc_ind ?_ ?_
  · intro o ho; exact ho
  · intro ys x ih o ho
    rw [fill_snoc] at ho
    exact ih o (fillStep_sub _ x o ho)
def valsOf {s : Nat} (pre : List (Ix s)) : List Nat := pre.map Subtype.val
theorem valsOf_snoc {s : Nat} (pre : List (Ix s)) (x : Ix s) : valsOf (pre ++ [x]) = valsOf pre ++ [x.1] := by simp [valsOf]
theorem valsOf_lt {s : Nat} (pre : List (Ix s)) : ∀ y ∈ valsOf pre, y < s := by
  intro y hy
  obtain ⟨y', _, rfl⟩ := List.mem_map.1 hy
  exact y'.2
/-- Between two rounds of Spread's second loop. -/
def SpI (w : World) (s b k B3 : Nat) (f0 : Int → Option Int) (os0 : List Nat) (pre : List (Ix s)) (W : World) : Prop :=
  (W.cell? ⟨b + 1, 0, none⟩ = some (.map (some b)) ∧ (∃ (A' : Option Addr) (n' c' : Nat), W.cell? ⟨b + 1 + 1, 0, none⟩ = some (.slice A' n' c') ∧ W.frozen? ⟨b + 1 + 1, 0, none⟩ = false ∧ n' ≤ c' ∧ Reads W B3 1 A' n' (natsV (fill (f0, os0) (valsOf pre)).2) ∧ ∀ ad, A' = some ad → b + 1 + 1 + 1 ≤ ad.block) ∧
    ∃ cc, MapI W b (k + pre.length) cc (fill (f0, os0) (valsOf pre)).1) ∧ Below w.heap.size w W
theorem SpI.own (w : World) (s b k B3 : Nat) (f0 : Int → Option Int) (os0 : List Nat) (B : Nat) (hb : b < B) (hw : w.heap.size ≤ B) : OwnFrom B (SpI w s b k B3 f0 os0) := by
  refine OwnFrom.and (fun pre W W' row hs hg hr => ?_) (ownFrom_below (Nat.le_refl _) hw)
  obtain ⟨c1, ⟨A', n', c', c2, f2, hnc, hrd, hlow⟩, cc, hM⟩ := hs
  have hr' : ∀ r, row = some r → ∃ o : Obj, W.heap[r]? = some o ∧ o.isCells = false := fun r e => (hr r e).2
  refine ⟨cell_kept c1 hg hr', ⟨A', n', c', cell_kept c2 hg hr', (frozen_kept c2 hg hr').trans f2, hnc, ⟨hrd.1, fun hn => ?_⟩, hlow⟩, cc, hM.chg (Chg.of_grown hg) (fun h => by have := (hr b h.symm).1; omega)⟩
  obtain ⟨ad, e1, e2, e3⟩ := hrd.2 hn
  exact ⟨ad, e1, e2, fun j u hu => cell_kept (e3 j u hu) hg hr'⟩

theorem SpI.step {w W w2 : World} {s b k B3 m'' c'' : Nat} {f0 : Int → Option Int} {os0 r : List Nat} {A'' : Option Addr} (pre : List (Ix s)) (x : Ix s) {st : (Int → Option Int) × List Nat} (hsn : fill (f0, os0) (valsOf (pre ++ [x])) = st) (hr : st.2 = r)
    (hw2o : ∀ q, q ≠ b → w2.heap[q]? = W.heap[q]?) (h6 : W.cell? ⟨b + 1, 0, none⟩ = some (.map (some b))) (h7 : (w2.cell? ⟨b + 1 + 1, 0, none⟩).isSome = true) (f7 : w2.frozen? ⟨b + 1 + 1, 0, none⟩ = false) (hm : m'' = r.length)
    (hA : ∀ ad, A'' = some ad → b + 1 + 1 + 1 ≤ ad.block ∧ ad.block < B3) (hcl : 0 < r.length → ∃ ad, A'' = some ad ∧ ∀ j u, (natsV r)[j]? = some u → W.cell? (ad.add j) = some u) (hcc : m'' ≤ c'') (cc : Nat)
    (hM : MapI w2 b (k + pre.length + 1) cc st.1) (hB : Below w.heap.size w W) (hch : Chg (fun j => j = b) W.drew w2) (hwb : w.heap.size ≤ b) :
    SpI w s b k B3 f0 os0 (pre ++ [x]) (w2.setCell ⟨b + 1 + 1, 0, none⟩ (.slice A'' m'' c'')) := by
  have hother : ∀ q, q ≠ b → q ≠ b + 1 + 1 → (w2.setCell ⟨b + 1 + 1, 0, none⟩ (.slice A'' m'' c'')).heap[q]? = W.heap[q]? := fun q h1 h2 => (Below.heap_setCell _ _ _ _ h2).trans (hw2o q h1)
  unfold SpI
  rw [hsn, hr]
  refine ⟨⟨(World.cell?_of_block (hother (b + 1) (by omega) (by omega))).trans h6, ⟨A'', m'', c'', World.cell?_setCell_same' _ _ _ h7, by rw [World.frozen?_setCell]; exact f7, hcc, ⟨by simp [natsV, hm], fun hn => ?_⟩, fun ad had => (hA ad had).1⟩, cc, ?_⟩, ?_⟩
  · obtain ⟨ad, e1, e2⟩ := hcl (by omega)
    have hx := hA ad e1
    exact ⟨ad, e1, hx.2, fun j u hu => (World.cell?_of_block (by rw [block_of_add]; exact hother _ (by omega) (by omega))).trans (e2 j u hu)⟩
  · rw [List.length_append, List.length_singleton, ← Nat.add_assoc]
    exact hM.chg ((Chg.refl (fun q => q = b + 1 + 1) w2).setCell (p := ⟨b + 1 + 1, 0, none⟩) (.inl rfl) _) (by omega)
  · exact (hB.drew.trans (hch.below (by rintro j rfl; exact hwb) hB.size)).setCell (p := ⟨b + 1 + 1, 0, none⟩) (by show w.heap.size ≤ b + 1 + 1; omega) _

set_option maxRecDepth 100000 in
set_option maxHeartbeats 16000000 in
theorem spread_in (n : Nat) (hn : 6 ≤ n) (l : Nat) (A : Option Addr) (m c : Nat) (zs : List Int) (w : World) (hm : zs.length = m) (hr : Reads w w.heap.size 1 A m (zs.map (Value.int .i64))) (hok : ∀ z ∈ zs, (Lit.int .i64 z).wf = true) (hc : m ≤ c) (hc' : c ≤ maxLen) (hT : okT (l : Int) zs) :
    CallsIn Fence.wide n Try.prog 61 #[.agg #[.int .i64 (l : Int), .slice A m c]] w fun e w' =>
      ∃ v, e = .returned (.tuple #[v, .int .i64 0]) ∧ w'.ownsRow w.heap.size 3 1 v (2 ^ l) (intsV (spreadL (2 ^ l) zs)) ∧ Below w.heap.size w w' := by
  have HCK := hide (fun W (b : Below w.heap.size w W) => (check_any (l : Int) A m c zs W hm ((hr.below b).more b.size) hok hc hc').mono (R' := fun e w' => e = .returned (.int .i64 0) ∧ Below W.heap.size W w') (by
    rintro e w' ⟨h | h, hb⟩
    · exact ⟨h.2, hb⟩
    · exact absurd hT h.1))
  have hl9 : l ≤ 9 := by have := hT.1; omega
  have hm256 : m ≤ 256 := by have := hT.2.1; omega
  have hm0 : 0 < m := by have := hT.2.1; omega
  have hS1 : 1 ≤ 2 ^ l := Nat.pow_pos (by omega)
  have hS2 : 2 ^ l ≤ 2 ^ 9 := Nat.pow_le_pow_right (by omega) hl9
  have h29 : (2 : Nat) ^ 9 = 512 := by decide
  have hfree := start_free hT
  obtain ⟨s, hs⟩ : ∃ s, s = 2 ^ l := ⟨_, rfl⟩
  have hs0 : ((2 : Int) ^ l) = (s : Int) := by rw [hs]; simp
  rw [← hs] at hS1 hS2 hfree ⊢
  rw [h29] at hS2
  have hsh : IntKind.i64.wrap ((2 : Int) ^ l) = (s : Int) := by rw [hs0, IntWalk.i64_in _ (by omega)]
  have HR := hide hr
  have HT := hide hT
  have HK := hide hok
  have HM := hide hm
  have HF := hide hfree
  have h1n : 1 ≤ n := by omega
  have hmm := @run_makeMap Try.prog
  obtain ⟨i0, hi, hz0, hz1, hz2⟩ := info_parts info_int
  have B0 := hide ((Below.refl w.heap.size w).alloc (Nat.le_refl _) (.cells #[.int .i64 (l : Int), .slice A m c] 28 (0, 0)))
  have HS2 := hide (show ((2 : Int) ^ l) = (s : Int) from hs0)
  clear hr hT hok hm hfree hs hs0 h29
  refine callsIn_of_wp_marks Try.func61 rfl trivial ?_ rfl
  simp only [Try.ntmps61, List.size_toArray, List.length_cons, List.length_nil, Nat.reduceAdd, Nat.reduceSub, Array.replicate_succ, Array.replicate_zero, List.push_toArray, List.append_toArray, List.nil_append, List.cons_append]
  gi_wp2_with ((refine ⟨trivial, ?_⟩; gi_at_call 45; refine (callsIn_wide.2 (HCK.out _ B0.out)).mono ?_; rintro e w1 ⟨rfl, b1⟩; have B1 := hide (B0.out.trans (b1.mono B0.out.size)); have hb1 := (b1.block w.heap.size (by simp)).trans (heap_alloc_new w _); have t0 := cell_blk hb1 0; have t2 := cell_blk (alloc_far (alloc_far (alloc_far hb1 (.map #[] 0)) (.cells #[.map (some w1.heap.size)] 126)) (.cells #[.slice none 0 0] 24)) 1; have HB1 := hide hb1; have HS1 := hide b1.size; clear b1 hb1)
    )
  have SB := hide (show SpB (((w1.alloc (.map #[] 0)).alloc (.cells #[.map (some w1.heap.size)] 126)).alloc (.cells #[.slice none 0 0] 24)) w.heap.size (w1.heap.size + 1) (w1.heap.size + 1 + 1) w1.heap.size (.slice none 0 0) #[.int .i64 (l : Int), .slice A m c] from
    ⟨alloc_far (alloc_far (alloc_far HB1.out _) _) _, by
      have := heap_alloc_new (w1.alloc (.map #[] 0)) (.cells #[.map (some w1.heap.size)] 126)
      rw [World.size_alloc] at this
      exact alloc_far this _, by
      have := heap_alloc_new ((w1.alloc (.map #[] 0)).alloc (.cells #[.map (some w1.heap.size)] 126)) (.cells #[.slice none 0 0] 24)
      rw [World.size_alloc, World.size_alloc] at this
      exact this⟩)
  have MM := hide (((MapI.made w1).below ((Below.refl _ _).alloc (Nat.le_refl _) (.cells #[.map (some w1.heap.size)] 126))).below ((Below.refl _ _).alloc (Nat.le_refl _) (.cells #[.slice none 0 0] 24)))
  have BB := hide (B1.out.trans ((((Below.refl _ w1).alloc (Nat.le_refl _) (.map #[] 0)).alloc (by simp) (.cells #[.map (some w1.heap.size)] 126)).alloc (by simp; omega) (.cells #[.slice none 0 0] 24) |>.mono B1.out.size))
  obtain ⟨W2, hW2⟩ : ∃ W2, W2 = (((w1.alloc (.map #[] 0)).alloc (.cells #[.map (some w1.heap.size)] 126)).alloc (.cells #[.slice none 0 0] 24)) := ⟨_, rfl⟩
  have HSZ := hide (show W2.heap.size = w1.heap.size + 1 + 1 + 1 by rw [hW2]; simp)
  rw [← hW2] at SB MM BB ⊢
  have hwb : w.heap.size < w1.heap.size := by have := HS1.out; simp at this; omega
  obtain ⟨b, hb⟩ : ∃ b, b = w1.heap.size := ⟨_, rfl⟩
  rw [← hb] at SB MM HSZ hwb ⊢
  clear hW2 hb t0 t2 HB1 HS1 B1 B0 HCK
  have HALL := hide (fun z hz => HT.out.2.2.2.1 z hz : ∀ z ∈ zs, -1 ≤ z)
  have HSUM := hide (show ∀ k, k ≤ m → (othersTo zs k).length + (rareTo zs k).length ≤ s by
    intro k hk
    have h1 := sum_parts HALL.out k (by have := HM.out; omega)
    have h2 := sumAbs_take_le zs k
    have h3 := HT.out.2.2.2.2
    have h4 := HS2.out
    rw [Int.toNat_natCast] at h3
    omega)
  have hu22 := Try.underlying24
  have HUN := hide hu22
  clear hu22
  gi_loopw [27] (fun i wr => ∃ k : Nat, k ≤ m ∧ i = .int .i64 k ∧ (∃ v, SpB wr w.heap.size (b + 1) (b + 1 + 1) b v #[.int .i64 (l : Int), .slice A m c] ∧ wr.ownsRow (b + 1 + 1 + 1) 3 1 v (othersTo zs k).length (natsV (othersTo zs k))) ∧
      MapI wr b k (rareTo zs k).length (rmap s (rareTo zs k)) ∧ Below w.heap.size w wr ∧ b + 1 + 1 + 1 ≤ wr.heap.size) (fun i _ => m - (intOf i).toNat)
  case atStart => exact ⟨0, Nat.zero_le _, rfl, ⟨_, SB.out, World.ownsRow_nil _ _ _ _⟩, by rw [show rareTo zs 0 = [] from rfl, rmap_nil]; exact MM.out, BB.out, by rw [HSZ.out]; exact Nat.le_refl _⟩
  case round =>
    obtain ⟨k, hk, rfl, ⟨v, hsb, hown⟩, hmm1, hbel, hsz⟩ := hrel
    replace SB := hide hsb
    replace MM := hide hmm1
    replace BB := hide hbel
    have HO := hide hown
    have HSZ3 := hide hsz
    clear hsb hmm1 hbel hown hsz HSZ
    obtain ⟨wo, hwo⟩ : ∃ wo, wo = wr := ⟨_, rfl⟩
    subst hwo
    by_cases hlt : k < m
    · obtain ⟨bb, off, z, rfl, hbb, kz, hz⟩ := int_cells (HR.out.below BB.out) hlt
      have hzn := normAt_of hz
      have hz1 := HALL.out z (List.mem_of_getElem? hz)
      have hzw := HK.out z (List.mem_of_getElem? hz)
      have hkm : (k : Int) < (m : Int) := by omega
      have c6 := cell_blk SB.out.h6 0
      have c7 := cell_blk SB.out.h7 0
      have hsk := HSUM.out (k + 1) (by omega)
      have hra := rareTo_succ zs k
      have hot := othersTo_succ zs k
      rw [hzn] at hra hot
      have hrl := rareTo_le zs k
      by_cases hm1 : z = -1
      · subst hm1
        rw [if_pos rfl] at hra
        rw [show ((-1 : Int)).toNat = 0 from rfl, List.replicate_zero, List.append_nil] at hot
        rw [hra, hot, List.length_append, List.length_singleton] at hsk
        obtain ⟨len, hlen⟩ : ∃ len, len = (rareTo zs k).length := ⟨_, rfl⟩
        have hml := fun ty => MM.out.len ty
        have hupd := MM.out.upd (by unfold maxLen; omega) ((s : Int) - 1 - (rareTo zs k).length) (k : Int) (WalkArith.wf_i64 (by omega)) (WalkArith.wf_i64 (by omega))
        rw [rmap_next, rmap_snoc, ← hra, ← hlen] at hupd
        rw [← hlen] at hml hsk hrl
        obtain ⟨w2, hrun, hM2, hturn, hch⟩ := hupd
        have hq : ∃ q : Int, q = (s : Int) - 1 - (len : Int) := ⟨_, rfl⟩
        obtain ⟨q, hq⟩ := hq
        have hw1 : IntKind.i64.wrap ((s : Int) - 1) = (s : Int) - 1 := IntWalk.i64_in _ (by omega)
        have hw2 : IntKind.i64.wrap ((s : Int) - 1 - (len : Int)) = (s : Int) - 1 - (len : Int) := IntWalk.i64_in _ (by omega)
        have HREL := hide (show (∃ v, SpB w2 w.heap.size (b + 1) (b + 1 + 1) b v #[.int .i64 (l : Int), .slice (some ⟨bb, off, none⟩) m c] ∧ w2.ownsRow (b + 1 + 1 + 1) 3 1 v (othersTo zs (k + 1)).length (natsV (othersTo zs (k + 1)))) ∧
            MapI w2 b (k + 1) (rareTo zs (k + 1)).length (rmap s (rareTo zs (k + 1))) ∧ Below w.heap.size w w2 ∧ b + 1 + 1 + 1 ≤ w2.heap.size from by
          refine ⟨⟨v, SB.out.chg hch (by omega) (by omega) (by omega), ?_⟩, ?_, BB.out.trans (hch.below (by rintro j rfl; omega) BB.out.size), Nat.le_trans HSZ3.out hch.size⟩
          · rw [hot]
            exact own_chg HO.out hch (fun j hj he => by
              have := (HO.out.lt j hj).1
              omega)
          · have : (rareTo zs (k + 1)).length = len + 1 := by rw [hra, List.length_append, hlen]; rfl
            rw [this]
            exact hM2)
        clear hra hot hlen hM2 hturn hch hz hzn hz1 hzw hq hsk hrl
        gi_wp2
        gi_loopw [43] (fun i wr => i = .int .i64 0 ∧ wr = w2) (fun _ _ => 0)
        case atStart => exact ⟨rfl, rfl⟩
        case round =>
        obtain ⟨rfl, rfl⟩ := hrel
        gi_wp2
        go_roundw
        case rel => first
          | exact ⟨k + 1, by omega, by go_num, HREL.out⟩
          | ((repeat apply Exists.intro); exact ⟨⟨k + 1, by omega, by go_num, HREL.out⟩, rfl⟩)
        case measure => simp [intOf]; try omega
      · obtain ⟨p, rfl⟩ := Int.eq_ofNat_of_zero_le (show 0 ≤ z by omega)
        rw [if_neg hm1, List.append_nil] at hra
        rw [Int.toNat_natCast] at hot
        rw [hra, hot, List.length_append, List.length_replicate] at hsk
        have hm1b : ((p : Int) == -1) = false := by rw [beq_eq_false_iff_ne]; omega
        have hmx : max (p : Int) 0 = (p : Int) := by omega
        obtain ⟨os, hos⟩ : ∃ os, os = othersTo zs k := ⟨_, rfl⟩
        rw [← hos] at hot hsk
        have HO2 := hide (show wo.ownsRow (b + 1 + 1 + 1) 3 1 v os.length (natsV os) by rw [hos]; exact HO.out)
        have HRA := hide hra
        have HOT := hide hot
        clear hra hot hz hzn hz1 hzw hos HO
        gi_wp2
        gi_loopw [43] (fun i wr => ∃ j : Nat, j ≤ p ∧ i = .int .i64 j ∧ (∃ v, SpB wr w.heap.size (b + 1) (b + 1 + 1) b v #[.int .i64 (l : Int), .slice (some ⟨bb, off, none⟩) m c] ∧ wr.ownsRow (b + 1 + 1 + 1) 3 1 v (os.length + j) (natsV (os ++ List.replicate j k))) ∧
          MapI wr b k (rareTo zs k).length (rmap s (rareTo zs k)) ∧ Below w.heap.size w wr ∧ b + 1 + 1 + 1 ≤ wr.heap.size) (fun i _ => p - (intOf i).toNat)
        case atStart => exact ⟨0, Nat.zero_le _, rfl, ⟨_, SB.out, by rw [List.replicate_zero, List.append_nil]; exact HO2.out⟩, MM.out, BB.out, HSZ3.out⟩
        case round =>
        obtain ⟨j, hj, rfl, ⟨v2, hsb, hown⟩, hmm1, hbel, hsz⟩ := hrel
        replace SB := hide hsb
        replace MM := hide hmm1
        replace BB := hide hbel
        have HO := hide hown
        have HSZ4 := hide hsz
        clear hsb hmm1 hbel hown hsz HO2 HSZ3 c6 c7
        by_cases hlj : j < p
        · have hjp : (j : Int) < (p : Int) := by omega
          have c7 := cell_blk SB.out.h7 0
          gi_wp2_with ((gi_at_builtin; refine wpListIn_append_own_at _ rfl (.tmp 45) (.tmp 47) 24 rfl (b + 1 + 1 + 1) 3 i0 (.int .i64 0) 1 8 HUN.out hi hz0 hz1 hz2 rfl Nat.zero_lt_one v2 (os.length + j) _ rfl (HO.out.alloc _) ⟨wr.heap.size, 0, none⟩ 1 1 [.int .i64 (k : Int)] rfl rfl (cell_one_new _ _ _) (by simp [Value.oneCell']) (by unfold maxLen; omega) (by omega) (by have := HSZ4.out; simp; omega) ?_
                        intro v3 w3 hown3 hg3 hnil3 hloc3
                        obtain ⟨A3, c3, rfl⟩ := own_form hown3
                        have hch3 : Chg (fun q => v2.ownBlock = some q) wr w3 := ((Chg.refl (fun q => v2.ownBlock = some q) wr).alloc _).grown hg3 (fun q hq => .inl hq)
                        have hlow : ∀ q, v2.ownBlock = some q → b + 1 + 1 + 1 ≤ q := fun q hq => (HO.out.lt q hq).1
                        have hsb3 := SB.out.chg hch3 (fun h => by have := hlow _ h; omega) (fun h => by have := hlow _ h; omega) (fun h => by have := hlow _ h; omega)
                        have hmm3 := MM.out.chg hch3 (fun h => by have := hlow _ h; omega)
                        have hbb3 := BB.out.trans (hch3.below (B := w.heap.size) (fun q hq => by have := hlow q hq; omega) BB.out.size)
                        have c7' := cell_blk hsb3.h7 0
                        have f7' := frozen_blk hsb3.h7 0
                        have HSB3 := hide hsb3
                        have HMM3 := hide hmm3
                        have HBB3 := hide hbb3
                        have HO3 := hide hown3
                        have HSZ5 := hide (Nat.le_trans HSZ4.out hch3.size)
                        clear hsb3 hmm3 hbb3 hown3 hg3 hloc3 hch3 hlow HO hnil3))
          go_roundw
          case rel =>
            have hch4 : Chg (fun q => q = b + 1 + 1) w3 (w3.setCell ⟨b + 1 + 1, 0, none⟩ (.slice A3 (os.length + j + 1) c3)) := (Chg.refl (fun q => q = b + 1 + 1) w3).setCell (p := ⟨b + 1 + 1, 0, none⟩) (.inl rfl) _
            have ho4 := own_chg HO3.out hch4 (fun q hq he => by have := (HO3.out.lt q hq).1; omega)
            have e1 : natsV (os ++ List.replicate j k) ++ [.int .i64 (k : Int)] = natsV (os ++ List.replicate (j + 1) k) := by rw [List.replicate_succ', ← List.append_assoc]; simp [natsV]
            rw [e1] at ho4
            have hres := (⟨j + 1, by omega, by go_num, ⟨_, HSB3.out.set7 (by omega) (by omega), ho4⟩, HMM3.out.chg hch4 (by omega), HBB3.out.setCell (p := ⟨b + 1 + 1, 0, none⟩) (by show w.heap.size ≤ b + 1 + 1; omega) _, by simpa [World.setCell] using HSZ5.out⟩ : ∃ j_1 : Nat, j_1 ≤ p ∧ Value.int .i64 ((j : Int) + 1) = .int .i64 j_1 ∧ (∃ v, SpB (w3.setCell ⟨b + 1 + 1, 0, none⟩ (.slice A3 (os.length + j + 1) c3)) w.heap.size (b + 1) (b + 1 + 1) b v #[.int .i64 (l : Int), .slice (some ⟨bb, off, none⟩) m c] ∧ (w3.setCell ⟨b + 1 + 1, 0, none⟩ (.slice A3 (os.length + j + 1) c3)).ownsRow (b + 1 + 1 + 1) 3 1 v (os.length + j_1) (natsV (os ++ List.replicate j_1 k))) ∧
              MapI (w3.setCell ⟨b + 1 + 1, 0, none⟩ (.slice A3 (os.length + j + 1) c3)) b k (rareTo zs k).length (rmap s (rareTo zs k)) ∧ Below w.heap.size w (w3.setCell ⟨b + 1 + 1, 0, none⟩ (.slice A3 (os.length + j + 1) c3)) ∧ b + 1 + 1 + 1 ≤ (w3.setCell ⟨b + 1 + 1, 0, none⟩ (.slice A3 (os.length + j + 1) c3)).heap.size)
            first
            | exact hres
            | ((repeat apply Exists.intro); exact ⟨hres, rfl⟩)
          case measure => simp [intOf]; try omega
        · obtain rfl : j = p := by omega
          have hge : ¬ (j : Int) < (j : Int) := by omega
          have HREL := hide (show (∃ v, SpB wr w.heap.size (b + 1) (b + 1 + 1) b v #[.int .i64 (l : Int), .slice (some ⟨bb, off, none⟩) m c] ∧ wr.ownsRow (b + 1 + 1 + 1) 3 1 v (othersTo zs (k + 1)).length (natsV (othersTo zs (k + 1)))) ∧
              MapI wr b (k + 1) (rareTo zs (k + 1)).length (rmap s (rareTo zs (k + 1))) ∧ Below w.heap.size w wr ∧ b + 1 + 1 + 1 ≤ wr.heap.size from by
            refine ⟨⟨v2, SB.out, ?_⟩, ?_, BB.out, HSZ4.out⟩
            · rw [HOT.out, List.length_append, List.length_replicate]; exact HO.out
            · rw [HRA.out]; exact MM.out.more (by omega))
          gi_wp2
          go_roundw
          case rel => first
            | exact ⟨k + 1, by omega, by go_num, HREL.out⟩
            | ((repeat apply Exists.intro); exact ⟨⟨k + 1, by omega, by go_num, HREL.out⟩, rfl⟩)
          case measure => simp [intOf]; try omega
    · obtain rfl : k = m := by omega
      have hge : ¬ (k : Int) < (k : Int) := by omega
      gi_wp2_with fail
      refine ⟨trivial, (turn_in (n - 1) s wo).mono ?_⟩
      rintro e w' ⟨rfl, rfl⟩
      have hfull : k = zs.length := HM.out.symm
      have SB' := SB.out
      have hownF := HO.out
      have hmF := MM.out
      rw [hfull] at hownF hmF
      obtain ⟨f0, hf0⟩ : ∃ f0, f0 = rmap s (rareTo zs zs.length) := ⟨_, rfl⟩
      obtain ⟨os0, hos0⟩ : ∃ os0, os0 = othersTo zs zs.length := ⟨_, rfl⟩
      rw [← hos0] at hownF
      rw [← hf0] at hmF
      have hst : start s zs = (f0, os0) := by unfold start; rw [hf0, hos0]
      have hfr := HF.out
      rw [hst] at hfr
      obtain ⟨A7, c7, rfl⟩ := own_form hownF
      have hcap := own_cap' hownF
      have hrd0 := (Reads.of_own hownF).alloc (Nat.le_refl _) (.cells #[.int .i64 (s : Int)] 3)
      have hlow7 : ∀ ad, A7 = some ad → b + 1 + 1 + 1 ≤ ad.block := by rintro ad rfl; exact (hownF.lt ad.block rfl).1
      have hboxW := heap_alloc_new wo (.cells #[.int .i64 (s : Int)] 3)
      have hsb2 := SB'.chg ((Chg.refl (fun _ => False) wo).alloc (.cells #[.int .i64 (s : Int)] 3)) (fun h => h) (fun h => h) (fun h => h)
      have hm2 := hmF.chg ((Chg.refl (fun _ => False) wo).alloc (.cells #[.int .i64 (s : Int)] 3)) (fun h => h)
      have hb2 := BB.out.alloc BB.out.size (.cells #[.int .i64 (s : Int)] 3)
      obtain ⟨wl, hwl⟩ : ∃ wl, wl = wo.alloc (.cells #[.int .i64 (s : Int)] 3) := ⟨_, rfl⟩
      have hwls : wl.heap.size = wo.heap.size + 1 := by rw [hwl]; simp
      have hwos := HSZ3.out
      have HB2 := hide hb2
      rw [← hwl] at hrd0 hboxW hsb2 hm2 hb2 ⊢
      have HOSL := hide (show ∀ o ∈ os0, o < 256 from fun o ho => by have := othersTo_lt zs zs.length o (by rw [← hos0]; exact ho); omega)
      have HF0 := hide hf0
      have HOS0 := hide hos0
      have HFULL := hide hfull
      have HST := hide hst
      have HFR := hide hfr
      have HBL := hide (show b < wl.heap.size by omega)
      clear hwl SB' hmF hownF hf0 hos0 hfull hst hfr
      gi_wp2
      refine wpIn_rangeFunc_ownG rfl h1n (gf := 72) (lb := #[.pointer (some ⟨wo.heap.size, 0, none⟩)]) rfl trivial (enters_of Try.func72 (by kernel_rfl) rfl)
        (turn_stops (n - 1) (by omega) wo.heap.size s hS1 hS2 wl hboxW) (fun h h' => h'.trans h) (fun W q o o' hq hW hnc hnw => World.putObj_heap_other (by omega)) (Below.refl _ _) (fun _ => rfl)
        (SpI w s b k wo.heap.size f0 os0)
        (fun _ _ _ => False)
        (SpI.own _ _ _ _ _ _ _ _ (by have := MM.out.lt; omega) (by have := BB.out.size; omega))
        (fun _ _ _ _ _ hs _ _ => hs)
        ⟨⟨cell_blk hsb2.h6 0, ⟨A7, _, c7, cell_blk hsb2.h7 0, frozen_blk hsb2.h7 0, hcap, hrd0, hlow7⟩, _, hm2.more (by have := HFULL.out; simp; omega)⟩, hb2⟩
        ?a1 ?assign ?body ?done ?stop
      case assign =>
        intro q x W K hK
        gi_wp2
        exact hK
      case stop =>
        rintro D c pre W _ _ h _
        exact h.elim
      case body =>
        rintro q pre x W ⟨⟨h6, ⟨A', n', c', h7, hf7, hnc, hrd, hblk⟩, cc, hM⟩, hB⟩ hlt
        have hfree := fill_free (s := s) (st := (f0, os0)) HFR.out _ (valsOf_lt pre)
        obtain ⟨f, hf⟩ : ∃ f, f = (fill (f0, os0) (valsOf pre)).1 := ⟨_, rfl⟩
        obtain ⟨os, hos⟩ : ∃ os, os = (fill (f0, os0) (valsOf pre)).2 := ⟨_, rfl⟩
        have hpair : fill (f0, os0) (valsOf pre) = (f, os) := by rw [hf, hos]
        have hsn : fill (f0, os0) (valsOf (pre ++ [x])) = fillStep (f, os) x.1 := by rw [valsOf_snoc, fill_snoc, hpair]
        rw [← hf] at hM hfree
        rw [← hos] at hrd hfree
        have hosm : ∀ o ∈ os, o < 256 := fun o ho => HOSL.out o (fill_sub (f0, os0) _ o (by rw [← hos]; exact ho))
        have hxw : (Lit.int .i64 (x.1 : Int)).wf = true := WalkArith.wf_i64 (by have := x.2; omega)
        have hlook := hM.look_ok (x.1 : Int) hxw
        have hplen : pre.length < 512 := by omega
        have hBl := HB2.out
        clear hf hos hpair
        cases hfx : f (x.1 : Int) with
        | some v =>
          rw [hfx] at hlook
          have hst1 : fillStep (f, os) x.1 = (f, os) := by unfold fillStep; simp only [hfx]
          have hlk : (Instr.lookup 126 (.map (some b)) (.int .i64 (x.1 : Int)) true).run Try.prog W = .ok (.tuple #[.int .i64 v, .bool true]) W := hlook
          have HI := hide (show SpI w s b k wo.heap.size f0 os0 (pre ++ [x]) W from by
            unfold SpI
            rw [hsn, hst1]
            exact ⟨⟨h6, ⟨A', n', c', h7, hf7, hnc, hrd, hblk⟩, cc, hM.more (by simp)⟩, hB⟩)
          clear hlook hsn hst1 hM hrd hfree hfx
          gi_wp2
          exact ⟨KeepsFrom.refl _ _, rfl, HI.out⟩
        | none =>
          rw [hfx] at hlook
          have hlk : (Instr.lookup 126 (.map (some b)) (.int .i64 (x.1 : Int)) true).run Try.prog W = .ok (.tuple #[.int .i64 0, .bool false]) W := hlook
          have hpos := freeC_pos x.2 hfx
          cases os with
          | nil => simp at hfree; omega
          | cons o r =>
            have hst1 : fillStep (f, o :: r) x.1 = (upd f (x.1 : Int) (o : Int), r) := by unfold fillStep; simp only [hfx]
            have hrl := hrd.1
            have hn1 : n' = r.length + 1 := by simp [natsV] at hrl; omega
            obtain ⟨ob, oo, rfl, hob, hoc⟩ := hrd.open_ (by omega) (by omega)
            have ko := hoc 0 (.int .i64 (o : Int)) rfl
            rw [Nat.add_zero] at ko
            have how : (Lit.int .i64 (o : Int)).wf = true := WalkArith.wf_i64 (by have := hosm o (by simp); omega)
            have hupd := (hM.below (Below.refl _ _).drew).upd (by unfold maxLen; omega) (x.1 : Int) (o : Int) hxw how
            obtain ⟨w2, hrun, hM2, hturn, hch⟩ := hupd
            clear hlook
            have hw2o : ∀ q, q ≠ b → w2.heap[q]? = W.heap[q]? := by
              obtain ⟨es, ck, es', ck', hbb, e⟩ := hturn
              intro q hq
              rw [e]
              exact ChangeMaps.heap_setBlock_other hbb _ hq
            have h7w : w2.cell? ⟨b + 1 + 1, 0, none⟩ = some (.slice (some ⟨ob, oo, none⟩) n' c') := (World.cell?_of_block (hw2o _ (by show b + 1 + 1 ≠ b; omega))).trans h7
            have f7w : w2.frozen? ⟨b + 1 + 1, 0, none⟩ = false := (World.frozen?_of_block (hw2o _ (by show b + 1 + 1 ≠ b; omega))).trans hf7
            have hobl := hblk _ rfl
            have HFIN := hide (fun (A'' : Option Addr) (m'' c'' : Nat) (hm'' : m'' = r.length) (hA : ∀ ad, A'' = some ad → ad.block = ob) (hcl : 0 < r.length → ∃ ad, A'' = some ad ∧ ∀ j u, (natsV r)[j]? = some u → W.cell? (ad.add j) = some u) (hcc : m'' ≤ c'') => by
              have hx2 := SpI.step (w := w) (s := s) (k := k) (B3 := wo.heap.size) (f0 := f0) (os0 := os0) pre x (W := W) (w2 := w2) (b := b) (A'' := A'') (m'' := m'') (c'' := c'') (r := r) hsn (by rw [hst1]) hw2o h6 (by rw [h7w]; rfl) f7w hm'' (fun ad had => by rw [hA ad had]; exact ⟨hobl, hob⟩) hcl hcc _ (by rw [hst1]; exact hM2) hB hch (by omega)
              have hk2 : KeepsFrom wl.heap.size W (w2.setCell ⟨b + 1 + 1, 0, none⟩ (.slice A'' m'' c'')) :=
                (KeepsFrom.trans (show KeepsFrom wl.heap.size W W.drew from ⟨Nat.le_refl _, fun _ _ _ h _ => h⟩) (KeepsFrom.of_grownBy hturn.grown (fun j e => by cases e; exact HBL.out))).trans ((KeepsOthers.setCell _ _ _).from _)
              have hk3 : (w2.setCell ⟨b + 1 + 1, 0, none⟩ (.slice A'' m'' c'')).heap[wo.heap.size]? = W.heap[wo.heap.size]? := (Below.heap_setCell _ _ _ _ (by show wo.heap.size ≠ b + 1 + 1; omega)).trans (hw2o _ (by omega))
              exact (⟨hk2, hk3, hx2⟩ : KeepsFrom wl.heap.size W (w2.setCell ⟨b + 1 + 1, 0, none⟩ (.slice A'' m'' c'')) ∧ (w2.setCell ⟨b + 1 + 1, 0, none⟩ (.slice A'' m'' c'')).heap[wo.heap.size]? = W.heap[wo.heap.size]? ∧ SpI w s b k wo.heap.size f0 os0 (pre ++ [x]) (w2.setCell ⟨b + 1 + 1, 0, none⟩ (.slice A'' m'' c''))))
            have HOC := hide hoc
            have hn1i : (0 : Int) < (n' : Int) := by omega
            have hn1j : (1 : Int) ≤ (n' : Int) := by omega
            clear hoc hsn hst1 hM2 hturn hch hrd hfree hfx hM hrl hobl hosm
            by_cases hc1 : c' = 1
            · have hr0 : r = [] := List.eq_nil_of_length_eq_zero (by omega)
              have hn11 : n' = 1 := by omega
              subst hr0 hc1 hn11
              clear hn1
              gi_wp2
              gi_region_with (fail)
              all_goals gi_wp2
              all_goals exact HFIN.out _ _ _ rfl (fun ad h => by cases h; rfl) (fun h => by simp at h) (by omega)
            · gi_wp2
              gi_region_with (fail)
              all_goals gi_wp2
              all_goals exact HFIN.out _ _ _ (by omega) (fun ad h => by cases h; rfl) (fun h => ⟨_, rfl, fun j u hu => by
                have := HOC.out (j + 1) u hu
                rw [show oo + (j + 1) = oo + 1 + j by omega] at this
                unfold Addr.add
                split
                · next h0 => subst h0; exact this
                · exact this⟩) (by omega)
      case done =>
        rintro D ys W hD rfl ⟨⟨h6, _, cc, hM⟩, hB⟩ hK
        have hvis : valsOf (upto (vis s hS1) s) = visits s := by simp [valsOf, upto, visits, vis, List.map_map]
        rw [hvis, ← HST.out, upto_length] at hM
        have hM1 : MapI W b (k + s) cc (spreadF s zs) := hM
        have hDlt : D < W.heap.size := (Array.getElem?_eq_some_iff.1 hK).1
        have hWs := hB.size
        have hbW := hM1.lt
        have hb1W : b + 1 < W.heap.size := World.block_lt_of_cell? _ _ h6
        obtain ⟨w4, hmk, hown4, hg4⟩ := run_make_full (P := Try.prog) W w.heap.size 24 3 i0 (.int .i64 0) 1 HUN.out hi hz0 hz1 .i64 .i64 s (by rw [hz2]; omega) (by unfold maxLen; omega) hWs
        have hch4 : Chg (fun _ => False) W w4 := (Chg.of_grown hg4).mono (fun q hq => by cases hq)
        have hM4 := hM1.chg hch4 (fun h => h)
        have h64 := (World.cell?_of_block (hch4.block (b + 1) hb1W (fun h => h))).trans h6
        have hK4 := (hch4.block D hDlt (fun h => h)).trans hK
        have hB4 := hB.trans (hch4.keep.mono hWs)
        have HM4 := hide hM4
        have HK4 := hide hK4
        have HB4 := hide hB4
        have HO4 := hide hown4
        have HD := hide (show w.heap.size ≤ D by omega)
        have HNE := hide (show D ≠ W.heap.size ∧ b ≠ W.heap.size ∧ b + 1 ≠ W.heap.size by omega)
        have HWS := hide hWs
        obtain ⟨g, hg⟩ : ∃ g, g = W.heap.size := ⟨_, rfl⟩
        rw [← hg] at hmk HO4 HNE HWS
        have HL4 := hide hown4.1
        clear hM hM1 hvis hown4 hg4 hch4 hM4 hK4 hB4 hK h6 hB hDlt hbW hb1W hWs hg
        gi_wp2
        gi_loopw [73] (fun i wr => ∃ q : Nat, q ≤ s ∧ i = .int .i64 q ∧ wr.cell? ⟨b + 1, 0, none⟩ = some (.map (some b)) ∧ MapI wr b (k + s) cc (spreadF s zs) ∧
          (∃ L, wr.ownsRow w.heap.size 3 1 (.slice (some ⟨g, 0, none⟩) s s) s L ∧ ∀ i, i < q → L[i]? = (intsV (spreadL s zs))[i]?) ∧ wr.heap[D]? = some (.deferred (some [])) ∧ Below w.heap.size w wr) (fun i _ => s - (intOf i).toNat)
        case atStart => exact ⟨0, Nat.zero_le _, rfl, h64, HM4.out, ⟨_, HO4.out, fun i hi => absurd hi (by omega)⟩, HK4.out, HB4.out⟩
        case round =>
        obtain ⟨q, hq, rfl, hc6, hM, ⟨L, hown, hL⟩, hK5, hB5⟩ := hrel
        have HOL := hide hown
        have HMM := hide hM
        have HLL := hide hL
        have HK5 := hide hK5
        have HB5 := hide hB5
        clear hK5 hB5 hL HM4 HK4 HB4 HO4 HL4 h64
        by_cases hlt3 : q < s
        · have hqs : (q : Int) < (s : Int) := by omega
          have hlook := hM.look (q : Int) (WalkArith.wf_i64 (by omega))
          obtain ⟨v, hv⟩ : ∃ v, v = (spreadF s zs (q : Int)).getD 0 := ⟨_, rfl⟩
          rw [← hv] at hlook
          have hll : q < L.length := by have := hown.1; omega
          have kk := hown.cellAt q (by omega)
          rw [List.getElem?_eq_getElem hll] at kk
          have kf := hown.frozenAt q
          have hsp : (intsV (spreadL s zs))[q]? = some (.int .i64 v) := by rw [hv]; simp [intsV, spreadL, hlt3]
          have HSP := hide hsp
          clear hM hown hv hsp
          gi_wp2
          go_roundw
          case rel =>
            have hch := (Chg.refl (fun j => j = g) wr).setCell (p := ⟨g, q, none⟩) (.inl rfl) (.int .i64 v)
            have hres := (⟨q + 1, by omega, by go_num, (World.cell?_of_block (Below.heap_setCell _ _ _ _ (by show b + 1 ≠ g; exact HNE.out.2.2))).trans hc6, HMM.out.chg hch HNE.out.2.1,
              ⟨_, (HOL.out.stored q (.int .i64 v)).1, fun i hi => by
                rw [List.getElem?_set]
                by_cases he : q = i
                · subst he
                  rw [if_pos rfl, if_pos hll]
                  exact HSP.out.symm
                · rw [if_neg he]
                  exact HLL.out i (by omega)⟩, (Below.heap_setCell _ _ _ _ (by show D ≠ g; exact HNE.out.1)).trans HK5.out, HB5.out.setCell (p := ⟨g, q, none⟩) HWS.out _⟩ :
              ∃ q_1 : Nat, q_1 ≤ s ∧ Value.int .i64 ((q : Int) + 1) = .int .i64 q_1 ∧ (wr.setCell ⟨g, q, none⟩ (.int .i64 v)).cell? ⟨b + 1, 0, none⟩ = some (.map (some b)) ∧ MapI (wr.setCell ⟨g, q, none⟩ (.int .i64 v)) b (k + s) cc (spreadF s zs) ∧
                (∃ L, (wr.setCell ⟨g, q, none⟩ (.int .i64 v)).ownsRow w.heap.size 3 1 (.slice (some ⟨g, 0, none⟩) s s) s L ∧ ∀ i, i < q_1 → L[i]? = (intsV (spreadL s zs))[i]?) ∧ (wr.setCell ⟨g, q, none⟩ (.int .i64 v)).heap[D]? = some (.deferred (some [])) ∧ Below w.heap.size w (wr.setCell ⟨g, q, none⟩ (.int .i64 v)))
            first
            | exact hres
            | ((repeat apply Exists.intro); exact ⟨hres, rfl⟩)
          case measure => simp [intOf]; try omega
        · obtain rfl : q = s := by omega
          have hLe : L = intsV (spreadL q zs) := by
            apply List.ext_getElem?
            intro i
            by_cases hi : i < q
            · exact HLL.out i hi
            · rw [List.getElem?_eq_none (by have := hown.1; omega), List.getElem?_eq_none (by simp [intsV, spreadL]; omega)]
          have hge : ¬ (q : Int) < (q : Int) := by omega
          have HO5 := hide (show wr.ownsRow w.heap.size 3 1 (.slice (some ⟨g, 0, none⟩) q q) q (intsV (spreadL q zs)) by rw [← hLe]; exact hown)
          clear hown hLe hM
          gi_wp2
          refine ⟨by simp, .inl ⟨_, _, rfl, run_takeDeferred HK5.out, ?_⟩⟩
          refine ⟨_, results_tmp2 rfl _ _ _, _, rfl, ?_, HB5.out.trans (belowK_b (n₀ := w.heap.size) (w := w) (Nat.le_refl _) wr D _ _ HD.out HK5.out rfl rfl)⟩
          exact HO5.out.kept (grownBy_putObj' _ D _) (.inr (by simp [Value.ownBlock]; exact fun e => HNE.out.1 e.symm))
end Go.Proofs.Ytohgnohifojdbaa
