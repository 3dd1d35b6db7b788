/- Texts put together: TnC, TnD. -/
import Derived.Test.YtohgnohifojdbaaTnR
import Derived.Test.YtohgnohifojdbaaFlF
namespace Go.Proofs.Ytohgnohifojdbaa
section
set_option maxRecDepth 8000
set_option maxRecDepth 8000
open Go.RowKit Go
set_option linter.unusedVariables false

theorem u8_cells {w : World} {B n : Nat} {A : Option Addr} {l : List Nat} (h : Reads w B 1 A n (u8s l)) {k : Nat} (hk : k < n) :
    ∃ b off x, A = some ⟨b, off, none⟩ ∧ b < B ∧ w.cell? ⟨b, off + k, none⟩ = some (.int .u8 ((x : Nat) : Int)) ∧ l[k]? = some x := by
  obtain ⟨b, off, rfl, hb, hc⟩ := h.open_ (by omega) (by omega)
  have hl : (u8s l).length = n := by have := h.1; omega
  have hkl : k < l.length := by simp [u8s] at hl; omega
  refine ⟨b, off, l[k], rfl, hb, hc _ _ ?_, List.getElem?_eq_getElem hkl⟩
  simp [u8s, hkl]

/-- How often each byte is there. -/
def histL (bs : List Nat) : List Int := (List.range 256).map fun j => ((bs.count j : Nat) : Int)
def histV (bs : List Nat) : Array Value := (intsV (histL bs)).toArray
theorem histV_at (bs : List Nat) {x : Nat} (hx : x < 256) : (histV bs)[x]? = some (.int .i64 ((bs.count x : Nat) : Int)) := by
  simp [histV, intsV, histL, hx]
theorem histV_snoc (bs : List Nat) {x : Nat} (hx : x < 256) : (histV bs).setIfInBounds x (.int .i64 (((bs.count x : Nat) : Int) + 1)) = histV (bs ++ [x]) := by
  unfold histV
  rw [List.setIfInBounds_toArray]
  congr 1
  apply List.ext_getElem?
  intro j
  rw [List.getElem?_set]
  by_cases hj : j < 256
  · by_cases hxj : x = j
    · subst hxj
      simp [intsV, histL, hx]
    · rw [if_neg hxj]
      have : List.count j [x] = 0 := by rw [List.count_eq_zero]; simp; omega
      simp [intsV, histL, hj, this]
  · have : x ≠ j := by omega
    rw [if_neg this]
    simp [intsV, histL, hj]
theorem histV_nil : histV [] = Try.zeroCells44 := by kernel_rfl

set_option maxHeartbeats 2000000 in
theorem hist_ok (P B : Option Addr) (n c pc : Nat) (bs : List Nat) (w : World) (hn : bs.length = n) (hr : Reads w w.heap.size 1 B n (u8s bs)) (h8 : ∀ x ∈ bs, x < 256) (hp : Reads w w.heap.size 1 P 1 [.slice B n c]) (hc : n ≤ 2000) :
    Calls Try.prog 5 #[.slice P 1 pc] w fun e w' => ∃ g, e = .returned (.slice (some ⟨g, 0, none⟩) 256 256) ∧ Reads w' w'.heap.size 1 (some ⟨g, 0, none⟩) 256 (intsV (histL bs)) ∧ Below w.heap.size w w' := by
  obtain ⟨pb, po, rfl, hpb, hpc⟩ := hp.open_ (by omega) (by omega)
  have kp := hpc 0 _ (List.getElem?_cons_zero)
  have h0 := heap_alloc_new w (.cells Try.zeroCells44 44)
  have b0 := (Below.refl w.heap.size w).alloc (Nat.le_refl _) (.cells Try.zeroCells44 44)
  rw [← histV_nil] at h0
  have HP := hide kp
  have HPB := hide hpb
  have HR := hide hr
  have HN := hide hn
  have H8 := hide h8
  have H0 := hide h0
  have HB0 := hide b0
  clear hp hpc kp hr hn h8 h0 b0 hpb
  go_enter Try.func5, Try.ntmps5
  go_wp2
  go_loopw [10] (fun i wr => (i = .int .i64 0 ∧ wr.heap[w.heap.size]? = some (.cells (histV []) 44 (0, 0)) ∧ Below w.heap.size w wr) ∨ (i = .int .i64 1 ∧ wr.heap[w.heap.size]? = some (.cells (histV bs) 44 (0, 0)) ∧ Below w.heap.size w wr)) (fun i _ => 1 - (intOf i).toNat)
  case atStart => exact .inl ⟨rfl, H0.out, HB0.out⟩
  case round =>
    rcases hrel with ⟨rfl, hh, hb⟩ | ⟨rfl, hh, hb⟩
    · have kp : wr.cell? ⟨pb, po, none⟩ = some (.slice B n c) := (hb.cell (p := ⟨pb, po, none⟩) HPB.out).trans HP.out
      have HH := hide hh
      have HB := hide hb
      clear hh hb
      go_wp2
      go_loopw [16] (fun i wr => ∃ k : Nat, k ≤ n ∧ i = .int .i64 k ∧ wr.heap[w.heap.size]? = some (.cells (histV (bs.take k)) 44 (0, 0)) ∧ Below w.heap.size w wr) (fun i _ => n - (intOf i).toNat)
      case atStart => exact ⟨0, Nat.zero_le _, rfl, HH.out, HB.out⟩
      case round =>
        obtain ⟨k, hk, rfl, hh, hb⟩ := hrel
        by_cases hlt : k < n
        · obtain ⟨b, off, x, rfl, hbb, kx, hx⟩ := u8_cells (HR.out.below hb) hlt
          have hx8 := H8.out x (List.mem_of_getElem? hx)
          have kc := (cell_blk hh x).trans (histV_at _ hx8)
          have kf := frozen_blk hh x
          have hcl : (bs.take k).count x ≤ k := Nat.le_trans List.count_le_length (by rw [List.length_take]; omega)
          have hs := set_blk hh x (.int .i64 ((((bs.take k).count x : Nat) : Int) + 1))
          rw [histV_snoc _ hx8] at hs
          have e : bs.take k ++ [x] = bs.take (k + 1) := by rw [List.take_add_one, hx, Option.toList_some]
          rw [e] at hs
          obtain ⟨q, hq⟩ : ∃ q, q = (bs.take k).count x := ⟨_, rfl⟩
          rw [← hq] at kc hcl hs
          have hkn : (k : Int) < (n : Int) := by omega
          have hw1 : IntKind.i64.wrap ((q : Int) + 1) = (q : Int) + 1 := IntWalk.i64_in _ (by omega)
          have hmin : min 2147483648 ((q : Int) + 1) = (q : Int) + 1 := by omega
          have hx0 : (0 : Int) ≤ (x : Int) := by omega
          have hx1 : (x : Int) < 256 := by omega
          have HS := hide hs
          have HB' := hide (hb.setCell (p := ⟨w.heap.size, x, none⟩) (Nat.le_refl _) (.int .i64 ((q : Int) + 1)))
          clear hs hh hb hx e hq hbb
          go_wp2
          go_roundw
          case rel => exact ⟨k + 1, by omega, by go_num, HS.out, HB'.out⟩
          case measure => simp [intOf]; try omega
        · obtain rfl : k = n := by omega
          have hfull : bs.take k = bs := List.take_of_length_le (by have := HN.out; omega)
          rw [hfull] at hh
          have hge2 : ¬ (k : Int) < (k : Int) := by omega
          clear hfull
          go_wp2
          go_roundw
          case rel => exact .inr ⟨rfl, hh, hb⟩
          case measure => simp [intOf]; try omega
    · go_wp2
      go_ret
      refine ⟨_, rfl, ⟨by simp [intsV, histL], fun _ => ⟨_, rfl, lt_of_heap hh, fun j u hu => ?_⟩⟩, hb⟩
      have := (cell_blk hh j).trans (show (histV bs)[j]? = some u by rw [← hu]; simp [histV])
      unfold Addr.add
      split
      · next h0 => subst h0; exact this
      · simpa using this
end

section
set_option maxRecDepth 8000
set_option maxRecDepth 8000
open Go.RowKit Go
set_option linter.unusedVariables false

/-- The boxes of Normalize's closures: the counts, the size, the norms, the total. -/
structure NBox (w : World) (B a2 a9 a10 a6 : Nat) (A N : Option Addr) (n c : Nat) (cs zs : List Int) (S T : Int) : Prop where
  h2 : w.heap[a2]? = some (.cells #[.slice A n c] 24 (0, 0))
  h9 : w.heap[a9]? = some (.cells #[.int .i64 S] 3 (0, 0))
  h10 : w.heap[a10]? = some (.cells #[.slice N n n] 24 (0, 0))
  h6 : w.heap[a6]? = some (.cells #[.int .i64 T] 3 (0, 0))
  rc : Reads w B 1 A n (cs.map (Value.int .i64))
  rn : Reads w w.heap.size 1 N n (zs.map (Value.int .i64))
theorem NBox.drewN {w : World} {B a2 a9 a10 a6 : Nat} {A N : Option Addr} {n c : Nat} {cs zs : List Int} {S T : Int} (h : NBox w B a2 a9 a10 a6 A N n c cs zs S T) (k : Nat) : NBox (w.drewN k) B a2 a9 a10 a6 A N n c cs zs S T :=
  ⟨h.h2, h.h9, h.h10, h.h6, h.rc, h.rn⟩

def smallZ (K : Int) (l : List Int) : Prop := ∀ z ∈ l, 0 ≤ z ∧ z ≤ K
theorem smallZ.at_ {K : Int} {l : List Int} (h : smallZ K l) {k : Nat} {z : Int} (hz : l[k]? = some z) : 0 ≤ z ∧ z ≤ K := h z (List.mem_of_getElem? hz)
theorem getD_of {l : List Int} {k : Nat} {z : Int} (hz : l[k]? = some z) : l.getD k 0 = z := by rw [List.getD_eq_getElem?_getD, hz, Option.getD_some]

section
variable {w : World} {B a2 a9 a10 a6 : Nat} {A N : Option Addr} {n c : Nat} {cs zs : List Int} {S T : Int}

theorem above_any (h : NBox w B a2 a9 a10 a6 A N n c cs zs S T) (hc : smallZ 2000 cs) (hz : smallZ 2000 zs) (hS : 0 ≤ S ∧ S ≤ 512) (hT : 0 ≤ T ∧ T ≤ 2000) {i : Nat} (hi : i < n) :
    Calls Try.prog 17 #[.int .i64 (i : Int), .pointer (some ⟨a2, 0, none⟩), .pointer (some ⟨a9, 0, none⟩), .pointer (some ⟨a10, 0, none⟩), .pointer (some ⟨a6, 0, none⟩)] w fun e w' =>
      e = .returned (.int .i64 (aboveI cs zs S T i)) ∧ ∃ m, w' = w.drewN m := by
  obtain ⟨bc, oc, y, rfl, _, ky, hy⟩ := int_cells h.rc hi
  obtain ⟨bn, on, z, rfl, _, kz, hzz⟩ := int_cells h.rn hi
  obtain ⟨y0, y1⟩ := hc.at_ hy
  obtain ⟨z0, z1⟩ := hz.at_ hzz
  have k2 := cell_blk h.h2 0
  have k9 := cell_blk h.h9 0
  have k10 := cell_blk h.h10 0
  have k6 := cell_blk h.h6 0
  have HE := hide (show aboveI cs zs S T i = y * S - z * T by unfold aboveI; rw [getD_of hy, getD_of hzz])
  have p1 : y * S ≤ 2000 * 512 := Int.mul_le_mul y1 hS.2 hS.1 (by omega)
  have p2 : z * T ≤ 2000 * 2000 := Int.mul_le_mul z1 hT.2 hT.1 (by omega)
  have p3 : 0 ≤ y * S := Int.mul_nonneg y0 hS.1
  have p4 : 0 ≤ z * T := Int.mul_nonneg z0 hT.1
  have hw1 : IntKind.i64.wrap (y * S) = y * S := IntWalk.i64_in _ (by omega)
  have hw2 : IntKind.i64.wrap (z * T) = z * T := IntWalk.i64_in _ (by omega)
  have hw3 : IntKind.i64.wrap (y * S - z * T) = y * S - z * T := IntWalk.i64_in _ (by omega)
  have hin : (i : Int) < (n : Int) := by omega
  clear h hc hz hy hzz p1 p2 p3 p4 hS hT
  go_enter Try.func17, Try.ntmps17
  go_wp2
  go_region
  go_wp2
  go_ret
  exact ⟨ret_int HE.out.symm, 1, rfl⟩

theorem pos_any (h : NBox w B a2 a9 a10 a6 A N n c cs zs S T) {i : Nat} (hi : i < n) :
    Calls Try.prog 18 #[.int .i64 (i : Int), .pointer (some ⟨a2, 0, none⟩)] w fun e w' => e = .returned (.bool (decide (0 < cs.getD i 0))) ∧ w' = w := by
  obtain ⟨bc, oc, y, rfl, _, ky, hy⟩ := int_cells h.rc hi
  have k2 := cell_blk h.h2 0
  have HE := hide (getD_of hy)
  have hin : (i : Int) < (n : Int) := by omega
  clear h hy
  go_enter Try.func18, Try.ntmps18
  go_wp2
  go_ret
  exact ⟨by rw [HE.out]; rfl, rfl⟩

theorem big_any (h : NBox w B a2 a9 a10 a6 A N n c cs zs S T) {i : Nat} (hi : i < n) :
    Calls Try.prog 19 #[.int .i64 (i : Int), .pointer (some ⟨a10, 0, none⟩)] w fun e w' => e = .returned (.bool (decide (1 < zs.getD i 0))) ∧ w' = w := by
  obtain ⟨bc, oc, y, rfl, _, ky, hy⟩ := int_cells h.rn hi
  have k2 := cell_blk h.h10 0
  have HE := hide (getD_of hy)
  have hin : (i : Int) < (n : Int) := by omega
  clear h hy
  go_enter Try.func19, Try.ntmps19
  go_wp2
  go_ret
  exact ⟨by rw [HE.out]; rfl, rfl⟩

theorem below_any (h : NBox w B a2 a9 a10 a6 A N n c cs zs S T) (hc : smallZ 2000 cs) (hz : smallZ 2000 zs) (hS : 0 ≤ S ∧ S ≤ 512) (hT : 0 ≤ T ∧ T ≤ 2000) {i a14 : Nat} (hi : i < n)
    (h14 : w.heap[a14]? = some (.cells #[.func (Fn.func 17) #[] #[.pointer (some ⟨a2, 0, none⟩), .pointer (some ⟨a9, 0, none⟩), .pointer (some ⟨a10, 0, none⟩), .pointer (some ⟨a6, 0, none⟩)]] 49 (0, 0))) :
    Calls Try.prog 20 #[.int .i64 (i : Int), .pointer (some ⟨a14, 0, none⟩)] w fun e w' =>
      e = .returned (.int .i64 (- aboveI cs zs S T i)) ∧ ∃ m, w' = w.drewN m := by
  have HA := hide (above_any h hc hz hS hT hi)
  obtain ⟨bc, oc, y, rfl, _, ky, hy⟩ := int_cells h.rc hi
  obtain ⟨bn, on, z, rfl, _, kz, hzz⟩ := int_cells h.rn hi
  obtain ⟨y0, y1⟩ := hc.at_ hy
  obtain ⟨z0, z1⟩ := hz.at_ hzz
  have k14 := cell_blk h14 0
  have he : aboveI cs zs S T i = y * S - z * T := by unfold aboveI; rw [getD_of hy, getD_of hzz]
  have p1 : y * S ≤ 2000 * 512 := Int.mul_le_mul y1 hS.2 hS.1 (by omega)
  have p2 : z * T ≤ 2000 * 2000 := Int.mul_le_mul z1 hT.2 hT.1 (by omega)
  have p3 : 0 ≤ y * S := Int.mul_nonneg y0 hS.1
  have p4 : 0 ≤ z * T := Int.mul_nonneg z0 hT.1
  have hb1 : -4000000 ≤ aboveI cs zs S T i := by omega
  have hb2 : aboveI cs zs S T i ≤ 4000000 := by omega
  obtain ⟨v, hv⟩ : ∃ v, v = aboveI cs zs S T i := ⟨_, rfl⟩
  rw [← hv] at HA hb1 hb2 ⊢
  have hw1 : IntKind.i64.wrap (-v) = -v := IntWalk.i64_in _ (by omega)
  clear h hc hz hy hzz p1 p2 p3 p4 hS hT he hv h14
  go_enter Try.func20, Try.ntmps20
  go_wp2_with fail
  refine HA.out.mono ?_
  rintro e w1 ⟨rfl, m, rfl⟩
  go_wp2
  go_ret
  exact ⟨rfl, m, rfl⟩
end

/-- A call of a function that has a body: it is entered. -/
theorem call_enter {P : Program} {f : FuncId} {fn : Func} {c : Code} (hf : P.funcs[f]? = some fn) (hname : (fn.name == "runtime.NumGoroutine") = false) (hb : fn.body = some c) (args : Array Value) (w : World) :
    (callFunc f args).run P w = .ok (.enter f args) w := by
  have h1 : fn.name ≠ "runtime.NumGoroutine" := by simpa using hname
  simp [callFunc, hf, h1, hb]

set_option maxHeartbeats 2000000 in
/-- furthest: an index that is selected and greatest, if one is selected. -/
theorem furthest_ok (fA fB : FuncId) (hcA : ∀ args w, (callFunc fA args).run Try.prog w = .ok (.enter fA args) w) (hcB : ∀ args w, (callFunc fB args).run Try.prog w = .ok (.enter fB args) w)
    (cA cB : Array Value) (Z : Option Addr) (n c : Nat) (p : Nat → Prop) [DecidablePred p] (g : Nat → Int) (w : World) (hn : n ≤ 256)
    (hA : ∀ i, i < n → ∀ j, Calls Try.prog fA (#[.int .i64 (i : Int)] ++ cA) (w.drewN j) fun e w' => e = .returned (.bool (decide (p i))) ∧ w' = w.drewN j)
    (hB : ∀ i, i < n → ∀ j, Calls Try.prog fB (#[.int .i64 (i : Int)] ++ cB) (w.drewN j) fun e w' => e = .returned (.int .i64 (g i)) ∧ ∃ m, w' = (w.drewN j).drewN m)
    (hex : ∃ i, i < n ∧ p i) :
    Calls Try.prog 21 #[.slice Z n c, .func (Fn.func fA) #[] cA, .func (Fn.func fB) #[] cB] w fun e w' =>
      ∃ i : Nat, e = .returned (.int .i64 (i : Int)) ∧ i < n ∧ p i ∧ (∀ j, j < n → p j → g j ≤ g i) ∧ ∃ m, w' = w.drewN m := by
  have HA := hide hA
  have HB := hide hB
  have HX := hide hex
  clear hA hB hex
  go_enter Try.func21, Try.ntmps21
  go_wp2
  go_loopw [7, 11] (fun best i wr => ∃ k : Nat, k ≤ n ∧ i = .int .i64 k ∧ ((best = .int .i64 (-1) ∧ ∀ j, j < k → ¬ p j) ∨ ∃ b : Nat, best = .int .i64 b ∧ b < k ∧ p b ∧ ∀ j, j < k → p j → g j ≤ g b) ∧ ∃ m, wr = w.drewN m) (fun _ i _ => n - (intOf i).toNat)
  case atStart => exact ⟨0, Nat.zero_le _, rfl, .inl ⟨rfl, fun j hj => by omega⟩, 0, rfl⟩
  case round =>
    obtain ⟨k, hk, rfl, hbest, m, rfl⟩ := hrel
    by_cases hlt : k < n
    · have hkn : (k : Int) < (n : Int) := by omega
      have hwk : IntKind.i64.wrap ((k : Int) + 1) = (k : Int) + 1 := IntWalk.i64_in _ (by omega)
      by_cases hp : p k
      · have HAK := hide (HA.out k hlt m)
        rw [show decide (p k) = true by simp [hp]] at HAK
        rcases hbest with ⟨rfl, hno⟩ | ⟨b, rfl, hb, hpb, hmax⟩
        · have HNO := hide hno
          clear hno
          go_wp2_with fail
          refine HAK.out.mono ?_
          rintro e w1 ⟨rfl, rfl⟩
          go_wp2
          go_roundw
          case rel => exact ⟨k + 1, by omega, by go_num, .inr ⟨k, rfl, by omega, hp, fun j hj hpj => by
            rcases Nat.lt_or_ge j k with h1 | h1
            · exact absurd hpj (HNO.out j h1)
            · obtain rfl : j = k := by omega
              exact Int.le_refl _⟩, m, rfl⟩
          case measure => simp [intOf]; try omega
        · have HBK := hide (HB.out k hlt m)
          have HBB := hide (fun m' => HB.out b (by omega) m')
          have HMAX := hide hmax
          have hb0 : ¬ (b : Int) < 0 := by omega
          clear hmax
          go_wp2_with fail
          refine HAK.out.mono ?_
          rintro e w1 ⟨rfl, rfl⟩
          go_wp2_with fail
          refine HBK.out.mono ?_
          rintro e w1 ⟨rfl, m1, rfl⟩
          go_wp2_with fail
          refine (HBB.out _).mono ?_
          rintro e w1 ⟨rfl, m2, rfl⟩
          by_cases hgt : g b < g k
          · go_wp2
            go_roundw
            case rel => exact ⟨k + 1, by omega, by go_num, .inr ⟨k, rfl, by omega, hp, fun j hj hpj => by
              rcases Nat.lt_or_ge j k with h1 | h1
              · have := HMAX.out j h1 hpj; omega
              · obtain rfl : j = k := by omega
                exact Int.le_refl _⟩, m + m1 + m2, rfl⟩
            case measure => simp [intOf]; try omega
          · go_wp2
            go_roundw
            case rel => exact ⟨k + 1, by omega, by go_num, .inr ⟨b, rfl, by omega, hpb, fun j hj hpj => by
              rcases Nat.lt_or_ge j k with h1 | h1
              · exact HMAX.out j h1 hpj
              · obtain rfl : j = k := by omega
                omega⟩, m + m1 + m2, rfl⟩
            case measure => simp [intOf]; try omega
      · have HAK := hide (HA.out k hlt m)
        rw [show decide (p k) = false by simp [hp]] at HAK
        have HBEST := hide hbest
        clear hbest
        go_wp2_with fail
        refine HAK.out.mono ?_
        rintro e w1 ⟨rfl, rfl⟩
        go_wp2
        go_roundw
        case rel => exact ⟨k + 1, by omega, by go_num, by
          rcases HBEST.out with ⟨rfl, hno⟩ | ⟨b, rfl, hb, hpb, hmax⟩
          · refine .inl ⟨rfl, fun j hj => ?_⟩
            rcases Nat.lt_or_ge j k with h1 | h1
            · exact hno j h1
            · obtain rfl : j = k := by omega
              exact hp
          · refine .inr ⟨b, rfl, by omega, hpb, fun j hj hpj => ?_⟩
            rcases Nat.lt_or_ge j k with h1 | h1
            · exact hmax j h1 hpj
            · obtain rfl : j = k := by omega
              exact absurd hpj hp, m, rfl⟩
        case measure => simp [intOf]; try omega
    · obtain rfl : k = n := by omega
      have hge2 : ¬ (k : Int) < (k : Int) := by omega
      rcases hbest with ⟨rfl, hno⟩ | ⟨b, rfl, hb, hpb, hmax⟩
      · obtain ⟨i, hi, hpi⟩ := HX.out
        exact absurd hpi (hno i hi)
      · have HMAX := hide hmax
        clear hmax
        go_wp2
        go_ret
        exact ⟨b, rfl, hb, hpb, HMAX.out, m, rfl⟩
end

end Go.Proofs.Ytohgnohifojdbaa
