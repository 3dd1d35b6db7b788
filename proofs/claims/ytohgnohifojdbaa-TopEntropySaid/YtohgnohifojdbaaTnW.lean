/- Texts put together: TnM, TnN, TnO. -/
import Derived.Test.YtohgnohifojdbaaTnS
import Derived.Laws.EntriesVeiled
import Derived.Deep.RegionHeld3
import Derived.Test.YtohgnohifojdbaaFlN
namespace Go.Proofs.Ytohgnohifojdbaa
section
set_option maxRecDepth 8000
set_option maxRecDepth 8000
open Go.RowKit Go
set_option linter.unusedVariables false

def firstZ (c S T : Int) : Int := if 0 < c then max (c * S / T) 1 else 0
/-- The first norms, as far as they are given. -/
def iz (cs : List Int) (S T : Int) (k : Nat) : List Int := (List.range cs.length).map fun i => if i < k then firstZ (cs.getD i 0) S T else 0
theorem iz_length (cs : List Int) (S T : Int) (k : Nat) : (iz cs S T k).length = cs.length := by simp [iz]
theorem iz_at (cs : List Int) (S T : Int) (k : Nat) {i : Nat} (hi : i < cs.length) : (iz cs S T k)[i]? = some (if i < k then firstZ (cs.getD i 0) S T else 0) := by
  unfold iz
  rw [List.getElem?_map, List.getElem?_range hi]
  rfl
theorem iz_getD (cs : List Int) (S T : Int) (k i : Nat) : (iz cs S T k).getD i 0 = if i < k then firstZ (cs.getD i 0) S T else 0 := by
  by_cases hi : i < cs.length
  · rw [List.getD_eq_getElem?_getD, iz_at _ _ _ _ hi]
    rfl
  · have h0 : cs.getD i 0 = 0 := by rw [List.getD_eq_getElem?_getD, List.getElem?_eq_none (by omega)]; rfl
    rw [List.getD_eq_getElem?_getD, List.getElem?_eq_none (by rw [iz_length]; omega), h0]
    unfold firstZ
    simp
theorem iz_zero (cs : List Int) (S T : Int) : iz cs S T 0 = List.replicate cs.length 0 := by
  apply List.ext_getElem?
  intro i
  by_cases hi : i < cs.length
  · rw [iz_at _ _ _ _ hi, List.getElem?_replicate, if_pos hi]
    simp
  · rw [List.getElem?_eq_none (by rw [iz_length]; omega), List.getElem?_eq_none (by simp; omega)]
theorem iz_succ (cs : List Int) (S T : Int) (k : Nat) : iz cs S T (k + 1) = if 0 < cs.getD k 0 then (iz cs S T k).set k (max (cs.getD k 0 * S / T) 1) else iz cs S T k := by
  apply List.ext_getElem?
  intro i
  by_cases hi : i < cs.length
  · rw [iz_at _ _ _ _ hi]
    by_cases hc : 0 < cs.getD k 0
    · rw [if_pos hc, List.getElem?_set, iz_length, iz_at _ _ _ _ hi]
      by_cases hki : k = i
      · subst hki
        rw [if_pos (Nat.lt_succ_self k), if_pos rfl, if_pos hi]
        unfold firstZ
        rw [if_pos hc]
      · have e : i < k + 1 ↔ i < k := ⟨fun _ => by omega, fun _ => by omega⟩
        simp only [if_neg hki, e]
    · rw [if_neg hc, iz_at _ _ _ _ hi]
      by_cases hki : i = k
      · subst hki
        rw [if_pos (Nat.lt_succ_self i), if_neg (Nat.lt_irrefl i)]
        unfold firstZ
        rw [if_neg hc]
      · have e : i < k + 1 ↔ i < k := ⟨fun _ => by omega, fun _ => by omega⟩
        simp only [e]
  · rw [List.getElem?_eq_none (by rw [iz_length]; omega)]
    split
    · rw [List.getElem?_eq_none (by rw [List.length_set, iz_length]; omega)]
    · rw [List.getElem?_eq_none (by rw [iz_length]; omega)]

theorem getD_le_sum : ∀ {l : List Int}, (∀ z ∈ l, 0 ≤ z) → ∀ i, l.getD i 0 ≤ l.sum
  | [], _, i => by simp
  | a :: l, h, 0 => by
    have := sum_nn (cs := l) fun z hz => h z (List.mem_cons_of_mem _ hz)
    simp only [List.getD_cons_zero, List.sum_cons]
    omega
  | a :: l, h, i + 1 => by
    have := getD_le_sum (l := l) (fun z hz => h z (List.mem_cons_of_mem _ hz)) i
    have := h a (List.mem_cons_self ..)
    simp only [List.getD_cons_succ, List.sum_cons]
    omega
theorem getD_nn {l : List Int} (h : ∀ z ∈ l, 0 ≤ z) (i : Nat) : 0 ≤ l.getD i 0 := by
  rw [List.getD_eq_getElem?_getD]
  cases hz : l[i]? with
  | none => simp
  | some z => exact h z (List.mem_of_getElem? hz)
theorem smallZ_of {K : Int} (hK : 0 ≤ K) {l : List Int} (h : ∀ i, 0 ≤ l.getD i 0 ∧ l.getD i 0 ≤ K) : smallZ K l := by
  intro z hz
  obtain ⟨i, hi⟩ := List.getElem?_of_mem hz
  have := h i
  rw [getD_of hi] at this
  exact this
theorem smallZ_sum : ∀ {K : Int} {l : List Int}, smallZ K l → 0 ≤ l.sum ∧ l.sum ≤ K * (l.length : Int)
  | K, [], _ => by simp
  | K, a :: l, h => by
    have h1 := h a (List.mem_cons_self ..)
    have h2 := smallZ_sum (K := K) (l := l) fun z hz => h z (List.mem_cons_of_mem _ hz)
    rw [List.sum_cons, List.length_cons]
    have : K * ((l.length + 1 : Nat) : Int) = K * (l.length : Int) + K := by rw [Int.natCast_add, Int.mul_add]; simp
    omega
theorem smallZ.set {K : Int} {l : List Int} (h : smallZ K l) {z : Int} (hz : 0 ≤ z ∧ z ≤ K) (i : Nat) : smallZ K (l.set i z) := by
  intro y hy
  rcases List.mem_or_eq_of_mem_set hy with h1 | rfl
  · exact h y h1
  · exact hz

section
variable {cs : List Int} {S T : Int}
theorem firstZ_small (hC : CountI cs) (hT : cs.sum = T) (hS : 1 ≤ S ∧ S ≤ 512) (hTp : 0 < T) (i : Nat) : 0 ≤ firstZ (cs.getD i 0) S T ∧ firstZ (cs.getD i 0) S T ≤ 512 := by
  have h1 := getD_le_sum hC.nn i
  have h0 := getD_nn hC.nn i
  unfold firstZ
  split
  · have h2 : cs.getD i 0 * S / T ≤ S := by
      refine Int.ediv_le_of_le_mul hTp ?_
      rw [Int.mul_comm S T]
      exact Int.mul_le_mul (by omega) (Int.le_refl _) (by omega) (by omega)
    omega
  · omega
theorem iz_small (hC : CountI cs) (hT : cs.sum = T) (hS : 1 ≤ S ∧ S ≤ 512) (hTp : 0 < T) (k : Nat) : smallZ 512 (iz cs S T k) := by
  refine smallZ_of (by omega) fun i => ?_
  rw [iz_getD]
  split
  · exact firstZ_small hC hT hS hTp i
  · omega
theorem iz_NI (hC : CountI cs) (hT : cs.sum = T) (hS : 1 ≤ S ∧ S ≤ 512) (hTp : 0 < T) : NI cs (iz cs S T cs.length) S T (S - (iz cs S T cs.length).sum) := by
  refine ⟨iz_length .., fun i hi => ?_, fun i hi => ?_, by omega, fun i hi hr => ?_⟩
  · rw [iz_getD, if_pos (lt_of_getD (by omega))]
    unfold firstZ
    rw [if_pos hi]
    omega
  · rw [iz_getD]
    unfold firstZ
    rw [if_neg hi]
    split <;> rfl
  · rw [iz_getD, if_pos (lt_of_getD (by omega))]
    unfold firstZ
    rw [if_pos hi, Int.ediv_eq_zero_of_lt (Int.mul_nonneg (by omega) (by omega)) hr]
    decide
end

/-- The head of an owned row is owned. -/
theorem own_head {w : World} {base : Nat} {e : TypeId} {size n c : Nat} {A : Option Addr} {xs : List Value} (h : w.ownsRow base e size (.slice A n c) n xs) {k : Nat} (hk : k ≤ n) : w.ownsRow base e size (.slice A k c) k (xs.take (k * size)) := by
  refine ⟨by rw [List.length_take, h.1]; exact Nat.min_eq_left (Nat.mul_le_mul_right _ hk), ?_⟩
  rcases h.2 with ⟨hv, h0⟩ | ⟨g, cap, cur, hv, hb, hg, hnc, hm, hs, ht⟩
  · injection hv with h1 h2 h3
    obtain rfl : k = 0 := by omega
    exact .inl ⟨by rw [h1, h3], rfl⟩
  · injection hv with h1 h2 h3
    refine .inr ⟨g, cap, cur, by rw [h1, h3], hb, hg, by omega, hm, hs, ?_⟩
    rw [← ht, List.take_take, Nat.min_eq_left (Nat.mul_le_mul_right _ hk)]

/-- Normalize's blocks from q on. -/
structure NS (w0 wr : World) (q : Nat) (A : Option Addr) (n c : Nat) (cs zs : List Int) (S T : Int) : Prop where
  box : NBox wr q q (q + 3) (q + 5) (q + 2) A (some ⟨q + 4, 0, none⟩) n c cs zs S T
  h4 : wr.heap[q + 1]? = some (.cells #[.int .i64 0, .slice none 0 0] 28 (0, 0))
  own : wr.ownsRow q 3 1 (.slice (some ⟨q + 4, 0, none⟩) n n) n (zs.map (Value.int .i64))
  bel : Below q w0 wr
  far : ∀ ad, A = some ad → ad.block < q
section
variable {w0 wr : World} {q : Nat} {A : Option Addr} {n c : Nat} {cs zs : List Int} {S T : Int}
theorem NS.lt (h : NS w0 wr q A n c cs zs S T) : q + 5 < wr.heap.size := lt_of_heap h.box.h10
theorem NS.len (h : NS w0 wr q A n c cs zs S T) : zs.length = n := by have := h.own.1; simpa using this
theorem NS.more (h : NS w0 wr q A n c cs zs S T) {w' : World} {F : Nat → Prop} (hc : Chg F wr w') (hF : ∀ k, F k → q + 5 < k) : NS w0 w' q A n c cs zs S T := by
  have hl := h.lt
  have ho := own_chg h.own hc (fun k hk hf => by have := hF k hf; have hk : q + 4 = k := (by simpa [Value.ownBlock] using hk); omega)
  exact ⟨⟨hc.heap h.box.h2 (fun hf => by have := hF _ hf; omega), hc.heap h.box.h9 (fun hf => by have := hF _ hf; omega), hc.heap h.box.h10 (fun hf => by have := hF _ hf; omega), hc.heap h.box.h6 (fun hf => by have := hF _ hf; omega),
    h.box.rc.chg hc (by omega) (fun ad e hf => by have := hF _ hf; have := h.far ad e; omega), Reads.of_own ho⟩, hc.heap h.h4 (fun hf => by have := hF _ hf; omega), ho, h.bel.trans (hc.below (fun k hf => by have := hF _ hf; omega) (by omega)), h.far⟩
theorem NS.drewN (h : NS w0 wr q A n c cs zs S T) (m : Nat) : NS w0 (wr.drewN m) q A n c cs zs S T := h.more (F := fun _ => False) ((Chg.refl _ wr).drewN m) (fun _ hf => hf.elim)
theorem NS.put (h : NS w0 wr q A n c cs zs S T) {i : Nat} (hi : i < n) (z : Int) : NS w0 (wr.setCell ⟨q + 4, i, none⟩ (.int .i64 z)) q A n c cs (zs.set i z) S T := by
  have hl := h.lt
  have ho := (h.own.stored i (.int .i64 z)).1
  rw [← List.map_set] at ho
  have hc : Chg (fun k => k = q + 4) wr (wr.setCell ⟨q + 4, i, none⟩ (.int .i64 z)) := (Chg.refl (fun k => k = q + 4) wr).setCell (p := ⟨q + 4, i, none⟩) (.inl rfl) _
  exact ⟨⟨hc.heap h.box.h2 (by omega), hc.heap h.box.h9 (by omega), hc.heap h.box.h10 (by omega), hc.heap h.box.h6 (by omega), h.box.rc.chg hc (by omega) (fun ad e => by have := h.far ad e; omega), Reads.of_own ho⟩,
    hc.heap h.h4 (by omega), ho, h.bel.trans (hc.below (fun k hf => by omega) (by omega)), h.far⟩
end

theorem enter_1 : ∀ args w, (callFunc 17 args).run Try.prog w = .ok (.enter 17 args) w := by
  intro args w
  obtain ⟨c, hc⟩ : ∃ c, Try.f17.body = some c := ⟨_, rfl⟩
  exact call_enter Try.func17 (by kernel_rfl) hc args w
theorem enter_2 : ∀ args w, (callFunc 18 args).run Try.prog w = .ok (.enter 18 args) w := by
  intro args w
  obtain ⟨c, hc⟩ : ∃ c, Try.f18.body = some c := ⟨_, rfl⟩
  exact call_enter Try.func18 (by kernel_rfl) hc args w
theorem enter_3 : ∀ args w, (callFunc 19 args).run Try.prog w = .ok (.enter 19 args) w := by
  intro args w
  obtain ⟨c, hc⟩ : ∃ c, Try.f19.body = some c := ⟨_, rfl⟩
  exact call_enter Try.func19 (by kernel_rfl) hc args w
theorem enter_4 : ∀ args w, (callFunc 20 args).run Try.prog w = .ok (.enter 20 args) w := by
  intro args w
  obtain ⟨c, hc⟩ : ∃ c, Try.f20.body = some c := ⟨_, rfl⟩
  exact call_enter Try.func20 (by kernel_rfl) hc args w

theorem arr_cons1 (x a : Value) : #[x] ++ #[a] = #[x, a] := rfl
theorem arr_cons4 (x a b c d : Value) : #[x] ++ #[a, b, c, d] = #[x, a, b, c, d] := rfl

/-- A way of mending: what furthest answers at any world of Normalize. -/
def Way (w0 : World) (q : Nat) (A : Option Addr) (n c : Nat) (cs : List Int) (S T : Int) (fA fB : FuncId) (cA cB : Array Value) (d : Int) (F : World → Prop) : Prop :=
  ∀ (wr : World) (zs : List Int) (left : Int), F wr → NS w0 wr q A n c cs zs S T → smallZ 512 zs → NI cs zs S T left → 0 < left * d →
    Calls Try.prog 21 #[.slice (some ⟨q + 4, 0, none⟩) n n, .func (Fn.func fA) #[] cA, .func (Fn.func fB) #[] cB] wr fun e w' =>
      ∃ i : Nat, e = .returned (.int .i64 (i : Int)) ∧ i < n ∧ (∃ z, zs[i]? = some z ∧ 0 ≤ z ∧ z ≤ 512 ∧ smallZ 512 (zs.set i (z + d)) ∧ NI cs (zs.set i (z + d)) S T (left - d)) ∧ ∃ m, w' = wr.drewN m

section
variable {w0 : World} {q : Nat} {A : Option Addr} {n c : Nat} {cs : List Int} {S T : Int}
theorem way_up (hC : CountI cs) (hT : cs.sum = T) (hS : 1 ≤ S ∧ S ≤ 512) (hTp : 0 < T) (hn : cs.length = n) :
    Way w0 q A n c cs S T 18 17 #[.pointer (some ⟨q, 0, none⟩)] #[.pointer (some ⟨q, 0, none⟩), .pointer (some ⟨q + 3, 0, none⟩), .pointer (some ⟨q + 5, 0, none⟩), .pointer (some ⟨q + 2, 0, none⟩)] 1 (fun _ => True) := by
  intro wr zs left _ hNS hz hNI hl
  have hcs : smallZ 2000 cs := fun z h => ⟨hC.nn z h, by
    obtain ⟨i, hi⟩ := List.getElem?_of_mem h
    have := getD_le_sum hC.nn i
    rw [getD_of hi] at this
    have := hC.sum
    omega⟩
  have hz2 : smallZ 2000 zs := fun z h => by have := hz z h; omega
  have hsum := hC.sum
  have hlz := hNS.len
  have hex : ∃ i, i < n ∧ 0 < cs.getD i 0 := by
    have hu := hC.used
    unfold usedI at hu
    obtain ⟨x, hx, hp⟩ := List.countP_pos_iff.1 hu
    obtain ⟨i, hi⟩ := List.getElem?_of_mem hx
    refine ⟨i, ?_, ?_⟩
    · rw [← hn]
      exact (List.getElem?_eq_some_iff.1 hi).1
    · rw [getD_of hi]
      exact of_decide_eq_true hp
  refine (furthest_ok 18 17 enter_2 enter_1 _ _ _ n n (fun i => 0 < cs.getD i 0) (aboveI cs zs S T) wr (by have := hC.len; omega)
    (fun i hi j => by rw [arr_cons1]; exact pos_any (hNS.box.drewN j) hi) (fun i hi j => by rw [arr_cons4]; exact above_any (hNS.box.drewN j) hcs hz2 (by omega) (by omega) hi) hex).mono ?_
  rintro e w' ⟨i, rfl, hi, hp, hmax, hm⟩
  have hNI' := NI.up hNI (fun j => getD_nn hC.nn j) hT hTp (by omega) hp (fun j hj => hmax j (by rw [← hn]; exact lt_of_getD (by omega)) hj)
  obtain ⟨z, hzi⟩ : ∃ z, zs[i]? = some z := ⟨_, List.getElem?_eq_getElem (by omega)⟩
  have hzz := hz.at_ hzi
  rw [getD_of hzi] at hNI'
  have hle := getD_le_sum (fun z h => (hz z h).1) i
  rw [getD_of hzi] at hle
  have hs := hNI.sum
  exact ⟨i, rfl, hi, ⟨z, hzi, hzz.1, hzz.2, hz.set (by omega) i, hNI'⟩, hm⟩

theorem way_down (hC : CountI cs) (hT : cs.sum = T) (hS : 1 ≤ S ∧ S ≤ 512) (hTp : 0 < T) (hn : cs.length = n) (hu : (usedI cs : Int) ≤ S) :
    Way w0 q A n c cs S T 19 20 #[.pointer (some ⟨q + 5, 0, none⟩)] #[.pointer (some ⟨q + 6, 0, none⟩)] (-1)
      (fun w => w.heap[q + 6]? = some (.cells #[.func (Fn.func 17) #[] #[.pointer (some ⟨q, 0, none⟩), .pointer (some ⟨q + 3, 0, none⟩), .pointer (some ⟨q + 5, 0, none⟩), .pointer (some ⟨q + 2, 0, none⟩)]] 49 (0, 0))) := by
  intro wr zs left hF hNS hz hNI hl
  have hcs : smallZ 2000 cs := fun z h => ⟨hC.nn z h, by
    obtain ⟨i, hi⟩ := List.getElem?_of_mem h
    have := getD_le_sum hC.nn i
    rw [getD_of hi] at this
    have := hC.sum
    omega⟩
  have hz2 : smallZ 2000 zs := fun z h => by have := hz z h; omega
  have hsum := hC.sum
  have hlz := hNS.len
  have hex := NI.some_down hNI hu (by omega)
  rw [hlz] at hex
  refine (furthest_ok 19 20 enter_3 enter_4 _ _ _ n n (fun i => 1 < zs.getD i 0) (fun i => - aboveI cs zs S T i) wr (by have := hC.len; omega)
    (fun i hi j => by rw [arr_cons1]; exact big_any (hNS.box.drewN j) hi) (fun i hi j => by rw [arr_cons1]; exact below_any (hNS.box.drewN j) hcs hz2 (by omega) (by omega) hi hF) hex).mono ?_
  rintro e w' ⟨i, rfl, hi, hp, _, hm⟩
  have hNI' := NI.down hNI hp
  obtain ⟨z, hzi⟩ : ∃ z, zs[i]? = some z := ⟨_, List.getElem?_eq_getElem (by omega)⟩
  have hzz := hz.at_ hzi
  rw [getD_of hzi] at hNI' hp
  have e1 : z - 1 = z + -1 := by omega
  have e2 : left + 1 = left - -1 := by omega
  rw [e1, e2] at hNI'
  exact ⟨i, rfl, hi, ⟨z, hzi, hzz.1, hzz.2, hz.set (by omega) i, hNI'⟩, hm⟩
end
end

section
set_option maxRecDepth 8000
set_option maxRecDepth 8000
open Go.RowKit Go
set_option linter.unusedVariables false

set_option maxHeartbeats 4000000 in
theorem normalize_ok (L : Nat) (A : Option Addr) (n c : Nat) (cs : List Int) (w : World) (hn : cs.length = n) (hr : Reads w w.heap.size 1 A n (cs.map (Value.int .i64))) (hC : CountI cs) (hc : n ≤ c) (hc' : c ≤ maxLen) (hL : L ≤ 9) (hu : usedI cs ≤ 2 ^ L) :
    Calls Try.prog 7 #[.slice A n c, .int .i64 (L : Int)] w fun e w' =>
      ∃ v zs, e = .returned (.tuple #[.agg #[.int .i64 (L : Int), v], .int .i64 0]) ∧ w'.ownsRow w.heap.size 3 1 v zs.length (zs.map (Value.int .i64)) ∧ okT (L : Int) zs ∧
        (∀ i, 0 < cs.getD i 0 → ∃ z, zs[i]? = some z ∧ z ≠ 0) ∧ Below w.heap.size w w' := by
  have hmf : ∀ (fn : Fn) (first cap : Array Value) (w : World), (Instr.makeFunc fn first cap).run Try.prog w = .ok (.func fn first cap) w := fun _ _ _ _ => rfl
  obtain ⟨i0, hi0, hz0, hz1, hz2⟩ := info_parts info_int
  obtain ⟨q, hq⟩ : ∃ q, q = w.heap.size := ⟨_, rfl⟩
  have hn256 : n ≤ 256 := by have := hC.len; omega
  have hmax : c ≤ 9223372036854775807 := by unfold maxLen at hc'; omega
  have hnp : 0 < n := by have := hC.used; have := usedI_le cs; omega
  obtain ⟨bA, oA', rfl, hbA, hcA⟩ := hr.open_ hnp (by omega)
  obtain ⟨W0, hW0⟩ : ∃ W0, W0 = (w.alloc (.cells #[.slice (some ⟨bA, oA', none⟩) n c] 24 (0, 0))).alloc (.cells #[.int .i64 0, .slice none 0 0] 28 (0, 0)) := ⟨_, rfl⟩
  have b0 : Below q w W0 := by rw [hW0, hq]; exact ((Below.refl w.heap.size w).alloc (Nat.le_refl _) _).alloc (by simp) _
  have s0 : W0.heap.size = q + 2 := by rw [hW0, hq]; simp
  have HALL := hide (all_ok (some ⟨bA, oA', none⟩) n c cs W0 hn ((hr.below (hq ▸ b0)).more (by omega)) hC hc hc')
  have g00 : W0.heap[q]? = some (.cells #[.slice (some ⟨bA, oA', none⟩) n c] 24 (0, 0)) := by rw [hW0, hq]; exact heap_alloc2_old w _ _
  have g01 : W0.heap[q + 1]? = some (.cells #[.int .i64 0, .slice none 0 0] 28 (0, 0)) := by rw [hW0, hq]; exact heap_alloc2_new w _ _
  obtain ⟨U, hU⟩ : ∃ U, U = usedI cs := ⟨_, rfl⟩
  obtain ⟨T, hT⟩ : ∃ T, cs.sum = T := ⟨_, rfl⟩
  obtain ⟨S, hS⟩ : ∃ S, S = 2 ^ L := ⟨_, rfl⟩
  have hS2 : S ≤ 512 := by rw [hS]; calc 2 ^ L ≤ 2 ^ 9 := Nat.pow_le_pow_right (by omega) hL
    _ = 512 := by decide
  have hS1 : 1 ≤ S := by rw [hS]; exact Nat.pow_pos (by omega)
  rw [hT, ← hU] at HALL
  rw [← hU, ← hS] at hu
  have hSi : ((2 : Int) ^ L) = (S : Int) := by rw [hS]; simp
  have hSw : IntKind.i64.wrap ((2 : Int) ^ L) = (S : Int) := by rw [hSi, IntWalk.i64_in _ (by omega)]
  have hmk : ∀ X : World, (Instr.makeSlice 24 (.int .i64 (n : Int)) (.int .i64 (n : Int))).run Try.prog X = .ok (.slice (some ⟨X.heap.size, 0, none⟩) n n) (X.alloc (.cells (Array.replicate n (Value.int .i64 0)) 3)) := by
    intro X
    have h := run_make (P := Try.prog) X 24 3 i0 (.int .i64 0) Try.underlying24 hi0 hz0 .i64 .i64 n n (by omega) (Int.le_refl _) (by rw [hz2]; omega) (by omega)
    rw [hz1, Int.toNat_natCast, Nat.mul_one] at h
    rw [h, show madeCells (Value.int .i64 0).cells n = Array.replicate n (Value.int .i64 0) by
      apply Array.toList_inj.1
      rw [Array.toList_replicate]
      exact toList_madeCells_one _ _]
  have hn1 : decide ((L : Int) < 0) = false := by simp
  have hn2 : decide (9 < (L : Int)) = false := by simp; omega
  have hn3 : decide (S < U) = false := by simp; omega
  have hw0 : W0.cell? ⟨w.heap.size, 0, none⟩ = some (.slice (some ⟨bA, oA', none⟩) n c) := by rw [← hq]; exact cell_blk g00 0
  obtain ⟨X1, hX1⟩ : ∃ X1, X1 = W0.alloc (.cells #[.int .i64 T] 3 (0, 0)) := ⟨_, rfl⟩
  obtain ⟨X2, hX2⟩ : ∃ X2, X2 = X1.alloc (.cells #[.int .i64 (S : Int)] 3 (0, 0)) := ⟨_, rfl⟩
  obtain ⟨X3, hX3⟩ : ∃ X3, X3 = X2.alloc (.cells (Array.replicate n (Value.int .i64 0)) 3 (0, 0)) := ⟨_, rfl⟩
  obtain ⟨X4, hX4⟩ : ∃ X4, X4 = X3.alloc (.cells #[.slice (some ⟨X2.heap.size, 0, none⟩) n n] 24 (0, 0)) := ⟨_, rfl⟩
  have s1 : X1.heap.size = q + 3 := by rw [hX1]; simp [s0]
  have s2 : X2.heap.size = q + 4 := by rw [hX2]; simp [s1]
  have s3 : X3.heap.size = q + 5 := by rw [hX3]; simp [s2]
  have s4 : X4.heap.size = q + 6 := by rw [hX4]; simp [s3]
  rw [s2] at hX4
  have b1 : Below q W0 X1 := by rw [hX1]; exact (Below.refl q W0).alloc (by omega) _
  have b2 : Below q W0 X2 := by rw [hX2]; exact b1.alloc (by omega) _
  have b3 : Below q W0 X3 := by rw [hX3]; exact b2.alloc (by omega) _
  have b4 : Below q W0 X4 := by rw [hX4]; exact b3.alloc (by omega) _
  have g12 : X1.heap[q + 2]? = some (.cells #[.int .i64 T] 3 (0, 0)) := by rw [hX1, ← s0]; exact heap_alloc_new W0 _
  have g23 : X2.heap[q + 3]? = some (.cells #[.int .i64 (S : Int)] 3 (0, 0)) := by rw [hX2, ← s1]; exact heap_alloc_new X1 _
  have g45 : X4.heap[q + 5]? = some (.cells #[.slice (some ⟨q + 4, 0, none⟩) n n] 24 (0, 0)) := by rw [hX4, ← s3]; exact heap_alloc_new X3 _
  have g20 : X2.heap[q]? = some (.cells #[.slice (some ⟨bA, oA', none⟩) n c] 24 (0, 0)) := by rw [hX2, hX1]; exact alloc_far (alloc_far g00 _) _
  have f34 : ∀ {g : Nat} {o : Obj}, X2.heap[g]? = some o → X4.heap[g]? = some o := by intro g o h; rw [hX4, hX3]; exact alloc_far (alloc_far h _) _
  have g40 := f34 g20
  have g43 := f34 g23
  have g42 : X4.heap[q + 2]? = some (.cells #[.int .i64 T] 3 (0, 0)) := f34 (by rw [hX2]; exact alloc_far g12 _)
  have g41 : X4.heap[q + 1]? = some (.cells #[.int .i64 0, .slice none 0 0] 28 (0, 0)) := f34 (by rw [hX2, hX1]; exact alloc_far (alloc_far g01 _) _)
  have ow3 : X3.ownsRow q 3 1 (.slice (some ⟨q + 4, 0, none⟩) n n) n (List.replicate n (Value.int .i64 0)) := by
    have h := World.ownsRow_lit (base := q) (e := 3) (size := 1) X2 (Array.replicate n (Value.int .i64 0)) n (by omega) (by unfold maxLen; omega) (by simp)
    rw [Array.toList_replicate] at h
    rw [hX3, ← s2]
    exact h
  have ow4 : X4.ownsRow q 3 1 (.slice (some ⟨q + 4, 0, none⟩) n n) n (((iz cs (S : Int) T 0)).map (Value.int .i64)) := by
    rw [iz_zero, hn, List.map_replicate]
    refine own_chg ow3 (S := fun _ => False) ?_ (fun _ _ h => h)
    rw [hX4]
    exact (Chg.refl _ X3).alloc _
  have hNS : NS w X4 q (some ⟨bA, oA', none⟩) n c cs (iz cs (S : Int) T 0) (S : Int) T :=
    ⟨⟨g40, g43, g45, g42, hq ▸ hr.below (hq ▸ b0.trans b4), Reads.of_own ow4⟩, g41, ow4, b0.trans b4, fun ad e => by injection e with e; subst e; rw [hq]; exact hbA⟩
  have k20 : X2.cell? ⟨w.heap.size, 0, none⟩ = some (.slice (some ⟨bA, oA', none⟩) n c) := by rw [← hq]; exact cell_blk g20 0
  have k43 : X4.cell? ⟨q + 3, 0, none⟩ = some (.int .i64 (S : Int)) := cell_blk g43 0
  have k40 : X4.cell? ⟨q, 0, none⟩ = some (.slice (some ⟨bA, oA', none⟩) n c) := cell_blk g40 0
  have HC := hide hC
  have HT := hide hT
  have HU := hide hU
  have HSS := hide hS
  have HW0 := hide hW0
  have HX1 := hide hX1
  have HX2 := hide hX2
  have HX3 := hide hX3
  have HX4 := hide hX4
  have HS0 := hide s0
  have HS1 := hide s1
  have HS2 := hide s2
  have HS3 := hide s3
  have HS4 := hide s4
  have HNS := hide hNS
  have HQ := hide hq
  have HN := hide hn
  clear hC hT hU hS hW0 hX1 hX2 hX3 hX4 s0 s1 s2 s3 s4 hNS hq hn ow3 ow4 g40 g41 g42 g43 g20 g45 g23 g12 f34 b0 b1 b2 b3 b4 g00 g01 hr hcA hSi hw0
  go_enter Try.func7, Try.ntmps7
  go_wp2_with fail
  rw [← HW0.out]
  refine HALL.out.mono ?_
  rintro e w1 ⟨rfl, rfl⟩
  have e3 : w1.heap.size + 1 = q + 3 := by rw [HS0.out]
  have e4 : w1.heap.size + 1 + 1 = q + 4 := by rw [HS0.out]
  have e5 : w1.heap.size + 1 + 1 + 1 = q + 5 := by rw [HS0.out]
  rw [HX4.out, ← e4, HX3.out, HX2.out, HX1.out, HQ.out] at k40
  rw [← e3, HX4.out, ← e4, HX3.out, HX2.out, HX1.out] at k43
  rw [HX2.out, HX1.out] at k20
  have E3 := hide e3
  have E4 := hide e4
  have E5 := hide e5
  clear e3 e4 e5
  go_wp2_with fail
  rw [E5.out, E4.out, E3.out, HS0.out, ← HQ.out, ← HX1.out, ← HX2.out, ← HX3.out, ← HX4.out]
  go_loopw [11, 49] (fun left i wr => ∃ k : Nat, k ≤ n ∧ i = .int .i64 k ∧ left = .int .i64 ((S : Int) - (iz cs (S : Int) T k).sum) ∧ NS w wr q (some ⟨bA, oA', none⟩) n c cs (iz cs (S : Int) T k) (S : Int) T ∧ wr.heap.size = q + 6) (fun _ i _ => n - (intOf i).toNat)
  case atStart => exact ⟨0, Nat.zero_le _, rfl, by rw [iz_zero]; simp, HNS.out, HS4.out⟩
  case round =>
    obtain ⟨k, hk, rfl, rfl, hns, hsz⟩ := hrel
    have k2 := cell_blk hns.box.h2 0
    have k9 := cell_blk hns.box.h9 0
    have k10 := cell_blk hns.box.h10 0
    have k6 := cell_blk hns.box.h6 0
    by_cases hlt : k < n
    · have hkn : (k : Int) < (n : Int) := by omega
      have hwk : IntKind.i64.wrap ((k : Int) + 1) = (k : Int) + 1 := IntWalk.i64_in _ (by omega)
      obtain ⟨b, off, z, hA, hbb, kz, hz⟩ := int_cells hns.box.rc hlt
      injection hA with hA
      injection hA with hA1 hA2
      subst hA1 hA2
      have hzD : cs.getD k 0 = z := getD_of hz
      have hsucc := iz_succ cs (S : Int) T k
      rw [hzD] at hsucc
      have hz0 := HC.out.nn z (List.mem_of_getElem? hz)
      have hz2 : z ≤ 2000 := by have := getD_le_sum HC.out.nn k; have := HC.out.sum; omega
      by_cases hp : 0 < z
      · rw [if_pos hp] at hsucc
        have hTp : 0 < T := by have := getD_le_sum HC.out.nn k; have := HT.out; omega
        have hpr : z * (S : Int) ≤ 2000 * 512 := Int.mul_le_mul hz2 (by omega) (by omega) (by omega)
        have hpr0 : 0 ≤ z * (S : Int) := Int.mul_nonneg hz0 (by omega)
        have hw1 : IntKind.i64.wrap (z * (S : Int)) = z * (S : Int) := IntWalk.i64_in _ (by omega)
        obtain ⟨u, hu'⟩ : ∃ u, u = z * (S : Int) / T := ⟨_, rfl⟩
        have hu0 : 0 ≤ u := by rw [hu']; exact Int.ediv_nonneg hpr0 (by omega)
        have hu1 : u ≤ 512 * 2000 := by rw [hu']; exact Int.le_trans (Int.ediv_le_self _ hpr0) (by omega)
        have hq1 : (z * (S : Int)).tdiv T = u := by rw [hu', Int.tdiv_eq_ediv_of_nonneg hpr0]
        have hwu : IntKind.i64.wrap u = u := IntWalk.i64_in _ (by omega)
        obtain ⟨v, hv⟩ : ∃ v, v = max u 1 := ⟨_, rfl⟩
        rw [← hu', ← hv] at hsucc
        have hT0 : ¬ T = 0 := by omega
        have hT0b : (T == 0) = false := by simp; omega
        have hput := hns.put hlt v
        rw [← hsucc] at hput
        have kold := hns.own.cellAt k (by omega)
        have kfr := hns.own.frozenAt k
        obtain ⟨y, hy⟩ : ∃ y, ((iz cs (S : Int) T k).map (Value.int .i64))[k]? = some y := ⟨_, List.getElem?_eq_getElem (by rw [List.length_map, iz_length, HN.out]; exact hlt)⟩
        rw [hy] at kold
        clear hy
        have hsz' : (wr.setCell ⟨q + 4, k, none⟩ (.int .i64 v)).heap.size = q + 6 := by simp [World.setCell, hsz]
        have hsum : (iz cs (S : Int) T (k + 1)).sum = (iz cs (S : Int) T k).sum + v := by
          rw [hsucc, sum_set _ _ _ (by rw [iz_length, HN.out]; exact hlt), iz_getD, if_neg (by omega)]
          omega
        have hsm := smallZ_sum (iz_small (S := (S : Int)) HC.out HT.out (by omega) hTp (k + 1))
        rw [iz_length, HN.out] at hsm
        have hsm0 := (smallZ_sum (iz_small (S := (S : Int)) HC.out HT.out (by omega) hTp k)).1
        obtain ⟨r, hr⟩ : ∃ r, r = (S : Int) - (iz cs (S : Int) T (k + 1)).sum := ⟨_, rfl⟩
        have hws : IntKind.i64.wrap ((S : Int) - (iz cs (S : Int) T k).sum - v) = r := by rw [IntWalk.i64_in _ (by omega)]; omega
        have HR := hide hr
        have HNS2 := hide hns
        have HPUT := hide hput
        have HSZ' := hide hsz'
        have HSUM := hide hsum
        have hmx : max u 1 = v := hv.symm
        clear hns hput hsz hsz' hsum hsucc hbb hz hzD hpr hpr0 hTp hu' hv hu1 hr hsm hsm0
        go_wp2_with fail
        go_region
        go_wp2_with fail
        go_roundw
        case rel => exact ⟨k + 1, by omega, by go_num, by rw [HR.out], HPUT.out.drewN 1, HSZ'.out⟩
        case measure => simp [intOf]; try omega
      · rw [if_neg hp] at hsucc
        rw [← hsucc] at hns
        have HNSK := hide hns
        have HSUC := hide hsucc
        have HSZ := hide hsz
        clear hns hsucc hsz hbb hz hzD
        go_wp2
        go_roundw
        case rel => exact ⟨k + 1, by omega, by go_num, by rw [HSUC.out], HNSK.out, HSZ.out⟩
        case measure => simp [intOf]; try omega
    · obtain rfl : n = k := by omega
      have hge2 : ¬ (n : Int) < (n : Int) := by omega
      have hTp : 0 < T := by
        have h1 := HC.out.used
        unfold usedI at h1
        obtain ⟨x, hx, hp⟩ := List.countP_pos_iff.1 h1
        obtain ⟨j, hj⟩ := List.getElem?_of_mem hx
        have h2 := getD_le_sum HC.out.nn j
        rw [getD_of hj, HT.out] at h2
        have := of_decide_eq_true hp
        omega
      have hNI := iz_NI (S := (S : Int)) HC.out HT.out (by omega) hTp
      have hsm := iz_small (S := (S : Int)) HC.out HT.out (by omega) hTp n
      rw [HN.out] at hNI
      obtain ⟨zs, hzs⟩ : ∃ zs, zs = iz cs (S : Int) T n := ⟨_, rfl⟩
      rw [← hzs] at hNI hsm hns
      rw [← hzs]
      obtain ⟨left, hleft⟩ : ∃ left, left = (S : Int) - zs.sum := ⟨_, rfl⟩
      rw [← hleft] at hNI
      rw [← hleft]
      have HNI := hide hNI
      have HSM := hide hsm
      have HNS0 := hide hns
      have HSZ := hide hsz
      have HTP := hide hTp
      clear hns hsz hsm hNI hTp hzs hleft
      obtain ⟨FO, hFO⟩ : ∃ FO : Obj, FO = .cells #[.func (Fn.func 17) #[] #[.pointer (some ⟨q, 0, none⟩), .pointer (some ⟨q + 3, 0, none⟩), .pointer (some ⟨q + 5, 0, none⟩), .pointer (some ⟨q + 2, 0, none⟩)]] 49 (0, 0) := ⟨_, rfl⟩
      have hSS : 1 ≤ (S : Int) ∧ (S : Int) ≤ 512 := by omega
      have hUS : (usedI cs : Int) ≤ (S : Int) := by rw [← HU.out]; omega
      have HF := hide hFO
      have HSS2 := hide hSS
      have HUS := hide hUS
      clear hFO hSS hUS
      by_cases hl : left < 0
      rotate_left
      go_wp2_with fail
      rw [HSZ.out, show q + 6 + 1 = q + 7 from rfl, ← HF.out]
      obtain ⟨fA, fB, cA, cB, d, F, V, hV, hv0, hv1, hv2, hway, hF, hd0, hd1, hld⟩ : ∃ (fA fB : FuncId) (cA cB : Array Value) (d : Int) (F : World → Prop) (V : Array Value), V = #[.func (Fn.func 18) #[] #[.pointer (some ⟨q, 0, none⟩)], .func (Fn.func 17) #[] #[.pointer (some ⟨q, 0, none⟩), .pointer (some ⟨q + 3, 0, none⟩), .pointer (some ⟨q + 5, 0, none⟩), .pointer (some ⟨q + 2, 0, none⟩)], .int .i64 1] ∧
          V[0]? = some (.func (Fn.func fA) #[] cA) ∧ V[1]? = some (.func (Fn.func fB) #[] cB) ∧ V[2]? = some (.int .i64 d) ∧ Way w q (some ⟨bA, oA', none⟩) n c cs (S : Int) T fA fB cA cB d F ∧ (∀ w', w'.heap[q + 6]? = some FO → F w') ∧ -1 ≤ d ∧ d ≤ 1 ∧ (0 ≤ left * d ∧ d * d = 1) :=
        ⟨_, _, _, _, 1, _, _, rfl, rfl, rfl, rfl, way_up HC.out HT.out HSS2.out HTP.out HN.out, fun _ _ => trivial, by omega, by omega, by omega⟩
      rotate_left
      go_wp2_with fail
      rw [HSZ.out, show q + 6 + 1 = q + 7 from rfl, ← HF.out]
      obtain ⟨fA, fB, cA, cB, d, F, V, hV, hv0, hv1, hv2, hway, hF, hd0, hd1, hld⟩ : ∃ (fA fB : FuncId) (cA cB : Array Value) (d : Int) (F : World → Prop) (V : Array Value), V = #[.func (Fn.func 19) #[] #[.pointer (some ⟨q + 5, 0, none⟩)], .func (Fn.func 20) #[] #[.pointer (some ⟨q + 6, 0, none⟩)], .int .i64 (-1)] ∧
          V[0]? = some (.func (Fn.func fA) #[] cA) ∧ V[1]? = some (.func (Fn.func fB) #[] cB) ∧ V[2]? = some (.int .i64 d) ∧ Way w q (some ⟨bA, oA', none⟩) n c cs (S : Int) T fA fB cA cB d F ∧ (∀ w', w'.heap[q + 6]? = some FO → F w') ∧ -1 ≤ d ∧ d ≤ 1 ∧ (0 ≤ left * d ∧ d * d = 1) :=
        ⟨_, _, _, _, -1, _, _, rfl, rfl, rfl, rfl, way_down HC.out HT.out HSS2.out HTP.out HN.out HUS.out, fun _ h => by rw [HF.out] at h; exact h, by omega, by omega, by omega⟩
      all_goals
        rw [← hV]
        have hns := (HNS0.out.more (w' := (wr.alloc FO).alloc (.cells V 52 (0, 0))) (F := fun _ => False) (((Chg.refl _ wr).alloc _).alloc _) (fun _ h => h.elim))
        have g6 : ((wr.alloc FO).alloc (.cells V 52 (0, 0))).heap[q + 6]? = some FO := alloc_far (by rw [← HSZ.out]; exact heap_alloc_new wr FO) _
        have g7 : ((wr.alloc FO).alloc (.cells V 52 (0, 0))).heap[q + 7]? = some (.cells V 52 (0, 0)) := by
          have h := heap_alloc_new (wr.alloc FO) (.cells V 52 (0, 0))
          simp only [World.size_alloc, HSZ.out] at h
          exact h
        have HWAY := hide hway
        have HFK := hide hF
        have HG6 := hide g6
        have HG7 := hide g7
        have HNS1 := hide hns
        have HLD := hide hld
        have HV0 := hide hv0
        have HV1 := hide hv1
        have HV2 := hide hv2
        clear hV hv0 hv1 hv2 hway hF hld g6 g7 hns
        go_loopw [11] (fun lf wr' => ∃ (l : Int) (zs : List Int), lf = .int .i64 l ∧ NS w wr' q (some ⟨bA, oA', none⟩) n c cs zs (S : Int) T ∧ smallZ 512 zs ∧ NI cs zs (S : Int) T l ∧ 0 ≤ l * d ∧ wr'.heap[q + 6]? = some FO ∧ wr'.heap[q + 7]? = some (.cells V 52 (0, 0))) (fun lf _ => (intOf lf * d).toNat)
        case atStart => exact ⟨left, zs, rfl, HNS1.out, HSM.out, HNI.out, HLD.out.1, HG6.out, HG7.out⟩
        case round =>
          obtain ⟨l, zs', rfl, hns, hsm, hni, hld, g6, g7⟩ := hrel
          have k10 := cell_blk hns.box.h10 0
          have k70 : wr.cell? ⟨q + 7, 0, none⟩ = some (.func (Fn.func fA) #[] cA) := (cell_blk g7 0).trans HV0.out
          have k71 : wr.cell? ⟨q + 7, 1, none⟩ = some (.func (Fn.func fB) #[] cB) := (cell_blk g7 1).trans HV1.out
          have k72 : wr.cell? ⟨q + 7, 2, none⟩ = some (.int .i64 d) := (cell_blk g7 2).trans HV2.out
          by_cases hl0 : l = 0
          · subst hl0
            have k20' := cell_blk hns.box.h2 0
            have HNI0 := hide hni
            have HNSE := hide hns
            have hzl := hns.len
            clear hns hsm hni hld g6 g7 k10 k70 k71 k72
            go_wp2_with fail
            go_loopw [7, 102] (fun us i wr => ∃ k : Nat, k ≤ n ∧ i = .int .i64 k ∧ (∃ y : Nat, us = .int .i64 y ∧ ((∀ i, i < k → ¬ 0 < cs.getD i 0) ∨ ∃ m, y = m + 1 ∧ m < k ∧ 0 < cs.getD m 0 ∧ ∀ i, m < i → i < k → ¬ 0 < cs.getD i 0)) ∧ NS w wr q (some ⟨bA, oA', none⟩) n c cs (markR cs zs' (S : Int) T k) (S : Int) T) (fun _ i _ => n - (intOf i).toNat)
            case atStart => exact ⟨0, Nat.zero_le _, rfl, ⟨U, rfl, .inl fun i hi => by omega⟩, by rw [markR_zero]; exact HNSE.out⟩
            case round =>
              obtain ⟨k, hk, rfl, ⟨y, rfl, hy⟩, hns⟩ := hrel
              have j2 := cell_blk hns.box.h2 0
              have j9 := cell_blk hns.box.h9 0
              have j10 := cell_blk hns.box.h10 0
              have j6 := cell_blk hns.box.h6 0
              by_cases hlt : k < n
              · have hkn : (k : Int) < (n : Int) := by omega
                have hwk : IntKind.i64.wrap ((k : Int) + 1) = (k : Int) + 1 := IntWalk.i64_in _ (by omega)
                obtain ⟨b, off, z, hA, hbb, kz, hz⟩ := int_cells hns.box.rc hlt
                injection hA with hA
                injection hA with hA1 hA2
                subst hA1 hA2
                have hzD : cs.getD k 0 = z := getD_of hz
                have hz0 := HC.out.nn z (List.mem_of_getElem? hz)
                have hz2 : z ≤ 2000 := by have := getD_le_sum HC.out.nn k; have := HC.out.sum; omega
                have hpr : z * (S : Int) ≤ 2000 * 512 := Int.mul_le_mul hz2 (by omega) (by omega) (by omega)
                have hpr0 : 0 ≤ z * (S : Int) := Int.mul_nonneg hz0 (by omega)
                have hw1 : IntKind.i64.wrap (z * (S : Int)) = z * (S : Int) := IntWalk.i64_in _ (by omega)
                have hsucc := markR_succ cs zs' (S : Int) T k (by omega)
                rw [hzD] at hsucc
                obtain ⟨pr, hprn⟩ : ∃ pr, pr = z * (S : Int) := ⟨_, rfl⟩
                have hw64 : wrap64 (z * (S : Int)) = pr := by rw [hprn]; unfold wrap64; omega
                rw [← hprn] at hw1 hsucc
                by_cases hp : 0 < z
                · have hyk : ∃ m, k + 1 = m + 1 ∧ m < k + 1 ∧ 0 < cs.getD m 0 ∧ ∀ i, m < i → i < k + 1 → ¬ 0 < cs.getD i 0 := ⟨k, rfl, by omega, by rw [hzD]; exact hp, fun i h1 h2 => by omega⟩
                  have HYK := hide hyk
                  by_cases hr : pr < T
                  · rw [if_pos ⟨hp, hr⟩] at hsucc
                    have hpb : decide (0 < z) = true := by simpa using hp
                    have hrb : decide (pr < T) = true := by simpa using hr
                    have hput := hns.put hlt (-1)
                    rw [← hsucc] at hput
                    have kold := hns.own.cellAt k (by omega)
                    have kfr := hns.own.frozenAt k
                    obtain ⟨o, ho⟩ : ∃ o, ((markR cs zs' (S : Int) T k).map (Value.int .i64))[k]? = some o := ⟨_, List.getElem?_eq_getElem (by rw [List.length_map, markR_length]; omega)⟩
                    rw [ho] at kold
                    have HPUT := hide hput
                    clear ho hput hns hsucc hyk hprn hpr hpr0 hzD hz hbb hy
                    go_wp2_with fail
                    go_roundw
                    case rel => exact ⟨k + 1, by omega, by go_num, ⟨k + 1, by go_num, .inr HYK.out⟩, HPUT.out⟩
                    case measure => simp [intOf]; try omega
                  · rw [if_neg (fun h => hr h.2)] at hsucc
                    have hpb : decide (0 < z) = true := by simpa using hp
                    have hrb : decide (pr < T) = false := by simpa using hr
                    rw [← hsucc] at hns
                    have HNSK := hide hns
                    clear hns hsucc hyk hprn hpr hpr0 hzD hz hbb hy
                    go_wp2_with fail
                    go_roundw
                    case rel => exact ⟨k + 1, by omega, by go_num, ⟨k + 1, by go_num, .inr HYK.out⟩, HNSK.out⟩
                    case measure => simp [intOf]; try omega
                · have hyk : (∀ i, i < k + 1 → ¬ 0 < cs.getD i 0) ∨ ∃ m, y = m + 1 ∧ m < k + 1 ∧ 0 < cs.getD m 0 ∧ ∀ i, m < i → i < k + 1 → ¬ 0 < cs.getD i 0 := by
                    have hk0 : ¬ 0 < cs.getD k 0 := by rw [hzD]; exact hp
                    rcases hy with h | ⟨m, h1, h2, h3, h4⟩
                    · refine .inl fun i hi => ?_
                      rcases Nat.lt_or_ge i k with h5 | h5
                      · exact h i h5
                      · obtain rfl : i = k := by omega
                        exact hk0
                    · refine .inr ⟨m, h1, by omega, h3, fun i h5 h6 => ?_⟩
                      rcases Nat.lt_or_ge i k with h7 | h7
                      · exact h4 i h5 h7
                      · obtain rfl : i = k := by omega
                        exact hk0
                  have HYK := hide hyk
                  have hpb : decide (0 < z) = false := by simpa using hp
                  rw [if_neg (fun h => hp h.1)] at hsucc
                  rw [← hsucc] at hns
                  have HNSK := hide hns
                  clear hns hsucc hyk hprn hpr hpr0 hzD hz hbb hy
                  go_wp2_with fail
                  go_roundw
                  case rel => exact ⟨k + 1, by omega, by go_num, ⟨y, rfl, HYK.out⟩, HNSK.out⟩
                  case measure => simp [intOf]; try omega
              · obtain rfl : n = k := by omega
                have hge2 : ¬ (n : Int) < (n : Int) := by omega
                have hmk2 : markR cs zs' (S : Int) T n = markR cs zs' (S : Int) T zs'.length := by rw [hzl]
                obtain ⟨m, rfl, hmn, hmp, hml⟩ : ∃ m, y = m + 1 ∧ m < n ∧ 0 < cs.getD m 0 ∧ ∀ i, m < i → i < n → ¬ 0 < cs.getD i 0 := by
                  rcases hy with h | h
                  · exfalso
                    have h1 := HC.out.used
                    unfold usedI at h1
                    obtain ⟨x, hx, hp⟩ := List.countP_pos_iff.1 h1
                    obtain ⟨j, hj⟩ := List.getElem?_of_mem hx
                    have hjn : j < n := by rw [← HN.out]; exact (List.getElem?_eq_some_iff.1 hj).1
                    refine h j hjn ?_
                    rw [getD_of hj]
                    exact of_decide_eq_true hp
                  · exact h
                have hok := NI.okT HNI0.out hL (by rw [HSS.out]) (by rw [HN.out]; exact hn256) hmp (fun i hi hp => by
                  have hin : i < n := by rw [← HN.out]; exact lt_of_getD (by omega)
                  exact hml i hi hin hp)
                rw [← hmk2] at hok
                obtain ⟨M, hM⟩ : ∃ M, M = m + 1 := ⟨_, rfl⟩
                rw [← hM] at hok ⊢
                have hMn : M ≤ n := by omega
                have hMn' : (M : Int) ≤ (n : Int) := by omega
                have hM0 : (0 : Int) ≤ (M : Int) := by omega
                have kt0 := cell_blk hns.h4 0
                have kt1 := cell_blk hns.h4 1
                have kf0 : wr.frozen? ⟨q + 1, 0, none⟩ = false := frozen_blk hns.h4 0
                have kf1 : wr.frozen? ⟨q + 1, 1, none⟩ = false := frozen_blk hns.h4 1
                have HOK := hide hok
                have HNSF := hide hns
                have HML := hide (show (markR cs zs' (S : Int) T n).length = n by rw [markR_length, hzl])
                clear hok hns hmp hml hy hM hmk2
                go_wp2_with fail
                have g9 : ((wr.setCell ⟨q + 1, 0, none⟩ (.int .i64 (L : Int))).setCell ⟨q + 1, 1, none⟩ (.slice (some ⟨q + 4, 0, none⟩) M n)).heap[q + 1]? = some (.cells #[.int .i64 (L : Int), .slice (some ⟨q + 4, 0, none⟩) M n] 28 (0, 0)) := set_blk (set_blk HNSF.out.h4 0 (.int .i64 (L : Int))) 1 (.slice (some ⟨q + 4, 0, none⟩) M n)
                have hc9 : Chg (fun k => k = q + 1) wr ((wr.setCell ⟨q + 1, 0, none⟩ (.int .i64 (L : Int))).setCell ⟨q + 1, 1, none⟩ (.slice (some ⟨q + 4, 0, none⟩) M n)) := ((Chg.refl (fun k => k = q + 1) wr).setCell (p := ⟨q + 1, 0, none⟩) (.inl rfl) _).setCell (p := ⟨q + 1, 1, none⟩) (.inl rfl) _
                have c0 := cell_blk g9 0
                have c1 := cell_blk g9 1
                have ho9 := own_chg (own_head HNSF.out.own hMn) hc9 (fun k hk => by have hk : q + 4 = k := (by simpa [Value.ownBlock] using hk); omega)
                rw [Nat.mul_one, ← List.map_take] at ho9
                have hb9 : Below w.heap.size w ((wr.setCell ⟨q + 1, 0, none⟩ (.int .i64 (L : Int))).setCell ⟨q + 1, 1, none⟩ (.slice (some ⟨q + 4, 0, none⟩) M n)) := by
                  have h1 := HNSF.out.bel
                  rw [HQ.out] at h1
                  exact h1.trans (hc9.below (fun k hk => by have := HQ.out; omega) (Nat.le_trans (Nat.le_refl _) h1.size))
                have hlen : ((markR cs zs' (S : Int) T n).take M).length = M := by rw [List.length_take, HML.out]; omega
                have hok1 := HOK.out.1
                have hok2 := HOK.out.2
                generalize (markR cs zs' (S : Int) T n).take M = ws at ho9 hlen hok1 hok2
                rw [HQ.out] at ho9
                refine bodyPost_ret (v := .tuple #[.agg #[.int .i64 (L : Int), .slice (some ⟨q + 4, 0, none⟩) M n], .int .i64 0]) ?_ rfl ⟨_, rfl, ws, ?_, hok1, ?_, hb9⟩
                · clear g9 hc9 ho9 hb9
                  generalize (wr.setCell ⟨q + 1, 0, none⟩ (.int .i64 (L : Int))).setCell ⟨q + 1, 1, none⟩ (.slice (some ⟨q + 4, 0, none⟩) M n) = W9 at *
                  simp only [results, Try.results7, go_sem]
                  simp [c0, c1, go_sem]
                · rw [hlen, HQ.out]; exact ho9
                · simpa using hok2
          · have hlb : (l != 0) = true := by simp [hl0]
            have hdd := HLD.out.2
            have hdp : d = 1 ∨ d = -1 := by
              have h0 : d ≠ 0 := by rintro rfl; simp at hdd
              omega
            have hlp : 0 < l * d := by rcases hdp with rfl | rfl <;> omega
            have HW := hide (fun (W' : World) (hW' : ∃ k, W' = wr.drewN k) => (show Calls Try.prog 21 #[.slice (some ⟨q + 4, 0, none⟩) n n, .func (Fn.func fA) #[] cA, .func (Fn.func fB) #[] cB] W' fun e w5 =>
                ∃ (i : Nat) (z : Int), e = .returned (.int .i64 (i : Int)) ∧ i < n ∧ zs'[i]? = some z ∧ 0 ≤ z ∧ z ≤ 512 ∧ smallZ 512 (zs'.set i (z + d)) ∧ NI cs (zs'.set i (z + d)) (S : Int) T (l - d) ∧ NS w w5 q (some ⟨bA, oA', none⟩) n c cs zs' (S : Int) T ∧ w5.heap[q + 6]? = some FO ∧ w5.heap[q + 7]? = some (.cells V 52 (0, 0)) from by
              obtain ⟨k, rfl⟩ := hW'
              refine (HWAY.out (wr.drewN k) zs' l (HFK.out _ g6) (hns.drewN k) hsm hni hlp).mono ?_
              rintro e w5 ⟨i, rfl, hi, ⟨z, hzi, hz0, hz5, hsm5, hni5⟩, m5, rfl⟩
              exact ⟨i, z, rfl, hi, hzi, hz0, hz5, hsm5, hni5, (hns.drewN k).drewN m5, g6, g7⟩))
            have hlb1 : -1000000 ≤ l ∧ l ≤ 1000000 := by
              have h1 := hni.sum
              have h2 := smallZ_sum hsm
              rw [hns.len] at h2
              omega
            obtain ⟨l2, hl2⟩ : ∃ l2, l2 = l - d := ⟨_, rfl⟩
            have hwl : IntKind.i64.wrap (l - d) = l2 := by rw [IntWalk.i64_in _ (by omega)]; exact hl2.symm
            have HNSR := hide hns
            have HL2 := hide hl2
            have HLP := hide hlp
            have HDP := hide hdp
            have HG6' := hide g6
            have HG7' := hide g7
            clear hns hsm hni hld g6 g7 hl2 hlp hdp hdd hl0
            go_wp2_with fail
            refine wp_region_held_drew (S := fun w' => w'.cell? ⟨q + 5, 0, none⟩ = some (.slice (some ⟨q + 4, 0, none⟩) n n) ∧ w'.cell? ⟨q + 7, 0, none⟩ = some (.func (Fn.func fA) #[] cA) ∧ w'.cell? ⟨q + 7, 1, none⟩ = some (.func (Fn.func fB) #[] cB) ∧ w'.cell? ⟨q + 7, 2, none⟩ = some (.int .i64 d)) (by kernel_rfl) ?_ (fun hHeld => ?_)
            · simp [*]
            refine wpAnyH_take (i := 0) (oi := { dst := some 87, op := Op.load 24 (Operand.tmp 10), type := 24, pos := _, after := #[], guard := none }) (v := ?_) rfl (by kernel_rfl) (by kernel_rfl) (by kernel_rfl) (fun _ _ _ h => h) (Or.inl ⟨by rfl, ?_⟩) (by assumption) ?_
            rotate_left
            · (intro w hSw; (try dsimp only at hSw); go_simp; try with_reducible rfl)
            try simp only [Act.put, List.setIfInBounds_toArray, List.set_cons_zero, List.set_cons_succ]
            refine wpAnyH_take (i := 1) (oi := { dst := some 88, op := Op.load 24 (Operand.tmp 10), type := 24, pos := _, after := #[], guard := none }) (v := ?_) rfl (by kernel_rfl) (by kernel_rfl) (by kernel_rfl) (fun _ _ _ h => h) (Or.inl ⟨by rfl, ?_⟩) (by assumption) ?_
            rotate_left
            · (intro w hSw; (try dsimp only at hSw); go_simp; try with_reducible rfl)
            try simp only [Act.put, List.setIfInBounds_toArray, List.set_cons_zero, List.set_cons_succ]
            refine wpAnyH_take (i := 2) (oi := { dst := some 89, op := Op.fieldAddr 52 (Operand.tmp 15) 0, type := 0, pos := _, after := #[], guard := none }) (v := ?_) rfl (by kernel_rfl) (by kernel_rfl) (by kernel_rfl) (fun _ _ _ h => h) (Or.inl ⟨by rfl, ?_⟩) (by assumption) ?_
            rotate_left
            · (intro w hSw; (try dsimp only at hSw); go_simp; try with_reducible rfl)
            try simp only [Act.put, List.setIfInBounds_toArray, List.set_cons_zero, List.set_cons_succ]
            refine wpAnyH_take (i := 3) (oi := { dst := some 90, op := Op.load 50 (Operand.tmp 89), type := 50, pos := _, after := #[{ on := 2, ground := Ground.data }], guard := none }) (v := ?_) rfl (by kernel_rfl) (by kernel_rfl) (by kernel_rfl) (fun _ _ _ h => h) (Or.inl ⟨by rfl, ?_⟩) (by assumption) ?_
            rotate_left
            · (intro w hSw; (try dsimp only at hSw); go_simp; try with_reducible rfl)
            try simp only [Act.put, List.setIfInBounds_toArray, List.set_cons_zero, List.set_cons_succ]
            refine wpAnyH_take (i := 4) (oi := { dst := some 91, op := Op.fieldAddr 52 (Operand.tmp 15) 1, type := 0, pos := _, after := #[], guard := none }) (v := ?_) rfl (by kernel_rfl) (by kernel_rfl) (by kernel_rfl) (fun _ _ _ h => h) (Or.inl ⟨by rfl, ?_⟩) (by assumption) ?_
            rotate_left
            · (intro w hSw; (try dsimp only at hSw); go_simp; try with_reducible rfl)
            try simp only [Act.put, List.setIfInBounds_toArray, List.set_cons_zero, List.set_cons_succ]
            refine wpAnyH_take (i := 5) (oi := { dst := some 92, op := Op.load 49 (Operand.tmp 91), type := 49, pos := _, after := #[{ on := 4, ground := Ground.data }], guard := none }) (v := ?_) rfl (by kernel_rfl) (by kernel_rfl) (by kernel_rfl) (fun _ _ _ h => h) (Or.inl ⟨by rfl, ?_⟩) (by assumption) ?_
            rotate_left
            · (intro w hSw; (try dsimp only at hSw); go_simp; try with_reducible rfl)
            try simp only [Act.put, List.setIfInBounds_toArray, List.set_cons_zero, List.set_cons_succ]
            refine wpAnyH_take (i := 9) (oi := { dst := some 96, op := Op.fieldAddr 52 (Operand.tmp 15) 2, type := 0, pos := _, after := #[], guard := none }) (v := ?_) rfl (by kernel_rfl) (by kernel_rfl) (by kernel_rfl) (fun _ _ _ h => h) (Or.inl ⟨by rfl, ?_⟩) (by assumption) ?_
            rotate_left
            · (intro w hSw; (try dsimp only at hSw); go_simp; try with_reducible rfl)
            try simp only [Act.put, List.setIfInBounds_toArray, List.set_cons_zero, List.set_cons_succ]
            refine wpAnyH_take (i := 10) (oi := { dst := some 97, op := Op.load 3 (Operand.tmp 96), type := 3, pos := _, after := #[{ on := 9, ground := Ground.data }], guard := none }) (v := ?_) rfl (by kernel_rfl) (by kernel_rfl) (by kernel_rfl) (fun _ _ _ h => h) (Or.inl ⟨by rfl, ?_⟩) (by assumption) ?_
            rotate_left
            · (intro w hSw; (try dsimp only at hSw); go_simp; try with_reducible rfl)
            try simp only [Act.put, List.setIfInBounds_toArray, List.set_cons_zero, List.set_cons_succ]
            refine wpAnyH_ready (rs := [6]) (by kernel_rfl) (by simp) ?_
            refine AllReadyH.cons (o := { dst := some 93, op := Op.call { callee := Callee.value (Operand.func 21), args := #[Operand.tmp 88, Operand.tmp 90, Operand.tmp 92], argTypes := #[24, 50, 49] }, type := 3, pos := _, after := #[{ on := 1, ground := Ground.data }, { on := 3, ground := Ground.data }, { on := 5, ground := Ground.data }], guard := none }) rfl (fun K hK => ?_) AllReadyH.nil
            go_simp
            go_at_call 21; refine (HW.out _ ⟨1, rfl⟩).mono ?_; rintro e w5 ⟨i, z, rfl, hi, hzi, hz0, hz5, hsm5, hni5, hns5, g65, g75⟩
            have j10 := cell_blk hns5.box.h10 0
            have j70 : w5.cell? ⟨q + 7, 0, none⟩ = some (.func (Fn.func fA) #[] cA) := (cell_blk g75 0).trans HV0.out
            have j71 : w5.cell? ⟨q + 7, 1, none⟩ = some (.func (Fn.func fB) #[] cB) := (cell_blk g75 1).trans HV1.out
            have j72 : w5.cell? ⟨q + 7, 2, none⟩ = some (.int .i64 d) := (cell_blk g75 2).trans HV2.out
            have jz : w5.cell? ⟨q + 4, i, none⟩ = some (.int .i64 z) := by
              have h := hns5.own.cellAt i (by omega)
              rw [List.getElem?_map, hzi] at h
              simpa using h
            have jf : w5.frozen? ⟨q + 4, i, none⟩ = false := by
              have h := hns5.own.frozenAt i
              simpa using h
            have hin : (i : Int) < (n : Int) := by omega
            have hwz : IntKind.i64.wrap (z + d) = z + d := IntWalk.i64_in _ (by omega)
            have HNS5 := hide hns5
            have HSM5 := hide hsm5
            have HNI5 := hide hni5
            have HG65 := hide g65
            have HG75 := hide g75
            clear hsm5 hni5 g65 g75 hns5 hzi
            go_wp2_with fail
            refine hK.out _ _ ?_ (fun hHeld6 => ?_)
            · (try dsimp only); simp [*]
            clear hK K hHeld
            try simp only [Act.put, List.setIfInBounds_toArray, List.set_cons_zero, List.set_cons_succ]
            refine wpAnyH_take (i := 7) (oi := { dst := some 94, op := Op.indexAddr 24 (Operand.tmp 87) (Operand.tmp 93), type := 0, pos := _, after := #[{ on := 0, ground := Ground.data }, { on := 6, ground := Ground.data }], guard := none }) (v := ?_) rfl (by kernel_rfl) (by kernel_rfl) (by kernel_rfl) (fun _ _ _ h => h) (Or.inl ⟨by rfl, ?_⟩) (by assumption) ?_
            rotate_left
            · (intro w hSw; (try dsimp only at hSw); go_simp; try with_reducible rfl)
            try simp only [Act.put, List.setIfInBounds_toArray, List.set_cons_zero, List.set_cons_succ]
            refine wpAnyH_ready (rs := [8]) (by kernel_rfl) (by simp) ?_
            refine AllReadyH.cons (o := { dst := some 95, op := Op.load 3 (Operand.tmp 94), type := 3, pos := _, after := #[{ on := 7, ground := Ground.data }], guard := none }) rfl (fun K hK => ?_) AllReadyH.nil
            go_simp
            refine hK.out _ _ ?_ (fun hHeld8 => ?_)
            · (try dsimp only); simp [*]
            clear hK K hHeld6
            try simp only [Act.put, List.setIfInBounds_toArray, List.set_cons_zero, List.set_cons_succ]
            refine wpAnyH_take (i := 11) (oi := { dst := some 98, op := Op.binOp BinOp.add 3 (Operand.tmp 95) (Operand.tmp 97) 3, type := 3, pos := _, after := #[{ on := 8, ground := Ground.data }, { on := 10, ground := Ground.data }], guard := none }) (v := ?_) rfl (by kernel_rfl) (by kernel_rfl) (by kernel_rfl) (fun _ _ _ h => h) (Or.inl ⟨by rfl, ?_⟩) (by assumption) ?_
            rotate_left
            · (intro w hSw; (try dsimp only at hSw); go_simp; try with_reducible rfl)
            try simp only [Act.put, List.setIfInBounds_toArray, List.set_cons_zero, List.set_cons_succ]
            refine wpAnyH_take (i := 12) (oi := { dst := some 99, op := Op.indexAddr 24 (Operand.tmp 87) (Operand.tmp 93), type := 0, pos := _, after := #[{ on := 0, ground := Ground.data }, { on := 6, ground := Ground.data }, { on := 0, ground := Ground.phase }, { on := 1, ground := Ground.phase }, { on := 2, ground := Ground.phase }, { on := 3, ground := Ground.phase }, { on := 4, ground := Ground.phase }, { on := 5, ground := Ground.phase }, { on := 6, ground := Ground.phase }, { on := 7, ground := Ground.phase }, { on := 8, ground := Ground.phase }, { on := 9, ground := Ground.phase }, { on := 10, ground := Ground.phase }, { on := 11, ground := Ground.phase }], guard := none }) (v := ?_) rfl (by kernel_rfl) (by kernel_rfl) (by kernel_rfl) (fun _ _ _ h => h) (Or.inl ⟨by rfl, ?_⟩) (by assumption) ?_
            rotate_left
            · (intro w hSw; (try dsimp only at hSw); go_simp; try with_reducible rfl)
            try simp only [Act.put, List.setIfInBounds_toArray, List.set_cons_zero, List.set_cons_succ]
            refine wpAnyH_ready (rs := [13]) (by kernel_rfl) (by simp) ?_
            refine AllReadyH.cons (o := { dst := none, op := Op.store 3 (Operand.tmp 99) (Operand.tmp 98), type := 0, pos := _, after := #[{ on := 12, ground := Ground.data }, { on := 11, ground := Ground.data }, { on := 6, ground := Ground.chain }, { on := 0, ground := Ground.phase }, { on := 1, ground := Ground.phase }, { on := 2, ground := Ground.phase }, { on := 3, ground := Ground.phase }, { on := 4, ground := Ground.phase }, { on := 5, ground := Ground.phase }, { on := 6, ground := Ground.phase }, { on := 7, ground := Ground.phase }, { on := 8, ground := Ground.phase }, { on := 9, ground := Ground.phase }, { on := 10, ground := Ground.phase }, { on := 11, ground := Ground.phase }], guard := none }) rfl (fun K hK => ?_) AllReadyH.nil
            go_simp
            refine hK.out _ _ ?_ (fun hHeld13 => ?_)
            · (try dsimp only); simp [*, World.cell?_setCell_far]
            clear hK K hHeld8
            try simp only [Act.put, List.setIfInBounds_toArray, List.set_cons_zero, List.set_cons_succ]
            refine wpAnyH_done (by kernel_rfl) ?_ _
            obtain ⟨_, _, _, jd⟩ := hHeld13
            have hput := HNS5.out.put hi (z + d)
            have h6 := set_far HG65.out (p := ⟨q + 4, i, none⟩) (by show q + 6 ≠ q + 4; omega) (.int .i64 (z + d))
            have h7 := set_far HG75.out (p := ⟨q + 4, i, none⟩) (by show q + 7 ≠ q + 4; omega) (.int .i64 (z + d))
            have HPUT := hide hput
            have H6 := hide h6
            have H7 := hide h7
            clear hput h6 h7
            go_wp2_with fail
            go_roundw
            case rel => exact ⟨l2, _, rfl, HPUT.out, HSM5.out, by rw [HL2.out]; exact HNI5.out, by rw [HL2.out, Int.sub_mul, HLD.out.2]; have := HLP.out; omega, H6.out, H7.out⟩
            case measure =>
              have h1 : l2 * d = l * d - 1 := by rw [HL2.out, Int.sub_mul, HLD.out.2]
              have := HLP.out
              simp only [intOf]
              omega
end

section
set_option maxRecDepth 8000
set_option maxRecDepth 8000
open Go.RowKit Go
set_option linter.unusedVariables false

theorem own_caps {w : World} {base : Nat} {e : TypeId} {n c : Nat} {A : Option Addr} {xs : List Value} (h : w.ownsRow base e 1 (.slice A n c) n xs) : n ≤ c ∧ c ≤ maxLen := by
  rcases h.2 with ⟨hv, h0⟩ | ⟨g, cap, cur, hv, hb, hg, hnc, hm, hs, ht⟩
  · injection hv with h1 h2 h3
    omega
  · injection hv with h1 h2 h3
    omega

/-- What is encoded by a table is decoded by it. -/
theorem round_ok {L : Nat} {zs S : List Int} (hT : okT (L : Int) zs) (hn : S.length ≤ 131072) (hs : ∀ s ∈ S, hasS zs s) :
    ∃ bs, OutE (L : Int) zs S 0 bs ∧ OutD (L : Int) zs bs (S.length : Int) 0 S ∧ (∀ x ∈ bs, x < 256) ∧ bs.length ≤ 2 * S.length + 1 :=
  ⟨_, .inr (.inr (.inr ⟨L, rfl, hT, hn, hs, rfl, rfl⟩)), outD_back hT hn hs, pack_small _ _, flow_len hT hs⟩

theorem absZ_le : ∀ {zs : List Int}, ∀ z ∈ zs, absZ z ≤ sumAbs zs
  | [], z, h => by cases h
  | a :: l, z, h => by
    have h1 := sumAbs_nonneg l
    have h2 := absZ_nonneg a
    show absZ z ≤ absZ a + sumAbs l
    rcases List.mem_cons.1 h with rfl | h
    · omega
    · have := absZ_le z h
      omega

theorem okT_wf {L : Nat} {zs : List Int} (hT : okT (L : Int) zs) : ∀ z ∈ zs, (Lit.int .i64 z).wf = true := by
  intro z hz
  have h1 := absZ_le z hz
  have h2 := hT.2.2.2.2
  have h3 : (2 : Int) ^ (L : Int).toNat ≤ 512 := by
    have h4 : (2 : Nat) ^ L ≤ 2 ^ 9 := Nat.pow_le_pow_right (by omega) (by have := hT.1; omega)
    rw [Int.toNat_natCast]
    exact_mod_cast h4
  unfold absZ at h1
  exact WalkArith.wf_i64 (by omega)

theorem alive_any (w : World) : Calls Try.prog 4 #[] w fun e w' => e = .returned (.bool true) ∧ Below w.heap.size w w' := by
  obtain ⟨W0, hW0⟩ : ∃ W0, W0 = w.alloc (.cells #[.int .i64 3, .int .i64 1] 3 (0, 0)) := ⟨_, rfl⟩
  have g0 : W0.heap[w.heap.size]? = some (.cells #[.int .i64 3, .int .i64 1] 3 (0, 0)) := by rw [hW0]; exact heap_alloc_new w _
  have b0 : Below w.heap.size w W0 := by rw [hW0]; exact (Below.refl w.heap.size w).alloc (Nat.le_refl _) _
  have hr0 : Reads W0 W0.heap.size 1 (some ⟨w.heap.size, 0, none⟩) 2 (([3, 1] : List Int).map (Value.int .i64)) := reads_blk g0 rfl
  have HN := hide (normalize_ok 2 (some ⟨w.heap.size, 0, none⟩) 2 2 [3, 1] W0 rfl hr0 ⟨by decide, by decide, by decide, by decide⟩ (Nat.le_refl _) (by unfold maxLen; omega) (by decide) (by decide))
  have HB0 := hide b0
  have HW0 := hide hW0
  clear g0 b0 hr0 hW0
  go_enter Try.func4, Try.ntmps4
  go_wp2_with fail
  rw [← HW0.out]
  refine HN.out.mono ?_
  rintro e W1 ⟨v, zs, rfl, ho, hT, hpos, hb⟩
  obtain ⟨A1, c1, rfl⟩ := own_form ho
  obtain ⟨hc1, hc2⟩ := own_caps ho
  have hs : ∀ s ∈ ([0, 1, 0, 0] : List Int), hasS zs s := by
    have h0 : hasS zs 0 := by
      obtain ⟨z, h1, h2⟩ := hpos 0 (by decide)
      exact ⟨0, z, rfl, h1, h2⟩
    have h1 : hasS zs 1 := by
      obtain ⟨z, h1, h2⟩ := hpos 1 (by decide)
      exact ⟨1, z, rfl, h1, h2⟩
    intro s hs
    simp only [List.mem_cons, List.not_mem_nil, or_false] at hs
    rcases hs with rfl | rfl | rfl | rfl <;> assumption
  obtain ⟨bs, hoe, hod, h8, hbl⟩ := round_ok (L := 2) hT (by decide) hs
  obtain ⟨X1, hX1⟩ : ∃ X1, X1 = W1.alloc (.cells #[.int .i64 2, .slice A1 zs.length c1] 28 (0, 0)) := ⟨_, rfl⟩
  obtain ⟨X2, hX2⟩ : ∃ X2, X2 = X1.alloc (.cells #[.int .i64 0, .int .i64 1, .int .i64 0, .int .i64 0] 3 (0, 0)) := ⟨_, rfl⟩
  have s1 : X1.heap.size = W1.heap.size + 1 := by rw [hX1]; simp
  have b1 : Below w.heap.size w W1 := HB0.out.trans (hb.mono HB0.out.size)
  have b2 : Below w.heap.size w X2 := by rw [hX2, hX1]; exact (b1.alloc b1.size _).alloc (by have := b1.size; simp; omega) _
  have gX2 : X2.heap[W1.heap.size + 1]? = some (.cells #[.int .i64 0, .int .i64 1, .int .i64 0, .int .i64 0] 3 (0, 0)) := by rw [hX2, ← s1]; exact heap_alloc_new X1 _
  have gX1 : X2.heap[W1.heap.size]? = some (.cells #[.int .i64 2, .slice A1 zs.length c1] 28 (0, 0)) := by rw [hX2, hX1]; exact alloc_far (heap_alloc_new W1 _) _
  have hrz : Reads X2 X2.heap.size 1 A1 zs.length (zs.map (Value.int .i64)) := by rw [hX2, hX1]; exact ((((Reads.of_own ho).alloc (Nat.le_refl _) _).more (by simp)).alloc (Nat.le_refl _) _).more (by simp)
  have hrs : Reads X2 X2.heap.size 1 (some ⟨W1.heap.size + 1, 0, none⟩) 4 (intsV [0, 1, 0, 0]) := reads_blk gX2 rfl
  have HEN := hide (enc_any (cs := 4) hoe X2 rfl hrz (okT_wf (L := 2) hT) hc1 hc2 rfl hrs)
  have HRZ := hide hrz
  have HT := hide hT
  have HOD := hide hod
  have H8 := hide h8
  have hbl9 : bs.length ≤ 9 := hbl
  have HX1 := hide hX1
  have HX2 := hide hX2
  have HB2 := hide b2
  have HG1 := hide gX1
  clear ho hT hpos hb hs hoe hod h8 hbl hX1 hX2 s1 b1 b2 gX1 gX2 hrz hrs
  go_wp2_with fail
  rw [← HX1.out, ← HX2.out]
  refine HEN.out.mono ?_
  rintro e W3 ⟨v3, rfl, ho3, b3⟩
  obtain ⟨A3, c3, rfl⟩ := own_form ho3
  have g3 := (b3.block _ (lt_of_heap HG1.out)).trans HG1.out
  have k30 := cell_blk g3 0
  have k31 := cell_blk g3 1
  have HDE := hide (dec_any (B := A3) (cb := c3) (A := A1) (c := c1) HOD.out W3 rfl ((HRZ.out.below b3).more b3.size) (okT_wf (L := 2) HT.out) hc1 hc2 (Reads.of_own ho3) H8.out rfl (by omega))
  have HB3 := hide (HB2.out.trans (b3.mono HB2.out.size))
  clear ho3 b3 g3
  go_wp2_with fail
  refine HDE.out.mono ?_
  rintro e W5 ⟨v5, rfl, ho5, b5⟩
  obtain ⟨A5, c5, rfl⟩ := own_form ho5
  obtain ⟨bb, oo, rfl, hbb, hcc⟩ := (Reads.of_own ho5).open_ (by decide) (by omega)
  have j0 : W5.cell? ⟨bb, oo, none⟩ = some (.int .i64 0) := hcc 0 _ rfl
  have j1 : W5.cell? ⟨bb, oo + 1, none⟩ = some (.int .i64 1) := hcc 1 _ rfl
  have j2 : W5.cell? ⟨bb, oo + 2, none⟩ = some (.int .i64 0) := hcc 2 _ rfl
  have j3 : W5.cell? ⟨bb, oo + 3, none⟩ = some (.int .i64 0) := hcc 3 _ rfl
  have HB5 := hide (HB3.out.trans (b5.mono HB3.out.size))
  clear ho5 b5 hcc k30 k31
  go_wp2_with fail
  go_ret
  exact ⟨rfl, HB5.out⟩
end

end Go.Proofs.Ytohgnohifojdbaa
