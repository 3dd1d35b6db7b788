/- Texts put together: TnA, TnB. -/
import Derived.Test.YtohgnohifojdbaaCe1
import Derived.Test.YtohgnohifojdbaaCeN
namespace Go.Proofs.Ytohgnohifojdbaa
section
set_option maxRecDepth 8000
set_option linter.unusedVariables false

/-- The norms while they are mended: 'left' states are still to be given. -/
structure NI (cs zs : List Int) (size total left : Int) : Prop where
  len : zs.length = cs.length
  pos : ∀ i, 0 < cs.getD i 0 → 1 ≤ zs.getD i 0
  zero : ∀ i, ¬ 0 < cs.getD i 0 → zs.getD i 0 = 0
  sum : zs.sum + left = size
  rare : ∀ i, 0 < cs.getD i 0 → cs.getD i 0 * size < total → zs.getD i 0 = 1

def aboveI (cs zs : List Int) (size total : Int) (i : Nat) : Int := cs.getD i 0 * size - zs.getD i 0 * total

theorem sum_set : ∀ (l : List Int) (i : Nat) (x : Int), i < l.length → (l.set i x).sum = l.sum - l.getD i 0 + x
  | [], i, x, h => by simp at h
  | a :: l, 0, x, h => by simp [List.sum_cons]; omega
  | a :: l, i + 1, x, h => by
    have ih := sum_set l i x (by simpa using h)
    simp only [List.set_cons_succ, List.sum_cons, List.getD_cons_succ]
    omega
theorem getD_set (l : List Int) (i j : Nat) (x : Int) (hi : i < l.length) : (l.set i x).getD j 0 = if j = i then x else l.getD j 0 := by
  rw [List.getD_eq_getElem?_getD, List.getElem?_set]
  by_cases h : i = j
  · subst h
    simp [hi]
  · rw [if_neg h, if_neg (fun e => h e.symm), List.getD_eq_getElem?_getD]
theorem lt_of_getD {l : List Int} {i : Nat} (h : l.getD i 0 ≠ 0) : i < l.length := by
  rcases Nat.lt_or_ge i l.length with h1 | h1
  · exact h1
  · rw [List.getD_eq_getElem?_getD, List.getElem?_eq_none h1] at h; exact absurd rfl h

/-- The sum of what each is above. -/
theorem above_sum : ∀ (cs zs : List Int) (size total : Int), zs.length = cs.length → (∀ i, cs.getD i 0 * size - zs.getD i 0 * total ≤ 0) → cs.sum * size - zs.sum * total ≤ 0
  | [], [], size, total, _, _ => by simp
  | [], z :: zs, _, _, h, _ => by simp at h
  | c :: cs, [], _, _, h, _ => by simp at h
  | c :: cs, z :: zs, size, total, h, ha => by
    have h0 := ha 0
    have ih := above_sum cs zs size total (by simpa using h) (fun i => ha (i + 1))
    simp only [List.getD_cons_zero] at h0
    simp only [List.sum_cons, Int.add_mul]
    omega

theorem NI.up {cs zs : List Int} {size total left : Int} (h : NI cs zs size total left) (hnn : ∀ j, 0 ≤ cs.getD j 0) (ht : cs.sum = total) (htp : 0 < total) (hl : 0 < left) {i : Nat} (hi : 0 < cs.getD i 0)
    (hmax : ∀ j, 0 < cs.getD j 0 → aboveI cs zs size total j ≤ aboveI cs zs size total i) : NI cs (zs.set i (zs.getD i 0 + 1)) size total (left - 1) := by
  have hil : i < zs.length := lt_of_getD (by have := h.pos i hi; omega)
  have hnr : ¬ cs.getD i 0 * size < total := by
    intro hr
    have h1 := h.rare i hi hr
    have hneg : aboveI cs zs size total i < 0 := by unfold aboveI; rw [h1, Int.one_mul]; omega
    have hall : ∀ j, cs.getD j 0 * size - zs.getD j 0 * total ≤ 0 := by
      intro j
      by_cases hj : 0 < cs.getD j 0
      · have := hmax j hj
        unfold aboveI at this hneg
        omega
      · have hz := h.zero j hj
        have hc0 : cs.getD j 0 = 0 := by have := hnn j; omega
        rw [hz, hc0, Int.zero_mul, Int.zero_mul]
        omega
    have hsum := above_sum cs zs size total h.len hall
    have e1 : zs.sum = size - left := by have := h.sum; omega
    rw [ht, e1, Int.sub_mul, Int.mul_comm total size] at hsum
    have := Int.mul_pos hl htp
    omega
  refine ⟨by simp [h.len], fun j hj => ?_, fun j hj => ?_, ?_, fun j hj hr => ?_⟩
  · rw [getD_set _ _ _ _ hil]
    split
    · have := h.pos i hi; omega
    · exact h.pos j hj
  · rw [getD_set _ _ _ _ hil]
    split
    · next e => subst e; exact absurd hi hj
    · exact h.zero j hj
  · rw [sum_set _ _ _ hil]
    have := h.sum
    omega
  · rw [getD_set _ _ _ _ hil]
    split
    · next e => subst e; exact absurd hr hnr
    · exact h.rare j hj hr

theorem NI.down {cs zs : List Int} {size total left : Int} (h : NI cs zs size total left) {i : Nat} (hi : 1 < zs.getD i 0) : NI cs (zs.set i (zs.getD i 0 - 1)) size total (left + 1) := by
  have hil : i < zs.length := lt_of_getD (by omega)
  have hci : 0 < cs.getD i 0 := by
    rcases Int.lt_or_le 0 (cs.getD i 0) with h1 | h1
    · exact h1
    · have := h.zero i (by omega); omega
  refine ⟨by simp [h.len], fun j hj => ?_, fun j hj => ?_, ?_, fun j hj hr => ?_⟩
  · rw [getD_set _ _ _ _ hil]
    split
    · omega
    · exact h.pos j hj
  · rw [getD_set _ _ _ _ hil]
    split
    · next e => subst e; exact absurd hci hj
    · exact h.zero j hj
  · rw [sum_set _ _ _ hil]
    have := h.sum
    omega
  · rw [getD_set _ _ _ _ hil]
    split
    · next e => subst e; have := h.rare _ hj hr; omega
    · exact h.rare j hj hr

def usedI (cs : List Int) : Nat := cs.countP fun c => decide (0 < c)
/-- All of them 1 at most: no more than are used. -/
theorem sum_le_used : ∀ (cs zs : List Int), zs.length = cs.length → (∀ i, ¬ 0 < cs.getD i 0 → zs.getD i 0 = 0) → (∀ i, zs.getD i 0 ≤ 1) → zs.sum ≤ (usedI cs : Int)
  | [], [], _, _, _ => by simp [usedI]
  | [], z :: zs, h, _, _ => by simp at h
  | c :: cs, [], h, _, _ => by simp at h
  | c :: cs, z :: zs, h, h0, h1 => by
    have ih := sum_le_used cs zs (by simpa using h) (fun i => h0 (i + 1)) (fun i => h1 (i + 1))
    have a := h0 0
    have b := h1 0
    simp only [List.getD_cons_zero] at a b
    unfold usedI at ih ⊢
    rw [List.sum_cons, List.countP_cons]
    by_cases hc : 0 < c
    · simp only [hc, decide_true, if_true]
      omega
    · have := a hc
      simp only [hc, decide_false]
      simp
      omega
theorem NI.some_down {cs zs : List Int} {size total left : Int} (h : NI cs zs size total left) (hu : (usedI cs : Int) ≤ size) (hl : left < 0) : ∃ i, i < zs.length ∧ 1 < zs.getD i 0 := by
  by_cases hx : ∃ i, 1 < zs.getD i 0
  · obtain ⟨i, hi⟩ := hx
    exact ⟨i, lt_of_getD (by omega), hi⟩
  · have := sum_le_used cs zs h.len h.zero (fun i => by
      rcases Int.lt_or_le 1 (zs.getD i 0) with h1 | h1
      · exact absurd ⟨i, h1⟩ hx
      · exact h1)
    have := h.sum
    omega

/-- The norms, the rare ones marked. -/
def markR (cs zs : List Int) (size total : Int) (k : Nat) : List Int := (List.range zs.length).map fun i => if i < k ∧ 0 < cs.getD i 0 ∧ cs.getD i 0 * size < total then -1 else zs.getD i 0
theorem markR_at (cs zs : List Int) (size total : Int) (k : Nat) {i : Nat} (hi : i < zs.length) : (markR cs zs size total k)[i]? = some (if i < k ∧ 0 < cs.getD i 0 ∧ cs.getD i 0 * size < total then -1 else zs.getD i 0) := by
  unfold markR
  rw [List.getElem?_map, List.getElem?_range hi]
  rfl
theorem markR_length (cs zs : List Int) (size total : Int) (k : Nat) : (markR cs zs size total k).length = zs.length := by simp [markR]
theorem markR_zero (cs zs : List Int) (size total : Int) : markR cs zs size total 0 = zs := by
  apply List.ext_getElem?
  intro i
  by_cases hi : i < zs.length
  · rw [markR_at _ _ _ _ _ hi, if_neg (by omega), List.getD_eq_getElem?_getD, List.getElem?_eq_getElem hi]
    rfl
  · rw [List.getElem?_eq_none (by rw [markR_length]; omega), List.getElem?_eq_none (by omega)]
theorem markR_succ (cs zs : List Int) (size total : Int) (k : Nat) (hk : k < zs.length) :
    markR cs zs size total (k + 1) = if 0 < cs.getD k 0 ∧ cs.getD k 0 * size < total then (markR cs zs size total k).set k (-1) else markR cs zs size total k := by
  apply List.ext_getElem?
  intro i
  by_cases hi : i < zs.length
  · have hm := markR_at cs zs size total k hi
    rw [markR_at cs zs size total (k + 1) hi]
    by_cases hc : 0 < cs.getD k 0 ∧ cs.getD k 0 * size < total
    · rw [if_pos hc, List.getElem?_set, markR_length, hm]
      by_cases hki : k = i
      · subst hki
        rw [if_pos (rfl : k = k), if_pos hk, if_pos (⟨Nat.lt_succ_self k, hc⟩ : k < k + 1 ∧ _)]
      · have e : i < k + 1 ↔ i < k := ⟨fun _ => by omega, fun _ => by omega⟩
        simp only [if_neg hki, e]
    · rw [if_neg hc, hm]
      by_cases hki : i = k
      · subst hki
        rw [if_neg (fun h => hc h.2), if_neg (fun h => hc h.2)]
      · have e : i < k + 1 ↔ i < k := ⟨fun _ => by omega, fun _ => by omega⟩
        simp only [e]
  · rw [List.getElem?_eq_none (by rw [markR_length]; omega)]
    split
    · rw [List.getElem?_eq_none (by rw [List.length_set, markR_length]; omega)]
    · rw [List.getElem?_eq_none (by rw [markR_length]; omega)]

theorem sumAbs_mark : ∀ {ws zs : List Int}, ws.length = zs.length → (∀ i, absZ (ws.getD i 0) = zs.getD i 0) → sumAbs ws = zs.sum
  | [], [], _, _ => rfl
  | [], z :: zs, hl, _ => by simp at hl
  | w :: ws, [], hl, _ => by simp at hl
  | w :: ws, z :: zs, hl, h => by
    have h0 := h 0
    have ih := sumAbs_mark (ws := ws) (zs := zs) (by simpa using hl) (fun i => h (i + 1))
    simp only [List.getD_cons_zero] at h0
    show absZ w + sumAbs ws = _
    rw [List.sum_cons, ih, h0]
theorem sumAbs_none : ∀ (l : List Int), (∀ i, l.getD i 0 = 0) → sumAbs l = 0
  | [], _ => rfl
  | a :: l, hl => by
    have h0 := hl 0
    simp only [List.getD_cons_zero] at h0
    show absZ a + sumAbs l = 0
    rw [sumAbs_none l (fun i => hl (i + 1)), h0]
    decide
theorem sumAbs_tail {ws : List Int} {k : Nat} (h : ∀ i, k ≤ i → ws.getD i 0 = 0) : sumAbs (ws.take k) = sumAbs ws := by
  have h1 := sumAbs_append (ws.take k) (ws.drop k)
  rw [List.take_append_drop] at h1
  rw [h1, sumAbs_none (ws.drop k) (fun i => by
    rw [List.getD_eq_getElem?_getD, List.getElem?_drop, ← List.getD_eq_getElem?_getD]
    exact h _ (by omega))]
  omega

/-- The normalized table is valid, and has states for every symbol that is counted. -/
theorem NI.okT {cs zs : List Int} {L : Nat} {size total : Int} (h : NI cs zs size total 0) (hL : L ≤ 9) (hs : size = ((2 ^ L : Nat) : Int)) (hcl : cs.length ≤ 256) {k : Nat} (hk : 0 < cs.getD k 0) (hlast : ∀ i, k < i → ¬ 0 < cs.getD i 0) :
    Go.Proofs.Ytohgnohifojdbaa.okT (L : Int) ((markR cs zs size total zs.length).take (k + 1)) ∧ ∀ i, 0 < cs.getD i 0 → ∃ z, ((markR cs zs size total zs.length).take (k + 1))[i]? = some z ∧ z ≠ 0 := by
  have hkl : k < zs.length := by rw [h.len]; exact lt_of_getD (by omega)
  have hzl := h.len
  have hval : ∀ i, absZ ((markR cs zs size total zs.length).getD i 0) = zs.getD i 0 := by
    intro i
    by_cases hi : i < zs.length
    · rw [List.getD_eq_getElem?_getD (l := markR _ _ _ _ _), markR_at _ _ _ _ _ hi, Option.getD_some]
      split
      · next hc => rw [h.rare i hc.2.1 hc.2.2]; decide
      · by_cases hci : 0 < cs.getD i 0
        · have := h.pos i hci
          unfold absZ
          omega
        · rw [h.zero i hci]; decide
    · rw [List.getD_eq_getElem?_getD, List.getElem?_eq_none (by rw [markR_length]; omega), List.getD_eq_getElem?_getD, List.getElem?_eq_none (by omega)]
      decide
  have hne : ∀ i, 0 < cs.getD i 0 → (markR cs zs size total zs.length).getD i 0 ≠ 0 := by
    intro i hi e
    have h1 := hval i
    rw [e] at h1
    have h2 := h.pos i hi
    have h3 : absZ 0 = 0 := by decide
    omega
  have hil : ∀ i, 0 < cs.getD i 0 → i < k + 1 := by
    intro i hi
    rcases Nat.lt_or_ge k i with h1 | h1
    · exact absurd hi (hlast i h1)
    · omega
  have hlen : ((markR cs zs size total zs.length).take (k + 1)).length = k + 1 := by rw [List.length_take, markR_length]; omega
  have hat : ∀ i, i < k + 1 → ((markR cs zs size total zs.length).take (k + 1))[i]? = some ((markR cs zs size total zs.length).getD i 0) := by
    intro i hi
    rw [List.getElem?_take, if_pos hi, List.getD_eq_getElem?_getD, markR_at _ _ _ _ _ (by omega)]
    rfl
  refine ⟨⟨⟨by omega, by omega⟩, ⟨by rw [hlen]; omega, by rw [hlen]; omega⟩, ?_, ?_, ?_⟩, fun i hi => ⟨_, hat i (hil i hi), hne i hi⟩⟩
  · rw [List.getLastD_eq_getLast?, List.getLast?_eq_getElem?, hlen, Nat.add_sub_cancel, hat k (by omega)]
    exact hne k hk
  · intro z hz
    have hz := List.mem_of_mem_take hz
    unfold markR at hz
    obtain ⟨i, hi, rfl⟩ := List.mem_map.1 hz
    split
    · omega
    · by_cases hci : 0 < cs.getD i 0
      · have := h.pos i hci; omega
      · rw [h.zero i hci]; omega
  · rw [sumAbs_tail, sumAbs_mark (markR_length ..) hval]
    · have := h.sum
      rw [Int.toNat_natCast]
      rw [hs] at this
      simp at this ⊢
      omega
    · intro i hi
      have := hval i
      rw [h.zero i (hlast i (by omega))] at this
      unfold absZ at this
      omega
end

section
set_option maxRecDepth 8000
set_option maxRecDepth 8000
open Go.RowKit Go
set_option linter.unusedVariables false

/-- Counts: none below 0, the sum small. -/
structure CountI (cs : List Int) : Prop where
  nn : ∀ z ∈ cs, 0 ≤ z
  sum : cs.sum ≤ 2000
  len : cs.length ≤ 256
  used : 0 < usedI cs

theorem sum_snocI {cs : List Int} {k : Nat} {z : Int} (h : cs[k]? = some z) : (cs.take (k + 1)).sum = (cs.take k).sum + z := by
  rw [List.take_add_one, h, Option.toList_some, List.sum_append]; simp
theorem sum_nn : ∀ {cs : List Int}, (∀ z ∈ cs, 0 ≤ z) → 0 ≤ cs.sum
  | [], _ => by simp
  | c :: cs, h => by
    rw [List.sum_cons]
    have := h c (List.mem_cons_self ..)
    have := sum_nn (cs := cs) fun z hz => h z (List.mem_cons_of_mem _ hz)
    omega
theorem sum_take_leI {cs : List Int} (h : ∀ z ∈ cs, 0 ≤ z) (k : Nat) : (cs.take k).sum ≤ cs.sum := by
  have h1 : (cs.take k ++ cs.drop k).sum = (cs.take k).sum + (cs.drop k).sum := List.sum_append
  rw [List.take_append_drop] at h1
  have := sum_nn (cs := cs.drop k) fun z hz => h z (List.mem_of_mem_drop hz)
  omega
theorem usedI_snoc {cs : List Int} {k : Nat} {z : Int} (h : cs[k]? = some z) : usedI (cs.take (k + 1)) = usedI (cs.take k) + if 0 < z then 1 else 0 := by
  unfold usedI
  rw [List.take_add_one, h, Option.toList_some, List.countP_append]
  by_cases hz : 0 < z
  · simp [hz]
  · simp [hz]
theorem usedI_le (cs : List Int) : usedI cs ≤ cs.length := List.countP_le_length
theorem usedI_take (cs : List Int) (k : Nat) : usedI (cs.take k) ≤ k := Nat.le_trans (usedI_le _) (by rw [List.length_take]; omega)

set_option maxHeartbeats 1000000 in
theorem all_ok (A : Option Addr) (n c : Nat) (cs : List Int) (w : World) (hn : cs.length = n) (hr : Reads w w.heap.size 1 A n (cs.map (Value.int .i64))) (hC : CountI cs) (hc : n ≤ c) (hc' : c ≤ maxLen) :
    Calls Try.prog 15 #[.slice A n c] w fun e w' => e = .returned (.tuple #[.int .i64 cs.sum, .int .i64 (usedI cs : Int), .bool true]) ∧ w' = w := by
  have hmax : c ≤ 9223372036854775807 := by unfold maxLen at hc'; omega
  have hn256 : n ≤ 256 := by have := hC.len; omega
  have HR := hide hr
  have HN := hide hn
  have HC := hide hC
  clear hr hn hC
  go_enter Try.func15, Try.ntmps15
  go_wp2
  go_loop [2, 3, 9] (fun s u i => ∃ k : Nat, k ≤ n ∧ i = .int .i64 k ∧ s = .int .i64 (cs.take k).sum ∧ u = .int .i64 (usedI (cs.take k) : Int)) (fun _ _ i => n - (intOf i).toNat)
  case atStart => exact ⟨0, Nat.zero_le _, rfl, by simp, by simp [usedI]⟩
  case round =>
    obtain ⟨k, hk, rfl, rfl, rfl⟩ := hrel
    have hsl := sum_take_leI HC.out.nn k
    have hs0 := sum_nn (cs := cs.take k) fun z hz => HC.out.nn z (List.mem_of_mem_take hz)
    have hs2 := HC.out.sum
    have hu := usedI_take cs k
    obtain ⟨s, hs⟩ : ∃ s, s = (cs.take k).sum := ⟨_, rfl⟩
    obtain ⟨u, huu⟩ : ∃ u, u = usedI (cs.take k) := ⟨_, rfl⟩
    rw [← hs] at hsl hs0 ⊢
    rw [← huu] at hu ⊢
    have hsb : s ≤ 2000 := by omega
    have HS := hide hs
    have HU := hide huu
    clear hsl hs2 hs huu
    by_cases hlt : k < n
    · obtain ⟨b, off, z, rfl, hbb, kz, hz⟩ := int_cells HR.out hlt
      have hz0 := HC.out.nn z (List.mem_of_getElem? hz)
      have hss := sum_snocI hz
      have hus := usedI_snoc hz
      have hsl := sum_take_leI HC.out.nn (k + 1)
      have hs2 := HC.out.sum
      rw [hss, ← HS.out] at hsl
      have hzb : s + z ≤ 2000 := by omega
      have hkn : (k : Int) < (n : Int) := by omega
      have hn1 : ¬ z < 0 := by omega
      have hw1 : IntKind.i64.wrap (1099511627776 - s) = 1099511627776 - s := IntWalk.i64_in _ (by omega)
      have hn2 : ¬ 1099511627776 - s < z := by omega
      have hw2 : IntKind.i64.wrap (s + z) = s + z := IntWalk.i64_in _ (by omega)
      have hw3 : IntKind.i64.wrap ((u : Int) + 1) = (u : Int) + 1 := IntWalk.i64_in _ (by omega)
      have HSS := hide hss
      have HUS := hide hus
      clear hss hus hsl hs2 hbb hz
      by_cases hp : 0 < z
      · go_wp2
        go_round
        case rel => exact ⟨k + 1, by omega, by go_num, by rw [HSS.out, HS.out], by rw [HUS.out, HU.out, if_pos hp]; rfl⟩
        case measure => simp [intOf]; try omega
      · go_wp2
        go_round
        case rel => exact ⟨k + 1, by omega, by go_num, by rw [HSS.out, HS.out], by rw [HUS.out, HU.out, if_neg hp]; rfl⟩
        case measure => simp [intOf]; try omega
    · obtain rfl : k = n := by omega
      have hfull : cs.take k = cs := List.take_of_length_le (by have := HN.out; omega)
      have hge2 : ¬ (k : Int) < (k : Int) := by omega
      have hup : 0 < u := by have := HC.out.used; rw [HU.out, hfull]; omega
      have HS' := hide (HS.out.trans (by rw [hfull]))
      have HU' := hide (HU.out.trans (by rw [hfull]))
      clear hfull
      go_wp2
      go_ret3
      rw [HS'.out, HU'.out]
      exact ⟨rfl, rfl⟩

theorem len_pow (x : Nat) (hx : x < 65536) : x < 2 ^ Lib.bitLen x ∧ Lib.bitLen x ≤ 16 := by
  have h2 : Lib.bitLen x ≤ 16 := Lib.bitLen_le x 16 (by omega) (by simpa using hx)
  refine ⟨?_, h2⟩
  rcases Nat.eq_zero_or_pos x with rfl | h0
  · exact Nat.pow_pos (by omega)
  · have h64 : x < 2 ^ 64 := Nat.lt_of_lt_of_le hx (by decide)
    exact (bitLen_bounds x h0 h64).2.2

set_option maxHeartbeats 1000000 in
/-- What RecommendLog recommends: no Log that is positive, or one that has room for the used symbols. -/
theorem rlog_any (A : Option Addr) (n c : Nat) (cs : List Int) (m : Int) (w : World) (hn : cs.length = n) (hr : Reads w w.heap.size 1 A n (cs.map (Value.int .i64))) (hC : CountI cs) (hc : n ≤ c) (hc' : c ≤ maxLen) (hm : (Lit.int .i64 m).wf = true) :
    Calls Try.prog 6 #[.slice A n c, .int .i64 m] w fun e w' =>
      ∃ r : Int, e = .returned (.int .i64 r) ∧ w' = w ∧ (r < 1 ∨ ∃ L : Nat, r = (L : Int) ∧ 1 ≤ L ∧ L ≤ 9 ∧ usedI cs ≤ 2 ^ L) := by
  have HALL := hide (all_ok A n c cs w hn hr hC hc hc')
  obtain ⟨hmb1, hmb2⟩ := bounds_i64 hm
  have hu0 := hC.used
  have hul := Nat.le_trans (usedI_le cs) hC.len
  have hs0 := sum_nn hC.nn
  have hs2 := hC.sum
  have HLU := hide (fun W => lenB_any (usedI cs - 1) W (by omega))
  have HLS := hide (fun W => lenB_any cs.sum.toNat W (by omega))
  obtain ⟨u, hu⟩ : ∃ u, u = usedI cs := ⟨_, rfl⟩
  obtain ⟨s, hs⟩ : ∃ s, s = cs.sum.toNat := ⟨_, rfl⟩
  have hss : cs.sum = (s : Int) := by omega
  rw [← hu] at HLU hu0 hul HALL ⊢
  rw [← hs] at HLS
  rw [hss] at HALL
  have hp1 := len_pow (u - 1) (by omega)
  have hp2 := len_pow s (by omega)
  obtain ⟨p, hp⟩ : ∃ p, p = Lib.bitLen (u - 1) := ⟨_, rfl⟩
  obtain ⟨q, hq⟩ : ∃ q, q = Lib.bitLen s := ⟨_, rfl⟩
  rw [← hp] at HLU hp1
  rw [← hq] at HLS hp2
  have hsb : s ≤ 2000 := by omega
  have hwu : IntKind.i64.wrap ((u : Int) - 1) = ((u - 1 : Nat) : Int) := by rw [IntWalk.i64_in _ (by omega)]; omega
  have hwq : IntKind.i64.wrap ((q : Int) - 2) = (q : Int) - 2 := IntWalk.i64_in _ (by omega)
  have hwu2 : IntKind.u64.wrap ((u - 1 : Nat) : Int) = ((u - 1 : Nat) : Int) := by rw [IntKind.wrap_u64]; omega
  have hws2 : IntKind.u64.wrap (s : Int) = (s : Int) := by rw [IntKind.wrap_u64]; omega
  have hp16 := hp1.2
  have hq16 := hp2.2
  have HP := hide hp1.1
  clear hp hq hp1 hp2 hu hs hss hs0 hs2 hC hr hn
  obtain ⟨y, hy⟩ : ∃ y, min m 9 = y := ⟨_, rfl⟩
  have hy9 : y ≤ 9 := by omega
  have hyl : -9223372036854775808 ≤ y := by omega
  by_cases hy0 : y < 0
  · have HY := hide (show (-1 : Int) < 1 by omega)
    go_enter Try.func6, Try.ntmps6
    go_wp2_with fail
    refine HALL.out.mono ?_
    rintro e w1 ⟨rfl, rfl⟩
    go_wp2
    go_ret
    exact ⟨_, rfl, rfl, .inl (by decide)⟩
  · obtain ⟨Y, rfl⟩ := Int.eq_ofNat_of_zero_le (show 0 ≤ y by omega)
    have hpow : 2 ^ Y ≤ 2 ^ 9 := Nat.pow_le_pow_right (by omega) (by omega)
    have hp9 : (2 : Nat) ^ 9 = 512 := by decide
    obtain ⟨S, hS⟩ : ∃ S, S = 2 ^ Y := ⟨_, rfl⟩
    have hS0 : ((2 : Int) ^ Y) = (S : Int) := by rw [hS]; simp
    rw [← hS] at hpow
    have hsh : IntKind.i64.wrap ((2 : Int) ^ Y) = (S : Int) := by rw [hS0, IntWalk.i64_in _ (by omega)]
    have HSS := hide hS
    clear hS hp9 hS0
    by_cases hbig : S < u
    · have hbig' : (S : Int) < (u : Int) := by omega
      have HY := hide (show (-1 : Int) < 1 by omega)
      go_enter Try.func6, Try.ntmps6
      go_wp2_with fail
      refine HALL.out.mono ?_
      rintro e w1 ⟨rfl, rfl⟩
      go_wp2
      go_ret
      exact ⟨_, rfl, rfl, .inl HY.out⟩
    · have hbig' : ¬ (S : Int) < (u : Int) := by omega
      by_cases hu1 : u = 1
      · have hu1b : ((u : Int) == 1) = true := by simp [hu1]
        have HY := hide (show (0 : Int) < (1 : Int) by omega)
        clear hu1
        go_enter Try.func6, Try.ntmps6
        go_wp2_with fail
        refine HALL.out.mono ?_
        rintro e w1 ⟨rfl, rfl⟩
        go_wp2
        go_ret
        exact ⟨_, rfl, rfl, .inl HY.out⟩
      · have hu1b : ((u : Int) == 1) = false := by simp; omega
        have HY := hide (show ∀ r : Int, r = min (Y : Int) (max (p : Int) ((q : Int) - 2)) → (r < 1 ∨ ∃ L : Nat, r = (L : Int) ∧ 1 ≤ L ∧ L ≤ 9 ∧ u ≤ 2 ^ L) by
          intro r hr
          by_cases h1 : r < 1
          · exact .inl h1
          · refine .inr ⟨r.toNat, by omega, by omega, by omega, ?_⟩
            have hx := HP.out
            have hx2 := HSS.out
            rcases Nat.lt_or_ge r.toNat Y with h2 | h2
            · have h3 : 2 ^ p ≤ 2 ^ r.toNat := Nat.pow_le_pow_right (by omega) (by omega)
              omega
            · have h3 : r.toNat = Y := by omega
              rw [h3, ← hx2]
              omega)
        clear hu1 HP
        go_enter Try.func6, Try.ntmps6
        go_wp2_with fail
        refine HALL.out.mono ?_
        rintro e w1 ⟨rfl, rfl⟩
        go_wp2_with fail
        refine (HLU.out _).mono ?_
        rintro e w2 ⟨rfl, rfl⟩
        go_wp2_with fail
        refine (HLS.out _).mono ?_
        rintro e w3 ⟨rfl, rfl⟩
        go_wp2
        go_ret
        exact ⟨_, rfl, rfl, HY.out _ rfl⟩
end

end Go.Proofs.Ytohgnohifojdbaa
