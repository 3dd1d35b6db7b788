/- The reference model's Reader walked: constructors; outcomes in the program's words. -/
import Derived.Test.YtifolinoadllbaaRfC
import Derived.Test.YtifolinoadllbaaL3Nil
namespace Go.Proofs.Ytifolinoadllbaa
open Go.RowKit
set_option linter.unusedVariables false

/-- A Reader of the model whose blocks lie in lo .. hi-1. -/
def Rf (w : World) (lo hi g : Nat) (L : List Bool) (r : Nat) : Prop :=
  ∃ A n c, RfIn w g A n c L r ∧ lo ≤ g ∧ g < hi ∧ hi ≤ w.heap.size ∧ ∀ ad, A = some ad → lo ≤ ad.block ∧ ad.block < hi
theorem Rf.chg {S : Nat → Prop} {w w' : World} {lo hi g r : Nat} {L : List Bool} (h : Rf w lo hi g L r) (hc : Chg S w w') (hS : ∀ b, S b → b < lo ∨ hi ≤ b) : Rf w' lo hi g L r := by
  obtain ⟨A, n, c, hr, h1, h2, h3, h4⟩ := h
  exact ⟨A, n, c, hr.chg hc (fun hs => by have := hS _ hs; omega) (fun ad ha hs => by have := hS _ hs; have := h4 ad ha; omega), h1, h2, Nat.le_trans h3 hc.size, h4⟩
theorem Rf.below {w w' : World} {lo hi g r : Nat} {L : List Bool} (h : Rf w lo hi g L r) (hb : Below w.heap.size w w') : Rf w' lo hi g L r :=
  h.chg (S := fun _ => False) (.of_below hb) (fun _ h => h.elim)
theorem Rf.low {w : World} {lo lo' hi g r : Nat} {L : List Bool} (h : Rf w lo hi g L r) (hl : lo' ≤ lo) : Rf w lo' hi g L r := by
  obtain ⟨A, n, c, hr, h1, h2, h3, h4⟩ := h
  exact ⟨A, n, c, hr, Nat.le_trans hl h1, h2, h3, fun ad ha => ⟨Nat.le_trans hl (h4 ad ha).1, (h4 ad ha).2⟩⟩
theorem Rf.lt {w : World} {lo hi g r : Nat} {L : List Bool} (h : Rf w lo hi g L r) : lo ≤ g ∧ g < hi ∧ hi ≤ w.heap.size := by
  obtain ⟨A, n, c, hr, h1, h2, h3, h4⟩ := h
  exact ⟨h1, h2, h3⟩
theorem Rf.cells {w : World} {lo hi g r : Nat} {L : List Bool} (h : Rf w lo hi g L r) :
    ∃ A c, w.cell? ⟨g, 0, none⟩ = some (.slice A L.length c) ∧ w.cell? ⟨g, 1, none⟩ = some (.int .i64 r) := by
  obtain ⟨A, n, c, hr, h1, h2, h3, h4⟩ := h
  have := hr.cells
  rw [hr.len] at this
  exact ⟨A, c, this.1, this.2⟩

/-- The bits f .. t of a number. -/
def seg (N f t : Nat) : List Bool := bitsOf (N / 2 ^ f) (t - f)
theorem seg_length (N f t : Nat) : (seg N f t).length = t - f := bitsOf_length _ _
theorem seg_drop (N f t n : Nat) : (seg N f t).drop n = seg N (f + n) t := by
  unfold seg; rw [bitsOf_drop, Nat.div_div_eq_div_mul, ← Nat.pow_add, Nat.sub_sub]
theorem seg_take (N f t t' : Nat) (h : t' ≤ t) : (seg N f t).take (t' - f) = seg N f t' := by
  unfold seg; rw [bitsOf_take _ _ _ (by omega)]
theorem seg_nat (N f t : Nat) : natOf (seg N f t) = N / 2 ^ f % 2 ^ (t - f) := natOf_bitsOf _ _
theorem seg_first (N f t n : Nat) (h : f + n ≤ t) : natOf ((seg N f t).take n) = N / 2 ^ f % 2 ^ n := by
  unfold seg; rw [bitsOf_take _ _ _ (by omega), natOf_bitsOf]
theorem seg_last (N f t t' : Nat) (hf : f ≤ t') : natOf ((seg N f t).drop (t' - f)) = N / 2 ^ t' % 2 ^ (t - t') := by
  rw [seg_drop, seg_nat, show f + (t' - f) = t' by omega]
theorem seg_peek (N f t k : Nat) (h : f ≤ t) : oP (seg N f t) k = pk N f t k := by
  unfold oP pk
  rw [seg_length]
  by_cases hk : k ≤ t - f
  · rw [if_pos hk, Nat.min_eq_left hk, show t - f - k = t - k - f by omega, seg_last _ _ _ _ (by omega), show t - (t - k) = k by omega, Nat.sub_self, Nat.pow_zero, Nat.mul_one]
  · rw [if_neg hk, Nat.min_eq_right (by omega), seg_nat, show t - (t - f) = f by omega]

section
variable {w : World} {lo hi g N f t r : Nat}
theorem first_out (h : Rf w lo hi g (seg N f t) r) (hft : f ≤ t) (n : Int) :
    Calls Try.prog 26 #[.pointer (some ⟨g, 0, none⟩), .int .i64 n] w fun e w' =>
      e = .returned (.tuple #[.int .u64 (((oF N f t n).1 : Nat) : Int), .int .i64 (oF N f t n).2.1]) ∧ Rf w' lo hi g (seg N (oF N f t n).2.2 t) (r + ((oF N f t n).2.2 - f)) ∧ Chg (fun k => k = g) w w' := by
  have h0 := h
  obtain ⟨A, m, c, hr, h1, h2, h3, h4⟩ := h
  have hm : m = t - f := by rw [hr.len, seg_length]
  by_cases hb : n < 0 ∨ (0 ≤ n ∧ 64 < n)
  · have e : oF N f t n = (0, 2, f) := by
      unfold oF okN
      rw [if_neg (by simp; omega), if_pos (by omega)]
    rw [e]
    simp only [Nat.sub_self, Nat.add_zero]
    exact (first_bad w n hb).mono fun e w' ⟨he, hk⟩ => ⟨he, hk ▸ h0, by rw [hk]; exact Chg.refl _ _⟩
  · obtain ⟨k, rfl⟩ := Int.eq_ofNat_of_zero_le (show 0 ≤ n by omega)
    by_cases ht : f + k ≤ t
    · have e : oF N f t ((k : Nat) : Int) = (N / 2 ^ f % 2 ^ k, 0, f + k) := by
        unfold oF okN
        rw [if_pos (by simp; omega)]
        simp
      rw [e, show r + (f + k - f) = r + k by omega]
      refine (first_ok w hr k (by simp at hb; omega) (by omega)).mono fun e w' ⟨he, ⟨A', c', hr', hA⟩, hc⟩ => ⟨?_, ?_, hc⟩
      · rw [seg_first N f t k ht] at he; exact he
      · rw [seg_drop] at hr'
        exact ⟨A', _, c', hr', h1, h2, Nat.le_trans h3 hc.size, fun ad ha => by obtain ⟨a0, e1, e2⟩ := hA ad ha; rw [e2]; exact h4 a0 e1⟩
    · have e : oF N f t ((k : Nat) : Int) = (0, 3, f) := by
        unfold oF okN
        rw [if_neg (by simp; omega), if_neg (by simp at hb ⊢; omega)]
      rw [e]
      simp only [Nat.sub_self, Nat.add_zero]
      exact (first_short w hr k (by simp at hb; omega) (by omega)).mono fun e w' ⟨he, hk⟩ => ⟨he, hk ▸ h0, by rw [hk]; exact Chg.refl _ _⟩
theorem last_out (h : Rf w lo hi g (seg N f t) r) (hft : f ≤ t) (n : Int) :
    Calls Try.prog 16 #[.pointer (some ⟨g, 0, none⟩), .int .i64 n] w fun e w' =>
      e = .returned (.tuple #[.int .u64 (((oB N f t n).1 : Nat) : Int), .int .i64 (oB N f t n).2.1]) ∧ Rf w' lo hi g (seg N f (oB N f t n).2.2) (r + (t - (oB N f t n).2.2)) ∧ Chg (fun k => k = g) w w' := by
  have h0 := h
  obtain ⟨A, m, c, hr, h1, h2, h3, h4⟩ := h
  have hm : m = t - f := by rw [hr.len, seg_length]
  by_cases hb : n < 0 ∨ (0 ≤ n ∧ 64 < n)
  · have e : oB N f t n = (0, 2, t) := by
      unfold oB okN
      rw [if_neg (by simp; omega), if_pos (by omega)]
    rw [e]
    simp only [Nat.sub_self, Nat.add_zero]
    exact (last_bad w n hb).mono fun e w' ⟨he, hk⟩ => ⟨he, hk ▸ h0, by rw [hk]; exact Chg.refl _ _⟩
  · obtain ⟨k, rfl⟩ := Int.eq_ofNat_of_zero_le (show 0 ≤ n by omega)
    by_cases ht : f + k ≤ t
    · have e : oB N f t ((k : Nat) : Int) = (N / 2 ^ (t - k) % 2 ^ k, 0, t - k) := by
        unfold oB okN
        rw [if_pos (by simp; omega)]
        simp
      rw [e, show r + (t - (t - k)) = r + k by omega]
      refine (last_ok (t := t - k - f) w hr k (by simp at hb; omega) (by omega)).mono fun e w' ⟨he, ⟨A', c', hr', hA⟩, hc⟩ => ⟨?_, ?_, hc⟩
      · rw [seg_last N f t (t - k) (by omega), show t - (t - k) = k by omega] at he; exact he
      · rw [seg_take _ _ _ _ (by omega)] at hr'
        exact ⟨A', _, c', hr', h1, h2, Nat.le_trans h3 hc.size, fun ad ha => by obtain ⟨a0, e1, e2⟩ := hA ad ha; rw [e2]; exact h4 a0 e1⟩
    · have e : oB N f t ((k : Nat) : Int) = (0, 14, t) := by
        unfold oB okN
        rw [if_neg (by simp; omega), if_neg (by simp at hb ⊢; omega)]
      rw [e]
      simp only [Nat.sub_self, Nat.add_zero]
      exact (last_short w hr k (by simp at hb; omega) (by omega)).mono fun e w' ⟨he, hk⟩ => ⟨he, hk ▸ h0, by rw [hk]; exact Chg.refl _ _⟩
theorem rpeek_out (h : Rf w lo hi g (seg N f t) r) (hft : f ≤ t) (n : Int) :
    Calls Try.prog 15 #[.pointer (some ⟨g, 0, none⟩), .int .i64 n] w fun e w' =>
      e = .returned (.int .u64 ((pk N f t (clampN n) : Nat) : Int)) ∧ Below w.heap.size w w' := by
  obtain ⟨A, m, c, hr, h1, h2, h3, h4⟩ := h
  have := rpeek_walk w hr n (clampN_int n) (clampN_le n)
  rwa [seg_peek N f t _ hft] at this
theorem whole_out (h : Rf w lo hi g (seg N f t) f) (hft : f ≤ t) (ht : t % 8 = 0) :
    Calls Try.prog 25 #[.pointer (some ⟨g, 0, none⟩)] w fun e w' =>
      e = .returned (.tuple #[.int .i64 (((oA N f).1 : Nat) : Int), .int .i64 (oA N f).2.1]) ∧ Rf w' lo hi g (seg N (oA N f).2.2 t) (oA N f).2.2 ∧ Chg (fun k => k = g) w w' := by
  have h0 := h
  obtain ⟨A, m, c, hr, h1, h2, h3, h4⟩ := h
  have hm : m = t - f := by rw [hr.len, seg_length]
  have hg : f + gap f ≤ t := by unfold gap; omega
  refine (whole_walk w hr (by omega)).mono ?_
  rw [seg_first N f t _ hg]
  rintro e w' (⟨hz, he, ⟨A', c', hr', hA⟩, hc⟩ | ⟨hz, he, hw⟩)
  · have e : oA N f = ((f + gap f) / 8, 0, f + gap f) := by unfold oA; rw [if_pos hz]
    rw [e]
    rw [seg_drop] at hr'
    exact ⟨he, ⟨A', _, c', hr', h1, h2, Nat.le_trans h3 hc.size, fun ad ha => by obtain ⟨a0, e1, e2⟩ := hA ad ha; rw [e2]; exact h4 a0 e1⟩, hc⟩
  · have e : oA N f = (0, 14, f) := by unfold oA; rw [if_neg hz]
    rw [e]
    exact ⟨he, hw ▸ h0, by rw [hw]; exact Chg.refl _ _⟩
end

/-! ### The constructors -/
theorem rf_new {w w1 : World} {A1 : Option Addr} {n c1 m : Nat} {L : List Bool} (hown : w1.ownsRow w.heap.size 4 1 (.slice A1 n c1) n (bools L)) (hb : Below w.heap.size w w1) (hn : n = L.length) (hm : m ≤ n) (hs : n ≤ 100000000) :
    Rf (w1.alloc (.cells #[.slice A1 m c1, .int .i64 0] 42 (0, 0))) w.heap.size (w1.heap.size + 1) w1.heap.size (L.take m) 0 ∧
      Below w.heap.size w (w1.alloc (.cells #[.slice A1 m c1, .int .i64 0] 42 (0, 0))) := by
  have hr := (Reads.of_own hown).head hm
  rw [bools_take] at hr
  have hlt : ∀ ad, A1 = some ad → w.heap.size ≤ ad.block ∧ ad.block < w1.heap.size := by rintro ad rfl; exact hown.lt ad.block rfl
  have hc := own_cap hown
  refine ⟨⟨A1, m, c1, ⟨alloc_new w1 _ rfl, (hr.alloc (Nat.le_refl _) _).more (by simp), by rw [List.length_take]; omega, by omega, ?_, by omega⟩, hb.size, by omega, by simp, ?_⟩, hb.alloc hb.size _⟩
  · intro ad h1 h2
    have := (hlt ad h1).2
    omega
  · intro ad h1
    have := hlt ad h1
    omega

set_option maxHeartbeats 1000000 in
theorem rforward_of (A : Option Addr) (n c : Nat) (bs : List Nat) (w : World) (hr : Reads w w.heap.size 1 A n (u8s bs)) (h8 : ∀ x ∈ bs, x < 256) (hn : n = bs.length) (hm : n ≤ 10000000) :
    Calls Try.prog 23 #[.slice A n c] w fun e w' => ∃ g, e = .returned (.pointer (some ⟨g, 0, none⟩)) ∧ Rf w' w.heap.size w'.heap.size g (seg (leN bs) 0 (8 * n)) 0 ∧ Below w.heap.size w w' := by
  have HC := hide (row_any A n c bs w hr h8 hn (by omega))
  have HE := hide (show seg (leN bs) 0 (8 * n) = rowOf bs by rw [rowOf_eq bs h8, hn]; unfold seg; simp)
  have HL := hide (show 8 * n = (rowOf bs).length by rw [rowOf_length, hn])
  clear hr h8 hn
  go_enter Try.func23, Try.ntmps23
  go_wp2_with fail
  refine HC.out.mono ?_
  rintro e w1 ⟨v, rfl, hown, hb⟩
  obtain ⟨A1, c1, rfl⟩ := own_form hown
  have HX := hide (rf_new hown hb HL.out (Nat.le_refl _) (by omega))
  clear hown hb
  go_wp2
  go_ret
  have hx := HX.out
  rw [List.take_of_length_le (by have := HL.out; omega)] at hx
  exact ⟨w1.heap.size, rfl, by rw [HE.out, size_alloc_w]; exact hx.1, hx.2⟩

theorem rback_bad (A : Option Addr) (n c : Nat) (bs : List Nat) (w : World) (hr : Reads w w.heap.size 1 A n (u8s bs)) (h8 : ∀ x ∈ bs, x < 256) (hn : n = bs.length) (h0 : bs.getLastD 0 = 0) (hm : n ≤ 10000000) :
    Calls Try.prog 13 #[.slice A n c] w fun e w' => e = .returned (.tuple #[.pointer none, .int .i64 14]) ∧ Below w.heap.size w w' := by
  have HC := hide (row_any A n c bs w hr h8 hn (by omega))
  rcases Nat.eq_zero_or_pos n with hz | hz
  · clear hr hn h0 hm h8
    subst hz
    go_enter Try.func13, Try.ntmps13
    go_wp2_with fail
    refine HC.out.mono ?_
    rintro e w1 ⟨v, rfl, hown, hb⟩
    go_wp2
    go_ret2
    exact ⟨rfl, hb⟩
  · obtain ⟨b, off, rfl, hbb, hcell⟩ := hr.open_ hz (by omega)
    have hl := last_of hn hz
    rw [h0] at hl
    have kl := hcell (n - 1) (.int .u8 0) (by simp [u8s, hl])
    have hw1 : IntKind.i64.wrap ((n : Int) - 1) = ((n - 1 : Nat) : Int) := by rw [IntWalk.i64_in _ (by omega)]; omega
    have hnn : ¬ (n : Int) = 0 := by omega
    have hb1 : ((n - 1 : Nat) : Int) < (n : Int) := by omega
    obtain ⟨q, hq⟩ : ∃ q, q = n - 1 := ⟨_, rfl⟩
    rw [← hq] at kl hw1 hb1
    have hq0 : (0 : Int) ≤ (q : Int) := by omega
    clear hr hn h0 hl hcell hq h8
    go_enter Try.func13, Try.ntmps13
    go_wp2_with fail
    refine HC.out.mono ?_
    rintro e w1 ⟨v, rfl, hown, hb⟩
    have j1 := (hb.cell (p := ⟨b, off + q, none⟩) hbb).trans kl
    clear hown
    go_wp2
    go_ret2
    exact ⟨rfl, hb⟩

theorem top_bits : ∀ x : Fin 256, x.val ≠ 0 → ∀ j : Fin 8, (j.val + 1 = Lib.bitLen x.val → (x.val / 2 ^ j.val % 2 == 1) = true) ∧ (Lib.bitLen x.val < j.val + 1 → (x.val / 2 ^ j.val % 2 == 1) = false) := by decide +kernel

theorem row_last {bs : List Nat} {n x : Nat} (hn : n = bs.length) (hx : bs[n - 1]? = some x) (h0 : 0 < n) (j : Nat) (hj : j < 8) : (rowOf bs)[8 * (n - 1) + j]? = some (x / 2 ^ j % 2 == 1) := by
  have e : rowOf bs = rowOf (bs.take (n - 1)) ++ bitsOf x 8 := by
    rw [← rowOf_snoc hx, show n - 1 + 1 = n by omega, List.take_of_length_le (by omega)]
  have hl : (rowOf (bs.take (n - 1))).length = 8 * (n - 1) := by rw [rowOf_length, List.length_take]; omega
  rw [e, List.getElem?_append_right (by omega), hl, show 8 * (n - 1) + j - 8 * (n - 1) = j by omega, bitsOf_at _ _ _ hj]

set_option maxHeartbeats 2000000 in
theorem rback_ok (A : Option Addr) (n c : Nat) (bs : List Nat) (w : World) (hr : Reads w w.heap.size 1 A n (u8s bs)) (h8 : ∀ x ∈ bs, x < 256) (hn : n = bs.length) (h0 : bs.getLastD 0 ≠ 0) (hm : n ≤ 10000000) {T : Nat} (hT : T + 9 = 8 * n + Lib.bitLen (bs.getLastD 0)) :
    Calls Try.prog 13 #[.slice A n c] w fun e w' => ∃ g, e = .returned (.tuple #[.pointer (some ⟨g, 0, none⟩), .int .i64 0]) ∧ Rf w' w.heap.size w'.heap.size g (seg (leN bs) 0 T) 0 ∧ Below w.heap.size w w' := by
  have HC := hide (row_any A n c bs w hr h8 hn (by omega))
  have hz : 0 < n := by
    rcases Nat.eq_zero_or_pos n with hz | hz
    · rw [hz] at hn
      have := List.eq_nil_of_length_eq_zero hn.symm
      subst this
      exact absurd rfl h0
    · exact hz
  obtain ⟨b, off, rfl, hbb, hcell⟩ := hr.open_ hz (by omega)
  have hl := last_of hn hz
  obtain ⟨x, hx⟩ : ∃ x, x = bs.getLastD 0 := ⟨_, rfl⟩
  rw [← hx] at hl h0 hT
  have hx8 := h8 x (List.mem_of_getElem? hl)
  have kl := hcell (n - 1) (.int .u8 (x : Int)) (by simp [u8s, hl])
  have hbl : Lib.bitLen x ≤ 8 := Lib.bitLen_le8 ⟨x, hx8⟩
  have hpos : 0 < Lib.bitLen x := by
    unfold Lib.bitLen
    rw [show (64 : Nat) = 63 + 1 from rfl, Lib.bitLenAux, if_neg h0]
    omega
  have htop := top_bits ⟨x, hx8⟩ h0
  have hTrue : (rowOf bs)[T]? = some true := by
    have := row_last hn hl hz (Lib.bitLen x - 1) (by omega)
    rw [(htop ⟨Lib.bitLen x - 1, by omega⟩).1 (by show Lib.bitLen x - 1 + 1 = Lib.bitLen x; omega)] at this
    rw [← this]; congr 1; omega
  have hFalse : ∀ q, T < q → q < 8 * n → (rowOf bs)[q]? = some false := by
    intro q h1 h2
    have := row_last hn hl hz (q - 8 * (n - 1)) (by omega)
    rw [(htop ⟨q - 8 * (n - 1), by omega⟩).2 (by show Lib.bitLen x < q - 8 * (n - 1) + 1; omega)] at this
    rw [← this]; congr 1; omega
  have HTR := hide hTrue
  have HFA := hide hFalse
  have hTn : T < 8 * n := by omega
  have HE := hide (show seg (leN bs) 0 T = (rowOf bs).take T by
    rw [rowOf_eq bs h8, bitsOf_take _ _ _ (by omega)]; unfold seg; simp)
  have HL := hide (show 8 * n = (rowOf bs).length by rw [rowOf_length, hn])
  have hw1 : IntKind.i64.wrap ((n : Int) - 1) = ((n - 1 : Nat) : Int) := by rw [IntWalk.i64_in _ (by omega)]; omega
  have hnn : ¬ (n : Int) = 0 := by omega
  have hx0 : ¬ (x : Int) = 0 := by omega
  have hx0b : ((x : Int) == 0) = false := by simp; omega
  have hnnb : ((n : Int) == 0) = false := by simp; omega
  have hb1 : ((n - 1 : Nat) : Int) < (n : Int) := by omega
  obtain ⟨q, hq⟩ : ∃ q, q = n - 1 := ⟨_, rfl⟩
  rw [← hq] at kl hw1 hb1
  have hq0 : (0 : Int) ≤ (q : Int) := by omega
  clear hr hn h0 hl hcell hq h8 hT hx hbl hpos htop hTrue hFalse
  go_enter Try.func13, Try.ntmps13
  go_wp2_with fail
  refine HC.out.mono ?_
  rintro e w1 ⟨v, rfl, hown, hb⟩
  have j1 := (hb.cell (p := ⟨b, off + q, none⟩) hbb).trans kl
  obtain ⟨A1, c1, rfl⟩ := own_form hown
  have hc1 := own_cap hown
  have HRD := hide (Reads.of_own hown)
  have HX := hide (rf_new hown hb HL.out (m := T) (by omega) (by omega))
  clear hown hb
  obtain ⟨M, hM⟩ : ∃ M, M = 8 * n := ⟨_, rfl⟩
  rw [← hM] at HFA hTn HRD hc1 ⊢
  have hMs : M ≤ 80000000 := by omega
  clear hM
  go_wp2_with fail
  go_loop [4] (fun l => ∃ n' : Nat, T + 1 ≤ n' ∧ n' ≤ M ∧ l = .slice A1 n' c1) (fun l => lenOf l)
  case atStart => exact ⟨M, by omega, Nat.le_refl _, rfl⟩
  case round =>
    obtain ⟨n', h1, h2, rfl⟩ := hrel
    have hwn : IntKind.i64.wrap ((n' : Int) - 1) = ((n' - 1 : Nat) : Int) := by rw [IntWalk.i64_in _ (by omega)]; omega
    obtain ⟨p, hp⟩ : ∃ p, p + 1 = n' := ⟨n' - 1, by omega⟩
    obtain ⟨b2, off2, y, rfl, hb2, ky, hy⟩ := bool_cells HRD.out (k := p) (by omega)
    have hpn : (p : Int) < (n' : Int) := by omega
    rw [show n' - 1 = p by omega] at hwn
    have hp0 : (0 : Int) ≤ (p : Int) := by omega
    have hpc : (p : Int) ≤ (c1 : Int) := by omega
    by_cases hpT : p = T
    · have hyt : y = true := by rw [hpT, HTR.out] at hy; simpa using hy.symm
      subst hyt
      subst hpT
      clear hy hp
      go_wp2
      go_ret2
      have hx := HX.out
      exact ⟨w1.heap.size, rfl, by rw [HE.out, size_alloc_w]; exact hx.1, hx.2⟩
    · have hyf : y = false := by rw [HFA.out p (by omega) (by omega)] at hy; simpa using hy.symm
      subst hyf
      have HP := hide hp
      clear hy hp
      go_wp2
      go_round
      case rel => exact ⟨p, by have := HP.out; omega, by have := HP.out; omega, rfl⟩
      case measure => have := HP.out; simp [lenOf]; try omega
end Go.Proofs.Ytifolinoadllbaa
