/- Bits, Row, Value of the reference model's package portmanteauref02 walked. -/
import Derived.Test.YtifolinoadllbaaL3Own
namespace Go.Proofs.Ytifolinoadllbaa
open Go.RowKit
set_option linter.unusedVariables false

theorem info_bool : (Try.prog.info? 4).map (fun i => (i.zero, i.size, i.bytes)) = some (some (.bool false), 1, 1) := by kernel_rfl

/-- The low n bits of v, the least significant first. -/
def bitsOf (v n : Nat) : List Bool := (List.range n).map fun i => v / 2 ^ i % 2 == 1
def bools (l : List Bool) : List Value := l.map Value.bool

theorem bitsOf_succ (v k : Nat) : bitsOf v (k + 1) = bitsOf v k ++ [v / 2 ^ k % 2 == 1] := by simp [bitsOf, List.range_succ]
theorem bitsOf_length (v k : Nat) : (bitsOf v k).length = k := by simp [bitsOf]

set_option maxHeartbeats 400000 in
theorem bits_any (v n : Int) (w : World) (hv : 0 ≤ v) (hv' : v < 18446744073709551616) (hn : 0 ≤ n) (hn' : n ≤ 64) :
    Calls Try.prog 42 #[.int .u64 v, .int .i64 n] w fun e w' => ∃ u, e = .returned u ∧ w'.ownsRow w.heap.size 4 1 u n.toNat (bools (bitsOf v.toNat n.toNat)) ∧ Below w.heap.size w w' := by
  obtain ⟨n, rfl⟩ := Int.eq_ofNat_of_zero_le hn
  obtain ⟨v, rfl⟩ := Int.eq_ofNat_of_zero_le hv
  obtain ⟨i0, hi, hz0, hz1, hz2⟩ := info_parts info_bool
  simp only [Int.toNat_natCast]
  go_enter Try.func42, Try.ntmps42
  go_wp2
  go_loopw [0, 5, 6] (fun x out i wr => ∃ k : Nat, k ≤ n ∧ i = .int .i64 k ∧ x = .int .u64 ((v / 2 ^ k : Nat) : Int) ∧ wr.ownsRow w.heap.size 4 1 out k (bools (bitsOf v k)) ∧ Below w.heap.size w wr) (fun _ _ i _ => n - (intOf i).toNat)
  case atStart => exact ⟨0, Nat.zero_le _, rfl, by simp, World.ownsRow_nil _ _ _ _, Below.refl _ _⟩
  case round =>
    obtain ⟨k, hk, rfl, rfl, hown, hb⟩ := hrel
    obtain ⟨y, hy⟩ : ∃ y, y = v / 2 ^ k := ⟨_, rfl⟩
    have hyv : y < 18446744073709551616 := by have : v / 2 ^ k ≤ v := Nat.div_le_self _ _; omega
    rw [← hy]
    have HY := hide hy
    have hsz := hb.size
    have HB := hide hb
    clear hy hb hv'
    by_cases hlt : k < n
    · go_wp2_with (at_builtin; refine wpList_append_any _ rfl (.tmp 12) (.tmp 16) _ rfl w.heap.size 4 i0 _ 1 1 Try.underlying40 hi hz0 hz1 hz2 rfl (by omega) u5 k _ rfl (hown.alloc _) (wr.heap.size + 1) (some ⟨wr.heap.size, 0, none⟩) 1 1 [.bool ((y : Int) % 2 == 1)] rfl (reads_new wr _ _) (by simp [Value.oneCell']) (by unfold maxLen; omega) (by omega) (by simp; omega) ?_; intro v' w3 hown3 hg3 hat)
      go_roundw
      case rel =>
        have hlt := hown.lt
        refine ⟨k + 1, by omega, by go_num, by rw [Nat.pow_succ, ← Nat.div_div_eq_div_mul, ← HY.out]; go_num, ?_, ?_⟩
        · rw [bitsOf_succ, bools, List.map_append, ← HY.out]
          simp only [List.map_cons, List.map_nil]
          have e : ((y : Int) % 2 == 1) = (y % 2 == 1) := by rw [Bool.eq_iff_iff]; simp; omega
          rw [e] at hown3
          exact hown3
        · exact HB.out.trans ((Chg.grown ((Chg.refl (fun b => w.heap.size ≤ b) wr).alloc _) hg3 (fun j hj => .inl (hlt j hj).1)).below (fun _ h => h) hsz)
      case measure => simp [intOf]; omega
    · obtain rfl : n = k := by omega
      go_wp2
      go_ret
      exact ⟨_, rfl, hown, HB.out⟩
/-- The number with these bits, the least significant first. -/
def natOf : List Bool → Nat
  | [] => 0
  | b :: l => b.toNat + 2 * natOf l

theorem natOf_append (a b : List Bool) : natOf (a ++ b) = natOf a + 2 ^ a.length * natOf b := by
  induction a with
  | nil => simp [natOf]
  | cons x xs ih =>
    simp only [List.cons_append, natOf, ih, List.length_cons, Nat.pow_succ]
    have : 2 ^ xs.length * 2 * natOf b = 2 * (2 ^ xs.length * natOf b) := by rw [Nat.mul_comm (2 ^ xs.length) 2, Nat.mul_assoc]
    omega
theorem natOf_lt (l : List Bool) : natOf l < 2 ^ l.length := by
  induction l with
  | nil => simp [natOf]
  | cons x xs ih =>
    simp only [natOf, List.length_cons, Nat.pow_succ]
    have : x.toNat ≤ 1 := by cases x <;> simp
    omega
theorem natOf_snoc (l : List Bool) (b : Bool) : natOf (l ++ [b]) = natOf l + b.toNat * 2 ^ l.length := by
  rw [natOf_append]; simp only [natOf, Nat.mul_zero, Nat.add_zero]; rw [Nat.mul_comm]

theorem natOf_bitsOf (v n : Nat) : natOf (bitsOf v n) = v % 2 ^ n := by
  induction n with
  | zero => simp [bitsOf, natOf, Nat.mod_one]
  | succ n ih =>
    rw [bitsOf_succ, natOf_snoc, ih, bitsOf_length, Nat.pow_succ, Nat.mod_mul]
    congr 1
    rw [Nat.mul_comm]
    congr 1
    have := Nat.mod_two_eq_zero_or_one (v / 2 ^ n)
    rcases this with h | h <;> simp [h]

theorem natOf_inj : ∀ (a b : List Bool), a.length = b.length → natOf a = natOf b → a = b
  | [], [], _, _ => rfl
  | [], _ :: _, h, _ => by simp at h
  | _ :: _, [], h, _ => by simp at h
  | x :: a, y :: b, h, hn => by
    simp only [natOf] at hn
    have hx : x.toNat < 2 := by cases x <;> simp
    have hy : y.toNat < 2 := by cases y <;> simp
    have h1 : x.toNat = y.toNat := by omega
    have h2 : natOf a = natOf b := by omega
    have h3 : x = y := by cases x <;> cases y <;> simp_all
    rw [h3, natOf_inj a b (by simpa using h) h2]

theorem leN_pack (L N : Nat) (h : N < 2 ^ L) : leN (pack L N) = N := by
  have key : ∀ (k : Nat), leN ((List.range k).map fun i => N / 256 ^ i % 256) = N % 256 ^ k := by
    intro k
    induction k with
    | zero => simp [leN, Nat.mod_one]
    | succ k ih =>
      rw [List.range_succ, List.map_append, leN_append, ih]
      simp only [List.map_cons, List.map_nil, leN, List.length_map, List.length_range, Nat.mul_zero, Nat.add_zero]
      rw [Nat.pow_succ, Nat.mod_mul]
  unfold pack
  rw [key, pow_256]
  refine Nat.mod_eq_of_lt (Nat.lt_of_lt_of_le h (Nat.pow_le_pow_right (by omega) (by omega)))

/-- Closed streams are equal if and only if the bits are. -/

theorem bitsOf_at (v n i : Nat) (h : i < n) : (bitsOf v n)[i]? = some (v / 2 ^ i % 2 == 1) := by simp [bitsOf, h]
theorem bitsOf_drop (v n k : Nat) : (bitsOf v n).drop k = bitsOf (v / 2 ^ k) (n - k) := by
  apply List.ext_getElem?
  intro i
  rw [List.getElem?_drop]
  by_cases h : i < n - k
  · rw [bitsOf_at _ _ _ (by omega), bitsOf_at _ _ _ h, Nat.div_div_eq_div_mul, Nat.pow_add]
  · rw [List.getElem?_eq_none (by rw [bitsOf_length]; omega), List.getElem?_eq_none (by rw [bitsOf_length]; omega)]
theorem bitsOf_take (v n k : Nat) (h : k ≤ n) : (bitsOf v n).take k = bitsOf v k := by
  apply List.ext_getElem?
  intro i
  rw [List.getElem?_take]
  by_cases hi : i < k
  · rw [if_pos hi, bitsOf_at _ _ _ (by omega), bitsOf_at _ _ _ hi]
  · rw [if_neg hi, List.getElem?_eq_none (by rw [bitsOf_length]; omega)]

/-- The bits of bytes. -/
def rowOf (bs : List Nat) : List Bool := bs.flatMap fun b => bitsOf b 8
theorem rowOf_length (bs : List Nat) : (rowOf bs).length = 8 * bs.length := by
  induction bs with
  | nil => rfl
  | cons b bs ih =>
    have e : rowOf (b :: bs) = bitsOf b 8 ++ rowOf bs := rfl
    rw [e, List.length_append, ih, bitsOf_length, List.length_cons]
    omega
theorem rowOf_nat (bs : List Nat) (h : ∀ b ∈ bs, b < 256) : natOf (rowOf bs) = leN bs := by
  induction bs with
  | nil => rfl
  | cons b bs ih =>
    have e : rowOf (b :: bs) = bitsOf b 8 ++ rowOf bs := rfl
    have hb := h b (by simp)
    rw [e, natOf_append, ih (fun x hx => h x (by simp [hx])), natOf_bitsOf, bitsOf_length, Nat.mod_eq_of_lt (by omega)]
    rfl
theorem rowOf_eq (bs : List Nat) (h : ∀ b ∈ bs, b < 256) : rowOf bs = bitsOf (leN bs) (8 * bs.length) := by
  apply natOf_inj
  · rw [rowOf_length, bitsOf_length]
  · rw [rowOf_nat bs h, natOf_bitsOf, ← pow_256, Nat.mod_eq_of_lt (leN_lt bs h)]
theorem rowOf_snoc {bs : List Nat} {k x : Nat} (h : bs[k]? = some x) : rowOf (bs.take (k + 1)) = rowOf (bs.take k) ++ bitsOf x 8 := by
  rw [List.take_add_one, h]
  simp [rowOf]

theorem bools_one (l : List Bool) : ∀ u ∈ bools l, u.oneCell' = true := by
  intro u hu
  obtain ⟨b, _, rfl⟩ := List.mem_map.1 hu
  rfl

set_option maxHeartbeats 2000000 in
theorem row_any (A : Option Addr) (n c : Nat) (bs : List Nat) (w : World) (hr : Reads w w.heap.size 1 A n (u8s bs)) (h8 : ∀ x ∈ bs, x < 256) (hn : n = bs.length) (hm : n ≤ 100000000) :
    Calls Try.prog 35 #[.slice A n c] w fun e w' => ∃ u, e = .returned u ∧ w'.ownsRow w.heap.size 4 1 u (8 * n) (bools (rowOf bs)) ∧ Below w.heap.size w w' := by
  obtain ⟨i0, hi, hz0, hz1, hz2⟩ := info_parts info_bool
  have HR := hide hr
  have HN := hide hn
  have H8 := hide h8
  clear hr hn h8
  go_enter Try.func35, Try.ntmps35
  go_wp2
  go_loopw [3, 4] (fun out i wr => ∃ k : Nat, k ≤ n ∧ i = .int .i64 k ∧ wr.ownsRow w.heap.size 4 1 out (8 * k) (bools (rowOf (bs.take k))) ∧ Below w.heap.size w wr) (fun _ i _ => n - (intOf i).toNat)
  case atStart => exact ⟨0, Nat.zero_le _, rfl, World.ownsRow_nil _ _ _ _, Below.refl _ _⟩
  case round =>
    obtain ⟨k, hk, rfl, hown, hb⟩ := hrel
    have HB := hide hb
    have HO := hide hown
    have HS := hide hb.size
    clear hb hown
    by_cases hlt : k < n
    · obtain ⟨b, off, x, rfl, hbb, k0, hx⟩ := byte_cells (HR.out.below HB.out) hlt
      have hx256 := H8.out x (List.mem_of_getElem? hx)
      have HX := hide hx
      have hkn : (k : Int) < (n : Int) := by omega
      clear hx
      go_wp2_with fail
      refine (bits_any (x : Int) 8 wr (by omega) (by omega) (by omega) (by omega)).mono ?_
      rintro e w1 ⟨u, rfl, hown1, hb1⟩
      obtain ⟨A1, c1, rfl⟩ := own_form hown1
      have HRD := hide (Reads.of_own hown1)
      have HO1 := hide (own_below HO.out hb1)
      have HB1 := hide (HB.out.trans (hb1.mono HB.out.size))
      have HS1 := hide (Nat.le_trans HS.out hb1.size)
      rw [Int.toNat_natCast, show (8 : Int).toNat = 8 from rfl] at HRD
      rw [show (8 : Int).toNat = 8 from rfl]
      clear hown1 hb1
      go_wp2_with (first
        | (at_builtin; refine wpList_append_any _ rfl (.tmp 11) (.tmp 17) _ rfl w.heap.size 4 i0 _ 1 1 Try.underlying40 hi hz0 hz1 hz2 rfl Nat.zero_lt_one _ (8 * k) _ rfl HO1.out w1.heap.size A1 8 c1 _ rfl HRD.out (bools_one _) (by unfold maxLen; omega) (by omega) HS1.out ?_; intro v' w3 hown3 hg3 hat)
        | fail)
      go_roundw
      case rel =>
        have hlt := HO1.out.lt
        have e1 : 8 * (k + 1) = 8 * k + 8 := by omega
        have e2 : bools (rowOf (bs.take (k + 1))) = bools (rowOf (bs.take k)) ++ bools (bitsOf x 8) := by rw [rowOf_snoc HX.out]; simp [bools]
        rw [← e1, ← e2] at hown3
        first
        | exact ⟨k + 1, by omega, by go_num, hown3, HB1.out.grown hg3 HS1.out (fun j hj => (hlt j hj).1)⟩
        | ((repeat apply Exists.intro); exact ⟨⟨k + 1, by omega, by go_num, hown3, HB1.out.grown hg3 HS1.out (fun j hj => (hlt j hj).1)⟩, rfl⟩)
      case measure => simp [intOf]; omega
    · obtain rfl : k = n := by omega
      go_wp2
      go_ret
      have ho := HO.out
      rw [List.take_of_length_le (by have := HN.out; omega)] at ho
      exact ⟨_, rfl, ho, HB.out⟩

theorem natOf_drop {L : List Bool} {q : Nat} {b : Bool} (h : L[q]? = some b) : natOf (L.drop q) = b.toNat + 2 * natOf (L.drop (q + 1)) := by
  obtain ⟨hq, e⟩ := List.getElem?_eq_some_iff.1 h
  rw [List.drop_eq_getElem_cons hq, e]
  rfl
theorem bool_cells {w : World} {B n : Nat} {A : Option Addr} {l : List Bool} (h : Reads w B 1 A n (bools l)) {k : Nat} (hk : k < n) :
    ∃ b off x, A = some ⟨b, off, none⟩ ∧ b < B ∧ w.cell? ⟨b, off + k, none⟩ = some (.bool x) ∧ l[k]? = some x := by
  obtain ⟨b, off, rfl, hb, hc⟩ := h.open_ (by omega) (by omega)
  have hl : (bools l).length = n := by have := h.1; omega
  have hkl : k < l.length := by simp [bools] at hl; omega
  refine ⟨b, off, l[k], rfl, hb, hc _ _ ?_, List.getElem?_eq_getElem hkl⟩
  simp [bools, hkl]

set_option maxHeartbeats 2000000 in
theorem value_of {B : Nat} (A : Option Addr) (n c : Nat) (L : List Bool) (w : World) (hr : Reads w B 1 A n (bools L)) (hn : n = L.length) (hm : n ≤ 64) :
    Calls Try.prog 38 #[.slice A n c] w fun e w' => e = .returned (.int .u64 ((natOf L : Nat) : Int)) ∧ w' = w := by
  have HR := hide hr
  have HN := hide hn
  have hw1 : IntKind.i64.wrap ((n : Int) - 1) = (n : Int) - 1 := IntWalk.i64_in _ (by omega)
  clear hr hn
  go_enter Try.func38, Try.ntmps38
  go_wp2
  go_loop [3, 4] (fun v i => ∃ j : Nat, j ≤ n ∧ i = .int .i64 ((j : Int) - 1) ∧ v = .int .u64 ((natOf (L.drop j) : Nat) : Int)) (fun _ i => (intOf i + 1).toNat)
  case atStart => exact ⟨n, Nat.le_refl _, rfl, by rw [HN.out, List.drop_length]; rfl⟩
  case round =>
    obtain ⟨j, hj, rfl, rfl⟩ := hrel
    rcases j with _ | q
    · have hm1 : ((0 : Nat) : Int) - 1 = -1 := by omega
      rw [hm1]
      clear hm1
      go_wp2
      go_ret
      exact ⟨rfl, rfl⟩
    · have hm1 : ((q + 1 : Nat) : Int) - 1 = (q : Int) := by omega
      rw [hm1]
      obtain ⟨b, off, x, rfl, hbb, k0, hx⟩ := bool_cells HR.out (k := q) (by omega)
      have hqn : (q : Int) < (n : Int) := by omega
      have hlt := natOf_lt (L.drop (q + 1))
      rw [List.length_drop, ← HN.out] at hlt
      have hp : 2 ^ (n - (q + 1)) ≤ 2 ^ 63 := Nat.pow_le_pow_right (by omega) (by omega)
      have hp63 : (2 : Nat) ^ 63 = 9223372036854775808 := by decide
      have HD := hide (natOf_drop hx)
      obtain ⟨y, hy⟩ : ∃ y, y = natOf (L.drop (q + 1)) := ⟨_, rfl⟩
      rw [← hy] at HD hlt ⊢
      have hyb : y < 9223372036854775808 := by omega
      have hw2 : IntKind.u64.wrap (2 * (y : Int)) = 2 * (y : Int) := by rw [IntKind.wrap_u64]; omega
      have hw3 : IntKind.u64.wrap (2 * (y : Int) + 1) = 2 * (y : Int) + 1 := by rw [IntKind.wrap_u64]; omega
      have hw4 : IntKind.i64.wrap ((q : Int) - 1) = (q : Int) - 1 := IntWalk.i64_in _ (by omega)
      clear hm1 hlt hp hp63 hx hy
      cases x
      · go_wp2
        go_round
        case rel => exact ⟨q, by omega, rfl, by rw [HD.out]; congr 1; simp⟩
        case measure => simp [intOf]; try omega
      · go_wp2
        go_round
        case rel => exact ⟨q, by omega, rfl, by rw [HD.out]; congr 1; simp; omega⟩
        case measure => simp [intOf]; try omega
end Go.Proofs.Ytifolinoadllbaa
