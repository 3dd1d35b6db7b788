/- Texts put together: RfA, RfB, RfC, RfD. -/
import Derived.Test.YtemiaagaggjbiaaRefM
import Derived.Test.YtemiaagaggjbiaaL3M
import Derived.Deep.RegionHeld3
import Derived.Deep.DrawnRows
namespace Go.Proofs.Ytemiaagaggjbiaa
section
set_option maxRecDepth 8000
open Go.RowKit
set_option linter.unusedVariables false

theorem natOf_bitsOf (v n : Nat) : natOf (bitsOf v n) = v % 2 ^ n := by
  induction n with
  | zero => simp [bitsOf, natOf, Nat.mod_one]
  | succ n ih =>
    rw [bitsOf_succ, natOf_snoc, ih, bitsOf_length, Nat.pow_succ, Nat.mod_mul]
    congr 1
    rw [Nat.mul_comm]
    congr 1
    have := Nat.mod_two_eq_zero_or_one (v / 2 ^ n)
    rcases this with h | h <;> simp [h]

theorem natOf_inj : ∀ (a b : List Bool), a.length = b.length → natOf a = natOf b → a = b
  | [], [], _, _ => rfl
  | [], _ :: _, h, _ => by simp at h
  | _ :: _, [], h, _ => by simp at h
  | x :: a, y :: b, h, hn => by
    simp only [natOf] at hn
    have hx : x.toNat < 2 := by cases x <;> simp
    have hy : y.toNat < 2 := by cases y <;> simp
    have h1 : x.toNat = y.toNat := by omega
    have h2 : natOf a = natOf b := by omega
    have h3 : x = y := by cases x <;> cases y <;> simp_all
    rw [h3, natOf_inj a b (by simpa using h) h2]

theorem leN_pack (L N : Nat) (h : N < 2 ^ L) : leN (pack L N) = N := by
  have key : ∀ (k : Nat), leN ((List.range k).map fun i => N / 256 ^ i % 256) = N % 256 ^ k := by
    intro k
    induction k with
    | zero => simp [leN, Nat.mod_one]
    | succ k ih =>
      rw [List.range_succ, List.map_append, leN_append, ih]
      simp only [List.map_cons, List.map_nil, leN, List.length_map, List.length_range, Nat.mul_zero, Nat.add_zero]
      rw [Nat.pow_succ, Nat.mod_mul]
  unfold pack
  rw [key, pow_256]
  refine Nat.mod_eq_of_lt (Nat.lt_of_lt_of_le h (Nat.pow_le_pow_right (by omega) (by omega)))

/-- Closed streams are equal if and only if the bits are. -/

theorem bitsOf_at (v n i : Nat) (h : i < n) : (bitsOf v n)[i]? = some (v / 2 ^ i % 2 == 1) := by simp [bitsOf, h]
theorem bitsOf_drop (v n k : Nat) : (bitsOf v n).drop k = bitsOf (v / 2 ^ k) (n - k) := by
  apply List.ext_getElem?
  intro i
  rw [List.getElem?_drop]
  by_cases h : i < n - k
  · rw [bitsOf_at _ _ _ (by omega), bitsOf_at _ _ _ h, Nat.div_div_eq_div_mul, Nat.pow_add]
  · rw [List.getElem?_eq_none (by rw [bitsOf_length]; omega), List.getElem?_eq_none (by rw [bitsOf_length]; omega)]
theorem bitsOf_take (v n k : Nat) (h : k ≤ n) : (bitsOf v n).take k = bitsOf v k := by
  apply List.ext_getElem?
  intro i
  rw [List.getElem?_take]
  by_cases hi : i < k
  · rw [if_pos hi, bitsOf_at _ _ _ (by omega), bitsOf_at _ _ _ hi]
  · rw [if_neg hi, List.getElem?_eq_none (by rw [bitsOf_length]; omega)]

/-- The bits of bytes. -/
def rowOf (bs : List Nat) : List Bool := bs.flatMap fun b => bitsOf b 8
theorem rowOf_length (bs : List Nat) : (rowOf bs).length = 8 * bs.length := by
  induction bs with
  | nil => rfl
  | cons b bs ih =>
    have e : rowOf (b :: bs) = bitsOf b 8 ++ rowOf bs := rfl
    rw [e, List.length_append, ih, bitsOf_length, List.length_cons]
    omega
theorem rowOf_nat (bs : List Nat) (h : ∀ b ∈ bs, b < 256) : natOf (rowOf bs) = leN bs := by
  induction bs with
  | nil => rfl
  | cons b bs ih =>
    have e : rowOf (b :: bs) = bitsOf b 8 ++ rowOf bs := rfl
    have hb := h b (by simp)
    rw [e, natOf_append, ih (fun x hx => h x (by simp [hx])), natOf_bitsOf, bitsOf_length, Nat.mod_eq_of_lt (by omega)]
    rfl
theorem rowOf_eq (bs : List Nat) (h : ∀ b ∈ bs, b < 256) : rowOf bs = bitsOf (leN bs) (8 * bs.length) := by
  apply natOf_inj
  · rw [rowOf_length, bitsOf_length]
  · rw [rowOf_nat bs h, natOf_bitsOf, ← pow_256, Nat.mod_eq_of_lt (leN_lt bs h)]
theorem rowOf_snoc {bs : List Nat} {k x : Nat} (h : bs[k]? = some x) : rowOf (bs.take (k + 1)) = rowOf (bs.take k) ++ bitsOf x 8 := by
  rw [List.take_add_one, h]
  simp [rowOf]

set_option maxHeartbeats 2000000 in
theorem row_any (A : Option Addr) (n c : Nat) (bs : List Nat) (w : World) (hr : Reads w w.heap.size 1 A n (u8s bs)) (h8 : ∀ x ∈ bs, x < 256) (hn : n = bs.length) (hm : n ≤ 100000000) :
    Calls Try.prog 41 #[.slice A n c] w fun e w' => ∃ u, e = .returned u ∧ w'.ownsRow w.heap.size 4 1 u (8 * n) (bools (rowOf bs)) ∧ Below w.heap.size w w' := by
  obtain ⟨i0, hi, hz0, hz1, hz2⟩ := info_parts info_bool
  have HR := hide hr
  have HN := hide hn
  have H8 := hide h8
  clear hr hn h8
  go_enter Try.func41, Try.ntmps41
  go_wp2
  go_loopw [3, 4] (fun out i wr => ∃ k : Nat, k ≤ n ∧ i = .int .i64 k ∧ wr.ownsRow w.heap.size 4 1 out (8 * k) (bools (rowOf (bs.take k))) ∧ Below w.heap.size w wr) (fun _ i _ => n - (intOf i).toNat)
  case atStart => exact ⟨0, Nat.zero_le _, rfl, World.ownsRow_nil _ _ _ _, Below.refl _ _⟩
  case round =>
    obtain ⟨k, hk, rfl, hown, hb⟩ := hrel
    have HB := hide hb
    have HO := hide hown
    have HS := hide hb.size
    clear hb hown
    by_cases hlt : k < n
    · obtain ⟨b, off, x, rfl, hbb, k0, hx⟩ := byte_cells (HR.out.below HB.out) hlt
      have hx256 := H8.out x (List.mem_of_getElem? hx)
      have HX := hide hx
      have hkn : (k : Int) < (n : Int) := by omega
      clear hx
      go_wp2_with fail
      refine (bits_any (x : Int) 8 wr (by omega) (by omega) (by omega) (by omega)).mono ?_
      rintro e w1 ⟨u, rfl, hown1, hb1⟩
      obtain ⟨A1, c1, rfl⟩ := own_form hown1
      have HRD := hide (Reads.of_own hown1)
      have HO1 := hide (own_below HO.out hb1)
      have HB1 := hide (HB.out.trans (hb1.mono HB.out.size))
      have HS1 := hide (Nat.le_trans HS.out hb1.size)
      rw [Int.toNat_natCast, show (8 : Int).toNat = 8 from rfl] at HRD
      rw [show (8 : Int).toNat = 8 from rfl]
      clear hown1 hb1
      go_wp2_with (first
        | (at_builtin; refine wpList_append_any _ rfl (.tmp 11) (.tmp 17) _ rfl w.heap.size 4 i0 _ 1 1 Try.underlying41 hi hz0 hz1 hz2 rfl Nat.zero_lt_one _ (8 * k) _ rfl HO1.out w1.heap.size A1 8 c1 _ rfl HRD.out (bools_one _) (by unfold maxLen; omega) (by omega) HS1.out ?_; intro v' w3 hown3 hg3 hat)
        | fail)
      go_roundw
      case rel =>
        have hlt := HO1.out.lt
        have e1 : 8 * (k + 1) = 8 * k + 8 := by omega
        have e2 : bools (rowOf (bs.take (k + 1))) = bools (rowOf (bs.take k)) ++ bools (bitsOf x 8) := by rw [rowOf_snoc HX.out]; simp [bools]
        rw [← e1, ← e2] at hown3
        first
        | exact ⟨k + 1, by omega, by go_num, hown3, HB1.out.grown hg3 HS1.out (fun j hj => (hlt j hj).1)⟩
        | ((repeat apply Exists.intro); exact ⟨⟨k + 1, by omega, by go_num, hown3, HB1.out.grown hg3 HS1.out (fun j hj => (hlt j hj).1)⟩, rfl⟩)
      case measure => simp [intOf]; omega
    · obtain rfl : k = n := by omega
      go_wp2
      go_ret
      have ho := HO.out
      rw [List.take_of_length_le (by have := HN.out; omega)] at ho
      exact ⟨_, rfl, ho, HB.out⟩

theorem natOf_drop {L : List Bool} {q : Nat} {b : Bool} (h : L[q]? = some b) : natOf (L.drop q) = b.toNat + 2 * natOf (L.drop (q + 1)) := by
  obtain ⟨hq, e⟩ := List.getElem?_eq_some_iff.1 h
  rw [List.drop_eq_getElem_cons hq, e]
  rfl
set_option maxHeartbeats 2000000 in
theorem value_of {B : Nat} (A : Option Addr) (n c : Nat) (L : List Bool) (w : World) (hr : Reads w B 1 A n (bools L)) (hn : n = L.length) (hm : n ≤ 64) :
    Calls Try.prog 52 #[.slice A n c] w fun e w' => e = .returned (.int .u64 ((natOf L : Nat) : Int)) ∧ w' = w := by
  have HR := hide hr
  have HN := hide hn
  have hw1 : IntKind.i64.wrap ((n : Int) - 1) = (n : Int) - 1 := IntWalk.i64_in _ (by omega)
  clear hr hn
  go_enter Try.func52, Try.ntmps52
  go_wp2
  go_loop [3, 4] (fun v i => ∃ j : Nat, j ≤ n ∧ i = .int .i64 ((j : Int) - 1) ∧ v = .int .u64 ((natOf (L.drop j) : Nat) : Int)) (fun _ i => (intOf i + 1).toNat)
  case atStart => exact ⟨n, Nat.le_refl _, rfl, by rw [HN.out, List.drop_length]; rfl⟩
  case round =>
    obtain ⟨j, hj, rfl, rfl⟩ := hrel
    rcases j with _ | q
    · have hm1 : ((0 : Nat) : Int) - 1 = -1 := by omega
      rw [hm1]
      clear hm1
      go_wp2
      go_ret
      exact ⟨rfl, rfl⟩
    · have hm1 : ((q + 1 : Nat) : Int) - 1 = (q : Int) := by omega
      rw [hm1]
      obtain ⟨b, off, x, rfl, hbb, k0, hx⟩ := bool_cells HR.out (k := q) (by omega)
      have hqn : (q : Int) < (n : Int) := by omega
      have hlt := natOf_lt (L.drop (q + 1))
      rw [List.length_drop, ← HN.out] at hlt
      have hp : 2 ^ (n - (q + 1)) ≤ 2 ^ 63 := Nat.pow_le_pow_right (by omega) (by omega)
      have hp63 : (2 : Nat) ^ 63 = 9223372036854775808 := by decide
      have HD := hide (natOf_drop hx)
      obtain ⟨y, hy⟩ : ∃ y, y = natOf (L.drop (q + 1)) := ⟨_, rfl⟩
      rw [← hy] at HD hlt ⊢
      have hyb : y < 9223372036854775808 := by omega
      have hw2 : IntKind.u64.wrap (2 * (y : Int)) = 2 * (y : Int) := by rw [IntKind.wrap_u64]; omega
      have hw3 : IntKind.u64.wrap (2 * (y : Int) + 1) = 2 * (y : Int) + 1 := by rw [IntKind.wrap_u64]; omega
      have hw4 : IntKind.i64.wrap ((q : Int) - 1) = (q : Int) - 1 := IntWalk.i64_in _ (by omega)
      clear hm1 hlt hp hp63 hx hy
      cases x
      · go_wp2
        go_round
        case rel => exact ⟨q, by omega, rfl, by rw [HD.out]; congr 1; simp⟩
        case measure => simp [intOf]; try omega
      · go_wp2
        go_round
        case rel => exact ⟨q, by omega, rfl, by rw [HD.out]; congr 1; simp; omega⟩
        case measure => simp [intOf]; try omega
end

section
set_option maxRecDepth 8000
open Go.RowKit
set_option linter.unusedVariables false

/-- A Reader of the model in block g: its unread bits L, how many it has read. -/
structure RfIn (w : World) (g : Nat) (A : Option Addr) (n c : Nat) (L : List Bool) (r : Nat) : Prop where
  row : w.heap[g]? = some (.cells #[.slice A n c, .int .i64 (r : Int)] 43 (0, 0))
  reads : Reads w w.heap.size 1 A n (bools L)
  len : n = L.length
  cap : n ≤ c
  far : ∀ ad, A = some ad → ad.block ≠ g
  read : r + n ≤ 100000000

theorem RfIn.cells {w : World} {g : Nat} {A : Option Addr} {n c : Nat} {L : List Bool} {r : Nat} (h : RfIn w g A n c L r) :
    w.cell? ⟨g, 0, none⟩ = some (.slice A n c) ∧ w.cell? ⟨g, 1, none⟩ = some (.int .i64 r) := ⟨(cell_blk h.row 0).trans rfl, (cell_blk h.row 1).trans rfl⟩

theorem bools_take (L : List Bool) (k : Nat) : (bools L).take (k * 1) = bools (L.take k) := by simp [bools, List.map_take]
theorem bools_drop (L : List Bool) (k : Nat) : (bools L).drop (k * 1) = bools (L.drop k) := by simp [bools, List.map_drop]

theorem RfIn.chg {S : Nat → Prop} {w w' : World} {g : Nat} {A : Option Addr} {n c : Nat} {L : List Bool} {r : Nat} (h : RfIn w g A n c L r) (hc : Chg S w w') (hg : ¬ S g) (hA : ∀ ad, A = some ad → ¬ S ad.block) : RfIn w' g A n c L r :=
  ⟨hc.heap h.row hg, (h.reads.chg hc (Nat.le_refl _) hA).more hc.size, h.len, h.cap, h.far, h.read⟩
theorem RfIn.drewN {w : World} {g : Nat} {A : Option Addr} {n c : Nat} {L : List Bool} {r : Nat} (h : RfIn w g A n c L r) (k : Nat) : RfIn (w.drewN k) g A n c L r := ⟨h.row, h.reads, h.len, h.cap, h.far, h.read⟩

theorem RfIn.drew {w : World} {g : Nat} {A : Option Addr} {n c : Nat} {L : List Bool} {r : Nat} (h : RfIn w g A n c L r) : RfIn w.drew g A n c L r := ⟨h.row, h.reads, h.len, h.cap, h.far, h.read⟩
theorem RfIn.set {w : World} {g : Nat} {A : Option Addr} {n c : Nat} {L : List Bool} {r : Nat} (h : RfIn w g A n c L r) {A' : Option Addr} {n' c' : Nat} {L' : List Bool} {r' : Nat} {z : Int}
    (hrd : Reads w w.heap.size 1 A' n' (bools L')) (hl : n' = L'.length) (hc : n' ≤ c') (hA : ∀ ad, A' = some ad → ∃ a0, A = some a0 ∧ ad.block = a0.block) (hr : r' + n' ≤ 100000000) (hz : z = (r' : Int)) :
    RfIn ((w.setCell ⟨g, 0, none⟩ (.slice A' n' c')).setCell ⟨g, 1, none⟩ (.int .i64 z)) g A' n' c' L' r' ∧
      Chg (fun k => k = g) w ((w.setCell ⟨g, 0, none⟩ (.slice A' n' c')).setCell ⟨g, 1, none⟩ (.int .i64 z)) := by
  subst hz
  have hch : Chg (fun k => k = g) w ((w.setCell ⟨g, 0, none⟩ (.slice A' n' c')).setCell ⟨g, 1, none⟩ (.int .i64 (r' : Int))) :=
    ((Chg.refl (fun k => k = g) w).setCell (p := ⟨g, 0, none⟩) (.inl rfl) _).setCell (p := ⟨g, 1, none⟩) (.inl rfl) _
  have hfar : ∀ ad, A' = some ad → ad.block ≠ g := by
    intro ad h1 h2
    obtain ⟨a0, h3, h4⟩ := hA ad h1
    exact h.far a0 h3 (h4 ▸ h2)
  refine ⟨⟨set_blk (set_blk h.row 0 _) 1 _, ?_, hl, hc, hfar, hr⟩, hch⟩
  exact (hrd.chg hch (Nat.le_refl _) (fun ad h1 h2 => hfar ad h1 h2)).more hch.size

theorem map_block {A : Option Addr} {k : Nat} : ∀ ad, A.map (fun x => x.add k) = some ad → ∃ a0, A = some a0 ∧ ad.block = a0.block := by
  intro ad h
  obtain ⟨a0, h1, h2⟩ := Option.map_eq_some_iff.1 h
  exact ⟨a0, h1, by rw [← h2, block_of_add]⟩
theorem same_block {A : Option Addr} : ∀ ad, A = some ad → ∃ a0, A = some a0 ∧ ad.block = a0.block := fun ad h => ⟨ad, h, rfl⟩

set_option maxHeartbeats 400000 in
theorem last_bad {g : Nat} (w : World) (n : Int) (h : n < 0 ∨ (0 ≤ n ∧ 64 < n)) :
    Calls Try.prog 30 #[.pointer (some ⟨g, 0, none⟩), .int .i64 n] w fun e w' => e = .returned (.tuple #[.int .u64 0, .int .i64 2]) ∧ w' = w := by
  rcases h with h | ⟨h0, h⟩
  all_goals
    go_enter Try.func30, Try.ntmps30
    go_wp2
    go_ret2
    exact ⟨rfl, rfl⟩
set_option maxHeartbeats 400000 in
theorem last_short {g c r m : Nat} {A : Option Addr} {L : List Bool} (w : World) (hr : RfIn w g A m c L r) (n : Nat) (h64 : n ≤ 64) (hs : m < n) :
    Calls Try.prog 30 #[.pointer (some ⟨g, 0, none⟩), .int .i64 n] w fun e w' => e = .returned (.tuple #[.int .u64 0, .int .i64 14]) ∧ w' = w := by
  obtain ⟨k0, k1⟩ := hr.cells
  have h1 : ¬ (n : Int) < 0 := by omega
  have h2 : ¬ (64 : Int) < (n : Int) := by omega
  have h3 : (m : Int) < (n : Int) := by omega
  clear hr k1 h64
  go_enter Try.func30, Try.ntmps30
  go_wp2
  go_ret2
  exact ⟨rfl, rfl⟩

set_option maxHeartbeats 400000 in
theorem last_ok {g c r m t : Nat} {A : Option Addr} {L : List Bool} (w : World) (hr : RfIn w g A m c L r) (n : Nat) (h64 : n ≤ 64) (hs : t + n = m) :
    Calls Try.prog 30 #[.pointer (some ⟨g, 0, none⟩), .int .i64 n] w fun e w' =>
      e = .returned (.tuple #[.int .u64 ((natOf (L.drop t) : Nat) : Int), .int .i64 0]) ∧ (∃ A' c', RfIn w' g A' t c' (L.take t) (r + n) ∧ ∀ ad, A' = some ad → ∃ a0, A = some a0 ∧ ad.block = a0.block) ∧ Chg (fun k => k = g) w w' := by
  have hcap := hr.cap
  have hrd := hr.read
  obtain ⟨k0, k1⟩ := hr.cells
  have kf0 := frozen_blk hr.row 0
  have kf1 := frozen_blk hr.row 1
  have hcut := hr.reads.cut (show t ≤ m by omega) hr.cap
  rw [bools_drop] at hcut
  have hv := fun (c' : Nat) (j : Nat) => value_of _ (m - t) c' (L.drop t) (w.drewN j) (hcut.drewN j) (by rw [List.length_drop, ← hr.len]) (by omega)
  have hhead := hr.reads.head (show t ≤ m by omega)
  rw [bools_take] at hhead
  have HH := hide hhead
  have HLT := hide (show t = (L.take t).length by rw [List.length_take, ← hr.len]; omega)
  have HR := hide hr
  have hw1 : IntKind.i64.wrap ((r : Int) + (n : Int)) = (r : Int) + (n : Int) := IntWalk.i64_in _ (by omega)
  have hw2 : IntKind.i64.wrap ((m : Int) - (n : Int)) = (t : Int) := by rw [IntWalk.i64_in _ (by omega)]; omega
  clear hhead hcut hr
  by_cases hct : c = t
  · obtain rfl : n = 0 := by omega
    obtain rfl : m = t := by omega
    subst hct
    rw [if_pos rfl, Nat.sub_self] at hv
    rw [show ((0 : Nat) : Int) = 0 from rfl] at hw1 hw2 ⊢
    have HV := hide hv
    clear hv hs h64
    go_enter Try.func30, Try.ntmps30
    go_wp2_with fail
    go_quiet ((go_at_call 52; exact quiet_left ((HV.out _ _).mono fun e w' ⟨h1, h2⟩ => ⟨h1, h2.symm⟩)))
    go_wp2_with fail
    obtain ⟨ws, hws⟩ : ∃ ws, ws = w.drewN nq := ⟨_, rfl⟩
    rw [← hws]
    have HR1 := hide (show RfIn ws g A c c L r by rw [hws]; exact HR.out.drewN _)
    have HH1 := hide (show Reads ws ws.heap.size 1 A c (bools (L.take c)) by rw [hws]; exact HH.out.drewN _)
    have HC1 := hide (show Chg (fun k => k = g) w ws by rw [hws]; exact (Chg.refl _ w).drewN _)
    obtain ⟨j0, j1⟩ := HR1.out.cells
    have jf0 := frozen_blk HR1.out.row 0
    have jf1 := frozen_blk HR1.out.row 1
    clear hws k0 k1 kf0 kf1
    go_region
    go_wp2
    go_ret2
    have hx := HR1.out.drew.set (A' := A) (n' := c) (c' := c) HH1.out HLT.out (by omega) same_block (r' := r + 0) (z := (r : Int) + 0) (by omega) (by omega)
    exact ⟨rfl, ⟨_, _, hx.1, same_block⟩, (HC1.out.drew).trans hx.2 (fun b hb => .inl hb)⟩
  · rw [if_neg hct, Nat.mul_one] at hv
    have HV := hide hv
    clear hv
    go_enter Try.func30, Try.ntmps30
    go_wp2_with fail
    go_quiet ((go_at_call 52; exact quiet_left ((HV.out _ _).mono fun e w' ⟨h1, h2⟩ => ⟨h1, h2.symm⟩)))
    go_wp2_with fail
    obtain ⟨ws, hws⟩ : ∃ ws, ws = w.drewN nq := ⟨_, rfl⟩
    rw [← hws]
    have HR1 := hide (show RfIn ws g A m c L r by rw [hws]; exact HR.out.drewN _)
    have HH1 := hide (show Reads ws ws.heap.size 1 A t (bools (L.take t)) by rw [hws]; exact HH.out.drewN _)
    have HC1 := hide (show Chg (fun k => k = g) w ws by rw [hws]; exact (Chg.refl _ w).drewN _)
    obtain ⟨j0, j1⟩ := HR1.out.cells
    have jf0 := frozen_blk HR1.out.row 0
    have jf1 := frozen_blk HR1.out.row 1
    clear hws k0 k1 kf0 kf1
    go_region
    go_wp2
    go_ret2
    have hx := HR1.out.drew.set (A' := A) (n' := t) (c' := c) HH1.out HLT.out (by omega) same_block (r' := r + n) (z := (r : Int) + (n : Int)) (by omega) (by omega)
    exact ⟨rfl, ⟨_, _, hx.1, same_block⟩, (HC1.out.drew).trans hx.2 (fun b hb => .inl hb)⟩
end

section
set_option maxRecDepth 8000
open Go.RowKit
set_option linter.unusedVariables false

theorem ret_ii {a b c d : Int} (h : a = b) (h' : c = d) : Ending.returned (.tuple #[.int .i64 a, .int .i64 c]) = .returned (.tuple #[.int .i64 b, .int .i64 d]) := by rw [h, h']
theorem rem8 (a : Nat) : (a : Int).tmod 8 = ((a % 8 : Nat) : Int) := by
  rw [Int.tmod_eq_emod_of_nonneg (by omega)]; omega

theorem natOf_take_succ {L : List Bool} {k : Nat} {b : Bool} (h : L[k]? = some b) : natOf (L.take (k + 1)) = natOf (L.take k) + b.toNat * 2 ^ k := by
  obtain ⟨hk, _⟩ := List.getElem?_eq_some_iff.1 h
  rw [List.take_add_one, h, Option.toList_some, natOf_snoc, List.length_take, Nat.min_eq_left (by omega)]
theorem natOf_take_mono {L : List Bool} {k m : Nat} (h : k ≤ m) : natOf (L.take k) ≤ natOf (L.take m) := by
  rw [← List.take_append_drop k (L.take m), natOf_append, List.take_take, Nat.min_eq_left h]
  exact Nat.le_add_right _ _

/-- A slice that the call has made of one Boolean. -/
theorem own_false (w : World) (base : Nat) (h : base ≤ w.heap.size) : (w.alloc (.cells #[.bool false] 4 (0, 0))).ownsRow base 4 1 (.slice (some ⟨w.heap.size, 0, none⟩) 1 1) 1 (bools [false]) :=
  ⟨rfl, .inr ⟨w.heap.size, 1, #[.bool false], rfl, h, alloc_new w _ rfl, Nat.le_refl _, by unfold maxLen; omega, rfl, rfl⟩⟩

/-- What a Peek of k bits gives. -/
def oP (L : List Bool) (k : Nat) : Nat := if k ≤ L.length then natOf (L.drop (L.length - k)) else natOf L * 2 ^ (k - L.length)
theorem natOf_zeros (j : Nat) (L : List Bool) : natOf (List.replicate j false ++ L) = natOf L * 2 ^ j := by
  have h0 : natOf (List.replicate j false) = 0 := by
    induction j with
    | zero => rfl
    | succ j ih => rw [List.replicate_succ]; simp [natOf, ih]
  rw [natOf_append, h0, List.length_replicate, Nat.zero_add, Nat.mul_comm]

theorem own_cap {w : World} {base n c : Nat} {e : TypeId} {A : Option Addr} {xs : List Value} (h : w.ownsRow base e 1 (.slice A n c) n xs) : n ≤ c := by
  rcases h.2 with ⟨h1, h2⟩ | ⟨g, cap, cur, h1, _, _, h2, _⟩
  · omega
  · injection h1 with _ _ h3; omega

def lenOf : Value → Nat
  | .slice _ n _ => n
  | _ => 0

end

section
set_option maxRecDepth 8000
open Go.RowKit
set_option linter.unusedVariables false

/-- A Reader of the model whose blocks lie in lo .. hi-1. -/
def Rf (w : World) (lo hi g : Nat) (L : List Bool) (r : Nat) : Prop :=
  ∃ A n c, RfIn w g A n c L r ∧ lo ≤ g ∧ g < hi ∧ hi ≤ w.heap.size ∧ ∀ ad, A = some ad → lo ≤ ad.block ∧ ad.block < hi
theorem Rf.chg {S : Nat → Prop} {w w' : World} {lo hi g r : Nat} {L : List Bool} (h : Rf w lo hi g L r) (hc : Chg S w w') (hS : ∀ b, S b → b < lo ∨ hi ≤ b) : Rf w' lo hi g L r := by
  obtain ⟨A, n, c, hr, h1, h2, h3, h4⟩ := h
  exact ⟨A, n, c, hr.chg hc (fun hs => by have := hS _ hs; omega) (fun ad ha hs => by have := hS _ hs; have := h4 ad ha; omega), h1, h2, Nat.le_trans h3 hc.size, h4⟩
theorem Rf.below {w w' : World} {lo hi g r : Nat} {L : List Bool} (h : Rf w lo hi g L r) (hb : Below w.heap.size w w') : Rf w' lo hi g L r :=
  h.chg (S := fun _ => False) (.of_below hb) (fun _ h => h.elim)
theorem Rf.low {w : World} {lo lo' hi g r : Nat} {L : List Bool} (h : Rf w lo hi g L r) (hl : lo' ≤ lo) : Rf w lo' hi g L r := by
  obtain ⟨A, n, c, hr, h1, h2, h3, h4⟩ := h
  exact ⟨A, n, c, hr, Nat.le_trans hl h1, h2, h3, fun ad ha => ⟨Nat.le_trans hl (h4 ad ha).1, (h4 ad ha).2⟩⟩
theorem Rf.lt {w : World} {lo hi g r : Nat} {L : List Bool} (h : Rf w lo hi g L r) : lo ≤ g ∧ g < hi ∧ hi ≤ w.heap.size := by
  obtain ⟨A, n, c, hr, h1, h2, h3, h4⟩ := h
  exact ⟨h1, h2, h3⟩
theorem Rf.cells {w : World} {lo hi g r : Nat} {L : List Bool} (h : Rf w lo hi g L r) :
    ∃ A c, w.cell? ⟨g, 0, none⟩ = some (.slice A L.length c) ∧ w.cell? ⟨g, 1, none⟩ = some (.int .i64 r) := by
  obtain ⟨A, n, c, hr, h1, h2, h3, h4⟩ := h
  have := hr.cells
  rw [hr.len] at this
  exact ⟨A, c, this.1, this.2⟩

/-- The bits f .. t of a number. -/
def seg (N f t : Nat) : List Bool := bitsOf (N / 2 ^ f) (t - f)
theorem seg_length (N f t : Nat) : (seg N f t).length = t - f := bitsOf_length _ _
theorem seg_drop (N f t n : Nat) : (seg N f t).drop n = seg N (f + n) t := by
  unfold seg; rw [bitsOf_drop, Nat.div_div_eq_div_mul, ← Nat.pow_add, Nat.sub_sub]
theorem seg_take (N f t t' : Nat) (h : t' ≤ t) : (seg N f t).take (t' - f) = seg N f t' := by
  unfold seg; rw [bitsOf_take _ _ _ (by omega)]
theorem seg_nat (N f t : Nat) : natOf (seg N f t) = N / 2 ^ f % 2 ^ (t - f) := natOf_bitsOf _ _
theorem seg_first (N f t n : Nat) (h : f + n ≤ t) : natOf ((seg N f t).take n) = N / 2 ^ f % 2 ^ n := by
  unfold seg; rw [bitsOf_take _ _ _ (by omega), natOf_bitsOf]
theorem seg_last (N f t t' : Nat) (hf : f ≤ t') : natOf ((seg N f t).drop (t' - f)) = N / 2 ^ t' % 2 ^ (t - t') := by
  rw [seg_drop, seg_nat, show f + (t' - f) = t' by omega]
theorem seg_peek (N f t k : Nat) (h : f ≤ t) : oP (seg N f t) k = pk N f t k := by
  unfold oP pk
  rw [seg_length]
  by_cases hk : k ≤ t - f
  · rw [if_pos hk, Nat.min_eq_left hk, show t - f - k = t - k - f by omega, seg_last _ _ _ _ (by omega), show t - (t - k) = k by omega, Nat.sub_self, Nat.pow_zero, Nat.mul_one]
  · rw [if_neg hk, Nat.min_eq_right (by omega), seg_nat, show t - (t - f) = f by omega]

section
variable {w : World} {lo hi g N f t r : Nat}
theorem last_out (h : Rf w lo hi g (seg N f t) r) (hft : f ≤ t) (n : Int) :
    Calls Try.prog 30 #[.pointer (some ⟨g, 0, none⟩), .int .i64 n] w fun e w' =>
      e = .returned (.tuple #[.int .u64 (((oB N f t n).1 : Nat) : Int), .int .i64 (oB N f t n).2.1]) ∧ Rf w' lo hi g (seg N f (oB N f t n).2.2) (r + (t - (oB N f t n).2.2)) ∧ Chg (fun k => k = g) w w' := by
  have h0 := h
  obtain ⟨A, m, c, hr, h1, h2, h3, h4⟩ := h
  have hm : m = t - f := by rw [hr.len, seg_length]
  by_cases hb : n < 0 ∨ (0 ≤ n ∧ 64 < n)
  · have e : oB N f t n = (0, 2, t) := by
      unfold oB okN
      rw [if_neg (by simp; omega), if_pos (by omega)]
    rw [e]
    simp only [Nat.sub_self, Nat.add_zero]
    exact (last_bad w n hb).mono fun e w' ⟨he, hk⟩ => ⟨he, hk ▸ h0, by rw [hk]; exact Chg.refl _ _⟩
  · obtain ⟨k, rfl⟩ := Int.eq_ofNat_of_zero_le (show 0 ≤ n by omega)
    by_cases ht : f + k ≤ t
    · have e : oB N f t ((k : Nat) : Int) = (N / 2 ^ (t - k) % 2 ^ k, 0, t - k) := by
        unfold oB okN
        rw [if_pos (by simp; omega)]
        simp
      rw [e, show r + (t - (t - k)) = r + k by omega]
      refine (last_ok (t := t - k - f) w hr k (by simp at hb; omega) (by omega)).mono fun e w' ⟨he, ⟨A', c', hr', hA⟩, hc⟩ => ⟨?_, ?_, hc⟩
      · rw [seg_last N f t (t - k) (by omega), show t - (t - k) = k by omega] at he; exact he
      · rw [seg_take _ _ _ _ (by omega)] at hr'
        exact ⟨A', _, c', hr', h1, h2, Nat.le_trans h3 hc.size, fun ad ha => by obtain ⟨a0, e1, e2⟩ := hA ad ha; rw [e2]; exact h4 a0 e1⟩
    · have e : oB N f t ((k : Nat) : Int) = (0, 14, t) := by
        unfold oB okN
        rw [if_neg (by simp; omega), if_neg (by simp at hb ⊢; omega)]
      rw [e]
      simp only [Nat.sub_self, Nat.add_zero]
      exact (last_short w hr k (by simp at hb; omega) (by omega)).mono fun e w' ⟨he, hk⟩ => ⟨he, hk ▸ h0, by rw [hk]; exact Chg.refl _ _⟩
end

/-! ### The constructors -/
theorem rf_new {w w1 : World} {A1 : Option Addr} {n c1 m : Nat} {L : List Bool} (hown : w1.ownsRow w.heap.size 4 1 (.slice A1 n c1) n (bools L)) (hb : Below w.heap.size w w1) (hn : n = L.length) (hm : m ≤ n) (hs : n ≤ 100000000) :
    Rf (w1.alloc (.cells #[.slice A1 m c1, .int .i64 0] 43 (0, 0))) w.heap.size (w1.heap.size + 1) w1.heap.size (L.take m) 0 ∧
      Below w.heap.size w (w1.alloc (.cells #[.slice A1 m c1, .int .i64 0] 43 (0, 0))) := by
  have hr := (Reads.of_own hown).head hm
  rw [bools_take] at hr
  have hlt : ∀ ad, A1 = some ad → w.heap.size ≤ ad.block ∧ ad.block < w1.heap.size := by rintro ad rfl; exact hown.lt ad.block rfl
  have hc := own_cap hown
  refine ⟨⟨A1, m, c1, ⟨alloc_new w1 _ rfl, (hr.alloc (Nat.le_refl _) _).more (by simp), by rw [List.length_take]; omega, by omega, ?_, by omega⟩, hb.size, by omega, by simp, ?_⟩, hb.alloc hb.size _⟩
  · intro ad h1 h2
    have := (hlt ad h1).2
    omega
  · intro ad h1
    have := hlt ad h1
    omega

theorem rback_bad (A : Option Addr) (n c : Nat) (bs : List Nat) (w : World) (hr : Reads w w.heap.size 1 A n (u8s bs)) (h8 : ∀ x ∈ bs, x < 256) (hn : n = bs.length) (h0 : bs.getLastD 0 = 0) (hm : n ≤ 10000000) :
    Calls Try.prog 19 #[.slice A n c] w fun e w' => e = .returned (.tuple #[.pointer none, .int .i64 14]) ∧ Below w.heap.size w w' := by
  have HC := hide (row_any A n c bs w hr h8 hn (by omega))
  rcases Nat.eq_zero_or_pos n with hz | hz
  · clear hr hn h0 hm h8
    subst hz
    go_enter Try.func19, Try.ntmps19
    go_wp2_with fail
    refine HC.out.mono ?_
    rintro e w1 ⟨v, rfl, hown, hb⟩
    go_wp2
    go_ret2
    exact ⟨rfl, hb⟩
  · obtain ⟨b, off, rfl, hbb, hcell⟩ := hr.open_ hz (by omega)
    have hl := last_of hn hz
    rw [h0] at hl
    have kl := hcell (n - 1) (.int .u8 0) (by simp [u8s, hl])
    have hw1 : IntKind.i64.wrap ((n : Int) - 1) = ((n - 1 : Nat) : Int) := by rw [IntWalk.i64_in _ (by omega)]; omega
    have hnn : ¬ (n : Int) = 0 := by omega
    have hb1 : ((n - 1 : Nat) : Int) < (n : Int) := by omega
    obtain ⟨q, hq⟩ : ∃ q, q = n - 1 := ⟨_, rfl⟩
    rw [← hq] at kl hw1 hb1
    have hq0 : (0 : Int) ≤ (q : Int) := by omega
    clear hr hn h0 hl hcell hq h8
    go_enter Try.func19, Try.ntmps19
    go_wp2_with fail
    refine HC.out.mono ?_
    rintro e w1 ⟨v, rfl, hown, hb⟩
    have j1 := (hb.cell (p := ⟨b, off + q, none⟩) hbb).trans kl
    clear hown
    go_wp2
    go_ret2
    exact ⟨rfl, hb⟩

theorem top_bits : ∀ x : Fin 256, x.val ≠ 0 → ∀ j : Fin 8, (j.val + 1 = Lib.bitLen x.val → (x.val / 2 ^ j.val % 2 == 1) = true) ∧ (Lib.bitLen x.val < j.val + 1 → (x.val / 2 ^ j.val % 2 == 1) = false) := by decide +kernel

theorem row_last {bs : List Nat} {n x : Nat} (hn : n = bs.length) (hx : bs[n - 1]? = some x) (h0 : 0 < n) (j : Nat) (hj : j < 8) : (rowOf bs)[8 * (n - 1) + j]? = some (x / 2 ^ j % 2 == 1) := by
  have e : rowOf bs = rowOf (bs.take (n - 1)) ++ bitsOf x 8 := by
    rw [← rowOf_snoc hx, show n - 1 + 1 = n by omega, List.take_of_length_le (by omega)]
  have hl : (rowOf (bs.take (n - 1))).length = 8 * (n - 1) := by rw [rowOf_length, List.length_take]; omega
  rw [e, List.getElem?_append_right (by omega), hl, show 8 * (n - 1) + j - 8 * (n - 1) = j by omega, bitsOf_at _ _ _ hj]

set_option maxHeartbeats 2000000 in
theorem rback_ok (A : Option Addr) (n c : Nat) (bs : List Nat) (w : World) (hr : Reads w w.heap.size 1 A n (u8s bs)) (h8 : ∀ x ∈ bs, x < 256) (hn : n = bs.length) (h0 : bs.getLastD 0 ≠ 0) (hm : n ≤ 10000000) {T : Nat} (hT : T + 9 = 8 * n + Lib.bitLen (bs.getLastD 0)) :
    Calls Try.prog 19 #[.slice A n c] w fun e w' => ∃ g, e = .returned (.tuple #[.pointer (some ⟨g, 0, none⟩), .int .i64 0]) ∧ Rf w' w.heap.size w'.heap.size g (seg (leN bs) 0 T) 0 ∧ Below w.heap.size w w' := by
  have HC := hide (row_any A n c bs w hr h8 hn (by omega))
  have hz : 0 < n := by
    rcases Nat.eq_zero_or_pos n with hz | hz
    · rw [hz] at hn
      have := List.eq_nil_of_length_eq_zero hn.symm
      subst this
      exact absurd rfl h0
    · exact hz
  obtain ⟨b, off, rfl, hbb, hcell⟩ := hr.open_ hz (by omega)
  have hl := last_of hn hz
  obtain ⟨x, hx⟩ : ∃ x, x = bs.getLastD 0 := ⟨_, rfl⟩
  rw [← hx] at hl h0 hT
  have hx8 := h8 x (List.mem_of_getElem? hl)
  have kl := hcell (n - 1) (.int .u8 (x : Int)) (by simp [u8s, hl])
  have hbl : Lib.bitLen x ≤ 8 := Lib.bitLen_le8 ⟨x, hx8⟩
  have hpos : 0 < Lib.bitLen x := by
    unfold Lib.bitLen
    rw [show (64 : Nat) = 63 + 1 from rfl, Lib.bitLenAux, if_neg h0]
    omega
  have htop := top_bits ⟨x, hx8⟩ h0
  have hTrue : (rowOf bs)[T]? = some true := by
    have := row_last hn hl hz (Lib.bitLen x - 1) (by omega)
    rw [(htop ⟨Lib.bitLen x - 1, by omega⟩).1 (by show Lib.bitLen x - 1 + 1 = Lib.bitLen x; omega)] at this
    rw [← this]; congr 1; omega
  have hFalse : ∀ q, T < q → q < 8 * n → (rowOf bs)[q]? = some false := by
    intro q h1 h2
    have := row_last hn hl hz (q - 8 * (n - 1)) (by omega)
    rw [(htop ⟨q - 8 * (n - 1), by omega⟩).2 (by show Lib.bitLen x < q - 8 * (n - 1) + 1; omega)] at this
    rw [← this]; congr 1; omega
  have HTR := hide hTrue
  have HFA := hide hFalse
  have hTn : T < 8 * n := by omega
  have HE := hide (show seg (leN bs) 0 T = (rowOf bs).take T by
    rw [rowOf_eq bs h8, bitsOf_take _ _ _ (by omega)]; unfold seg; simp)
  have HL := hide (show 8 * n = (rowOf bs).length by rw [rowOf_length, hn])
  have hw1 : IntKind.i64.wrap ((n : Int) - 1) = ((n - 1 : Nat) : Int) := by rw [IntWalk.i64_in _ (by omega)]; omega
  have hnn : ¬ (n : Int) = 0 := by omega
  have hx0 : ¬ (x : Int) = 0 := by omega
  have hx0b : ((x : Int) == 0) = false := by simp; omega
  have hnnb : ((n : Int) == 0) = false := by simp; omega
  have hb1 : ((n - 1 : Nat) : Int) < (n : Int) := by omega
  obtain ⟨q, hq⟩ : ∃ q, q = n - 1 := ⟨_, rfl⟩
  rw [← hq] at kl hw1 hb1
  have hq0 : (0 : Int) ≤ (q : Int) := by omega
  clear hr hn h0 hl hcell hq h8 hT hx hbl hpos htop hTrue hFalse
  go_enter Try.func19, Try.ntmps19
  go_wp2_with fail
  refine HC.out.mono ?_
  rintro e w1 ⟨v, rfl, hown, hb⟩
  have j1 := (hb.cell (p := ⟨b, off + q, none⟩) hbb).trans kl
  obtain ⟨A1, c1, rfl⟩ := own_form hown
  have hc1 := own_cap hown
  have HRD := hide (Reads.of_own hown)
  have HX := hide (rf_new hown hb HL.out (m := T) (by omega) (by omega))
  clear hown hb
  obtain ⟨M, hM⟩ : ∃ M, M = 8 * n := ⟨_, rfl⟩
  rw [← hM] at HFA hTn HRD hc1 ⊢
  have hMs : M ≤ 80000000 := by omega
  clear hM
  go_wp2_with fail
  go_loop [4] (fun l => ∃ n' : Nat, T + 1 ≤ n' ∧ n' ≤ M ∧ l = .slice A1 n' c1) (fun l => lenOf l)
  case atStart => exact ⟨M, by omega, Nat.le_refl _, rfl⟩
  case round =>
    obtain ⟨n', h1, h2, rfl⟩ := hrel
    have hwn : IntKind.i64.wrap ((n' : Int) - 1) = ((n' - 1 : Nat) : Int) := by rw [IntWalk.i64_in _ (by omega)]; omega
    obtain ⟨p, hp⟩ : ∃ p, p + 1 = n' := ⟨n' - 1, by omega⟩
    obtain ⟨b2, off2, y, rfl, hb2, ky, hy⟩ := bool_cells HRD.out (k := p) (by omega)
    have hpn : (p : Int) < (n' : Int) := by omega
    rw [show n' - 1 = p by omega] at hwn
    have hp0 : (0 : Int) ≤ (p : Int) := by omega
    have hpc : (p : Int) ≤ (c1 : Int) := by omega
    by_cases hpT : p = T
    · have hyt : y = true := by rw [hpT, HTR.out] at hy; simpa using hy.symm
      subst hyt
      subst hpT
      clear hy hp
      go_wp2
      go_ret2
      have hx := HX.out
      exact ⟨w1.heap.size, rfl, by rw [HE.out, size_alloc_w]; exact hx.1, hx.2⟩
    · have hyf : y = false := by rw [HFA.out p (by omega) (by omega)] at hy; simpa using hy.symm
      subst hyf
      have HP := hide hp
      clear hy hp
      go_wp2
      go_round
      case rel => exact ⟨p, by have := HP.out; omega, by have := HP.out; omega, rfl⟩
      case measure => have := HP.out; simp [lenOf]; try omega
end

end Go.Proofs.Ytemiaagaggjbiaa
