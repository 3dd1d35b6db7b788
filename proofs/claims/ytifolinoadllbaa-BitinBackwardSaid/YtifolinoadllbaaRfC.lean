/- The reference model's Reader walked: Peek, Whole. -/
import Derived.Test.YtifolinoadllbaaRfB
namespace Go.Proofs.Ytifolinoadllbaa
open Go.RowKit
set_option linter.unusedVariables false

theorem ret_ii {a b c d : Int} (h : a = b) (h' : c = d) : Ending.returned (.tuple #[.int .i64 a, .int .i64 c]) = .returned (.tuple #[.int .i64 b, .int .i64 d]) := by rw [h, h']
theorem rem8 (a : Nat) : (a : Int).tmod 8 = ((a % 8 : Nat) : Int) := by
  rw [Int.tmod_eq_emod_of_nonneg (by omega)]; omega

theorem natOf_take_succ {L : List Bool} {k : Nat} {b : Bool} (h : L[k]? = some b) : natOf (L.take (k + 1)) = natOf (L.take k) + b.toNat * 2 ^ k := by
  obtain ⟨hk, _⟩ := List.getElem?_eq_some_iff.1 h
  rw [List.take_add_one, h, Option.toList_some, natOf_snoc, List.length_take, Nat.min_eq_left (by omega)]
theorem natOf_take_mono {L : List Bool} {k m : Nat} (h : k ≤ m) : natOf (L.take k) ≤ natOf (L.take m) := by
  rw [← List.take_append_drop k (L.take m), natOf_append, List.take_take, Nat.min_eq_left h]
  exact Nat.le_add_right _ _

set_option maxHeartbeats 2000000 in
theorem whole_walk {g c r m : Nat} {A : Option Addr} {L : List Bool} (w : World) (hr : RfIn w g A m c L r) (hg : gap r ≤ m) :
    Calls Try.prog 25 #[.pointer (some ⟨g, 0, none⟩)] w fun e w' =>
      (natOf (L.take (gap r)) = 0 ∧ e = .returned (.tuple #[.int .i64 (((r + gap r) / 8 : Nat) : Int), .int .i64 0]) ∧ (∃ A' c', RfIn w' g A' (m - gap r) c' (L.drop (gap r)) (r + gap r) ∧ ∀ ad, A' = some ad → ∃ a0, A = some a0 ∧ ad.block = a0.block) ∧ Chg (fun k => k = g) w w') ∨
      (natOf (L.take (gap r)) ≠ 0 ∧ e = .returned (.tuple #[.int .i64 0, .int .i64 14]) ∧ w' = w) := by
  have hcap := hr.cap
  have hrd := hr.read
  obtain ⟨k0, k1⟩ := hr.cells
  have kf0 := frozen_blk hr.row 0
  have kf1 := frozen_blk hr.row 1
  have HR := hide hr
  obtain ⟨d, hd⟩ : ∃ d, d = gap r := ⟨_, rfl⟩
  have hdl := gap_le r
  have hdm := gap_mod r
  have hdd : d = (8 - r % 8) % 8 := hd
  rw [← hd] at hg hdl hdm ⊢
  have hcut := hr.reads.cut hg hr.cap
  rw [bools_drop] at hcut
  have HC := hide hcut
  have HLD := hide (show m - d = (L.drop d).length by rw [List.length_drop, ← hr.len])
  have HDD := hide hdd
  have HDM := hide hdm
  clear hr hd hcut hdd hdm
  go_enter Try.func25, Try.ntmps25
  go_wp2
  go_loop [4] (fun i => ∃ k : Nat, k ≤ d ∧ i = .int .i64 k ∧ natOf (L.take k) = 0) (fun i => d - (intOf i).toNat)
  case atStart => exact ⟨0, Nat.zero_le _, rfl, rfl⟩
  case round =>
    obtain ⟨k, hk, rfl, hz⟩ := hrel
    have hw1 : IntKind.i64.wrap ((r : Int) + (k : Int)) = ((r + k : Nat) : Int) := by rw [IntWalk.i64_in _ (by omega)]; omega
    have hrem := rem8 (r + k)
    have HZ := hide hz
    clear hz
    by_cases hlt : k < d
    · have hne : (((r + k : Nat) : Int) % 8 != 0) = true := by have := HDD.out; simp; omega
      have hnp : ¬ ((r + k : Nat) : Int) % 8 = 0 := by have := HDD.out; omega
      obtain ⟨b, off, x, rfl, hbb, kx, hx⟩ := bool_cells HR.out.reads (k := k) (by omega)
      have HX := hide hx
      have hkm : (k : Int) < (m : Int) := by omega
      obtain ⟨s, hs⟩ : ∃ s, s = r + k := ⟨_, rfl⟩
      rw [← hs] at hne hw1 hnp
      clear hrem hx hs
      cases x
      · go_wp2
        go_round
        case rel => exact ⟨k + 1, by omega, by go_num, by rw [natOf_take_succ HX.out, HZ.out]; simp⟩
        case measure => simp [intOf]; try omega
      · go_wp2
        go_ret2
        refine .inr ⟨?_, rfl, rfl⟩
        have h1 := natOf_take_succ HX.out
        have h2 := natOf_take_mono (L := L) (show k + 1 ≤ d by omega)
        have h3 : 0 < 2 ^ k := Nat.pow_pos (by omega)
        rw [HZ.out] at h1
        simp at h1
        omega
    · obtain rfl : k = d := by omega
      have hne : (((r + k : Nat) : Int) % 8 != 0) = false := by have := HDM.out; simp; omega
      have hnp : ((r + k : Nat) : Int) % 8 = 0 := by have := HDM.out; omega
      have hq64 : wrap64 (((r + k : Nat) : Int) / 8) = (((r + k) / 8 : Nat) : Int) := by unfold wrap64; omega
      have hq : ((r + k : Nat) : Int).tdiv 8 = (((r + k) / 8 : Nat) : Int) := by rw [Int.tdiv_eq_ediv_of_nonneg (by omega)]; omega
      have hw2 : IntKind.i64.wrap (((r + k) / 8 : Nat) : Int) = (((r + k) / 8 : Nat) : Int) := IntWalk.i64_in _ (by omega)
      obtain ⟨s, hs⟩ : ∃ s, s = r + k := ⟨_, rfl⟩
      rw [← hs] at hne hw1 hq hw2 hq64 hnp
      have HS := hide hs
      clear hrem hs
      by_cases hcn : c = k
      · have hmn : m = k := by omega
        have HC' := HC.out
        rw [if_pos hcn] at HC'
        have HD := hide HC'
        clear HC HC'
        go_wp2
        all_goals
          go_ret2
          have hx := HR.out.set (c' := c - k) HD.out HLD.out (by omega) same_block (r' := r + k) (z := (s : Int)) (by omega) (by rw [HS.out])
          refine .inl ⟨HZ.out, ret_ii (by have := HS.out; omega) rfl, ?_⟩
          simp only [hmn, hcn, Nat.sub_self] at hx ⊢
          exact ⟨⟨_, ⟨_, hx.1⟩, same_block⟩, hx.2⟩
      · have HC' := HC.out
        rw [if_neg hcn, Nat.mul_one] at HC'
        have HD := hide HC'
        clear HC HC'
        go_wp2
        all_goals
          go_ret2
          have hx := HR.out.set (c' := c - k) HD.out HLD.out (by omega) map_block (r' := r + k) (z := (s : Int)) (by omega) (by rw [HS.out])
          refine .inl ⟨HZ.out, ret_ii (by have := HS.out; omega) rfl, ?_⟩
          exact ⟨⟨_, ⟨_, hx.1⟩, map_block⟩, hx.2⟩

/-- A slice that the call has made of one Boolean. -/
theorem own_false (w : World) (base : Nat) (h : base ≤ w.heap.size) : (w.alloc (.cells #[.bool false] 4 (0, 0))).ownsRow base 4 1 (.slice (some ⟨w.heap.size, 0, none⟩) 1 1) 1 (bools [false]) :=
  ⟨rfl, .inr ⟨w.heap.size, 1, #[.bool false], rfl, h, alloc_new w _ rfl, Nat.le_refl _, by unfold maxLen; omega, rfl, rfl⟩⟩

/-- What a Peek of k bits gives. -/
def oP (L : List Bool) (k : Nat) : Nat := if k ≤ L.length then natOf (L.drop (L.length - k)) else natOf L * 2 ^ (k - L.length)
theorem natOf_zeros (j : Nat) (L : List Bool) : natOf (List.replicate j false ++ L) = natOf L * 2 ^ j := by
  have h0 : natOf (List.replicate j false) = 0 := by
    induction j with
    | zero => rfl
    | succ j ih => rw [List.replicate_succ]; simp [natOf, ih]
  rw [natOf_append, h0, List.length_replicate, Nat.zero_add, Nat.mul_comm]

theorem own_cap {w : World} {base n c : Nat} {e : TypeId} {A : Option Addr} {xs : List Value} (h : w.ownsRow base e 1 (.slice A n c) n xs) : n ≤ c := by
  rcases h.2 with ⟨h1, h2⟩ | ⟨g, cap, cur, h1, _, _, h2, _⟩
  · omega
  · injection h1 with _ _ h3; omega

def lenOf : Value → Nat
  | .slice _ n _ => n
  | _ => 0

set_option maxRecDepth 4000 in
set_option maxHeartbeats 2000000 in
theorem rpeek_walk {g c r m k : Nat} {A : Option Addr} {L : List Bool} (w : World) (hr : RfIn w g A m c L r) (n : Int) (hc : min (max n 0) 64 = (k : Int)) (hk : k ≤ 64) :
    Calls Try.prog 15 #[.pointer (some ⟨g, 0, none⟩), .int .i64 n] w fun e w' =>
      e = .returned (.int .u64 ((oP L k : Nat) : Int)) ∧ Below w.heap.size w w' := by
  obtain ⟨i0, hi, hz0, hz1, hz2⟩ := info_parts info_bool
  have hcap := hr.cap
  have hrd := hr.read
  obtain ⟨k0, k1⟩ := hr.cells
  have HR := hide hr
  clear hr k1
  go_enter Try.func15, Try.ntmps15
  go_wp2
  clear hc
  generalize max n 0 = nm
  generalize n = nn
  go_loopw [5] (fun l wr => ∃ (j : Nat) (A' : Option Addr) (n' c' : Nat), l = .slice A' n' c' ∧ n' = j + m ∧ (0 < j → n' ≤ k) ∧ n' ≤ c' ∧ Reads wr wr.heap.size 1 A' n' (bools (List.replicate j false ++ L)) ∧ Below w.heap.size w wr) (fun l _ => k - lenOf l)
  case atStart => exact ⟨0, A, m, c, rfl, by omega, by omega, hcap, HR.out.reads, Below.refl _ _⟩
  case round =>
    obtain ⟨j, A', n', c', rfl, hn', hjk, hc', hrd', hb⟩ := hrel
    have HRD := hide hrd'
    have HB := hide hb
    have HSZ := hide hb.size
    have HN := hide hn'
    clear hrd' hb hn'
    by_cases hlt : n' < k
    · have hlt' : (n' : Int) < (k : Int) := by omega
      go_wp2_with (first
        | (at_builtin; refine wpList_append_any _ rfl (.tmp 17) (.tmp 18) _ rfl w.heap.size 4 i0 _ 1 1 Try.underlying40 hi hz0 hz1 hz2 rfl Nat.zero_lt_one (.slice (some ⟨wr.heap.size, 0, none⟩) 1 1) 1 _ rfl (own_false wr _ HSZ.out) wr.heap.size A' n' c' _ rfl (HRD.out.alloc (Nat.le_refl _) _) (bools_one _) (by unfold maxLen; omega) (by omega) (by simp; have := HSZ.out; omega) ?_; intro v' w3 hown3 hg3 hat; obtain ⟨A3, c3, rfl⟩ := own_form hown3; have HO3 := hide hown3; have HG3 := hide hg3; clear hown3 hg3 hat)
        | fail)
      go_roundw
      case rel =>
        have hap := HO3.out
        have e1 : bools [false] ++ bools (List.replicate j false ++ L) = bools (List.replicate (j + 1) false ++ L) := by rw [List.replicate_succ]; simp [bools]
        rw [e1] at hap
        have hbl : Below w.heap.size w w3 := ((Chg.grown ((Chg.refl (fun b => w.heap.size ≤ b) wr).alloc _) HG3.out (fun q hq => .inl (by injection hq with hq; rw [← hq]; exact HSZ.out))).below (fun _ h => h) HSZ.out) |> HB.out.trans
        have hn' := HN.out
        exact ⟨j + 1, A3, 1 + n', c3, rfl, by omega, by omega, own_cap hap, Reads.of_own hap, hbl⟩
      case measure => simp [lenOf]; try omega
    · have hge : ¬ (n' : Int) < (k : Int) := by omega
      have hn' := HN.out
      obtain ⟨t, ht⟩ : ∃ t, t + k = n' := ⟨n' - k, by omega⟩
      have hw1 : IntKind.i64.wrap ((n' : Int) - (k : Int)) = (t : Int) := by rw [IntWalk.i64_in _ (by rcases Nat.eq_zero_or_pos j with h | h <;> omega)]; omega
      have hcut := HRD.out.cut (show t ≤ n' by omega) hc'
      rw [bools_drop] at hcut
      have hv := fun c'' => value_of _ (n' - t) c'' ((List.replicate j false ++ L).drop t) wr hcut (by rw [List.length_drop, List.length_append, List.length_replicate, ← HR.out.len, ← hn']) (by omega)
      have hres : natOf ((List.replicate j false ++ L).drop t) = oP L k := by
        have hlen := HR.out.len
        unfold oP
        rcases Nat.eq_zero_or_pos j with h | h
        · subst h
          rw [if_pos (by omega)]
          rw [List.replicate_zero, List.nil_append, show t = L.length - k by omega]
        · have h2 := hjk h
          obtain rfl : t = 0 := by omega
          rw [List.drop_zero, natOf_zeros]
          split
          · have : j = k - L.length := by omega
            exact absurd h (by omega)
          · rw [show j = k - L.length by omega]
      rw [hres] at hv
      have HT := hide ht
      have hnb : n' ≤ 100000064 := by rcases Nat.eq_zero_or_pos j with h | h <;> omega
      have HNB := hide hnb
      clear hnb
      clear hcut hres hn' hjk
      by_cases hct : c' = t
      · rw [if_pos hct] at hv
        have HV := hide hv
        have hk0 : k = 0 := by omega
        have hnt : n' = t := by omega
        clear hv
        subst hk0
        subst hnt
        subst hct
        clear hw1 hge hc' hk hlt
        have hw1 : IntKind.i64.wrap (c' : Int) = (c' : Int) := IntWalk.i64_in _ (by have := HNB.out; omega)
        have HV' := HV.out
        rw [Nat.sub_self] at HV'
        have HV2 := hide HV'
        clear HV HV'
        go_wp2_with fail
        refine (HV2.out _).mono ?_
        rintro e w1 ⟨rfl, rfl⟩
        go_wp2
        go_ret
        exact ⟨rfl, HB.out⟩
      · rw [if_neg hct, Nat.mul_one] at hv
        have HV := hide hv
        clear hv
        go_wp2_with fail
        refine (HV.out _).mono ?_
        rintro e w1 ⟨rfl, rfl⟩
        go_wp2
        go_ret
        exact ⟨rfl, HB.out⟩
end Go.Proofs.Ytifolinoadllbaa
