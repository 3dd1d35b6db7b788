/- The reference model's package portmanteauref02 walked: All, Bytes, Close, Same, SameBits. -/
import Derived.Test.YtbhpflckcehcfaaRefA
import Derived.Deep.RegionHeld3
import Derived.Deep.DrawnRows
namespace Go.Proofs.Ytbhpflckcehcfaa
open Go.RowKit
set_option linter.unusedVariables false

/-! ### A slice of calls of Put -/
def putCells (xs : List (Int × Int)) : List Value := xs.flatMap fun p => [.int .u64 p.1, .int .i64 p.2]
def OkPuts (xs : List (Int × Int)) : Prop := ∀ p ∈ xs, (0 ≤ p.1 ∧ p.1 < 18446744073709551616) ∧ (-9223372036854775808 ≤ p.2 ∧ p.2 < 9223372036854775808)
def allBits (xs : List (Int × Int)) : List Bool := xs.flatMap fun p => if mayB p.1 p.2 then bitsOf p.1.toNat p.2.toNat else []

theorem putCells_at : ∀ (xs : List (Int × Int)) (k : Nat) (h : k < xs.length), (putCells xs)[k * 2]? = some (.int .u64 xs[k].1) ∧ (putCells xs)[k * 2 + 1]? = some (.int .i64 xs[k].2)
  | [], k, h => absurd h (by simp)
  | p :: xs, 0, h => ⟨rfl, rfl⟩
  | p :: xs, k + 1, h => by
    have ih := putCells_at xs k (by simpa using h)
    have e : (k + 1) * 2 = k * 2 + 1 + 1 := by omega
    rw [e]
    exact ih
theorem putCells_length (xs : List (Int × Int)) : (putCells xs).length = xs.length * 2 := by
  induction xs with
  | nil => rfl
  | cons p xs ih =>
    have : putCells (p :: xs) = .int .u64 p.1 :: .int .i64 p.2 :: putCells xs := rfl
    rw [this, List.length_cons, List.length_cons, ih, List.length_cons]
    omega

/-- The two cells of element k. -/
theorem put_cells {w : World} {B n : Nat} {A : Option Addr} {xs : List (Int × Int)} (h : Reads w B 2 A n (putCells xs)) (hn : n = xs.length) {k : Nat} (hk : k < n) :
    ∃ b off x m, A = some ⟨b, off, none⟩ ∧ b < B ∧ w.cell? ⟨b, off + k * 2, none⟩ = some (.int .u64 x) ∧ w.cell? ⟨b, off + k * 2 + 1, none⟩ = some (.int .i64 m) ∧ xs[k]? = some (x, m) := by
  obtain ⟨b, off, rfl, hb, hc⟩ := h.open_ (by omega) (by omega)
  have hkl : k < xs.length := by omega
  obtain ⟨h1, h2⟩ := putCells_at xs k hkl
  exact ⟨b, off, xs[k].1, xs[k].2, rfl, hb, hc _ _ h1, by rw [Nat.add_assoc]; exact hc _ _ h2, List.getElem?_eq_getElem hkl⟩

theorem allBits_append (a b : List (Int × Int)) : allBits (a ++ b) = allBits a ++ allBits b := by simp [allBits]
theorem allBits_snoc {xs : List (Int × Int)} {k : Nat} {p : Int × Int} (h : xs[k]? = some p) : allBits (xs.take (k + 1)) = allBits (xs.take k) ++ (if mayB p.1 p.2 then bitsOf p.1.toNat p.2.toNat else []) := by
  rw [List.take_add_one, h]
  simp [allBits]
theorem mayB_le {v n : Int} (h : mayB v n = true) : 0 ≤ n ∧ n ≤ 64 ∧ v.toNat < 2 ^ n.toNat := by
  simp [mayB] at h
  omega
theorem allBits_le (xs : List (Int × Int)) : (allBits xs).length ≤ 64 * xs.length := by
  induction xs with
  | nil => simp [allBits]
  | cons p xs ih =>
    have e : allBits (p :: xs) = (if mayB p.1 p.2 then bitsOf p.1.toNat p.2.toNat else []) ++ allBits xs := rfl
    rw [e, List.length_append, List.length_cons]
    split
    · next h => have := mayB_le h; rw [bitsOf_length]; omega
    · simp; omega

theorem bools_one (l : List Bool) : ∀ u ∈ bools l, u.oneCell' = true := by
  intro u hu
  obtain ⟨b, _, rfl⟩ := List.mem_map.1 hu
  rfl

set_option maxHeartbeats 2000000 in
theorem all_any (A : Option Addr) (n c : Nat) (xs : List (Int × Int)) (w : World) (hr : Reads w w.heap.size 2 A n (putCells xs)) (hok : OkPuts xs) (hn : n = xs.length) (hn' : n ≤ 100000) :
    Calls Try.prog 14 #[.slice A n c] w fun e w' => ∃ u, e = .returned u ∧ w'.ownsRow w.heap.size 4 1 u (allBits xs).length (bools (allBits xs)) ∧ Below w.heap.size w w' := by
  obtain ⟨i0, hi, hz0, hz1, hz2⟩ := info_parts info_bool
  have HR := hide hr
  have HN := hide hn
  have HOK := hide hok
  clear hr hn hok
  go_enter Try.func14, Try.ntmps14
  go_wp2
  go_loopw [3, 4] (fun out i wr => ∃ k : Nat, k ≤ n ∧ i = .int .i64 k ∧ wr.ownsRow w.heap.size 4 1 out (allBits (xs.take k)).length (bools (allBits (xs.take k))) ∧ Below w.heap.size w wr) (fun _ i _ => n - (intOf i).toNat)
  case atStart => exact ⟨0, Nat.zero_le _, rfl, World.ownsRow_nil _ _ _ _, Below.refl _ _⟩
  case round =>
    obtain ⟨k, hk, rfl, hown, hb⟩ := hrel
    have hsz := hb.size
    have HB := hide hb
    have HO := hide hown
    clear hb hown
    by_cases hlt : k < n
    · obtain ⟨b, off, x, m, rfl, hbb, k0, k1, hx⟩ := put_cells (HR.out.below HB.out) HN.out hlt
      obtain ⟨⟨ok1, ok2⟩, ok3, ok4⟩ := HOK.out _ (List.mem_of_getElem? hx)
      have HX := hide hx
      clear hx
      have hkn : (k : Int) < (n : Int) := by omega
      cases hm : mayB x m with
      | true =>
        have hmay := fun W => may_any x m W ok1 ok2
        rw [hm] at hmay
        have HM := hide hm
        have HMAY := hide hmay
        clear hm hmay
        go_wp2
        go_quiet ((go_at_call 22; exact quiet_left (HMAY.out _)))
        go_wp2
        obtain ⟨wd, hwd⟩ : ∃ wd, wd = wr.drewN nq := ⟨_, rfl⟩
        rw [← hwd]
        have kd0 : wd.cell? ⟨b, off + k * 2, none⟩ = some (.int .u64 x) := by rw [hwd]; exact k0
        have kd1 : wd.cell? ⟨b, off + k * 2 + 1, none⟩ = some (.int .i64 m) := by rw [hwd]; exact k1
        have hbd : Below w.heap.size w wd := by rw [hwd]; exact HB.out.trans (below_drewN (Below.refl _ _) _)
        have hownd : wd.ownsRow w.heap.size 4 1 u3 (allBits (xs.take k)).length (bools (allBits (xs.take k))) := by rw [hwd]; exact HO.out
        clear hwd
        have hml := mayB_le HM.out
        have hsd := hbd.size
        have hll := allBits_le (xs.take k)
        have hkl : (xs.take k).length ≤ k := List.length_take_le _ _
        have HBD := hide hbd
        have HOD := hide hownd
        clear hbd hownd
        have hbits := bits_any x m wd.drew ok1 ok2 (by omega) (by omega)
        have HBI := hide hbits
        clear hbits
        obtain ⟨N, hN⟩ : ∃ N, N = (allBits (xs.take k)).length := ⟨_, rfl⟩
        have hNl : N ≤ 64 * k := by omega
        have hm64 : m.toNat ≤ 64 := by omega
        have HNN := hide hN
        have hlim1 : N + m.toNat ≤ maxLen := by unfold maxLen; omega
        have hlim2 : (N + m.toNat) * 1 ≤ 140737488355328 := by omega
        clear hN hll hkl
        go_region_held3 (fun w' => w'.cell? ⟨b, off + k * 2, none⟩ = some (.int .u64 x) ∧ w'.cell? ⟨b, off + k * 2 + 1, none⟩ = some (.int .i64 m)) (go_keep)
          (first
          | (go_at_call 23; refine HBI.out.mono ?_; rintro e w1 ⟨u, rfl, hown1, hb1⟩; replace hb1 := (Below.refl _ wd).drew.trans hb1; obtain ⟨A1, c1, rfl⟩ := own_form hown1; have hrd := Reads.of_own hown1; have hs1 := hb1.size; have hlim3 : w.heap.size ≤ w1.heap.size := Nat.le_trans hsd hs1; have ho := own_below HOD.out hb1; rw [← HNN.out] at ho; have j0 := (hb1.cell (p := ⟨b, off + k * 2, none⟩) (Nat.lt_of_lt_of_le hbb hsd)).trans kd0; have j1 := (hb1.cell (p := ⟨b, off + k * 2 + 1, none⟩) (Nat.lt_of_lt_of_le hbb hsd)).trans kd1; have HO1 := hide ho; have HB1 := hide hb1; have HRD := hide hrd; clear ho hb1 hrd hown1)
          | (refine step_append_any _ (by rfl) (.tmp 22) (.tmp 33) _ (by rfl) w.heap.size 4 i0 _ 1 1 Try.underlying33 hi hz0 hz1 hz2 rfl Nat.zero_lt_one u3 N _ (by rfl) HO1.out w1.heap.size A1 m.toNat c1 _ (by rfl) HRD.out (bools_one _) hlim1 hlim2 hlim3 ?_; intro v' w3 hown3 hg3 hat; have hb3 : Below w.heap.size w1 w3 := (Below.refl _ _).grown hg3 hlim3 (fun j hj => (HO1.out.lt j hj).1); have j2 := (hb3.cell (p := ⟨b, off + k * 2, none⟩) hbb).trans j0; have j3 := (hb3.cell (p := ⟨b, off + k * 2 + 1, none⟩) hbb).trans j1))
        go_wp2
        go_roundw
        case rel =>
          have hlt := HO1.out.lt
          refine ⟨k + 1, by omega, by go_num, ?_, ?_⟩
          · rw [allBits_snoc HX.out, HM.out]
            simp only [if_true, List.length_append, bitsOf_length, bools, List.map_append]
            rw [← HNN.out]
            exact hown3
          · exact (HBD.out.trans (HB1.out.mono hsd)).grown hg3 (by omega) (fun j hj => (hlt j hj).1)
        case measure => simp [intOf]; omega
      | false =>
        have hmay := fun W => may_any x m W ok1 ok2
        rw [hm] at hmay
        have HM := hide hm
        have HMAY := hide hmay
        clear hm hmay
        go_wp2
        go_quiet ((go_at_call 22; exact quiet_left (HMAY.out _)))
        go_wp2
        go_roundw
        case rel =>
          refine ⟨k + 1, by omega, by go_num, ?_, HB.out.trans (below_drewN (Below.refl _ _) _)⟩
          rw [allBits_snoc HX.out, HM.out]
          have ho := HO.out
          simp only [Bool.false_eq_true, if_false, List.append_nil]
          exact ho
        case measure => simp [intOf]; omega
    · have hkn : k = xs.length := by have := HN.out; omega
      have HK := hide hkn
      clear hkn
      go_wp2
      go_ret
      have ho := HO.out
      rw [HK.out, List.take_length] at ho
      exact ⟨_, rfl, ho, HB.out⟩
end Go.Proofs.Ytbhpflckcehcfaa
