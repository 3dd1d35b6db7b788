/- Package bitin walked: the constructors. -/
import Derived.Test.YtifolinoadllbaaInP
import Derived.Lib.Strings
import Derived.Lib.Slices
import Derived.Lib.Small
import Derived.Lib.Walk
import Derived.Lib.BitFns
namespace Go.Proofs.Ytifolinoadllbaa
open Go.RowKit
set_option linter.unusedVariables false

set_option maxRecDepth 100000 in
theorem len8_int_any (x : Int) (w : World) (h0 : 0 ≤ x) (h1 : x ≤ 255) :
    Calls Try.prog 34 #[.int .u8 x] w fun e w' => e = .returned (.int .i64 (Lib.bitLen x.toNat)) ∧ w' = w := by
  have e8 := hide (Lib.len8_of x h0 h1)
  have hb := hide (Lib.bitLen_le8 ⟨x.toNat, by omega⟩)
  go_enter Try.func34, Try.ntmps34
  go_wp2
  go_ret
  refine ⟨ret_int ?_, rfl⟩
  have h2 := hb.out
  rw [e8.out]
  unfold wrap64
  change Lib.bitLen x.toNat ≤ 8 at h2
  omega
theorem len8_any (x : Nat) (w : World) (h1 : x < 256) :
    Calls Try.prog 34 #[.int .u8 x] w fun e w' => e = .returned (.int .i64 (Lib.bitLen x)) ∧ w' = w := by
  have h := len8_int_any x w (by omega) (by omega)
  rwa [Int.toNat_natCast] at h

/-- A new reader over an own copy. -/
theorem rd_new {w w1 : World} {A1 : Option Addr} {n c1 : Nat} {bs : List Nat} (t : Nat) (T : TypeId) (hT : 5 ≠ T) (hown : w1.ownsRow w.heap.size 5 1 (.slice A1 n c1) n (u8s bs)) (hb : Below w.heap.size w w1)
    (h8 : ∀ x ∈ bs, x < 256) (hn : n = bs.length) (hm : n ≤ 10000000000) (ht : t ≤ 8 * n) :
    Rd (w1.alloc (.cells #[.slice A1 n c1, .int .i64 0, .int .i64 t] T (0, 0))) w1.heap.size T A1 n c1 bs 0 t ∧ w.heap.size ≤ w1.heap.size ∧ (∀ ad, A1 = some ad → w.heap.size ≤ ad.block ∧ ad.block < w1.heap.size) ∧
      Below w.heap.size w (w1.alloc (.cells #[.slice A1 n c1, .int .i64 0, .int .i64 t] T (0, 0))) := by
  have hr := Reads.of_own hown
  have hlt : ∀ ad, A1 = some ad → w.heap.size ≤ ad.block ∧ ad.block < w1.heap.size := by rintro ad rfl; exact hown.lt ad.block rfl
  refine ⟨⟨?_, ?_, ?_, h8, hn, Nat.zero_le _, ht, hm⟩, hb.size, hlt, hb.alloc hb.size _⟩
  · exact alloc_new w1 _ rfl
  · exact (hr.alloc (Nat.le_refl _) _).more (by simp)
  · intro ad h1 h2
    have := (hlt ad h1).2
    omega

set_option maxHeartbeats 1000000 in
theorem newf_any (A : Option Addr) (n c : Nat) (bs : List Nat) (w : World) (hr : Reads w w.heap.size 1 A n (u8s bs)) (h8 : ∀ x ∈ bs, x < 256) (hn : n = bs.length) (hm : n ≤ 1000000000) :
    Calls Try.prog 20 #[.slice A n c] w fun e w' => ∃ g A1 c1, e = .returned (.pointer (some ⟨g, 0, none⟩)) ∧ Rd w' g 57 A1 n c1 bs 0 (8 * n) ∧ w.heap.size ≤ g ∧
      (∀ ad, A1 = some ad → w.heap.size ≤ ad.block ∧ ad.block < g) ∧ Below w.heap.size w w' := by
  have HC := hide (clone_any A n c _ w hr (u8s_one bs) (by omega))
  have H8 := hide h8
  have HN := hide hn
  have hw1 : IntKind.i64.wrap (8 * (n : Int)) = ((8 * n : Nat) : Int) := by rw [IntWalk.i64_in _ (by omega)]; omega
  clear hr h8 hn
  go_enter Try.func20, Try.ntmps20
  go_wp2_with fail
  refine HC.out.mono ?_
  rintro e w1 ⟨v, rfl, hown, hb⟩
  obtain ⟨A1, c1, rfl⟩ := own_form hown
  have hx := rd_new (8 * n) 57 (by decide) hown hb H8.out HN.out (by omega) (Nat.le_refl _)
  have HX := hide hx
  clear hx hown hb
  go_wp2
  go_ret
  have hx := HX.out
  rw [show ((8 * n : Nat) : Int) = 8 * (n : Int) by omega] at hx
  exact ⟨w1.heap.size, A1, c1, rfl, hx⟩

set_option maxHeartbeats 1000000 in
theorem newb_bad (A : Option Addr) (n c : Nat) (bs : List Nat) (w : World) (hr : Reads w w.heap.size 1 A n (u8s bs)) (hn : n = bs.length) (h0 : bs.getLastD 0 = 0) (hm : n ≤ 1000000000) :
    Calls Try.prog 12 #[.slice A n c] w fun e w' => e = .returned (.tuple #[.pointer none, .int .i64 14]) ∧ ∃ k, w' = w.drewN k := by
  rcases Nat.eq_zero_or_pos n with hz | hz
  · clear hr hn h0 hm
    subst hz
    go_enter Try.func12, Try.ntmps12
    go_wp2
    go_ret2
    exact ⟨rfl, 0, rfl⟩
  · obtain ⟨b, off, rfl, hbb, hcell⟩ := hr.open_ hz (by omega)
    have hx0 : bs[n - 1]? = some 0 := by
      rw [List.getLastD_eq_getLast?, List.getLast?_eq_getElem?, ← hn] at h0
      cases hx : bs[n - 1]? with
      | none => rw [List.getElem?_eq_none_iff] at hx; omega
      | some x => rw [hx] at h0; simp at h0; rw [h0]
    have hl : (u8s bs)[n - 1]? = some (.int .u8 0) := by simp [u8s, hx0]
    have kl := hcell _ _ hl
    have hw1 : IntKind.i64.wrap ((n : Int) - 1) = ((n - 1 : Nat) : Int) := by rw [IntWalk.i64_in _ (by omega)]; omega
    have hnn : ¬ (n : Int) = 0 := by omega
    have hb1 : ((n - 1 : Nat) : Int) < (n : Int) := by omega
    obtain ⟨q, hq⟩ : ∃ q, q = n - 1 := ⟨_, rfl⟩
    rw [← hq] at kl hw1 hb1
    have hq0 : (0 : Int) ≤ (q : Int) := by omega
    clear hr hn h0 hx0 hl hcell hq
    go_enter Try.func12, Try.ntmps12
    go_wp2
    go_ret2
    exact ⟨rfl, 0, rfl⟩

set_option maxHeartbeats 2000000 in
theorem newb_ok (A : Option Addr) (n c : Nat) (bs : List Nat) (w : World) (hr : Reads w w.heap.size 1 A n (u8s bs)) (h8 : ∀ x ∈ bs, x < 256) (hn : n = bs.length) (h0 : bs.getLastD 0 ≠ 0) (hm : n ≤ 1000000000) {T : Nat} (hT : T + 9 = 8 * n + Lib.bitLen (bs.getLastD 0)) :
    Calls Try.prog 12 #[.slice A n c] w fun e w' => ∃ g A1 c1, e = .returned (.tuple #[.pointer (some ⟨g, 0, none⟩), .int .i64 0]) ∧ Rd w' g 58 A1 n c1 bs 0 T ∧ w.heap.size ≤ g ∧
      (∀ ad, A1 = some ad → w.heap.size ≤ ad.block ∧ ad.block < g) ∧ Below w.heap.size w w' := by
  have hz : 0 < n := by
    rcases Nat.eq_zero_or_pos n with hz | hz
    · rw [hz] at hn
      have := List.eq_nil_of_length_eq_zero hn.symm
      subst this
      exact absurd rfl h0
    · exact hz
  obtain ⟨b, off, rfl, hbb, hcell⟩ := hr.open_ hz (by omega)
  obtain ⟨x, hx⟩ : ∃ x, x = bs.getLastD 0 := ⟨_, rfl⟩
  rw [← hx] at h0 hT
  have hxm : bs[n - 1]? = some x := by
    rw [List.getLastD_eq_getLast?, List.getLast?_eq_getElem?, ← hn] at hx
    cases hy : bs[n - 1]? with
    | none => rw [List.getElem?_eq_none_iff] at hy; omega
    | some y => rw [hy] at hx; simp at hx; rw [hx]
  have hx8 : x < 256 := h8 x (List.mem_of_getElem? hxm)
  have hbl : Lib.bitLen x ≤ 8 := Lib.bitLen_le8 ⟨x, hx8⟩
  have kl := hcell (n - 1) (.int .u8 (x : Int)) (by simp [u8s, hxm])
  obtain ⟨L, hL⟩ : ∃ L, L = Lib.bitLen x := ⟨_, rfl⟩
  have hlen := fun W => len8_any x W hx8
  rw [← hL] at hT hbl hlen
  have hw1 : IntKind.i64.wrap ((n : Int) - 1) = ((n - 1 : Nat) : Int) := by rw [IntWalk.i64_in _ (by omega)]; omega
  have hw2 : IntKind.i64.wrap (8 * (n : Int)) = 8 * (n : Int) := IntWalk.i64_in _ (by omega)
  have hw3 : IntKind.i64.wrap (8 * (n : Int) - 9) = 8 * (n : Int) - 9 := IntWalk.i64_in _ (by omega)
  have hw4 : IntKind.i64.wrap (8 * (n : Int) - 9 + (L : Int)) = (T : Int) := by rw [IntWalk.i64_in _ (by omega)]; omega
  have hnn : ((n : Int) == 0) = false := by simp; omega
  have hx0 : ((x : Int) == 0) = false := by simp; omega
  have hb1 : ((n - 1 : Nat) : Int) < (n : Int) := by omega
  obtain ⟨q, hq⟩ : ∃ q, q = n - 1 := ⟨_, rfl⟩
  rw [← hq] at kl hw1 hb1
  have hq0 : (0 : Int) ≤ (q : Int) := by omega
  have HLEN := hide hlen
  have HC := hide (clone_any (some ⟨b, off, none⟩) n c _ w.drew hr.drew (u8s_one bs) (by omega))
  have H8 := hide h8
  have HN := hide hn
  have HT := hide (show T ≤ 8 * n by omega)
  have hnew := World.new_ne w _ kl
  clear hr hn hxm hcell hq hx hT hL hlen h8
  go_enter Try.func12, Try.ntmps12
  go_wp2
  go_region_held3 (fun w' => w'.cell? ⟨b, off + q, none⟩ = some (.int .u8 (x : Int))) (go_keep)
    (first
    | (go_at_call 33; refine HC.out.mono ?_; rintro e w1 ⟨v, rfl, hown, hb⟩; obtain ⟨A1, c1, rfl⟩ := own_form hown; have j2 := (hb.cell (p := ⟨b, off + q, none⟩) hbb).trans kl; have HB := hide hb; have HO := hide hown; clear hb hown)
    | (go_at_call 34; refine (HLEN.out _).mono ?_; rintro e w2 ⟨rfl, rfl⟩))
  have hx := rd_new T 58 (by decide) (w := w) HO.out ((Below.refl _ w).drew.trans HB.out) H8.out HN.out (by omega) HT.out
  have HX := hide hx
  clear hx
  go_wp2
  go_ret2
  exact ⟨w2.heap.size, A1, c1, rfl, HX.out⟩
end Go.Proofs.Ytifolinoadllbaa
