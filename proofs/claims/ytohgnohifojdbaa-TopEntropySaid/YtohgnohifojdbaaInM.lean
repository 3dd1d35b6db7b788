/- Texts put together: InN, InK. -/
import Derived.Test.YtohgnohifojdbaaInX
import Derived.Lib.Strings
import Derived.Lib.Slices
import Derived.Lib.Small
import Derived.Lib.Walk
import Derived.Lib.BitFns
namespace Go.Proofs.Ytohgnohifojdbaa
section
set_option maxRecDepth 8000
open Go.RowKit
set_option linter.unusedVariables false

set_option maxRecDepth 100000 in
theorem len8_int_any (x : Int) (w : World) (h0 : 0 ≤ x) (h1 : x ≤ 255) :
    Calls Try.prog 63 #[.int .u8 x] w fun e w' => e = .returned (.int .i64 (Lib.bitLen x.toNat)) ∧ w' = w := by
  have e8 := hide (Lib.len8_of x h0 h1)
  have hb := hide (Lib.bitLen_le8 ⟨x.toNat, by omega⟩)
  go_enter Try.func63, Try.ntmps63
  go_wp2
  go_ret
  refine ⟨ret_int ?_, rfl⟩
  have h2 := hb.out
  rw [e8.out]
  unfold wrap64
  change Lib.bitLen x.toNat ≤ 8 at h2
  omega
theorem len8_any (x : Nat) (w : World) (h1 : x < 256) :
    Calls Try.prog 63 #[.int .u8 x] w fun e w' => e = .returned (.int .i64 (Lib.bitLen x)) ∧ w' = w := by
  have h := len8_int_any x w (by omega) (by omega)
  rwa [Int.toNat_natCast] at h

/-- A new reader over an own copy. -/
theorem rd_new {w w1 : World} {A1 : Option Addr} {n c1 : Nat} {bs : List Nat} (t : Nat) (T : TypeId) (hT : 5 ≠ T) (hown : w1.ownsRow w.heap.size 5 1 (.slice A1 n c1) n (u8s bs)) (hb : Below w.heap.size w w1)
    (h8 : ∀ x ∈ bs, x < 256) (hn : n = bs.length) (hm : n ≤ 10000000000) (ht : t ≤ 8 * n) :
    Rd (w1.alloc (.cells #[.slice A1 n c1, .int .i64 0, .int .i64 t] T (0, 0))) w1.heap.size T A1 n c1 bs 0 t ∧ w.heap.size ≤ w1.heap.size ∧ (∀ ad, A1 = some ad → w.heap.size ≤ ad.block ∧ ad.block < w1.heap.size) ∧
      Below w.heap.size w (w1.alloc (.cells #[.slice A1 n c1, .int .i64 0, .int .i64 t] T (0, 0))) := by
  have hr := Reads.of_own hown
  have hlt : ∀ ad, A1 = some ad → w.heap.size ≤ ad.block ∧ ad.block < w1.heap.size := by rintro ad rfl; exact hown.lt ad.block rfl
  refine ⟨⟨?_, ?_, ?_, h8, hn, Nat.zero_le _, ht, hm⟩, hb.size, hlt, hb.alloc hb.size _⟩
  · exact alloc_new w1 _ rfl
  · exact (hr.alloc (Nat.le_refl _) _).more (by simp)
  · intro ad h1 h2
    have := (hlt ad h1).2
    omega

set_option maxHeartbeats 1000000 in
theorem newf_any (A : Option Addr) (n c : Nat) (bs : List Nat) (w : World) (hr : Reads w w.heap.size 1 A n (u8s bs)) (h8 : ∀ x ∈ bs, x < 256) (hn : n = bs.length) (hm : n ≤ 1000000000) :
    Calls Try.prog 25 #[.slice A n c] w fun e w' => ∃ g A1 c1, e = .returned (.pointer (some ⟨g, 0, none⟩)) ∧ Rd w' g 108 A1 n c1 bs 0 (8 * n) ∧ w.heap.size ≤ g ∧
      (∀ ad, A1 = some ad → w.heap.size ≤ ad.block ∧ ad.block < g) ∧ Below w.heap.size w w' := by
  have HC := hide (clone_any A n c _ w hr (u8s_one bs) (by omega))
  have H8 := hide h8
  have HN := hide hn
  have hw1 : IntKind.i64.wrap (8 * (n : Int)) = ((8 * n : Nat) : Int) := by rw [IntWalk.i64_in _ (by omega)]; omega
  clear hr h8 hn
  go_enter Try.func25, Try.ntmps25
  go_wp2_with fail
  refine HC.out.mono ?_
  rintro e w1 ⟨v, rfl, hown, hb⟩
  obtain ⟨A1, c1, rfl⟩ := own_form hown
  have hx := rd_new (8 * n) 108 (by decide) hown hb H8.out HN.out (by omega) (Nat.le_refl _)
  have HX := hide hx
  clear hx hown hb
  go_wp2
  go_ret
  have hx := HX.out
  rw [show ((8 * n : Nat) : Int) = 8 * (n : Int) by omega] at hx
  exact ⟨w1.heap.size, A1, c1, rfl, hx⟩

set_option maxHeartbeats 1000000 in
theorem newb_bad (A : Option Addr) (n c : Nat) (bs : List Nat) (w : World) (hr : Reads w w.heap.size 1 A n (u8s bs)) (hn : n = bs.length) (h0 : bs.getLastD 0 = 0) (hm : n ≤ 1000000000) :
    Calls Try.prog 39 #[.slice A n c] w fun e w' => e = .returned (.tuple #[.pointer none, .int .i64 14]) ∧ ∃ k, w' = w.drewN k := by
  rcases Nat.eq_zero_or_pos n with hz | hz
  · clear hr hn h0 hm
    subst hz
    go_enter Try.func39, Try.ntmps39
    go_wp2
    go_ret2
    exact ⟨rfl, 0, rfl⟩
  · obtain ⟨b, off, rfl, hbb, hcell⟩ := hr.open_ hz (by omega)
    have hx0 : bs[n - 1]? = some 0 := by
      rw [List.getLastD_eq_getLast?, List.getLast?_eq_getElem?, ← hn] at h0
      cases hx : bs[n - 1]? with
      | none => rw [List.getElem?_eq_none_iff] at hx; omega
      | some x => rw [hx] at h0; simp at h0; rw [h0]
    have hl : (u8s bs)[n - 1]? = some (.int .u8 0) := by simp [u8s, hx0]
    have kl := hcell _ _ hl
    have hw1 : IntKind.i64.wrap ((n : Int) - 1) = ((n - 1 : Nat) : Int) := by rw [IntWalk.i64_in _ (by omega)]; omega
    have hnn : ¬ (n : Int) = 0 := by omega
    have hb1 : ((n - 1 : Nat) : Int) < (n : Int) := by omega
    obtain ⟨q, hq⟩ : ∃ q, q = n - 1 := ⟨_, rfl⟩
    rw [← hq] at kl hw1 hb1
    have hq0 : (0 : Int) ≤ (q : Int) := by omega
    clear hr hn h0 hx0 hl hcell hq
    go_enter Try.func39, Try.ntmps39
    go_wp2
    go_ret2
    exact ⟨rfl, 0, rfl⟩

set_option maxHeartbeats 2000000 in
theorem newb_ok (A : Option Addr) (n c : Nat) (bs : List Nat) (w : World) (hr : Reads w w.heap.size 1 A n (u8s bs)) (h8 : ∀ x ∈ bs, x < 256) (hn : n = bs.length) (h0 : bs.getLastD 0 ≠ 0) (hm : n ≤ 1000000000) {T : Nat} (hT : T + 9 = 8 * n + Lib.bitLen (bs.getLastD 0)) :
    Calls Try.prog 39 #[.slice A n c] w fun e w' => ∃ g A1 c1, e = .returned (.tuple #[.pointer (some ⟨g, 0, none⟩), .int .i64 0]) ∧ Rd w' g 129 A1 n c1 bs 0 T ∧ w.heap.size ≤ g ∧
      (∀ ad, A1 = some ad → w.heap.size ≤ ad.block ∧ ad.block < g) ∧ Below w.heap.size w w' := by
  have hz : 0 < n := by
    rcases Nat.eq_zero_or_pos n with hz | hz
    · rw [hz] at hn
      have := List.eq_nil_of_length_eq_zero hn.symm
      subst this
      exact absurd rfl h0
    · exact hz
  obtain ⟨b, off, rfl, hbb, hcell⟩ := hr.open_ hz (by omega)
  obtain ⟨x, hx⟩ : ∃ x, x = bs.getLastD 0 := ⟨_, rfl⟩
  rw [← hx] at h0 hT
  have hxm : bs[n - 1]? = some x := by
    rw [List.getLastD_eq_getLast?, List.getLast?_eq_getElem?, ← hn] at hx
    cases hy : bs[n - 1]? with
    | none => rw [List.getElem?_eq_none_iff] at hy; omega
    | some y => rw [hy] at hx; simp at hx; rw [hx]
  have hx8 : x < 256 := h8 x (List.mem_of_getElem? hxm)
  have hbl : Lib.bitLen x ≤ 8 := Lib.bitLen_le8 ⟨x, hx8⟩
  have kl := hcell (n - 1) (.int .u8 (x : Int)) (by simp [u8s, hxm])
  obtain ⟨L, hL⟩ : ∃ L, L = Lib.bitLen x := ⟨_, rfl⟩
  have hlen := fun W => len8_any x W hx8
  rw [← hL] at hT hbl hlen
  have hw1 : IntKind.i64.wrap ((n : Int) - 1) = ((n - 1 : Nat) : Int) := by rw [IntWalk.i64_in _ (by omega)]; omega
  have hw2 : IntKind.i64.wrap (8 * (n : Int)) = 8 * (n : Int) := IntWalk.i64_in _ (by omega)
  have hw3 : IntKind.i64.wrap (8 * (n : Int) - 9) = 8 * (n : Int) - 9 := IntWalk.i64_in _ (by omega)
  have hw4 : IntKind.i64.wrap (8 * (n : Int) - 9 + (L : Int)) = (T : Int) := by rw [IntWalk.i64_in _ (by omega)]; omega
  have hnn : ((n : Int) == 0) = false := by simp; omega
  have hx0 : ((x : Int) == 0) = false := by simp; omega
  have hb1 : ((n - 1 : Nat) : Int) < (n : Int) := by omega
  obtain ⟨q, hq⟩ : ∃ q, q = n - 1 := ⟨_, rfl⟩
  rw [← hq] at kl hw1 hb1
  have hq0 : (0 : Int) ≤ (q : Int) := by omega
  have HLEN := hide hlen
  have HC := hide (clone_any (some ⟨b, off, none⟩) n c _ w.drew hr.drew (u8s_one bs) (by omega))
  have H8 := hide h8
  have HN := hide hn
  have HT := hide (show T ≤ 8 * n by omega)
  have hnew := World.new_ne w _ kl
  clear hr hn hxm hcell hq hx hT hL hlen h8
  go_enter Try.func39, Try.ntmps39
  go_wp2
  go_region_held3 (fun w' => w'.cell? ⟨b, off + q, none⟩ = some (.int .u8 (x : Int))) (go_keep)
    (first
    | (go_at_call 24; refine HC.out.mono ?_; rintro e w1 ⟨v, rfl, hown, hb⟩; obtain ⟨A1, c1, rfl⟩ := own_form hown; have j2 := (hb.cell (p := ⟨b, off + q, none⟩) hbb).trans kl; have HB := hide hb; have HO := hide hown; clear hb hown)
    | (go_at_call 63; refine (HLEN.out _).mono ?_; rintro e w2 ⟨rfl, rfl⟩))
  have hx := rd_new T 129 (by decide) (w := w) HO.out ((Below.refl _ w).drew.trans HB.out) H8.out HN.out (by omega) HT.out
  have HX := hide hx
  clear hx
  go_wp2
  go_ret2
  exact ⟨w2.heap.size, A1, c1, rfl, HX.out⟩
end

section
set_option maxRecDepth 8000
open Go.RowKit
set_option linter.unusedVariables false

/-- A reader whose blocks lie in lo .. hi-1. -/
def Rdr (w : World) (lo hi g : Nat) (T : TypeId) (bs : List Nat) (f t : Nat) : Prop :=
  ∃ A m c, Rd w g T A m c bs f t ∧ lo ≤ g ∧ g < hi ∧ hi ≤ w.heap.size ∧ ∀ ad, A = some ad → lo ≤ ad.block ∧ ad.block < g

theorem Rdr.chg {S : Nat → Prop} {w w' : World} {lo hi g : Nat} {T : TypeId} {bs : List Nat} {f t : Nat} (h : Rdr w lo hi g T bs f t) (hc : Chg S w w') (hS : ∀ b, S b → b < lo ∨ hi ≤ b) : Rdr w' lo hi g T bs f t := by
  obtain ⟨A, m, c, hr, h1, h2, h3, h4⟩ := h
  refine ⟨A, m, c, hr.chg hc (fun hs => by have := hS _ hs; omega) (fun ad ha hs => by have := hS _ hs; have := h4 ad ha; omega), h1, h2, Nat.le_trans h3 hc.size, h4⟩
theorem Rdr.below {w w' : World} {lo hi g : Nat} {T : TypeId} {bs : List Nat} {f t : Nat} (h : Rdr w lo hi g T bs f t) (hb : Below w.heap.size w w') : Rdr w' lo hi g T bs f t :=
  h.chg (S := fun _ => False) (.of_below hb) (fun _ h => h.elim)
theorem Rdr.drewN {w : World} {lo hi g : Nat} {T : TypeId} {bs : List Nat} {f t : Nat} (h : Rdr w lo hi g T bs f t) (k : Nat) : Rdr (w.drewN k) lo hi g T bs f t :=
  h.below (below_drewN (Below.refl _ _) _)
theorem Rdr.set {w w' : World} {lo hi g : Nat} {T : TypeId} {bs : List Nat} {f t f' t' : Nat} (h : Rdr w lo hi g T bs f t) (hs : w.heap.size ≤ w'.heap.size)
    (hr : ∀ A m c, Rd w g T A m c bs f t → Rd w' g T A m c bs f' t') : Rdr w' lo hi g T bs f' t' := by
  obtain ⟨A, m, c, hr0, h1, h2, h3, h4⟩ := h
  exact ⟨A, m, c, hr A m c hr0, h1, h2, Nat.le_trans h3 hs, h4⟩
theorem Rdr.low {w : World} {lo lo' hi g : Nat} {T : TypeId} {bs : List Nat} {f t : Nat} (h : Rdr w lo hi g T bs f t) (hl : lo' ≤ lo) : Rdr w lo' hi g T bs f t := by
  obtain ⟨A, m, c, hr0, h1, h2, h3, h4⟩ := h
  exact ⟨A, m, c, hr0, Nat.le_trans hl h1, h2, h3, fun ad ha => ⟨Nat.le_trans hl (h4 ad ha).1, (h4 ad ha).2⟩⟩
theorem Rdr.lt {w : World} {lo hi g : Nat} {T : TypeId} {bs : List Nat} {f t : Nat} (h : Rdr w lo hi g T bs f t) : lo ≤ g ∧ g < hi ∧ hi ≤ w.heap.size := by
  obtain ⟨A, m, c, hr0, h1, h2, h3, h4⟩ := h
  exact ⟨h1, h2, h3⟩
theorem Rdr.bounds {w : World} {lo hi g : Nat} {T : TypeId} {bs : List Nat} {f t : Nat} (h : Rdr w lo hi g T bs f t) : f ≤ t ∧ t ≤ 8 * bs.length ∧ bs.length ≤ 10000000000 := by
  obtain ⟨A, m, c, hr0, h1, h2, h3, h4⟩ := h
  have := hr0.le; have := hr0.top; have := hr0.len; have := hr0.small
  omega

section
variable {w : World} {lo hi g : Nat} {T : TypeId} {bs : List Nat} {f t : Nat}
theorem ftake_good (h : Rdr w lo hi g T bs f t) (n : Nat) (h64 : n ≤ 64) (hs : f + n ≤ t) :
    Calls Try.prog 67 #[.pointer (some ⟨g, 0, none⟩), .int .i64 n] w fun e w' =>
      e = .returned (.tuple #[.int .u64 ((leN bs / 2 ^ f % 2 ^ n : Nat) : Int), .int .i64 0]) ∧ Rdr w' lo hi g T bs (f + n) t ∧ Chg (fun k => k = g) w w' := by
  obtain ⟨A, m, c, hr, h1, h2, h3, h4⟩ := h
  exact (ftake_ok w hr n h64 hs).mono fun e w' ⟨he, hr', hc⟩ => ⟨he, ⟨A, m, c, hr', h1, h2, Nat.le_trans h3 hc.size, h4⟩, hc⟩
theorem ftake_few (h : Rdr w lo hi g T bs f t) (n : Nat) (h64 : n ≤ 64) (hs : t < f + n) :
    Calls Try.prog 67 #[.pointer (some ⟨g, 0, none⟩), .int .i64 n] w fun e w' =>
      e = .returned (.tuple #[.int .u64 0, .int .i64 3]) ∧ Rdr w' lo hi g T bs f t ∧ Chg (fun k => k = g) w w' := by
  have h0 := h
  obtain ⟨A, m, c, hr, h1, h2, h3, h4⟩ := h
  exact (ftake_short w hr n h64 hs).mono fun e w' ⟨he, k, hk⟩ => ⟨he, hk ▸ h0.drewN k, hk ▸ (Chg.refl _ w).drewN k⟩
theorem btake_good (h : Rdr w lo hi g T bs f t) (n t' : Nat) (h64 : n ≤ 64) (ht : t' + n = t) (hs : f ≤ t') :
    Calls Try.prog 40 #[.pointer (some ⟨g, 0, none⟩), .int .i64 n] w fun e w' =>
      e = .returned (.tuple #[.int .u64 ((leN bs / 2 ^ t' % 2 ^ n : Nat) : Int), .int .i64 0]) ∧ Rdr w' lo hi g T bs f t' ∧ Chg (fun k => k = g) w w' := by
  obtain ⟨A, m, c, hr, h1, h2, h3, h4⟩ := h
  exact (btake_ok w hr n h64 ht hs).mono fun e w' ⟨he, hr', hc⟩ => ⟨he, ⟨A, m, c, hr', h1, h2, Nat.le_trans h3 hc.size, h4⟩, hc⟩
theorem btake_few (h : Rdr w lo hi g T bs f t) (n : Nat) (h64 : n ≤ 64) (hs : t < f + n) :
    Calls Try.prog 40 #[.pointer (some ⟨g, 0, none⟩), .int .i64 n] w fun e w' =>
      e = .returned (.tuple #[.int .u64 0, .int .i64 14]) ∧ Rdr w' lo hi g T bs f t ∧ Chg (fun k => k = g) w w' := by
  have h0 := h
  obtain ⟨A, m, c, hr, h1, h2, h3, h4⟩ := h
  exact (btake_short w hr n h64 hs).mono fun e w' ⟨he, k, hk⟩ => ⟨he, hk ▸ h0.drewN k, hk ▸ (Chg.refl _ w).drewN k⟩
theorem bleft_of (h : Rdr w lo hi g T bs f t) :
    Calls Try.prog 42 #[.pointer (some ⟨g, 0, none⟩)] w fun e w' => e = .returned (.int .i64 ((t - f : Nat) : Int)) ∧ ∃ k, w' = w.drewN k := by
  obtain ⟨A, m, c, hr, h1, h2, h3, h4⟩ := h
  exact bleft_any w hr
theorem below_of_drewN {w w' : World} (h : ∃ k, w' = w.drewN k) : Below w.heap.size w w' := by
  obtain ⟨k, rfl⟩ := h
  exact below_drewN (Below.refl _ _) _
theorem bleft_below (h : Rdr w lo hi g T bs f t) :
    Calls Try.prog 42 #[.pointer (some ⟨g, 0, none⟩)] w fun e w' => e = .returned (.int .i64 ((t - f : Nat) : Int)) ∧ Below w.heap.size w w' :=
  (bleft_of h).mono fun _ _ ⟨h1, h2⟩ => ⟨h1, below_of_drewN h2⟩
end

theorem newf_of (A : Option Addr) (n c : Nat) (bs : List Nat) (w : World) (hr : Reads w w.heap.size 1 A n (u8s bs)) (h8 : ∀ x ∈ bs, x < 256) (hn : n = bs.length) (hm : n ≤ 1000000000) :
    Calls Try.prog 25 #[.slice A n c] w fun e w' => ∃ g, e = .returned (.pointer (some ⟨g, 0, none⟩)) ∧ Rdr w' w.heap.size w'.heap.size g 108 bs 0 (8 * n) ∧ Below w.heap.size w w' :=
  (newf_any A n c bs w hr h8 hn hm).mono fun e w' ⟨g, A1, c1, he, hr1, h1, h2, h3⟩ => ⟨g, he, ⟨A1, n, c1, hr1, h1, lt_of_heap hr1.row, Nat.le_refl _, h2⟩, h3⟩

theorem newb_of (A : Option Addr) (n c : Nat) (bs : List Nat) (w : World) (hr : Reads w w.heap.size 1 A n (u8s bs)) (h8 : ∀ x ∈ bs, x < 256) (hn : n = bs.length) (h0 : bs.getLastD 0 ≠ 0) (hm : n ≤ 1000000000) {T : Nat} (hT : T + 9 = 8 * n + Lib.bitLen (bs.getLastD 0)) :
    Calls Try.prog 39 #[.slice A n c] w fun e w' => ∃ g, e = .returned (.tuple #[.pointer (some ⟨g, 0, none⟩), .int .i64 0]) ∧ Rdr w' w.heap.size w'.heap.size g 129 bs 0 T ∧ Below w.heap.size w w' :=
  (newb_ok A n c bs w hr h8 hn h0 hm hT).mono fun e w' ⟨g, A1, c1, he, hr1, h1, h2, h3⟩ => ⟨g, he, ⟨A1, n, c1, hr1, h1, lt_of_heap hr1.row, Nat.le_refl _, h2⟩, h3⟩

end

end Go.Proofs.Ytohgnohifojdbaa
