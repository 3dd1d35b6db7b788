/- Writer.Close walked. -/
import Derived.Test.YtifolinoadllbaaOutB
import Derived.Deep.RegionHeld3
import Derived.Deep.DrawnRows
namespace Go.Proofs.Ytifolinoadllbaa
open Go.RowKit
set_option linter.unusedVariables false
attribute [local go_sem ↓] Go.wp_at_zero Go.wp_at_succ

theorem close_nil (w : World) :
    Calls Try.prog 31 #[.pointer none] w fun e w' => e = .returned (.slice none 0 0) ∧ w = w' := by
  go_enter Try.func31, Try.ntmps31
  go_wp2
  go_ret
  exact ⟨rfl, rfl⟩

/-- Put, its arguments as the call has them. -/
theorem put_int {B g : Nat} {F : Option Nat} {bs : List Nat} {v n : Nat} (x m : Int) (w : World) (h : WrR w B g F bs v n) (hn : n < 8) (hx0 : 0 ≤ x) (hm0 : 0 ≤ m) (hm : m ≤ 64) (hx : x.toNat < 2 ^ m.toNat) (hlen : bs.length ≤ 1000000000) (hB : B ≤ w.heap.size) :
    Calls Try.prog 29 #[.pointer (some ⟨g, 0, none⟩), .int .u64 x, .int .i64 m] w fun e w' => e = .returned (.int .i64 0) ∧
      ∃ bs' v' n', PutSt w w' B g F bs' v' n' ∧ n' < 8 ∧ 8 * bs'.length + n' = 8 * bs.length + n + m.toNat ∧ strm bs' v' = strm bs v + x.toNat * 2 ^ (8 * bs.length + n) := by
  obtain ⟨x, rfl⟩ := Int.eq_ofNat_of_zero_le hx0
  obtain ⟨m, rfl⟩ := Int.eq_ofNat_of_zero_le hm0
  simp only [Int.toNat_natCast] at hx ⊢
  refine put_ok B g F bs v n x m w h hn (by omega) hx hlen hB ?_
  rcases Nat.lt_or_ge m 64 with h64 | h64
  · refine .inl ⟨by omega, ?_, by simp; omega⟩
    have e : ((x : Int) / 2 ^ m) = ((x / 2 ^ m : Nat) : Int) := by simp
    rw [e, Nat.div_eq_of_lt hx]
    rfl
  · exact .inr (by omega)

/-- The bytes of a stream of L bits, of value N. -/
def pack (L N : Nat) : List Nat := (List.range ((L + 7) / 8)).map fun i => N / 256 ^ i % 256

theorem leN_digit : ∀ (bs : List Nat) (t i : Nat), (∀ b ∈ bs, b < 256) → i < bs.length → (leN bs + 256 ^ bs.length * t) / 256 ^ i % 256 = bs.getD i 0
  | [], _, _, _, hi => by simp at hi
  | b :: bs, t, 0, h, _ => by
    have hb := h b (by simp)
    simp only [leN, List.length_cons, Nat.pow_succ, Nat.pow_zero, Nat.div_one, List.getD_cons_zero]
    have : 256 ^ bs.length * 256 * t = 256 * (256 ^ bs.length * t) := by rw [Nat.mul_comm (256 ^ bs.length) 256, Nat.mul_assoc]
    omega
  | b :: bs, t, i + 1, h, hi => by
    have hb := h b (by simp)
    have ih := leN_digit bs t i (fun x hx => h x (by simp [hx])) (by simpa using hi)
    rw [List.getD_cons_succ, ← ih, Nat.pow_succ', ← Nat.div_div_eq_div_mul]
    congr 2
    simp only [leN, List.length_cons, Nat.pow_succ]
    have : 256 ^ bs.length * 256 * t = 256 * (256 ^ bs.length * t) := by rw [Nat.mul_comm (256 ^ bs.length) 256, Nat.mul_assoc]
    omega

theorem leN_lt : ∀ (bs : List Nat), (∀ b ∈ bs, b < 256) → leN bs < 256 ^ bs.length
  | [], _ => by simp [leN]
  | b :: bs, h => by
    have hb := h b (by simp)
    have ih := leN_lt bs (fun x hx => h x (by simp [hx]))
    simp only [leN, List.length_cons, Nat.pow_succ]
    omega

theorem pack_of (bs : List Nat) (v n : Nat) (h : ∀ b ∈ bs, b < 256) (hv : v < 2 ^ n) (hn : n < 8) : bs ++ tailBytes v n = pack (8 * bs.length + n) (strm bs v) := by
  unfold pack strm tailBytes
  refine List.ext_getElem? fun i => ?_
  have hv256 : v < 256 := Nat.lt_of_lt_of_le hv (Nat.pow_le_pow_right (by omega) (by omega : n ≤ 8))
  rcases Nat.lt_or_ge i bs.length with hi | hi
  · rw [List.getElem?_append_left hi, List.getElem?_map, List.getElem?_range (by omega)]
    simp only [Option.map_some]
    rw [leN_digit bs v i h hi, List.getD_eq_getElem?_getD, List.getElem?_eq_getElem hi]
    rfl
  · rw [List.getElem?_append_right hi]
    by_cases hn0 : 0 < n
    · rw [if_pos hn0]
      have e : (8 * bs.length + n + 7) / 8 = bs.length + 1 := by omega
      rw [e]
      rcases Nat.eq_or_lt_of_le hi with rfl | hi
      · rw [Nat.sub_self, List.getElem?_map, List.getElem?_range (by omega)]
        have h1 := leN_lt bs h
        have h2 : (leN bs + 256 ^ bs.length * v) / 256 ^ bs.length = v := by
          rw [Nat.add_mul_div_left _ _ (Nat.pow_pos (by omega)), Nat.div_eq_of_lt h1, Nat.zero_add]
        simp only [List.getElem?_cons_zero, Option.map_some, h2]
        rw [Nat.mod_eq_of_lt hv256]
      · rw [List.getElem?_eq_none (by simp; omega), List.getElem?_eq_none (by simp; omega)]
    · rw [if_neg hn0, List.getElem?_eq_none (by simp), List.getElem?_eq_none (by simp; omega)]

theorem close_way1 {w w1 : World} {bs : List Nat} {v n : Nat} {A : Option Addr} {c : Nat} (hb : Below w.drew.heap.size w.drew w1) (hown : w1.ownsRow w.drew.heap.size 5 1 (.slice A bs.length c) bs.length (bs.map fun b : Nat => Value.int .u8 (b : Int)))
    (h5 : ∀ b ∈ bs, b < 256) (h6 : v < 2 ^ n) (h7 : n ≤ 40) :
    ∃ F, WrR (w1.alloc (.cells #[.int .u64 (v : Int), .int .i64 (n : Int), .slice A bs.length c] 64)) w.heap.size w1.heap.size F bs v n ∧
      Below w.heap.size w (w1.alloc (.cells #[.int .u64 (v : Int), .int .i64 (n : Int), .slice A bs.length c] 64)) :=
  ⟨_, ⟨A, c, heap_alloc_new w1 _, hb.size, hown.alloc _, rfl, h5, h6, h7⟩, (((Below.refl _ _).drew).trans hb).alloc hb.size _⟩

theorem close_way2 {w w1 : World} {bs : List Nat} {v n : Nat} {A : Option Addr} {c : Nat} {O : Obj} (hO : O = .cells #[.int .u64 0, .int .i64 0, .slice none 0 0] 64) (hb : Below (w.alloc O).drew.heap.size (w.alloc O).drew w1) (hown : w1.ownsRow (w.alloc O).drew.heap.size 5 1 (.slice A bs.length c) bs.length (bs.map fun b : Nat => Value.int .u8 (b : Int)))
    (h5 : ∀ b ∈ bs, b < 256) (h6 : v < 2 ^ n) (h7 : n ≤ 40) :
    ∃ F, WrR (((w1.setCell ⟨w.heap.size, 0, none⟩ (.int .u64 (v : Int))).setCell ⟨w.heap.size, 1, none⟩ (.int .i64 (n : Int))).setCell ⟨w.heap.size, 2, none⟩ (.slice A bs.length c)) w.heap.size w.heap.size F bs v n ∧
      Below w.heap.size w (((w1.setCell ⟨w.heap.size, 0, none⟩ (.int .u64 (v : Int))).setCell ⟨w.heap.size, 1, none⟩ (.int .i64 (n : Int))).setCell ⟨w.heap.size, 2, none⟩ (.slice A bs.length c)) := by
  have bl := hb.block w.heap.size (by show w.heap.size < (w.alloc O).heap.size; simp)
  have bl0 : (w.alloc O).drew.heap[w.heap.size]? = some O := heap_alloc_new w _
  have bl1 := bl.trans bl0
  rw [hO] at bl1
  have hblk := set_blk (set_blk (set_blk bl1 0 (.int .u64 (v : Int))) 1 (.int .i64 (n : Int))) 2 (.slice A bs.length c)
  have hne := own_blk_ne hown bl1 (by decide)
  have hch : Chg (fun b => b = w.heap.size) w1 (((w1.setCell ⟨w.heap.size, 0, none⟩ (.int .u64 (v : Int))).setCell ⟨w.heap.size, 1, none⟩ (.int .i64 (n : Int))).setCell ⟨w.heap.size, 2, none⟩ (.slice A bs.length c)) :=
    (((Chg.refl (fun b => b = w.heap.size) w1).setCell (p := ⟨w.heap.size, 0, none⟩) (.inl rfl) _).setCell (p := ⟨w.heap.size, 1, none⟩) (.inl rfl) _).setCell (p := ⟨w.heap.size, 2, none⟩) (.inl rfl) _
  have hsz : (w.alloc O).drew.heap.size = w.heap.size + 1 := size_alloc_w w O
  refine ⟨_, ⟨A, c, hblk, Nat.le_refl _, own_base (own_chg hown hch (fun k hk e => hne (by rw [hk, e]))) (fun k hk => by have := (hown.lt k hk).1; omega), rfl, h5, h6, h7⟩, ?_⟩
  have h1 : Below w.heap.size w w1 := (((Below.refl _ w).alloc (Nat.le_refl _) O).drew).trans (hb.mono (by omega))
  exact ((h1.setCell (p := ⟨w.heap.size, 0, none⟩) (Nat.le_refl _) _).setCell (p := ⟨w.heap.size, 1, none⟩) (Nat.le_refl _) _).setCell (p := ⟨w.heap.size, 2, none⟩) (Nat.le_refl _) _

set_option maxHeartbeats 1000000 in
theorem close_raw {B g : Nat} {F : Option Nat} {bs : List Nat} {v n : Nat} (w : World) (h : WrR w B g F bs v n) (hn : n < 8) (hl : bs.length ≤ 900000000) :
    Calls Try.prog 31 #[.pointer (some ⟨g, 0, none⟩)] w fun e w' =>
      ∃ u, e = .returned u ∧ w'.ownsRow w.heap.size 5 1 u (pack (8 * bs.length + n + 1) (strm bs v + 2 ^ (8 * bs.length + n))).length (u8s (pack (8 * bs.length + n + 1) (strm bs v + 2 ^ (8 * bs.length + n)))) ∧ Below w.heap.size w w' := by
  have hgw := h.lt
  obtain ⟨A, c, a1, a2, a3, a4, a5, a6, a7⟩ := h
  have k0 := cell_blk a1 0
  have k1 := cell_blk a1 1
  have k2 := cell_blk a1 2
  simp only [List.getElem?_toArray, List.getElem?_cons_zero, List.getElem?_cons_succ] at k0 k1 k2
  have n0 := World.new_ne w _ k0
  have n1 := World.new_ne w _ k1
  have n2 := World.new_ne w _ k2
  have hrd := Reads.of_own a3
  have hcl := fun W (hW : Below w.heap.size w W) => clone_any A bs.length c _ W ((hrd.below hW).more hW.size) (u8s_one bs) (by omega)
  have HCL := hide hcl
  have H5 := hide a5
  have H6 := hide a6
  clear hcl hrd a1 a2 a3 a4 a5 a6
  go_enter Try.func31, Try.ntmps31
  go_wp2
  go_region_held3 (fun w' => w'.cell? ⟨g, 0, none⟩ = some (.int .u64 (v : Int)) ∧ w'.cell? ⟨g, 1, none⟩ = some (.int .i64 (n : Int)) ∧ w'.cell? ⟨g, 2, none⟩ = some (.slice A bs.length c)) (go_keep) (first
      | (go_at_call 33; refine (HCL.out _ ?_).mono ?_; exact ((Below.refl _ _).alloc (Nat.le_refl _) _).drew; rintro e w1 ⟨u, rfl, hown, hb⟩; obtain ⟨A1, c1, rfl⟩ := own_form hown; have j0 : w1.cell? ⟨g, 0, none⟩ = some (.int .u64 (v : Int)) := (hb.cell (p := ⟨g, 0, none⟩) (by simp; omega)).trans (by go_simp); have j1 : w1.cell? ⟨g, 1, none⟩ = some (.int .i64 (n : Int)) := (hb.cell (p := ⟨g, 1, none⟩) (by simp; omega)).trans (by go_simp); have j2 : w1.cell? ⟨g, 2, none⟩ = some (.slice A bs.length c) := (hb.cell (p := ⟨g, 2, none⟩) (by simp; omega)).trans (by go_simp); have z0 : w1.cell? ⟨w.heap.size, 0, none⟩ = some (.int .u64 0) := (hb.cell (p := ⟨w.heap.size, 0, none⟩) (by simp)).trans (by go_simp); have y0 : w1.frozen? ⟨w.heap.size, 0, none⟩ = false := (hb.frozen (p := ⟨w.heap.size, 0, none⟩) (by simp)).trans (by go_simp); have z1 : w1.cell? ⟨w.heap.size, 1, none⟩ = some (.int .i64 0) := (hb.cell (p := ⟨w.heap.size, 1, none⟩) (by simp)).trans (by go_simp); have y1 : w1.frozen? ⟨w.heap.size, 1, none⟩ = false := (hb.frozen (p := ⟨w.heap.size, 1, none⟩) (by simp)).trans (by go_simp); have z2 : w1.cell? ⟨w.heap.size, 2, none⟩ = some (.slice none 0 0) := (hb.cell (p := ⟨w.heap.size, 2, none⟩) (by simp)).trans (by go_simp); have y2 : w1.frozen? ⟨w.heap.size, 2, none⟩ = false := (hb.frozen (p := ⟨w.heap.size, 2, none⟩) (by simp)).trans (by go_simp))
      | (go_at_call 33; refine (HCL.out _ ?_).mono ?_; exact (Below.refl _ _).drew; rintro e w1 ⟨u, rfl, hown, hb⟩; obtain ⟨A1, c1, rfl⟩ := own_form hown; have j0 : w1.cell? ⟨g, 0, none⟩ = some (.int .u64 (v : Int)) := (hb.cell (p := ⟨g, 0, none⟩) (by simp; omega)).trans (by go_simp); have j1 : w1.cell? ⟨g, 1, none⟩ = some (.int .i64 (n : Int)) := (hb.cell (p := ⟨g, 1, none⟩) (by simp; omega)).trans (by go_simp); have j2 : w1.cell? ⟨g, 2, none⟩ = some (.slice A bs.length c) := (hb.cell (p := ⟨g, 2, none⟩) (by simp; omega)).trans (by go_simp)))
  · obtain ⟨F1, hw1, hbb⟩ := close_way1 (v := v) (n := n) hb hown H5.out H6.out (by omega)
    generalize w1.alloc (.cells #[.int .u64 (v : Int), .int .i64 (n : Int), .slice A1 bs.length c1] 64) = W at *
    generalize w1.heap.size = G at *
    have HW1 := hide hw1
    have HBB := hide hbb
    clear hw1 hbb hb hown
    go_wp2_with fail
    refine (put_int 1 1 W HW1.out hn (by omega) (by omega) (by omega) (by decide) (by omega) HBB.out.size).mono ?_
    rintro e w2 ⟨rfl, bs2, v2, n2, hst, hn2, hl2, hN2⟩
    have HL2 := hide hl2
    have HN2 := hide hN2
    have HST := hide hst
    have hlb : bs2.length ≤ 1000000000 := by simp at hl2; omega
    clear hl2 hN2 hst
    go_wp2_with fail
    obtain ⟨F2, hw2, hF2, hc2⟩ := HST.out
    refine (bytes_raw w2 hw2 hn2 hlb).mono ?_
    rintro e w3 ⟨u, rfl, hown3, hb3⟩
    have H3 := hide hown3
    have HB3 := hide hb3
    have HC2 := hide hc2
    have HW2 := hide hw2
    clear hown3 hb3 hc2 hw2 hF2
    go_wp2_with fail
    go_ret
    have hsz := HBB.out.size
    have hsz2 := HC2.out.size
    obtain ⟨A2, c2, q1, q2, q3, q4, q5, q6, q7⟩ := HW2.out
    have hp := pack_of bs2 v2 n2 q5 q6 hn2
    have e1 : 8 * bs2.length + n2 = 8 * bs.length + n + 1 := by have := HL2.out; simp at this; omega
    have e2 : strm bs2 v2 = strm bs v + 2 ^ (8 * bs.length + n) := by have := HN2.out; simp at this; omega
    rw [e1, e2] at hp
    have h4 := H3.out
    rw [hp] at h4
    refine ⟨u, rfl, own_base h4 (fun k hk => by have := (h4.lt k hk).1; omega), ?_⟩
    refine (HBB.out.trans (HC2.out.below (fun k hk => ?_) hsz)).trans (HB3.out.mono (by omega))
    rcases hk with rfl | hk
    · obtain ⟨_, _, _, h, _⟩ := HW1.out; exact h
    · exact (HW1.out.ltF k hk.symm).1
  · obtain ⟨F1, hw1, hbb⟩ := close_way2 (v := v) (n := n) rfl hb hown H5.out H6.out (by omega)
    generalize ((w1.setCell ⟨w.heap.size, 0, none⟩ (.int .u64 (v : Int))).setCell ⟨w.heap.size, 1, none⟩ (.int .i64 (n : Int))).setCell ⟨w.heap.size, 2, none⟩ (.slice A1 bs.length c1) = W at *
    have HW1 := hide hw1
    have HBB := hide hbb
    clear hw1 hbb hb hown
    go_wp2_with fail
    refine (put_int 1 1 W HW1.out hn (by omega) (by omega) (by omega) (by decide) (by omega) HBB.out.size).mono ?_
    rintro e w2 ⟨rfl, bs2, v2, n2, hst, hn2, hl2, hN2⟩
    have HL2 := hide hl2
    have HN2 := hide hN2
    have HST := hide hst
    have hlb : bs2.length ≤ 1000000000 := by simp at hl2; omega
    clear hl2 hN2 hst
    go_wp2_with fail
    obtain ⟨F2, hw2, hF2, hc2⟩ := HST.out
    refine (bytes_raw w2 hw2 hn2 hlb).mono ?_
    rintro e w3 ⟨u, rfl, hown3, hb3⟩
    have H3 := hide hown3
    have HB3 := hide hb3
    have HC2 := hide hc2
    have HW2 := hide hw2
    clear hown3 hb3 hc2 hw2 hF2
    go_wp2_with fail
    go_ret
    have hsz := HBB.out.size
    have hsz2 := HC2.out.size
    obtain ⟨A2, c2, q1, q2, q3, q4, q5, q6, q7⟩ := HW2.out
    have hp := pack_of bs2 v2 n2 q5 q6 hn2
    have e1 : 8 * bs2.length + n2 = 8 * bs.length + n + 1 := by have := HL2.out; simp at this; omega
    have e2 : strm bs2 v2 = strm bs v + 2 ^ (8 * bs.length + n) := by have := HN2.out; simp at this; omega
    rw [e1, e2] at hp
    have h4 := H3.out
    rw [hp] at h4
    refine ⟨u, rfl, own_base h4 (fun k hk => by have := (h4.lt k hk).1; omega), ?_⟩
    refine (HBB.out.trans (HC2.out.below (fun k hk => ?_) hsz)).trans (HB3.out.mono (by omega))
    rcases hk with rfl | hk
    · obtain ⟨_, _, _, h, _⟩ := HW1.out; exact h
    · exact (HW1.out.ltF k hk.symm).1

/-! ### The contracts, by the stream's length L and value N -/
def Wr (w : World) (B g : Nat) (F : Option Nat) (L N : Nat) : Prop := ∃ bs v n, WrR w B g F bs v n ∧ n < 8 ∧ 8 * bs.length + n = L ∧ strm bs v = N

theorem Wr.chg {w w' : World} {B g : Nat} {F : Option Nat} {L N : Nat} {S : Nat → Prop} (h : Wr w B g F L N) (hc : Chg S w w') (hg : ¬ S g) (hF : ∀ k, F = some k → ¬ S k) : Wr w' B g F L N := by
  obtain ⟨bs, v, n, h1, h2⟩ := h
  exact ⟨bs, v, n, h1.chg hc hg hF, h2⟩
theorem Wr.lt {w : World} {B g : Nat} {F : Option Nat} {L N : Nat} (h : Wr w B g F L N) : g < w.heap.size := by
  obtain ⟨bs, v, n, h1, h2⟩ := h
  exact h1.lt
theorem Wr.ge {w : World} {B g : Nat} {F : Option Nat} {L N : Nat} (h : Wr w B g F L N) : B ≤ g := by
  obtain ⟨bs, v, n, ⟨_, _, _, h1, _⟩, h2⟩ := h
  exact h1
theorem Wr.ltF {w : World} {B g : Nat} {F : Option Nat} {L N : Nat} (h : Wr w B g F L N) : ∀ k, F = some k → B ≤ k ∧ k < w.heap.size ∧ k ≠ g := by
  obtain ⟨bs, v, n, h1, h2⟩ := h
  exact h1.ltF
theorem Wr.below {w w' : World} {B g : Nat} {F : Option Nat} {L N : Nat} (h : Wr w B g F L N) (hb : Below w.heap.size w w') : Wr w' B g F L N :=
  h.chg (Chg.of_below (S := fun _ => False) hb) (fun h => h) (fun _ _ h => h)
theorem Wr.drewN {w : World} {B g : Nat} {F : Option Nat} {L N : Nat} (h : Wr w B g F L N) (k : Nat) : Wr (w.drewN k) B g F L N :=
  h.chg ((Chg.refl (fun _ => False) w).drewN k) (fun h => h) (fun _ _ h => h)
theorem Wr.new (w : World) (B : Nat) (hB : B ≤ w.heap.size) : Wr (w.alloc (.cells #[.int .u64 0, .int .i64 0, .slice none 0 0] 64)) B w.heap.size none 0 0 :=
  ⟨[], 0, 0, ⟨none, 0, heap_alloc_new w _, hB, World.ownsRow_nil _ _ _ _, rfl, by simp, by simp, by omega⟩, by omega, rfl, rfl⟩
theorem Wr.val_lt {w : World} {B g : Nat} {F : Option Nat} {L N : Nat} (h : Wr w B g F L N) : N < 2 ^ L := by
  obtain ⟨bs, v, n, ⟨A, c, a1, a2, a3, a4, a5, a6, a7⟩, hn, rfl, rfl⟩ := h
  unfold strm
  have h1 := leN_lt bs a5
  rw [Nat.pow_add, ← pow_256]
  have h2 : 256 ^ bs.length * (v + 1) ≤ 256 ^ bs.length * 2 ^ n := Nat.mul_le_mul_left _ a6
  rw [Nat.mul_add, Nat.mul_one] at h2
  omega

/-- What Put, or a sequence of Puts, has done: the Writer of w in w'. -/
structure PutTo (w w' : World) (B g : Nat) (F F' : Option Nat) (L N : Nat) : Prop where
  wr : Wr w' B g F' L N
  row : F' = F ∨ ∃ b, F' = some b ∧ w.heap.size ≤ b
  chg : Chg (fun b => b = g ∨ some b = F) w w'

theorem PutTo.start {w : World} {B g : Nat} {F : Option Nat} {L N : Nat} (h : Wr w B g F L N) : PutTo w w B g F F L N := ⟨h, .inl rfl, Chg.refl _ _⟩
theorem PutTo.trans {w w' w'' : World} {B g : Nat} {F F' F'' : Option Nat} {L N L' N' : Nat} (h : PutTo w w' B g F F' L N) (k : PutTo w' w'' B g F' F'' L' N') : PutTo w w'' B g F F'' L' N' := by
  refine ⟨k.wr, ?_, h.chg.trans k.chg fun b hb => ?_⟩
  · rcases k.row with h1 | ⟨b, h1, h2⟩
    · rw [h1]; exact h.row
    · exact .inr ⟨b, h1, Nat.le_trans h.chg.size h2⟩
  · rcases hb with rfl | hb
    · exact .inl (.inl rfl)
    · rcases h.row with h1 | ⟨c, h1, h2⟩
      · exact .inl (.inr (by rw [hb, h1]))
      · exact .inr (by rw [h1] at hb; injection hb with hb; omega)
theorem PutTo.below {w w' w'' : World} {B g : Nat} {F F' : Option Nat} {L N : Nat} (h : PutTo w w' B g F F' L N) (k : Below w'.heap.size w' w'') : PutTo w w'' B g F F' L N :=
  ⟨h.wr.below k, h.row, h.chg.trans (Chg.of_below (S := fun _ => False) k) (fun _ h => h.elim)⟩
theorem PutTo.old {w w' : World} {B g : Nat} {F F' : Option Nat} {L N : Nat} (h : PutTo w w' B g F F' L N) (hF : ∀ k, F = some k → B ≤ k) (hB : B ≤ w.heap.size) : Below B w w' :=
  h.chg.below (fun k hk => by rcases hk with rfl | hk; exact h.wr.ge; exact hF k hk.symm) hB

theorem put_any {B g : Nat} {F : Option Nat} {L N : Nat} (x m : Int) (w : World) (h : Wr w B g F L N) (hx0 : 0 ≤ x) (hm0 : 0 ≤ m) (hm : m ≤ 64) (hx : x.toNat < 2 ^ m.toNat) (hlen : L ≤ 8000000000) (hB : B ≤ w.heap.size) :
    Calls Try.prog 29 #[.pointer (some ⟨g, 0, none⟩), .int .u64 x, .int .i64 m] w fun e w' => e = .returned (.int .i64 0) ∧
      ∃ F', PutTo w w' B g F F' (L + m.toNat) (N + x.toNat * 2 ^ L) := by
  obtain ⟨bs, v, n, h1, hn, rfl, rfl⟩ := h
  refine (put_int x m w h1 hn hx0 hm0 hm hx (by omega) hB).mono ?_
  rintro e w' ⟨rfl, bs', v', n', ⟨F', a1, a2, a3⟩, b1, b2, b3⟩
  exact ⟨rfl, F', ⟨bs', v', n', a1, b1, b2, b3⟩, a2, a3⟩

theorem len_of {B g : Nat} {F : Option Nat} {L N : Nat} (w : World) (h : Wr w B g F L N) (hl : L ≤ 8000000000) :
    Calls Try.prog 32 #[.pointer (some ⟨g, 0, none⟩)] w fun e w' => e = .returned (.int .i64 (L : Int)) ∧ ∃ k, w' = w.drewN k := by
  obtain ⟨bs, v, n, h1, hn, rfl, rfl⟩ := h
  exact len_any w h1 (by omega)

theorem bytes_of {B g : Nat} {F : Option Nat} {L N : Nat} (w : World) (h : Wr w B g F L N) (hl : L ≤ 8000000000) :
    Calls Try.prog 30 #[.pointer (some ⟨g, 0, none⟩)] w fun e w' => ∃ u, e = .returned u ∧ w'.ownsRow w.heap.size 5 1 u (pack L N).length (u8s (pack L N)) ∧ Below w.heap.size w w' := by
  obtain ⟨bs, v, n, h1, hn, rfl, rfl⟩ := h
  obtain ⟨A, c, a1, a2, a3, a4, a5, a6, a7⟩ := id h1
  rw [← pack_of bs v n a5 a6 hn]
  exact bytes_raw w h1 hn (by omega)

theorem close_of {B g : Nat} {F : Option Nat} {L N : Nat} (w : World) (h : Wr w B g F L N) (hl : L ≤ 7000000000) :
    Calls Try.prog 31 #[.pointer (some ⟨g, 0, none⟩)] w fun e w' => ∃ u, e = .returned u ∧ w'.ownsRow w.heap.size 5 1 u (pack (L + 1) (N + 2 ^ L)).length (u8s (pack (L + 1) (N + 2 ^ L))) ∧ Below w.heap.size w w' := by
  obtain ⟨bs, v, n, h1, hn, rfl, rfl⟩ := h
  exact close_raw w h1 hn (by omega)
end Go.Proofs.Ytifolinoadllbaa
