/- Texts put together: Out, OutPut, OutPutW, OutB, OutC. -/
import Derived.Test.YtohgnohifojdbaaChecked
import Derived.Test.YtohgnohifojdbaaLib
import Derived.StillTailTactics
import Derived.WalkSpells
import Derived.Deep.RegionHeld3
import Derived.Deep.DrawnRows
namespace Go.Proofs.Ytohgnohifojdbaa
section
set_option maxRecDepth 8000
open Go.RowKit
set_option linter.unusedVariables false

/-! ### Plain: the stream as a number -/
/-- The number whose bytes (least significant first) these are. -/
def leN : List Nat → Nat
  | [] => 0
  | b :: bs => b + 256 * leN bs

theorem leN_append (a b : List Nat) : leN (a ++ b) = leN a + 256 ^ a.length * leN b := by
  induction a with
  | nil => simp [leN]
  | cons x xs ih =>
    simp only [List.cons_append, leN, ih, List.length_cons, Nat.pow_succ, Nat.mul_add]
    have : 256 * (256 ^ xs.length * leN b) = 256 ^ xs.length * 256 * leN b := by rw [Nat.mul_comm (256 ^ xs.length) 256, Nat.mul_assoc]
    omega

theorem info_u8 : (Try.prog.info? 5).map (fun i => (i.zero, i.size, i.bytes)) = some (some (.int .u8 0), 1, 1) := by kernel_rfl

theorem or_add (v x n : Nat) (hv : v < 2 ^ n) : v ||| x * 2 ^ n = v + x * 2 ^ n := by
  have h := Nat.two_pow_add_eq_or_of_lt hv x
  rw [Nat.or_comm, Nat.mul_comm x, ← h]
  omega

theorem pow_bound (x n : Nat) (hx : x < 4294967296) (hn : n < 8) : x * 2 ^ n < 549755813888 ∧ 2 ^ n ≤ 128 := by
  have h : 2 ^ n ≤ 2 ^ 7 := Nat.pow_le_pow_right (by omega) (by omega)
  have h2 : (2:Nat) ^ 7 = 128 := by decide
  rw [h2] at h
  refine ⟨?_, h⟩
  have : x * 2 ^ n ≤ 4294967295 * 128 := Nat.mul_le_mul (by omega) h
  omega

/-! ### hold.add -/
theorem add_num (v x n : Nat) (hv : v < 2 ^ n) (hn : n < 8) (hx : x < 4294967296) :
    bits BinOp.or IntKind.u64 (v : Int) (IntKind.u64.wrap ((x : Int) * 2 ^ n)) = ((v + x * 2 ^ n : Nat) : Int) := by
  obtain ⟨h1, h2⟩ := pow_bound x n hx hn
  have hw : IntKind.u64.wrap ((x : Int) * 2 ^ n) = ((x * 2 ^ n : Nat) : Int) := by
    have he : ((x : Int) * 2 ^ n) = ((x * 2 ^ n : Nat) : Int) := by simp
    rw [he, IntKind.wrap_u64]
    omega
  rw [hw, u64_or_nat v (x * 2 ^ n) (by omega) (by omega), or_add v x n hv]

set_option maxHeartbeats 400000 in
theorem add_any (g : Nat) (v n : Nat) (sl : Value) (x m : Int) (w : World)
    (h : w.heap[g]? = some (.cells #[.int .u64 v, .int .i64 n, sl] 78 (0, 0))) (hv : v < 2 ^ n) (hn : n < 8) (hx0 : 0 ≤ x) (hx : x < 4294967296) (hm0 : 0 ≤ m) (hm : m ≤ 32) :
    Calls Try.prog 59 #[.pointer (some ⟨g, 0, none⟩), .int .u64 x, .int .i64 m] w fun e w' => e = .returned (.tuple #[]) ∧
      w'.heap[g]? = some (.cells #[.int .u64 ((v + x.toNat * 2 ^ n : Nat) : Int), .int .i64 ((n : Int) + m), sl] 78 (0, 0)) ∧ w.grownBy w' (some g) := by
  obtain ⟨x, rfl⟩ := Int.eq_ofNat_of_zero_le hx0
  have c0 := cell_blk h 0
  have c1 := cell_blk h 1
  have f0 := frozen_blk h 0
  have f1 := frozen_blk h 1
  simp only [List.getElem?_toArray, List.getElem?_cons_zero, List.getElem?_cons_succ] at c0 c1
  have H := hide h
  clear h
  have HV := hide hv
  clear hv
  go_enter Try.func59, Try.ntmps59
  go_wp2
  go_region
  all_goals go_wp2
  go_end0
  have e := add_num v x n HV.out hn (by omega)
  refine ⟨rfl, ?_, ?_⟩
  · have s1 := set_blk (set_blk H.out 0 (.int .u64 ((v + x * 2 ^ n : Nat) : Int))) 1 (.int .i64 ((n : Int) + m))
    simp only [Int.toNat_natCast]
    rw [← e] at s1 ⊢
    exact s1
  · exact ⟨rfl, rfl, rfl, by simp [World.setCell], fun k _ hk => by
      have hk' : k ≠ g := fun e => hk (by rw [e])
      exact (Below.heap_setCell _ _ _ _ hk').trans (Below.heap_setCell _ _ _ _ hk')⟩

/-! ### hold.whole -/
set_option maxHeartbeats 400000 in
theorem whole_no (g : Nat) (v n : Nat) (sl : Value) (w : World)
    (h : w.heap[g]? = some (.cells #[.int .u64 v, .int .i64 n, sl] 78 (0, 0))) (hn : n < 8) :
    Calls Try.prog 60 #[.pointer (some ⟨g, 0, none⟩)] w fun e w' => e = .returned (.tuple #[.int .u8 0, .bool false]) ∧ w = w' := by
  have c1 := cell_blk h 1
  simp only [List.getElem?_toArray, List.getElem?_cons_zero, List.getElem?_cons_succ] at c1
  clear h
  go_enter Try.func60, Try.ntmps60
  go_wp2
  go_ret2
  exact ⟨rfl, rfl⟩

set_option maxHeartbeats 400000 in
theorem whole_yes (g : Nat) (v n : Nat) (sl : Value) (w : World)
    (h : w.heap[g]? = some (.cells #[.int .u64 v, .int .i64 n, sl] 78 (0, 0))) (hn : 8 ≤ n) (hn' : n ≤ 64) (hv : v < 18446744073709551616) :
    Calls Try.prog 60 #[.pointer (some ⟨g, 0, none⟩)] w fun e w' => e = .returned (.tuple #[.int .u8 ((v % 256 : Nat) : Int), .bool true]) ∧
      w'.heap[g]? = some (.cells #[.int .u64 ((v / 256 : Nat) : Int), .int .i64 ((n - 8 : Nat) : Int), sl] 78 (0, 0)) ∧ w.grownBy w' (some g) := by
  have c0 := cell_blk h 0
  have c1 := cell_blk h 1
  have f0 := frozen_blk h 0
  have f1 := frozen_blk h 1
  simp only [List.getElem?_toArray, List.getElem?_cons_zero, List.getElem?_cons_succ] at c0 c1
  have H := hide h
  clear h
  go_enter Try.func60, Try.ntmps60
  go_wp2
  go_ret2
  refine ⟨?_, ?_, ?_⟩
  · simp
  · have s1 := set_blk (set_blk H.out 0 (.int .u64 ((v / 256 : Nat) : Int))) 1 (.int .i64 ((n - 8 : Nat) : Int))
    have e1 : ((v / 256 : Nat) : Int) = (v : Int) / 256 := by omega
    have e2 : ((n - 8 : Nat) : Int) = (n : Int) - 8 := by omega
    rw [e1, e2] at s1 ⊢
    exact s1
  · exact ⟨rfl, rfl, rfl, by simp [World.setCell], fun k _ hk => by
      have hk' : k ≠ g := fun e => hk (by rw [e])
      exact (Below.heap_setCell _ _ _ _ hk').trans (Below.heap_setCell _ _ _ _ hk')⟩
end

section
set_option maxRecDepth 8000
open Go.RowKit
set_option linter.unusedVariables false

/-- A Writer lies in block g, its bytes in block F: complete bytes bs, n pending bits of value v. -/
def WrR (w : World) (B g : Nat) (F : Option Nat) (bs : List Nat) (v n : Nat) : Prop :=
  ∃ A c, w.heap[g]? = some (.cells #[.int .u64 v, .int .i64 n, .slice A bs.length c] 78 (0, 0)) ∧ B ≤ g ∧
    w.ownsRow B 5 1 (.slice A bs.length c) bs.length (bs.map fun b : Nat => Value.int .u8 (b : Int)) ∧ (Value.slice A bs.length c).ownBlock = F ∧ (∀ b ∈ bs, b < 256) ∧ v < 2 ^ n ∧ n ≤ 40

theorem WrR.chg {w w' : World} {B g : Nat} {F : Option Nat} {bs : List Nat} {v n : Nat} {S : Nat → Prop} (h : WrR w B g F bs v n) (hc : Chg S w w') (hg : ¬ S g) (hF : ∀ k, F = some k → ¬ S k) : WrR w' B g F bs v n := by
  obtain ⟨A, c, h1, h2, h3, h4, h5⟩ := h
  exact ⟨A, c, hc.heap h1 hg, h2, own_chg h3 hc (fun k hk => hF k (by rw [← h4]; exact hk)), h4, h5⟩

theorem WrR.lt {w : World} {B g : Nat} {F : Option Nat} {bs : List Nat} {v n : Nat} (h : WrR w B g F bs v n) : g < w.heap.size := by
  obtain ⟨A, c, h1, _⟩ := h
  exact lt_of_heap h1
theorem WrR.ltF {w : World} {B g : Nat} {F : Option Nat} {bs : List Nat} {v n : Nat} (h : WrR w B g F bs v n) : ∀ k, F = some k → B ≤ k ∧ k < w.heap.size ∧ k ≠ g := by
  obtain ⟨A, c, h1, _, h3, h4, _⟩ := h
  intro k hk
  have h5 := h3.lt k (h4.trans hk)
  exact ⟨h5.1, h5.2, fun e => own_blk_ne h3 h1 (by decide) (by rw [h4, hk, e])⟩

/-- The Writer of world w, as Put has turned it so far. -/
def PutSt (w wr : World) (B g : Nat) (F : Option Nat) (bs : List Nat) (v n : Nat) : Prop :=
  ∃ F', WrR wr B g F' bs v n ∧ (F' = F ∨ ∃ b, F' = some b ∧ w.heap.size ≤ b) ∧ Chg (fun b => b = g ∨ some b = F) w wr

theorem PutSt.start {w : World} {B g : Nat} {F : Option Nat} {bs : List Nat} {v n : Nat} (h : WrR w B g F bs v n) : PutSt w w B g F bs v n := ⟨F, h, .inl rfl, Chg.refl _ _⟩
theorem PutSt.drew {w wr : World} {B g : Nat} {F : Option Nat} {bs : List Nat} {v n : Nat} (h : PutSt w wr B g F bs v n) : PutSt w wr.drew B g F bs v n := by
  obtain ⟨F', h1, h2, h3⟩ := h
  exact ⟨F', h1.chg (Chg.refl (fun _ => False) wr).drew (fun h => h) (fun _ _ h => h), h2, h3.drew⟩

theorem two_pow_add' (n m : Nat) : 2 ^ (n + m) = 2 ^ n * 2 ^ m := Nat.pow_add 2 n m

theorem add_lt (v x n m : Nat) (hv : v < 2 ^ n) (hx : x < 2 ^ m) : v + x * 2 ^ n < 2 ^ (n + m) := by
  rw [Nat.pow_add]
  have h1 : (x + 1) * 2 ^ n ≤ 2 ^ m * 2 ^ n := Nat.mul_le_mul_right _ hx
  rw [Nat.add_mul, Nat.one_mul] at h1
  rw [Nat.mul_comm (2 ^ n) (2 ^ m)]
  omega

/-- 'add' of m bits of value q. -/
theorem add_st {w wr : World} {B g : Nat} {F : Option Nat} {bs : List Nat} {v n q : Nat} (m : Int) (h : PutSt w wr B g F bs v n) (hn : n < 8) (hm0 : 0 ≤ m) (hm : m ≤ 32) (hq : q < 2 ^ m.toNat) :
    Calls Try.prog 59 #[.pointer (some ⟨g, 0, none⟩), .int .u64 (q : Int), .int .i64 m] wr fun e w' => e = .returned (.tuple #[]) ∧ PutSt w w' B g F bs (v + q * 2 ^ n) (n + m.toNat) := by
  obtain ⟨F', ⟨A, c, a1, a2, a3, a4, a5, a6, a7⟩, hF, hc⟩ := h
  have hne := WrR.ltF (⟨A, c, a1, a2, a3, a4, a5, a6, a7⟩ : WrR wr B g F' bs v n)
  have h1 : 2 ^ m.toNat ≤ 2 ^ 32 := Nat.pow_le_pow_right (by omega) (by omega)
  have h2 : (2:Nat) ^ 32 = 4294967296 := by decide
  refine (add_any g v n _ (q : Int) m wr a1 a6 hn (by omega) (by omega) hm0 hm).mono ?_
  rintro e w1 ⟨rfl, hw1, hg⟩
  have e1 : ((n : Int) + m) = ((n + m.toNat : Nat) : Int) := by omega
  rw [e1, Int.toNat_natCast] at hw1
  refine ⟨rfl, F', ⟨A, c, hw1, a2, ?_, a4, a5, add_lt v q n m.toNat a6 hq, by omega⟩, hF, hc.grown hg (fun k hk => .inl (.inl (by injection hk with hk; exact hk.symm)))⟩
  exact a3.kept hg (.inr (by rw [a4]; intro e; exact (hne g e).2.2 rfl))

theorem whole_st_no {w wr : World} {B g : Nat} {F : Option Nat} {bs : List Nat} {v n : Nat} (h : PutSt w wr B g F bs v n) (hn : n < 8) :
    Calls Try.prog 60 #[.pointer (some ⟨g, 0, none⟩)] wr fun e w' => e = .returned (.tuple #[.int .u8 0, .bool false]) ∧ wr = w' := by
  obtain ⟨F', ⟨A, c, a1, _⟩, _⟩ := h
  exact whole_no g v n _ wr a1 hn

theorem whole_st {w wr : World} {B g : Nat} {F : Option Nat} {bs : List Nat} {v n : Nat} (h : PutSt w wr B g F bs v n) (hn : 8 ≤ n) :
    Calls Try.prog 60 #[.pointer (some ⟨g, 0, none⟩)] wr fun e w' => e = .returned (.tuple #[.int .u8 ((v % 256 : Nat) : Int), .bool true]) ∧ PutSt w w' B g F bs (v / 256) (n - 8) := by
  obtain ⟨F', ⟨A, c, a1, a2, a3, a4, a5, a6, a7⟩, hF, hc⟩ := h
  have hne := WrR.ltF (⟨A, c, a1, a2, a3, a4, a5, a6, a7⟩ : WrR wr B g F' bs v n)
  have h1 : 2 ^ n ≤ 2 ^ 40 := Nat.pow_le_pow_right (by omega) (by omega)
  have h2 : (2:Nat) ^ 40 = 1099511627776 := by decide
  refine (whole_yes g v n _ wr a1 hn (by omega) (by omega)).mono ?_
  rintro e w1 ⟨rfl, hw1, hg⟩
  refine ⟨rfl, F', ⟨A, c, hw1, a2, ?_, a4, a5, ?_, by omega⟩, hF, hc.grown hg (fun k hk => .inl (.inl (by injection hk with hk; exact hk.symm)))⟩
  · exact a3.kept hg (.inr (by rw [a4]; intro e; exact (hne g e).2.2 rfl))
  · have : 2 ^ n = 2 ^ (n - 8) * 256 := by rw [← Nat.pow_add 2 (n - 8) 8]; congr 1; omega
    exact Nat.div_lt_of_lt_mul (by omega)

/-- Behind the append and the store. -/
theorem PutSt.push {w w1 w3 : World} {B g : Nat} {F F' : Option Nat} {bs : List Nat} {v n x : Nat} {A : Option Addr} {c : Nat} {v' : Value}
    (h : WrR w1 B g F' bs v n) (a4 : (Value.slice A bs.length c).ownBlock = F') (hx : x < 256)
    (hF : F' = F ∨ ∃ b, F' = some b ∧ w.heap.size ≤ b) (hc : Chg (fun b => b = g ∨ some b = F) w w1)
    (hown : w3.ownsRow B 5 1 v' (bs.length + 1) ((bs.map fun b : Nat => Value.int .u8 (b : Int)) ++ [.int .u8 (x : Int)]))
    (hg3 : (w1.alloc (.cells #[.int .u8 (x : Int)] 5)).grownBy w3 (Value.slice A bs.length c).ownBlock) (hat : v'.ownBlock = (Value.slice A bs.length c).ownBlock ∨ v'.ownBlock = some (w1.heap.size + 1)) :
    PutSt w (w3.setCell ⟨g, 2, none⟩ v') B g F (bs ++ [x]) v n := by
  have hne := h.ltF
  obtain ⟨A0, c0, a1, a2, a3, a40, a5, a6, a7⟩ := h
  have hg1 : g < w1.heap.size := lt_of_heap a1
  have hgF : (Value.slice A bs.length c).ownBlock ≠ some g := by rw [a4]; intro e; exact (hne g e).2.2 rfl
  have h3 := (hg3.block g (by simp; omega) (Ne.symm hgF)).trans (alloc_far a1 _)
  have h4 := set_blk h3 2 v'
  obtain ⟨A', c', rfl⟩ := own_form hown
  have hv'g : (Value.slice A' (bs.length + 1) c').ownBlock ≠ some g := own_blk_ne hown h3 (by decide)
  have hcw3 : Chg (fun b => b = g ∨ some b = F) w w3 := (hc.alloc _).grown hg3 (fun k hk => by
    rw [a4] at hk
    rcases hF with rfl | ⟨b, hb, hbl⟩
    · exact .inl (.inr hk.symm)
    · rw [hb] at hk; injection hk with hk; exact .inr (by omega))
  refine ⟨(Value.slice A' (bs.length + 1) c').ownBlock, ⟨A', c', ?_, a2, ?_, ?_, ?_, a6, a7⟩, ?_, hcw3.setCell (.inl (.inl rfl)) _⟩
  · simpa using h4
  · have h5 := own_chg hown (Chg.setCell (S := fun b => b = g) (Chg.refl _ w3) (p := ⟨g, 2, none⟩) (.inl rfl) (.slice A' (bs.length + 1) c')) (fun k hk e => hv'g (by rw [hk, e]))
    simpa using h5
  · simp
  · intro b hb
    rw [List.mem_append, List.mem_singleton] at hb
    rcases hb with hb | rfl
    · exact a5 b hb
    · exact hx
  · rcases hat with h | h
    · rw [h, a4]; exact hF
    · exact .inr ⟨_, h, by have := hc.size; omega⟩

/-- The stream as a number. -/
def strm (bs : List Nat) (v : Nat) : Nat := leN bs + 256 ^ bs.length * v

theorem strm_push (bs : List Nat) (v : Nat) : strm (bs ++ [v % 256]) (v / 256) = strm bs v := by
  unfold strm
  rw [leN_append]
  simp only [leN, List.length_append, List.length_cons, List.length_nil, Nat.mul_zero, Nat.add_zero, Nat.zero_add, Nat.pow_succ]
  have h := Nat.div_add_mod v 256
  have : 256 ^ bs.length * v = 256 ^ bs.length * (256 * (v / 256) + v % 256) := by rw [h]
  rw [this, Nat.mul_add, Nat.mul_assoc]
  omega

theorem pow_256 (k : Nat) : 256 ^ k = 2 ^ (8 * k) := by rw [Nat.pow_mul]

/-- 'add' of x's low k bits, then the rest of x: nothing is lost. -/
theorem strm_add (bs : List Nat) (v n y k : Nat) : strm bs (v + y % 2 ^ k * 2 ^ n) + y / 2 ^ k * 2 ^ (8 * bs.length + (n + k)) = strm bs v + y * 2 ^ (8 * bs.length + n) := by
  unfold strm
  rw [pow_256, Nat.mul_add]
  have e1 : 2 ^ (8 * bs.length + (n + k)) = 2 ^ (8 * bs.length) * 2 ^ n * 2 ^ k := by rw [Nat.pow_add, Nat.pow_add, Nat.mul_assoc]
  have e2 : 2 ^ (8 * bs.length + n) = 2 ^ (8 * bs.length) * 2 ^ n := Nat.pow_add _ _ _
  rw [e1, e2]
  have h := Nat.div_add_mod y (2 ^ k)
  generalize 2 ^ (8 * bs.length) = X at *
  generalize 2 ^ n = Y at *
  generalize 2 ^ k = Z at *
  generalize y / Z = q at *
  generalize y % Z = r at *
  subst h
  have e3 : q * (X * Y * Z) = Z * q * (X * Y) := by rw [Nat.mul_comm q, Nat.mul_comm (Z * q), Nat.mul_assoc (X * Y)]
  have e4 : X * (r * Y) = r * (X * Y) := by rw [← Nat.mul_assoc, Nat.mul_comm X r, Nat.mul_assoc]
  rw [e3, e4, Nat.add_mul]
  omega
end

section
set_option maxRecDepth 8000
open Go.RowKit
set_option linter.unusedVariables false

def putInv (w : World) (B g : Nat) (F : Option Nat) (L T : Nat) (wr : World) (y r : Nat) : Prop :=
  ∃ bs v n, PutSt w wr B g F bs v n ∧ n < 8 ∧ y < 2 ^ r ∧ r ≤ 64 ∧ 8 * bs.length + n + r = L ∧ strm bs v + y * 2 ^ (8 * bs.length + n) = T
def putMid (w : World) (B g : Nat) (F : Option Nat) (L T : Nat) (wr : World) : Prop :=
  ∃ bs v n, PutSt w wr B g F bs v n ∧ 8 * bs.length + n = L ∧ strm bs v = T
def pendOf (g : Nat) (w : World) : Nat := match w.cell? ⟨g, 1, none⟩ with | some (.int _ k) => k.toNat | _ => 0

theorem mask_num (y r : Nat) (hy : y < 18446744073709551616) (hr : r ≤ 32) :
    bits BinOp.and IntKind.u64 (y : Int) (IntKind.u64.wrap (IntKind.u64.wrap (2 ^ r) - 1)) = ((y % 2 ^ r : Nat) : Int) := by
  have h1 : 2 ^ r ≤ 2 ^ 32 := Nat.pow_le_pow_right (by omega) hr
  have h2 : (2:Nat) ^ 32 = 4294967296 := by decide
  have h3 : 0 < 2 ^ r := Nat.pow_pos (by omega)
  have e0 : ((2 : Int) ^ r) = ((2 ^ r : Nat) : Int) := by simp
  have e1 : IntKind.u64.wrap (2 ^ r) = ((2 ^ r : Nat) : Int) := by rw [e0, IntKind.wrap_u64]; omega
  have e2 : IntKind.u64.wrap (IntKind.u64.wrap (2 ^ r) - 1) = ((2 ^ r - 1 : Nat) : Int) := by rw [e1, IntKind.wrap_u64]; omega
  rw [e2, u64_and_nat y (2 ^ r - 1) hy (by omega), Nat.and_two_pow_sub_one_eq_mod]
theorem mask_32 (y : Nat) (hy : y < 18446744073709551616) :
    bits BinOp.and IntKind.u64 (y : Int) 4294967295 = ((y % 2 ^ 32 : Nat) : Int) := mask_num y 32 hy (by omega)
theorem wrap_a : IntKind.u64.wrap 4294967296 = 4294967296 := by decide
theorem wrap_b : IntKind.u64.wrap (4294967296 - 1) = 4294967295 := by decide

theorem pend_of {w : World} {g v n : Nat} {sl : Value} {t : TypeId} (h : w.heap[g]? = some (.cells #[.int .u64 v, .int .i64 (n : Int), sl] t (0, 0))) : pendOf g w = n := by
  unfold pendOf
  rw [cell_blk h 1]
  simp
theorem lt64 {y r : Nat} (h : y < 2 ^ r) (hr : r ≤ 64) : y < 18446744073709551616 := by
  have h1 : 2 ^ r ≤ 2 ^ 64 := Nat.pow_le_pow_right (by omega) hr
  have h2 : (2:Nat) ^ 64 = 18446744073709551616 := by decide
  omega

theorem PutSt.pend {w wr : World} {B g : Nat} {F : Option Nat} {bs : List Nat} {v n : Nat} (h : PutSt w wr B g F bs v n) : pendOf g wr = n := by
  obtain ⟨F', ⟨A, c, a1, _⟩, _⟩ := h
  exact pend_of a1

/-- The round's end: y and r less k bits. -/
theorem putInv.next {w wr : World} {B g : Nat} {F : Option Nat} {L T y r k : Nat} {bs : List Nat} {v n : Nat} {bs2 : List Nat} {v2 n2 : Nat} (h : PutSt w wr B g F bs2 v2 n2)
    (hn2 : n2 < 8) (hl2 : 8 * bs2.length + n2 = 8 * bs.length + (n + k)) (ht2 : strm bs2 v2 = strm bs (v + y % 2 ^ k * 2 ^ n)) (hk : k ≤ r) (hr : r ≤ 64) (hy : y < 2 ^ r)
    (hl : 8 * bs.length + n + r = L) (ht : strm bs v + y * 2 ^ (8 * bs.length + n) = T) : putInv w B g F L T wr (y / 2 ^ k) (r - k) := by
  refine ⟨bs2, v2, n2, h, hn2, ?_, by omega, by omega, ?_⟩
  · have e : 2 ^ r = 2 ^ k * 2 ^ (r - k) := by rw [← Nat.pow_add]; congr 1; omega
    exact Nat.div_lt_of_lt_mul (by rw [← e]; exact hy)
  · rw [ht2, hl2, ← ht]
    exact strm_add bs v n y k

set_option maxHeartbeats 8000000 in
theorem put_ok (B g : Nat) (F : Option Nat) (bs : List Nat) (v n : Nat) (x m : Nat) (w : World) (h : WrR w B g F bs v n) (hn : n < 8) (hm : m ≤ 64) (hx : x < 2 ^ m) (hlen : bs.length ≤ 1000000000) (hB : B ≤ w.heap.size)
    (hq : ((m : Int) < 64 ∧ ((x : Int) / 2 ^ m != 0) = false ∧ decide ((m : Int) < 64) = true) ∨ m = 64) :
    Calls Try.prog 35 #[.pointer (some ⟨g, 0, none⟩), .int .u64 (x : Int), .int .i64 (m : Int)] w fun e w' => e = .returned (.int .i64 0) ∧
      ∃ bs' v' n', PutSt w w' B g F bs' v' n' ∧ n' < 8 ∧ 8 * bs'.length + n' = 8 * bs.length + n + m ∧ strm bs' v' = strm bs v + x * 2 ^ (8 * bs.length + n) := by
  have hstart : putInv w B g F (8 * bs.length + n + m) (strm bs v + x * 2 ^ (8 * bs.length + n)) w x m := ⟨bs, v, n, PutSt.start h, hn, hx, hm, rfl, rfl⟩
  obtain ⟨L, hL⟩ : ∃ L, L = 8 * bs.length + n + m := ⟨_, rfl⟩
  obtain ⟨T, hT⟩ : ∃ T, T = strm bs v + x * 2 ^ (8 * bs.length + n) := ⟨_, rfl⟩
  have hLb : L ≤ 9000000000 := by omega
  rw [← hL, ← hT] at hstart
  have HL := hide hL
  have HT := hide hT
  have HS := hide hstart
  have HB := hide hB
  have HLb := hide hLb
  clear hL hT hstart hn hx hlen h hB hLb
  obtain ⟨i0, hi, hz0, hz1, hz2⟩ := info_parts info_u8
  rcases hq with ⟨h64, hq', hd⟩ | h64
  · go_enter Try.func35, Try.ntmps35
    go_wp2
    go_loopw [1, 2] (fun s1 s2 wr => ∃ y r : Nat, s1 = .int .u64 (y : Int) ∧ s2 = .int .i64 (r : Int) ∧ putInv w B g F L T wr y r) (fun _ s2 _ => (intOf s2).toNat)
    case atStart => exact ⟨x, m, rfl, rfl, HS.out⟩
    case round =>
      obtain ⟨y, r, rfl, rfl, hinv⟩ := hrel
      obtain ⟨bs1, v1, n1, hst, hn1, hy, hr, hl, ht⟩ := hinv
      have HST := hide hst
      have HY := hide hy
      have HLL := hide hl
      have HTT := hide ht
      clear hst hy hl ht
      by_cases h0 : r = 0
      · subst h0
        go_wp2
        go_ret
        refine ⟨rfl, bs1, v1, n1, HST.out, hn1, by rw [← HL.out, ← HLL.out]; omega, ?_⟩
        rw [← HT.out, ← HTT.out]
        have := HY.out
        have : y = 0 := by omega
        rw [this]; omega
      · have hym := lt64 HY.out hr
        have HYM := hide hym
        clear hym
        have hB1 := HB.out
        by_cases h32 : r ≤ 32
        · obtain ⟨q, hq0⟩ : ∃ q, q = y % 2 ^ r := ⟨_, rfl⟩
          have e1 := mask_num y r HYM.out h32
          rw [← hq0] at e1
          have E1 := hide e1
          have HQ := hide hq0
          clear e1 hq0
          go_wp2
          go_still_tail 9, (by kernel_rfl)
          rw [E1.out]
          have hst' := HST.out.drew
          change wpList _ _ _ _ _ wr.drew
          generalize wr.drew = wd at hst' ⊢
          have hqlt : q < 2 ^ r := by rw [HQ.out]; exact Nat.mod_lt _ (Nat.pow_pos (by omega))
          have HC := hide (add_st (r : Int) hst' hn1 (by omega) (by omega) (by simpa using hqlt))
          clear hst' hqlt
          go_wp2_with fail
          refine HC.out.mono ?_
          rintro e w1 ⟨rfl, hst1⟩
          rw [Int.toNat_natCast] at hst1
          have HS1 := hide hst1
          clear hst1 HC
          go_wp2_with fail
          go_loopw [8] (fun _ wr2 => putMid w B g F (8 * bs1.length + (n1 + r)) (strm bs1 (v1 + q * 2 ^ n1)) wr2) (fun _ wr2 => pendOf g wr2)
          case atStart => exact ⟨bs1, _, _, HS1.out, rfl, rfl⟩
          case round =>
            obtain ⟨bs2, v2, n2, hst2, hl2, ht2⟩ := hrel
            have HS2 := hide hst2
            have HL2 := hide hl2
            have HT2 := hide ht2
            clear hst2 hl2 ht2
            by_cases hn2 : n2 < 8
            · go_wp2_with (go_at_call 60; refine (whole_st_no HS2.out hn2).mono ?_; rintro e w2 ⟨rfl, rfl⟩)
              go_roundw
              case rel =>
                refine ⟨y / 2 ^ r, r - r, by simp, by simp, ?_⟩
                exact putInv.next HS2.out hn2 HL2.out (by rw [HT2.out, HQ.out]) (by omega) hr HY.out HLL.out HTT.out
              case measure => simp [intOf]; omega
            · obtain ⟨x2, hx2⟩ : ∃ x2, x2 = v2 % 256 := ⟨_, rfl⟩
              have c2 := whole_st HS2.out (by omega)
              rw [← hx2] at c2
              have HC2 := hide c2
              have HX2 := hide hx2
              have hx256 : x2 < 256 := by omega
              have hbl : bs2.length ≤ 2000000000 := by have := HL2.out; have := HLL.out; have := HLb.out; omega
              clear c2 hx2
              go_wp2_with (first
                | (go_at_call 60; refine HC2.out.mono ?_; rintro e w2 ⟨rfl, F3, hw3, hF3, hc3⟩; have hb3 : B ≤ w2.heap.size := Nat.le_trans hB1 hc3.size; obtain ⟨A3, c3, b1, b2, b3, b4, b5, b6, b7⟩ := id hw3; have HW3 := hide hw3; have k0 := cell_blk b1 2; have k1 := frozen_blk b1 2; simp only [List.getElem?_toArray, List.getElem?_cons_zero, List.getElem?_cons_succ] at k0; have HB1 := hide b1; have HF3 := hide hF3; have HB4 := hide b4; clear hw3 b1 b2 hF3 b4 b5 b6 b7)
                | (at_builtin; refine wpList_append_any _ rfl (.tmp 57) (.tmp 59) _ rfl B 5 i0 _ 1 1 Try.underlying22 hi hz0 hz1 hz2 rfl (by omega) (.slice A3 bs2.length c3) bs2.length _ rfl (b3.alloc _) (w2.heap.size + 1) (some ⟨w2.heap.size, 0, none⟩) 1 1 [.int .u8 (x2 : Int)] rfl (reads_new w2 _ _) (by simp [Value.oneCell']) (by unfold maxLen; omega) (by omega) (by simp; omega) ?_; intro v' w3 hown hg3 hat; have hlt := lt_of_heap HB1.out; have hgF := own_blk_ne b3 HB1.out (by decide); have h3 := (hg3.block g (by simp; omega) (Ne.symm hgF)).trans (alloc_far HB1.out _); have m0 := cell_blk h3 2; have m1 := frozen_blk h3 2; simp only [List.getElem?_toArray, List.getElem?_cons_zero, List.getElem?_cons_succ] at m0; obtain ⟨A4, c4, rfl⟩ := own_form hown; simp only [size_alloc_w] at hat; have HP := hide (PutSt.push HW3.out HB4.out hx256 HF3.out hc3 hown hg3 hat); clear hown hg3 hat h3))
              go_roundw
              case rel => exact ⟨_, _, _, HP.out, by rw [← HL2.out]; simp; omega, by rw [← HT2.out, HX2.out]; exact strm_push _ _⟩
              case measure => rw [HP.out.pend, HS2.out.pend]; omega
        · obtain ⟨q, hq0⟩ : ∃ q, q = y % 2 ^ 32 := ⟨_, rfl⟩
          have e1 := mask_32 y HYM.out
          rw [← hq0] at e1
          have E1 := hide e1
          have HQ := hide hq0
          clear e1 hq0
          go_wp2
          go_still_tail 9, (by kernel_rfl)
          rw [wrap_a, wrap_b, E1.out]
          have hst' := HST.out.drew
          change wpList _ _ _ _ _ wr.drew
          generalize wr.drew = wd at hst' ⊢
          have hqlt : q < 2 ^ 32 := by rw [HQ.out]; exact Nat.mod_lt _ (Nat.pow_pos (by omega))
          have HC := hide (add_st 32 hst' hn1 (by omega) (by omega) (by simpa using hqlt))
          clear hst' hqlt
          go_wp2_with fail
          refine HC.out.mono ?_
          rintro e w1 ⟨rfl, hst1⟩
          change PutSt _ _ _ _ _ _ _ (n1 + 32) at hst1
          have HS1 := hide hst1
          clear hst1 HC
          go_wp2_with fail
          go_loopw [8] (fun _ wr2 => putMid w B g F (8 * bs1.length + (n1 + 32)) (strm bs1 (v1 + q * 2 ^ n1)) wr2) (fun _ wr2 => pendOf g wr2)
          case atStart => exact ⟨bs1, _, _, HS1.out, rfl, rfl⟩
          case round =>
            obtain ⟨bs2, v2, n2, hst2, hl2, ht2⟩ := hrel
            have HS2 := hide hst2
            have HL2 := hide hl2
            have HT2 := hide ht2
            clear hst2 hl2 ht2
            by_cases hn2 : n2 < 8
            · go_wp2_with (go_at_call 60; refine (whole_st_no HS2.out hn2).mono ?_; rintro e w2 ⟨rfl, rfl⟩)
              go_roundw
              case rel =>
                refine ⟨y / 2 ^ 32, r - 32, by simp, by simp; omega, ?_⟩
                exact putInv.next HS2.out hn2 HL2.out (by rw [HT2.out, HQ.out]) (by omega) hr HY.out HLL.out HTT.out
              case measure => simp [intOf]; omega
            · obtain ⟨x2, hx2⟩ : ∃ x2, x2 = v2 % 256 := ⟨_, rfl⟩
              have c2 := whole_st HS2.out (by omega)
              rw [← hx2] at c2
              have HC2 := hide c2
              have HX2 := hide hx2
              have hx256 : x2 < 256 := by omega
              have hbl : bs2.length ≤ 2000000000 := by have := HL2.out; have := HLL.out; have := HLb.out; omega
              clear c2 hx2
              go_wp2_with (first
                | (go_at_call 60; refine HC2.out.mono ?_; rintro e w2 ⟨rfl, F3, hw3, hF3, hc3⟩; have hb3 : B ≤ w2.heap.size := Nat.le_trans hB1 hc3.size; obtain ⟨A3, c3, b1, b2, b3, b4, b5, b6, b7⟩ := id hw3; have HW3 := hide hw3; have k0 := cell_blk b1 2; have k1 := frozen_blk b1 2; simp only [List.getElem?_toArray, List.getElem?_cons_zero, List.getElem?_cons_succ] at k0; have HB1 := hide b1; have HF3 := hide hF3; have HB4 := hide b4; clear hw3 b1 b2 hF3 b4 b5 b6 b7)
                | (at_builtin; refine wpList_append_any _ rfl (.tmp 57) (.tmp 59) _ rfl B 5 i0 _ 1 1 Try.underlying22 hi hz0 hz1 hz2 rfl (by omega) (.slice A3 bs2.length c3) bs2.length _ rfl (b3.alloc _) (w2.heap.size + 1) (some ⟨w2.heap.size, 0, none⟩) 1 1 [.int .u8 (x2 : Int)] rfl (reads_new w2 _ _) (by simp [Value.oneCell']) (by unfold maxLen; omega) (by omega) (by simp; omega) ?_; intro v' w3 hown hg3 hat; have hlt := lt_of_heap HB1.out; have hgF := own_blk_ne b3 HB1.out (by decide); have h3 := (hg3.block g (by simp; omega) (Ne.symm hgF)).trans (alloc_far HB1.out _); have m0 := cell_blk h3 2; have m1 := frozen_blk h3 2; simp only [List.getElem?_toArray, List.getElem?_cons_zero, List.getElem?_cons_succ] at m0; obtain ⟨A4, c4, rfl⟩ := own_form hown; simp only [size_alloc_w] at hat; have HP := hide (PutSt.push HW3.out HB4.out hx256 HF3.out hc3 hown hg3 hat); clear hown hg3 hat h3))
              go_roundw
              case rel => exact ⟨_, _, _, HP.out, by rw [← HL2.out]; simp; omega, by rw [← HT2.out, HX2.out]; exact strm_push _ _⟩
              case measure => rw [HP.out.pend, HS2.out.pend]; omega
  · have h64' : m = 64 := h64
    have HM := hide h64
    subst h64
    go_enter Try.func35, Try.ntmps35
    go_wp2
    go_loopw [1, 2] (fun s1 s2 wr => ∃ y r : Nat, s1 = .int .u64 (y : Int) ∧ s2 = .int .i64 (r : Int) ∧ putInv w B g F L T wr y r) (fun _ s2 _ => (intOf s2).toNat)
    case atStart => exact ⟨x, 64, rfl, rfl, HS.out⟩
    case round =>
      obtain ⟨y, r, rfl, rfl, hinv⟩ := hrel
      obtain ⟨bs1, v1, n1, hst, hn1, hy, hr, hl, ht⟩ := hinv
      have HST := hide hst
      have HY := hide hy
      have HLL := hide hl
      have HTT := hide ht
      clear hst hy hl ht
      by_cases h0 : r = 0
      · subst h0
        go_wp2
        go_ret
        refine ⟨rfl, bs1, v1, n1, HST.out, hn1, by rw [← HL.out, ← HLL.out]; omega, ?_⟩
        rw [← HT.out, ← HTT.out]
        have := HY.out
        have : y = 0 := by omega
        rw [this]; omega
      · have hym := lt64 HY.out hr
        have HYM := hide hym
        clear hym
        have hB1 := HB.out
        by_cases h32 : r ≤ 32
        · obtain ⟨q, hq0⟩ : ∃ q, q = y % 2 ^ r := ⟨_, rfl⟩
          have e1 := mask_num y r HYM.out h32
          rw [← hq0] at e1
          have E1 := hide e1
          have HQ := hide hq0
          clear e1 hq0
          go_wp2
          go_still_tail 9, (by kernel_rfl)
          rw [E1.out]
          have hst' := HST.out.drew
          change wpList _ _ _ _ _ wr.drew
          generalize wr.drew = wd at hst' ⊢
          have hqlt : q < 2 ^ r := by rw [HQ.out]; exact Nat.mod_lt _ (Nat.pow_pos (by omega))
          have HC := hide (add_st (r : Int) hst' hn1 (by omega) (by omega) (by simpa using hqlt))
          clear hst' hqlt
          go_wp2_with fail
          refine HC.out.mono ?_
          rintro e w1 ⟨rfl, hst1⟩
          rw [Int.toNat_natCast] at hst1
          have HS1 := hide hst1
          clear hst1 HC
          go_wp2_with fail
          go_loopw [8] (fun _ wr2 => putMid w B g F (8 * bs1.length + (n1 + r)) (strm bs1 (v1 + q * 2 ^ n1)) wr2) (fun _ wr2 => pendOf g wr2)
          case atStart => exact ⟨bs1, _, _, HS1.out, rfl, rfl⟩
          case round =>
            obtain ⟨bs2, v2, n2, hst2, hl2, ht2⟩ := hrel
            have HS2 := hide hst2
            have HL2 := hide hl2
            have HT2 := hide ht2
            clear hst2 hl2 ht2
            by_cases hn2 : n2 < 8
            · go_wp2_with (go_at_call 60; refine (whole_st_no HS2.out hn2).mono ?_; rintro e w2 ⟨rfl, rfl⟩)
              go_roundw
              case rel =>
                refine ⟨y / 2 ^ r, r - r, by simp, by simp, ?_⟩
                exact putInv.next HS2.out hn2 HL2.out (by rw [HT2.out, HQ.out]) (by omega) hr HY.out HLL.out HTT.out
              case measure => simp [intOf]; omega
            · obtain ⟨x2, hx2⟩ : ∃ x2, x2 = v2 % 256 := ⟨_, rfl⟩
              have c2 := whole_st HS2.out (by omega)
              rw [← hx2] at c2
              have HC2 := hide c2
              have HX2 := hide hx2
              have hx256 : x2 < 256 := by omega
              have hbl : bs2.length ≤ 2000000000 := by have := HL2.out; have := HLL.out; have := HLb.out; omega
              clear c2 hx2
              go_wp2_with (first
                | (go_at_call 60; refine HC2.out.mono ?_; rintro e w2 ⟨rfl, F3, hw3, hF3, hc3⟩; have hb3 : B ≤ w2.heap.size := Nat.le_trans hB1 hc3.size; obtain ⟨A3, c3, b1, b2, b3, b4, b5, b6, b7⟩ := id hw3; have HW3 := hide hw3; have k0 := cell_blk b1 2; have k1 := frozen_blk b1 2; simp only [List.getElem?_toArray, List.getElem?_cons_zero, List.getElem?_cons_succ] at k0; have HB1 := hide b1; have HF3 := hide hF3; have HB4 := hide b4; clear hw3 b1 b2 hF3 b4 b5 b6 b7)
                | (at_builtin; refine wpList_append_any _ rfl (.tmp 57) (.tmp 59) _ rfl B 5 i0 _ 1 1 Try.underlying22 hi hz0 hz1 hz2 rfl (by omega) (.slice A3 bs2.length c3) bs2.length _ rfl (b3.alloc _) (w2.heap.size + 1) (some ⟨w2.heap.size, 0, none⟩) 1 1 [.int .u8 (x2 : Int)] rfl (reads_new w2 _ _) (by simp [Value.oneCell']) (by unfold maxLen; omega) (by omega) (by simp; omega) ?_; intro v' w3 hown hg3 hat; have hlt := lt_of_heap HB1.out; have hgF := own_blk_ne b3 HB1.out (by decide); have h3 := (hg3.block g (by simp; omega) (Ne.symm hgF)).trans (alloc_far HB1.out _); have m0 := cell_blk h3 2; have m1 := frozen_blk h3 2; simp only [List.getElem?_toArray, List.getElem?_cons_zero, List.getElem?_cons_succ] at m0; obtain ⟨A4, c4, rfl⟩ := own_form hown; simp only [size_alloc_w] at hat; have HP := hide (PutSt.push HW3.out HB4.out hx256 HF3.out hc3 hown hg3 hat); clear hown hg3 hat h3))
              go_roundw
              case rel => exact ⟨_, _, _, HP.out, by rw [← HL2.out]; simp; omega, by rw [← HT2.out, HX2.out]; exact strm_push _ _⟩
              case measure => rw [HP.out.pend, HS2.out.pend]; omega
        · obtain ⟨q, hq0⟩ : ∃ q, q = y % 2 ^ 32 := ⟨_, rfl⟩
          have e1 := mask_32 y HYM.out
          rw [← hq0] at e1
          have E1 := hide e1
          have HQ := hide hq0
          clear e1 hq0
          go_wp2
          go_still_tail 9, (by kernel_rfl)
          rw [wrap_a, wrap_b, E1.out]
          have hst' := HST.out.drew
          change wpList _ _ _ _ _ wr.drew
          generalize wr.drew = wd at hst' ⊢
          have hqlt : q < 2 ^ 32 := by rw [HQ.out]; exact Nat.mod_lt _ (Nat.pow_pos (by omega))
          have HC := hide (add_st 32 hst' hn1 (by omega) (by omega) (by simpa using hqlt))
          clear hst' hqlt
          go_wp2_with fail
          refine HC.out.mono ?_
          rintro e w1 ⟨rfl, hst1⟩
          change PutSt _ _ _ _ _ _ _ (n1 + 32) at hst1
          have HS1 := hide hst1
          clear hst1 HC
          go_wp2_with fail
          go_loopw [8] (fun _ wr2 => putMid w B g F (8 * bs1.length + (n1 + 32)) (strm bs1 (v1 + q * 2 ^ n1)) wr2) (fun _ wr2 => pendOf g wr2)
          case atStart => exact ⟨bs1, _, _, HS1.out, rfl, rfl⟩
          case round =>
            obtain ⟨bs2, v2, n2, hst2, hl2, ht2⟩ := hrel
            have HS2 := hide hst2
            have HL2 := hide hl2
            have HT2 := hide ht2
            clear hst2 hl2 ht2
            by_cases hn2 : n2 < 8
            · go_wp2_with (go_at_call 60; refine (whole_st_no HS2.out hn2).mono ?_; rintro e w2 ⟨rfl, rfl⟩)
              go_roundw
              case rel =>
                refine ⟨y / 2 ^ 32, r - 32, by simp, by simp; omega, ?_⟩
                exact putInv.next HS2.out hn2 HL2.out (by rw [HT2.out, HQ.out]) (by omega) hr HY.out HLL.out HTT.out
              case measure => simp [intOf]; omega
            · obtain ⟨x2, hx2⟩ : ∃ x2, x2 = v2 % 256 := ⟨_, rfl⟩
              have c2 := whole_st HS2.out (by omega)
              rw [← hx2] at c2
              have HC2 := hide c2
              have HX2 := hide hx2
              have hx256 : x2 < 256 := by omega
              have hbl : bs2.length ≤ 2000000000 := by have := HL2.out; have := HLL.out; have := HLb.out; omega
              clear c2 hx2
              go_wp2_with (first
                | (go_at_call 60; refine HC2.out.mono ?_; rintro e w2 ⟨rfl, F3, hw3, hF3, hc3⟩; have hb3 : B ≤ w2.heap.size := Nat.le_trans hB1 hc3.size; obtain ⟨A3, c3, b1, b2, b3, b4, b5, b6, b7⟩ := id hw3; have HW3 := hide hw3; have k0 := cell_blk b1 2; have k1 := frozen_blk b1 2; simp only [List.getElem?_toArray, List.getElem?_cons_zero, List.getElem?_cons_succ] at k0; have HB1 := hide b1; have HF3 := hide hF3; have HB4 := hide b4; clear hw3 b1 b2 hF3 b4 b5 b6 b7)
                | (at_builtin; refine wpList_append_any _ rfl (.tmp 57) (.tmp 59) _ rfl B 5 i0 _ 1 1 Try.underlying22 hi hz0 hz1 hz2 rfl (by omega) (.slice A3 bs2.length c3) bs2.length _ rfl (b3.alloc _) (w2.heap.size + 1) (some ⟨w2.heap.size, 0, none⟩) 1 1 [.int .u8 (x2 : Int)] rfl (reads_new w2 _ _) (by simp [Value.oneCell']) (by unfold maxLen; omega) (by omega) (by simp; omega) ?_; intro v' w3 hown hg3 hat; have hlt := lt_of_heap HB1.out; have hgF := own_blk_ne b3 HB1.out (by decide); have h3 := (hg3.block g (by simp; omega) (Ne.symm hgF)).trans (alloc_far HB1.out _); have m0 := cell_blk h3 2; have m1 := frozen_blk h3 2; simp only [List.getElem?_toArray, List.getElem?_cons_zero, List.getElem?_cons_succ] at m0; obtain ⟨A4, c4, rfl⟩ := own_form hown; simp only [size_alloc_w] at hat; have HP := hide (PutSt.push HW3.out HB4.out hx256 HF3.out hc3 hown hg3 hat); clear hown hg3 hat h3))
              go_roundw
              case rel => exact ⟨_, _, _, HP.out, by rw [← HL2.out]; simp; omega, by rw [← HT2.out, HX2.out]; exact strm_push _ _⟩
              case measure => rw [HP.out.pend, HS2.out.pend]; omega
end

section
set_option maxRecDepth 8000
open Go.RowKit
set_option linter.unusedVariables false

set_option maxHeartbeats 400000 in
theorem put_nil (x m : Int) (w : World) :
    Calls Try.prog 35 #[.pointer none, .int .u64 x, .int .i64 m] w fun e w' => e = .returned (.int .i64 1) ∧ w = w' := by
  go_enter Try.func35, Try.ntmps35
  go_wp2
  go_ret
  exact ⟨rfl, rfl⟩

set_option maxHeartbeats 400000 in
theorem put_bad (g : Nat) (x m : Int) (w : World) (h : m < 0 ∨ (0 ≤ m ∧ 64 < m) ∨ (0 ≤ m ∧ m < 64 ∧ (x / 2 ^ m.toNat != 0) = true)) (hx : 0 ≤ x) (hx' : x < 18446744073709551616) :
    Calls Try.prog 35 #[.pointer (some ⟨g, 0, none⟩), .int .u64 x, .int .i64 m] w fun e w' => e = .returned (.int .i64 2) ∧ w = w' := by
  rcases h with h | ⟨h0, h⟩ | ⟨h0, h1, h2⟩
  · go_enter Try.func35, Try.ntmps35
    go_wp2
    go_ret
    exact ⟨rfl, rfl⟩
  · go_enter Try.func35, Try.ntmps35
    go_wp2
    go_ret
    exact ⟨rfl, rfl⟩
  · go_enter Try.func35, Try.ntmps35
    go_wp2
    go_ret
    exact ⟨rfl, rfl⟩

/-! ### slices.Clone -/
theorem own_empty (w : World) (e : TypeId) (B : Nat) (hB : B ≤ w.heap.size) : (w.alloc (.cells #[] e)).ownsRow B e 1 (.slice (some ⟨w.heap.size, 0, none⟩) 0 0) 0 [] :=
  World.ownsRow_made w #[] 0 hB (by unfold maxLen; omega) (by simp)

set_option maxHeartbeats 400000 in
theorem clone_any (A : Option Addr) (n c : Nat) (xs : List Value) (w : World) (hr : Reads w w.heap.size 1 A n xs) (h1 : ∀ u ∈ xs, u.oneCell' = true) (hn : n ≤ 1000000000000) :
    Calls Try.prog 24 #[.slice A n c] w fun e w' => ∃ v, e = .returned v ∧ w'.ownsRow w.heap.size 5 1 v n xs ∧ Below w.heap.size w w' := by
  obtain ⟨i0, hi, hz0, hz1, hz2⟩ := info_parts info_u8
  rcases A with _ | a
  · have hn0 : n = 0 := by
      rcases Nat.eq_zero_or_pos n with h0 | h0
      · exact h0
      · obtain ⟨ad, h, _⟩ := hr.2 h0; cases h
    have hx : xs = [] := List.eq_nil_of_length_eq_zero (by rw [hr.1, hn0])
    clear hr h1
    subst hn0 hx
    have heq := fun w => Lib.run_eql_slice_nil (P := Try.prog) w 22 5 none 0 c 0 0 Try.underlying22
    go_enter Try.func24, Try.ntmps24
    go_wp2
    go_ret
    exact ⟨_, rfl, World.ownsRow_nil _ _ _ _, Below.refl _ _⟩
  · have heq := fun w => Lib.run_eql_slice_nil (P := Try.prog) w 22 5 (some a) n c 0 0 Try.underlying22
    have hown := own_empty w 5 w.heap.size (Nat.le_refl _)
    have hr' := hr.alloc (Nat.le_refl _) (.cells #[] 5)
    have HO := hide hown
    have HR := hide hr'
    have H1 := hide h1
    clear hown hr hr' h1
    go_enter Try.func24, Try.ntmps24
    go_wp2_with (at_builtin; refine wpList_append_any _ rfl (.tmp 5) (.tmp 6) _ rfl w.heap.size 5 i0 _ 1 1 Try.underlying22 hi hz0 hz1 hz2 rfl (by omega) (.slice (some ⟨w.heap.size, 0, none⟩) 0 0) 0 _ rfl HO.out w.heap.size (some a) n c xs rfl HR.out H1.out (by unfold maxLen; omega) (by omega) (by simp) ?_; intro v' w3 hown hg3 hat)
    go_ret
    refine ⟨_, rfl, by simpa using hown, ?_⟩
    exact (Chg.grown ((Chg.refl (fun _ => False) w).alloc _) hg3 (fun k hk => .inr (by simp [Value.ownBlock] at hk; omega))).keep

/-! ### Bytes -/
def tailBytes (v n : Nat) : List Nat := if 0 < n then [v] else []

theorem bytes_nil (w : World) :
    Calls Try.prog 23 #[.pointer none] w fun e w' => e = .returned (.slice none 0 0) ∧ w = w' := by
  go_enter Try.func23, Try.ntmps23
  go_wp2
  go_ret
  exact ⟨rfl, rfl⟩

theorem u8s_one (bs : List Nat) : ∀ u ∈ bs.map (fun b : Nat => Value.int .u8 (b : Int)), u.oneCell' = true := by
  intro u hu
  obtain ⟨b, _, rfl⟩ := List.mem_map.1 hu
  rfl

def u8s (bs : List Nat) : List Value := bs.map fun b : Nat => Value.int .u8 (b : Int)

set_option maxHeartbeats 1000000 in
theorem bytes_raw {B g : Nat} {F : Option Nat} {bs : List Nat} {v n : Nat} (w : World) (h : WrR w B g F bs v n) (hn : n < 8) (hl : bs.length ≤ 1000000000) :
    Calls Try.prog 23 #[.pointer (some ⟨g, 0, none⟩)] w fun e w' => ∃ u, e = .returned u ∧ w'.ownsRow w.heap.size 5 1 u (bs ++ tailBytes v n).length (u8s (bs ++ tailBytes v n)) ∧ Below w.heap.size w w' := by
  obtain ⟨i0, hi, hz0, hz1, hz2⟩ := info_parts info_u8
  have hgw := h.lt
  obtain ⟨A, c, a1, a2, a3, a4, a5, a6, a7⟩ := h
  have k0 := cell_blk a1 0
  have k1 := cell_blk a1 1
  have k2 := cell_blk a1 2
  simp only [List.getElem?_toArray, List.getElem?_cons_zero, List.getElem?_cons_succ] at k0 k1 k2
  have hv256 : v < 256 := Nat.lt_of_lt_of_le a6 (Nat.pow_le_pow_right (by omega) (by omega : n ≤ 8))
  have hrd := Reads.of_own a3
  have hcl := clone_any A bs.length c _ w hrd (u8s_one bs) (by omega)
  have HCL := hide hcl
  clear hcl hrd a1 a2 a3 a4 a5 a6
  by_cases hn0 : 0 < n
  · go_enter Try.func23, Try.ntmps23
    go_wp2_with (first
      | (go_at_call 24; refine HCL.out.mono ?_; rintro e w1 ⟨u, rfl, hown, hb⟩; have j0 := (hb.cell (p := ⟨g, 0, none⟩) hgw).trans k0; have j1 := (hb.cell (p := ⟨g, 1, none⟩) hgw).trans k1; have hsz := hb.size; have HBL := hide hb; clear hb)
      | (at_builtin; refine wpList_append_any _ rfl (.tmp 17) (.tmp 24) _ rfl w.heap.size 5 i0 _ 1 1 Try.underlying22 hi hz0 hz1 hz2 rfl (by omega) u bs.length _ rfl (hown.alloc _) (w1.heap.size + 1) (some ⟨w1.heap.size, 0, none⟩) 1 1 [.int .u8 (v : Int)] rfl (reads_new w1 _ _) (by simp [Value.oneCell']) (by unfold maxLen; omega) (by omega) (by simp; omega) ?_; intro v' w3 hown3 hg3 hat))
    go_ret
    have hlu := hown.lt
    refine ⟨_, rfl, by simpa [u8s, tailBytes, hn0] using hown3, ?_⟩
    exact (Chg.grown ((Chg.of_below (S := fun _ => False) HBL.out).alloc _) hg3 (fun k hk => .inr (hlu k hk).1)).keep
  · go_enter Try.func23, Try.ntmps23
    go_wp2_with (go_at_call 24; refine HCL.out.mono ?_; rintro e w1 ⟨u, rfl, hown, hb⟩; have j0 := (hb.cell (p := ⟨g, 0, none⟩) hgw).trans k0; have j1 := (hb.cell (p := ⟨g, 1, none⟩) hgw).trans k1; have HBL := hide hb; clear hb)
    go_ret
    refine ⟨_, rfl, by simpa [u8s, tailBytes, hn0] using hown, HBL.out⟩
end

section
set_option maxRecDepth 8000
open Go.RowKit
set_option linter.unusedVariables false
attribute [local go_sem ↓] Go.wp_at_zero Go.wp_at_succ

theorem close_nil (w : World) :
    Calls Try.prog 37 #[.pointer none] w fun e w' => e = .returned (.slice none 0 0) ∧ w = w' := by
  go_enter Try.func37, Try.ntmps37
  go_wp2
  go_ret
  exact ⟨rfl, rfl⟩

/-- Put, its arguments as the call has them. -/
theorem put_int {B g : Nat} {F : Option Nat} {bs : List Nat} {v n : Nat} (x m : Int) (w : World) (h : WrR w B g F bs v n) (hn : n < 8) (hx0 : 0 ≤ x) (hm0 : 0 ≤ m) (hm : m ≤ 64) (hx : x.toNat < 2 ^ m.toNat) (hlen : bs.length ≤ 1000000000) (hB : B ≤ w.heap.size) :
    Calls Try.prog 35 #[.pointer (some ⟨g, 0, none⟩), .int .u64 x, .int .i64 m] w fun e w' => e = .returned (.int .i64 0) ∧
      ∃ bs' v' n', PutSt w w' B g F bs' v' n' ∧ n' < 8 ∧ 8 * bs'.length + n' = 8 * bs.length + n + m.toNat ∧ strm bs' v' = strm bs v + x.toNat * 2 ^ (8 * bs.length + n) := by
  obtain ⟨x, rfl⟩ := Int.eq_ofNat_of_zero_le hx0
  obtain ⟨m, rfl⟩ := Int.eq_ofNat_of_zero_le hm0
  simp only [Int.toNat_natCast] at hx ⊢
  refine put_ok B g F bs v n x m w h hn (by omega) hx hlen hB ?_
  rcases Nat.lt_or_ge m 64 with h64 | h64
  · refine .inl ⟨by omega, ?_, by simp; omega⟩
    have e : ((x : Int) / 2 ^ m) = ((x / 2 ^ m : Nat) : Int) := by simp
    rw [e, Nat.div_eq_of_lt hx]
    rfl
  · exact .inr (by omega)

/-- The bytes of a stream of L bits, of value N. -/
def pack (L N : Nat) : List Nat := (List.range ((L + 7) / 8)).map fun i => N / 256 ^ i % 256

theorem leN_digit : ∀ (bs : List Nat) (t i : Nat), (∀ b ∈ bs, b < 256) → i < bs.length → (leN bs + 256 ^ bs.length * t) / 256 ^ i % 256 = bs.getD i 0
  | [], _, _, _, hi => by simp at hi
  | b :: bs, t, 0, h, _ => by
    have hb := h b (by simp)
    simp only [leN, List.length_cons, Nat.pow_succ, Nat.pow_zero, Nat.div_one, List.getD_cons_zero]
    have : 256 ^ bs.length * 256 * t = 256 * (256 ^ bs.length * t) := by rw [Nat.mul_comm (256 ^ bs.length) 256, Nat.mul_assoc]
    omega
  | b :: bs, t, i + 1, h, hi => by
    have hb := h b (by simp)
    have ih := leN_digit bs t i (fun x hx => h x (by simp [hx])) (by simpa using hi)
    rw [List.getD_cons_succ, ← ih, Nat.pow_succ', ← Nat.div_div_eq_div_mul]
    congr 2
    simp only [leN, List.length_cons, Nat.pow_succ]
    have : 256 ^ bs.length * 256 * t = 256 * (256 ^ bs.length * t) := by rw [Nat.mul_comm (256 ^ bs.length) 256, Nat.mul_assoc]
    omega

theorem leN_lt : ∀ (bs : List Nat), (∀ b ∈ bs, b < 256) → leN bs < 256 ^ bs.length
  | [], _ => by simp [leN]
  | b :: bs, h => by
    have hb := h b (by simp)
    have ih := leN_lt bs (fun x hx => h x (by simp [hx]))
    simp only [leN, List.length_cons, Nat.pow_succ]
    omega

theorem pack_of (bs : List Nat) (v n : Nat) (h : ∀ b ∈ bs, b < 256) (hv : v < 2 ^ n) (hn : n < 8) : bs ++ tailBytes v n = pack (8 * bs.length + n) (strm bs v) := by
  unfold pack strm tailBytes
  refine List.ext_getElem? fun i => ?_
  have hv256 : v < 256 := Nat.lt_of_lt_of_le hv (Nat.pow_le_pow_right (by omega) (by omega : n ≤ 8))
  rcases Nat.lt_or_ge i bs.length with hi | hi
  · rw [List.getElem?_append_left hi, List.getElem?_map, List.getElem?_range (by omega)]
    simp only [Option.map_some]
    rw [leN_digit bs v i h hi, List.getD_eq_getElem?_getD, List.getElem?_eq_getElem hi]
    rfl
  · rw [List.getElem?_append_right hi]
    by_cases hn0 : 0 < n
    · rw [if_pos hn0]
      have e : (8 * bs.length + n + 7) / 8 = bs.length + 1 := by omega
      rw [e]
      rcases Nat.eq_or_lt_of_le hi with rfl | hi
      · rw [Nat.sub_self, List.getElem?_map, List.getElem?_range (by omega)]
        have h1 := leN_lt bs h
        have h2 : (leN bs + 256 ^ bs.length * v) / 256 ^ bs.length = v := by
          rw [Nat.add_mul_div_left _ _ (Nat.pow_pos (by omega)), Nat.div_eq_of_lt h1, Nat.zero_add]
        simp only [List.getElem?_cons_zero, Option.map_some, h2]
        rw [Nat.mod_eq_of_lt hv256]
      · rw [List.getElem?_eq_none (by simp; omega), List.getElem?_eq_none (by simp; omega)]
    · rw [if_neg hn0, List.getElem?_eq_none (by simp), List.getElem?_eq_none (by simp; omega)]

theorem close_way1 {w w1 : World} {bs : List Nat} {v n : Nat} {A : Option Addr} {c : Nat} (hb : Below w.drew.heap.size w.drew w1) (hown : w1.ownsRow w.drew.heap.size 5 1 (.slice A bs.length c) bs.length (bs.map fun b : Nat => Value.int .u8 (b : Int)))
    (h5 : ∀ b ∈ bs, b < 256) (h6 : v < 2 ^ n) (h7 : n ≤ 40) :
    ∃ F, WrR (w1.alloc (.cells #[.int .u64 (v : Int), .int .i64 (n : Int), .slice A bs.length c] 78)) w.heap.size w1.heap.size F bs v n ∧
      Below w.heap.size w (w1.alloc (.cells #[.int .u64 (v : Int), .int .i64 (n : Int), .slice A bs.length c] 78)) :=
  ⟨_, ⟨A, c, heap_alloc_new w1 _, hb.size, hown.alloc _, rfl, h5, h6, h7⟩, (((Below.refl _ _).drew).trans hb).alloc hb.size _⟩

theorem close_way2 {w w1 : World} {bs : List Nat} {v n : Nat} {A : Option Addr} {c : Nat} {O : Obj} (hO : O = .cells #[.int .u64 0, .int .i64 0, .slice none 0 0] 78) (hb : Below (w.alloc O).drew.heap.size (w.alloc O).drew w1) (hown : w1.ownsRow (w.alloc O).drew.heap.size 5 1 (.slice A bs.length c) bs.length (bs.map fun b : Nat => Value.int .u8 (b : Int)))
    (h5 : ∀ b ∈ bs, b < 256) (h6 : v < 2 ^ n) (h7 : n ≤ 40) :
    ∃ F, WrR (((w1.setCell ⟨w.heap.size, 0, none⟩ (.int .u64 (v : Int))).setCell ⟨w.heap.size, 1, none⟩ (.int .i64 (n : Int))).setCell ⟨w.heap.size, 2, none⟩ (.slice A bs.length c)) w.heap.size w.heap.size F bs v n ∧
      Below w.heap.size w (((w1.setCell ⟨w.heap.size, 0, none⟩ (.int .u64 (v : Int))).setCell ⟨w.heap.size, 1, none⟩ (.int .i64 (n : Int))).setCell ⟨w.heap.size, 2, none⟩ (.slice A bs.length c)) := by
  have bl := hb.block w.heap.size (by show w.heap.size < (w.alloc O).heap.size; simp)
  have bl0 : (w.alloc O).drew.heap[w.heap.size]? = some O := heap_alloc_new w _
  have bl1 := bl.trans bl0
  rw [hO] at bl1
  have hblk := set_blk (set_blk (set_blk bl1 0 (.int .u64 (v : Int))) 1 (.int .i64 (n : Int))) 2 (.slice A bs.length c)
  have hne := own_blk_ne hown bl1 (by decide)
  have hch : Chg (fun b => b = w.heap.size) w1 (((w1.setCell ⟨w.heap.size, 0, none⟩ (.int .u64 (v : Int))).setCell ⟨w.heap.size, 1, none⟩ (.int .i64 (n : Int))).setCell ⟨w.heap.size, 2, none⟩ (.slice A bs.length c)) :=
    (((Chg.refl (fun b => b = w.heap.size) w1).setCell (p := ⟨w.heap.size, 0, none⟩) (.inl rfl) _).setCell (p := ⟨w.heap.size, 1, none⟩) (.inl rfl) _).setCell (p := ⟨w.heap.size, 2, none⟩) (.inl rfl) _
  have hsz : (w.alloc O).drew.heap.size = w.heap.size + 1 := size_alloc_w w O
  refine ⟨_, ⟨A, c, hblk, Nat.le_refl _, own_base (own_chg hown hch (fun k hk e => hne (by rw [hk, e]))) (fun k hk => by have := (hown.lt k hk).1; omega), rfl, h5, h6, h7⟩, ?_⟩
  have h1 : Below w.heap.size w w1 := (((Below.refl _ w).alloc (Nat.le_refl _) O).drew).trans (hb.mono (by omega))
  exact ((h1.setCell (p := ⟨w.heap.size, 0, none⟩) (Nat.le_refl _) _).setCell (p := ⟨w.heap.size, 1, none⟩) (Nat.le_refl _) _).setCell (p := ⟨w.heap.size, 2, none⟩) (Nat.le_refl _) _

set_option maxHeartbeats 1000000 in
theorem close_raw {B g : Nat} {F : Option Nat} {bs : List Nat} {v n : Nat} (w : World) (h : WrR w B g F bs v n) (hn : n < 8) (hl : bs.length ≤ 900000000) :
    Calls Try.prog 37 #[.pointer (some ⟨g, 0, none⟩)] w fun e w' =>
      ∃ u, e = .returned u ∧ w'.ownsRow w.heap.size 5 1 u (pack (8 * bs.length + n + 1) (strm bs v + 2 ^ (8 * bs.length + n))).length (u8s (pack (8 * bs.length + n + 1) (strm bs v + 2 ^ (8 * bs.length + n)))) ∧ Below w.heap.size w w' := by
  have hgw := h.lt
  obtain ⟨A, c, a1, a2, a3, a4, a5, a6, a7⟩ := h
  have k0 := cell_blk a1 0
  have k1 := cell_blk a1 1
  have k2 := cell_blk a1 2
  simp only [List.getElem?_toArray, List.getElem?_cons_zero, List.getElem?_cons_succ] at k0 k1 k2
  have n0 := World.new_ne w _ k0
  have n1 := World.new_ne w _ k1
  have n2 := World.new_ne w _ k2
  have hrd := Reads.of_own a3
  have hcl := fun W (hW : Below w.heap.size w W) => clone_any A bs.length c _ W ((hrd.below hW).more hW.size) (u8s_one bs) (by omega)
  have HCL := hide hcl
  have H5 := hide a5
  have H6 := hide a6
  clear hcl hrd a1 a2 a3 a4 a5 a6
  go_enter Try.func37, Try.ntmps37
  go_wp2
  go_region_held3 (fun w' => w'.cell? ⟨g, 0, none⟩ = some (.int .u64 (v : Int)) ∧ w'.cell? ⟨g, 1, none⟩ = some (.int .i64 (n : Int)) ∧ w'.cell? ⟨g, 2, none⟩ = some (.slice A bs.length c)) (go_keep) (first
      | (go_at_call 24; refine (HCL.out _ ?_).mono ?_; exact ((Below.refl _ _).alloc (Nat.le_refl _) _).drew; rintro e w1 ⟨u, rfl, hown, hb⟩; obtain ⟨A1, c1, rfl⟩ := own_form hown; have j0 : w1.cell? ⟨g, 0, none⟩ = some (.int .u64 (v : Int)) := (hb.cell (p := ⟨g, 0, none⟩) (by simp; omega)).trans (by go_simp); have j1 : w1.cell? ⟨g, 1, none⟩ = some (.int .i64 (n : Int)) := (hb.cell (p := ⟨g, 1, none⟩) (by simp; omega)).trans (by go_simp); have j2 : w1.cell? ⟨g, 2, none⟩ = some (.slice A bs.length c) := (hb.cell (p := ⟨g, 2, none⟩) (by simp; omega)).trans (by go_simp); have z0 : w1.cell? ⟨w.heap.size, 0, none⟩ = some (.int .u64 0) := (hb.cell (p := ⟨w.heap.size, 0, none⟩) (by simp)).trans (by go_simp); have y0 : w1.frozen? ⟨w.heap.size, 0, none⟩ = false := (hb.frozen (p := ⟨w.heap.size, 0, none⟩) (by simp)).trans (by go_simp); have z1 : w1.cell? ⟨w.heap.size, 1, none⟩ = some (.int .i64 0) := (hb.cell (p := ⟨w.heap.size, 1, none⟩) (by simp)).trans (by go_simp); have y1 : w1.frozen? ⟨w.heap.size, 1, none⟩ = false := (hb.frozen (p := ⟨w.heap.size, 1, none⟩) (by simp)).trans (by go_simp); have z2 : w1.cell? ⟨w.heap.size, 2, none⟩ = some (.slice none 0 0) := (hb.cell (p := ⟨w.heap.size, 2, none⟩) (by simp)).trans (by go_simp); have y2 : w1.frozen? ⟨w.heap.size, 2, none⟩ = false := (hb.frozen (p := ⟨w.heap.size, 2, none⟩) (by simp)).trans (by go_simp))
      | (go_at_call 24; refine (HCL.out _ ?_).mono ?_; exact (Below.refl _ _).drew; rintro e w1 ⟨u, rfl, hown, hb⟩; obtain ⟨A1, c1, rfl⟩ := own_form hown; have j0 : w1.cell? ⟨g, 0, none⟩ = some (.int .u64 (v : Int)) := (hb.cell (p := ⟨g, 0, none⟩) (by simp; omega)).trans (by go_simp); have j1 : w1.cell? ⟨g, 1, none⟩ = some (.int .i64 (n : Int)) := (hb.cell (p := ⟨g, 1, none⟩) (by simp; omega)).trans (by go_simp); have j2 : w1.cell? ⟨g, 2, none⟩ = some (.slice A bs.length c) := (hb.cell (p := ⟨g, 2, none⟩) (by simp; omega)).trans (by go_simp)))
  · obtain ⟨F1, hw1, hbb⟩ := close_way1 (v := v) (n := n) hb hown H5.out H6.out (by omega)
    generalize w1.alloc (.cells #[.int .u64 (v : Int), .int .i64 (n : Int), .slice A1 bs.length c1] 78) = W at *
    generalize w1.heap.size = G at *
    have HW1 := hide hw1
    have HBB := hide hbb
    clear hw1 hbb hb hown
    go_wp2_with fail
    refine (put_int 1 1 W HW1.out hn (by omega) (by omega) (by omega) (by decide) (by omega) HBB.out.size).mono ?_
    rintro e w2 ⟨rfl, bs2, v2, n2, hst, hn2, hl2, hN2⟩
    have HL2 := hide hl2
    have HN2 := hide hN2
    have HST := hide hst
    have hlb : bs2.length ≤ 1000000000 := by simp at hl2; omega
    clear hl2 hN2 hst
    go_wp2_with fail
    obtain ⟨F2, hw2, hF2, hc2⟩ := HST.out
    refine (bytes_raw w2 hw2 hn2 hlb).mono ?_
    rintro e w3 ⟨u, rfl, hown3, hb3⟩
    have H3 := hide hown3
    have HB3 := hide hb3
    have HC2 := hide hc2
    have HW2 := hide hw2
    clear hown3 hb3 hc2 hw2 hF2
    go_wp2_with fail
    go_ret
    have hsz := HBB.out.size
    have hsz2 := HC2.out.size
    obtain ⟨A2, c2, q1, q2, q3, q4, q5, q6, q7⟩ := HW2.out
    have hp := pack_of bs2 v2 n2 q5 q6 hn2
    have e1 : 8 * bs2.length + n2 = 8 * bs.length + n + 1 := by have := HL2.out; simp at this; omega
    have e2 : strm bs2 v2 = strm bs v + 2 ^ (8 * bs.length + n) := by have := HN2.out; simp at this; omega
    rw [e1, e2] at hp
    have h4 := H3.out
    rw [hp] at h4
    refine ⟨u, rfl, own_base h4 (fun k hk => by have := (h4.lt k hk).1; omega), ?_⟩
    refine (HBB.out.trans (HC2.out.below (fun k hk => ?_) hsz)).trans (HB3.out.mono (by omega))
    rcases hk with rfl | hk
    · obtain ⟨_, _, _, h, _⟩ := HW1.out; exact h
    · exact (HW1.out.ltF k hk.symm).1
  · obtain ⟨F1, hw1, hbb⟩ := close_way2 (v := v) (n := n) rfl hb hown H5.out H6.out (by omega)
    generalize ((w1.setCell ⟨w.heap.size, 0, none⟩ (.int .u64 (v : Int))).setCell ⟨w.heap.size, 1, none⟩ (.int .i64 (n : Int))).setCell ⟨w.heap.size, 2, none⟩ (.slice A1 bs.length c1) = W at *
    have HW1 := hide hw1
    have HBB := hide hbb
    clear hw1 hbb hb hown
    go_wp2_with fail
    refine (put_int 1 1 W HW1.out hn (by omega) (by omega) (by omega) (by decide) (by omega) HBB.out.size).mono ?_
    rintro e w2 ⟨rfl, bs2, v2, n2, hst, hn2, hl2, hN2⟩
    have HL2 := hide hl2
    have HN2 := hide hN2
    have HST := hide hst
    have hlb : bs2.length ≤ 1000000000 := by simp at hl2; omega
    clear hl2 hN2 hst
    go_wp2_with fail
    obtain ⟨F2, hw2, hF2, hc2⟩ := HST.out
    refine (bytes_raw w2 hw2 hn2 hlb).mono ?_
    rintro e w3 ⟨u, rfl, hown3, hb3⟩
    have H3 := hide hown3
    have HB3 := hide hb3
    have HC2 := hide hc2
    have HW2 := hide hw2
    clear hown3 hb3 hc2 hw2 hF2
    go_wp2_with fail
    go_ret
    have hsz := HBB.out.size
    have hsz2 := HC2.out.size
    obtain ⟨A2, c2, q1, q2, q3, q4, q5, q6, q7⟩ := HW2.out
    have hp := pack_of bs2 v2 n2 q5 q6 hn2
    have e1 : 8 * bs2.length + n2 = 8 * bs.length + n + 1 := by have := HL2.out; simp at this; omega
    have e2 : strm bs2 v2 = strm bs v + 2 ^ (8 * bs.length + n) := by have := HN2.out; simp at this; omega
    rw [e1, e2] at hp
    have h4 := H3.out
    rw [hp] at h4
    refine ⟨u, rfl, own_base h4 (fun k hk => by have := (h4.lt k hk).1; omega), ?_⟩
    refine (HBB.out.trans (HC2.out.below (fun k hk => ?_) hsz)).trans (HB3.out.mono (by omega))
    rcases hk with rfl | hk
    · obtain ⟨_, _, _, h, _⟩ := HW1.out; exact h
    · exact (HW1.out.ltF k hk.symm).1

/-! ### The contracts, by the stream's length L and value N -/
def Wr (w : World) (B g : Nat) (F : Option Nat) (L N : Nat) : Prop := ∃ bs v n, WrR w B g F bs v n ∧ n < 8 ∧ 8 * bs.length + n = L ∧ strm bs v = N

theorem Wr.chg {w w' : World} {B g : Nat} {F : Option Nat} {L N : Nat} {S : Nat → Prop} (h : Wr w B g F L N) (hc : Chg S w w') (hg : ¬ S g) (hF : ∀ k, F = some k → ¬ S k) : Wr w' B g F L N := by
  obtain ⟨bs, v, n, h1, h2⟩ := h
  exact ⟨bs, v, n, h1.chg hc hg hF, h2⟩
theorem Wr.lt {w : World} {B g : Nat} {F : Option Nat} {L N : Nat} (h : Wr w B g F L N) : g < w.heap.size := by
  obtain ⟨bs, v, n, h1, h2⟩ := h
  exact h1.lt
theorem Wr.ge {w : World} {B g : Nat} {F : Option Nat} {L N : Nat} (h : Wr w B g F L N) : B ≤ g := by
  obtain ⟨bs, v, n, ⟨_, _, _, h1, _⟩, h2⟩ := h
  exact h1
theorem Wr.ltF {w : World} {B g : Nat} {F : Option Nat} {L N : Nat} (h : Wr w B g F L N) : ∀ k, F = some k → B ≤ k ∧ k < w.heap.size ∧ k ≠ g := by
  obtain ⟨bs, v, n, h1, h2⟩ := h
  exact h1.ltF
theorem Wr.below {w w' : World} {B g : Nat} {F : Option Nat} {L N : Nat} (h : Wr w B g F L N) (hb : Below w.heap.size w w') : Wr w' B g F L N :=
  h.chg (Chg.of_below (S := fun _ => False) hb) (fun h => h) (fun _ _ h => h)
theorem Wr.drewN {w : World} {B g : Nat} {F : Option Nat} {L N : Nat} (h : Wr w B g F L N) (k : Nat) : Wr (w.drewN k) B g F L N :=
  h.chg ((Chg.refl (fun _ => False) w).drewN k) (fun h => h) (fun _ _ h => h)
theorem Wr.new (w : World) (B : Nat) (hB : B ≤ w.heap.size) : Wr (w.alloc (.cells #[.int .u64 0, .int .i64 0, .slice none 0 0] 78)) B w.heap.size none 0 0 :=
  ⟨[], 0, 0, ⟨none, 0, heap_alloc_new w _, hB, World.ownsRow_nil _ _ _ _, rfl, by simp, by simp, by omega⟩, by omega, rfl, rfl⟩
theorem Wr.val_lt {w : World} {B g : Nat} {F : Option Nat} {L N : Nat} (h : Wr w B g F L N) : N < 2 ^ L := by
  obtain ⟨bs, v, n, ⟨A, c, a1, a2, a3, a4, a5, a6, a7⟩, hn, rfl, rfl⟩ := h
  unfold strm
  have h1 := leN_lt bs a5
  rw [Nat.pow_add, ← pow_256]
  have h2 : 256 ^ bs.length * (v + 1) ≤ 256 ^ bs.length * 2 ^ n := Nat.mul_le_mul_left _ a6
  rw [Nat.mul_add, Nat.mul_one] at h2
  omega

/-- What Put, or a sequence of Puts, has done: the Writer of w in w'. -/
structure PutTo (w w' : World) (B g : Nat) (F F' : Option Nat) (L N : Nat) : Prop where
  wr : Wr w' B g F' L N
  row : F' = F ∨ ∃ b, F' = some b ∧ w.heap.size ≤ b
  chg : Chg (fun b => b = g ∨ some b = F) w w'

theorem PutTo.start {w : World} {B g : Nat} {F : Option Nat} {L N : Nat} (h : Wr w B g F L N) : PutTo w w B g F F L N := ⟨h, .inl rfl, Chg.refl _ _⟩
theorem PutTo.trans {w w' w'' : World} {B g : Nat} {F F' F'' : Option Nat} {L N L' N' : Nat} (h : PutTo w w' B g F F' L N) (k : PutTo w' w'' B g F' F'' L' N') : PutTo w w'' B g F F'' L' N' := by
  refine ⟨k.wr, ?_, h.chg.trans k.chg fun b hb => ?_⟩
  · rcases k.row with h1 | ⟨b, h1, h2⟩
    · rw [h1]; exact h.row
    · exact .inr ⟨b, h1, Nat.le_trans h.chg.size h2⟩
  · rcases hb with rfl | hb
    · exact .inl (.inl rfl)
    · rcases h.row with h1 | ⟨c, h1, h2⟩
      · exact .inl (.inr (by rw [hb, h1]))
      · exact .inr (by rw [h1] at hb; injection hb with hb; omega)
theorem PutTo.below {w w' w'' : World} {B g : Nat} {F F' : Option Nat} {L N : Nat} (h : PutTo w w' B g F F' L N) (k : Below w'.heap.size w' w'') : PutTo w w'' B g F F' L N :=
  ⟨h.wr.below k, h.row, h.chg.trans (Chg.of_below (S := fun _ => False) k) (fun _ h => h.elim)⟩
theorem PutTo.old {w w' : World} {B g : Nat} {F F' : Option Nat} {L N : Nat} (h : PutTo w w' B g F F' L N) (hF : ∀ k, F = some k → B ≤ k) (hB : B ≤ w.heap.size) : Below B w w' :=
  h.chg.below (fun k hk => by rcases hk with rfl | hk; exact h.wr.ge; exact hF k hk.symm) hB

theorem put_any {B g : Nat} {F : Option Nat} {L N : Nat} (x m : Int) (w : World) (h : Wr w B g F L N) (hx0 : 0 ≤ x) (hm0 : 0 ≤ m) (hm : m ≤ 64) (hx : x.toNat < 2 ^ m.toNat) (hlen : L ≤ 8000000000) (hB : B ≤ w.heap.size) :
    Calls Try.prog 35 #[.pointer (some ⟨g, 0, none⟩), .int .u64 x, .int .i64 m] w fun e w' => e = .returned (.int .i64 0) ∧
      ∃ F', PutTo w w' B g F F' (L + m.toNat) (N + x.toNat * 2 ^ L) := by
  obtain ⟨bs, v, n, h1, hn, rfl, rfl⟩ := h
  refine (put_int x m w h1 hn hx0 hm0 hm hx (by omega) hB).mono ?_
  rintro e w' ⟨rfl, bs', v', n', ⟨F', a1, a2, a3⟩, b1, b2, b3⟩
  exact ⟨rfl, F', ⟨bs', v', n', a1, b1, b2, b3⟩, a2, a3⟩

theorem bytes_of {B g : Nat} {F : Option Nat} {L N : Nat} (w : World) (h : Wr w B g F L N) (hl : L ≤ 8000000000) :
    Calls Try.prog 23 #[.pointer (some ⟨g, 0, none⟩)] w fun e w' => ∃ u, e = .returned u ∧ w'.ownsRow w.heap.size 5 1 u (pack L N).length (u8s (pack L N)) ∧ Below w.heap.size w w' := by
  obtain ⟨bs, v, n, h1, hn, rfl, rfl⟩ := h
  obtain ⟨A, c, a1, a2, a3, a4, a5, a6, a7⟩ := id h1
  rw [← pack_of bs v n a5 a6 hn]
  exact bytes_raw w h1 hn (by omega)

theorem close_of {B g : Nat} {F : Option Nat} {L N : Nat} (w : World) (h : Wr w B g F L N) (hl : L ≤ 7000000000) :
    Calls Try.prog 37 #[.pointer (some ⟨g, 0, none⟩)] w fun e w' => ∃ u, e = .returned u ∧ w'.ownsRow w.heap.size 5 1 u (pack (L + 1) (N + 2 ^ L)).length (u8s (pack (L + 1) (N + 2 ^ L))) ∧ Below w.heap.size w w' := by
  obtain ⟨bs, v, n, h1, hn, rfl, rfl⟩ := h
  exact close_raw w h1 hn (by omega)
end

end Go.Proofs.Ytohgnohifojdbaa
