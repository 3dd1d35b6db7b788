/- Writer.Put walked: what it does to the stream, as a number. -/
import Derived.Test.YtifolinoadllbaaOut
namespace Go.Proofs.Ytifolinoadllbaa
open Go.RowKit
set_option linter.unusedVariables false

/-- A Writer lies in block g, its bytes in block F: complete bytes bs, n pending bits of value v. -/
def WrR (w : World) (B g : Nat) (F : Option Nat) (bs : List Nat) (v n : Nat) : Prop :=
  ∃ A c, w.heap[g]? = some (.cells #[.int .u64 v, .int .i64 n, .slice A bs.length c] 64 (0, 0)) ∧ B ≤ g ∧
    w.ownsRow B 5 1 (.slice A bs.length c) bs.length (bs.map fun b : Nat => Value.int .u8 (b : Int)) ∧ (Value.slice A bs.length c).ownBlock = F ∧ (∀ b ∈ bs, b < 256) ∧ v < 2 ^ n ∧ n ≤ 40

theorem WrR.chg {w w' : World} {B g : Nat} {F : Option Nat} {bs : List Nat} {v n : Nat} {S : Nat → Prop} (h : WrR w B g F bs v n) (hc : Chg S w w') (hg : ¬ S g) (hF : ∀ k, F = some k → ¬ S k) : WrR w' B g F bs v n := by
  obtain ⟨A, c, h1, h2, h3, h4, h5⟩ := h
  exact ⟨A, c, hc.heap h1 hg, h2, own_chg h3 hc (fun k hk => hF k (by rw [← h4]; exact hk)), h4, h5⟩

theorem WrR.lt {w : World} {B g : Nat} {F : Option Nat} {bs : List Nat} {v n : Nat} (h : WrR w B g F bs v n) : g < w.heap.size := by
  obtain ⟨A, c, h1, _⟩ := h
  exact lt_of_heap h1
theorem WrR.ltF {w : World} {B g : Nat} {F : Option Nat} {bs : List Nat} {v n : Nat} (h : WrR w B g F bs v n) : ∀ k, F = some k → B ≤ k ∧ k < w.heap.size ∧ k ≠ g := by
  obtain ⟨A, c, h1, _, h3, h4, _⟩ := h
  intro k hk
  have h5 := h3.lt k (h4.trans hk)
  exact ⟨h5.1, h5.2, fun e => own_blk_ne h3 h1 (by decide) (by rw [h4, hk, e])⟩

/-- The Writer of world w, as Put has turned it so far. -/
def PutSt (w wr : World) (B g : Nat) (F : Option Nat) (bs : List Nat) (v n : Nat) : Prop :=
  ∃ F', WrR wr B g F' bs v n ∧ (F' = F ∨ ∃ b, F' = some b ∧ w.heap.size ≤ b) ∧ Chg (fun b => b = g ∨ some b = F) w wr

theorem PutSt.start {w : World} {B g : Nat} {F : Option Nat} {bs : List Nat} {v n : Nat} (h : WrR w B g F bs v n) : PutSt w w B g F bs v n := ⟨F, h, .inl rfl, Chg.refl _ _⟩
theorem PutSt.drew {w wr : World} {B g : Nat} {F : Option Nat} {bs : List Nat} {v n : Nat} (h : PutSt w wr B g F bs v n) : PutSt w wr.drew B g F bs v n := by
  obtain ⟨F', h1, h2, h3⟩ := h
  exact ⟨F', h1.chg (Chg.refl (fun _ => False) wr).drew (fun h => h) (fun _ _ h => h), h2, h3.drew⟩

theorem two_pow_add' (n m : Nat) : 2 ^ (n + m) = 2 ^ n * 2 ^ m := Nat.pow_add 2 n m

theorem add_lt (v x n m : Nat) (hv : v < 2 ^ n) (hx : x < 2 ^ m) : v + x * 2 ^ n < 2 ^ (n + m) := by
  rw [Nat.pow_add]
  have h1 : (x + 1) * 2 ^ n ≤ 2 ^ m * 2 ^ n := Nat.mul_le_mul_right _ hx
  rw [Nat.add_mul, Nat.one_mul] at h1
  rw [Nat.mul_comm (2 ^ n) (2 ^ m)]
  omega

/-- 'add' of m bits of value q. -/
theorem add_st {w wr : World} {B g : Nat} {F : Option Nat} {bs : List Nat} {v n q : Nat} (m : Int) (h : PutSt w wr B g F bs v n) (hn : n < 8) (hm0 : 0 ≤ m) (hm : m ≤ 32) (hq : q < 2 ^ m.toNat) :
    Calls Try.prog 40 #[.pointer (some ⟨g, 0, none⟩), .int .u64 (q : Int), .int .i64 m] wr fun e w' => e = .returned (.tuple #[]) ∧ PutSt w w' B g F bs (v + q * 2 ^ n) (n + m.toNat) := by
  obtain ⟨F', ⟨A, c, a1, a2, a3, a4, a5, a6, a7⟩, hF, hc⟩ := h
  have hne := WrR.ltF (⟨A, c, a1, a2, a3, a4, a5, a6, a7⟩ : WrR wr B g F' bs v n)
  have h1 : 2 ^ m.toNat ≤ 2 ^ 32 := Nat.pow_le_pow_right (by omega) (by omega)
  have h2 : (2:Nat) ^ 32 = 4294967296 := by decide
  refine (add_any g v n _ (q : Int) m wr a1 a6 hn (by omega) (by omega) hm0 hm).mono ?_
  rintro e w1 ⟨rfl, hw1, hg⟩
  have e1 : ((n : Int) + m) = ((n + m.toNat : Nat) : Int) := by omega
  rw [e1, Int.toNat_natCast] at hw1
  refine ⟨rfl, F', ⟨A, c, hw1, a2, ?_, a4, a5, add_lt v q n m.toNat a6 hq, by omega⟩, hF, hc.grown hg (fun k hk => .inl (.inl (by injection hk with hk; exact hk.symm)))⟩
  exact a3.kept hg (.inr (by rw [a4]; intro e; exact (hne g e).2.2 rfl))

theorem whole_st_no {w wr : World} {B g : Nat} {F : Option Nat} {bs : List Nat} {v n : Nat} (h : PutSt w wr B g F bs v n) (hn : n < 8) :
    Calls Try.prog 41 #[.pointer (some ⟨g, 0, none⟩)] wr fun e w' => e = .returned (.tuple #[.int .u8 0, .bool false]) ∧ wr = w' := by
  obtain ⟨F', ⟨A, c, a1, _⟩, _⟩ := h
  exact whole_no g v n _ wr a1 hn

theorem whole_st {w wr : World} {B g : Nat} {F : Option Nat} {bs : List Nat} {v n : Nat} (h : PutSt w wr B g F bs v n) (hn : 8 ≤ n) :
    Calls Try.prog 41 #[.pointer (some ⟨g, 0, none⟩)] wr fun e w' => e = .returned (.tuple #[.int .u8 ((v % 256 : Nat) : Int), .bool true]) ∧ PutSt w w' B g F bs (v / 256) (n - 8) := by
  obtain ⟨F', ⟨A, c, a1, a2, a3, a4, a5, a6, a7⟩, hF, hc⟩ := h
  have hne := WrR.ltF (⟨A, c, a1, a2, a3, a4, a5, a6, a7⟩ : WrR wr B g F' bs v n)
  have h1 : 2 ^ n ≤ 2 ^ 40 := Nat.pow_le_pow_right (by omega) (by omega)
  have h2 : (2:Nat) ^ 40 = 1099511627776 := by decide
  refine (whole_yes g v n _ wr a1 hn (by omega) (by omega)).mono ?_
  rintro e w1 ⟨rfl, hw1, hg⟩
  refine ⟨rfl, F', ⟨A, c, hw1, a2, ?_, a4, a5, ?_, by omega⟩, hF, hc.grown hg (fun k hk => .inl (.inl (by injection hk with hk; exact hk.symm)))⟩
  · exact a3.kept hg (.inr (by rw [a4]; intro e; exact (hne g e).2.2 rfl))
  · have : 2 ^ n = 2 ^ (n - 8) * 256 := by rw [← Nat.pow_add 2 (n - 8) 8]; congr 1; omega
    exact Nat.div_lt_of_lt_mul (by omega)

/-- Behind the append and the store. -/
theorem PutSt.push {w w1 w3 : World} {B g : Nat} {F F' : Option Nat} {bs : List Nat} {v n x : Nat} {A : Option Addr} {c : Nat} {v' : Value}
    (h : WrR w1 B g F' bs v n) (a4 : (Value.slice A bs.length c).ownBlock = F') (hx : x < 256)
    (hF : F' = F ∨ ∃ b, F' = some b ∧ w.heap.size ≤ b) (hc : Chg (fun b => b = g ∨ some b = F) w w1)
    (hown : w3.ownsRow B 5 1 v' (bs.length + 1) ((bs.map fun b : Nat => Value.int .u8 (b : Int)) ++ [.int .u8 (x : Int)]))
    (hg3 : (w1.alloc (.cells #[.int .u8 (x : Int)] 5)).grownBy w3 (Value.slice A bs.length c).ownBlock) (hat : v'.ownBlock = (Value.slice A bs.length c).ownBlock ∨ v'.ownBlock = some (w1.heap.size + 1)) :
    PutSt w (w3.setCell ⟨g, 2, none⟩ v') B g F (bs ++ [x]) v n := by
  have hne := h.ltF
  obtain ⟨A0, c0, a1, a2, a3, a40, a5, a6, a7⟩ := h
  have hg1 : g < w1.heap.size := lt_of_heap a1
  have hgF : (Value.slice A bs.length c).ownBlock ≠ some g := by rw [a4]; intro e; exact (hne g e).2.2 rfl
  have h3 := (hg3.block g (by simp; omega) (Ne.symm hgF)).trans (alloc_far a1 _)
  have h4 := set_blk h3 2 v'
  obtain ⟨A', c', rfl⟩ := own_form hown
  have hv'g : (Value.slice A' (bs.length + 1) c').ownBlock ≠ some g := own_blk_ne hown h3 (by decide)
  have hcw3 : Chg (fun b => b = g ∨ some b = F) w w3 := (hc.alloc _).grown hg3 (fun k hk => by
    rw [a4] at hk
    rcases hF with rfl | ⟨b, hb, hbl⟩
    · exact .inl (.inr hk.symm)
    · rw [hb] at hk; injection hk with hk; exact .inr (by omega))
  refine ⟨(Value.slice A' (bs.length + 1) c').ownBlock, ⟨A', c', ?_, a2, ?_, ?_, ?_, a6, a7⟩, ?_, hcw3.setCell (.inl (.inl rfl)) _⟩
  · simpa using h4
  · have h5 := own_chg hown (Chg.setCell (S := fun b => b = g) (Chg.refl _ w3) (p := ⟨g, 2, none⟩) (.inl rfl) (.slice A' (bs.length + 1) c')) (fun k hk e => hv'g (by rw [hk, e]))
    simpa using h5
  · simp
  · intro b hb
    rw [List.mem_append, List.mem_singleton] at hb
    rcases hb with hb | rfl
    · exact a5 b hb
    · exact hx
  · rcases hat with h | h
    · rw [h, a4]; exact hF
    · exact .inr ⟨_, h, by have := hc.size; omega⟩

/-- The stream as a number. -/
def strm (bs : List Nat) (v : Nat) : Nat := leN bs + 256 ^ bs.length * v

theorem strm_push (bs : List Nat) (v : Nat) : strm (bs ++ [v % 256]) (v / 256) = strm bs v := by
  unfold strm
  rw [leN_append]
  simp only [leN, List.length_append, List.length_cons, List.length_nil, Nat.mul_zero, Nat.add_zero, Nat.zero_add, Nat.pow_succ]
  have h := Nat.div_add_mod v 256
  have : 256 ^ bs.length * v = 256 ^ bs.length * (256 * (v / 256) + v % 256) := by rw [h]
  rw [this, Nat.mul_add, Nat.mul_assoc]
  omega

theorem pow_256 (k : Nat) : 256 ^ k = 2 ^ (8 * k) := by rw [Nat.pow_mul]

/-- 'add' of x's low k bits, then the rest of x: nothing is lost. -/
theorem strm_add (bs : List Nat) (v n y k : Nat) : strm bs (v + y % 2 ^ k * 2 ^ n) + y / 2 ^ k * 2 ^ (8 * bs.length + (n + k)) = strm bs v + y * 2 ^ (8 * bs.length + n) := by
  unfold strm
  rw [pow_256, Nat.mul_add]
  have e1 : 2 ^ (8 * bs.length + (n + k)) = 2 ^ (8 * bs.length) * 2 ^ n * 2 ^ k := by rw [Nat.pow_add, Nat.pow_add, Nat.mul_assoc]
  have e2 : 2 ^ (8 * bs.length + n) = 2 ^ (8 * bs.length) * 2 ^ n := Nat.pow_add _ _ _
  rw [e1, e2]
  have h := Nat.div_add_mod y (2 ^ k)
  generalize 2 ^ (8 * bs.length) = X at *
  generalize 2 ^ n = Y at *
  generalize 2 ^ k = Z at *
  generalize y / Z = q at *
  generalize y % Z = r at *
  subst h
  have e3 : q * (X * Y * Z) = Z * q * (X * Y) := by rw [Nat.mul_comm q, Nat.mul_comm (Z * q), Nat.mul_assoc (X * Y)]
  have e4 : X * (r * Y) = r * (X * Y) := by rw [← Nat.mul_assoc, Nat.mul_comm X r, Nat.mul_assoc]
  rw [e3, e4, Nat.add_mul]
  omega
end Go.Proofs.Ytifolinoadllbaa
