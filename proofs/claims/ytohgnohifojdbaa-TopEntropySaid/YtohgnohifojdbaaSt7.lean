/- states.Coder.Lowest, Log, Next; the law's begin and step. -/
import Derived.Test.YtohgnohifojdbaaSt4
import Derived.Test.YtohgnohifojdbaaSt6
namespace Go.Proofs.Ytohgnohifojdbaa
set_option maxRecDepth 8000
open Go.RowKit Go Go.Shelf
set_option linter.unusedVariables false

/-- Two steps are the same; two cells are the same (names that no walk opens). -/
def eqS (a b : CellT) : Bool := a.1 == b.1 && (a.2.1 == b.2.1 && a.2.2 == b.2.2)
theorem eqS_self (a : CellT) : eqS a a = true := by simp [eqS]
theorem eqS_ne {a b : CellT} (h : a ≠ b) : eqS a b = false := by
  obtain ⟨x1, x2, x3⟩ := a
  obtain ⟨y1, y2, y3⟩ := b
  simp only [eqS, Bool.eq_false_iff]
  intro h'
  apply h
  simp at h'
  simp [h']
theorem eql_step (x1 x2 x3 y1 y2 y3 : Int) (w : World) : (binOp .eql 85 (.agg #[.int .i64 x1, .int .u64 x2, .int .i64 x3]) (.agg #[.int .i64 y1, .int .u64 y2, .int .i64 y3])).run Try.prog w = .ok (.bool (eqS (x1, x2, x3) (y1, y2, y3))) w := by
  rw [run_eql_struct, run_equalIn_agg w 9999 85 _ _ (by kernel_rfl) (by kernel_rfl)]
  simp (config := {decide := false}) [go_sem, Op.eqFields, eqS]
  by_cases h1 : x1 = y1 <;> by_cases h2 : x2 = y2 <;> by_cases h3 : x3 = y3 <;> simp [h1, h2, h3]
theorem eql_cell (x1 x2 x3 y1 y2 y3 : Int) (w : World) : (binOp .eql 98 (.agg #[.int .i64 x1, .int .i64 x2, .int .i64 x3]) (.agg #[.int .i64 y1, .int .i64 y2, .int .i64 y3])).run Try.prog w = .ok (.bool (eqS (x1, x2, x3) (y1, y2, y3))) w := by
  rw [run_eql_struct, run_equalIn_agg w 9999 98 _ _ (by kernel_rfl) (by kernel_rfl)]
  simp (config := {decide := false}) [go_sem, Op.eqFields, eqS]
  by_cases h1 : x1 = y1 <;> by_cases h2 : x2 = y2 <;> by_cases h3 : x3 = y3 <;> simp [h1, h2, h3]
attribute [local go_sem high] eql_step eql_cell

theorem lowest_ok {W : World} {g L v k : Nat} {zs : List Int} (h : CoR W g L zs) (hv : v < zs.length) (hk : (posN (spreadL (2 ^ L) zs) (v : Int) (2 ^ L))[0]? = some k) :
    Calls Try.prog 33 #[.pointer (some ⟨g, 0, none⟩), .int .i64 (v : Int)] W fun e w' => e = .returned (.tuple #[.int .i64 (k : Int), .int .i64 0]) ∧ w' = W := by
  have HN := hide (none_any h)
  obtain ⟨N, hN⟩ : ∃ N, (posZ (spreadL (2 ^ L) zs) (v : Int) (2 ^ L)).length = N := ⟨_, rfl⟩
  have hN0 : 0 < N := by
    rw [← hN, posZ_length]
    rcases Nat.lt_or_ge 0 (posN (spreadL (2 ^ L) zs) (v : Int) (2 ^ L)).length with h1 | h1
    · exact h1
    · rw [List.getElem?_eq_none h1] at hk; cases hk
  have HOF := hide (of_ok h hv hN hN0)
  have HK := hide (posZ_at hk)
  clear h hk hN
  go_enter Try.func33, Try.ntmps33
  go_wp2_with fail
  refine HN.out.mono ?_
  rintro e w1 ⟨rfl, rfl⟩
  go_wp2_with fail
  refine HOF.out.mono ?_
  rintro e w2 ⟨A2, c2, rfl, hr2, rfl⟩
  obtain ⟨b, off, x, rfl, hb, kc, hx⟩ := int_cells hr2 (k := 0) hN0
  rw [HK.out] at hx
  injection hx with hx
  subst hx
  have h0N : (0 : Int) < (N : Int) := by omega
  have kc' : w2.cell? ⟨b, off, none⟩ = some (.int .i64 (k : Int)) := kc
  clear hr2 HN HOF kc
  go_wp2
  go_ret2
  exact ⟨rfl, rfl⟩

theorem lowest_bad {W : World} {g L : Nat} {sym : Int} {zs : List Int} (h : CoR W g L zs) (hs : sym < 0 ∨ (¬ sym < 0 ∧ (zs.length : Int) ≤ sym) ∨ (∃ v : Nat, sym = (v : Int) ∧ v < zs.length ∧ (posZ (spreadL (2 ^ L) zs) (v : Int) (2 ^ L)).length = 0)) :
    Calls Try.prog 33 #[.pointer (some ⟨g, 0, none⟩), .int .i64 sym] W fun e w' => e = .returned (.tuple #[.int .i64 0, .int .i64 2]) ∧ w' = W := by
  have HN := hide (none_any h)
  have HOF := hide (of_bad h hs)
  clear h hs
  go_enter Try.func33, Try.ntmps33
  go_wp2_with fail
  refine HN.out.mono ?_
  rintro e w1 ⟨rfl, rfl⟩
  go_wp2_with fail
  refine HOF.out.mono ?_
  rintro e w2 ⟨rfl, rfl⟩
  go_wp2
  go_ret2
  exact ⟨rfl, rfl⟩

theorem bitLen_pow {L : Nat} (hL : L ≤ 9) : Lib.bitLen (2 ^ L) = L + 1 := by
  have h : ∀ l : Fin 10, Lib.bitLen (2 ^ l.val) = l.val + 1 := by decide +kernel
  exact h ⟨L, by omega⟩

theorem log_any {W : World} {g L : Nat} {zs : List Int} (h : CoR W g L zs) (hL : L ≤ 9) :
    Calls Try.prog 36 #[.pointer (some ⟨g, 0, none⟩)] W fun e w' => e = .returned (.int .i64 (L : Int)) ∧ w' = W := by
  have HN := hide (none_any h)
  have hbl := bitLen_pow hL
  obtain ⟨hp0, hp1⟩ := pow_len hL
  obtain ⟨A, cA, P, cP, vals, h1, _, _, _⟩ := h
  have HLEN := hide (fun W => lenB_any (2 ^ L) W (by omega))
  obtain ⟨S, hS⟩ : ∃ S, S = 2 ^ L := ⟨_, rfl⟩
  rw [← hS] at h1 HLEN hbl hp1
  rw [hbl] at HLEN
  have k0 := cell_blk h1 0
  have hwu : IntKind.u64.wrap (S : Int) = (S : Int) := by rw [IntKind.wrap_u64]; omega
  have hws : IntKind.i64.wrap (((L + 1 : Nat) : Int) - 1) = (L : Int) := by rw [IntWalk.i64_in _ (by omega)]; omega
  clear h1 hS hbl hp0
  go_enter Try.func36, Try.ntmps36
  go_wp2_with fail
  refine HN.out.mono ?_
  rintro e w1 ⟨rfl, rfl⟩
  go_wp2_with fail
  refine (HLEN.out _).mono ?_
  rintro e w2 ⟨rfl, rfl⟩
  go_wp2
  go_ret
  exact ⟨ret_int (by simp), rfl⟩

end Go.Proofs.Ytohgnohifojdbaa
