/- The methods of states.Coder walked: none, Log, state, of, Cell, Lowest, Next. -/
import Derived.Test.YtohgnohifojdbaaSt2
import Derived.Test.YtohgnohifojdbaaStC
namespace Go.Proofs.Ytohgnohifojdbaa
set_option maxRecDepth 8000
open Go.RowKit Go
set_option linter.unusedVariables false

theorem pow_len {L : Nat} (hL : L ≤ 9) : 0 < 2 ^ L ∧ 2 ^ L ≤ 512 := by
  have h1 : 2 ^ L ≤ 2 ^ 9 := Nat.pow_le_pow_right (by omega) hL
  have h2 : (2 : Nat) ^ 9 = 512 := by decide
  exact ⟨Nat.pow_pos (by omega), by omega⟩

theorem none_any {W : World} {g L : Nat} {zs : List Int} (h : CoR W g L zs) :
    Calls Try.prog 56 #[.pointer (some ⟨g, 0, none⟩)] W fun e w' => e = .returned (.bool false) ∧ w' = W := by
  obtain ⟨A, cA, P, cP, vals, h1, _, _, _⟩ := h
  obtain ⟨S, hS⟩ : ∃ S, S = 2 ^ L := ⟨_, rfl⟩
  have hp : 0 < S := by rw [hS]; exact Nat.pow_pos (by omega)
  rw [← hS] at h1
  have k0 := cell_blk h1 0
  have hz : ((S : Int) == 0) = false := by simp; omega
  have hz2 : S ≠ 0 := by omega
  clear h1 hS hp
  go_enter Try.func56, Try.ntmps56
  go_wp2
  go_ret
  exact ⟨rfl, rfl⟩

theorem state_ok {W : World} {g L st : Nat} {zs : List Int} (h : CoR W g L zs) (hs : st < 2 ^ L) :
    Calls Try.prog 58 #[.pointer (some ⟨g, 0, none⟩), .int .i64 (st : Int)] W fun e w' => e = .returned (.int .i64 0) ∧ w' = W := by
  have HN := hide (none_any h)
  obtain ⟨A, cA, P, cP, vals, h1, _, _, _⟩ := h
  obtain ⟨S, hS⟩ : ∃ S, S = 2 ^ L := ⟨_, rfl⟩
  rw [← hS] at h1 hs
  have k0 := cell_blk h1 0
  have t1 : ¬ (st : Int) < 0 := by omega
  have t2 : ¬ (S : Int) ≤ (st : Int) := by omega
  clear h1 hS
  go_enter Try.func58, Try.ntmps58
  go_wp2_with fail
  refine HN.out.mono ?_
  rintro e w1 ⟨rfl, rfl⟩
  go_wp2
  go_ret
  exact ⟨rfl, rfl⟩

theorem state_bad {W : World} {g L : Nat} {st : Int} {zs : List Int} (h : CoR W g L zs) (hs : st < 0 ∨ (¬ st < 0 ∧ ((2 ^ L : Nat) : Int) ≤ st)) :
    Calls Try.prog 58 #[.pointer (some ⟨g, 0, none⟩), .int .i64 st] W fun e w' => e = .returned (.int .i64 21) ∧ w' = W := by
  have HN := hide (none_any h)
  obtain ⟨A, cA, P, cP, vals, h1, _, _, _⟩ := h
  obtain ⟨S, hS⟩ : ∃ S, S = 2 ^ L := ⟨_, rfl⟩
  rw [← hS] at h1 hs
  have k0 := cell_blk h1 0
  clear h1 hS
  rcases hs with hs | ⟨hs, hs'⟩
  all_goals
    go_enter Try.func58, Try.ntmps58
    go_wp2_with fail
    refine HN.out.mono ?_
    rintro e w1 ⟨rfl, rfl⟩
    go_wp2
    go_ret
    exact ⟨rfl, rfl⟩

set_option maxHeartbeats 1000000 in
theorem of_ok {W : World} {g L v N : Nat} {zs : List Int} (h : CoR W g L zs) (hv : v < zs.length) (hN : (posZ (spreadL (2 ^ L) zs) (v : Int) (2 ^ L)).length = N) (hn : 0 < N) :
    Calls Try.prog 57 #[.pointer (some ⟨g, 0, none⟩), .int .i64 (v : Int)] W fun e w' => ∃ A' c', e = .returned (.tuple #[.slice A' N c', .int .i64 0]) ∧ Reads W W.heap.size 1 A' N (intsV (posZ (spreadL (2 ^ L) zs) (v : Int) (2 ^ L))) ∧ w' = W := by
  obtain ⟨A, cA, P, cP, vals, h1, _, h3, h4⟩ := h
  obtain ⟨A', n', c', e1, e2, e3⟩ := h4 v hv
  obtain ⟨b, off, rfl, hb, hc⟩ := h3.open_ (by omega) (by omega)
  have kv := hc v _ e1
  have k1 := cell_blk h1 1
  obtain ⟨m, hm⟩ : ∃ m, m = zs.length := ⟨_, rfl⟩
  rw [← hm] at k1 hv
  have t1 : ¬ (v : Int) < 0 := by omega
  have t2 : ¬ (m : Int) ≤ (v : Int) := by omega
  have t3 : (v : Int) < (m : Int) := by omega
  rw [hN] at e2
  subst e2
  have t4 : ((n' : Int) == 0) = false := by simp; omega
  have t5 : n' ≠ 0 := by omega
  have HE3 := hide e3
  clear h1 h3 h4 hc e1 e3 hm hn hN
  go_enter Try.func57, Try.ntmps57
  go_wp2
  go_ret2
  exact ⟨_, ⟨_, rfl⟩, HE3.out, rfl⟩

set_option maxHeartbeats 1000000 in
theorem of_bad {W : World} {g L : Nat} {sym : Int} {zs : List Int} (h : CoR W g L zs) (hs : sym < 0 ∨ (¬ sym < 0 ∧ (zs.length : Int) ≤ sym) ∨ (∃ v : Nat, sym = (v : Int) ∧ v < zs.length ∧ (posZ (spreadL (2 ^ L) zs) (v : Int) (2 ^ L)).length = 0)) :
    Calls Try.prog 57 #[.pointer (some ⟨g, 0, none⟩), .int .i64 sym] W fun e w' => e = .returned (.tuple #[.slice none 0 0, .int .i64 2]) ∧ w' = W := by
  obtain ⟨A, cA, P, cP, vals, h1, _, h3, h4⟩ := h
  have k1 := cell_blk h1 1
  rcases hs with hs | ⟨hs, hs'⟩ | ⟨v, rfl, hv, hn⟩
  · clear h1 h3 h4
    go_enter Try.func57, Try.ntmps57
    go_wp2
    go_ret2
    exact ⟨rfl, rfl⟩
  · clear h1 h3 h4
    go_enter Try.func57, Try.ntmps57
    go_wp2
    go_ret2
    exact ⟨rfl, rfl⟩
  · obtain ⟨A', n', c', e1, e2, e3⟩ := h4 v hv
    obtain ⟨b, off, rfl, hb, hc⟩ := h3.open_ (by omega) (by omega)
    rw [hn] at e2
    subst e2
    have kv := hc v _ e1
    obtain ⟨m, hm⟩ : ∃ m, m = zs.length := ⟨_, rfl⟩
    rw [← hm] at k1 hv
    have t1 : ¬ (v : Int) < 0 := by omega
    have t2 : ¬ (m : Int) ≤ (v : Int) := by omega
    have t3 : (v : Int) < (m : Int) := by omega
    clear h1 h3 h4 hc e1 e3 hm hn
    go_enter Try.func57, Try.ntmps57
    go_wp2
    go_ret2
    exact ⟨rfl, rfl⟩

end Go.Proofs.Ytohgnohifojdbaa
