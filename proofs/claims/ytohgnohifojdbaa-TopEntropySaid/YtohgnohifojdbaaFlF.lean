/- Both decoders of flows, in one form; portmanteauref08.Same, portmanteaulaw12.small and known. -/
import Derived.Test.YtohgnohifojdbaaFlD
import Derived.Test.YtohgnohifojdbaaSt8
namespace Go.Proofs.Ytohgnohifojdbaa
set_option maxRecDepth 8000
open Go.RowKit Go Go.Shelf
set_option linter.unusedVariables false
set_option maxRecDepth 8000

/-- What Decode answers: the error's number, the symbols. -/
def OutD (l : Int) (zs : List Int) (bs : List Nat) (n k : Int) (S : List Int) : Prop :=
  (¬ okT l zs ∧ k = 13 ∧ S = []) ∨ (okT l zs ∧ (n < 0 ∨ (¬ n < 0 ∧ 131072 < n)) ∧ k = 2 ∧ S = []) ∨ (okT l zs ∧ (¬ n < 0 ∧ ¬ 131072 < n) ∧ bs.getLastD 0 = 0 ∧ k = 14 ∧ S = []) ∨
    (∃ L m T : Nat, l = (L : Int) ∧ n = (m : Int) ∧ okT (L : Int) zs ∧ m ≤ 131072 ∧ bs.getLastD 0 ≠ 0 ∧ T + 9 = 8 * bs.length + Lib.bitLen (bs.getLastD 0) ∧
      ((startF (buildL L zs) L (leN bs) m T = some S ∧ k = 0) ∨ (startF (buildL L zs) L (leN bs) m T = none ∧ k = 14 ∧ S = [])))

theorem okT_nat {l : Int} {zs : List Int} (h : okT l zs) : ∃ L : Nat, l = (L : Int) := ⟨l.toNat, by have := h.1; omega⟩

theorem last_bits {bs : List Nat} (h0 : bs.getLastD 0 ≠ 0) : ∃ T, T + 9 = 8 * bs.length + Lib.bitLen (bs.getLastD 0) := by
  refine ⟨8 * bs.length + Lib.bitLen (bs.getLastD 0) - 9, ?_⟩
  have hpos : 0 < Lib.bitLen (bs.getLastD 0) := by
    unfold Lib.bitLen
    rw [show (64 : Nat) = 63 + 1 from rfl, Lib.bitLenAux, if_neg h0]
    omega
  have hn0 : 0 < bs.length := by
    rcases bs with _ | ⟨x, l⟩
    · exact absurd rfl h0
    · simp
  omega

theorem outD_ex (l : Int) (zs : List Int) (bs : List Nat) (n : Int) : ∃ k S, OutD l zs bs n k S := by
  by_cases hT : okT l zs
  · by_cases hn : n < 0 ∨ (¬ n < 0 ∧ 131072 < n)
    · exact ⟨2, [], .inr (.inl ⟨hT, hn, rfl, rfl⟩)⟩
    · by_cases h0 : bs.getLastD 0 = 0
      · exact ⟨14, [], .inr (.inr (.inl ⟨hT, by omega, h0, rfl, rfl⟩))⟩
      · obtain ⟨L, rfl⟩ := okT_nat hT
        obtain ⟨T, h3⟩ := last_bits h0
        obtain ⟨m, rfl⟩ : ∃ m : Nat, n = (m : Int) := ⟨n.toNat, by omega⟩
        cases hs : startF (buildL L zs) L (leN bs) m T with
        | none => exact ⟨14, [], .inr (.inr (.inr ⟨L, m, T, rfl, rfl, hT, by omega, h0, h3, .inr ⟨hs, rfl, rfl⟩⟩))⟩
        | some S => exact ⟨0, S, .inr (.inr (.inr ⟨L, m, T, rfl, rfl, hT, by omega, h0, h3, .inl ⟨hs, rfl⟩⟩))⟩
  · exact ⟨13, [], .inl ⟨hT, rfl, rfl⟩⟩

theorem outD_total {l : Int} {zs : List Int} {bs : List Nat} {n k : Int} {S : List Int} (h : OutD l zs bs n k S) :
    (k = 0 ∧ okT l zs ∧ (S.length : Int) = n ∧ ∀ s ∈ S, hasS zs s) ∨ ((k = 13 ∨ k = 2 ∨ k = 14) ∧ S = []) := by
  rcases h with ⟨_, rfl, rfl⟩ | ⟨_, _, rfl, rfl⟩ | ⟨_, _, _, rfl, rfl⟩ | ⟨L, m, T, rfl, rfl, hT, _, _, _, ⟨hs, rfl⟩ | ⟨_, rfl, rfl⟩⟩
  · exact .inr ⟨.inl rfl, rfl⟩
  · exact .inr ⟨.inr (.inl rfl), rfl⟩
  · exact .inr ⟨.inr (.inr rfl), rfl⟩
  · obtain ⟨h1, h2⟩ := startF_total hT hs
    exact .inl ⟨rfl, hT, by omega, h2⟩
  · exact .inr ⟨.inr (.inr rfl), rfl⟩

section
variable {m c nb cb : Nat} {A B : Option Addr} {zs : List Int} {bs : List Nat} {l n k : Int} {S : List Int}
theorem dec_any (hO : OutD l zs bs n k S) (w : World) (hm : zs.length = m) (hr : Reads w w.heap.size 1 A m (zs.map (Value.int .i64))) (hok : ∀ z ∈ zs, (Lit.int .i64 z).wf = true) (hc : m ≤ c) (hc' : c ≤ maxLen)
    (hrb : Reads w w.heap.size 1 B nb (u8s bs)) (h8 : ∀ x ∈ bs, x < 256) (hnb : nb = bs.length) (hmb : nb ≤ 1000000) :
    Calls Try.prog 14 #[.agg #[.int .i64 l, .slice A m c], .slice B nb cb, .int .i64 n] w fun e w' => ∃ v, e = .returned (.tuple #[v, .int .i64 k]) ∧ w'.ownsRow w.heap.size 3 1 v S.length (intsV S) ∧ Below w.heap.size w w' := by
  rcases hO with ⟨hT, rfl, rfl⟩ | ⟨hT, hn, rfl, rfl⟩ | ⟨hT, hn, h0, rfl, rfl⟩ | ⟨L, mm, T, rfl, rfl, hT, hn, h0, hb, hs⟩
  · exact (dec_table l n w hm hr hok hc hc' hT).mono fun e w' ⟨h1, h2⟩ => ⟨_, h1, World.ownsRow_nil _ _ _ _, h2⟩
  · obtain ⟨L, rfl⟩ := okT_nat hT
    exact (dec_arg L n w hm hr hok hc hc' hT hn).mono fun e w' ⟨h1, h2⟩ => ⟨_, h1, World.ownsRow_nil _ _ _ _, h2⟩
  · obtain ⟨L, rfl⟩ := okT_nat hT
    exact (dec_open L n w hm hr hok hc hc' hT hn hrb hnb h0 hmb).mono fun e w' ⟨h1, h2⟩ => ⟨_, h1, World.ownsRow_nil _ _ _ _, h2⟩
  · refine (dec_run L mm w hm hr hok hc hc' hT hn hrb h8 hnb h0 hmb (hnb ▸ hb)).mono ?_
    rintro e w' ⟨v, k', S', rfl, h1, h2, h3⟩
    rcases hs with ⟨hs, rfl⟩ | ⟨hs, rfl, rfl⟩ <;> rcases h1 with ⟨h1, rfl⟩ | ⟨h1, rfl, rfl⟩ <;> rw [hs] at h1
    · injection h1 with h1
      subst h1
      exact ⟨v, rfl, h2, h3⟩
    · cases h1
    · cases h1
    · exact ⟨v, rfl, h2, h3⟩

end

end Go.Proofs.Ytohgnohifojdbaa
