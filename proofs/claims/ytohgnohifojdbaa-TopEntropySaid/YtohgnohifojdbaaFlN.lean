/- flow.Encode in one form; its flows are decoded. -/
import Derived.Test.YtohgnohifojdbaaFlM
import Derived.Test.YtohgnohifojdbaaFlF
import Derived.Test.YtohgnohifojdbaaBaA
namespace Go.Proofs.Ytohgnohifojdbaa
set_option maxRecDepth 8000
open Go.RowKit Go Go.Shelf
set_option linter.unusedVariables false
set_option maxRecDepth 8000

/-- What Encode answers: the error's number, the flow. -/
def OutE (l : Int) (zs S : List Int) (k : Int) (bs : List Nat) : Prop :=
  (¬ okT l zs ∧ k = 13 ∧ bs = []) ∨ (okT l zs ∧ 131072 < S.length ∧ k = 2 ∧ bs = []) ∨ (okT l zs ∧ S.length ≤ 131072 ∧ (¬ ∀ s ∈ S, hasS zs s) ∧ k = 2 ∧ bs = []) ∨
    (∃ L : Nat, l = (L : Int) ∧ okT (L : Int) zs ∧ S.length ≤ 131072 ∧ (∀ s ∈ S, hasS zs s) ∧ k = 0 ∧ bs = pack (finT L zs S + 1) (finN L zs S + 2 ^ finT L zs S))

theorem outE_ex (l : Int) (zs S : List Int) : ∃ k bs, OutE l zs S k bs := by
  by_cases hT : okT l zs
  · by_cases hn : S.length ≤ 131072
    · by_cases hs : ∀ s ∈ S, hasS zs s
      · obtain ⟨L, rfl⟩ := okT_nat hT
        exact ⟨0, _, .inr (.inr (.inr ⟨L, rfl, hT, hn, hs, rfl, rfl⟩))⟩
      · exact ⟨2, [], .inr (.inr (.inl ⟨hT, hn, hs, rfl, rfl⟩))⟩
    · exact ⟨2, [], .inr (.inl ⟨hT, by omega, rfl, rfl⟩)⟩
  · exact ⟨13, [], .inl ⟨hT, rfl, rfl⟩⟩

theorem outE_all {l : Int} {zs S : List Int} (hT : okT l zs) (hn : S.length ≤ 131072) (hs : ∀ s ∈ S, hasS zs s) : ∃ L : Nat, l = (L : Int) ∧ OutE l zs S 0 (pack (finT L zs S + 1) (finN L zs S + 2 ^ finT L zs S)) := by
  obtain ⟨L, rfl⟩ := okT_nat hT
  exact ⟨L, rfl, .inr (.inr (.inr ⟨L, rfl, hT, hn, hs, rfl, rfl⟩))⟩

theorem pack_small (L N : Nat) : ∀ x ∈ pack L N, x < 256 := pack_byte L N

theorem flow_len {L : Nat} {zs S : List Int} (hT : okT (L : Int) zs) (hs : ∀ s ∈ S, hasS zs s) : (pack (finT L zs S + 1) (finN L zs S + 2 ^ finT L zs S)).length ≤ 2 * S.length + 1 := by
  have h1 := (finN_lt hT hs).2
  have hl9 : L ≤ 9 := by have := hT.1; omega
  have h2 := Nat.mul_le_mul_right S.length hl9
  rw [pack_len]
  omega

/-- The number of a closed stream. -/
theorem closed_num {T N : Nat} (h : N < 2 ^ T) : leN (pack (T + 1) (N + 2 ^ T)) = N + 2 ^ T := leN_packB (by rw [Nat.pow_succ]; omega)

theorem outD_num {L : Nat} {zs : List Int} (hT : okT (L : Int) zs) {n T N : Nat} (hn : n ≤ 131072) (hN : N < 2 ^ T) {k : Int} {l : List Int}
    (h : (startF (buildL L zs) L (N + 2 ^ T) n T = some l ∧ k = 0) ∨ (startF (buildL L zs) L (N + 2 ^ T) n T = none ∧ k = 14 ∧ l = [])) : OutD (L : Int) zs (pack (T + 1) (N + 2 ^ T)) (n : Int) k l := by
  obtain ⟨h1, h2⟩ := close_last hN
  refine .inr (.inr (.inr ⟨L, n, T, rfl, rfl, hT, hn, h1, h2, ?_⟩))
  rw [closed_num hN]
  exact h

theorem outD_back {L : Nat} {zs S : List Int} (hT : okT (L : Int) zs) (hn : S.length ≤ 131072) (hs : ∀ s ∈ S, hasS zs s) : OutD (L : Int) zs (pack (finT L zs S + 1) (finN L zs S + 2 ^ finT L zs S)) (S.length : Int) 0 S := by
  obtain ⟨h1, h2⟩ := finN_lt hT hs
  refine outD_num hT hn h1 (.inl ⟨startF_enc hT hs ?_, rfl⟩)
  rw [Nat.add_mod_right, Nat.mod_eq_of_lt h1]

section
variable {m c ns cs : Nat} {A B : Option Addr} {zs S : List Int} {l k : Int} {bs : List Nat}
theorem enc_any (hO : OutE l zs S k bs) (w : World) (hm : zs.length = m) (hr : Reads w w.heap.size 1 A m (zs.map (Value.int .i64))) (hok : ∀ z ∈ zs, (Lit.int .i64 z).wf = true) (hc : m ≤ c) (hc' : c ≤ maxLen)
    (hS : S.length = ns) (hrS : Reads w w.heap.size 1 B ns (intsV S)) :
    Calls Try.prog 13 #[.agg #[.int .i64 l, .slice A m c], .slice B ns cs] w fun e w' => ∃ v, e = .returned (.tuple #[v, .int .i64 k]) ∧ w'.ownsRow w.heap.size 5 1 v bs.length (u8s bs) ∧ Below w.heap.size w w' := by
  rcases hO with ⟨hT, rfl, rfl⟩ | ⟨hT, hn, rfl, rfl⟩ | ⟨hT, hn, hs, rfl, rfl⟩ | ⟨L, rfl, hT, hn, hs, rfl, rfl⟩
  · exact (callsIn_wide.1 (enc_table 6 (Nat.le_refl _) l A B m c ns cs zs w hm hr hok hc hc' hT)).mono fun e w' ⟨h1, h2⟩ => ⟨_, h1, World.ownsRow_nil _ _ _ _, h2⟩
  · obtain ⟨L, rfl⟩ := okT_nat hT
    exact (callsIn_wide.1 (enc_long 6 (Nat.le_refl _) L A B m c ns cs zs w hm hr hok hc hc' hT (by omega))).mono fun e w' ⟨h1, h2⟩ => ⟨_, h1, World.ownsRow_nil _ _ _ _, h2⟩
  · obtain ⟨L, rfl⟩ := okT_nat hT
    refine (callsIn_wide.1 (enc_run 6 (Nat.le_refl _) L A B m c ns cs zs S w hm hr hok hc hc' hT hS hrS (by omega))).mono ?_
    rintro e w' (⟨h, _⟩ | ⟨_, h1, h2⟩)
    · exact absurd h hs
    · exact ⟨_, h1, World.ownsRow_nil _ _ _ _, h2⟩
  · refine (callsIn_wide.1 (enc_run 6 (Nat.le_refl _) L A B m c ns cs zs S w hm hr hok hc hc' hT hS hrS (by omega))).mono ?_
    rintro e w' (⟨_, h⟩ | ⟨h, _⟩)
    · exact h
    · exact absurd hs h
end
end Go.Proofs.Ytohgnohifojdbaa
