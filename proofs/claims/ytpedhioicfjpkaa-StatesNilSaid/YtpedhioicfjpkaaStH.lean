/- portmanteauref10.First and portmanteauref10.Ahead walked. -/
import Derived.Test.YtpedhioicfjpkaaStG
namespace Go.Proofs.Ytpedhioicfjpkaa
open Go.RowKit Go Go.Shelf
set_option linter.unusedVariables false

theorem first_found {W : World} {B S k c : Nat} {A : Option Addr} {cs : List CellT} {sym : Int} (hr : Reads W B 3 A S (cellsV cs)) (hS : S = cs.length) (hS5 : S ≤ 512) (hk : k < S) {t : CellT} (ht : cs[k]? = some t) (hts : t.1 = sym) (hno : ∀ (j : Nat) (u : CellT), j < k → cs[j]? = some u → u.1 ≠ sym) :
    Calls Try.prog 18 #[.slice A S c, .int .i64 sym] W fun e w' => e = .returned (.tuple #[.int .i64 (k : Int), .int .i64 0]) ∧ w' = W := by
  have HR := hide hr
  have HS := hide hS
  have HNO := hide hno
  have HT := hide ht
  clear hr hS hno ht
  go_enter Try.func18, Try.ntmps18
  go_wp2
  go_loopw [6] (fun iv wr => ∃ i : Nat, i ≤ k ∧ iv = .int .i64 i ∧ wr = W) (fun iv _ => k - (intOf iv).toNat)
  case atStart => exact ⟨0, Nat.zero_le _, rfl, rfl⟩
  case round =>
    obtain ⟨i, hi, rfl, hw⟩ := hrel
    rw [hw]
    clear hw
    obtain ⟨b, o, x, y, z, hA, hb, c1, c2, c3, hx⟩ := cell_cells HR.out HS.out (show i < S by omega)
    subst hA
    have hiS : (i : Int) < (S : Int) := by omega
    by_cases hik : i < k
    · have hne := HNO.out i _ hik hx
      have hxs : (x == sym) = false := by simpa using hne
      clear hne hx
      go_wp2
      go_roundw
      case rel => exact ⟨i + 1, by omega, by go_num, trivial⟩
      case measure => simp [intOf]; omega
    · obtain rfl : k = i := by omega
      rw [HT.out] at hx
      injection hx with hx
      subst hx
      have hxs : (x == sym) = true := by simpa using hts
      clear hts
      go_wp2
      go_ret2
      exact ⟨rfl, rfl⟩

theorem first_none {W : World} {B S c : Nat} {A : Option Addr} {cs : List CellT} {sym : Int} (hr : Reads W B 3 A S (cellsV cs)) (hS : S = cs.length) (hS5 : S ≤ 512) (hno : ∀ (j : Nat) (u : CellT), cs[j]? = some u → u.1 ≠ sym) :
    Calls Try.prog 18 #[.slice A S c, .int .i64 sym] W fun e w' => e = .returned (.tuple #[.int .i64 0, .int .i64 2]) ∧ w' = W := by
  have HR := hide hr
  have HS := hide hS
  have HNO := hide hno
  clear hr hS hno
  go_enter Try.func18, Try.ntmps18
  go_wp2
  go_loopw [6] (fun iv wr => ∃ i : Nat, i ≤ S ∧ iv = .int .i64 i ∧ wr = W) (fun iv _ => S - (intOf iv).toNat)
  case atStart => exact ⟨0, Nat.zero_le _, rfl, rfl⟩
  case round =>
    obtain ⟨i, hi, rfl, hw⟩ := hrel
    rw [hw]
    clear hw
    by_cases hiS : i < S
    · obtain ⟨b, o, x, y, z, hA, hb, c1, c2, c3, hx⟩ := cell_cells HR.out HS.out hiS
      subst hA
      have hiS' : (i : Int) < (S : Int) := by omega
      have hne := HNO.out i _ hx
      have hxs : (x == sym) = false := by simpa using hne
      clear hne hx
      go_wp2
      go_roundw
      case rel => exact ⟨i + 1, by omega, by go_num, trivial⟩
      case measure => simp [intOf]; omega
    · obtain rfl : S = i := by omega
      go_wp2
      go_ret2
      exact ⟨rfl, rfl⟩

/-- Does a cell lead to the state st for the symbol sym? -/
def leads (sym st : Int) (t : CellT) : Prop := t.1 = sym ∧ t.2.2 ≤ st ∧ st - t.2.2 < 2 ^ t.2.1.toNat

set_option maxRecDepth 4000 in
set_option maxHeartbeats 4000000 in
/-- The search: K is the index that is found, or the end. -/
theorem ahead_in {W : World} {B S st K c : Nat} {A : Option Addr} {cs : List CellT} {sym : Int} (hr : Reads W B 3 A S (cellsV cs)) (hB : B ≤ W.heap.size) (hS : S = cs.length) (hS5 : S ≤ 512) (hst : st < S) (hcs : ∀ t ∈ cs, (∃ N : Nat, t.2.1 = (N : Int) ∧ N ≤ 10) ∧ 0 ≤ t.2.2 ∧ t.2.2 ≤ 1024)
    (hK : K ≤ S) (hno : ∀ (j : Nat) (u : CellT), j < K → cs[j]? = some u → ¬ leads sym st u) (hyes : ∀ u, cs[K]? = some u → leads sym st u) {s1 s2 s3 E : Int}
    (hres : (K = S ∧ s1 = 0 ∧ s2 = 0 ∧ s3 = 0 ∧ E = 2) ∨ (∃ u, cs[K]? = some u ∧ s1 = (K : Int) ∧ s2 = (st : Int) - u.2.2 ∧ s3 = u.2.1 ∧ E = 0)) :
    Calls Try.prog 16 #[.slice A S c, .int .i64 (st : Int), .int .i64 sym] W fun e w' => e = .returned (.tuple #[.agg #[.int .i64 s1, .int .u64 s2, .int .i64 s3], .int .i64 E]) ∧ Below W.heap.size W w' := by
  obtain ⟨W0, hW0⟩ : ∃ W0, W0 = W.alloc (.cells #[.int .i64 0, .int .u64 0, .int .i64 0] 33 (0, 0)) := ⟨_, rfl⟩
  have g0 : W0.heap[W.heap.size]? = some (.cells #[.int .i64 0, .int .u64 0, .int .i64 0] 33 (0, 0)) := by rw [hW0]; exact heap_alloc_new W _
  have b0 : Below W.heap.size W W0 := by rw [hW0]; exact (Below.refl W.heap.size W).alloc (Nat.le_refl _) _
  have hr0 := (hr.more hB).below b0
  have u0 := cell_blk g0 0
  have u1 := cell_blk g0 1
  have u2 := cell_blk g0 2
  have p0 := frozen_blk g0 0
  have p1 := frozen_blk g0 1
  have p2 := frozen_blk g0 2
  have s1' := set_blk g0 0 (.int .i64 s1)
  have s2' := set_blk s1' 1 (.int .u64 s2)
  have s3' := set_blk s2' 2 (.int .i64 s3)
  have u1' := cell_blk s1' 1
  have u2' := cell_blk s2' 2
  have p1' := frozen_blk s1' 1
  have p2' := frozen_blk s2' 2
  have z0 := cell_blk s3' 0
  have z1 := cell_blk s3' 1
  have z2 := cell_blk s3' 2
  have HB := hide (((b0.setCell (p := ⟨W.heap.size, 0, none⟩) (Nat.le_refl _) (.int .i64 s1)).setCell (p := ⟨W.heap.size, 1, none⟩) (Nat.le_refl _) (.int .u64 s2)).setCell (p := ⟨W.heap.size, 2, none⟩) (Nat.le_refl _) (.int .i64 s3))
  have HR := hide hr0
  have HS := hide hS
  have HNO := hide hno
  have HYES := hide hyes
  have HCS := hide hcs
  have HRES := hide hres
  have HSZ := hide (fun (N : Nat) (hN : N ≤ 10) W => size_any N W (by omega))
  have HW0 := hide hW0
  have t1 : ¬ (st : Int) < 0 := by omega
  have t2 : ¬ (S : Int) ≤ (st : Int) := by omega
  clear hr hB hS hno hyes hcs hres b0 g0 hr0 s1' s2' s3' hW0
  go_enter Try.func16, Try.ntmps16
  go_wp2_with fail
  rw [← HW0.out]
  go_loopw [8] (fun iv wr => ∃ i : Nat, i ≤ K ∧ iv = .int .i64 i ∧ wr = W0) (fun iv _ => S - (intOf iv).toNat)
  case atStart => exact ⟨0, Nat.zero_le _, rfl, rfl⟩
  case round =>
    obtain ⟨i, hi, rfl, hw⟩ := hrel
    rw [hw]
    clear hw
    by_cases hiS : i < S
    · obtain ⟨b, o, x, y, z, hA, hb, c1, c2, c3, hx⟩ := cell_cells HR.out HS.out hiS
      subst hA
      obtain ⟨⟨N, hN, hN10⟩, hz0, hz1⟩ := HCS.out _ (List.mem_of_getElem? hx)
      simp only at hN hz0 hz1
      subst hN
      have hiS' : (i : Int) < (S : Int) := by omega
      obtain ⟨far, hfar⟩ : ∃ far : Int, far = (st : Int) - z := ⟨_, rfl⟩
      have hwf : IntKind.i64.wrap ((st : Int) - z) = far := by rw [IntWalk.i64_in _ (by omega), hfar]
      obtain ⟨P, hP⟩ : ∃ P, P = 2 ^ N := ⟨_, rfl⟩
      have HSB := hide (HSZ.out N hN10)
      rw [← hP] at HSB
      have hPi : (2 : Int) ^ N = (P : Int) := by rw [hP]; simp
      by_cases hik : i < K
      · have hnl : x ≠ sym ∨ (x = sym ∧ far < 0) ∨ (x = sym ∧ ¬ far < 0 ∧ (P : Int) ≤ far) := by
          have h1 := HNO.out i _ hik hx
          unfold leads at h1
          simp only [Int.toNat_natCast, hPi] at h1
          by_cases hxs : x = sym
          · right
            by_cases hf : far < 0
            · exact .inl ⟨hxs, hf⟩
            · exact .inr ⟨hxs, hf, by
                rcases Int.lt_or_le far (P : Int) with h2 | h2
                · exact absurd ⟨hxs, by omega, by omega⟩ h1
                · exact h2⟩
          · exact .inl hxs
        clear hx hfar hP hPi hz0 hz1
        rcases hnl with hn | ⟨hn, hf⟩ | ⟨hn, hf, hf2⟩
        · have hxs : (x == sym) = false := by simp [hn]
          clear hn
          go_wp2
          go_roundw
          case rel => exact ⟨i + 1, by omega, by go_num, trivial⟩
          case measure => simp [intOf]; omega
        · have hxs : (x == sym) = true := by simp [hn]
          have hf' : ¬ 0 ≤ far := by omega
          clear hn
          go_wp2
          go_roundw
          case rel => exact ⟨i + 1, by omega, by go_num, trivial⟩
          case measure => simp [intOf]; omega
        · have hxs : (x == sym) = true := by simp [hn]
          have hf' : 0 ≤ far := by omega
          have hf3 : ¬ far < (P : Int) := by omega
          clear hn
          go_wp2_with fail
          refine (HSB.out _).mono ?_
          rintro e w1 ⟨rfl, rfl⟩
          go_wp2
          go_roundw
          case rel => exact ⟨i + 1, by omega, by go_num, trivial⟩
          case measure => simp [intOf]; omega
      · obtain rfl : K = i := by omega
        have hl := HYES.out _ hx
        unfold leads at hl
        simp only [Int.toNat_natCast, hPi] at hl
        obtain ⟨hl1, hl2, hl3⟩ := hl
        have hres := HRES.out
        rcases hres with ⟨h1, _⟩ | ⟨u, hu, rfl, rfl, rfl, rfl⟩
        · omega
        rw [hx] at hu
        injection hu with hu
        subst hu
        simp only at u1' u2' p1' p2' z0 z1 z2 HB
        rw [← hfar] at u2' p2' z0 z1 z2 HB
        have HF := hide hfar
        have hxs : (x == sym) = true := by simp [hl1]
        have hf' : 0 ≤ far := by omega
        have hf3 : far < (P : Int) := by omega
        have hwu : IntKind.u64.wrap far = far := by rw [IntKind.wrap_u64]; omega
        clear hx hfar hP hPi hz0 hz1 hl1 hl2 hl3
        go_wp2_with fail
        refine (HSB.out _).mono ?_
        rintro e w1 ⟨rfl, rfl⟩
        go_wp2
        refine bodyPost_ret (v := .tuple #[.agg #[.int .i64 (K : Int), .int .u64 far, .int .i64 (N : Int)], .int .i64 0]) ?_ rfl ⟨?_, HB.out⟩
        · simp only [results, Try.results16, go_sem]
          simp [z0, z1, z2, go_sem]
        · rw [HF.out]
    · obtain rfl : S = i := by omega
      have hres := HRES.out
      rcases hres with ⟨_, rfl, rfl, rfl, rfl⟩ | ⟨u, hu, _⟩
      · go_wp2
        refine bodyPost_ret (v := .tuple #[.agg #[.int .i64 0, .int .u64 0, .int .i64 0], .int .i64 2]) ?_ rfl ⟨rfl, HB.out⟩
        simp only [results, Try.results16, go_sem]
        simp [z0, z1, z2, go_sem]
      · rw [List.getElem?_eq_none (by have := HS.out; omega)] at hu
        cases hu
end Go.Proofs.Ytpedhioicfjpkaa
