/- The reference model's package portmanteauref02 walked: Same, SameBits. -/
import Derived.Test.YtbhpflckcehcfaaRefC
import Derived.Lib.Strings
namespace Go.Proofs.Ytbhpflckcehcfaa
open Go.RowKit
set_option linter.unusedVariables false

def strOf (xs : List Nat) : ByteArray := ⟨(xs.map UInt8.ofNat).toArray⟩

theorem run_string_reads {P : Program} (w : World) (src dst e : TypeId) {B n : Nat} {A : Option Addr} (c : Nat) {xs : List Nat} (h : Reads w B 1 A n (u8s xs))
    (hs : P.underlying src = some (.slice e)) (he : P.underlying e = some (.int .u8)) (hd : P.underlying dst = some .string) :
    (convert src dst (.slice A n c)).run P w = .ok (.string (strOf xs)) w := by
  have hl : xs.length = n := by have := h.1; simpa [u8s] using this
  rw [run_convert_bytes_string w src dst e A n c hs he hd]
  rcases A with _ | a
  · have h0 : n = 0 := by
      rcases Nat.eq_zero_or_pos n with h0 | h0
      · exact h0
      · obtain ⟨ad, h, _⟩ := h.2 h0; cases h
    have hx : xs = [] := List.eq_nil_of_length_eq_zero (by omega)
    subst hx
    simp [Conv.bytesToString, strOf]
    rfl
  · have hl2 : (loadCells a n).run P w = .ok ((xs.map fun b : Nat => (b : Int)).map (Value.int .u8)).toArray w := by
      have := run_loadCells_list (P := P) w a (u8s xs) (fun j v hj => by
        have hn : 0 < n := by
          rcases Nat.eq_zero_or_pos n with h0 | h0
          · have hx : xs = [] := List.eq_nil_of_length_eq_zero (by omega)
            subst hx; simp [u8s] at hj
          · exact h0
        obtain ⟨ad, ha, _, hc⟩ := h.2 hn
        injection ha with ha
        subst ha
        exact hc j v hj)
      have e1 : (u8s xs).length = n := by simpa [u8s] using hl
      rw [e1] at this
      rw [this]
      simp [u8s]
    rw [run_bytesToString w a n c _ hl2, foldl_push_bytes]
    simp [strOf, ByteArray.empty, ByteArray.emptyWithCapacity]
    rfl

theorem strOf_eq (xs ys : List Nat) (hx : ∀ b ∈ xs, b < 256) (hy : ∀ b ∈ ys, b < 256) : strOf xs = strOf ys ↔ xs = ys := by
  constructor
  · intro h
    have h1 : (xs.map UInt8.ofNat) = (ys.map UInt8.ofNat) := by
      have := congrArg (fun s : ByteArray => s.data.toList) h
      simpa [strOf] using this
    have h2 := congrArg (List.map UInt8.toNat) h1
    simp only [List.map_map] at h2
    have e : ∀ l : List Nat, (∀ b ∈ l, b < 256) → l.map (UInt8.toNat ∘ UInt8.ofNat) = l := fun l hl => by
      conv => rhs; rw [← List.map_id l]
      exact List.map_congr_left fun b hb => by simp; have := hl b hb; omega
    rw [e xs hx, e ys hy] at h2
    exact h2
  · intro h; rw [h]

set_option maxHeartbeats 400000 in
theorem same_any {B : Nat} (A1 A2 : Option Addr) (n1 c1 n2 c2 : Nat) (xs ys : List Nat) (w : World) (h1 : Reads w B 1 A1 n1 (u8s xs)) (h2 : Reads w B 1 A2 n2 (u8s ys)) (hx : ∀ b ∈ xs, b < 256) (hy : ∀ b ∈ ys, b < 256) :
    Calls Try.prog 15 #[.slice A1 n1 c1, .slice A2 n2 c2] w fun e w' => e = .returned (.bool (decide (xs = ys))) ∧ w = w' := by
  have r1 := run_string_reads (P := Try.prog) w 27 9 5 c1 h1 Try.underlying27 Try.underlying5 Try.underlying9
  have r2 := run_string_reads (P := Try.prog) w 27 9 5 c2 h2 Try.underlying27 Try.underlying5 Try.underlying9
  have he := strOf_eq xs ys hx hy
  obtain ⟨s1, hs1⟩ : ∃ s, s = strOf xs := ⟨_, rfl⟩
  obtain ⟨s2, hs2⟩ : ∃ s, s = strOf ys := ⟨_, rfl⟩
  rw [← hs1] at r1 he
  rw [← hs2] at r2 he
  have HE := hide he
  clear h1 h2 hx hy he hs1 hs2
  go_enter Try.func15, Try.ntmps15
  go_wp2
  go_ret
  refine ⟨ret_bool ?_, rfl⟩
  rw [Bool.eq_iff_iff]
  simp only [beq_iff_eq, decide_eq_true_eq]
  exact ⟨fun h => HE.out.1 (ByteArray.ext (Array.ext' (by rw [← Lib.toList_data, ← Lib.toList_data]; exact h))), fun h => by rw [HE.out.2 h]⟩

theorem same_own {B1 B2 e1 e2 : Nat} (v1 v2 : Value) (xs ys : List Nat) (w : World) (h1 : w.ownsRow B1 e1 1 v1 xs.length (u8s xs)) (h2 : w.ownsRow B2 e2 1 v2 ys.length (u8s ys)) (hx : ∀ b ∈ xs, b < 256) (hy : ∀ b ∈ ys, b < 256) :
    Calls Try.prog 15 #[v1, v2] w fun e w' => e = .returned (.bool (decide (xs = ys))) ∧ w = w' := by
  obtain ⟨A1, c1, rfl⟩ := own_form h1
  obtain ⟨A2, c2, rfl⟩ := own_form h2
  exact same_any A1 A2 _ c1 _ c2 xs ys w (Reads.of_own h1) (Reads.of_own h2) hx hy

theorem pack_byte (L N : Nat) : ∀ b ∈ pack L N, b < 256 := by
  intro b hb
  obtain ⟨i, _, rfl⟩ := List.mem_map.1 hb
  exact Nat.mod_lt _ (by omega)

set_option maxHeartbeats 400000 in
theorem sameBits_any {B : Nat} (A1 A2 : Option Addr) (n1 c1 n2 c2 : Nat) (xs ys : List Bool) (w : World) (h1 : Reads w B 1 A1 n1 (bools xs)) (h2 : Reads w B 1 A2 n2 (bools ys)) (hn1 : n1 ≤ 1000000000) (hn2 : n2 ≤ 1000000000) :
    Calls Try.prog 20 #[.slice A1 n1 c1, .slice A2 n2 c2] w fun e w' => e = .returned (.bool (decide (xs = ys))) ∧ ∃ k, w' = w.drewN k := by
  have l1 : xs.length = n1 := by have := h1.1; simpa [bools] using this
  have l2 : ys.length = n2 := by have := h2.1; simpa [bools] using this
  have L1 := hide l1
  have L2 := hide l2
  have R1 := hide h1
  have R2 := hide h2
  clear l1 l2 h1 h2
  by_cases hne : n1 = n2
  · subst hne
    have hz : ((n1 : Int) != (n1 : Int)) = false := by simp
    go_enter Try.func20, Try.ntmps20
    go_wp2
    go_loopw [5] (fun i wr => ∃ k : Nat, k ≤ n1 ∧ i = .int .i64 k ∧ xs.take k = ys.take k ∧ ∃ j, wr = w.drewN j) (fun i _ => n1 - (intOf i).toNat)
    case atStart => exact ⟨0, Nat.zero_le _, rfl, by simp, 0, rfl⟩
    case round =>
      obtain ⟨k, hk, rfl, hpre, j, rfl⟩ := hrel
      have HP := hide hpre
      clear hpre
      by_cases hlt : k < n1
      · obtain ⟨b1, o1, x, rfl, hb1, k1, hx⟩ := bool_cells R1.out hlt
        obtain ⟨b2, o2, y, rfl, hb2, k2, hy⟩ := bool_cells R2.out hlt
        have HX := hide hx
        have HY := hide hy
        clear hx hy
        have hkn : (k : Int) < (n1 : Int) := by omega
        by_cases hxy : x = y
        · subst hxy
          cases x
          all_goals
            go_wp2
            go_quiet (fail)
            go_wp2
            go_roundw
            case rel => exact ⟨k + 1, by omega, by go_num, by rw [take_snoc_some HX.out, take_snoc_some HY.out, HP.out], _, rfl⟩
            case measure => simp [intOf]; omega
        · have hf : decide (xs = ys) = false := by
            simp only [decide_eq_false_iff_not]
            intro h
            have h1 := HX.out
            rw [h, HY.out] at h1
            injection h1 with h1
            exact hxy h1.symm
          have HF := hide hf
          clear hf
          cases x <;> cases y <;> first | exact absurd rfl hxy | skip
          all_goals
            clear hxy
            go_wp2
            go_quiet (fail)
            go_wp2
            go_ret
            exact ⟨ret_bool HF.out.symm, _, World.drewN_drewN _ _ _⟩
      · obtain rfl : k = n1 := by omega
        go_wp2
        go_ret
        have hp := HP.out
        rw [← L1.out, List.take_length, L1.out, ← L2.out, List.take_length] at hp
        exact ⟨ret_bool (by simp [hp]), _, rfl⟩
  · have hz : ((n1 : Int) != (n2 : Int)) = true := by simp; omega
    have hf : decide (xs = ys) = false := by
      simp only [decide_eq_false_iff_not]
      intro h
      have h1 := L1.out
      rw [h, L2.out] at h1
      exact hne h1.symm
    have HF := hide hf
    clear hf
    go_enter Try.func20, Try.ntmps20
    go_wp2
    go_ret
    exact ⟨ret_bool HF.out.symm, 0, rfl⟩
end Go.Proofs.Ytbhpflckcehcfaa
