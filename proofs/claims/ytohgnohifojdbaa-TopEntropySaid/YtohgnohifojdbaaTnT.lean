/- Texts put together: TnE, TnF, TnG. -/
import Derived.Test.YtohgnohifojdbaaBaA
import Derived.Test.YtohgnohifojdbaaTnR
import Derived.WalkMore
namespace Go.Proofs.Ytohgnohifojdbaa
section
set_option maxRecDepth 8000
set_option linter.unusedVariables false

def cutB (v : Nat) : Nat := Lib.bitLen v - 1
def cutU (v : Nat) : Nat := 2 * 2 ^ cutB v - v
theorem cut_fact {v : Nat} (h0 : 0 < v) (h : v ≤ 514) : 0 < Lib.bitLen v ∧ cutB v ≤ 9 ∧ 2 ^ cutB v ≤ v ∧ v < 2 * 2 ^ cutB v := by
  obtain ⟨h1, h2, h3⟩ := bitLen_bounds v h0 (Nat.lt_of_le_of_lt h (by decide))
  have h4 : Lib.bitLen v ≤ 10 := Lib.bitLen_le v 10 (by omega) (Nat.lt_of_le_of_lt h (by decide))
  have h5 : 2 ^ Lib.bitLen v = 2 * 2 ^ cutB v := by unfold cutB; rw [← Nat.pow_succ']; congr 1; omega
  refine ⟨h1, ?_, h2, by omega⟩
  unfold cutB; omega

/-- A number in truncated binary code. -/
def numP (n v : Nat) : List (Int × Int) := if n < cutU v then [((n : Int), (cutB v : Int))] else [(((n + cutU v) / 2 : Nat), (cutB v : Int)), (((n + cutU v) % 2 : Nat), 1)]
/-- The chunks of a run's length. -/
def runP (r : Nat) : List (Int × Int) := if r < 3 then [((r : Int), 2)] else (3, 2) :: runP (r - 3)
termination_by r
theorem runP_lt {r : Nat} (h : r < 3) : runP r = [((r : Int), 2)] := by rw [runP, if_pos h]
theorem runP_ge {r : Nat} (h : ¬ r < 3) : runP r = (3, 2) :: runP (r - 3) := by rw [runP, if_neg h]
def zrun : List Int → Nat
  | [] => 0
  | z :: zs => if z = 0 then zrun zs + 1 else 0
def descP : List Int → Nat → Nat → List (Int × Int)
  | [], _, _ => []
  | _ :: zs, r + 1, left => descP zs r left
  | z :: zs, 0, left => numP (z + 1).toNat (left + 2) ++ if z = 0 then runP (zrun zs) ++ descP zs (zrun zs) left else descP zs 0 (left - (absZ z).toNat)

theorem bl_runP (r : Nat) : bl (runP r) ≤ 2 * r + 2 := by
  induction r using Nat.strongRecOn with
  | _ r ih =>
    by_cases h : r < 3
    · rw [runP_lt h]; simp [bl]
    · rw [runP_ge h]
      have := ih (r - 3) (by omega)
      simp only [bl]
      have e : ((2 : Int)).toNat = 2 := rfl
      omega
theorem ok_runP (r : Nat) : okAll (runP r) := by
  induction r using Nat.strongRecOn with
  | _ r ih =>
    intro p hp
    by_cases h : r < 3
    · rw [runP_lt h, List.mem_singleton] at hp
      subst hp
      have e : ((2 : Int)).toNat = 2 := rfl
      have e2 : (2 : Nat) ^ 2 = 4 := rfl
      simp only [mayB, Bool.and_eq_true, decide_eq_true_eq, Int.toNat_natCast, e, e2]
      omega
    · rw [runP_ge h] at hp
      rcases List.mem_cons.1 hp with rfl | hp
      · decide
      · exact ih (r - 3) (by omega) p hp
theorem bl_numP {n v : Nat} (h0 : 0 < v) (h : v ≤ 514) : bl (numP n v) ≤ 10 := by
  have h1 := (cut_fact h0 h).2.1
  unfold numP
  split
  · simp [bl]; omega
  · simp [bl]; omega
theorem ok_numP {n v : Nat} (hn : n < v) (h : v ≤ 514) : okAll (numP n v) := by
  obtain ⟨h1, h2, h3, h4⟩ := cut_fact (by omega : 0 < v) h
  have hu : cutU v = 2 * 2 ^ cutB v - v := rfl
  intro p hp
  unfold numP at hp
  split at hp
  · rw [List.mem_singleton] at hp
    subst hp
    simp only [mayB, Bool.and_eq_true, decide_eq_true_eq, Int.toNat_natCast]
    omega
  · simp only [List.mem_cons, List.not_mem_nil, or_false] at hp
    rcases hp with rfl | rfl
    · simp only [mayB, Bool.and_eq_true, decide_eq_true_eq, Int.toNat_natCast]
      omega
    · have e : ((1 : Int)).toNat = 1 := rfl
      simp only [mayB, Bool.and_eq_true, decide_eq_true_eq, Int.toNat_natCast, e]
      omega
theorem zrun_le : ∀ zs : List Int, zrun zs ≤ zs.length
  | [] => Nat.le_refl _
  | z :: zs => by
    have := zrun_le zs
    unfold zrun
    split <;> simp <;> omega
theorem zrun_stop : ∀ zs : List Int, zs[zrun zs]? ≠ some 0
  | [] => by simp
  | z :: zs => by
    unfold zrun
    split
    · rw [List.getElem?_cons_succ]; exact zrun_stop zs
    · rw [List.getElem?_cons_zero]; intro e; injection e with e; contradiction
theorem zrun_take : ∀ zs : List Int, zs.take (zrun zs) = List.replicate (zrun zs) 0
  | [] => rfl
  | z :: zs => by
    unfold zrun
    split
    · next h => rw [List.take_succ_cons, List.replicate_succ, zrun_take zs, h]
    · rfl
theorem zrun_at {zs : List Int} {k : Nat} (h : k < zrun zs) : zs[k]? = some 0 := by
  have h1 : (zs.take (zrun zs))[k]? = zs[k]? := by rw [List.getElem?_take, if_pos h]
  rw [← h1, zrun_take, List.getElem?_replicate, if_pos h]
theorem zrun_next {zs : List Int} {k : Nat} (h : k ≤ zrun zs) (h0 : zs[k]? = some 0) : k < zrun zs := by
  rcases Nat.lt_or_ge k (zrun zs) with h1 | h1
  · exact h1
  · obtain rfl : k = zrun zs := by omega
    exact absurd h0 (zrun_stop zs)
theorem zrun_sum : ∀ zs : List Int, sumAbs (zs.drop (zrun zs)) = sumAbs zs
  | [] => rfl
  | z :: zs => by
    unfold zrun
    split
    · next h => rw [List.drop_succ_cons, zrun_sum zs]; subst h; simp [sumAbs, absZ]
    · rfl
theorem descP_drop : ∀ (zs : List Int) (r left : Nat), descP zs r left = descP (zs.drop r) 0 left
  | zs, 0, left => rfl
  | [], r + 1, left => by simp [descP]
  | z :: zs, r + 1, left => by
    rw [List.drop_succ_cons, ← descP_drop zs r left]
    rfl

/-- What is left of a valid table. -/
structure VD (zs : List Int) (left : Nat) : Prop where
  lo : ∀ z ∈ zs, -1 ≤ z
  sum : sumAbs zs = (left : Int)
  last : zs ≠ [] → zs.getLastD 0 ≠ 0
  size : left ≤ 512

theorem sumAbs_pos : ∀ {zs : List Int}, zs ≠ [] → zs.getLastD 0 ≠ 0 → 0 < sumAbs zs
  | [], h, _ => absurd rfl h
  | [z], _, hl => by
    have : z ≠ 0 := hl
    simp only [sumAbs, absZ]; omega
  | z :: y :: zs, _, hl => by
    have := sumAbs_pos (zs := y :: zs) (by simp) (by simpa [List.getLastD_cons] using hl)
    have := absZ_nonneg z
    rw [sumAbs]; omega
theorem VD.pos {zs : List Int} {left : Nat} (h : VD zs left) (hz : zs ≠ []) : 0 < left := by
  have := sumAbs_pos hz (h.last hz)
  have := h.sum
  omega
theorem VD.nil {zs : List Int} {left : Nat} (h : VD zs left) (h0 : left = 0) : zs = [] := by
  by_cases hz : zs = []
  · exact hz
  · have := h.pos hz; omega
theorem VD.ne {zs : List Int} {left : Nat} (h : VD zs left) (h0 : 0 < left) : zs ≠ [] := by
  rintro rfl
  have := h.sum
  simp [sumAbs] at this
  omega
theorem VD.le {z : Int} {zs : List Int} {left : Nat} (h : VD (z :: zs) left) : -1 ≤ z ∧ z ≤ left ∧ absZ z ≤ left := by
  have h1 := h.lo z (List.mem_cons_self ..)
  have h2 := h.sum
  have h3 := sumAbs_nonneg zs
  simp only [sumAbs] at h2
  have : absZ z = max z (-z) := rfl
  omega
theorem VD.next {z : Int} {zs : List Int} {left : Nat} (h : VD (z :: zs) left) : VD zs (left - (absZ z).toNat) := by
  have h2 := h.sum
  have h3 := h.le
  have h4 := absZ_nonneg z
  simp only [sumAbs] at h2
  have h5 := h.size
  refine ⟨fun y hy => h.lo y (List.mem_cons_of_mem _ hy), by omega, fun hz => ?_, by omega⟩
  have := h.last (by simp)
  cases zs with
  | nil => exact absurd rfl hz
  | cons y ys => simpa [List.getLastD_cons] using this
theorem VD.run {zs : List Int} {left : Nat} (h : VD (0 :: zs) left) : VD (zs.drop (zrun zs)) left ∧ zrun zs < zs.length := by
  have h1 := h.next
  have e : left - (absZ 0).toNat = left := by have : absZ 0 = 0 := by decide
                                              rw [this]; rfl
  rw [e] at h1
  have hne : zs ≠ [] := h1.ne (h.pos (by simp))
  have hd : zs.drop (zrun zs) ≠ [] := by
    intro e
    have := zrun_sum zs
    rw [e, h1.sum] at this
    have h9 := h1.pos hne
    simp [sumAbs] at this
    omega
  have hlt : zrun zs < zs.length := by
    rcases Nat.lt_or_ge (zrun zs) zs.length with h9 | h9
    · exact h9
    · exact absurd (List.drop_eq_nil_of_le h9) hd
  refine ⟨⟨fun y hy => h1.lo y (List.mem_of_mem_drop hy), by rw [zrun_sum]; exact h1.sum, fun hz => ?_, h1.size⟩, hlt⟩
  have h8 := h1.last hne
  rw [List.getLastD_eq_getLast?] at h8 ⊢
  rw [List.getLast?_drop, if_neg (by omega)]
  exact h8

theorem bl_descP : ∀ (zs : List Int) (r left : Nat), left ≤ 512 → bl (descP zs r left) ≤ 12 * (zs.length - r)
  | [], _, _, _ => by simp [descP, bl]
  | z :: zs, r + 1, left, h => by
    have := bl_descP zs r left h
    show bl (descP zs r left) ≤ _
    rw [List.length_cons]; omega
  | z :: zs, 0, left, h => by
    have h1 := bl_numP (n := (z + 1).toNat) (v := left + 2) (by omega) (by omega)
    simp only [descP, bl_append]
    split
    · have h2 := bl_descP zs (zrun zs) left h
      have h3 := bl_runP (zrun zs)
      have h4 := zrun_le zs
      rw [bl_append, List.length_cons]; omega
    · have h2 := bl_descP zs 0 (left - (absZ z).toNat) (by omega)
      rw [List.length_cons]; omega
theorem okAll_append {a b : List (Int × Int)} (ha : okAll a) (hb : okAll b) : okAll (a ++ b) := by
  intro p hp
  rcases List.mem_append.1 hp with h | h
  · exact ha p h
  · exact hb p h
theorem ok_descP : ∀ (zs : List Int) (r left : Nat), VD (zs.drop r) left → okAll (descP zs r left)
  | [], _, _, _ => by intro p hp; simp [descP] at hp
  | z :: zs, r + 1, left, h => ok_descP zs r left (by simpa using h)
  | z :: zs, 0, left, h => by
    rw [List.drop_zero] at h
    have hs := h.size
    have hl := h.le
    simp only [descP]
    refine okAll_append (ok_numP (by omega) (by omega)) ?_
    split
    · next h0 => subst h0; exact okAll_append (ok_runP _) (ok_descP _ _ _ h.run.1)
    · exact ok_descP zs 0 _ (by simpa using h.next)

/-- A table's description. -/
def descAll (L : Nat) (zs : List Int) : List (Int × Int) := ((L : Int) - 1, 4) :: descP zs 0 (2 ^ L)
theorem okT_VD {L : Nat} {zs : List Int} (h : okT (L : Int) zs) : VD zs (2 ^ L) := by
  obtain ⟨⟨_, h1⟩, _, h2, h3, h4⟩ := h
  refine ⟨h3, by rw [h4, Int.toNat_natCast]; simp, fun _ => h2, ?_⟩
  have := Nat.pow_le_pow_right (n := 2) (by omega) (show L ≤ 9 by omega)
  exact this
theorem ok_descAll {L : Nat} {zs : List Int} (h : okT (L : Int) zs) (hL : 1 ≤ L) : okAll (descAll L zs) := by
  have h9 := h.1
  intro p hp
  rcases List.mem_cons.1 hp with rfl | hp
  · have e : ((4 : Int)).toNat = 4 := rfl
    have e2 : (2 : Nat) ^ 4 = 16 := by decide
    simp only [mayB, Bool.and_eq_true, decide_eq_true_eq, e, e2]
    omega
  · exact ok_descP zs 0 _ (by simpa using okT_VD h) p hp
theorem bl_descAll {L : Nat} {zs : List Int} (h : okT (L : Int) zs) : bl (descAll L zs) ≤ 3076 := by
  have h1 := bl_descP zs 0 (2 ^ L) (okT_VD h).size
  have h2 := h.2.1
  have e : ((4 : Int)).toNat = 4 := rfl
  simp only [descAll, bl, e]
  omega

/-- What stands at a place of a number. -/
structure AtP (N f t : Nat) (ps : List (Int × Int)) : Prop where
  val : N / 2 ^ f = bn ps
  len : f + bl ps ≤ t
  ok : okAll ps
theorem AtP.cons {N f t : Nat} {x m : Int} {ps : List (Int × Int)} (h : AtP N f t ((x, m) :: ps)) :
    N / 2 ^ f % 2 ^ m.toNat = x.toNat ∧ f + m.toNat ≤ t ∧ AtP N (f + m.toNat) t ps ∧ 0 ≤ m ∧ m ≤ 64 := by
  obtain ⟨h0, h1, h2⟩ := mayB_le (h.ok (x, m) (List.mem_cons_self ..))
  have hv := h.val
  have hl := h.len
  simp only [bn] at hv
  simp only [bl] at hl
  simp only at h0 h1 h2
  refine ⟨?_, by omega, ⟨?_, by omega, fun p hp => h.ok p (List.mem_cons_of_mem _ hp)⟩, h0, h1⟩
  · rw [hv, Nat.add_mul_mod_self_left, Nat.mod_eq_of_lt h2]
  · rw [Nat.pow_add, ← Nat.div_div_eq_div_mul, hv, Nat.add_mul_div_left _ _ (Nat.pow_pos (by omega)), Nat.div_eq_of_lt h2, Nat.zero_add]
theorem AtP.done {N f t : Nat} (h : AtP N f t []) (k : Nat) : N / 2 ^ f % 2 ^ k = 0 := by
  rw [h.val]; simp [bn]
theorem AtP.start {ps : List (Int × Int)} {t : Nat} (h : okAll ps) (ht : bl ps ≤ t) : AtP (bn ps) 0 t ps := ⟨by simp, by omega, h⟩
end

section
set_option maxRecDepth 8000
set_option maxRecDepth 8000
open Go.RowKit Go
set_option linter.unusedVariables false

theorem cut_ok (v : Nat) (w : World) (h0 : 0 < v) (h : v ≤ 514) :
    Calls Try.prog 66 #[.int .i64 (v : Int)] w fun e w' => e = .returned (.tuple #[.int .i64 (cutB v : Int), .int .i64 (cutU v : Int)]) ∧ ∃ k, w' = w.drewN k := by
  obtain ⟨c1, c2, c3, c4⟩ := cut_fact h0 h
  have HL := hide (fun W => lenB_any v W (by omega))
  have hp : 2 ^ cutB v ≤ 514 := Nat.le_trans c3 h
  have hb1 : (Lib.bitLen v : Int) - 1 = (cutB v : Int) := by unfold cutB; omega
  have hl : Lib.bitLen v ≤ 10 := by unfold cutB at c2; omega
  have hU : (cutU v : Int) = 2 * ((2 ^ cutB v : Nat) : Int) - (v : Int) := by unfold cutU; omega
  have HU := hide hU
  obtain ⟨b, hb⟩ : ∃ b, b = cutB v := ⟨_, rfl⟩
  rw [← hb] at c2 c3 c4 hp hb1 HU ⊢
  obtain ⟨P, hP⟩ : ∃ P, P = 2 ^ b := ⟨_, rfl⟩
  rw [← hP] at c3 c4 hp HU
  have e : ((2 : Int) ^ b) = (P : Int) := by rw [hP]; simp
  have hwv : IntKind.u64.wrap (v : Int) = (v : Int) := by rw [IntKind.wrap_u64]; omega
  have hw1 : IntKind.i64.wrap ((Lib.bitLen v : Int) - 1) = (b : Int) := by rw [hb1, IntWalk.i64_in _ (by omega)]
  have hs1 : IntKind.i64.wrap (2 * (2 : Int) ^ b) = 2 * (P : Int) := by rw [e, IntWalk.i64_in _ (by omega)]
  have hw2 : IntKind.i64.wrap (2 * (P : Int) - (v : Int)) = 2 * (P : Int) - (v : Int) := IntWalk.i64_in _ (by omega)
  clear c1 c3 c4 hp hb1 hU hb hP e h0 h hl
  go_enter Try.func66, Try.ntmps66
  go_wp2_with fail
  refine (HL.out _).mono ?_
  rintro e w1 ⟨rfl, rfl⟩
  go_wp2
  go_region
  go_wp2
  go_ret2
  exact ⟨by rw [HU.out]; rfl, _, rfl⟩

theorem u64_and1 (x : Nat) (h : x ≤ 2000) : bits .and .u64 (x : Int) 1 = ((x % 2 : Nat) : Int) := by
  have e3 : (2 : Int) ^ 64 = 18446744073709551616 := by decide
  have h9 := bits_mask .u64 64 (by decide) (fun n h0 h1 => by rw [e3] at h1; rw [IntKind.wrap_u64]; omega) 1 (by decide) (x : Int) (by omega) (by rw [e3]; omega)
  have e : (2 : Int) ^ 1 - 1 = 1 := by decide
  have e2 : (2 : Int) ^ 1 = 2 := by decide
  rw [e, e2] at h9
  rw [h9]
  omega

set_option maxHeartbeats 1000000 in
theorem dnum_ok {B g : Nat} {F : Option Nat} {L N : Nat} (n v : Nat) (w : World) (hW : Wr w B g F L N) (hn : n < v) (h : v ≤ 514) (hL : L ≤ 1000000) (hB : B ≤ w.heap.size) :
    Calls Try.prog 46 #[.pointer (some ⟨g, 0, none⟩), .int .i64 (n : Int), .int .i64 (v : Int)] w fun e w' => e = .returned (.tuple #[]) ∧
      ∃ F', PutTo w w' B g F F' (L + bl (numP n v)) (N + bn (numP n v) * 2 ^ L) := by
  obtain ⟨c1, c2, c3, c4⟩ := cut_fact (by omega : 0 < v) h
  have hok := ok_numP hn h
  have hC := cut_ok v w (by omega) h
  have hub : cutU v ≤ 1028 := by unfold cutU; omega
  have hFge : ∀ k, F = some k → B ≤ k := fun k hk => (hW.ltF k hk).1
  have HC := hide hC
  by_cases hlt : n < cutU v
  · have e1 : numP n v = [((n : Int), (cutB v : Int))] := if_pos hlt
    have hm := (mayB_le (hok _ (by rw [e1]; exact List.mem_cons_self ..))).2.2
    rw [e1]
    simp only [Int.toNat_natCast] at hm
    have HP := hide (fun (k : Nat) => put_any (n : Int) (cutB v : Int) (w.drewN k) (hW.drewN k) (by omega) (by omega) (by omega) (by simpa using hm) (by omega) hB)
    simp only [bl, bn, Int.toNat_natCast, Nat.mul_zero, Nat.add_zero] at HP ⊢
    have hlt' : (n : Int) < (cutU v : Int) := by omega
    have hwn : IntKind.u64.wrap (n : Int) = (n : Int) := by rw [IntKind.wrap_u64]; omega
    clear hok hC e1 hm c1 c2 c3 c4 hub hlt
    go_enter Try.func46, Try.ntmps46
    go_wp2_with fail
    refine HC.out.mono ?_
    rintro e w1 ⟨rfl, k, rfl⟩
    go_wp2_with fail
    refine (HP.out k).mono ?_
    rintro e w2 ⟨rfl, F', hp⟩
    go_wp2
    refine bodyPost_ret (results_none rfl _ _ _) rfl ?_
    exact ⟨rfl, F', hp.wr, hp.row, (Chg.refl _ w).drewN k |>.trans hp.chg (fun b hb => .inl hb)⟩
  · have e1 : numP n v = [((((n + cutU v) / 2 : Nat) : Int), (cutB v : Int)), ((((n + cutU v) % 2 : Nat) : Int), 1)] := if_neg hlt
    have hm := (mayB_le (hok _ (by rw [e1]; exact List.mem_cons_self ..))).2.2
    rw [e1]
    simp only [Int.toNat_natCast] at hm
    have HP := hide (fun (k : Nat) => put_any (((n + cutU v) / 2 : Nat) : Int) (cutB v : Int) (w.drewN k) (hW.drewN k) (by omega) (by omega) (by omega) (by simp only [Int.toNat_natCast]; exact hm) (by omega) hB)
    have HP2 := hide (fun (F2 : Option Nat) (L2 N2 : Nat) (w2 : World) (h2 : Wr w2 B g F2 L2 N2) (hl2 : L2 ≤ 2000000) (hB2 : B ≤ w2.heap.size) => put_any (((n + cutU v) % 2 : Nat) : Int) 1 w2 h2 (by omega) (by omega) (by omega) (by simp only [Int.toNat_natCast]; have e : ((1 : Int)).toNat = 1 := rfl; rw [e]; omega) (by omega) hB2)
    have HL2 := hide (show L + cutB v ≤ 2000000 by omega)
    have e9 : ((1 : Int)).toNat = 1 := rfl
    simp only [bl, bn, Int.toNat_natCast, Nat.mul_zero, Nat.add_zero, e9] at HP HP2 ⊢
    have hlt' : ¬ (n : Int) < (cutU v : Int) := by omega
    obtain ⟨u, hu⟩ : ∃ u, u = cutU v := ⟨_, rfl⟩
    obtain ⟨b, hb⟩ : ∃ b, b = cutB v := ⟨_, rfl⟩
    rw [← hu] at HP HP2 HC hlt' hub ⊢
    rw [← hb] at HP HC HL2 ⊢
    obtain ⟨q, hq⟩ : ∃ q, q = (n + u) / 2 := ⟨_, rfl⟩
    obtain ⟨r, hr⟩ : ∃ r, r = (n + u) % 2 := ⟨_, rfl⟩
    rw [← hq] at HP ⊢
    rw [← hr] at HP2 ⊢
    have hw1 : IntKind.i64.wrap ((n : Int) + (u : Int)) = (n : Int) + (u : Int) := IntWalk.i64_in _ (by omega)
    have hw2 : IntKind.u64.wrap ((n : Int) + (u : Int)) = (n : Int) + (u : Int) := by rw [IntKind.wrap_u64]; omega
    have hw3 : ((n : Int) + (u : Int)) / 2 = (q : Int) := by omega
    have hw4 : IntKind.u64.wrap (q : Int) = (q : Int) := by rw [IntKind.wrap_u64]; omega
    have hw5 : bits .and .u64 ((n : Int) + (u : Int)) 1 = (r : Int) := by
      have h9 := u64_and1 (n + u) (by omega)
      rw [hr, ← h9]
      congr 1
    clear hok hC e1 hm c1 c2 c3 c4 hlt hu hb hub hq hr
    go_enter Try.func46, Try.ntmps46
    go_wp2_with fail
    refine HC.out.mono ?_
    rintro e w1 ⟨rfl, k, rfl⟩
    go_wp2_with fail
    refine (HP.out k).mono ?_
    rintro e w2 ⟨rfl, F', hp⟩
    go_wp2_with fail
    refine (HP2.out _ _ _ _ hp.wr HL2.out (by have := hp.chg.size; exact Nat.le_trans hB this)).mono ?_
    rintro e w3 ⟨rfl, F2, hp2⟩
    go_wp2
    go_end0
    have ht : PutTo w w2 B g F F' (L + b) (N + q * 2 ^ L) := ⟨hp.wr, hp.row, (Chg.refl _ w).drewN k |>.trans hp.chg (fun b hb => .inl hb)⟩
    have := ht.trans hp2
    refine ⟨rfl, F2, ?_⟩
    rw [show L + (b + 1) = L + b + 1 by omega, show N + (q + 2 ^ b * r) * 2 ^ L = N + q * 2 ^ L + r * 2 ^ (L + b) by rw [Nat.add_mul, Nat.pow_add]; simp only [Nat.mul_comm, Nat.mul_left_comm]; omega]
    exact this
end

section
set_option maxRecDepth 8000
set_option maxRecDepth 8000
open Go.RowKit Go
set_option linter.unusedVariables false

theorem prefix_bl {L : Nat} {zs : List Int} (hT : okT (L : Int) zs) {ds es : List (Int × Int)} (h : ds ++ es = descAll L zs) : bl ds ≤ 3076 := by
  have h1 := bl_descAll hT
  rw [← h, bl_append] at h1
  omega

/-- The writer of a description. -/
structure PutI (w wr : World) (g : Nat) (ds : List (Int × Int)) : Prop where
  row : ∃ F, Wr wr g g F (bl ds) (bn ds)
  old : Below g w wr
theorem PutI.put {w wr wr' : World} {g : Nat} {F F' : Option Nat} {ds es : List (Int × Int)} (h : Below g w wr) (hW : Wr wr g g F (bl ds) (bn ds)) (hg : g ≤ wr.heap.size)
    (hp : PutTo wr wr' g g F F' (bl ds + bl es) (bn ds + bn es * 2 ^ bl ds)) : PutI w wr' g (ds ++ es) := by
  refine ⟨⟨F', ?_⟩, h.trans (hp.old (fun k hk => (hW.ltF k hk).1) hg)⟩
  rw [bl_append, bn_append, Nat.mul_comm (2 ^ bl ds)]
  exact hp.wr

set_option maxHeartbeats 4000000 in
theorem dput_ok (L : Nat) (A : Option Addr) (n c : Nat) (zs : List Int) (w : World) (hn : zs.length = n) (hr : Reads w w.heap.size 1 A n (zs.map (Value.int .i64))) (hok : ∀ z ∈ zs, (Lit.int .i64 z).wf = true) (hc : n ≤ c) (hc' : c ≤ maxLen)
    (hT : okT (L : Int) zs) (hL : 1 ≤ L) :
    Calls Try.prog 22 #[.agg #[.int .i64 (L : Int), .slice A n c]] w fun e w' => ∃ g F, e = .returned (.pointer (some ⟨g, 0, none⟩)) ∧ Wr w' g g F (bl (descAll L zs)) (bn (descAll L zs)) ∧ w.heap.size ≤ g ∧ Below w.heap.size w w' := by
  obtain ⟨W0, hW0⟩ : ∃ W0, W0 = w.alloc (.cells #[.int .i64 (L : Int), .slice A n c] 28 (0, 0)) := ⟨_, rfl⟩
  have b0 : Below w.heap.size w W0 := by rw [hW0]; exact (Below.refl w.heap.size w).alloc (Nat.le_refl _) _
  have s0 : W0.heap.size = w.heap.size + 1 := by rw [hW0]; simp
  have g0 : W0.heap[w.heap.size]? = some (.cells #[.int .i64 (L : Int), .slice A n c] 28 (0, 0)) := by rw [hW0]; exact heap_alloc_new w _
  have HCH := hide (check_any (L : Int) A n c zs W0 hn ((hr.below b0).more (by omega)) hok hc hc')
  have hL9 : L ≤ 9 := by have := hT.1; omega
  have hn256 : n ≤ 256 := by have := hT.2.1; omega
  have HR := hide hr
  have HT := hide hT
  have HN := hide hn
  have HB0 := hide b0
  have HS0 := hide s0
  have HG0 := hide g0
  obtain ⟨p, hp⟩ : ∃ p, p = w.heap.size := ⟨_, rfl⟩
  have HP := hide hp
  rw [← hp] at g0 HG0 HS0
  have k00 : W0.cell? ⟨p, 0, none⟩ = some (.int .i64 (L : Int)) := (cell_blk g0 0).trans rfl
  have k01 : W0.cell? ⟨p, 1, none⟩ = some (.slice A n c) := (cell_blk g0 1).trans rfl
  have hLz : ((L : Int) == 0) = false := by simp; omega
  have HW0 := hide hW0
  clear b0 s0 g0 hr hok hT hW0 hp
  go_enter Try.func22, Try.ntmps22
  go_wp2_with fail
  rw [← HW0.out, ← HP.out]
  go_step3
  go_wp2_with fail
  refine HCH.out.mono ?_
  rintro e w1 ⟨hcase, hb1⟩
  rcases hcase with ⟨_, rfl⟩ | ⟨hnt, _⟩
  case inr => exact absurd HT.out hnt
  have k10 : w1.cell? ⟨p, 0, none⟩ = some (.int .i64 (L : Int)) := (hb1.cell (p := ⟨p, 0, none⟩) (show p < W0.heap.size by rw [HS0.out]; omega)).trans k00
  have g1 : w1.heap[p]? = some (.cells #[.int .i64 (L : Int), .slice A n c] 28 (0, 0)) := (hb1.block _ (by rw [HS0.out]; omega)).trans HG0.out
  have hbw1 : Below w.heap.size w w1 := HB0.out.trans (hb1.mono (by rw [HS0.out, HP.out]; omega))
  have hp1 : p < w1.heap.size := lt_of_heap g1
  obtain ⟨g, hg⟩ : ∃ g, g = w1.heap.size := ⟨_, rfl⟩
  obtain ⟨W2, hW2⟩ : ∃ W2, W2 = w1.alloc (.cells #[.int .u64 0, .int .i64 0, .slice none 0 0] 78 (0, 0)) := ⟨_, rfl⟩
  have hwr2 : Wr W2 g g none 0 0 := by rw [hW2, hg]; exact Wr.new w1 _ (Nat.le_refl _)
  have hb2 : Below g w1 W2 := by rw [hW2, hg]; exact (Below.refl _ _).alloc (Nat.le_refl _) _
  have hs2 : g ≤ W2.heap.size := by rw [hW2, hg]; simp
  have k20 : (w1.alloc (.cells #[.int .u64 0, .int .i64 0, .slice none 0 0] 78 (0, 0))).cell? ⟨p, 0, none⟩ = some (.int .i64 (L : Int)) := (World.cell?_alloc_lt w1 _ ⟨p, 0, none⟩ hp1).trans k10
  have h16 : ((L : Int) - 1).toNat < 2 ^ ((4 : Int)).toNat := by show ((L : Int) - 1).toNat < 16; omega
  have hput := put_any ((L : Int) - 1) 4 W2 hwr2 (by omega) (by omega) (by omega) h16 (by omega) hs2
  have hd1 : bl [((L : Int) - 1, (4 : Int))] = 4 := rfl
  have hd2 : bn [((L : Int) - 1, (4 : Int))] = ((L : Int) - 1).toNat := by simp [bn]
  rw [show (0 : Nat) + ((4 : Int)).toNat = 4 from rfl, show 0 + ((L : Int) - 1).toNat * 2 ^ 0 = ((L : Int) - 1).toNat by simp, ← hd1, ← hd2] at hput
  have HPUT := hide hput
  have HW2 := hide hW2
  have HGE := hide hg
  have HWR2 := hide hwr2
  have HS2 := hide hs2
  have HB2 := hide (show Below g w1 W2 from hb2)
  have HB1 := hide hb1
  have HG1 := hide g1
  have HBW1 := hide hbw1
  have HPL := hide hp1
  clear hb1 g1 hbw1 hp1 hg hW2 hwr2 hb2 hs2 hput hd1 hd2 h16
  have hLw : IntKind.i64.wrap ((L : Int) - 1) = (L : Int) - 1 := IntWalk.i64_in _ (by omega)
  have hLu : IntKind.u64.wrap ((L : Int) - 1) = (L : Int) - 1 := by rw [IntKind.wrap_u64]; omega
  go_wp2_with fail
  rw [← HGE.out, ← HW2.out]
  refine HPUT.out.mono ?_
  rintro e W3 ⟨rfl, F3, hp3⟩
  have hi3 : PutI w1 W3 g [((L : Int) - 1, (4 : Int))] := ⟨⟨F3, hp3.wr⟩, HB2.out.trans (hp3.old (fun k hk => by cases hk) HS2.out)⟩
  have hpl : p < g := by rw [HGE.out]; exact HPL.out
  have k30 : W3.cell? ⟨p, 0, none⟩ = some (.int .i64 (L : Int)) := (hi3.old.cell (p := ⟨p, 0, none⟩) hpl).trans k10
  have k31 : W3.cell? ⟨p, 1, none⟩ = some (.slice A n c) := ((hi3.old.cell (p := ⟨p, 1, none⟩) hpl).trans (HB1.out.cell (p := ⟨p, 1, none⟩) (show p < W0.heap.size by rw [HS0.out]; omega))).trans k01
  have HI3 := hide hi3
  have HPG := hide hpl
  have hpow : 2 ^ L ≤ 512 := (okT_VD HT.out).size
  obtain ⟨S, hS⟩ : ∃ S, S = 2 ^ L := ⟨_, rfl⟩
  have HSS := hide hS
  have hSi : ((2 : Int) ^ L) = (S : Int) := by rw [hS]; simp
  rw [← hS] at hpow
  have hSw : IntKind.i64.wrap ((2 : Int) ^ L) = (S : Int) := by rw [hSi, IntWalk.i64_in _ (by omega)]
  clear hi3 hpl hp3 hS hSi k00 k01 k10 k20 hLw hLu HPUT HWR2 HB2
  go_wp2_with fail
  go_step3
  go_wp2_with fail
  go_loopw [4, 5, 31] (fun left run i wr => ∃ k r lf : Nat, k + r ≤ n ∧ i = .int .i64 k ∧ run = .int .i64 r ∧ left = .int .i64 lf ∧ VD ((zs.drop k).drop r) lf ∧ ∃ ds, PutI w1 wr g ds ∧ ds ++ descP (zs.drop k) r lf = descAll L zs) (fun _ _ i _ => n - (intOf i).toNat)
  case atStart => exact ⟨0, 0, S, by omega, rfl, rfl, rfl, by rw [HSS.out]; simpa using okT_VD HT.out, _, HI3.out, by rw [HSS.out]; rfl⟩
  case round =>
    obtain ⟨k, r, lf, hkr, rfl, rfl, rfl, hvd, ds, hi, heq⟩ := hrel
    have hbl := prefix_bl HT.out heq
    have hpg := HPG.out
    have hgs : g ≤ wr.heap.size := by have := hi.old.size; rw [HGE.out]; exact this
    have k40 : wr.cell? ⟨p, 0, none⟩ = some (.int .i64 (L : Int)) := (hi.old.cell (p := ⟨p, 0, none⟩) hpg).trans ((HI3.out.old.cell (p := ⟨p, 0, none⟩) hpg).symm.trans k30)
    have k41 : wr.cell? ⟨p, 1, none⟩ = some (.slice A n c) := (hi.old.cell (p := ⟨p, 1, none⟩) hpg).trans ((HI3.out.old.cell (p := ⟨p, 1, none⟩) hpg).symm.trans k31)
    have hbw : Below w.heap.size w wr := HBW1.out.trans (hi.old.mono (by have := HP.out; omega))
    by_cases hlt : k < n
    · have hkn : (k : Int) < (n : Int) := by omega
      have hwk : IntKind.i64.wrap ((k : Int) + 1) = (k : Int) + 1 := IntWalk.i64_in _ (by omega)
      obtain ⟨b, off, z, hA, hbb, kz, hz⟩ := int_cells (HR.out.below hbw) hlt
      have hcons : zs.drop k = z :: zs.drop (k + 1) := by
        have h1 : k < zs.length := by have := HN.out; omega
        rw [List.drop_eq_getElem_cons h1]
        rw [List.getElem?_eq_getElem h1] at hz
        injection hz with hz
        rw [hz]
      have HRR := hide (fun (j : Nat) (hj : j < n) => int_cells (HR.out.below hbw) hj)
      rw [hcons] at heq hvd
      by_cases hr0 : 0 < r
      · obtain ⟨r', rfl⟩ : ∃ r', r = r' + 1 := ⟨r - 1, by omega⟩
        have HV := hide hvd
        have HE := hide heq
        have HI := hide hi
        have hrn : (0 : Int) < ((r' + 1 : Nat) : Int) := by omega
        obtain ⟨R, hRR⟩ : ∃ R, R = r' + 1 := ⟨_, rfl⟩
        rw [← hRR] at hrn ⊢
        have hwr : IntKind.i64.wrap ((R : Int) - 1) = (r' : Int) := by rw [IntWalk.i64_in _ (by omega)]; omega
        subst hA
        clear hvd heq hi hbl hpg hgs hbw hz hcons hRR hr0
        go_wp2_with fail
        go_roundw
        case rel => exact ⟨k + 1, r', lf, by omega, by go_num, rfl, rfl, by simpa using HV.out, ds, HI.out, HE.out⟩
        case measure => simp [intOf]; try omega
      · obtain rfl : r = 0 := by omega
        rw [List.drop_zero] at hvd
        have hle := hvd.le
        have hsz := hvd.size
        have ha := absZ_nonneg z
        obtain ⟨m, hm⟩ : ∃ m, m = (z + 1).toNat := ⟨_, rfl⟩
        obtain ⟨v, hv⟩ : ∃ v, v = lf + 2 := ⟨_, rfl⟩
        obtain ⟨F, hW⟩ := hi.row
        have HD := hide (dnum_ok m v wr hW (by omega) (by omega) (by omega) hgs)
        have hpi := fun (W' : World) (F' : Option Nat) (hp : PutTo wr W' g g F F' (bl ds + bl (numP m v)) (bn ds + bn (numP m v) * 2 ^ bl ds)) => PutI.put hi.old hW hgs hp
        have HPI := hide hpi
        have hw1 : IntKind.i64.wrap (z + 1) = (m : Int) := by rw [IntWalk.i64_in _ (by omega)]; omega
        have hw2 : IntKind.i64.wrap ((lf : Int) + 2) = (v : Int) := by rw [IntWalk.i64_in _ (by omega)]; omega
        by_cases hz0 : z = 0
        · subst hz0
          obtain ⟨hvr, hrl⟩ := hvd.run
          rw [List.length_drop, HN.out] at hrl
          have hm1 : m = 1 := hm
          subst hm1
          have HV := hide hvr
          have HE : Hid (ds ++ (numP 1 v ++ (runP (zrun (zs.drop (k + 1))) ++ descP (zs.drop (k + 1)) (zrun (zs.drop (k + 1))) lf)) = descAll L zs) := hide (by rw [hv]; exact heq)
          have hzb : ((0 : Int) != 0) = false := by decide
          have hwl : IntKind.i64.wrap (lf : Int) = (lf : Int) := IntWalk.i64_in _ (by omega)
          obtain ⟨rest, hrest⟩ : ∃ rest, rest = zs.drop (k + 1) := ⟨_, rfl⟩
          rw [← hrest] at HE HV hrl
          have HREST := hide hrest
          clear hpi hv hm heq hi hvd hvr hW hle ha hz hrest hcons
          subst hA
          go_wp2_with fail
          refine HD.out.mono ?_
          rintro e W4 ⟨rfl, F4, hp4⟩
          have hi4 := HPI.out W4 F4 hp4
          have hg4 : g ≤ W4.heap.size := by have := hi4.old.size; rw [HGE.out]; exact this
          have k50 : W4.cell? ⟨p, 0, none⟩ = some (.int .i64 (L : Int)) := (hi4.old.cell (p := ⟨p, 0, none⟩) hpg).trans ((HI3.out.old.cell (p := ⟨p, 0, none⟩) hpg).symm.trans k30)
          have k51 : W4.cell? ⟨p, 1, none⟩ = some (.slice (some ⟨b, off, none⟩) n c) := (hi4.old.cell (p := ⟨p, 1, none⟩) hpg).trans ((HI3.out.old.cell (p := ⟨p, 1, none⟩) hpg).symm.trans k31)
          have hb4 : Below w.heap.size w W4 := HBW1.out.trans (hi4.old.mono (by have := HP.out; omega))
          have HR4 := hide (fun (j : Nat) (hj : j < n) => int_cells (HR.out.below hb4) hj)
          have HI4 := hide hi4
          have HGS4 := hide hg4
          clear hi4 hg4 hp4 hb4 hgs hbw k40 k41 hbb
          go_wp2_with fail
          go_loop [5] (fun run => ∃ j : Nat, j ≤ zrun rest ∧ run = .int .i64 j) (fun run => n - (intOf run).toNat)
          case atStart => exact ⟨0, Nat.zero_le _, rfl⟩
          case round =>
            obtain ⟨j, hj, rfl⟩ := hrel
            obtain ⟨b', off', y, hA', _, ky, hy⟩ := HR4.out (k + 1 + j) (by omega)
            injection hA' with hA'
            injection hA' with hA1 hA2
            subst hA1 hA2
            have hyr : rest[j]? = some y := by rw [HREST.out, List.getElem?_drop]; exact hy
            obtain ⟨q, hq⟩ : ∃ q, q = k + 1 + j := ⟨_, rfl⟩
            rw [← hq] at ky
            have hwq : IntKind.i64.wrap ((k : Int) + 1 + (j : Int)) = (q : Int) := by rw [IntWalk.i64_in _ (by omega)]; omega
            have hwj : IntKind.i64.wrap ((j : Int) + 1) = (j : Int) + 1 := IntWalk.i64_in _ (by omega)
            have hqn : (q : Int) < (n : Int) := by omega
            have HJ := hide hj
            have HQ := hide hq
            by_cases hy0 : y = 0
            · subst hy0
              have hjn := zrun_next hj hyr
              have HJN := hide hjn
              clear hj hjn hy hyr hq
              go_wp2_with fail
              go_round
              case rel => exact ⟨j + 1, HJN.out, by go_num⟩
              case measure => simp [intOf]; have := HJN.out; omega
            · have hyb : (y == 0) = false := by simp [hy0]
              have hjR : j = zrun rest := by
                rcases Nat.lt_or_ge j (zrun rest) with h1 | h1
                · have := zrun_at h1
                  rw [hyr] at this
                  injection this with this
                  exact absurd this hy0
                · omega
              have HJR := hide hjR
              have hj256 : j ≤ 256 := by omega
              clear hj hy hyr hq hy0 hjR
              go_wp2_with fail
              go_loopw [8] (fun kk wr' => ∃ ds', PutI w1 wr' g ds' ∧ ((∃ x : Nat, x ≤ j ∧ kk = .int .i64 x ∧ ds' ++ runP x = (ds ++ numP 1 v) ++ runP j) ∨ (∃ x : Int, x < 0 ∧ -3 ≤ x ∧ kk = .int .i64 x ∧ ds' = (ds ++ numP 1 v) ++ runP j))) (fun kk _ => (intOf kk + 3).toNat)
              case atStart => exact ⟨_, HI4.out, .inl ⟨j, Nat.le_refl _, rfl, rfl⟩⟩
              case round =>
                obtain ⟨ds', hi', hcase⟩ := hrel
                have hg' : g ≤ wr.heap.size := by have := hi'.old.size; rw [HGE.out]; exact this
                rcases hcase with ⟨x, hxj, rfl, hx⟩ | ⟨x, hx0, hx3, rfl, hx⟩
                · have hbl' : bl ds' ≤ 3076 := by
                    have hh : ds' ++ (runP x ++ descP rest (zrun rest) lf) = descAll L zs := by
                      rw [← List.append_assoc, hx, ← HE.out, HJR.out]
                      simp only [List.append_assoc]
                    exact prefix_bl HT.out hh
                  obtain ⟨F5, hW5⟩ := hi'.row
                  have hx00 : (0 : Int) ≤ (x : Int) := by omega
                  have e2 : ((2 : Int)).toNat = 2 := rfl
                  by_cases h3 : x < 3
                  · have hput := put_any (x : Int) 2 wr hW5 (by omega) (by omega) (by omega) (by show ((x : Int)).toNat < 4; omega) (by omega) hg'
                    have hpi5 := fun (W' : World) (F' : Option Nat) (hp : PutTo wr W' g g F5 F' (bl ds' + bl (runP x)) (bn ds' + bn (runP x) * 2 ^ bl ds')) => PutI.put hi'.old hW5 hg' hp
                    have h1 : bl (runP x) = 2 := by rw [runP_lt h3]; simp [bl]
                    have h2 : bn (runP x) = ((x : Int)).toNat := by rw [runP_lt h3]; simp [bn]
                    rw [e2, show bl ds' + 2 = bl ds' + bl (runP x) by rw [h1], show ((x : Int)).toNat * 2 ^ bl ds' = bn (runP x) * 2 ^ bl ds' by rw [h2]] at hput
                    have HPUT := hide hput
                    have HPI5 := hide hpi5
                    have HX := hide hx
                    have hmin : min (x : Int) 3 = (x : Int) := by omega
                    have hwx : IntKind.u64.wrap (x : Int) = (x : Int) := by rw [IntKind.wrap_u64]; omega
                    obtain ⟨x', hx'⟩ : ∃ x' : Int, x' = (x : Int) - 3 := ⟨_, rfl⟩
                    have hw3 : IntKind.i64.wrap ((x : Int) - 3) = x' := by rw [hx', IntWalk.i64_in _ (by omega)]
                    have HX' := hide hx'
                    clear hput hpi5 hx hi' hbl' h1 h2 e2 hg' hW5 hx'
                    go_wp2_with fail
                    refine HPUT.out.mono ?_
                    rintro e W6 ⟨rfl, F6, hp6⟩
                    have HI6 := hide (HPI5.out W6 F6 hp6)
                    clear hp6
                    go_wp2_with fail
                    go_roundw
                    case rel => exact ⟨_, HI6.out, .inr ⟨x', by have := HX'.out; omega, by have := HX'.out; omega, rfl, HX.out⟩⟩
                    case measure => have := HX'.out; simp [intOf]; omega
                  · have hput := put_any 3 2 wr hW5 (by omega) (by omega) (by omega) (by decide) (by omega) hg'
                    have hpi5 := fun (W' : World) (F' : Option Nat) (hp : PutTo wr W' g g F5 F' (bl ds' + bl [((3 : Int), (2 : Int))]) (bn ds' + bn [((3 : Int), (2 : Int))] * 2 ^ bl ds')) => PutI.put hi'.old hW5 hg' hp
                    have h1 : bl [((3 : Int), (2 : Int))] = 2 := rfl
                    have h2 : bn [((3 : Int), (2 : Int))] = ((3 : Int)).toNat := by simp [bn]
                    rw [e2, show bl ds' + 2 = bl ds' + bl [((3 : Int), (2 : Int))] by rw [h1], show ((3 : Int)).toNat * 2 ^ bl ds' = bn [((3 : Int), (2 : Int))] * 2 ^ bl ds' by rw [h2]] at hput
                    have HPUT := hide hput
                    have HPI5 := hide hpi5
                    have HX := hide hx
                    have hmin : min (x : Int) 3 = 3 := by omega
                    obtain ⟨x', hx'⟩ : ∃ x' : Nat, x' = x - 3 := ⟨_, rfl⟩
                    have hw3 : IntKind.i64.wrap ((x : Int) - 3) = (x' : Int) := by rw [IntWalk.i64_in _ (by omega)]; omega
                    have HX' := hide hx'
                    clear hput hpi5 hx hi' hbl' h1 h2 e2 hg' hW5 hx'
                    go_wp2_with fail
                    refine HPUT.out.mono ?_
                    rintro e W6 ⟨rfl, F6, hp6⟩
                    have HI6 := hide (HPI5.out W6 F6 hp6)
                    clear hp6
                    go_wp2_with fail
                    go_roundw
                    case rel => exact ⟨_, HI6.out, .inl ⟨x', by have := HX'.out; omega, rfl, by rw [List.append_assoc, ← HX.out, HX'.out, runP_ge h3]; rfl⟩⟩
                    case measure => have := HX'.out; simp [intOf]; omega
                · have HX := hide hx
                  have hng : ¬ 0 ≤ x := by omega
                  have HI' := hide hi'
                  clear hx hi' hg'
                  go_wp2_with fail
                  go_roundw
                  case rel => exact ⟨k + 1, j, lf, by have := HJR.out; omega, by go_num, rfl, rfl, by rw [HJR.out, ← HREST.out]; exact HV.out, _, HI'.out, by
                    rw [HX.out, ← HREST.out, HJR.out, ← HE.out]
                    simp only [List.append_assoc]⟩
                  case measure => simp [intOf]; try omega
        · have HV := hide hvd.next
          obtain ⟨a, haa⟩ : ∃ a, a = (absZ z).toNat := ⟨_, rfl⟩
          have hmx : max z (-z) = (a : Int) := by rw [haa]; unfold absZ at ha ⊢; omega
          have hwn : IntKind.i64.wrap (-z) = -z := IntWalk.i64_in _ (by omega)
          obtain ⟨lf2, hlf2⟩ : ∃ lf2, lf2 = lf - a := ⟨_, rfl⟩
          have hwl : IntKind.i64.wrap ((lf : Int) - (a : Int)) = (lf2 : Int) := by rw [IntWalk.i64_in _ (by omega)]; omega
          have hzb : (z != 0) = true := by simp [hz0]
          have HE : Hid (ds ++ numP m v ++ descP (zs.drop (k + 1)) 0 lf2 = descAll L zs) := hide (by
            rw [List.append_assoc, hlf2, haa, hm, hv]
            simp only [descP, if_neg hz0] at heq
            exact heq)
          rw [← haa, ← hlf2] at HV
          subst hA
          clear hpi hv hm heq hi hvd hW hle ha hz hcons haa hlf2 hz0
          go_wp2_with fail
          refine HD.out.mono ?_
          rintro e W4 ⟨rfl, F4, hp4⟩
          have HI4 := hide (HPI.out W4 F4 hp4)
          clear hp4
          go_wp2_with fail
          go_roundw
          case rel => exact ⟨k + 1, 0, lf2, by omega, by go_num, rfl, rfl, by simpa using HV.out, _, HI4.out, HE.out⟩
          case measure => simp [intOf]; try omega
    · obtain rfl : k = n := by omega
      have hge2 : ¬ (k : Int) < (k : Int) := by omega
      have hnil : zs.drop k = [] := List.drop_eq_nil_of_le (by have := HN.out; omega)
      rw [hnil] at heq
      have HE : Hid (ds = descAll L zs) := hide (by simpa [descP] using heq)
      have HI := hide hi
      have HBW := hide hbw
      clear hvd heq hi hbl hgs hnil hbw
      go_wp2_with fail
      go_ret
      obtain ⟨F, hF⟩ := HI.out.row
      rw [HE.out] at hF
      exact ⟨g, F, rfl, hF, by have := HP.out; omega, HBW.out⟩

theorem dencode_ok (L : Nat) (A : Option Addr) (n c : Nat) (zs : List Int) (w : World) (hn : zs.length = n) (hr : Reads w w.heap.size 1 A n (zs.map (Value.int .i64))) (hok : ∀ z ∈ zs, (Lit.int .i64 z).wf = true) (hc : n ≤ c) (hc' : c ≤ maxLen)
    (hT : okT (L : Int) zs) (hL : 1 ≤ L) :
    Calls Try.prog 8 #[.agg #[.int .i64 (L : Int), .slice A n c]] w fun e w' => ∃ u, e = .returned (.tuple #[u, .int .i64 0]) ∧
      w'.ownsRow w.heap.size 5 1 u (pack (bl (descAll L zs)) (bn (descAll L zs))).length (u8s (pack (bl (descAll L zs)) (bn (descAll L zs)))) ∧ Below w.heap.size w w' := by
  obtain ⟨W0, hW0⟩ : ∃ W0, W0 = w.alloc (.cells #[.int .i64 (L : Int), .slice A n c] 28 (0, 0)) := ⟨_, rfl⟩
  have b0 : Below w.heap.size w W0 := by rw [hW0]; exact (Below.refl w.heap.size w).alloc (Nat.le_refl _) _
  have s0 : W0.heap.size = w.heap.size + 1 := by rw [hW0]; simp
  have g0 : W0.heap[w.heap.size]? = some (.cells #[.int .i64 (L : Int), .slice A n c] 28 (0, 0)) := by rw [hW0]; exact heap_alloc_new w _
  have k00 := cell_blk g0 0
  have k01 := cell_blk g0 1
  have HP := hide (dput_ok L A n c zs W0 hn ((hr.below b0).more (by omega)) hok hc hc' hT hL)
  have HBD := hide (bl_descAll hT)
  have HB0 := hide b0
  have HS0 := hide s0
  have HW0 := hide hW0
  clear hr hok hc hc' hT b0 s0 g0 hW0 hL
  go_enter Try.func8, Try.ntmps8
  go_wp2_with fail
  rw [← HW0.out]
  go_wp2_with fail
  refine HP.out.mono ?_
  rintro e W1 ⟨g, F, rfl, hW, hg, hb⟩
  have HBY := hide (bytes_of W1 hW (by have := HBD.out; omega))
  have HB1 := hide (HB0.out.trans (hb.mono (by have := HS0.out; omega)))
  clear hW hg hb
  go_wp2_with fail
  refine HBY.out.mono ?_
  rintro e W2 ⟨u, rfl, ho, hb⟩
  have HO := hide (own_base ho (fun k hk => Nat.le_trans HB1.out.size (ho.lt k hk).1))
  have HB2 := hide (HB1.out.trans (hb.mono HB1.out.size))
  clear ho hb
  go_wp2
  go_ret2
  exact ⟨u, rfl, HO.out, HB2.out⟩
end

end Go.Proofs.Ytohgnohifojdbaa
