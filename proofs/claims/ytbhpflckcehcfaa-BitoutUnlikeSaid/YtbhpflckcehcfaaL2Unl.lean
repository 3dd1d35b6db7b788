/- portmanteaulaw02.BitoutUnlike walked. -/
import Derived.Test.YtbhpflckcehcfaaL2B
namespace Go.Proofs.Ytbhpflckcehcfaa
open Go.RowKit
set_option linter.unusedVariables false

theorem natOf_inj : ∀ (a b : List Bool), a.length = b.length → natOf a = natOf b → a = b
  | [], [], _, _ => rfl
  | [], _ :: _, h, _ => by simp at h
  | _ :: _, [], h, _ => by simp at h
  | x :: a, y :: b, h, hn => by
    simp only [natOf] at hn
    have hx : x.toNat < 2 := by cases x <;> simp
    have hy : y.toNat < 2 := by cases y <;> simp
    have h1 : x.toNat = y.toNat := by omega
    have h2 : natOf a = natOf b := by omega
    have h3 : x = y := by cases x <;> cases y <;> simp_all
    rw [h3, natOf_inj a b (by simpa using h) h2]

theorem leN_pack (L N : Nat) (h : N < 2 ^ L) : leN (pack L N) = N := by
  have key : ∀ (k : Nat), leN ((List.range k).map fun i => N / 256 ^ i % 256) = N % 256 ^ k := by
    intro k
    induction k with
    | zero => simp [leN, Nat.mod_one]
    | succ k ih =>
      rw [List.range_succ, List.map_append, leN_append, ih]
      simp only [List.map_cons, List.map_nil, leN, List.length_map, List.length_range, Nat.mul_zero, Nat.add_zero]
      rw [Nat.pow_succ, Nat.mod_mul]
  unfold pack
  rw [key, pow_256]
  refine Nat.mod_eq_of_lt (Nat.lt_of_lt_of_le h (Nat.pow_le_pow_right (by omega) (by omega)))

/-- Closed streams are equal if and only if the bits are. -/
theorem close_inj (a b : List Bool) : pack (a.length + 1) (natOf a + 2 ^ a.length) = pack (b.length + 1) (natOf b + 2 ^ b.length) ↔ a = b := by
  constructor
  · intro h
    have ha := natOf_lt a
    have hb := natOf_lt b
    have e1 := leN_pack (a.length + 1) (natOf a + 2 ^ a.length) (by rw [Nat.pow_succ]; omega)
    have e2 := leN_pack (b.length + 1) (natOf b + 2 ^ b.length) (by rw [Nat.pow_succ]; omega)
    rw [h, e2] at e1
    have hl : a.length = b.length := by
      rcases Nat.lt_trichotomy a.length b.length with h | h | h
      · have : 2 ^ (a.length + 1) ≤ 2 ^ b.length := Nat.pow_le_pow_right (by omega) h
        rw [Nat.pow_succ] at this; omega
      · exact h
      · have : 2 ^ (b.length + 1) ≤ 2 ^ a.length := Nat.pow_le_pow_right (by omega) h
        rw [Nat.pow_succ] at this; omega
    exact natOf_inj a b hl (by rw [hl] at e1; omega)
  · intro h; rw [h]

set_option maxHeartbeats 2000000 in
theorem walk_BitoutUnlike {w : World} (A : Option Addr) (n c : Nat) (xs : List (Int × Int)) (hn : n = xs.length) (hr : Reads w w.heap.size 2 A n (putCells xs)) (hok : OkPuts xs) (hm : c ≤ maxLen) (hc : n ≤ c)
    (A' : Option Addr) (n' c' : Nat) (ys : List (Int × Int)) (hn' : n' = ys.length) (hr' : Reads w w.heap.size 2 A' n' (putCells ys)) (hok' : OkPuts ys) (hm' : c' ≤ maxLen) (hc' : n' ≤ c') :
    Calls Try.prog 5 #[.slice A n c, .slice A' n' c'] w fun e w' => e = .returned (.bool true) ∧ Below w.heap.size w w' := by
  by_cases hbig : 60 < n
  · clear hm hr hok hn hr' hok' hn' hm'
    go_enter Try.func5, Try.ntmps5
    go_wp2_with (go_at_call 11; refine (known_any _).mono ?_; rintro e w1 ⟨rfl, hb⟩)
    go_ret
    exact ⟨rfl, hb⟩
  · by_cases hbig' : 60 < n'
    · clear hm hr hok hn hr' hok' hn' hm'
      go_enter Try.func5, Try.ntmps5
      go_wp2_with (go_at_call 11; refine (known_any _).mono ?_; rintro e w1 ⟨rfl, hb⟩)
      go_ret
      exact ⟨rfl, hb⟩
    · obtain ⟨O, hO⟩ : ∃ O, O = Obj.cells #[.int .u64 0, .int .i64 0, .slice none 0 0] 29 := ⟨_, rfl⟩
      have hw0 := Wr.new w w.heap.size (Nat.le_refl _)
      have hwy := Wr.new (w.alloc O) w.heap.size (by simp)
      have hb0 := ((Below.refl w.heap.size w).alloc (Nat.le_refl _) O).alloc (by simp) O
      rw [← hO] at hw0 hwy
      have hw0 := hw0.below ((Below.refl _ _).alloc (Nat.le_refl _) O)
      have hszO : (w.alloc O).heap.size = w.heap.size + 1 := size_alloc_w w O
      rw [hszO] at hwy
      obtain ⟨W0, hW0⟩ : ∃ W0, W0 = (w.alloc O).alloc O := ⟨_, rfl⟩
      rw [← hW0] at hw0 hwy hb0
      rw [hO] at hW0
      have HW0 := hide hW0
      have HX0 := hide hw0
      have HY0 := hide hwy
      have HB0 := hide hb0
      have hlen := allBits_le xs
      have hlen' := allBits_le ys
      have hLb : (allBits xs).length ≤ 6400 := by omega
      have hLb' : (allBits ys).length ≤ 6400 := by omega
      have HN := hide hn
      have HOK := hide hok
      have HR := hide hr
      have HN' := hide hn'
      have HOK' := hide hok'
      have HR' := hide hr'
      clear hm hr hok hn hr' hok' hn' hm' hw0 hwy hb0 hO hszO hW0 hlen hlen'
      go_enter Try.func5, Try.ntmps5
      go_wp2_with fail
      rw [← HW0.out]
      refine (puts_any A n c xs W0 HX0.out (HR.out.below HB0.out) HOK.out HN.out (by omega) (by omega) HB0.out.size).mono ?_
      rintro e W1 ⟨rfl, F1, hp⟩
      have hx1 : Wr W1 w.heap.size w.heap.size F1 (allBits xs).length (natOf (allBits xs)) := by simpa using hp.wr
      have HB1 := hide (HB0.out.trans (hp.old (fun _ h => by cases h) HB0.out.size))
      have hy1 := HY0.out.chg hp.chg (fun h => by rcases h with h | h; omega; cases h) (fun _ h => by cases h)
      have hrow := hp.row
      have hlty := HY0.out.lt
      have hF1 : ∀ k, F1 = some k → k ≠ w.heap.size + 1 := fun k hk => by
        rcases hrow with h | ⟨b, h, hb⟩
        · rw [hk] at h; cases h
        · rw [hk] at h; injection h with h; omega
      have hF1l := hx1.ltF
      have HX1 := hide hx1
      have HY1 := hide hy1
      have HF1 := hide hF1
      have HF1L := hide hF1l
      clear hp hx1 hy1 hrow hF1 hF1l HX0 HY0
      go_wp2_with fail
      refine (puts_any A' n' c' ys W1 HY1.out (HR'.out.below HB1.out) HOK'.out HN'.out (by omega) (by omega) HB1.out.size).mono ?_
      rintro e W2 ⟨rfl, F2, hp⟩
      have hy2 : Wr W2 w.heap.size (w.heap.size + 1) F2 (allBits ys).length (natOf (allBits ys)) := by simpa using hp.wr
      have HB2 := hide (HB1.out.trans (hp.old (fun _ h => by cases h) HB1.out.size))
      have hx2 := HX1.out.chg hp.chg (fun h => by rcases h with h | h; omega; cases h) (fun k hk h => by
        rcases h with h | h
        · exact HF1.out k hk h
        · cases h)
      have HX2 := hide hx2
      have HY2 := hide hy2
      clear hp hx2 hy2 HX1 HY1
      go_wp2_with fail
      refine (close_of W2 HX2.out (by omega)).mono ?_
      rintro e W3 ⟨u3, rfl, own3, hb3⟩
      have HB3 := hide (HB2.out.trans (hb3.mono HB2.out.size))
      have HY3 := hide (HY2.out.below hb3)
      have HO3 := hide own3
      clear own3 hb3 HX2 HY2
      go_wp2_with fail
      refine (close_of W3 HY3.out (by omega)).mono ?_
      rintro e W4 ⟨u4, rfl, own4, hb4⟩
      have HB4 := hide (HB3.out.trans (hb4.mono HB3.out.size))
      have hsame := same_own u3 u4 _ _ W4 (own_below HO3.out hb4) own4 (pack_byte _ _) (pack_byte _ _)
      have hdec : decide (pack ((allBits xs).length + 1) (natOf (allBits xs) + 2 ^ (allBits xs).length) = pack ((allBits ys).length + 1) (natOf (allBits ys) + 2 ^ (allBits ys).length)) = decide (allBits xs = allBits ys) := by
        rw [decide_eq_decide]; exact close_inj _ _
      rw [hdec] at hsame
      have HS := hide hsame
      clear own4 hb4 hsame hdec HO3 HY3
      go_wp2_with fail
      refine HS.out.mono ?_
      rintro e W5 ⟨rfl, rfl⟩
      go_wp2_with fail
      refine (all_any A n c xs W4 ((HR.out.below HB4.out).more HB4.out.size) HOK.out HN.out (by omega)).mono ?_
      rintro e W5 ⟨u5, rfl, own5, hb5⟩
      obtain ⟨A5, c5, rfl⟩ := own_form own5
      have HB5 := hide (HB4.out.trans (hb5.mono HB4.out.size))
      have HO5 := hide own5
      clear own5 hb5
      go_wp2_with fail
      refine (all_any A' n' c' ys W5 ((HR'.out.below HB5.out).more HB5.out.size) HOK'.out HN'.out (by omega)).mono ?_
      rintro e W6 ⟨u6, rfl, own6, hb6⟩
      obtain ⟨A6, c6, rfl⟩ := own_form own6
      have HB6 := hide (HB5.out.trans (hb6.mono HB5.out.size))
      have HO6 := hide own6
      have hr5 := Reads.of_own (own_below HO5.out hb6)
      have hr6 := Reads.of_own own6
      have HSB := hide (sameBits_any A5 A6 _ c5 _ c6 (allBits xs) (allBits ys) W6 hr5 hr6 (by omega) (by omega))
      clear own6 hb6 hr5 hr6
      go_wp2_with fail
      refine HSB.out.mono ?_
      rintro e W7 ⟨rfl, k, rfl⟩
      obtain ⟨q, hq⟩ : ∃ q : Bool, q = decide (allBits xs = allBits ys) := ⟨_, rfl⟩
      rw [← hq]
      have hqq : (q == q) = true := by simp
      clear hq HS HSB
      cases q
      all_goals
        go_wp2_with fail
        refine (known_any _).mono ?_
        rintro e W8 ⟨rfl, hb8⟩
        have HB8 := hide ((HB6.out.trans (below_drewN (Below.refl _ _) k)).trans (hb8.mono (HB6.out.size)))
        clear hb8
        go_wp2_with fail
        go_ret
        exact ⟨rfl, HB8.out⟩
end Go.Proofs.Ytbhpflckcehcfaa
