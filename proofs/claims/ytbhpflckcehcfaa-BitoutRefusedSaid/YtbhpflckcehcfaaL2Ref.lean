/- portmanteaulaw02.BitoutRefused walked. -/
import Derived.Test.YtbhpflckcehcfaaL2B
import Derived.Test.YtbhpflckcehcfaaOpenPut
namespace Go.Proofs.Ytbhpflckcehcfaa
open Go.RowKit Go.ChangeAt
set_option linter.unusedVariables false

set_option maxHeartbeats 2000000 in
theorem walk_BitoutRefused {w : World} (A : Option Addr) (n c : Nat) (xs : List (Int × Int)) (hn : n = xs.length) (hr : Reads w w.heap.size 2 A n (putCells xs)) (hok : OkPuts xs) (hm : c ≤ maxLen) (hc : n ≤ c)
    (v : Int) (wv : (Lit.int .u64 v).wf = true) (m : Int) (wm : (Lit.int .i64 m).wf = true) :
    Calls Try.prog 7 #[.slice A n c, .int .u64 v, .int .i64 m] w fun e w' => e = .returned (.bool true) ∧ Below w.heap.size w w' := by
  have bv := bounds_u64 wv
  have bm := bounds_i64 wm
  have hv0 : 0 ≤ v := bv.1
  have hv1 : v < 18446744073709551616 := by omega
  have hm1 : m < 9223372036854775808 := by omega
  have hmay := fun W => may_any v m W hv0 hv1
  clear wv wm bv bm
  by_cases hbig : 60 < n
  · clear hm hr hok hn hmay hv1 hm1
    go_enter Try.func7, Try.ntmps7
    go_wp2_with (go_at_call 11; refine (known_any _).mono ?_; rintro e w1 ⟨rfl, hb⟩)
    go_ret
    exact ⟨rfl, hb⟩
  · cases hmb : mayB v m with
    | true =>
      rw [hmb] at hmay
      have HMAY := hide hmay
      clear hm hr hok hn hmay hmb hv1 hm1
      go_enter Try.func7, Try.ntmps7
      go_wp2_with (first
        | (go_at_call 22; refine (HMAY.out _).mono ?_; rintro e w1 ⟨rfl, rfl⟩)
        | (go_at_call 11; refine (known_any _).mono ?_; rintro e w1 ⟨rfl, hb⟩))
      go_ret
      exact ⟨rfl, hb⟩
    | false =>
      rw [hmb] at hmay
      have hbad := fun W => put_refuses (g := w.heap.size) (x := v) (m := m) W hmb hv0 hv1 hm1
      have hw0 := Wr.new w w.heap.size (Nat.le_refl _)
      have hr0 := hr.alloc (Nat.le_refl _) (.cells #[.int .u64 0, .int .i64 0, .slice none 0 0] 29)
      have hb0 := (Below.refl w.heap.size w).alloc (Nat.le_refl _) (.cells #[.int .u64 0, .int .i64 0, .slice none 0 0] 29)
      have hlen := allBits_le xs
      have hLb : (allBits xs).length ≤ 6400 := by omega
      have HMAY := hide hmay
      have HBAD := hide hbad
      have HN := hide hn
      have HOK := hide hok
      have HW0 := hide hw0
      have HR0 := hide hr0
      have HB0 := hide hb0
      clear hm hr hok hn hw0 hr0 hb0 hlen hmay hmb hv1 hm1 hbad
      go_enter Try.func7, Try.ntmps7
      go_wp2_with fail
      refine (HMAY.out _).mono ?_
      rintro e W1 ⟨rfl, rfl⟩
      go_wp2_with fail
      refine (puts_any A n c xs _ HW0.out HR0.out HOK.out HN.out (by omega) (by omega) HB0.out.size).mono ?_
      rintro e W1 ⟨rfl, F1, hp⟩
      have hw1 : Wr W1 w.heap.size w.heap.size F1 (allBits xs).length (natOf (allBits xs)) := by simpa using hp.wr
      have HB1 := hide (HB0.out.trans (hp.old (fun _ h => by cases h) HB0.out.size))
      obtain ⟨L, hL⟩ : ∃ L, L = (allBits xs).length := ⟨_, rfl⟩
      obtain ⟨N, hN⟩ : ∃ N, N = natOf (allBits xs) := ⟨_, rfl⟩
      rw [← hL, ← hN] at hw1
      have HW1 := hide hw1
      have hLb2 : L ≤ 6400 := by omega
      clear hp hw1 HB0 HW0 HR0 hL hN
      go_wp2_with fail
      refine (bytes_of W1 HW1.out (by omega)).mono ?_
      rintro e W2 ⟨u, rfl, own2, hb2⟩
      obtain ⟨A2, c2, rfl⟩ := own_form own2
      have HB2 := hide (HB1.out.trans (hb2.mono HB1.out.size))
      have HW2 := hide (HW1.out.below hb2)
      have HO2 := hide own2
      clear own2 hb2 HW1
      go_wp2_with fail
      refine (len_of W2 HW2.out (by omega)).mono ?_
      rintro e W3 ⟨rfl, k, rfl⟩
      go_wp2_with fail
      refine (HBAD.out _).mono ?_
      rintro e W3 ⟨rfl, rfl⟩
      go_wp2_with fail
      refine (len_of (W2.drewN k) (HW2.out.drewN k) (by omega)).mono ?_
      rintro e W3 ⟨rfl, k2, hW3⟩
      have HB3 : Hid (Below w.heap.size w W3) := by rw [hW3]; exact (HB2.out.trans (below_drewN (Below.refl _ _) k)).trans (below_drewN (Below.refl _ _) k2)
      have HW3 : Hid (Wr W3 w.heap.size w.heap.size F1 L N) := by rw [hW3]; exact (HW2.out.drewN k).drewN k2
      have HO3 : Hid (W3.ownsRow W1.heap.size 5 1 (.slice A2 (pack L N).length c2) (pack L N).length (u8s (pack L N))) := by rw [hW3]; exact HO2.out
      clear hW3
      have hLL : ((L : Int) == (L : Int)) = true := by simp
      go_wp2_with fail
      refine (bytes_of W3 HW3.out (by omega)).mono ?_
      rintro e W4 ⟨u4, rfl, own4, hb4⟩
      have HB4 := hide (HB3.out.trans (hb4.mono HB3.out.size))
      have hsame := same_own u4 _ _ _ W4 own4 (own_below HO3.out hb4) (pack_byte _ _) (pack_byte _ _)
      rw [decide_eq_true rfl] at hsame
      have HS := hide hsame
      clear own4 hb4 hsame
      go_wp2_with fail
      refine HS.out.mono ?_
      rintro e W5 ⟨rfl, rfl⟩
      go_wp2_with fail
      refine (known_any _).mono ?_
      rintro e W6 ⟨rfl, hb6⟩
      have HB6 := hide (HB4.out.trans (hb6.mono (HB4.out.size)))
      clear hb6
      go_wp2_with fail
      go_ret
      exact ⟨rfl, HB6.out⟩
end Go.Proofs.Ytbhpflckcehcfaa
