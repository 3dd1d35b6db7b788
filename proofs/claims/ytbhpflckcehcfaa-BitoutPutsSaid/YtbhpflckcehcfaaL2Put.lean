/- portmanteaulaw02.BitoutPuts walked. -/
import Derived.Test.YtbhpflckcehcfaaL2B
namespace Go.Proofs.Ytbhpflckcehcfaa
open Go.RowKit
set_option linter.unusedVariables false
attribute [local go_sem ↓] Go.wp_at_zero Go.wp_at_succ

theorem reads_one {w : World} {B n b off : Nat} {xs : List (Int × Int)} {k : Nat} {p : Int × Int} (h : Reads w B 2 (some ⟨b, off, none⟩) n (putCells xs)) (hk : k < n) (hx : xs[k]? = some p) : Reads w B 2 (some ⟨b, off + k * 2, none⟩) 1 (putCells [p]) := by
  obtain ⟨b', off', e, hb, hc⟩ := h.open_ (by omega) (by omega)
  injection e with e
  injection e with e1 e2
  subst e1 e2
  have hkl := (List.getElem?_eq_some_iff.1 hx)
  obtain ⟨h1, h2⟩ := putCells_at xs k hkl.1
  rw [hkl.2] at h1 h2
  refine ⟨rfl, fun _ => ⟨_, rfl, hb, fun j u hu => ?_⟩⟩
  have he : ∀ j, (⟨b, off + k * 2, none⟩ : Addr).add j = ⟨b, off + (k * 2 + j), none⟩ := fun j => by
    unfold Addr.add
    split
    · next h0 => subst h0; simp
    · simp [Nat.add_assoc]
  rw [he]
  match j, hu with
  | 0, hu =>
    have : u = .int .u64 p.1 := by simpa [putCells] using hu.symm
    subst this
    exact hc _ _ h1
  | 1, hu =>
    have : u = .int .i64 p.2 := by simpa [putCells] using hu.symm
    subst this
    exact hc _ _ h2

theorem reads_head {w : World} {B n : Nat} {A : Option Addr} {xs : List (Int × Int)} {k : Nat} (h : Reads w B 2 A n (putCells xs)) (hn : n = xs.length) (hk : k ≤ n) : Reads w B 2 A k (putCells (xs.take k)) := by
  have h1 := h.head hk
  have e : (putCells xs).take (k * 2) = putCells (xs.take k) := by
    conv => lhs; rw [← List.take_append_drop k xs]
    have e1 : putCells (xs.take k ++ xs.drop k) = putCells (xs.take k) ++ putCells (xs.drop k) := by unfold putCells; rw [List.flatMap_append]
    have e2 : (putCells (xs.take k)).length = k * 2 := by rw [putCells_length, List.length_take]; congr 1; omega
    rw [e1, ← e2, List.take_left]
  rw [e] at h1
  exact h1

set_option maxHeartbeats 4000000 in
theorem walk_BitoutPuts {w : World} (A : Option Addr) (n c : Nat) (xs : List (Int × Int)) (hn : n = xs.length) (hr : Reads w w.heap.size 2 A n (putCells xs)) (hok : OkPuts xs) (hm : c ≤ maxLen) (hc : n ≤ c) :
    Calls Try.prog 3 #[.slice A n c] w fun e w' => e = .returned (.bool true) ∧ Below w.heap.size w w' := by
  by_cases hbig : 100 < n
  · clear hm hr hok hn
    go_enter Try.func3, Try.ntmps3
    go_wp2_with (go_at_call 11; refine (known_any _).mono ?_; rintro e w1 ⟨rfl, hb⟩)
    go_ret
    exact ⟨rfl, hb⟩
  · have hw0 := Wr.new w w.heap.size (Nat.le_refl _)
    have hb0 := (Below.refl w.heap.size w).alloc (Nat.le_refl _) (.cells #[.int .u64 0, .int .i64 0, .slice none 0 0] 29)
    obtain ⟨W0, hW0⟩ : ∃ W0, W0 = w.alloc (.cells #[.int .u64 0, .int .i64 0, .slice none 0 0] 29) := ⟨_, rfl⟩
    rw [← hW0] at hw0 hb0
    have hlen := allBits_le xs
    have hLb : (allBits xs).length ≤ 6400 := by omega
    have HW0 := hide hW0
    have HX0 := hide hw0
    have HB0 := hide hb0
    have HN := hide hn
    have HR := hide hr
    have HOK := hide hok
    clear hm hr hok hn hw0 hb0 hW0 hlen
    go_enter Try.func3, Try.ntmps3
    go_wp2_with fail
    rw [← HW0.out]
    go_loopw [4] (fun i wr => ∃ k : Nat, k ≤ n ∧ i = .int .i64 k ∧ Below w.heap.size w wr ∧ ∃ F', Wr wr w.heap.size w.heap.size F' (allBits (xs.take k)).length (natOf (allBits (xs.take k)))) (fun i _ => n - (intOf i).toNat)
    case atStart => exact ⟨0, Nat.zero_le _, rfl, HB0.out, none, HX0.out⟩
    case round =>
      obtain ⟨k, hk, rfl, hbel, F1, hx1⟩ := hrel
      have HBE := hide hbel
      have HX1 := hide hx1
      clear hbel hx1
      by_cases hlt : k < n
      · obtain ⟨b, off, x, m, rfl, hbb, _, _, hx⟩ := put_cells (HR.out.below HBE.out) HN.out hlt
        have hokx := HOK.out _ (List.mem_of_getElem? hx)
        have HX := hide hx
        have hkn : (k : Int) < (n : Int) := by omega
        have hk1n : (k : Int) + 1 ≤ (n : Int) := by omega
        have hkc : (k : Int) + 1 ≤ (c : Int) := by omega
        have hk0 : (0 : Int) ≤ (k : Int) := by omega
        have hck : ¬ c = k := by omega
        have hll := allBits_le (xs.take k)
        have hkl : (xs.take k).length ≤ k := List.length_take_le _ _
        have hput := fun (W : World) (hW : Below wr.heap.size wr W) (c' : Nat) => puts_any (B := w.heap.size) (some ⟨b, off + k * 2, none⟩) 1 c' [(x, m)] W (HX1.out.below hW) (reads_one (((HR.out.below HBE.out)).below (hW.mono HBE.out.size)) hlt hx) (by intro p hp; simp at hp; subst hp; exact hokx) rfl (by omega) (by omega) (Nat.le_trans HBE.out.size hW.size)
        have HPUT := hide hput
        have hadd : allBits (xs.take (k + 1)) = allBits (xs.take k) ++ allBits [(x, m)] := by rw [take_snoc_some hx, allBits_append]
        have e1 : (allBits (xs.take k)).length + (allBits [(x, m)]).length = (allBits (xs.take (k + 1))).length := by rw [hadd, List.length_append]
        have e2 : natOf (allBits (xs.take k)) + natOf (allBits [(x, m)]) * 2 ^ (allBits (xs.take k)).length = natOf (allBits (xs.take (k + 1))) := by rw [hadd, natOf_append, Nat.mul_comm]
        have HE1 := hide e1
        have HE2 := hide e2
        have hL1 := allBits_le (xs.take (k + 1))
        have hkl1 : (xs.take (k + 1)).length ≤ k + 1 := List.length_take_le _ _
        obtain ⟨L1, hL1e⟩ : ∃ L1, L1 = (allBits (xs.take (k + 1))).length := ⟨_, rfl⟩
        have hL1b : L1 ≤ 6400 := by omega
        have HL1 := hide hL1e
        have hall := fun (W : World) (hW : Below w.heap.size w W) (c' : Nat) => all_any (some ⟨b, off, none⟩) (k + 1) c' (xs.take (k + 1)) W (reads_head ((HR.out.below hW).more hW.size) HN.out (by omega)) (fun p hp => HOK.out p (List.mem_of_mem_take hp)) (by rw [List.length_take]; have := HN.out; omega) (by omega)
        have HALL := hide hall
        have hLL : ((L1 : Int) != (L1 : Int)) = false := by simp
        have hw1' : IntKind.i64.wrap ((k : Int) + 1) = (k : Int) + 1 := IntWalk.i64_in _ (by omega)
        have hk1 : ((k : Int) + 1).toNat = k + 1 := by omega
        have hsub : k + 1 - k = 1 := by omega
        have hk01 : (0 : Int) ≤ (k : Int) + 1 := by omega
        have hkk1 : (k : Int) ≤ (k : Int) + 1 := by omega
        have hkk2 : (k : Int) ≤ ((k + 1 : Nat) : Int) := by omega
        have hkc2 : (k : Int) ≤ (c : Int) := by omega
        have hkc3 : k + 1 ≤ c := by omega
        have hkc4 : k ≤ k + 1 := by omega
        clear hx hokx hll hkl hput hadd e1 e2 hL1 hkl1 hL1e hall
        go_wp2_with fail
        go_region_held3 (fun _ => True) (exact trivial)
          (first
            | (go_at_call 12; refine (HPUT.out _ (Below.refl _ _).drew _).mono ?_; rintro e w1 ⟨rfl, F2, hp2⟩; have hx2 : Wr w1 w.heap.size w.heap.size F2 L1 (natOf (allBits (xs.take (k + 1)))) := (by have := hp2.wr; rw [HE1.out, HE2.out, ← HL1.out] at this; exact this); have hb2 : Below w.heap.size w w1 := (HBE.out.drew.trans (hp2.old (fun j hj => (HX1.out.ltF j hj).1) HBE.out.size)); have HX2 := hide hx2; have HB2 := hide hb2; clear hp2 hx2 hb2)
            | (go_at_call 13; refine (len_of w1 HX2.out (by omega)).mono ?_; rintro e w2 ⟨rfl, k2, rfl⟩)
            | (go_at_call 14; refine (HALL.out _ (HB2.out.trans (below_drewN (Below.refl _ _) k2)) _).mono ?_; rintro e w3 ⟨u3, rfl, own3, hb3⟩; obtain ⟨A3, c3, rfl⟩ := own_form own3; rw [← HL1.out] at own3 ⊢; have HB3 := hide ((HB2.out.trans (below_drewN (Below.refl _ _) k2)).trans (hb3.mono HB2.out.size)); have HX3 := hide ((HX2.out.drewN k2).below hb3); clear own3 hb3))
        have hx3 := HX3.out
        rw [HL1.out] at hx3
        have HX4 := hide hx3
        go_wp2
        go_roundw
        case rel => exact ⟨k + 1, by omega, by go_num, HB3.out, F2, HX4.out⟩
        case measure => simp [intOf]; omega
      · obtain rfl : k = n := by omega
        have hx1 := HX1.out
        rw [List.take_of_length_le (by have := HN.out; omega)] at hx1
        have HX2 := hide hx1
        clear hx1 HX1
        go_wp2_with fail
        refine (bytes_of wr HX2.out (by omega)).mono ?_
        rintro e W3 ⟨u3, rfl, own3, hb3⟩
        have HB3 := hide (HBE.out.trans (hb3.mono HBE.out.size))
        have HO3 := hide own3
        clear own3 hb3 HX2
        go_wp2_with fail
        refine (all_any A k c xs W3 ((HR.out.below HB3.out).more HB3.out.size) HOK.out HN.out (by omega)).mono ?_
        rintro e W4 ⟨u4, rfl, own4, hb4⟩
        obtain ⟨A4, c4, rfl⟩ := own_form own4
        have HB4 := hide (HB3.out.trans (hb4.mono HB3.out.size))
        have HO3b := hide (own_below HO3.out hb4)
        have HO4 := hide own4
        clear own4 hb4 HO3
        go_wp2_with fail
        refine (rbytes_own W4 HO4.out (by omega)).mono ?_
        rintro e W5 ⟨u5, rfl, own5, hb5⟩
        have HB5 := hide (HB4.out.trans (hb5.mono HB4.out.size))
        have hsame := same_own u3 u5 _ _ W5 (own_below HO3b.out hb5) own5 (pack_byte _ _) (pack_byte _ _)
        rw [decide_eq_true rfl] at hsame
        have HS := hide hsame
        clear own5 hb5 hsame
        go_wp2_with fail
        refine HS.out.mono ?_
        rintro e W6 ⟨rfl, rfl⟩
        go_wp2_with fail
        refine (known_any _).mono ?_
        rintro e W7 ⟨rfl, hb7⟩
        have HB7 := hide (HB5.out.trans (hb7.mono HB5.out.size))
        clear hb7
        go_wp2_with fail
        go_ret
        exact ⟨rfl, HB7.out⟩
end Go.Proofs.Ytbhpflckcehcfaa
