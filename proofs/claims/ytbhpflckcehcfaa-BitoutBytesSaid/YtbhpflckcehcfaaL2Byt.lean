/- portmanteaulaw02.BitoutBytes walked. -/
import Derived.Test.YtbhpflckcehcfaaL2B
import Derived.Test.YtbhpflckcehcfaaOpenPut
namespace Go.Proofs.Ytbhpflckcehcfaa
open Go.RowKit Go.ChangeAt
set_option linter.unusedVariables false

/-- Bytes that came in, as numbers. -/
theorem u8s_of {zs : List Int} (h : ∀ z ∈ zs, (Lit.int .u8 z).wf = true) : zs.map (Value.int .u8) = u8s (zs.map Int.toNat) ∧ ∀ b ∈ zs.map Int.toNat, b < 256 := by
  constructor
  · unfold u8s
    rw [List.map_map]
    refine List.map_congr_left fun z hz => ?_
    have := bounds_u8 (h z hz)
    show Value.int .u8 z = Value.int .u8 ((z.toNat : Nat) : Int)
    rw [Int.toNat_of_nonneg this.1]
  · intro b hb
    obtain ⟨z, hz, rfl⟩ := List.mem_map.1 hb
    have := bounds_u8 (h z hz)
    omega

theorem byte_cells {w : World} {B n : Nat} {A : Option Addr} {l : List Nat} (h : Reads w B 1 A n (u8s l)) {k : Nat} (hk : k < n) :
    ∃ b off x, A = some ⟨b, off, none⟩ ∧ b < B ∧ w.cell? ⟨b, off + k, none⟩ = some (.int .u8 ((x : Nat) : Int)) ∧ l[k]? = some x := by
  obtain ⟨b, off, rfl, hb, hc⟩ := h.open_ (by omega) (by omega)
  have hl : (u8s l).length = n := by have := h.1; omega
  have hkl : k < l.length := by simp [u8s] at hl; omega
  refine ⟨b, off, l[k], rfl, hb, hc _ _ ?_, List.getElem?_eq_getElem hkl⟩
  simp [u8s, hkl]

theorem leN_snoc (a : List Nat) (x : Nat) : leN (a ++ [x]) = leN a + x * 2 ^ (8 * a.length) := by
  rw [leN_append, pow_256]; simp only [leN, Nat.mul_zero, Nat.add_zero]; rw [Nat.mul_comm]

theorem pack_bytes (bs : List Nat) (v m : Nat) (h : ∀ b ∈ bs, b < 256) : (pack (8 * bs.length + m) (leN bs + v * 2 ^ (8 * bs.length))).take bs.length = bs ∧ (pack (8 * bs.length + m) (leN bs + v * 2 ^ (8 * bs.length))).length = bs.length + (m + 7) / 8 := by
  refine ⟨?_, by rw [pack_length]; omega⟩
  refine List.ext_getElem? fun i => ?_
  rw [List.getElem?_take]
  split
  · next hi =>
    unfold pack
    rw [List.getElem?_map, List.getElem?_range (by omega), Option.map_some, ← pow_256, Nat.mul_comm v, leN_digit bs v i h hi, List.getElem?_eq_getElem hi]
    simp [List.getD, List.getElem?_eq_getElem hi]
  · next hi => rw [List.getElem?_eq_none (by omega)]
theorem pack_bytes0 (bs : List Nat) (h : ∀ b ∈ bs, b < 256) : pack (8 * bs.length) (leN bs) = bs := by
  obtain ⟨h1, h2⟩ := pack_bytes bs 0 0 h
  simp only [Nat.zero_mul, Nat.add_zero] at h1 h2
  have : (pack (8 * bs.length) (leN bs)).take bs.length = pack (8 * bs.length) (leN bs) := List.take_of_length_le (by omega)
  rw [← this]; exact h1

set_option maxHeartbeats 2000000 in
theorem walk_BitoutBytes {w : World} (A : Option Addr) (n c : Nat) (zs : List Int) (hn : zs.length = n) (hr : Reads w w.heap.size 1 A n (zs.map (Value.int .u8))) (hok : ∀ z ∈ zs, (Lit.int .u8 z).wf = true) (hm : c ≤ maxLen) (hc : n ≤ c)
    (v : Int) (wv : (Lit.int .u64 v).wf = true) (m : Int) (wm : (Lit.int .i64 m).wf = true) :
    Calls Try.prog 8 #[.slice A n c, .int .u64 v, .int .i64 m] w fun e w' => e = .returned (.bool true) ∧ Below w.heap.size w w' := by
  have bv := bounds_u64 wv
  have bm := bounds_i64 wm
  have hv0 : 0 ≤ v := bv.1
  have hv1 : v < 18446744073709551616 := by omega
  have hmay := fun W => may_any v m W hv0 hv1
  clear wv wm bv bm
  by_cases hbig : 200 < n
  · clear hm hr hok hn hmay hv1
    go_enter Try.func8, Try.ntmps8
    go_wp2_with (go_at_call 11; refine (known_any _).mono ?_; rintro e w1 ⟨rfl, hb⟩)
    go_ret
    exact ⟨rfl, hb⟩
  · cases hmb : mayB v m with
    | false =>
      rw [hmb] at hmay
      have HMAY := hide hmay
      clear hm hr hok hn hmay hmb hv1
      go_enter Try.func8, Try.ntmps8
      go_wp2_with (first
        | (go_at_call 22; refine (HMAY.out _).mono ?_; rintro e w1 ⟨rfl, rfl⟩)
        | (go_at_call 11; refine (known_any _).mono ?_; rintro e w1 ⟨rfl, hb⟩))
      go_ret
      exact ⟨rfl, hb⟩
    | true =>
      rw [hmb] at hmay
      have hml := mayB_le hmb
      obtain ⟨hu1, hu2⟩ := u8s_of hok
      rw [hu1] at hr
      obtain ⟨bs, hbs⟩ : ∃ bs, bs = zs.map Int.toNat := ⟨_, rfl⟩
      have hbl : bs.length = n := by rw [hbs]; simpa using hn
      rw [← hbs] at hr hu2
      have hw0 := Wr.new w w.heap.size (Nat.le_refl _)
      have hb0 := (Below.refl w.heap.size w).alloc (Nat.le_refl _) (.cells #[.int .u64 0, .int .i64 0, .slice none 0 0] 29)
      obtain ⟨W0, hW0⟩ : ∃ W0, W0 = w.alloc (.cells #[.int .u64 0, .int .i64 0, .slice none 0 0] 29) := ⟨_, rfl⟩
      rw [← hW0] at hw0 hb0
      have HW0 := hide hW0
      have HX0 := hide hw0
      have HB0 := hide hb0
      have HR := hide hr
      have HU := hide hu2
      have HBL := hide hbl
      have HMAY := hide hmay
      have hm0 : 0 ≤ m := hml.1
      have hm64 : m ≤ 64 := hml.2.1
      have HML := hide hml.2.2
      clear hm hr hok hn hw0 hb0 hW0 hmay hmb hv1 hml hu1 hu2 hbs hbl
      go_enter Try.func8, Try.ntmps8
      go_wp2_with fail
      refine (HMAY.out _).mono ?_
      rintro e W1 ⟨rfl, rfl⟩
      go_wp2_with fail
      rw [← HW0.out]
      go_loopw [8] (fun i wr => ∃ k : Nat, k ≤ n ∧ i = .int .i64 k ∧ ∃ F', PutTo W0 wr w.heap.size w.heap.size none F' (8 * k) (leN (bs.take k))) (fun i _ => n - (intOf i).toNat)
      case atStart => exact ⟨0, Nat.zero_le _, rfl, none, PutTo.start HX0.out⟩
      case round =>
        obtain ⟨k, hk, rfl, F1, hp⟩ := hrel
        have hbel := HB0.out.trans (hp.old (fun j hj => by cases hj) HB0.out.size)
        have HP := hide hp
        have HBE := hide hbel
        clear hp hbel
        by_cases hlt : k < n
        · obtain ⟨b, off, x, rfl, hbb, k0, hx⟩ := byte_cells (HR.out.below HBE.out) hlt
          have hx256 := HU.out x (List.mem_of_getElem? hx)
          have HX := hide hx
          clear hx
          have hkn : (k : Int) < (n : Int) := by omega
          go_wp2_with fail
          refine (put_any _ _ wr HP.out.wr (by omega) (by omega) (by omega) (by simpa using hx256) (by omega) HBE.out.size).mono ?_
          rintro e w1 ⟨rfl, F2, hp2⟩
          have HP2 := hide (HP.out.trans hp2)
          clear hp2
          go_wp2
          go_roundw
          case rel =>
            refine ⟨k + 1, by omega, by go_num, F2, ?_⟩
            have h2 := HP2.out
            have e : leN (bs.take (k + 1)) = leN (bs.take k) + x * 2 ^ (8 * k) := by
              rw [take_snoc_some HX.out, leN_snoc, List.length_take, Nat.min_eq_left (Nat.le_of_lt (List.getElem?_eq_some_iff.1 HX.out).1)]
            rw [e]
            exact h2
          case measure => simp [intOf]; omega
        · obtain rfl : k = n := by omega
          have hx1 := HP.out.wr
          rw [List.take_of_length_le (by have := HBL.out; omega)] at hx1
          obtain ⟨N, hN⟩ : ∃ N, N = leN bs := ⟨_, rfl⟩
          rw [← hN] at hx1
          have HX1 := hide hx1
          have HN := hide hN
          clear hx1 hN HP
          have hz1 : (((8 * k : Nat) : Int) != 8 * (k : Int)) = false := by simp
          obtain ⟨L, hL⟩ : ∃ L, L = 8 * k := ⟨_, rfl⟩
          go_wp2_with fail
          refine (len_of wr HX1.out (by omega)).mono ?_
          rintro e W2 ⟨rfl, k1, hW2⟩
          have HB2 : Hid (Below w.heap.size w W2) := by rw [hW2]; exact HBE.out.trans (below_drewN (Below.refl _ _) k1)
          have HX2 : Hid (Wr W2 w.heap.size w.heap.size F1 (8 * k) N) := by rw [hW2]; exact HX1.out.drewN k1
          clear hW2 HX1 hL
          go_wp2_with fail
          refine (bytes_of W2 HX2.out (by omega)).mono ?_
          rintro e W3 ⟨u3, rfl, own3, hb3⟩
          obtain ⟨A3, c3, rfl⟩ := own_form own3
          have HB3 := hide (HB2.out.trans (hb3.mono HB2.out.size))
          have HX3 := hide (HX2.out.below hb3)
          have hrb := (HR.out.below HB3.out).more HB3.out.size
          have hs3 := same_any (B := W3.heap.size) A3 A _ c3 k c _ bs W3 (Reads.of_own own3) hrb (pack_byte _ _) HU.out
          have hd3 : decide (pack (8 * k) N = bs) = true := by
            rw [decide_eq_true_eq, HN.out, ← HBL.out]; exact pack_bytes0 bs HU.out
          rw [hd3] at hs3
          have HS3 := hide hs3
          clear own3 hb3 hrb hs3 hd3 HX2
          go_wp2_with fail
          refine HS3.out.mono ?_
          rintro e W4 ⟨rfl, rfl⟩
          clear HS3
          go_wp2_with fail
          refine (put_any v m W3 HX3.out hv0 hm0 hm64 HML.out (by omega) HB3.out.size).mono ?_
          rintro e W4 ⟨rfl, F4, hp4⟩
          have HB4 := hide (HB3.out.trans (hp4.old (fun k hk => (HX3.out.ltF k hk).1) HB3.out.size))
          have HX4 := hide hp4.wr
          clear hp4 HX3
          go_wp2_with fail
          refine (bytes_of W4 HX4.out (by omega)).mono ?_
          rintro e W5 ⟨u5, rfl, own5, hb5⟩
          obtain ⟨A5, c5, rfl⟩ := own_form own5
          have HB5 := hide (HB4.out.trans (hb5.mono HB4.out.size))
          obtain ⟨q1, q2⟩ := pack_bytes bs v.toNat m.toNat HU.out
          rw [HBL.out, ← HN.out] at q1 q2
          obtain ⟨M, hM⟩ : ∃ M, M = (pack (8 * k + m.toNat) (N + v.toNat * 2 ^ (8 * k))).length := ⟨_, rfl⟩
          have hr5 := Reads.of_own own5
          rw [← hM] at own5 hr5 ⊢
          have hM1 : M = k + (m.toNat + 7) / 8 := by rw [hM]; exact q2
          have hr5' := hr5.head (k := k) (by omega)
          have e5 : (u8s (pack (8 * k + m.toNat) (N + v.toNat * 2 ^ (8 * k)))).take (k * 1) = u8s bs := by rw [Nat.mul_one, u8s, ← List.map_take, q1]; rfl
          rw [e5] at hr5'
          have hrb := (HR.out.below HB5.out).more HB5.out.size
          have hs5 := fun c' => same_any (B := W5.heap.size) A5 A k c' k c bs bs W5 hr5' hrb HU.out HU.out
          simp only [decide_true] at hs5
          have HS5 := hide hs5
          have hMb : M ≤ 300 := by omega
          have hkM : (k : Int) ≤ (M : Int) := by omega
          have hMc : (M : Int) ≤ (c5 : Int) := by
            rcases own5.2 with ⟨h1, h2⟩ | ⟨g, cap, cur, h1, _, _, h2, _⟩
            · omega
            · injection h1 with _ _ h3; omega
          have hlen : ((M : Int) == (k : Int) + (m + 7) / 8) = true := by rw [beq_iff_eq]; omega
          clear own5 hb5 hrb hs5 q1 q2 hM hr5 hr5' e5 HX4 hM1
          go_wp2_with fail
          refine (HS5.out c5).mono ?_
          rintro e W6 ⟨rfl, rfl⟩
          go_wp2_with fail
          refine (known_any _).mono ?_
          rintro e W7 ⟨rfl, hb7⟩
          have HB7 := hide (HB5.out.trans (hb7.mono HB5.out.size))
          clear hb7
          go_wp2_with fail
          go_ret
          exact ⟨rfl, HB7.out⟩
end Go.Proofs.Ytbhpflckcehcfaa
