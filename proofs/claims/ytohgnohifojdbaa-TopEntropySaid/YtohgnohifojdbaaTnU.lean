/- Texts put together: TnZ, TnH, TnI, TnJ. -/
import Derived.Test.YtohgnohifojdbaaTnT
import Derived.Lib.AppendZerosOnto
import Derived.Deep.RegionLaw
namespace Go.Proofs.Ytohgnohifojdbaa
section
set_option maxRecDepth 8000
set_option maxRecDepth 8000
open Go
set_option linter.unusedVariables false

theorem zeroCells_int (k : Nat) : (Builtin.zeroCells #[.int .i64 0] k).toList = List.replicate k (.int .i64 0) := by
  apply List.ext_getElem?
  intro i
  simp only [Builtin.zeroCells, Array.toList_map, Array.toList_range, List.getElem?_map, List.getElem?_replicate, List.size_toArray, List.length_cons, List.length_nil, Nat.mul_one, Nat.zero_add, Nat.mod_one]
  by_cases h : i < k
  · rw [List.getElem?_range h, if_pos h]; rfl
  · rw [List.getElem?_eq_none (by simp; omega), if_neg h]; rfl

section
variable {P : Program} (w : World)
theorem run_append_zeros (base : Nat) (t tn ty e : TypeId) (i : TypeInfo) (kn : IntKind) (ht : P.underlying t = some (.slice e)) (htn : P.underlying tn = some (.int kn)) (hi : P.info? e = some i) (hz : i.zero = some (.int .i64 0))
    (hsize : i.size = 1) (hby : i.bytes = 8) (v : Value) (n : Nat) (xs : List Value) (hown : w.ownsRow base e 1 v n xs) (kq : IntKind) (k : Nat) (h63 : n + k ≤ 1000000) (hbase : base ≤ w.heap.size) :
    ∃ v' w', (Builtin.append_ #[t, tn] ty #[v, .int kq k]).run P w = .ok v' w' ∧ w'.ownsRow base e 1 v' (n + k) (xs ++ List.replicate k (.int .i64 0)) ∧ w.grownBy w' v.ownBlock := by
  have hw : IntKind.i64.wrap (k : Int) = k := by rw [IntKind.wrap_i64]; omega
  have hw0 : IntKind.i64.wrap 0 = 0 := by rw [IntKind.wrap_i64]; omega
  have hneg : ¬ ((k : Int) < 0) := by omega
  have h48i : ¬ (281474976710656 < (k : Int) * (8 : Int)) := by omega
  have hxl : xs.length = n := by have := hown.1; omega
  have hlen : (xs ++ List.replicate k (Value.int .i64 0)).length = (n + k) * 1 := by rw [List.length_append, hxl, List.length_replicate]; omega
  have hzc : (Value.int .i64 0).cells = #[.int .i64 0] := rfl
  rcases hown.2 with ⟨rfl, rfl⟩ | ⟨g, cap, cur, rfl, hbg, hg, hnc, hcm, hcs, htake⟩
  · obtain rfl : xs = [] := List.eq_nil_of_length_eq_zero hxl
    by_cases hk : k = 0
    · subst hk
      refine ⟨.slice none 0 0, w, ?_, ⟨rfl, .inl ⟨rfl, rfl⟩⟩, ⟨rfl, rfl, rfl, Nat.le_refl _, fun _ _ _ => rfl⟩⟩
      simp [Builtin.append_, run_underlying ht, run_underlying htn, sizeOf, typeInfo, zeroValue, hi, hz, asInt, asIntOf, hby, hw0]
    · have hr := Lib.run_append_nil_zeros (P := P) w t tn ty e i (.int .i64 0) kq kn ht htn hi hz k (by omega) (by omega) (by omega) (by rw [hby]; omega)
      have hge := grownCap_ge w k 0 e
      refine ⟨_, _, hr, ⟨by simp, .inr ⟨w.heap.size, _, _, by rw [Nat.zero_add], hbase, heap_alloc_new w.drew _, by rw [Nat.zero_add]; exact hge, grownCap_le_maxLen w k 0 e (by simp only [maxLen]; omega), ?_, ?_⟩⟩, ⟨rfl, rfl, rfl, by simp, fun q hq _ => heap_alloc_old w.drew _ hq⟩⟩
      · rw [hzc, Array.size_append, size_zeroCells, size_zeroCells]; simp; omega
      · rw [hzc, Array.toList_append, zeroCells_int, Nat.zero_add, Nat.mul_one, List.nil_append, List.take_left' (by simp)]
  · by_cases hroom : n + k ≤ cap
    · have hfit : n + 0 + (List.replicate k (Value.int .i64 0)).length ≤ cur.size := by rw [hcs, List.length_replicate]; omega
      have hst := run_storeCells_at (P := P) g n e (List.replicate k (Value.int .i64 0)) 0 cur w hg (by simpa using hfit) (by intro u hu; rw [List.eq_of_mem_replicate hu]; rfl)
      have hzl : (Builtin.zeroCells #[Value.int .i64 0] k).toList = List.replicate k (.int .i64 0) := zeroCells_int k
      refine ⟨.slice (some ⟨g, 0, none⟩) (n + k) cap, w.setRow g (cur.toList.take (n + 0) ++ List.replicate k (Value.int .i64 0) ++ cur.toList.drop (n + 0 + (List.replicate k (Value.int .i64 0)).length)).toArray, ?_, ⟨hlen, .inr ⟨g, cap, _, rfl, hbg, setRow_heap w g cur _ e _ hg, hroom, hcm, ?_, ?_⟩⟩, ⟨rfl, rfl, rfl, by simp, fun q _ hq => setRow_other w g q _ (fun h => hq (by simp [Value.ownBlock, h]))⟩⟩
      · by_cases hk : k = 0
        · subst hk
          simp only [List.replicate_zero] at hst
          simp [Builtin.append_, run_underlying ht, run_underlying htn, sizeOf, typeInfo, zeroValue, hi, hz, asInt, asIntOf, hsize, hby, hw0, hnc, Addr.add_lit, hst]
        · simp [Builtin.append_, run_underlying ht, run_underlying htn, sizeOf, typeInfo, zeroValue, hi, hz, asInt, asIntOf, hsize, hby, hroom, hw, hneg, h48i, hk, hzc, hzl, Addr.add_lit, hst]
      · simp only [List.size_toArray, List.length_append, List.length_take, List.length_drop, Array.length_toList, List.length_replicate]
        omega
      · simp only [Nat.mul_one, Nat.add_zero] at htake ⊢
        rw [htake, List.take_left' (by rw [List.length_append, hxl, List.length_replicate])]
    · have hk0 : 0 < k := by omega
      have holds := hown.cells (g := g) rfl
      have hold := run_firstCells_some (P := P) w.drew i.size n ⟨g, 0, none⟩ n cap xs (by rw [hsize]; omega) (fun j u hj => by have := holds j u hj; simpa using this)
      have hr := Lib.run_append_grow_zeros (P := P) w t tn ty e i (.int .i64 0) kq kn ht htn hi hz (some ⟨g, 0, none⟩) n cap xs hold k hk0 (by omega) (by omega) (by omega) (by rw [hby]; omega) (by rw [hby]; exact growslice_fits (by omega) (by omega))
      have hge := grownCap_ge w (n + k) cap e
      refine ⟨_, _, hr, ⟨hlen, .inr ⟨w.heap.size, _, _, rfl, hbase, heap_alloc_new w.drew _, hge, grownCap_le_maxLen w (n + k) cap e (by simp only [maxLen]; omega), ?_, ?_⟩⟩, ⟨rfl, rfl, rfl, by simp, fun q hq _ => heap_alloc_old w.drew _ hq⟩⟩
      · rw [hzc, Array.size_append, Array.size_append, size_zeroCells, size_zeroCells]; simp [hxl]; omega
      · rw [hzc, Array.toList_append, Array.toList_append, zeroCells_int, Nat.mul_one]
        simp only []
        rw [List.take_left' (by simp [hxl])]
end
end

section
set_option maxRecDepth 8000
set_option maxRecDepth 8000
open Go.RowKit Go
set_option linter.unusedVariables false

/-- A reader without an error. -/
structure RI (w : World) (lo hi gr gf : Nat) (bs : List Nat) (f t : Nat) : Prop where
  blk : w.heap[gr]? = some (.cells #[.pointer (some ⟨gf, 0, none⟩), .int .i64 0] 65 (0, 0))
  rdr : Rdr w lo hi gf 108 bs f t
  far : hi ≤ gr
theorem Rdr.hig {w : World} {lo hi g : Nat} {T : TypeId} {bs : List Nat} {f t : Nat} (h : Rdr w lo hi g T bs f t) : lo ≤ g ∧ g < hi ∧ hi ≤ w.heap.size := by
  obtain ⟨A, m, c, hr, h1, h2, h3, h4⟩ := h
  exact ⟨h1, h2, h3⟩
theorem RI.ne {w : World} {lo hi gr gf : Nat} {bs : List Nat} {f t : Nat} (h : RI w lo hi gr gf bs f t) : gr ≠ gf ∧ lo ≤ gf ∧ gf < hi := by
  have := h.rdr.hig; have := h.far; omega
theorem RI.chg {S : Nat → Prop} {w w' : World} {lo hi gr gf : Nat} {bs : List Nat} {f t : Nat} (h : RI w lo hi gr gf bs f t) (hc : Chg S w w') (hS : ∀ b, S b → b < lo ∨ (hi ≤ b ∧ b ≠ gr)) : RI w' lo hi gr gf bs f t :=
  ⟨hc.heap h.blk (fun hs => by have := hS _ hs; have := h.far; have := h.ne; omega), h.rdr.chg hc (fun b hb => by have := hS b hb; omega), h.far⟩

theorem AtP.append {N f t : Nat} : ∀ {a b : List (Int × Int)}, AtP N f t (a ++ b) → AtP N (f + bl a) t b
  | [], b, h => h
  | (x, m) :: a, b, h => by
    have := AtP.append (a := a) (h.cons).2.2.1
    rw [Nat.add_assoc] at this
    exact this

theorem dmust_ok (v : Value) (gr : Nat) (e : Int) (w : World) (h : w.heap[gr]? = some (.cells #[v, .int .i64 0] 65 (0, 0))) :
    Calls Try.prog 48 #[.pointer (some ⟨gr, 0, none⟩), .bool true, .int .i64 e] w fun e w' => e = .returned (.bool true) ∧ w' = w := by
  have k1 : w.cell? ⟨gr, 1, none⟩ = some (.int .i64 0) := (cell_blk h 1).trans rfl
  clear h
  go_enter Try.func48, Try.ntmps48
  go_wp2
  go_ret
  exact ⟨rfl, rfl⟩

section
variable {w : World} {lo hi gr gf : Nat} {bs : List Nat} {f t : Nat}
set_option maxHeartbeats 1000000 in
theorem dtake_ok (h : RI w lo hi gr gf bs f t) {x m : Int} {ps : List (Int × Int)} (hp : AtP (leN bs) f t ((x, m) :: ps)) (hx0 : 0 ≤ x) (hx : x < 100000) :
    Calls Try.prog 47 #[.pointer (some ⟨gr, 0, none⟩), .int .i64 m] w fun e w' =>
      e = .returned (.int .i64 x) ∧ RI w' lo hi gr gf bs (f + m.toNat) t ∧ Chg (fun k => k = gf) w w' := by
  obtain ⟨h1, h2, h3, h4, h5⟩ := hp.cons
  obtain ⟨m, rfl⟩ := Int.eq_ofNat_of_zero_le h4
  obtain ⟨x, rfl⟩ := Int.eq_ofNat_of_zero_le hx0
  simp only [Int.toNat_natCast] at h1 h2 ⊢
  have hT := ftake_good h.rdr m (by omega) h2
  rw [h1] at hT
  have HT := hide hT
  have HI := hide h
  have k0 : w.cell? ⟨gr, 0, none⟩ = some (.pointer (some ⟨gf, 0, none⟩)) := (cell_blk h.blk 0).trans rfl
  have k1 : w.cell? ⟨gr, 1, none⟩ = some (.int .i64 0) := (cell_blk h.blk 1).trans rfl
  have hwx : IntKind.i64.wrap (x : Int) = (x : Int) := IntWalk.i64_in _ (by omega)
  clear h hp h1 h2 h3 h4 h5 hT
  go_enter Try.func47, Try.ntmps47
  go_wp2_with fail
  refine HT.out.mono ?_
  rintro e w1 ⟨rfl, hr, hc⟩
  have hb := hc.heap HI.out.blk HI.out.ne.1
  have HM := hide (dmust_ok (.pointer (some ⟨gf, 0, none⟩)) gr 0 w1 hb)
  have HR : Hid (RI w1 lo hi gr gf bs (f + m) t) := hide ⟨hb, hr, HI.out.far⟩
  have HC := hide hc
  clear hr hc hb k0 k1
  go_wp2_with fail
  refine HM.out.mono ?_
  rintro e w2 ⟨rfl, rfl⟩
  go_wp2
  go_ret
  exact ⟨rfl, HR.out, HC.out⟩

set_option maxHeartbeats 1000000 in
theorem drnum_ok (h : RI w lo hi gr gf bs f t) {n v : Nat} {ps : List (Int × Int)} (hn : n < v) (hv : v ≤ 514) (hp : AtP (leN bs) f t (numP n v ++ ps)) :
    Calls Try.prog 49 #[.pointer (some ⟨gr, 0, none⟩), .int .i64 (v : Int), .func (Fn.func 47) #[.pointer (some ⟨gr, 0, none⟩)] #[]] w fun e w' =>
      e = .returned (.int .i64 (n : Int)) ∧ RI w' lo hi gr gf bs (f + bl (numP n v)) t ∧ Chg (fun k => k = gf) w w' := by
  obtain ⟨c1, c2, c3, c4⟩ := cut_fact (by omega : 0 < v) hv
  have HC := hide (cut_ok v w (by omega) hv)
  have hub : cutU v ≤ 1028 := by unfold cutU; omega
  have hpb : 2 ^ cutB v ≤ 514 := by omega
  have hfar := h.ne
  have HI := hide h
  have hd : ∀ k, RI (w.drewN k) lo hi gr gf bs f t := fun k => h.chg ((Chg.refl (fun _ => False) w).drewN k) (fun b hb => hb.elim)
  have HCH := hide (fun (k : Nat) (w' : World) (hc : Chg (fun k => k = gf) (w.drewN k) w') => ((Chg.refl (fun k => k = gf) w).drewN k).trans hc (fun b hb => .inl hb))
  by_cases hlt : n < cutU v
  · have e1 : numP n v = [((n : Int), (cutB v : Int))] := if_pos hlt
    rw [e1] at hp ⊢
    have HT := hide (fun k => dtake_ok (hd k) (x := (n : Int)) (m := (cutB v : Int)) (ps := ps) hp (by omega) (by omega))
    have hlt' : (n : Int) < (cutU v : Int) := by omega
    simp only [bl, Int.toNat_natCast, Nat.add_zero] at HT ⊢
    clear hp hd h e1 c1 c2 c3 c4 hpb hub hlt
    go_enter Try.func49, Try.ntmps49
    go_wp2_with fail
    refine HC.out.mono ?_
    rintro e w1 ⟨rfl, k, rfl⟩
    go_wp2_with fail
    refine (HT.out k).mono ?_
    rintro e w2 ⟨rfl, hr, hc⟩
    have HR := hide hr
    have HCC := hide (HCH.out k w2 hc)
    clear hr hc
    go_wp2
    go_ret
    exact ⟨rfl, HR.out, HCC.out⟩
  · have e1 : numP n v = [((((n + cutU v) / 2 : Nat) : Int), (cutB v : Int)), ((((n + cutU v) % 2 : Nat) : Int), 1)] := if_neg hlt
    rw [e1] at hp ⊢
    have hp2 := (hp.cons).2.2.1
    have HT := hide (fun k => dtake_ok (hd k) (x := (((n + cutU v) / 2 : Nat) : Int)) (m := (cutB v : Int)) (ps := _) hp (by omega) (by omega))
    have HT2 := hide (fun (W : World) (hW : RI W lo hi gr gf bs (f + ((cutB v : Int)).toNat) t) => dtake_ok hW (x := (((n + cutU v) % 2 : Nat) : Int)) (m := 1) (ps := _) hp2 (by omega) (by omega))
    have e9 : ((1 : Int)).toNat = 1 := rfl
    simp only [bl, Int.toNat_natCast, Nat.add_zero, e9] at HT HT2 ⊢
    have hU : cutU v + v = 2 * 2 ^ cutB v := by unfold cutU; omega
    obtain ⟨u, hu⟩ : ∃ u, u = cutU v := ⟨_, rfl⟩
    obtain ⟨b, hb⟩ : ∃ b, b = cutB v := ⟨_, rfl⟩
    rw [← hu] at HT HT2 HC hub hlt hU
    rw [← hb] at HT HT2 HC c2 c3 c4 hpb hU ⊢
    obtain ⟨q, hq⟩ : ∃ q, q = (n + u) / 2 := ⟨_, rfl⟩
    obtain ⟨r, hr⟩ : ∃ r, r = (n + u) % 2 := ⟨_, rfl⟩
    rw [← hq] at HT
    rw [← hr] at HT2
    have hlt' : ¬ (q : Int) < (u : Int) := by omega
    have hw1 : IntKind.i64.wrap (2 * (q : Int)) = 2 * (q : Int) := IntWalk.i64_in _ (by omega)
    have hw2 : IntKind.i64.wrap (2 * (q : Int) + (r : Int)) = 2 * (q : Int) + (r : Int) := IntWalk.i64_in _ (by omega)
    have hw3 : IntKind.i64.wrap (2 * (q : Int) + (r : Int) - (u : Int)) = (n : Int) := by rw [IntWalk.i64_in _ (by omega)]; omega
    clear hp hp2 hd h e1 c1 c2 c3 c4 hpb hub hlt hu hb hq hr hU
    go_enter Try.func49, Try.ntmps49
    go_wp2_with fail
    refine HC.out.mono ?_
    rintro e w1 ⟨rfl, k, rfl⟩
    go_wp2_with fail
    refine (HT.out k).mono ?_
    rintro e w2 ⟨rfl, hr, hc⟩
    have HT3 := hide (HT2.out w2 hr)
    have HCC := hide (HCH.out k w2 hc)
    clear hr hc
    go_wp2_with fail
    refine HT3.out.mono ?_
    rintro e w3 ⟨rfl, hr, hc⟩
    have HR := hide hr
    have HC3 := hide (HCC.out.trans hc (fun b hb => .inl hb))
    clear hr hc
    go_wp2
    go_ret
    exact ⟨rfl, by rw [← Nat.add_assoc]; exact HR.out, HC3.out⟩
end
end

section
set_option maxRecDepth 8000
set_option maxRecDepth 8000
open Go.RowKit Go
set_option linter.unusedVariables false

def lenV : Value → Nat
  | .slice _ n _ => n
  | _ => 0

section
variable {w : World} {lo hi gr gf : Nat} {bs : List Nat} {f t : Nat}
theorem RI.grown {w' : World} {W : Nat} {row : Option Nat} (h : RI w lo hi gr gf bs f t) (hg : w.grownBy w' row) (hr : ∀ k, row = some k → W ≤ k) (hW : hi ≤ W) (hgr : gr < W) : RI w' lo hi gr gf bs f t :=
  h.chg (Chg.of_grown hg) (fun b hb => by have := hr b hb.symm; omega)

set_option maxHeartbeats 2000000 in
theorem dnoughts_ok (h : RI w lo hi gr gf bs f t) {r : Nat} {ps : List (Int × Int)} (room : Int) (hroom : (r : Int) < room) (hr : r ≤ 256) (hp : AtP (leN bs) f t (runP r ++ ps)) :
    Calls Try.prog 50 #[.pointer (some ⟨gr, 0, none⟩), .int .i64 room, .func (Fn.func 47) #[.pointer (some ⟨gr, 0, none⟩)] #[]] w fun e w' =>
      ∃ v, e = .returned v ∧ w'.ownsRow w.heap.size 3 1 v r (List.replicate r (.int .i64 0)) ∧ RI w' lo hi gr gf bs (f + bl (runP r)) t ∧ Chg (fun k => k = gf) w w' := by
  obtain ⟨i0, hi0, hz0, hz1, hz2⟩ := info_parts info_int
  have hfar := h.ne
  have hig := h.rdr.hig
  have hgr : gr < w.heap.size := lt_of_heap h.blk
  have HI := hide h
  have HP := hide hp
  clear h hp
  go_enter Try.func50, Try.ntmps50
  go_wp2
  go_loopw [6, 7] (fun l kk wr => ∃ m x f' : Nat, wr.ownsRow w.heap.size 3 1 l m (List.replicate m (.int .i64 0)) ∧ RI wr lo hi gr gf bs f' t ∧ Chg (fun k => k = gf) w wr ∧
      ((kk = .int .i64 3 ∧ m + x = r ∧ AtP (leN bs) f' t (runP x ++ ps) ∧ f' + bl (runP x) = f + bl (runP r)) ∨ (∃ y : Int, y ≠ 3 ∧ kk = .int .i64 y ∧ m = r ∧ f' = f + bl (runP r)))) (fun l kk _ => 4 * (1000 - lenV l) + (intOf kk).toNat)
  case atStart => exact ⟨0, r, f, World.ownsRow_nil _ _ _ _, HI.out, Chg.refl _ _, .inl ⟨rfl, by omega, HP.out, rfl⟩⟩
  case round =>
    obtain ⟨m, x, f', ho, hri, hc, hcase⟩ := hrel
    obtain ⟨A, c, rfl⟩ := own_form ho
    rcases hcase with ⟨rfl, hmx, hat, hbl⟩ | ⟨y, hy3, rfl, rfl, rfl⟩
    · have hmr : (m : Int) < room := by omega
      have hws : w.heap.size ≤ wr.heap.size := hc.size
      have HM := hide (dmust_ok (.pointer (some ⟨gf, 0, none⟩)) gr 13 wr hri.blk)
      obtain ⟨y, ps', f2, hrun, hy⟩ : ∃ (y : Nat) (ps' : List (Int × Int)) (x' : Nat), runP x = ((y : Int), 2) :: (if y = 3 then runP x' else []) ∧ ps' = (if y = 3 then runP x' else []) ++ ps ∧ y ≤ 3 ∧ (y = 3 → x = x' + 3) ∧ (y ≠ 3 → x = y) := by
        by_cases h3 : x < 3
        · exact ⟨x, _, 0, by rw [runP_lt h3, if_neg (by omega)], rfl, by omega, by omega, fun _ => rfl⟩
        · exact ⟨3, _, x - 3, by rw [runP_ge h3, if_pos rfl]; rfl, rfl, by omega, by omega, fun h => absurd rfl h⟩
      obtain ⟨hps, hy3, hx1, hx2⟩ := hy
      rw [hrun, List.cons_append, ← hps] at hat
      have hT := dtake_ok hri hat (by omega) (by omega)
      have HNX := hide (hat.cons).2.2.1
      have HT := hide hT
      have HO := hide ho
      have HC := hide hc
      have HRUN := hide hrun
      have HPS := hide hps
      have HBL := hide hbl
      clear ho hri hc hat hbl hT hrun hps
      go_wp2_with fail
      refine HM.out.mono ?_
      rintro e w1 ⟨rfl, rfl⟩
      go_wp2_with fail
      refine HT.out.mono ?_
      rintro e w2 ⟨rfl, hr2, hc2⟩
      have ho2 := own_chg HO.out hc2 (fun k hk => by have := (HO.out.lt k hk).1; omega)
      obtain ⟨v3, w3, hrun3, ho3, hg3⟩ := run_append_zeros (P := Try.prog) w2 w.heap.size 24 3 24 3 i0 .i64 Try.underlying24 Try.underlying3 hi0 hz0 hz1 hz2 _ m _ ho2 .i64 y (by omega) (Nat.le_trans hws hc2.size)
      have hr3 := hr2.grown hg3 (fun k hk => (ho2.lt k hk).1) hig.2.2 hgr
      have hc3 : Chg (fun k => k = gf) w w3 := (HC.out.trans hc2 (fun b hb => .inl hb)).grown hg3 (fun k hk => .inr (ho2.lt k hk).1)
      rw [List.replicate_append_replicate] at ho3
      have HRUN3 := hide hrun3
      have HO3 := hide ho3
      have HR3 := hide hr3
      have HC3 := hide hc3
      clear hr2 hc2 ho2 hrun3 ho3 hg3 hr3 hc3
      go_wp2_with (at_builtin; refine Lib.wpList_append_run _ rfl (.tmp 20) (.tmp 21) _ _ rfl _ _ rfl rfl _ _ HRUN3.out ?_)
      obtain ⟨A3, c3, rfl⟩ := own_form HO3.out
      have hb1 : bl (runP x) = 2 + bl (if y = 3 then runP f2 else []) := by rw [HRUN.out]; rfl
      go_roundw
      case rel =>
        by_cases h3 : y = 3
        · subst h3
          have hn := HNX.out
          rw [HPS.out, if_pos rfl] at hn
          rw [if_pos rfl] at hb1
          exact ⟨m + 3, f2, f' + 2, HO3.out, HR3.out, HC3.out, .inl ⟨rfl, by have := hx1 rfl; omega, hn, by have := HBL.out; omega⟩⟩
        · rw [if_neg h3] at hb1
          have : bl ([] : List (Int × Int)) = 0 := rfl
          exact ⟨m + y, 0, f' + 2, HO3.out, HR3.out, HC3.out, .inr ⟨(y : Int), by omega, rfl, by have := hx2 h3; omega, by have := HBL.out; omega⟩⟩
      case measure =>
        have hy1 : y = 3 ∨ y < 3 := by omega
        simp only [lenV, intOf, Int.toNat_natCast]
        have : ((3 : Int)).toNat = 3 := rfl
        omega
    · have HO := hide ho
      have HR := hide hri
      have HC := hide hc
      have hyb : (y == 3) = false := by simp [hy3]
      clear ho hri hc hy3
      go_wp2
      go_ret
      exact ⟨_, rfl, HO.out, HR.out, HC.out⟩
end
end

section
set_option maxRecDepth 8000
set_option maxRecDepth 8000
open Go.RowKit Go
set_option linter.unusedVariables false

/-- How long the slice in a table's cell is. -/
def lenC (q : Nat) (w : World) : Nat := match w.cell? ⟨q, 1, none⟩ with | some (.slice _ n _) => n | _ => 0

/-- While a table is read: the table's cells, and the row of its norms. -/
structure TabI (wr : World) (q : Nat) (L : Int) (j : Nat) (zs : List Int) (A : Option Addr) (c : Nat) : Prop where
  blk : wr.heap[q]? = some (.cells #[.int .i64 L, .slice A j c] 28 (0, 0))
  own : wr.ownsRow (q + 1) 3 1 (.slice A j c) j ((zs.take j).map (Value.int .i64))

section
variable {w : World} {lo hi gr gf : Nat} {bs : List Nat} {f t : Nat}
theorem lenC_of {wr : World} {q j c : Nat} {L : Int} {A : Option Addr} (h : wr.heap[q]? = some (.cells #[.int .i64 L, .slice A j c] 28 (0, 0))) : lenC q wr = j := by
  unfold lenC
  rw [show wr.cell? ⟨q, 1, none⟩ = some (.slice A j c) from (cell_blk h 1).trans rfl]
theorem TabI.put {W3 W4 : World} {q j c : Nat} {L : Int} {u : Value} {A : Option Addr} {zs : List Int} (hq : q = w.heap.size) (hg : Chg (fun k => q ≤ k) W3 W4) (hB : W4.heap[q]? = some (.cells #[.int .i64 L, u] 28 (0, 0)))
    (hO : W4.ownsRow (q + 1) 3 1 (.slice A j c) j ((zs.take j).map (Value.int .i64))) (hR : RI W3 lo hi gr gf bs f t) (hC : Chg (fun k => k = gf) w W3) (hi' : hi ≤ q) (hgr : gr < q) :
    TabI (W4.setCell ⟨q, 1, none⟩ (.slice A j c)) q L j zs A c ∧ RI (W4.setCell ⟨q, 1, none⟩ (.slice A j c)) lo hi gr gf bs f t ∧ Chg (fun k => k = gf) w (W4.setCell ⟨q, 1, none⟩ (.slice A j c)) := by
  have hc5 : Chg (fun k => k = q) W4 (W4.setCell ⟨q, 1, none⟩ (.slice A j c)) := (Chg.refl (fun k => k = q) W4).setCell (p := ⟨q, 1, none⟩) (.inl rfl) _
  have hc6 : Chg (fun k => q ≤ k) W3 (W4.setCell ⟨q, 1, none⟩ (.slice A j c)) := hg.trans hc5 (fun b hb => .inl (Nat.le_of_eq hb.symm))
  exact ⟨⟨set_blk hB 1 _, own_chg hO hc5 (fun k hk => by have := (hO.lt k hk).1; omega)⟩, hR.chg hc6 (fun b hb => by omega), hC.trans hc6 (fun b hb => .inr (by omega))⟩

set_option maxHeartbeats 4000000 in
theorem dtable_ok (h : RI w lo hi gr gf bs 0 t) {L : Nat} {zs : List Int} (hT : okT (L : Int) zs) (hL : 1 ≤ L) (hp : AtP (leN bs) 0 t (descAll L zs)) :
    Calls Try.prog 27 #[.pointer (some ⟨gr, 0, none⟩), .int .i64 256, .int .i64 (L : Int)] w fun e w' =>
      ∃ v, e = .returned (.agg #[.int .i64 (L : Int), v]) ∧ w'.ownsRow w.heap.size 3 1 v zs.length (zs.map (Value.int .i64)) ∧ RI w' lo hi gr gf bs (bl (descAll L zs)) t ∧ Chg (fun k => k = gf) w w' := by
  obtain ⟨i0, hi0, hz0, hz1, hz2⟩ := info_parts info_int
  have hmf : ∀ (fn : Fn) (first cap : Array Value) (w : World), (Instr.makeFunc fn first cap).run Try.prog w = .ok (.func fn first cap) w := fun _ _ _ _ => rfl
  have hfar := h.ne
  have hig := h.rdr.hig
  have hgr : gr < w.heap.size := lt_of_heap h.blk
  have hL9 : L ≤ 9 := by have := hT.1; omega
  have hn256 := hT.2.1.2
  obtain ⟨q, hq⟩ : ∃ q, q = w.heap.size := ⟨_, rfl⟩
  obtain ⟨W0, hW0⟩ : ∃ W0, W0 = w.alloc (.cells #[.int .i64 0, .slice none 0 0] 28 (0, 0)) := ⟨_, rfl⟩
  have hc0 : Chg (fun k => k = gf) w W0 := by rw [hW0]; exact (Chg.refl _ w).alloc _
  have hr0 : RI W0 lo hi gr gf bs 0 t := by rw [hW0]; exact h.chg ((Chg.refl (fun _ => False) w).alloc _) (fun b hb => hb.elim)
  have g0 : W0.heap[q]? = some (.cells #[.int .i64 0, .slice none 0 0] 28 (0, 0)) := by rw [hW0, hq]; exact heap_alloc_new w _
  have hTK := dtake_ok hr0 hp (by omega) (by omega)
  rw [show (0 : Nat) + ((4 : Int)).toNat = 4 from rfl] at hTK
  have HAT := hide (hp.cons).2.2.1
  have HTK := hide hTK
  have HT := hide hT
  have HW0 := hide hW0
  have HC0 := hide hc0
  have HG0 := hide g0
  have HQ := hide hq
  have HIG : Hid (lo ≤ gf ∧ gf < hi ∧ hi ≤ q) := hide (by rw [hq]; exact hig)
  have HGR : Hid (gr < q ∧ hi ≤ gr) := hide ⟨by rw [hq]; exact hgr, h.far⟩
  have hgq : gf < q := by omega
  clear h hp hW0 hc0 hr0 g0 hTK hT hq hig hgr
  go_enter Try.func27, Try.ntmps27
  go_wp2_with fail
  rw [← HW0.out, ← HQ.out]
  refine HTK.out.mono ?_
  rintro e W1 ⟨rfl, hr1, hc1⟩
  have g1 := hc1.heap HG0.out (by omega)
  have HR1 := hide hr1
  have HC1 := hide (HC0.out.trans hc1 (fun b hb => .inl hb))
  have HG1 := hide g1
  have k10 := cell_blk g1 0
  have f10 := frozen_blk g1 0
  have hLw : IntKind.i64.wrap ((L : Int) - 1 + 1) = (L : Int) := by rw [IntWalk.i64_in _ (by omega)]; omega
  clear hr1 hc1 g1
  go_wp2_with fail
  obtain ⟨W2, hW2⟩ : ∃ W2, W2 = W1.setCell ⟨q, 0, none⟩ (.int .i64 (L : Int)) := ⟨_, rfl⟩
  have g2 : W2.heap[q]? = some (.cells #[.int .i64 (L : Int), .slice none 0 0] 28 (0, 0)) := by rw [hW2]; exact set_blk HG1.out 0 _
  have hc2 : Chg (fun k => k = q) W1 W2 := by rw [hW2]; exact (Chg.refl (fun k => k = q) W1).setCell (p := ⟨q, 0, none⟩) (.inl rfl) _
  have hr2 : RI W2 lo hi gr gf bs 4 t := HR1.out.chg hc2 (fun b hb => by have := HIG.out; have := HGR.out; omega)
  have hcw2 : Chg (fun k => k = gf) w W2 := HC1.out.trans hc2 (fun b hb => .inr (by rw [← HQ.out]; exact Nat.le_of_eq hb.symm))
  have HM2 := hide (dmust_ok (.pointer (some ⟨gf, 0, none⟩)) gr 13 W2 hr2.blk)
  have HW2 := hide hW2
  have HG2 := hide g2
  have HR2 := hide hr2
  have HC2 := hide hcw2
  have k20 : W2.cell? ⟨q, 0, none⟩ = some (.int .i64 (L : Int)) := (cell_blk g2 0).trans rfl
  have hmn : min (L : Int) 9 = (L : Int) := by omega
  rw [← hW2, hmn, show decide ((L : Int) ≤ (L : Int)) = true by simp]
  clear hW2 g2 hc2 hr2 hcw2 k10 f10
  refine HM2.out.mono ?_
  rintro e W2' ⟨rfl, rfl⟩
  have hpow : 2 ^ L ≤ 512 := (okT_VD HT.out).size
  obtain ⟨S, hS⟩ : ∃ S, S = 2 ^ L := ⟨_, rfl⟩
  have HSS := hide hS
  have hSi : ((2 : Int) ^ L) = (S : Int) := by rw [hS]; simp
  rw [← hS] at hpow
  have hSw : IntKind.i64.wrap ((2 : Int) ^ L) = (S : Int) := by rw [hSi, IntWalk.i64_in _ (by omega)]
  have HBA := hide (show bl (descAll L zs) = 4 + bl (descP zs 0 S) by rw [hS]; rfl)
  have HAT2 : Hid (AtP (leN bs) 4 t (descP zs 0 S)) := hide (by rw [hS]; exact HAT.out)
  clear hS hSi hmn HAT HR1 HG1 HC1
  go_wp2_with fail
  go_loopw [8, 9] (fun left ran wr => ∃ (j lf f' c : Nat) (A : Option Addr), left = .int .i64 lf ∧ (∃ b, ran = .bool b ∧ (b = true → zs[j]? ≠ some 0)) ∧ j ≤ zs.length ∧ TabI wr q (L : Int) j zs A c ∧ RI wr lo hi gr gf bs f' t ∧ Chg (fun k => k = gf) w wr ∧
      VD (zs.drop j) lf ∧ AtP (leN bs) f' t (descP (zs.drop j) 0 lf) ∧ f' + bl (descP (zs.drop j) 0 lf) = bl (descAll L zs)) (fun _ _ wr => 1000 - lenC q wr)
  case atStart => exact ⟨0, S, 4, 0, none, rfl, ⟨false, rfl, fun h => by cases h⟩, Nat.zero_le _, ⟨HG2.out, World.ownsRow_nil _ _ _ _⟩, HR2.out, HC2.out, by rw [HSS.out]; simpa using okT_VD HT.out, HAT2.out, HBA.out.symm⟩
  case round =>
    obtain ⟨j, lf, f', c, A, rfl, ⟨b, rfl, hran⟩, hjn, htab, hri, hc, hvd, hat, hbl⟩ := hrel
    have k30 : wr.cell? ⟨q, 0, none⟩ = some (.int .i64 (L : Int)) := (cell_blk htab.blk 0).trans rfl
    have k31 : wr.cell? ⟨q, 1, none⟩ = some (.slice A j c) := (cell_blk htab.blk 1).trans rfl
    by_cases hlf : 0 < lf
    · have hlf' : (0 : Int) < (lf : Int) := by omega
      have hne := hvd.ne hlf
      have hjl : j < zs.length := by
        rcases Nat.lt_or_ge j zs.length with h1 | h1
        · exact h1
        · exact absurd (List.drop_eq_nil_of_le h1) hne
      obtain ⟨z, hz⟩ : ∃ z, zs[j]? = some z := ⟨_, List.getElem?_eq_getElem hjl⟩
      have hcons : zs.drop j = z :: zs.drop (j + 1) := by
        rw [List.drop_eq_getElem_cons hjl]
        rw [List.getElem?_eq_getElem hjl] at hz
        injection hz with hz
        rw [hz]
      rw [hcons] at hvd hat hbl
      have hle := hvd.le
      have hsz := hvd.size
      have ha := absZ_nonneg z
      obtain ⟨m, hm⟩ : ∃ m, m = (z + 1).toNat := ⟨_, rfl⟩
      obtain ⟨v, hv⟩ : ∃ v, v = lf + 2 := ⟨_, rfl⟩
      have hd0 : descP (z :: zs.drop (j + 1)) 0 lf = numP m v ++ if z = 0 then runP (zrun (zs.drop (j + 1))) ++ descP (zs.drop (j + 1)) (zrun (zs.drop (j + 1))) lf else descP (zs.drop (j + 1)) 0 (lf - (absZ z).toNat) := by rw [hm, hv]; rfl
      rw [hd0] at hat hbl
      have HD := hide (drnum_ok hri (n := m) (v := v) (by omega) (by omega) hat)
      have hat1 := hat.append
      rw [bl_append] at hbl
      have HM := hide (dmust_ok (.pointer (some ⟨gf, 0, none⟩)) gr 13 wr hri.blk)
      have hj256 : (j : Int) < 256 := by omega
      have hw1 : IntKind.i64.wrap ((lf : Int) + 2) = (v : Int) := by rw [IntWalk.i64_in _ (by omega)]; omega
      have hw2 : IntKind.i64.wrap ((m : Int) - 1) = z := by rw [IntWalk.i64_in _ (by omega)]; omega
      obtain ⟨a, haa⟩ : ∃ a, a = (absZ z).toNat := ⟨_, rfl⟩
      have hmx : max z (-z) = (a : Int) := by rw [haa]; unfold absZ at ha ⊢; omega
      have hwn : IntKind.i64.wrap (-z) = -z := IntWalk.i64_in _ (by omega)
      obtain ⟨lf2, hlf2⟩ : ∃ lf2, lf2 = lf - a := ⟨_, rfl⟩
      have hwl : IntKind.i64.wrap ((lf : Int) - (a : Int)) = (lf2 : Int) := by rw [IntWalk.i64_in _ (by omega)]; omega
      have hmust : ∃ cz : Bool, (z != 0) = cz ∧ (cz = false → b = false) := ⟨_, rfl, fun hf => by
        have hz0 : z = 0 := by simpa using hf
        cases b with
        | false => rfl
        | true => exact absurd (by rw [hz, hz0]) (hran rfl)⟩
      obtain ⟨cz, hcz, hczb⟩ := hmust
      have HTAB := hide htab
      have HRI := hide hri
      have HC := hide hc
      have HVD := hide hvd
      have HAT1 := hide hat1
      have HBL := hide hbl
      have HZ := hide hz
      have HLF2 : Hid (lf2 = lf - (absZ z).toNat) := hide (by rw [hlf2, haa])
      have hmsmall : m ≤ 1000 := by omega
      clear hran htab hri hc hvd hat hat1 hbl hz hcons hd0 hlf2 haa ha hle hm hv hne hlf
      go_wp2_with fail
      refine HM.out.mono ?_
      rintro e w1 ⟨rfl, rfl⟩
      go_wp2_with fail
      refine HD.out.mono ?_
      rintro e W3 ⟨rfl, hr3, hc3⟩
      have HM3 := hide (dmust_ok (.pointer (some ⟨gf, 0, none⟩)) gr 13 W3 hr3.blk)
      have hb3 := hc3.heap HTAB.out.blk (by omega)
      have ho3 := own_chg HTAB.out.own hc3 (fun k hk => by have := (HTAB.out.own.lt k hk).1; omega)
      have k40 : W3.cell? ⟨q, 0, none⟩ = some (.int .i64 (L : Int)) := (cell_blk hb3 0).trans rfl
      have k41 : W3.cell? ⟨q, 1, none⟩ = some (.slice A j c) := (cell_blk hb3 1).trans rfl
      have HR3 := hide hr3
      have HB3 := hide hb3
      have HO3 := hide ho3
      have HC3 := hide (HC.out.trans hc3 (fun b hb => .inl hb))
      clear hr3 hc3 hb3 ho3 k30 k31
      cases cz with
      | false =>
        obtain rfl := hczb rfl
        have hz0 : z = 0 := by simpa using hcz
        subst hz0
        clear hcz hczb
        go_wp2_with fail
        refine HM3.out.mono ?_
        rintro e W3 ⟨rfl, rfl⟩
        go_wp2_with (at_builtin; refine wpList_append_any _ rfl (.tmp 57) (.tmp 59) _ rfl (q + 1) 3 i0 _ 1 8 Try.underlying24 hi0 hz0 hz1 hz2 rfl Nat.zero_lt_one (.slice A j c) j _ rfl (HO3.out.alloc _) (W3.heap.size + 1) (some ⟨W3.heap.size, 0, none⟩) 1 1 [.int .i64 0] rfl (reads_new W3 _ _) (by simp [Value.oneCell']) (by unfold maxLen; omega) (by omega) (by have := HC3.out.size; have := HQ.out; simp; omega) ?_; intro v4 W4 hown4 hg4 hat4; obtain ⟨A4, c4, rfl⟩ := own_form hown4; have hb4 := (hg4.block q (by simp; exact Nat.lt_succ_of_lt (lt_of_heap HB3.out)) (fun h => by have := (HO3.out.lt q h.symm).1; omega)).trans (alloc_far HB3.out (.cells #[.int .i64 0] 3 (0, 0))); have k50 : W4.cell? ⟨q, 0, none⟩ = some (.int .i64 (L : Int)) := (cell_blk hb4 0).trans rfl; have k51 : W4.cell? ⟨q, 1, none⟩ = some (.slice A j c) := (cell_blk hb4 1).trans rfl; have f51 : W4.frozen? ⟨q, 1, none⟩ = false := frozen_blk hb4 1; have HB4 := hide hb4; have HO4 := hide hown4; have HG4 := hide hg4; clear hb4 hown4 hg4 hat4)
        have hrow : (zs.take j).map (Value.int .i64) ++ [.int .i64 0] = (zs.take (j + 1)).map (Value.int .i64) := by rw [List.take_add_one, HZ.out]; simp
        have ho4 := HO4.out
        rw [hrow] at ho4
        have hg4 : Chg (fun k => q ≤ k) W3 W4 := ((Chg.refl (fun k => q ≤ k) W3).alloc _).grown HG4.out (fun k hk => .inl (by have := (HO3.out.lt k hk).1; omega))
        obtain ⟨hT5, hR5, hC5⟩ := TabI.put HQ.out hg4 HB4.out ho4 HR3.out HC3.out HIG.out.2.2 HGR.out.1
        obtain ⟨hV, hRl⟩ := HVD.out.run
        have hA := HAT1.out
        have hBl := HBL.out
        simp only [if_true] at hA hBl
        have hlf2 : lf2 = lf := by rw [HLF2.out]; rfl
        try rw [hlf2]
        have hrest := zrun_take (zs.drop (j + 1))
        have hstop := zrun_stop (zs.drop (j + 1))
        rw [List.length_drop] at hRl
        obtain ⟨J, hJ⟩ : ∃ J, J = j + 1 := ⟨_, rfl⟩
        rw [← hJ] at hT5 hR5 hC5 hV hRl hA hBl hrest hstop ⊢
        obtain ⟨R, hR⟩ : ∃ R, R = zrun (zs.drop J) := ⟨_, rfl⟩
        rw [← hR] at hV hRl hA hBl hrest hstop
        obtain ⟨W5, hW5⟩ : ∃ W5, W5 = W4.setCell ⟨q, 1, none⟩ (.slice A4 J c4) := ⟨_, rfl⟩
        rw [← hW5] at hT5 hR5 hC5 ⊢
        have hqs : q < W5.heap.size := lt_of_heap hT5.blk
        have HNT := hide (fun (W' : World) (hW' : ∃ k, W' = W5.drewN k) => (show Calls Try.prog 50 #[.pointer (some ⟨gr, 0, none⟩), .int .i64 (256 - (J : Int)), .func (Fn.func 47) #[.pointer (some ⟨gr, 0, none⟩)] #[]] W' fun e w6 =>
            ∃ A6 c6, e = .returned (.slice A6 R c6) ∧ w6.ownsRow (q + 1) 3 1 (.slice A6 R c6) R (List.replicate R (.int .i64 0)) ∧ w6.ownsRow (q + 1) 3 1 (.slice A4 J c4) J ((zs.take J).map (Value.int .i64)) ∧ RI w6 lo hi gr gf bs (f' + bl (numP m v) + bl (runP R)) t ∧ Chg (fun k => k = gf) w w6 ∧ w6.heap[q]? = some (.cells #[.int .i64 (L : Int), .slice A4 J c4] 28 (0, 0)) from by
          obtain ⟨k, rfl⟩ := hW'
          have hd : Chg (fun _ => False) W5 (W5.drewN k) := (Chg.refl _ W5).drewN k
          refine (dnoughts_ok (hR5.chg hd (fun b hb => hb.elim)) (256 - (J : Int)) (by omega) (by omega) hA).mono ?_
          rintro e w6 ⟨v6, rfl, ho6, hr6, hc6⟩
          obtain ⟨A6, c6, rfl⟩ := own_form ho6
          have hc6' : Chg (fun k => k = gf) W5 w6 := ((Chg.refl (fun k => k = gf) W5).drewN k).trans hc6 (fun b hb => .inl hb)
          exact ⟨A6, c6, rfl, own_base ho6 (fun b hb => by have := (ho6.lt b hb).1; exact Nat.le_trans hqs this), own_chg hT5.own hc6' (fun k hk => by have := (hT5.own.lt k hk).1; omega), hr6, hC5.trans hc6' (fun b hb => .inl hb), hc6'.heap hT5.blk (by omega)⟩))
        have HT5 := hide hT5
        have HV := hide hV
        have HA := hide hA
        have HBl := hide hBl
        have HRest := hide hrest
        have HSTOP := hide hstop
        have HRL := hide hRl
        have HJ := hide hJ
        have hwroom : IntKind.i64.wrap (256 - (J : Int)) = 256 - (J : Int) := IntWalk.i64_in _ (by omega)
        have kq : W5.cell? ⟨q, 1, none⟩ = some (.slice A4 J c4) := (cell_blk hT5.blk 1).trans rfl
        clear hrow ho4 hg4 hT5 hR5 hC5 hV hA hBl hlf2 hrest hstop hRl hR hW5 k50 k51 f51 hJ hqs
        have hun := Try.underlying24
        have HUN := hide hun
        have HON := hide (show ∀ u ∈ List.replicate R (Value.int .i64 0), u.oneCell' = true from fun u hu => by rw [List.eq_of_mem_replicate hu]; rfl)
        have HL1 := hide (show J + R ≤ maxLen by have := HRL.out; have := HJ.out; unfold maxLen; omega)
        have HL2 := hide (show (J + R) * 8 ≤ 140737488355328 by have := HRL.out; have := HJ.out; omega)
        have HLQ := hide (fun (W : World) (h : W.heap[q]? = some (.cells #[.int .i64 (L : Int), .slice A4 J c4] 28 (0, 0))) => (lt_of_heap h : q + 1 ≤ W.heap.size))
        clear hun
        go_region_law (first
          | (go_simp; go_at_call 50; refine (HNT.out _ ?_).mono ?_; (first | exact ⟨0, rfl⟩ | exact ⟨1, rfl⟩ | exact ⟨2, rfl⟩); rintro e w6 ⟨A6, c6, rfl, ho6, ho5, hr6, hc6, hb6⟩; have k61 : w6.cell? ⟨q, 1, none⟩ = some (.slice A4 J c4) := (cell_blk hb6 1).trans rfl; have HO6 := hide ho6; have HO5 := hide ho5; have HR6 := hide hr6; have HC6 := hide hc6; have HB6 := hide hb6; clear ho6 ho5 hr6 hc6 hb6)
          | (refine step_append_any _ (by rfl) (.tmp 72) (.tmp 80) _ (by rfl) (q + 1) 3 i0 _ 1 8 HUN.out hi0 hz0 hz1 hz2 rfl Nat.zero_lt_one (.slice A4 J c4) J _ (by rfl) HO5.out w6.heap.size A6 R c6 _ (by rfl) (Reads.of_own HO6.out) HON.out HL1.out HL2.out (HLQ.out _ HB6.out) ?_; intro v7 W7 hown7 hg7 hat7; obtain ⟨A7, c7, rfl⟩ := own_form hown7; have hb7 := (hg7.block q (lt_of_heap HB6.out) (fun h => by have := (HO5.out.lt q h.symm).1; omega)).trans HB6.out; have k71 : W7.cell? ⟨q, 1, none⟩ = some (.slice A4 J c4) := (cell_blk hb7 1).trans rfl; have f71 : W7.frozen? ⟨q, 1, none⟩ = false := frozen_blk hb7 1; have HB7 := hide hb7; have HO7 := hide hown7; have HG7 := hide hg7; clear hb7 hown7 hg7 hat7))
        all_goals
          have hrow : (zs.take J).map (Value.int .i64) ++ List.replicate R (Value.int .i64 0) = (zs.take (J + R)).map (Value.int .i64) := by rw [List.take_add, HRest.out, List.map_append, List.map_replicate]
          have ho7 := HO7.out
          rw [hrow] at ho7
          have hg7 : Chg (fun k => q ≤ k) w6 W7 := (Chg.refl (fun k => q ≤ k) w6).grown HG7.out (fun k hk => .inl (by have := (HO5.out.lt k hk).1; omega))
          obtain ⟨hT8, hR8, hC8⟩ := TabI.put HQ.out hg7 HB7.out ho7 HR6.out HC6.out HIG.out.2.2 HGR.out.1
          have hA8 := HA.out.append
          have hB8 := HBl.out
          have hV8 := HV.out
          rw [bl_append] at hB8
          rw [descP_drop, List.drop_drop] at hA8 hB8
          rw [List.drop_drop] at hV8
          have hs8 := HSTOP.out
          rw [List.getElem?_drop] at hs8
          clear hrow ho7 hg7
          have HT8 := hide hT8
          have HR8 := hide hR8
          have HC8 := hide hC8
          have HA8 := hide hA8
          have HB8 := hide hB8
          have HV8 := hide hV8
          have HS8 := hide hs8
          clear hT8 hR8 hC8 hA8 hB8 hV8 hs8
          go_wp2
          go_roundw
          case rel => exact ⟨J + R, lf, f' + bl (numP m v) + bl (runP R), c7, A7, rfl, ⟨true, rfl, fun _ => HS8.out⟩, by have := HRL.out; omega, HT8.out, HR8.out, HC8.out, HV8.out, HA8.out, by rw [← HB8.out]; omega⟩
          case measure => rw [lenC_of HT8.out.blk, lenC_of HTAB.out.blk]; have := HJ.out; have := HRL.out; omega
      | true =>
        go_wp2_with fail
        refine HM3.out.mono ?_
        rintro e W3 ⟨rfl, rfl⟩
        go_wp2_with (at_builtin; refine wpList_append_any _ rfl (.tmp 57) (.tmp 59) _ rfl (q + 1) 3 i0 _ 1 8 Try.underlying24 hi0 hz0 hz1 hz2 rfl Nat.zero_lt_one (.slice A j c) j _ rfl (HO3.out.alloc _) (W3.heap.size + 1) (some ⟨W3.heap.size, 0, none⟩) 1 1 [.int .i64 z] rfl (reads_new W3 _ _) (by simp [Value.oneCell']) (by unfold maxLen; omega) (by omega) (by have := HC3.out.size; have := HQ.out; simp; omega) ?_; intro v4 W4 hown4 hg4 hat4; obtain ⟨A4, c4, rfl⟩ := own_form hown4; have hb4 := (hg4.block q (by simp; exact Nat.lt_succ_of_lt (lt_of_heap HB3.out)) (fun h => by have := (HO3.out.lt q h.symm).1; omega)).trans (alloc_far HB3.out (.cells #[.int .i64 z] 3 (0, 0))); have k50 : W4.cell? ⟨q, 0, none⟩ = some (.int .i64 (L : Int)) := (cell_blk hb4 0).trans rfl; have k51 : W4.cell? ⟨q, 1, none⟩ = some (.slice A j c) := (cell_blk hb4 1).trans rfl; have f51 : W4.frozen? ⟨q, 1, none⟩ = false := frozen_blk hb4 1; have HB4 := hide hb4; have HO4 := hide hown4; have HG4 := hide hg4; clear hb4 hown4 hg4 hat4)
        have hz0 : z ≠ 0 := by simpa using hcz
        have hrow : (zs.take j).map (Value.int .i64) ++ [.int .i64 z] = (zs.take (j + 1)).map (Value.int .i64) := by rw [List.take_add_one, HZ.out]; simp
        have ho4 := HO4.out
        rw [hrow] at ho4
        have hg4 : Chg (fun k => q ≤ k) W3 W4 := ((Chg.refl (fun k => q ≤ k) W3).alloc _).grown HG4.out (fun k hk => .inl (by have := (HO3.out.lt k hk).1; omega))
        obtain ⟨hT5, hR5, hC5⟩ := TabI.put HQ.out hg4 HB4.out ho4 HR3.out HC3.out HIG.out.2.2 HGR.out.1
        have hV := HVD.out.next
        have hA := HAT1.out
        have hBl := HBL.out
        rw [if_neg hz0, ← HLF2.out] at hA hBl
        rw [← HLF2.out] at hV
        go_roundw
        case rel => exact ⟨j + 1, lf2, f' + bl (numP m v), c4, A4, rfl, ⟨z == 0, rfl, fun h => absurd (by simpa using h) hz0⟩, by omega, hT5, hR5, hC5, hV, hA, by rw [Nat.add_assoc]; exact hBl⟩
        case measure => rw [lenC_of hT5.blk, lenC_of HTAB.out.blk]; omega
    · obtain rfl : lf = 0 := by omega
      have hnil := hvd.nil rfl
      have hj : j = zs.length := by
        have := List.length_drop (i := j) (l := zs)
        rw [hnil] at this
        simp at this
        omega
      subst hj
      have hb0 : bl (descP (zs.drop zs.length) 0 0) = 0 := by rw [hnil]; rfl
      have HTAB := hide htab
      have f30 : wr.frozen? ⟨q, 0, none⟩ = false := frozen_blk htab.blk 0
      have f31 : wr.frozen? ⟨q, 1, none⟩ = false := frozen_blk htab.blk 1
      have HRI : Hid (RI wr lo hi gr gf bs (bl (descAll L zs)) t) := hide (by rw [← hbl, hb0]; exact hri)
      have HC := hide hc
      clear hran htab hri hc hvd hat hbl hnil hb0
      go_wp2_with fail
      have g9 : ((wr.setCell ⟨q, 0, none⟩ (.int .i64 (L : Int))).setCell ⟨q, 1, none⟩ (.slice A zs.length c)).heap[q]? = some (.cells #[.int .i64 (L : Int), .slice A zs.length c] 28 (0, 0)) := set_blk (set_blk HTAB.out.blk 0 (.int .i64 (L : Int))) 1 (.slice A zs.length c)
      have hc9 : Chg (fun k => k = q) wr ((wr.setCell ⟨q, 0, none⟩ (.int .i64 (L : Int))).setCell ⟨q, 1, none⟩ (.slice A zs.length c)) := ((Chg.refl (fun k => k = q) wr).setCell (p := ⟨q, 0, none⟩) (.inl rfl) _).setCell (p := ⟨q, 1, none⟩) (.inl rfl) _
      have c0 := cell_blk g9 0
      have c1 := cell_blk g9 1
      have ho9 := own_chg HTAB.out.own hc9 (fun k hk => by have := (HTAB.out.own.lt k hk).1; omega)
      rw [List.take_length] at ho9
      refine bodyPost_ret (v := .agg #[.int .i64 (L : Int), .slice A zs.length c]) ?_ rfl ⟨_, rfl, own_base ho9 (fun k hk => by have := (ho9.lt k hk).1; have := HQ.out; omega), HRI.out.chg hc9 (fun b hb => by have := HIG.out; have := HGR.out; omega), HC.out.trans hc9 (fun b hb => .inr (by have := HQ.out; omega))⟩
      clear g9 hc9 ho9
      generalize (wr.setCell ⟨q, 0, none⟩ (.int .i64 (L : Int))).setCell ⟨q, 1, none⟩ (.slice A zs.length c) = W9 at *
      simp only [results, Try.results27, go_sem]
      simp [c0, c1, go_sem]
end
end

end Go.Proofs.Ytohgnohifojdbaa
