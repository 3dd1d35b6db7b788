/- The spread, index by index, as the reference assigns it. No program in sight. -/
import Derived.Test.YtohgnohifojdbaaCe7
namespace Go.Proofs.Ytohgnohifojdbaa
set_option maxRecDepth 8000
open Go.RowKit Go
set_option linter.unusedVariables false

def vis0 (s c : Nat) : Nat := c * stepN s % s
theorem visits_eq (s : Nat) : visits s = (List.range s).map (vis0 s) := rfl
theorem visits_get {s c : Nat} (h : c < s) : (visits s)[c]? = some (vis0 s c) := by rw [visits_eq, List.getElem?_map, List.getElem?_range h]; rfl
theorem vis0_lt {s : Nat} (hs : 0 < s) (c : Nat) : vis0 s c < s := Nat.mod_lt _ hs
theorem vis0_succ (s c : Nat) : vis0 s (c + 1) = (vis0 s c + stepN s) % s := by
  unfold vis0
  rw [Nat.mod_add_mod, Nat.succ_mul]

/-- The symbols from index i on. -/
def oFrom (zs : List Int) (n i : Nat) : List Nat := (List.range' i (n - i)).flatMap fun i => List.replicate (normAt zs i).toNat i
theorem oFrom_zero (zs : List Int) (n : Nat) : oFrom zs n 0 = othersTo zs n := by unfold oFrom othersTo; rw [Nat.sub_zero, List.range_eq_range']
theorem oFrom_step (zs : List Int) {n i : Nat} (h : i < n) : oFrom zs n i = List.replicate (normAt zs i).toNat i ++ oFrom zs n (i + 1) := by
  unfold oFrom
  rw [show n - i = (n - (i + 1)) + 1 by omega, List.range'_succ, List.flatMap_cons]
theorem oFrom_end (zs : List Int) (n : Nat) : oFrom zs n n = [] := by unfold oFrom; rw [Nat.sub_self]; rfl

structure OfInv (s : Nat) (zs : List Int) (c : Nat) (f : Int → Option Int) (os : List Nat) : Prop where
  lt : c < s
  fil : fill (start s zs) ((visits s).take (c + 1)) = fillStep (f, os) (vis0 s c)
  did : ∀ j, j < c → f (vis0 s j : Int) ≠ none
  free : os.length = freeC s f
  vals : ∀ j u, f j = some u → ∃ v : Nat, u = (v : Int)

section
variable {l : Nat} {zs : List Int}
theorem OfInv.init (hT : okT (l : Int) zs) : OfInv (2 ^ l) zs 0 (rmap (2 ^ l) (rareTo zs zs.length)) (oFrom zs zs.length 0) := by
  have hp : 0 < 2 ^ l := Nat.pow_pos (by omega)
  refine ⟨hp, ?_, fun j h => absurd h (by omega), ?_, ?_⟩
  · rw [List.take_add_one, visits_get hp, oFrom_zero]
    rfl
  · rw [oFrom_zero]; exact start_free hT
  · intro j u hj
    unfold rmap at hj
    split at hj
    · obtain ⟨y, hy, rfl⟩ := Option.map_eq_some_iff.1 hj
      exact ⟨y, rfl⟩
    · cases hj
theorem fillStep_full {f : Int → Option Int} {os : List Nat} {x : Nat} (h : f (x : Int) ≠ none) : fillStep (f, os) x = (f, os) := by
  unfold fillStep
  cases hf : f (x : Int) with
  | none => exact absurd hf h
  | some v => simp only [hf]
theorem fillStep_put {f : Int → Option Int} {o : Nat} {r : List Nat} {x : Nat} (h : f (x : Int) = none) : fillStep (f, o :: r) x = (upd f (x : Int) (o : Int), r) := by
  unfold fillStep
  simp only [h]
theorem fillStep_nil {f : Int → Option Int} {x : Nat} : fillStep (f, []) x = (f, []) := by
  unfold fillStep
  cases hf : f (x : Int) with
  | none => simp only [hf]
  | some v => simp only [hf]
theorem fill_nil {f : Int → Option Int} (ys : List Nat) : fill (f, []) ys = (f, []) := by
  induction ys with
  | nil => rfl
  | cons y ys ih => show fill (fillStep (f, []) y) ys = _; rw [fillStep_nil, ih]
theorem OfInv.skip (hl : l ≤ 9) {c : Nat} {f : Int → Option Int} {os : List Nat} (h : OfInv (2 ^ l) zs c f os) (hf : f (vis0 (2 ^ l) c : Int) ≠ none) (ho : os ≠ []) : OfInv (2 ^ l) zs (c + 1) f os := by
  have hd : ∀ j, j < c + 1 → f (vis0 (2 ^ l) j : Int) ≠ none := fun j hj => by
    rcases Nat.lt_or_ge j c with h1 | h1
    · exact h.did j h1
    · obtain rfl : j = c := by omega
      exact hf
  have hlt : c + 1 < 2 ^ l := by
    rcases Nat.lt_or_ge (c + 1) (2 ^ l) with h1 | h1
    · exact h1
    · exfalso
      have hc := h.lt
      have h0 : freeC (2 ^ l) f = 0 := by
        unfold freeC
        rw [List.length_eq_zero_iff, List.filter_eq_nil_iff]
        intro i hi
        have hm := visits_all hl (x := i) (by simpa using hi)
        rw [visits_eq] at hm
        obtain ⟨j, hj, rfl⟩ := List.mem_map.1 hm
        have := hd j (by have : j < 2 ^ l := by simpa using hj
                         omega)
        cases hx : f (vis0 (2 ^ l) j : Int) with
        | none => exact absurd hx this
        | some v => simp
      have := h.free
      rw [h0] at this
      exact ho (List.eq_nil_of_length_eq_zero this)
  refine ⟨hlt, ?_, hd, h.free, h.vals⟩
  rw [List.take_add_one, visits_get hlt]
  show fill _ (_ ++ [_]) = _
  rw [fill_snoc, h.fil, fillStep_full hf]
theorem OfInv.put {c : Nat} {f : Int → Option Int} {o : Nat} {r : List Nat} (h : OfInv (2 ^ l) zs c f (o :: r)) (hf : f (vis0 (2 ^ l) c : Int) = none) : OfInv (2 ^ l) zs c (upd f (vis0 (2 ^ l) c : Int) (o : Int)) r := by
  have hs : upd f (vis0 (2 ^ l) c : Int) (o : Int) (vis0 (2 ^ l) c : Int) ≠ none := by unfold upd; rw [if_pos rfl]; simp
  refine ⟨h.lt, ?_, ?_, ?_, ?_⟩
  · rw [h.fil, fillStep_full hs, fillStep_put hf]
  · intro j hj
    have h1 := h.did j hj
    unfold upd
    split
    · simp
    · exact h1
  · have h1 := fillStep_free (st := (f, o :: r)) h.free (vis0_lt (by have := h.lt; omega) c)
    rw [fillStep_put hf] at h1
    exact h1
  · intro j u hj
    unfold upd at hj
    split at hj
    · injection hj with hj
      exact ⟨o, hj.symm⟩
    · exact h.vals j u hj
theorem OfInv.fin {c : Nat} {f : Int → Option Int} (h : OfInv (2 ^ l) zs c f []) : spreadF (2 ^ l) zs = f := by
  have h1 := h.fil
  rw [fillStep_nil] at h1
  unfold spreadF
  rw [← List.take_append_drop (c + 1) (visits (2 ^ l))]
  unfold fill at h1 ⊢
  rw [List.foldl_append, h1]
  exact congrArg Prod.fst (fill_nil _)
end

/-- The array: the symbol, or -1 where there is none yet. -/
def outZ (s : Nat) (f : Int → Option Int) : List Int := (List.range s).map fun i : Nat => (f (i : Int)).getD (-1)
theorem outZ_length (s : Nat) (f : Int → Option Int) : (outZ s f).length = s := by simp [outZ]
theorem outZ_get {s : Nat} (f : Int → Option Int) {i : Nat} (h : i < s) : (outZ s f)[i]? = some ((f (i : Int)).getD (-1)) := by simp [outZ, h]
theorem outZ_none (s : Nat) : outZ s (fun _ => none) = List.replicate s (-1) := by
  apply List.ext_getElem?
  intro i
  rcases Nat.lt_or_ge i s with h | h
  · rw [outZ_get _ h]; simp [h]
  · rw [List.getElem?_eq_none (by rw [outZ_length]; exact h), List.getElem?_eq_none (by simpa using h)]
theorem outZ_set {s : Nat} (f : Int → Option Int) {i : Nat} (o : Int) : (outZ s f).set i o = outZ s (upd f (i : Int) o) := by
  apply List.ext_getElem?
  intro j
  rcases Nat.lt_or_ge j s with h | h
  · rw [List.getElem?_set, outZ_get (upd f (i : Int) o) h]
    by_cases hij : i = j
    · subst hij
      rw [if_pos rfl, if_pos (by rw [outZ_length]; exact h)]
      simp [upd]
    · rw [if_neg hij, outZ_get f h]
      unfold upd
      rw [if_neg (by omega)]
  · rw [List.getElem?_eq_none (by rw [List.length_set, outZ_length]; exact h), List.getElem?_eq_none (by rw [outZ_length]; exact h)]
theorem outZ_fin {l : Nat} {zs : List Int} (hT : okT (l : Int) zs) : outZ (2 ^ l) (spreadF (2 ^ l) zs) = spreadL (2 ^ l) zs := by
  unfold outZ spreadL
  refine List.map_congr_left fun i hi => ?_
  obtain ⟨v, _, hv⟩ := spread_some hT (x := i) (by simpa using hi)
  rw [hv]
  rfl
/-- Where a visit stands in their order. -/
theorem vis0_inv {l : Nat} (hl : l ≤ 9) : ∃ i : Nat, ∀ c, c < 2 ^ l → vis0 (2 ^ l) c * i % 2 ^ l = c := by
  obtain ⟨⟨i, _⟩, hi⟩ := step_inv ⟨l, by omega⟩
  simp only at hi
  refine ⟨i, fun c hc => ?_⟩
  unfold vis0
  rw [Nat.mod_mul_mod, Nat.mul_assoc, Nat.mul_comm (stepN _) i, ← Nat.mul_mod_mod, hi, Nat.mul_mod_mod, Nat.mul_one, Nat.mod_eq_of_lt hc]
end Go.Proofs.Ytohgnohifojdbaa
