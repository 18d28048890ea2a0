/- What came in, read as lines. -/
import Derived.Test.YtfgbplbohekghaaLine
import Derived.Test.YtfgbplbohekghaaRowX
import Derived.ProofKit
import Derived.Deep.SlicePairs
set_option linter.unusedVariables false
namespace Go.Wl
open Go.RowKit Go.ChangeShapes Go.WideShapes Go.ChangeAt
theorem list_of {α : Type} {Q : Nat → α → Prop} : ∀ (n : Nat), (∀ i, i < n → ∃ x, Q i x) → ∃ l : List α, l.length = n ∧ ∀ i x, l[i]? = some x → Q i x
  | 0, _ => ⟨[], rfl, fun i x h => by simp at h⟩
  | n + 1, h => by
    obtain ⟨l, hl, hq⟩ := list_of n fun i hi => h i (by omega)
    obtain ⟨x, hx⟩ := h n (by omega)
    refine ⟨l ++ [x], by simp [hl], fun i y hy => ?_⟩
    by_cases hi : i < l.length
    · rw [List.getElem?_append_left hi] at hy
      exact hq i y hy
    · have hlt := (List.getElem?_eq_some_iff.1 hy).1
      simp at hlt
      obtain rfl : i = l.length := by omega
      simp at hy
      subst hy
      rw [hl]; exact hx
section
variable {H : Type} {enc : TypeId × Value → H} {P : Program} {w : World} {base : Nat} {spare : Nat → Bool} {held : Bool}
theorem open_intsV {t e : TypeId} {fuel : Nat} {v : Value} {x : DataW H × List MemPlace} (ht : P.underlying t = some (.slice e)) (he : P.underlying e = some (.int .i64)) (hc : P.cellsOf e = 1) (h : DataW.trod enc P w base spare held fuel t [v] = some x) :
    ∃ A xs c, v = .slice A xs.length c ∧ xs.length ≤ c ∧ c ≤ maxLen ∧ Row rInt (fun _ => True) w A xs := by
  rcases Go.ChangeShapes.open_ints ht he hc h with ⟨e1, _⟩ | ⟨a, len, cap, zs, e1, _, hl, hm, hz, _, hcell, _⟩
  · cases e1; exact ⟨none, [], 0, rfl, Nat.le_refl _, Nat.zero_le _, Row.nil _ _ _ _⟩
  · cases e1
    have hzl : len ≤ zs.length := by rw [hz]; split <;> omega
    have hlen : (zs.take len).length = len := by rw [List.length_take]; omega
    refine ⟨some a, zs.take len, cap, by rw [hlen], by omega, hm, ⟨by rw [hlen]; simp only [maxLen] at hm; omega, fun _ => ⟨a, rfl, trivial, fun i y hy => ⟨_, rfl, fun j u hu => ?_⟩⟩⟩⟩
    cases j with
    | zero =>
      cases hu
      have hi : i < len := by
        have := (List.getElem?_eq_some_iff.1 hy).1
        omega
      have h1 := hcell i (by omega)
      rw [List.getElem?_take_of_lt hi] at hy
      rw [add_zero', show i * rInt.sz = i from Nat.mul_one i, h1]
      simp [List.getD, hy]
    | succ j => cases hu
theorem open_lines {t e it : TypeId} {f0 f1 : Field} {fuel : Nat} {v : Value} {x : DataW H × List MemPlace} (ht : P.underlying t = some (.slice e)) (he : P.underlying e = some (.struct #[f0, f1])) (ce : P.cellsOf e = 2) (o0 : f0.offset = 0) (o1 : f1.offset = 1) (c0 : P.cellsOf f0.type = 1) (c1 : P.cellsOf f1.type = 1)
    (hs : P.underlying f0.type = some .string) (hi : P.underlying f1.type = some (.slice it)) (hit : P.underlying it = some (.int .i64)) (cit : P.cellsOf it = 1) (h : DataW.trod enc P w base spare held fuel t [v] = some x) :
    ∃ A l c, v = .slice A l.length c ∧ l.length ≤ c ∧ Row rLine (fun _ => True) w A l := by
  rcases Go.Deep.open_slice_pairs ht he ce o0 o1 c0 c1 h with ⟨e1, _⟩ | ⟨a, len, cap, m, n, V0, V1, D0, D1, P0, P1, e1, _, hl, hm, hmm, _, hx⟩
  · cases e1; exact ⟨none, [], 0, rfl, Nat.le_refl _, Row.nil _ _ _ _⟩
  · cases e1
    have hlm : len ≤ m := by rw [hmm]; split <;> omega
    obtain ⟨l, hll, hq⟩ := list_of (Q := fun i (x : Line) => rLine.R (fun _ => True) w x [V0 i, V1 i] ∧ At w (a.add (i * 2)) [V0 i, V1 i]) len fun i hilt => by
      obtain ⟨h0, h1, t0, t1⟩ := hx i (by omega)
      obtain ⟨s, e0, _⟩ := DataW.trod_string hs t0
      obtain ⟨A, xs, c, e2, hc, _, hrow⟩ := open_intsV hi hit cit t1
      simp at e0
      refine ⟨⟨s, xs⟩, by rw [e0, e2]; exact rLine_mk (x := ⟨s, xs⟩) hc hrow, fun j u hu => ?_⟩
      match j, hu with
      | 0, hu => cases hu; rw [add_zero']; exact h0
      | 1, hu => cases hu; rw [add_add]; exact h1
    refine ⟨some a, l, cap, by rw [hll], by omega, ⟨by simp only [maxLen] at hm; omega, fun _ => ⟨a, rfl, trivial, fun i y hy => ⟨_, (hq i y hy).1, (hq i y hy).2⟩⟩⟩⟩
end
end Go.Wl
