/- audit.Less. -/
import Derived.Test.YtfgbplbohekghaaCode
import Derived.Test.YtfgbplbohekghaaTy
import Derived.Test.YtfgbplbohekghaaRowX
import Derived.Test.YtfgbplbohekghaaLine
import Derived.Test.YtfgbplbohekghaaPrefix
import Derived.Test.YtfgbplbohekghaaCount
set_option linter.unusedVariables false
set_option maxRecDepth 2000
namespace Go.Proofs.Ytfgbplbohekghaa
open Go.Wl Go.RowKit

theorem countL_bound (l : List Line) (n : Nat) (h : ∀ x ∈ l, x.nums.length ≤ n) : countL l ≤ l.length * n := by
  unfold countL
  induction l with
  | nil => simp
  | cons x l ih =>
    have h1 := ih fun y hy => h y (by simp [hy])
    have h2 := h x (by simp)
    simp only [List.map_cons, List.sum_cons, List.length_cons, Nat.add_mul, Nat.one_mul]
    omega
theorem Good.nums {l : List Line} (h : Good l) : ∀ x ∈ l, x.nums.length ≤ 400 := fun x hx => by
  obtain ⟨i, hi, rfl⟩ := List.getElem_of_mem hx
  exact (h.2 i hi).1
theorem Good.count {l : List Line} (h : Good l) : countL l ≤ 160000 := by
  have h1 := countL_bound l 400 h.nums
  have h2 := h.1
  have : l.length * 400 ≤ 400 * 400 := Nat.mul_le_mul_right _ h2
  omega
theorem audit_Less_calls {ok ok' : Nat → Prop} (A B : Option Addr) (c c' : Nat) (a b : List Line) (w : World) (ha : Row rLine ok w A a) (hb : Row rLine ok' w B b) : Calls Try.prog 4 #[.slice A a.length c, .slice B b.length c'] w fun e w' => ∃ (r : Int) (v : Value), e = .returned (.tuple #[.int .i64 r, v]) ∧ isIf v = true ∧ (nilB v = true ↔ (Good a ∧ Good b) ∧ ∀ i (h : i < b.length), preAt b[i] a) ∧ (nilB v = true → r = (countL a : Int) - countL b) ∧ Below w.heap.size w w' := by
  refine enter F4 rfl rfl ?_
  refine WC.seq ?_
  refine WC.region ?_
  refine WL.pure rfl ?_
  refine WL.pure rfl ?_
  refine WL.nil ?_
  refine WC.seq ?_
  refine WC.seq ?_
  refine WC.region ?_
  refine WL.pure rfl ?_
  refine WL.pure rfl ?_
  refine WL.call GOk.no F9 rfl (audit_both_calls A B c c' a b w ha hb) ?_
  rintro e w1 ⟨v, rfl, hv, hn, hB1⟩; refine ⟨_, rfl, ?_⟩
  have hW1 : Below w.heap.size w w1 := B2 (Below.refl _ _) hB1
  refine WL.pure rfl ?_
  refine WL.nil ?_
  refine WC.seq ?_
  refine WC.region ?_
  refine WL.pure rfl ?_
  refine WL.neNil GOk.no Try.underlying24 rfl hv ?_
  refine WL.nil ?_
  refine WC.cond rfl (fun hc11 => ?_) (fun hc11 => ?_)
  have hnv : nilB v = false := by
    have h9 : (!nilB v) = true := hc11
    cases hx : nilB v <;> simp [hx] at h9 ⊢
  · -- t11 = true
    refine WC.seq ?_
    refine WC.region ?_
    refine WL.pure rfl ?_
    refine WL.pure rfl ?_
    refine WL.pure rfl ?_
    refine WL.nil ?_
    refine WC.retn (Ret2 rfl rfl ⟨_, _, rfl,  hv, ⟨fun h => (by rw [show nilB v = true from h] at hnv; cases hnv), fun h => (by have := hn.2 h.1; rw [hnv] at this; cases this)⟩, fun h => (by rw [show nilB v = true from h] at hnv; cases hnv), hW1⟩)
  · -- t11 = false
    have hnv : nilB v = true := by
      have h9 : (!nilB v) = false := hc11
      cases hx : nilB v <;> simp [hx] at h9 ⊢
    have hgood := hn.1 hnv
    refine WC.skip ?_
    refine WC.seq ?_
    refine WC.seq ?_
    refine WC.region ?_
    refine WL.pure rfl ?_
    refine WL.pure rfl ?_
    refine WL.call GOk.no F10 rfl (den_Prefix_calls B A c' c b a w1 (Brow (by decide) hW1 hb) (Brow (by decide) hW1 ha)) ?_
    rintro e w2 ⟨bo, rfl, hbo, hB2⟩; refine ⟨_, rfl, ?_⟩
    have hW2 : Below w.heap.size w w2 := B2 hW1 hB2
    refine WL.pure rfl ?_
    refine WL.nil ?_
    refine WC.cond rfl (fun hc16 => ?_) (fun hc16 => ?_)
    · -- t16 = true
      refine WC.seq ?_
      refine WC.region ?_
      refine WL.mkIface GOk.no Try.underlying38 rfl rfl ?_
      refine WL.pure rfl ?_
      refine WL.pure rfl ?_
      refine WL.nil ?_
      refine WC.retn (Ret2 rfl rfl ⟨_, _, rfl,  rfl, ⟨fun h => (by cases h), fun h => (by have := hbo.2 h.2; subst this; cases hc16)⟩, fun h => (by cases h), hW2⟩)
    · -- t16 = false
      refine WC.skip ?_
      refine WC.seq ?_
      refine WC.region ?_
      refine WL.pure rfl ?_
      refine WL.call GOk.no F11 rfl (count_calls A c a w2 (Brow (by decide) hW2 ha) (Nat.le_trans hgood.1.count (by omega))) ?_
      rintro e w3 ⟨rfl, hB3⟩; refine ⟨_, rfl, ?_⟩
      have hW3 : Below w.heap.size w w3 := B2 hW2 hB3
      refine WL.pure rfl ?_
      refine WL.call GOk.no F11 rfl (count_calls B c' b w3 (Brow (by decide) hW3 hb) (Nat.le_trans hgood.2.count (by omega))) ?_
      rintro e w4 ⟨rfl, hB4⟩; refine ⟨_, rfl, ?_⟩
      have hW4 : Below w.heap.size w w4 := B2 hW3 hB4
      refine WL.subI GOk.no rfl rfl (in_i64 (by have := hgood.1.count; have := hgood.2.count; omega) (by have := hgood.1.count; have := hgood.2.count; omega)) ?_
      refine WL.pure rfl ?_
      refine WL.pure rfl ?_
      refine WL.nil ?_
      refine WC.retn (Ret2 rfl rfl ⟨_, _, rfl,  rfl, ⟨fun _ => ⟨hgood, hbo.1 (by simpa using hc16)⟩, fun _ => rfl⟩, fun _ => rfl, hW4⟩)
end Go.Proofs.Ytfgbplbohekghaa
