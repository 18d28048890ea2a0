/- audit.find, of a key that is there. -/
import Derived.Test.YtfgbplbohekghaaShelf
import Derived.Test.YtfgbplbohekghaaCode
import Derived.Test.YtfgbplbohekghaaTy
import Derived.Test.YtfgbplbohekghaaRowX
import Derived.Test.YtfgbplbohekghaaLine
import Derived.Test.YtfgbplbohekghaaCheck
import Derived.Test.YtfgbplbohekghaaOrd
set_option linter.unusedVariables false
set_option maxRecDepth 2000
namespace Go.Proofs.Ytfgbplbohekghaa
open Go.Wl Go.RowKit

theorem Good.adj {l : List Line} (h : Good l) (q : Nat) (hq : q + 1 < l.length) : blt l[q].key l[q + 1].key := (h.2 (q + 1) hq).2.2 q rfl
theorem Good.lt {l : List Line} (h : Good l) : ∀ (d p : Nat) (hq : p + d + 1 < l.length), blt (l[p]'(by omega)).key l[p + d + 1].key
  | 0, p, hq => h.adj p hq
  | d + 1, p, hq => blt_trans (h.lt d p (by omega)) (h.adj (p + d + 1) hq)
theorem Good.slt {l : List Line} (h : Good l) (p q : Nat) (hpq : p < q) (hq : q < l.length) : blt (l[p]'(by omega)).key l[q].key := by
  obtain ⟨d, rfl⟩ : ∃ d, q = p + d + 1 := ⟨q - p - 1, by omega⟩
  exact h.lt d p hq
theorem Good.inj {l : List Line} (h : Good l) (p q : Nat) (hp : p < l.length) (hq : q < l.length) (e : l[p].key = l[q].key) : p = q := by
  rcases Nat.lt_trichotomy p q with h1 | h1 | h1
  · have := h.slt p q h1 hq; rw [e] at this; exact absurd this (blt_irrefl _)
  · exact h1
  · have := h.slt q p h1 hp; rw [e] at this; exact absurd this (blt_irrefl _)
theorem findFn_calls (k' key : ByteArray) (v2 : Value) (w : World) : Calls Try.prog 29 #[.agg #[.string k', v2], .string key] w fun e w' => e = .returned (.int .i64 (Lib.compareBytes k'.data.toList key.data.toList)) ∧ Below w.heap.size w w' := by
  refine enter F29 rfl rfl ?_
  refine WC.seq ?_
  refine WC.region ?_
  refine WL.box GOk.no rfl fun w1 hg1 hb1 hz1 => ?_
  have hW1 : Below w.heap.size w w1 := Bg (Below.refl _ _) hg1
  refine WL.pure rfl ?_
  refine WL.nil ?_
  refine WC.seq ?_
  refine WC.region ?_
  refine WL.fldAddr GOk.no fo29_0 rfl ?_
  refine WL.ld GOk.no sh9 rfl ((hb1.cell 0).trans rfl) ?_
  refine WL.pure rfl ?_
  refine WL.call GOk.no F30 rfl (Try.strings_Compare k' key w1) ?_
  rintro e w2 ⟨rfl, rfl⟩; refine ⟨_, rfl, ?_⟩
  refine WL.pure rfl ?_
  refine WL.nil ?_
  refine WC.retn (Ret1 rfl ⟨rfl, hW1⟩)
theorem search_calls {ok : Nat → Prop} (A : Option Addr) (c : Nat) (l : List Line) (w : World) (hl : Row rLine ok w A l) (hg : Good l) (i : Nat) (hi : i < l.length) : Calls Try.prog 28 #[.slice A l.length c, .string l[i].key, .func (.func 29) #[] #[]] w fun e w' => e = .returned (.tuple #[.int .i64 (i : Int), .bool true]) ∧ Below w.heap.size w w' := by
  refine enter F28 rfl rfl ?_
  have hla := hl.1
  have h400 := hg.1
  refine WC.seq ?_
  refine WC.region ?_
  refine WL.pure rfl ?_
  refine WL.pure rfl ?_
  refine WL.nil ?_
  refine WC.seq ?_
  refine WC.region ?_
  refine WL.pure rfl ?_
  refine WL.lenS GOk.no Try.underlying22 rfl ?_
  refine WL.pure rfl ?_
  refine WL.nil ?_
  refine WC.seq ?_
  refine WC.region ?_
  refine WL.pure rfl ?_
  refine WL.pure rfl ?_
  refine WL.pure rfl ?_
  refine WL.nil ?_
  refine WC.seq ?_
  refine WC.block ?_
  refine WC.loop (σ := Nat × Nat) (fun y => [(0, .slice A l.length c), (1, .string l[i].key), (2, .func (.func 29) #[] #[]), (6, .int .i64 0), (7, .bool false), (8, .int .i64 (l.length : Int)), (9, .int .i64 (y.1 : Int)), (10, .int .i64 (y.2 : Int))])
    (fun y w' => y.1 ≤ i ∧ i ≤ y.2 ∧ y.2 ≤ l.length ∧ Below w.heap.size w w') (fun y => y.2 - y.1) (0, l.length) ⟨by simp, by simp only; omega, Nat.le_refl _,  (Below.refl _ _)⟩ (.cons rfl (.cons rfl (.cons rfl (.cons rfl (.cons rfl (.cons rfl (.cons rfl (.cons rfl (.nil _))))))))) ?_
  rintro ⟨lo, hi'⟩ w' ⟨hlo, hhi, hhn, hB⟩
  simp only at hlo hhi hhn
  refine WC.seq ?_
  refine WC.seq ?_
  refine WC.region ?_
  refine WL.pure rfl ?_
  refine WL.pure rfl ?_
  refine WL.pure rfl ?_
  refine WL.nil ?_
  refine WC.condD rfl (fun hc17 => ?_) (fun hc17 => ?_)
  · -- t17 = true
    have hm : (lo + hi') / 2 < l.length := by omega
    have hmid := mid_eq lo hi' (by omega)
    obtain ⟨ad, A', c', rfl, hat, hc', hrow⟩ := hl.line ((lo + hi') / 2) hm
    refine WC.skip ?_
    refine WC.block ?_
    refine WC.seq ?_
    refine WC.region ?_
    refine WL.pure rfl ?_
    refine WL.pure rfl ?_
    refine WL.addI GOk.no rfl rfl (in_i64 (by omega) (by omega)) ?_
    refine WL.convI GOk.no Try.underlying3 Try.underlying58 rfl ?_
    refine WL.shrI GOk.no rfl rfl (by decide) ?_
    refine WL.convI' hmid GOk.no Try.underlying58 Try.underlying3 rfl ?_
    refine WL.pure rfl ?_
    refine WL.nil ?_
    refine WC.seq ?_
    refine WC.region ?_
    refine WL.pure rfl ?_
    refine WL.pure rfl ?_
    refine WL.pure rfl ?_
    refine WL.idxAddr GOk.no el22 rfl rfl (by omega) (by omega) ?_
    refine WL.ldAgg GOk.no sh29 rfl rfl (Ba hB hat) ?_
    refine WL.pure rfl ?_
    refine WL.callV GOk.no rfl F29 rfl (findFn_calls (l[(lo + hi') / 2]).key l[i].key _ w') ?_
    rintro e w1 ⟨rfl, hB1⟩; refine ⟨_, rfl, ?_⟩
    have hW1 : Below w.heap.size w w1 := B2 hB hB1
    refine WL.pure rfl ?_
    refine WL.nil ?_
    refine WC.condD rfl (fun hc31 => ?_) (fun hc31 => ?_)
    · -- t31 = true
      have hlt : (lo + hi') / 2 < i := by
        have hc := (cmp_neg _ _).1 hc31
        rcases Nat.lt_trichotomy ((lo + hi') / 2) i with h1 | h1 | h1
        · exact h1
        · simp only [h1] at hc; exact absurd hc (blt_irrefl _)
        · exact absurd (hg.slt i _ h1 hm) (fun h => blt_asymm h hc)
      refine WC.region ?_
      refine WL.pure rfl ?_
      refine WL.addI GOk.no rfl rfl (in_i64 (by omega) (by omega)) ?_
      refine WL.pure rfl ?_
      refine WL.nil ?_
      refine ⟨rfl, ((lo + hi') / 2 + 1, hi'),  (.cons rfl (.cons rfl (.cons rfl (.cons rfl (.cons rfl (.cons rfl (.cons rfl (.cons rfl (.nil _))))))))), ⟨by simp only; omega, by simp only; omega, by simp only; omega, hW1⟩, by simp only; omega⟩
    · -- t31 = false
      have hge : i ≤ (lo + hi') / 2 := by
        refine Nat.le_of_not_lt fun h => hc31 ((cmp_neg _ _).2 (hg.slt _ i h hi))
      refine WC.region ?_
      refine WL.pure rfl ?_
      refine WL.pure rfl ?_
      refine WL.nil ?_
      refine ⟨rfl, (lo, (lo + hi') / 2),  (.cons rfl (.cons rfl (.cons rfl (.cons rfl (.cons rfl (.cons rfl (.cons rfl (.cons rfl (.nil _))))))))), ⟨by simp only; omega, by simp only; omega, by simp only; omega, hW1⟩, by simp only; omega⟩
  · -- t17 = false
    obtain rfl : lo = i := by simp only at hc17; omega
    obtain ⟨ad, A', c', rfl, hat, hc', hrow⟩ := hl.line lo hi
    have h0 := (cmp_zero l[lo].key l[lo].key).2 rfl
    refine WC.exit rfl ?_
    refine WC.seq ?_
    refine WC.region ?_
    refine WL.pure rfl ?_
    refine WL.pure rfl ?_
    refine WL.pure rfl ?_
    refine WL.pure rfl ?_
    refine WL.pure rfl ?_
    refine WL.caseD (d := 39) rfl (fun h39 => ?_) (fun h39 => ?_)
    · -- t39 = true
      refine WL.gpure rfl rfl ?_
      refine WL.gpure rfl rfl ?_
      refine WL.gpure rfl rfl ?_
      refine WL.idxAddr (GOk.yes rfl) el22 rfl rfl (by omega) (by omega) ?_
      refine WL.ldAgg (GOk.yes rfl) sh29 rfl rfl (Ba hB hat) ?_
      refine WL.gpure rfl rfl ?_
      refine WL.callV (GOk.yes rfl) rfl F29 rfl (findFn_calls l[lo].key l[lo].key _ w') ?_
      rintro e w2 ⟨rfl, hB2⟩; refine ⟨_, rfl, ?_⟩
      have hW2 : Below w.heap.size w w2 := B2 hB hB2
      refine WL.gpure rfl rfl ?_
      refine WL.pure rfl ?_
      refine WL.pure rfl ?_
      refine WL.pure rfl ?_
      refine WL.nil ?_
      refine WC.retn (Ret2 rfl rfl ⟨by show Ending.returned (.tuple #[.int .i64 (lo : Int), .bool (decide (Lib.compareBytes (l[lo].key).data.toList (l[lo].key).data.toList = 0))]) = _; rw [h0]; rfl, hW2⟩)
    · -- t39 = false
      exact absurd hi (by simp only at h39; omega)
theorem audit_find_calls {ok : Nat → Prop} (A : Option Addr) (c : Nat) (l : List Line) (w : World) (hl : Row rLine ok w A l) (hg : Good l) (i : Nat) (hi : i < l.length) (w0 : World) (hB0 : Below w0.heap.size w0 w) (hl0 : Row rLine ok w0 A l) : Calls Try.prog 18 #[.slice A l.length c, .string l[i].key] w fun e w' => ∃ ad c', e = .returned (.slice (some ad) l[i].nums.length c') ∧ l[i].nums.length ≤ c' ∧ Row rInt ok w0 (some ad) l[i].nums ∧ Below w.heap.size w w' := by
  refine enter F18 rfl rfl ?_
  refine WC.seq ?_
  refine WC.region ?_
  refine WL.pure rfl ?_
  refine WL.nil ?_
  refine WC.seq ?_
  refine WC.region ?_
  refine WL.pure rfl ?_
  refine WL.pure rfl ?_
  refine WL.call GOk.no F28 rfl (search_calls A c l w hl hg i hi) ?_
  rintro e w1 ⟨rfl, hB1⟩; refine ⟨_, rfl, ?_⟩
  have hW1 : Below w.heap.size w w1 := B2 (Below.refl _ _) hB1
  refine WL.pure rfl ?_
  refine WL.pure rfl ?_
  refine WL.pure rfl ?_
  refine WL.pure rfl ?_
  refine WL.pure rfl ?_
  refine WL.nil ?_
  refine WC.seq ?_
  refine WC.seq ?_
  refine WC.region ?_
  refine WL.pure rfl ?_
  refine WL.pure rfl ?_
  refine WL.nil ?_
  refine WC.cond rfl (fun hc14 => ?_) (fun hc14 => ?_)
  · cases hc14
  · -- t14 = false
    have hla := hl.1
    obtain ⟨ad, A', c', rfl, hat, hc', hrow⟩ := hl0.line i hi
    have hnz : l[i].nums ≠ [] := fun e => (hg.2 i hi).2.1 (by rw [e]; rfl)
    obtain ⟨ad', rfl⟩ : ∃ ad', A' = some ad' := by
      obtain ⟨ad', h1, _⟩ := hrow.int 0 (List.length_pos_iff.2 hnz)
      exact ⟨ad', h1⟩
    refine WC.skip ?_
    refine WC.seq ?_
    refine WC.region ?_
    refine WL.pure rfl ?_
    refine WL.pure rfl ?_
    refine WL.idxAddr GOk.no el22 rfl rfl (by omega) (by omega) ?_
    refine WL.fldAddr GOk.no fo29_1 rfl ?_
    refine WL.ld GOk.no sh27 rfl (Ba (B2 hB0 hW1) hat 1 _ rfl) ?_
    refine WL.pure rfl ?_
    refine WL.nil ?_
    refine WC.retn (Ret1 rfl ⟨_, _, rfl, hc', hrow, hW1⟩)
end Go.Proofs.Ytfgbplbohekghaa
