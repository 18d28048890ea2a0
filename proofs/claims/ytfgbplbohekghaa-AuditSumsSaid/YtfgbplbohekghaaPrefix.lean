/- den.Prefix and what it calls. -/
import Derived.Test.YtfgbplbohekghaaCode
import Derived.Test.YtfgbplbohekghaaTy
import Derived.Test.YtfgbplbohekghaaRowX
import Derived.Test.YtfgbplbohekghaaLine
import Derived.Test.YtfgbplbohekghaaCheck
set_option linter.unusedVariables false
set_option maxRecDepth 2000
namespace Go.Proofs.Ytfgbplbohekghaa
open Go.Wl Go.RowKit

theorem cell0 {w : World} {g : Nat} {v : Value} (h : w.cell? ⟨g, 0, none⟩ = some v) : w.cell? ((⟨g, 0, none⟩ : Addr).add 0) = some v := by rw [add_zero']; exact h
theorem slicesEqual_calls {ok ok' : Nat → Prop} (A B : Option Addr) (c c' : Nat) (a b : List Int) (w : World) (ha : Row rInt ok w A a) (hb : Row rInt ok' w B b) : Calls Try.prog 21 #[.slice A a.length c, .slice B b.length c'] w fun e w' => e = .returned (.bool (decide (a = b))) ∧ Below w.heap.size w w' := by
  refine enter F21 rfl rfl ?_
  have hla := ha.1
  have hlb := hb.1
  refine WC.seq ?_
  refine WC.region ?_
  refine WL.pure rfl ?_
  refine WL.nil ?_
  refine WC.seq ?_
  refine WC.seq ?_
  refine WC.region ?_
  refine WL.pure rfl ?_
  refine WL.lenS GOk.no Try.underlying27 rfl ?_
  refine WL.pure rfl ?_
  refine WL.lenS GOk.no Try.underlying27 rfl ?_
  refine WL.pure rfl ?_
  refine WL.nil ?_
  refine WC.condN rfl (fun hc10 => ?_) (fun hc10 => ?_)
  · -- t10 = true
    refine WC.seq ?_
    refine WC.region ?_
    refine WL.pure rfl ?_
    refine WL.nil ?_
    refine WC.retn (Ret1 rfl ⟨by rw [decide_eq_false]; rintro rfl; exact hc10 rfl, (Below.refl _ _)⟩)
  · -- t10 = false
    refine WC.skip ?_
    refine WC.seq ?_
    refine WC.seq ?_
    refine WC.region ?_
    refine WL.pure rfl ?_
    refine WL.lenS GOk.no Try.underlying27 rfl ?_
    refine WL.pure rfl ?_
    refine WL.nil ?_
    refine WC.block ?_
    refine WC.loop (σ := Nat) (fun k => [(0, .slice A a.length c), (1, .slice B b.length c'), (4, .bool false), (12, .int .i64 (a.length : Int)), (13, .int .i64 (k : Int))])
      (fun k w' => k ≤ a.length ∧ a.take k = b.take k ∧ Below w.heap.size w w') (fun k => a.length - k) 0 ⟨by omega, by simp, (Below.refl _ _)⟩ (.cons rfl (.cons rfl (.cons rfl (.cons rfl (.cons rfl (.nil _)))))) ?_
    rintro k w' ⟨hk, hsame, hB⟩
    refine WC.seq ?_
    refine WC.region ?_
    refine WL.pure rfl ?_
    refine WL.nil ?_
    refine WC.seq ?_
    refine WC.condD rfl (fun hc14 => ?_) (fun hc14 => ?_)
    · -- t14 = true
      refine WC.skip ?_
      refine WC.seq ?_
      refine WC.block ?_
      refine WC.seq ?_
      refine WC.region ?_
      refine WL.pure rfl ?_
      refine WL.pure rfl ?_
      refine WL.nil ?_
      refine WC.seq ?_
      have hka : k < a.length := by omega
      have hkb : k < b.length := by omega
      obtain ⟨ad, rfl, hat⟩ := ha.int k hka
      obtain ⟨bd, rfl, hbt⟩ := hb.int k hkb
      refine WC.mix (Below w'.heap.size w') (by kernel_rfl) fun w1 hg1 hh1 => ?_
      have hW1 : Below w.heap.size w w1 := Bg hB hg1
      have hS1 : Below w'.heap.size w' w1 := below_gb hg1
      refine WM.p hS1 rfl ?_
      refine WM.p hS1 rfl ?_
      refine WM.o GOk.no hS1 (fun w0 hS0 => o_idxAddr el27 rfl rfl (by omega) (by omega)) ?_
      refine WM.o GOk.no hS1 (fun w0 hS0 => o_ld sh3 rfl (Bc (B2 hB hS0) hat)) ?_
      refine WM.p hS1 rfl ?_
      refine WM.p hS1 rfl ?_
      refine WM.o GOk.no hS1 (fun w0 hS0 => o_idxAddr el27 rfl rfl (by omega) (by omega)) ?_
      refine WM.o GOk.no hS1 (fun w0 hS0 => o_ld sh3 rfl (Bc (B2 hB hS0) hbt)) ?_
      refine WM.p hS1 rfl ?_
      refine WM.nil ?_
      refine WC.condN rfl (fun hc24 => ?_) (fun hc24 => ?_)
      · -- t24 = true
        refine WC.seq ?_
        refine WC.region ?_
        refine WL.pure rfl ?_
        refine WL.nil ?_
        refine WC.retn (Ret1 rfl ⟨by rw [decide_eq_false]; rintro rfl; exact hc24 rfl, hW1⟩)
      · -- t24 = false
        refine WC.skip ?_
        refine WC.region ?_
        refine WL.addI GOk.no rfl rfl (in_i64 (by omega) (by omega)) ?_
        refine WL.pure rfl ?_
        refine WL.nil ?_
        refine ⟨rfl, k + 1, (.cons rfl (.cons rfl (.cons rfl (.cons rfl (.cons rfl (.nil _)))))), ⟨by omega, take_succ_eq hka hkb hsame (by simpa using hc24), hW1⟩, by omega⟩
    · -- t14 = false
      refine WC.exit rfl ?_
      refine WC.seq ?_
      refine WC.region ?_
      refine WL.pure rfl ?_
      refine WL.nil ?_
      refine WC.retn (Ret1 rfl ⟨by obtain rfl : k = a.length := (by omega); rw [List.take_length, List.take_of_length_le (by omega)] at hsame; simp [hsame], hB⟩)
theorem prefixFn_calls (k' key : ByteArray) (v2 : Value) (g : Nat) (w : World) (hk : w.cell? ⟨g, 0, none⟩ = some (.string key)) : Calls Try.prog 20 #[.agg #[.string k', v2], .pointer (some ⟨g, 0, none⟩)] w fun e w' => e = .returned (.bool (decide (k' = key))) ∧ Below w.heap.size w w' := by
  refine enter F20 rfl rfl ?_
  refine WC.seq ?_
  refine WC.region ?_
  refine WL.box GOk.no rfl fun w1 hg1 hb1 hz1 => ?_
  have hW1 : Below w.heap.size w w1 := Bg (Below.refl _ _) hg1
  refine WL.pure rfl ?_
  refine WL.nil ?_
  refine WC.seq ?_
  refine WC.region ?_
  refine WL.fldAddr GOk.no fo29_0 rfl ?_
  refine WL.ld GOk.no sh9 rfl ((hb1.cell 0).trans rfl) ?_
  refine WL.fldAddr GOk.no fo29_0 rfl ?_
  refine WL.ld GOk.no sh9 rfl (Bc hW1 (cell0 hk)) ?_
  refine WL.pure rfl ?_
  refine WL.pure rfl ?_
  refine WL.nil ?_
  refine WC.retn (Ret1 rfl ⟨rfl, hW1⟩)
theorem indexFn_calls {ok : Nat → Prop} (A : Option Addr) (c : Nat) (l : List Line) (key : ByteArray) (g : Nat) (w : World) (hl : Row rLine ok w A l) (hk : w.cell? ⟨g, 0, none⟩ = some (.string key)) : Calls Try.prog 19 #[.slice A l.length c, .func (.func 20) #[] #[.pointer (some ⟨g, 0, none⟩)]] w fun e w' => ∃ r : Int, e = .returned (.int .i64 r) ∧ ((r = -1 ∧ ∀ i (h : i < l.length), l[i].key ≠ key) ∨ ∃ i, ∃ h : i < l.length, r = (i : Int) ∧ l[i].key = key ∧ ∀ j (hj : j < i), (l[j]'(by omega)).key ≠ key) ∧ Below w.heap.size w w' := by
  refine enter F19 rfl rfl ?_
  have hla := hl.1
  refine WC.seq ?_
  refine WC.region ?_
  refine WL.pure rfl ?_
  refine WL.nil ?_
  refine WC.seq ?_
  refine WC.seq ?_
  refine WC.region ?_
  refine WL.pure rfl ?_
  refine WL.lenS GOk.no Try.underlying22 rfl ?_
  refine WL.pure rfl ?_
  refine WL.nil ?_
  refine WC.block ?_
  refine WC.loop (σ := Nat) (fun k => [(0, .slice A l.length c), (1, .func (.func 20) #[] #[.pointer (some ⟨g, 0, none⟩)]), (4, .int .i64 0), (7, .int .i64 (l.length : Int)), (8, .int .i64 (k : Int))])
    (fun k w' => k ≤ l.length ∧ (∀ i (h : i < l.length), i < k → l[i].key ≠ key) ∧ Below w.heap.size w w') (fun k => l.length - k) 0 ⟨by omega, fun i _ h => absurd h (by omega), (Below.refl _ _)⟩ (.cons rfl (.cons rfl (.cons rfl (.cons rfl (.cons rfl (.nil _)))))) ?_
  rintro k w' ⟨hkl, hno, hB⟩
  refine WC.seq ?_
  refine WC.region ?_
  refine WL.pure rfl ?_
  refine WL.nil ?_
  refine WC.seq ?_
  refine WC.condD rfl (fun hc9 => ?_) (fun hc9 => ?_)
  · -- t9 = true
    refine WC.skip ?_
    refine WC.seq ?_
    refine WC.block ?_
    refine WC.seq ?_
    refine WC.region ?_
    refine WL.pure rfl ?_
    refine WL.pure rfl ?_
    refine WL.nil ?_
    refine WC.seq ?_
    have hka : k < l.length := by omega
    obtain ⟨ad, A', c', rfl, hat, hc', hrow⟩ := hl.line k hka
    refine WC.region ?_
    refine WL.pure rfl ?_
    refine WL.pure rfl ?_
    refine WL.pure rfl ?_
    refine WL.idxAddr GOk.no el22 rfl rfl (by omega) (by omega) ?_
    refine WL.ldAgg GOk.no sh29 rfl rfl (Ba hB hat) ?_
    refine WL.callV GOk.no rfl F20 rfl (prefixFn_calls l[k].key key _ g w' (Bc hB hk)) ?_
    rintro e w1 ⟨rfl, hB1⟩; refine ⟨_, rfl, ?_⟩
    have hW1 : Below w.heap.size w w1 := B2 hB hB1
    refine WL.nil ?_
    refine WC.condD rfl (fun hc16 => ?_) (fun hc16 => ?_)
    · -- t16 = true
      refine WC.seq ?_
      refine WC.region ?_
      refine WL.pure rfl ?_
      refine WL.pure rfl ?_
      refine WL.nil ?_
      refine WC.retn (Ret1 rfl ⟨_, rfl, .inr ⟨k, hka, rfl, hc16, fun j hj => hno j (by omega) hj⟩, hW1⟩)
    · -- t16 = false
      refine WC.skip ?_
      refine WC.region ?_
      refine WL.addI GOk.no rfl rfl (in_i64 (by omega) (by omega)) ?_
      refine WL.pure rfl ?_
      refine WL.nil ?_
      refine ⟨rfl, k + 1, (.cons rfl (.cons rfl (.cons rfl (.cons rfl (.cons rfl (.nil _)))))), ⟨by omega, fun i h hi => (by by_cases e : i = k; (subst e; exact hc16); exact hno i h (by omega)), hW1⟩, by omega⟩
  · -- t9 = false
    refine WC.exit rfl ?_
    refine WC.seq ?_
    refine WC.region ?_
    refine WL.pure rfl ?_
    refine WL.nil ?_
    refine WC.retn (Ret1 rfl ⟨_, rfl, .inl ⟨rfl, fun i h => hno i h (by omega)⟩, hB⟩)
def preAt (x : Line) (b : List Line) : Prop := ∃ i, ∃ h : i < b.length, b[i].key = x.key ∧ (∀ j (hj : j < i), (b[j]'(by omega)).key ≠ x.key) ∧ x.nums.length ≤ b[i].nums.length ∧ x.nums = b[i].nums.take x.nums.length
theorem preAt_at {x : Line} {b : List Line} {i : Nat} (h : i < b.length) (hk : b[i].key = x.key) (hf : ∀ j (hj : j < i), (b[j]'(by omega)).key ≠ x.key) : preAt x b ↔ x.nums.length ≤ b[i].nums.length ∧ x.nums = b[i].nums.take x.nums.length := by
  constructor
  · rintro ⟨j, hj, h1, h2, h3⟩
    obtain rfl : i = j := by
      rcases Nat.lt_trichotomy i j with h4 | h4 | h4
      · exact absurd hk (h2 i h4)
      · exact h4
      · exact absurd h1 (hf j h4)
    exact h3
  · rintro h3
    exact ⟨i, h, hk, hf, h3⟩
theorem den_Prefix_calls {ok ok' : Nat → Prop} (A B : Option Addr) (c c' : Nat) (a b : List Line) (w : World) (ha : Row rLine ok w A a) (hb : Row rLine ok' w B b) : Calls Try.prog 10 #[.slice A a.length c, .slice B b.length c'] w fun e w' => ∃ bo, e = .returned (.bool bo) ∧ (bo = true ↔ ∀ i (h : i < a.length), preAt a[i] b) ∧ Below w.heap.size w w' := by
  refine enter F10 rfl rfl ?_
  have hla := ha.1
  have hlb := hb.1
  refine WC.seq ?_
  refine WC.region ?_
  refine WL.pure rfl ?_
  refine WL.nil ?_
  refine WC.seq ?_
  refine WC.seq ?_
  refine WC.region ?_
  refine WL.pure rfl ?_
  refine WL.lenS GOk.no Try.underlying22 rfl ?_
  refine WL.pure rfl ?_
  refine WL.nil ?_
  refine WC.block ?_
  refine WC.loop (σ := Nat) (fun k => [(1, .slice B b.length c'), (4, .bool false), (8, .slice A a.length c), (9, .int .i64 (a.length : Int)), (10, .int .i64 (k : Int))])
    (fun k w' => k ≤ a.length ∧ (∀ i (h : i < a.length), i < k → preAt a[i] b) ∧ Below w.heap.size w w') (fun k => a.length - k) 0 ⟨by omega, fun i _ h => absurd h (by omega), (Below.refl _ _)⟩ (.cons rfl (.cons rfl (.cons rfl (.cons rfl (.cons rfl (.nil _)))))) ?_
  rintro k w' ⟨hkl, hyes, hB⟩
  refine WC.seq ?_
  refine WC.region ?_
  refine WL.pure rfl ?_
  refine WL.nil ?_
  refine WC.seq ?_
  refine WC.condD rfl (fun hc11 => ?_) (fun hc11 => ?_)
  · -- t11 = true
    refine WC.skip ?_
    refine WC.seq ?_
    refine WC.block ?_
    refine WC.seq ?_
    refine WC.region ?_
    have hka : k < a.length := by omega
    obtain ⟨ad, A', c1, rfl, hat, hc1, hrow⟩ := ha.line k hka
    refine WL.idxAddr GOk.no el22 rfl rfl (by omega) (by omega) ?_
    refine WL.ldAgg GOk.no sh29 rfl rfl (Ba hB hat) ?_
    refine WL.alloc GOk.no ze29 fun w1 hg1 hb1 hz1 => ?_
    have hW1 : Below w.heap.size w w1 := Bg hB hg1
    refine WL.stAll GOk.no sh29 rfl rfl hb1 rfl rfl (by simp [Value.cells, Value.oneCell']) fun w2 hg2 hz2 hb2 => ?_
    have hW2 : Below w.heap.size w w2 := Br hW1 hg2 (hB.size)
    refine WL.nil ?_
    refine WC.seq ?_
    refine WC.region ?_
    refine WL.pure rfl ?_
    refine WL.pure rfl ?_
    refine WL.call GOk.no F19 rfl (indexFn_calls B c' b a[k].key w'.heap.size w2 (Brow (by decide) hW2 hb) ((hb2.cell 0).trans rfl)) ?_
    rintro e w3 ⟨r, rfl, hr, hB3⟩; refine ⟨_, rfl, ?_⟩
    have hW3 : Below w.heap.size w w3 := B2 hW2 hB3
    have hb6_1 := Box.below hb2 hB3
    refine WL.pure rfl ?_
    refine WL.nil ?_
    refine WC.seq ?_
    refine WC.mix (Below w3.heap.size w3) (by kernel_rfl) fun w4 hg4 hh4 => ?_
    have hW4 : Below w.heap.size w w4 := Bg hW3 hg4
    have hS4 : Below w3.heap.size w3 w4 := below_gb hg4
    have hb6_2 := Box.step hb6_1 hg4 (by simp)
    refine WM.p hS4 rfl ?_
    refine WM.p hS4 rfl ?_
    refine WM.p hS4 rfl ?_
    refine WM.caseD (d := 19) rfl (fun h19 => ?_) (fun h19 => ?_)
    · -- t19 = true
      refine WM.offF hS4 rfl ?_
      refine WM.offF hS4 rfl ?_
      refine WM.offF hS4 rfl ?_
      refine WM.offF hS4 rfl ?_
      refine WM.offF hS4 rfl ?_
      refine WM.offF hS4 rfl ?_
      refine WM.offF hS4 rfl ?_
      refine WM.offF hS4 rfl ?_
      refine WM.offF hS4 rfl ?_
      refine WM.offF hS4 rfl ?_
      refine WM.p hS4 rfl ?_
      refine WM.p hS4 rfl ?_
      refine WM.offF hS4 rfl ?_
      refine WM.offF hS4 rfl ?_
      refine WM.offF hS4 rfl ?_
      refine WM.offF hS4 rfl ?_
      refine WM.offF hS4 rfl ?_
      refine WM.offF hS4 rfl ?_
      refine WM.offF hS4 rfl ?_
      refine WM.offF hS4 rfl ?_
      refine WM.offF hS4 rfl ?_
      refine WM.offF hS4 rfl ?_
      refine WM.offF hS4 rfl ?_
      refine WM.e (WL.offF rfl (WL.nil ⟨hS4, ?_⟩))
      refine WM.offF hS4 rfl ?_
      refine WM.p hS4 rfl ?_
      refine WM.nil ?_
      refine WC.condT rfl rfl ?_
      refine WC.seq ?_
      refine WC.region ?_
      refine WL.pure rfl ?_
      refine WL.nil ?_
      refine WC.retn (Ret1 rfl ⟨_, rfl, ⟨fun h => (by cases h), fun h => (by obtain ⟨i, hi, h1, h2, h3⟩ := h k hka; rcases hr with ⟨_, hr⟩ | ⟨i', _, rfl, _⟩; exact absurd h1 (hr i hi); omega)⟩, hW4⟩)
    · -- t19 = false
      rcases hr with ⟨rfl, _⟩ | ⟨i, hi, rfl, hkey, hfirst⟩
      · omega
      obtain ⟨bd, B', c2, rfl, hbt, hc2, hrowb⟩ := hb.line i hi
      have hpre := preAt_at (x := a[k]) hi hkey hfirst
      have hlx := hrow.1
      have hlz := hrowb.1
      refine WM.o (GOk.yes rfl) hS4 (fun w0 hS0 => o_fldAddr fo29_1 rfl) ?_
      refine WM.o (GOk.yes rfl) hS4 (fun w0 hS0 => o_ld sh27 rfl (Bc hS0 ((hb6_1.cell 1).trans rfl))) ?_
      refine WM.o (GOk.yes rfl) hS4 (fun w0 hS0 => o_lenS Try.underlying27 rfl) ?_
      refine WM.gp hS4 rfl rfl ?_
      refine WM.gp hS4 rfl rfl ?_
      refine WM.o (GOk.yes rfl) hS4 (fun w0 hS0 => o_idxAddr el22 rfl rfl (by omega) (by omega)) ?_
      refine WM.o (GOk.yes rfl) hS4 (fun w0 hS0 => o_fldAddr fo29_1 rfl) ?_
      refine WM.o (GOk.yes rfl) hS4 (fun w0 hS0 => o_ld sh27 rfl (Ba (B2 hW3 hS0) hbt 1 _ rfl)) ?_
      refine WM.o (GOk.yes rfl) hS4 (fun w0 hS0 => o_lenS Try.underlying27 rfl) ?_
      refine WM.gp hS4 rfl rfl ?_
      refine WM.p hS4 rfl ?_
      refine WM.p hS4 rfl ?_
      refine WM.caseD (d := 31) rfl (fun h31 => ?_) (fun h31 => ?_)
      · -- t31 = true
        refine WM.offF hS4 rfl ?_
        refine WM.offF hS4 rfl ?_
        refine WM.offF hS4 rfl ?_
        refine WM.offF hS4 rfl ?_
        refine WM.offF hS4 rfl ?_
        refine WM.offF hS4 rfl ?_
        refine WM.offF hS4 rfl ?_
        refine WM.offF hS4 rfl ?_
        refine WM.offF hS4 rfl ?_
        refine WM.offF hS4 rfl ?_
        refine WM.offF hS4 rfl ?_
        refine WM.e (WL.offF rfl (WL.nil ⟨hS4, ?_⟩))
        refine WM.offF hS4 rfl ?_
        refine WM.p hS4 rfl ?_
        refine WM.nil ?_
        refine WC.condT rfl rfl ?_
        refine WC.seq ?_
        refine WC.region ?_
        refine WL.pure rfl ?_
        refine WL.nil ?_
        refine WC.retn (Ret1 rfl ⟨_, rfl, ⟨fun h => (by cases h), fun h => (by have := (hpre.1 (h k hka)).1; omega)⟩, hW4⟩)
      · -- t31 = false
        refine WM.o (GOk.yes rfl) hS4 (fun w0 hS0 => o_fldAddr fo29_1 rfl) ?_
        refine WM.o (GOk.yes rfl) hS4 (fun w0 hS0 => o_ld sh27 rfl (Bc hS0 ((hb6_1.cell 1).trans rfl))) ?_
        refine WM.gp hS4 rfl rfl ?_
        refine WM.gp hS4 rfl rfl ?_
        refine WM.o (GOk.yes rfl) hS4 (fun w0 hS0 => o_idxAddr el22 rfl rfl (by omega) (by omega)) ?_
        refine WM.o (GOk.yes rfl) hS4 (fun w0 hS0 => o_fldAddr fo29_1 rfl) ?_
        refine WM.o (GOk.yes rfl) hS4 (fun w0 hS0 => o_ld sh27 rfl (Ba (B2 hW3 hS0) hbt 1 _ rfl)) ?_
        refine WM.o (GOk.yes rfl) hS4 (fun w0 hS0 => o_fldAddr fo29_1 rfl) ?_
        refine WM.o (GOk.yes rfl) hS4 (fun w0 hS0 => o_ld sh27 rfl (Bc hS0 ((hb6_1.cell 1).trans rfl))) ?_
        refine WM.o (GOk.yes rfl) hS4 (fun w0 hS0 => o_lenS Try.underlying27 rfl) ?_
        refine WM.o (GOk.yes rfl) hS4 (fun w0 hS0 => o_cut (A := B') (m := b[i].nums.length) (c := c2) 0 a[k].nums.length el27 rfl rfl rfl (.inl ⟨rfl, rfl⟩) (.inr ⟨.i64, (a[k].nums.length : Int), rfl, by omega, by omega⟩) (by omega) (by omega)) ?_
        refine WM.e ?_
        have hEq : Calls Try.prog 21 #[.slice A' a[k].nums.length c1, .slice (cutAddr B' c2 0 1) (a[k].nums.length - 0) (c2 - 0)] w4 fun e w' => e = .returned (.bool (decide (a[k].nums = b[i].nums.take a[k].nums.length))) ∧ Below w4.heap.size w4 w' := by
          have h5 := slicesEqual_calls A' (cutAddr B' c2 0 1) c1 (c2 - 0) a[k].nums (b[i].nums.take a[k].nums.length) w4 (Brow (by decide) hW4 hrow) ((Brow (by decide) hW4 ((hrowb.drop 0 c2 hc2).take a[k].nums.length)))
          rw [List.length_take, Nat.min_eq_left (by omega)] at h5
          exact h5
        refine WL.call (GOk.yes rfl) F21 rfl hEq ?_
        rintro e w5 ⟨rfl, hB5⟩; refine ⟨_, rfl, ?_⟩
        have hW5 : Below w.heap.size w w5 := B2 hW4 hB5
        have hb6_3 := Box.below hb6_2 hB5
        have hS5 : Below w3.heap.size w3 w5 := B2 hS4 hB5
        refine WL.nil ⟨hS5, ?_⟩
        refine WM.gp hS5 rfl rfl ?_
        refine WM.p hS5 rfl ?_
        refine WM.nil ?_
        refine WC.condN rfl (fun hc45 => ?_) (fun hc45 => ?_)
        · -- t45 = true
          refine WC.seq ?_
          refine WC.region ?_
          refine WL.pure rfl ?_
          refine WL.nil ?_
          refine WC.retn (Ret1 rfl ⟨_, rfl, ⟨fun h => (by cases h), fun h => absurd (hpre.1 (h k hka)).2 hc45⟩, hW5⟩)
        · -- t45 = false
          refine WC.skip ?_
          refine WC.region ?_
          refine WL.addI GOk.no rfl rfl (in_i64 (by omega) (by omega)) ?_
          refine WL.pure rfl ?_
          refine WL.nil ?_
          refine ⟨rfl, k + 1, (.cons rfl (.cons rfl (.cons rfl (.cons rfl (.cons rfl (.nil _)))))), ⟨by omega, fun i' h hi' => (by by_cases e : i' = k; (subst e; exact hpre.2 ⟨by omega, hc45⟩); exact hyes i' h (by omega)), hW5⟩, by omega⟩
  · -- t11 = false
    refine WC.exit rfl ?_
    refine WC.seq ?_
    refine WC.region ?_
    refine WL.pure rfl ?_
    refine WL.nil ?_
    refine WC.retn (Ret1 rfl ⟨_, rfl, ⟨fun _ i h => hyes i h (by omega), fun _ => rfl⟩, hB⟩)
end Go.Proofs.Ytfgbplbohekghaa
