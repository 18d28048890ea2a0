/- audit.Check, audit.both. -/
import Derived.Test.YtfgbplbohekghaaCode
import Derived.Test.YtfgbplbohekghaaTy
import Derived.Test.YtfgbplbohekghaaRowX
import Derived.Test.YtfgbplbohekghaaLine
set_option linter.unusedVariables false
set_option maxRecDepth 2000
namespace Go.Proofs.Ytfgbplbohekghaa
open Go.Wl Go.RowKit

def okAt (l : List Line) (i : Nat) : Prop := ∀ h : i < l.length, l[i].nums.length ≤ 400 ∧ l[i].nums.length ≠ 0 ∧ ∀ (j : Nat) (hj : j + 1 = i), Op.bytesLess (l[j]'(by omega)).key.toList l[i].key.toList = true
/-- What audit.Check lets pass. -/
def Good (l : List Line) : Prop := l.length ≤ 400 ∧ ∀ i, okAt l i
theorem noNil {t : TypeId} {v : Value} {G : Prop} (h : ¬ G) : nilB (.iface t v) = true ↔ G := ⟨fun e => (by cases e), fun g => absurd g h⟩
theorem iff_bad {x : Bool} {p q : Prop} (h : x = true ↔ p) (hx : (!x) = true) : x = true ↔ p ∧ q := by cases x <;> simp_all
theorem iff_good {x y : Bool} {p q : Prop} (h : x = true ↔ p) (hx : (!x) = false) (h' : y = true ↔ q) : y = true ↔ p ∧ q := by cases x <;> simp_all
theorem audit_Check_calls {ok : Nat → Prop} (A : Option Addr) (c : Nat) (l : List Line) (w : World) (hl : Row rLine ok w A l) : Calls Try.prog 5 #[.slice A l.length c] w fun e w' => ∃ v, e = .returned v ∧ isIf v = true ∧ (nilB v = true ↔ Good l) ∧ Below w.heap.size w w' := by
  refine enter F5 rfl rfl ?_
  have hla := hl.1
  refine WC.seq ?_
  refine WC.region ?_
  refine WL.pure rfl ?_
  refine WL.nil ?_
  refine WC.seq ?_
  refine WC.seq ?_
  refine WC.region ?_
  refine WL.pure rfl ?_
  refine WL.lenS GOk.no Try.underlying22 rfl ?_
  refine WL.pure rfl ?_
  refine WL.nil ?_
  refine WC.condD rfl (fun hc7 => ?_) (fun hc7 => ?_)
  · -- t7 = true
    refine WC.seq ?_
    refine WC.region ?_
    refine WL.mkIface GOk.no Try.underlying38 rfl rfl ?_
    refine WL.pure rfl ?_
    refine WL.nil ?_
    refine WC.retn (Ret1 rfl ⟨_, rfl, rfl, noNil (fun g => by have := g.1; omega), (Below.refl _ _)⟩)
  · -- t7 = false
    refine WC.skip ?_
    refine WC.seq ?_
    refine WC.seq ?_
    refine WC.region ?_
    refine WL.pure rfl ?_
    refine WL.lenS GOk.no Try.underlying22 rfl ?_
    refine WL.pure rfl ?_
    refine WL.nil ?_
    refine WC.block ?_
    refine WC.loop (σ := Nat) (fun k => [(0, .slice A l.length c), (2, .nilIface), (9, .slice A l.length c), (10, .int .i64 (l.length : Int)), (11, .int .i64 (k : Int))])
      (fun k w' => k ≤ l.length ∧ (∀ i, i < k → okAt l i) ∧ Below w.heap.size w w') (fun k => l.length - k) 0 ⟨by omega, fun i hi => absurd hi (by omega), (Below.refl _ _)⟩ (.cons rfl (.cons rfl (.cons rfl (.cons rfl (.cons rfl (.nil _)))))) ?_
    rintro k w' ⟨hk, hgood, hB⟩
    refine WC.seq ?_
    refine WC.region ?_
    refine WL.pure rfl ?_
    refine WL.nil ?_
    refine WC.seq ?_
    refine WC.condD rfl (fun hc12 => ?_) (fun hc12 => ?_)
    · -- t12 = true
      refine WC.skip ?_
      refine WC.seq ?_
      refine WC.block ?_
      refine WC.seq ?_
      have hka : k < l.length := by omega
      obtain ⟨ad, A', c', rfl, hat, hc', hrow⟩ := hl.line k hka
      refine WC.region ?_
      refine WL.pure rfl ?_
      refine WL.idxAddr GOk.no el22 rfl rfl (by omega) (by omega) ?_
      refine WL.ldAgg GOk.no sh29 rfl rfl (Ba hB hat) ?_
      refine WL.alloc GOk.no ze29 fun w1 hg1 hb1 hz1 => ?_
      have hW1 : Below w.heap.size w w1 := Bg hB hg1
      refine WL.pure rfl ?_
      refine WL.stAll GOk.no sh29 rfl rfl hb1 rfl rfl (by simp [Value.cells, Value.oneCell']) fun w2 hg2 hz2 hb2 => ?_
      have hW2 : Below w.heap.size w w2 := Br hW1 hg2 (hB.size)
      refine WL.nil ?_
      refine WC.block ?_
      refine WC.seq ?_
      refine WC.region ?_
      refine WL.fldAddr GOk.no fo29_1 rfl ?_
      refine WL.ld GOk.no sh27 rfl ((hb2.cell 1).trans rfl) ?_
      refine WL.lenS GOk.no Try.underlying27 rfl ?_
      refine WL.pure rfl ?_
      refine WL.pure rfl ?_
      refine WL.nil ?_
      refine WC.condD rfl (fun hc16 => ?_) (fun hc16 => ?_)
      · -- t16 = true
        refine WC.seq ?_
        refine WC.region ?_
        refine WL.mkIface GOk.no Try.underlying38 rfl rfl ?_
        refine WL.pure rfl ?_
        refine WL.nil ?_
        refine WC.retn (Ret1 rfl ⟨_, rfl, rfl, noNil (fun g => by have := (g.2 k hka).1; omega), hW2⟩)
      · -- t16 = false
        refine WC.seq ?_
        refine WC.mix (Below w2.heap.size w2) (by kernel_rfl) fun w3 hg3 hh3 => ?_
        have hW3 : Below w.heap.size w w3 := Bg hW2 hg3
        have hS3 : Below w2.heap.size w2 w3 := below_gb hg3
        have hb4_1 := Box.step hb2 hg3 (by simp)
        refine WM.p hS3 rfl ?_
        have h5 : 0 < k → ∀ w0, Below w2.heap.size w2 w0 → w0.cell? ((ad.add (((k : Int) - 1).toNat * 2)).add 0) = some (.string (l[k - 1]).key) := by
          intro h0 w0 h
          obtain ⟨ad', A'', c'', e1, hat', _, _⟩ := hl.line (k - 1) (by omega)
          cases e1
          have e2 : ((k : Int) - 1).toNat = k - 1 := by omega
          rw [e2]
          exact Bc (B2 hW2 h) (hat' 0 _ rfl)
        have hst : ∀ (h37 : l[k].nums.length ≠ 0) (h16 : l[k].nums.length ≤ 400) (h22 : ∀ j, (hj : j + 1 = k) → Op.bytesLess (l[j]'(by omega)).key.toList l[k].key.toList = true), ∀ i, i < k + 1 → okAt l i := by
          intro h37 h16 h22 i hi
          by_cases e : i = k
          · subst e; exact fun _ => ⟨h16, h37, h22⟩
          · exact hgood i (by omega)
        refine WM.p hS3 rfl ?_
        refine WM.p hS3 rfl ?_
        refine WM.caseD (d := 25) rfl (fun h25 => ?_) (fun h25 => ?_)
        · -- t25 = true
          refine WM.gp hS3 rfl rfl ?_
          refine WM.gp hS3 rfl rfl ?_
          refine WM.o (GOk.yes rfl) hS3 (fun w0 hS0 => o_subI rfl rfl (in_i64 (by omega) (by omega))) ?_
          refine WM.o (GOk.yes rfl) hS3 (fun w0 hS0 => o_idxAddr el22 rfl rfl (by omega) (by omega)) ?_
          refine WM.o (GOk.yes rfl) hS3 (fun w0 hS0 => o_fldAddr fo29_0 rfl) ?_
          refine WM.o (GOk.yes rfl) hS3 (fun w0 hS0 => o_ld sh9 rfl (h5 (by omega) w0 hS0)) ?_
          refine WM.o (GOk.yes rfl) hS3 (fun w0 hS0 => o_fldAddr fo29_0 rfl) ?_
          refine WM.o (GOk.yes rfl) hS3 (fun w0 hS0 => o_ld sh9 rfl (Bc hS0 ((hb2.cell 0).trans rfl))) ?_
          refine WM.gp hS3 rfl rfl ?_
          refine WM.p hS3 rfl ?_
          refine WM.p hS3 rfl ?_
          refine WM.nil ?_
          refine WC.cond rfl (fun hc22 => ?_) (fun hc22 => ?_)
          · -- t22 = true
            refine WC.seq ?_
            refine WC.region ?_
            refine WL.mkIface GOk.no Try.underlying38 rfl rfl ?_
            refine WL.pure rfl ?_
            refine WL.nil ?_
            refine WC.retn (Ret1 rfl ⟨_, rfl, rfl, noNil (fun g => by have := (g.2 k hka).2.2 (k - 1) (by omega); rw [this] at hc22; cases hc22), hW3⟩)
          · -- t22 = false
            refine WC.seq ?_
            refine WC.region ?_
            refine WL.fldAddr GOk.no fo29_1 rfl ?_
            refine WL.ld GOk.no sh27 rfl ((hb4_1.cell 1).trans rfl) ?_
            refine WL.lenS GOk.no Try.underlying27 rfl ?_
            refine WL.pure rfl ?_
            refine WL.pure rfl ?_
            refine WL.nil ?_
            refine WC.condD rfl (fun hc37 => ?_) (fun hc37 => ?_)
            · -- t37 = true
              refine WC.seq ?_
              refine WC.region ?_
              refine WL.mkIface GOk.no Try.underlying38 rfl rfl ?_
              refine WL.pure rfl ?_
              refine WL.nil ?_
              refine WC.retn (Ret1 rfl ⟨_, rfl, rfl, noNil (fun g => by have := (g.2 k hka).2.1; omega), hW3⟩)
            · -- t37 = false
              refine WC.skip ?_
              refine WC.region ?_
              refine WL.addI GOk.no rfl rfl (in_i64 (by omega) (by omega)) ?_
              refine WL.pure rfl ?_
              refine WL.nil ?_
              refine ⟨rfl, k + 1, (.cons rfl (.cons rfl (.cons rfl (.cons rfl (.cons rfl (.nil _)))))), ⟨by omega, hst (by omega) (by omega) (fun j hj => by obtain rfl : j = k - 1 := (by omega); simpa using hc22), hW3⟩, by omega⟩
        · -- t25 = false
          refine WM.offT hS3 rfl ?_
          refine WM.offT hS3 rfl ?_
          refine WM.offT hS3 rfl ?_
          refine WM.offT hS3 rfl ?_
          refine WM.offT hS3 rfl ?_
          refine WM.offT hS3 rfl ?_
          refine WM.offT hS3 rfl ?_
          refine WM.offT hS3 rfl ?_
          refine WM.offT hS3 rfl ?_
          refine WM.p hS3 rfl ?_
          refine WM.p hS3 rfl ?_
          refine WM.nil ?_
          refine WC.condF rfl rfl ?_
          refine WC.seq ?_
          refine WC.region ?_
          refine WL.fldAddr GOk.no fo29_1 rfl ?_
          refine WL.ld GOk.no sh27 rfl ((hb4_1.cell 1).trans rfl) ?_
          refine WL.lenS GOk.no Try.underlying27 rfl ?_
          refine WL.pure rfl ?_
          refine WL.pure rfl ?_
          refine WL.nil ?_
          refine WC.condD rfl (fun hc37 => ?_) (fun hc37 => ?_)
          · -- t37 = true
            refine WC.seq ?_
            refine WC.region ?_
            refine WL.mkIface GOk.no Try.underlying38 rfl rfl ?_
            refine WL.pure rfl ?_
            refine WL.nil ?_
            refine WC.retn (Ret1 rfl ⟨_, rfl, rfl, noNil (fun g => by have := (g.2 k hka).2.1; omega), hW3⟩)
          · -- t37 = false
            refine WC.skip ?_
            refine WC.region ?_
            refine WL.addI GOk.no rfl rfl (in_i64 (by omega) (by omega)) ?_
            refine WL.pure rfl ?_
            refine WL.nil ?_
            refine ⟨rfl, k + 1, (.cons rfl (.cons rfl (.cons rfl (.cons rfl (.cons rfl (.nil _)))))), ⟨by omega, hst (by omega) (by omega) (fun j hj => by omega), hW3⟩, by omega⟩
    · -- t12 = false
      refine WC.exit rfl ?_
      refine WC.seq ?_
      refine WC.region ?_
      refine WL.pure rfl ?_
      refine WL.nil ?_
      refine WC.retn (Ret1 rfl ⟨_, rfl, rfl, ⟨fun _ => ⟨by omega, fun i hi => hgood i (by omega) hi⟩, fun _ => rfl⟩, hB⟩)
theorem audit_both_calls {ok ok' : Nat → Prop} (A B : Option Addr) (c c' : Nat) (a b : List Line) (w : World) (ha : Row rLine ok w A a) (hb : Row rLine ok' w B b) : Calls Try.prog 9 #[.slice A a.length c, .slice B b.length c'] w fun e w' => ∃ v, e = .returned v ∧ isIf v = true ∧ (nilB v = true ↔ Good a ∧ Good b) ∧ Below w.heap.size w w' := by
  refine enter F9 rfl rfl ?_
  refine WC.seq ?_
  refine WC.region ?_
  refine WL.pure rfl ?_
  refine WL.nil ?_
  refine WC.seq ?_
  refine WC.seq ?_
  refine WC.region ?_
  refine WL.pure rfl ?_
  refine WL.call GOk.no F5 rfl (audit_Check_calls A c a w ha) ?_
  rintro e w1 ⟨v, rfl, hv, hn, hB1⟩; refine ⟨_, rfl, ?_⟩
  have hW1 : Below w.heap.size w w1 := B2 (Below.refl _ _) hB1
  refine WL.pure rfl ?_
  refine WL.nil ?_
  refine WC.seq ?_
  refine WC.region ?_
  refine WL.pure rfl ?_
  refine WL.neNil GOk.no Try.underlying24 rfl hv ?_
  refine WL.nil ?_
  refine WC.cond rfl (fun hc9 => ?_) (fun hc9 => ?_)
  · -- t9 = true
    refine WC.seq ?_
    refine WC.region ?_
    refine WL.pure rfl ?_
    refine WL.pure rfl ?_
    refine WL.nil ?_
    refine WC.retn (Ret1 rfl ⟨_, rfl, hv, iff_bad hn hc9, hW1⟩)
  · -- t9 = false
    refine WC.skip ?_
    refine WC.seq ?_
    refine WC.region ?_
    refine WL.pure rfl ?_
    refine WL.call GOk.no F5 rfl (audit_Check_calls B c' b w1 (Brow (by decide) hW1 hb)) ?_
    rintro e w2 ⟨v', rfl, hv', hn', hB2⟩; refine ⟨_, rfl, ?_⟩
    have hW2 : Below w.heap.size w w2 := B2 hW1 hB2
    refine WL.pure rfl ?_
    refine WL.nil ?_
    refine WC.retn (Ret1 rfl ⟨_, rfl, hv', iff_good hn hc9 hn', hW2⟩)
end Go.Proofs.Ytfgbplbohekghaa
