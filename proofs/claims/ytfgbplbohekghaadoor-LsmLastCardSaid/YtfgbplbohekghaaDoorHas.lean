/- lsm put: whether a key is there. -/
import Derived.Test.YtfgbplbohekghaaDoorCode
import Derived.Test.YtfgbplbohekghaaDoorTy
import Derived.Test.YtfgbplbohekghaaDoorRowX
import Derived.Test.YtfgbplbohekghaaDoorL10
import Derived.Test.YtfgbplbohekghaaDoorEntry
set_option linter.unusedVariables false
set_option maxRecDepth 2000
namespace Go.Proofs.YtfgbplbohekghaaDoor
open Go.Wl Go.RowKit

theorem cell0 {w : World} {g : Nat} {v : Value} (h : w.cell? ⟨g, 0, none⟩ = some v) : w.cell? ((⟨g, 0, none⟩ : Addr).add 0) = some v := by rw [add_zero']; exact h
theorem putFn_calls (x : Ent) (key : ByteArray) (g : Nat) (w : World) (hk : w.cell? ⟨g, 0, none⟩ = some (.string key)) : Calls Tryd.prog 24 #[.agg #[.string x.key, .string x.value, .bool x.dead], .pointer (some ⟨g, 0, none⟩)] w fun e w' => e = .returned (.bool (decide (x.key = key))) ∧ Below w.heap.size w w' := by
  refine enter F24 rfl rfl ?_
  refine WC.seq ?_
  refine WC.region ?_
  refine WL.box GOk.no rfl fun w1 hg1 hb1 hz1 => ?_
  have hW1 : Below w.heap.size w w1 := Bg (Below.refl _ _) hg1
  refine WL.pure rfl ?_
  refine WL.nil ?_
  refine WC.seq ?_
  refine WC.region ?_
  refine WL.fldAddr GOk.no fo38_0 rfl ?_
  refine WL.ld GOk.no sh9 rfl ((hb1.cell 0).trans rfl) ?_
  refine WL.fldAddr GOk.no fo38_0 rfl ?_
  refine WL.ld GOk.no sh9 rfl (Bc hW1 (cell0 hk)) ?_
  refine WL.pure rfl ?_
  refine WL.pure rfl ?_
  refine WL.nil ?_
  refine WC.retn (Ret1 rfl ⟨rfl, hW1⟩)
theorem entIndex_calls {ok : Nat → Prop} (A : Option Addr) (c : Nat) (l : List Ent) (key : ByteArray) (g : Nat) (w : World) (hl : Row rEnt ok w A l) (hk : w.cell? ⟨g, 0, none⟩ = some (.string key)) : Calls Tryd.prog 34 #[.slice A l.length c, .func (.func 24) #[] #[.pointer (some ⟨g, 0, none⟩)]] w fun e w' => ∃ r : Int, e = .returned (.int .i64 r) ∧ ((r = -1 ∧ ∀ i (h : i < l.length), l[i].key ≠ key) ∨ ∃ i, ∃ h : i < l.length, r = (i : Int) ∧ l[i].key = key) ∧ Below w.heap.size w w' := by
  refine enter F34 rfl rfl ?_
  have hla := hl.1
  refine WC.seq ?_
  refine WC.region ?_
  refine WL.pure rfl ?_
  refine WL.nil ?_
  refine WC.seq ?_
  refine WC.seq ?_
  refine WC.region ?_
  refine WL.pure rfl ?_
  refine WL.lenS GOk.no Tryd.underlying39 rfl ?_
  refine WL.pure rfl ?_
  refine WL.nil ?_
  refine WC.block ?_
  refine WC.loop (σ := Nat) (fun k => [(0, .slice A l.length c), (1, .func (.func 24) #[] #[.pointer (some ⟨g, 0, none⟩)]), (4, .int .i64 0), (7, .int .i64 (l.length : Int)), (8, .int .i64 (k : Int))])
    (fun k w' => k ≤ l.length ∧ (∀ i (h : i < l.length), i < k → l[i].key ≠ key) ∧ Below w.heap.size w w') (fun k => l.length - k) 0 ⟨by omega, fun i _ h => absurd h (by omega), (Below.refl _ _)⟩ (.cons rfl (.cons rfl (.cons rfl (.cons rfl (.cons rfl (.nil _)))))) ?_
  rintro k w' ⟨hkl, hno, hB⟩
  refine WC.seq ?_
  refine WC.region ?_
  refine WL.pure rfl ?_
  refine WL.nil ?_
  refine WC.seq ?_
  refine WC.condD rfl (fun hc9 => ?_) (fun hc9 => ?_)
  · -- t9 = true
    refine WC.skip ?_
    refine WC.seq ?_
    refine WC.block ?_
    refine WC.seq ?_
    refine WC.region ?_
    refine WL.pure rfl ?_
    refine WL.pure rfl ?_
    refine WL.nil ?_
    refine WC.seq ?_
    refine WC.region ?_
    have hka : k < l.length := by omega
    obtain ⟨ad, rfl, hat⟩ := hl.ent k hka
    refine WL.pure rfl ?_
    refine WL.pure rfl ?_
    refine WL.pure rfl ?_
    refine WL.idxAddr GOk.no el39 rfl rfl (by omega) (by omega) ?_
    refine WL.ldAgg GOk.no sh38 rfl rfl (Ba hB hat) ?_
    refine WL.callV GOk.no rfl F24 rfl (putFn_calls l[k] key g w' (Bc hB hk)) ?_
    rintro e w1 ⟨rfl, hB1⟩; refine ⟨_, rfl, ?_⟩
    have hW1 : Below w.heap.size w w1 := B2 hB hB1
    refine WL.nil ?_
    refine WC.condD rfl (fun hc16 => ?_) (fun hc16 => ?_)
    · -- t16 = true
      refine WC.seq ?_
      refine WC.region ?_
      refine WL.pure rfl ?_
      refine WL.pure rfl ?_
      refine WL.nil ?_
      refine WC.retn (Ret1 rfl ⟨_, rfl, .inr ⟨k, hka, rfl, hc16⟩, hW1⟩)
    · -- t16 = false
      refine WC.skip ?_
      refine WC.region ?_
      refine WL.addI GOk.no rfl rfl (in_i64 (by omega) (by omega)) ?_
      refine WL.pure rfl ?_
      refine WL.nil ?_
      refine ⟨rfl, k + 1, (.cons rfl (.cons rfl (.cons rfl (.cons rfl (.cons rfl (.nil _)))))), ⟨by omega, fun i h hi => (by by_cases e : i = k; (subst e; exact hc16); exact hno i h (by omega)), hW1⟩, by omega⟩
  · -- t9 = false
    refine WC.exit rfl ?_
    refine WC.seq ?_
    refine WC.region ?_
    refine WL.pure rfl ?_
    refine WL.nil ?_
    refine WC.retn (Ret1 rfl ⟨_, rfl, .inl ⟨rfl, fun i h => hno i h (by omega)⟩, hB⟩)
theorem entHas_calls {ok : Nat → Prop} (A : Option Addr) (c : Nat) (l : List Ent) (key : ByteArray) (g : Nat) (w : World) (hl : Row rEnt ok w A l) (hk : w.cell? ⟨g, 0, none⟩ = some (.string key)) : Calls Tryd.prog 23 #[.slice A l.length c, .func (.func 24) #[] #[.pointer (some ⟨g, 0, none⟩)]] w fun e w' => ∃ bo, e = .returned (.bool bo) ∧ (bo = true ↔ ∃ i, ∃ h : i < l.length, l[i].key = key) ∧ Below w.heap.size w w' := by
  refine enter F23 rfl rfl ?_
  refine WC.seq ?_
  refine WC.region ?_
  refine WL.pure rfl ?_
  refine WL.nil ?_
  refine WC.seq ?_
  refine WC.region ?_
  refine WL.pure rfl ?_
  refine WL.pure rfl ?_
  refine WL.call GOk.no F34 rfl (entIndex_calls A c l key g w hl hk) ?_
  rintro e w1 ⟨r, rfl, hr, hB1⟩; refine ⟨_, rfl, ?_⟩
  have hW1 : Below w.heap.size w w1 := B2 (Below.refl _ _) hB1
  have hiff : decide ((0 : Int) ≤ r) = true ↔ ∃ i, ∃ h : i < l.length, l[i].key = key := by
    rw [decide_eq_true_iff]
    rcases hr with ⟨rfl, h⟩ | ⟨i, hi, rfl, h⟩
    · exact ⟨fun h0 => absurd h0 (by decide), fun ⟨i, hi, h1⟩ => absurd h1 (h i hi)⟩
    · exact ⟨fun _ => ⟨i, hi, h⟩, fun _ => by omega⟩
  refine WL.pure rfl ?_
  refine WL.pure rfl ?_
  refine WL.nil ?_
  refine WC.retn (Ret1 rfl ⟨_, rfl, hiff, hW1⟩)
end Go.Proofs.YtfgbplbohekghaaDoor
