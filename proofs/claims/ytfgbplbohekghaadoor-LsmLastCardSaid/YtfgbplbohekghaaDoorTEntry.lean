/- table.entry. -/
import Derived.Test.YtfgbplbohekghaaDoorCode
import Derived.Test.YtfgbplbohekghaaDoorTy
import Derived.Test.YtfgbplbohekghaaDoorRowX
import Derived.Test.YtfgbplbohekghaaDoorL10
import Derived.Test.YtfgbplbohekghaaDoorEntry
import Derived.Test.YtfgbplbohekghaaDoorFrame2
set_option linter.unusedVariables false
set_option maxRecDepth 2000
namespace Go.Proofs.YtfgbplbohekghaaDoor
open Go.Wl Go.RowKit

/-- What table.entry lets pass. -/
def entOk (x : Ent) : Prop := x.key.size ≤ 120 ∧ x.value.size ≤ 120 ∧ (x.dead = true → x.value = { data := #[] })
theorem noNil {t : TypeId} {v : Value} {G : Prop} (h : ¬ G) : nilB (.iface t v) = true ↔ G := ⟨fun e => (by cases e), fun g => absurd g h⟩
theorem table_entry_calls (x : Ent) (w : World) : Calls Tryd.prog 27 #[.agg #[.string x.key, .string x.value, .bool x.dead]] w fun e w' => ∃ v, e = .returned v ∧ isIf v = true ∧ (nilB v = true ↔ entOk x) ∧ Below w.heap.size w w' := by
  refine enter F27 rfl rfl ?_
  refine WC.seq ?_
  refine WC.region ?_
  refine WL.box GOk.no rfl fun w1 hg1 hb1 hz1 => ?_
  have hW1 : Below w.heap.size w w1 := Bg (Below.refl _ _) hg1
  refine WL.pure rfl ?_
  refine WL.nil ?_
  refine WC.seq ?_
  refine WC.block ?_
  refine WC.seq ?_
  refine WC.region ?_
  refine WL.fldAddr GOk.no fo38_0 rfl ?_
  refine WL.ld GOk.no sh9 rfl ((hb1.cell 0).trans rfl) ?_
  refine WL.lenStr GOk.no Tryd.underlying9 rfl ?_
  refine WL.pure rfl ?_
  refine WL.pure rfl ?_
  refine WL.caseD (d := 8) rfl (fun h8 => ?_) (fun h8 => ?_)
  · -- t8 = true
    refine WL.offF rfl ?_
    refine WL.offF rfl ?_
    refine WL.offF rfl ?_
    refine WL.offF rfl ?_
    refine WL.pure rfl ?_
    refine WL.pure rfl ?_
    refine WL.nil ?_
    refine WC.condT rfl rfl ?_
    refine WC.seq ?_
    refine WC.region ?_
    refine WL.mkIface GOk.no Tryd.underlying41 rfl rfl ?_
    refine WL.pure rfl ?_
    refine WL.nil ?_
    refine WC.retn (Ret1 rfl ⟨_, rfl, rfl, noNil (fun g => by have := g.1; omega), hW1⟩)
  · -- t8 = false
    refine WL.fldAddr (GOk.yes rfl) fo38_1 rfl ?_
    refine WL.ld (GOk.yes rfl) sh9 rfl ((hb1.cell 1).trans rfl) ?_
    refine WL.lenStr (GOk.yes rfl) Tryd.underlying9 rfl ?_
    refine WL.gpure rfl rfl ?_
    refine WL.pure rfl ?_
    refine WL.pure rfl ?_
    refine WL.nil ?_
    refine WC.condD rfl (fun hc3 => ?_) (fun hc3 => ?_)
    · -- t3 = true
      refine WC.seq ?_
      refine WC.region ?_
      refine WL.mkIface GOk.no Tryd.underlying41 rfl rfl ?_
      refine WL.pure rfl ?_
      refine WL.nil ?_
      refine WC.retn (Ret1 rfl ⟨_, rfl, rfl, noNil (fun g => by have := g.2.1; omega), hW1⟩)
    · -- t3 = false
      refine WC.seq ?_
      refine WC.region ?_
      refine WL.fldAddr GOk.no fo38_2 rfl ?_
      refine WL.ld GOk.no sh4 rfl ((hb1.cell 2).trans rfl) ?_
      refine WL.pure rfl ?_
      refine WL.caseB (d := 18) rfl (fun h18 => ?_) (fun h18 => ?_)
      · -- t18 = true
        refine WL.fldAddr (GOk.yes rfl) fo38_1 rfl ?_
        refine WL.ld (GOk.yes rfl) sh9 rfl ((hb1.cell 1).trans rfl) ?_
        refine WL.gpure rfl rfl ?_
        refine WL.pure rfl ?_
        refine WL.pure rfl ?_
        refine WL.nil ?_
        refine WC.condN rfl (fun hc15 => ?_) (fun hc15 => ?_)
        · -- t15 = true
          refine WC.seq ?_
          refine WC.region ?_
          refine WL.mkIface GOk.no Tryd.underlying41 rfl rfl ?_
          refine WL.pure rfl ?_
          refine WL.nil ?_
          refine WC.retn (Ret1 rfl ⟨_, rfl, rfl, noNil (fun g => hc15 (g.2.2 h18)), hW1⟩)
        · -- t15 = false
          refine WC.skip ?_
          refine WC.seq ?_
          refine WC.region ?_
          refine WL.pure rfl ?_
          refine WL.nil ?_
          refine WC.retn (Ret1 rfl ⟨_, rfl, rfl, ⟨fun _ => ⟨by omega, by omega, fun _ => hc15⟩, fun _ => rfl⟩, hW1⟩)
      · -- t18 = false
        refine WL.offT rfl ?_
        refine WL.offT rfl ?_
        refine WL.offT rfl ?_
        refine WL.pure rfl ?_
        refine WL.pure rfl ?_
        refine WL.nil ?_
        refine WC.condF rfl rfl ?_
        refine WC.skip ?_
        refine WC.seq ?_
        refine WC.region ?_
        refine WL.pure rfl ?_
        refine WL.nil ?_
        refine WC.retn (Ret1 rfl ⟨_, rfl, rfl, ⟨fun _ => ⟨by omega, by omega, fun h => by rw [show x.dead = false from h18] at h; cases h⟩, fun _ => rfl⟩, hW1⟩)
end Go.Proofs.YtfgbplbohekghaaDoor
