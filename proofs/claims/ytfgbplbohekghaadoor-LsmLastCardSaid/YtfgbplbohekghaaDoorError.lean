/- plain.Told and weirsame.Error. -/
import Derived.Test.YtfgbplbohekghaaDoorCode
import Derived.Test.YtfgbplbohekghaaDoorTy
import Derived.Test.YtfgbplbohekghaaDoorRowX
import Derived.Test.YtfgbplbohekghaaDoorL10
import Derived.Test.YtfgbplbohekghaaDoorTold
set_option linter.unusedVariables false
set_option maxRecDepth 2000
namespace Go.Proofs.YtfgbplbohekghaaDoor
open Go.Wl Go.RowKit

def errHandle : Value := .iface 103 (.agg #[.pointer (some ⟨2, 25, none⟩)])
theorem as_told (e : Int) (g : Nat) (old : Value) (w : World) (hg : w.cell? ⟨0, 0, none⟩ = some errHandle) (hb : Box w g #[old] 41) (hge : 0 ≠ g) :
    Calls Tryd.prog 35 #[.iface 41 (.int .i64 e), .iface 68 (.pointer (some ⟨g, 0, none⟩))] w fun ev w' => ev = .returned (.bool true) ∧ Box w' g #[.int .i64 e] 41 ∧ w.grownBy w' (some g) := by
  refine (as_hit e ⟨g, 0, none⟩ old w hg (hb.cell 0) (hb.frozen 0)).mono ?_
  rintro ev w' ⟨rfl, rfl⟩
  have g1 : ∀ (u : World) o, u.grownBy (u.alloc o) (some g) := fun u o => gb_none (gb_alloc u o) _
  have g2 : ∀ (u : World) v, u.grownBy (u.setCell ⟨g, 0, none⟩ v) (some g) := fun u v => ⟨rfl, rfl, rfl, by simp [World.setCell], fun k hk hne => Below.heap_setCell _ _ _ _ (fun e => hne (by rw [e]))⟩
  refine ⟨rfl, ?_, gb_trans (g1 _ _) (gb_trans (g1 _ _) (gb_trans (g1 _ _) (gb_trans (g1 _ _) (g2 _ _))))⟩
  have hb4 := (((hb.step (gb_alloc w (.cells #[.pointer (some ⟨g, 0, none⟩)] 68)) (by simp)).step (gb_alloc _ (.cells #[.pointer (some ⟨2, 68, none⟩), .pointer (some ⟨w.heap.size, 0, none⟩), .int .u64 150] 86)) (by simp)).step (gb_alloc _ (.cells #[.pointer (some ⟨2, 68, none⟩), .pointer (some ⟨w.heap.size, 0, none⟩), .int .u64 150] 86)) (by simp)).step (gb_alloc _ (.cells #[.int .i64 e] 41)) (by simp)
  unfold Box at hb4 ⊢
  simp only [World.setCell, Array.getElem?_modify, hb4]
  simp
theorem plain_Told_calls (v : Value) (e : Int) (w : World) (hv : (v = .nilIface ∧ e = 0) ∨ v = .iface 41 (.int .i64 e)) (hg : w.cell? ⟨0, 0, none⟩ = some errHandle) : Calls Tryd.prog 20 #[v] w fun ev w' => ev = .returned (.int .i64 e) ∧ Below w.heap.size w w' := by
  have hif : isIf v = true := by rcases hv with ⟨rfl, _⟩ | rfl <;> rfl
  refine enter F20 rfl rfl ?_
  refine WC.seq ?_
  refine WC.region ?_
  refine WL.pure rfl ?_
  refine WL.nil ?_
  refine WC.seq ?_
  refine WC.seq ?_
  refine WC.region ?_
  refine WL.pure rfl ?_
  refine WL.eqNil GOk.no Tryd.underlying25 rfl hif ?_
  refine WL.nil ?_
  refine WC.cond rfl (fun hc5 => ?_) (fun hc5 => ?_)
  · -- t5 = true
    refine WC.seq ?_
    refine WC.region ?_
    refine WL.pure rfl ?_
    refine WL.nil ?_
    refine WC.retn (Ret1 rfl ⟨(by rcases hv with ⟨rfl, rfl⟩ | rfl <;> first | rfl | cases hc5), (Below.refl _ _)⟩)
  obtain rfl : v = .iface 41 (.int .i64 e) := by rcases hv with ⟨h, _⟩ | h; (subst h; cases hc5); exact h
  · -- t5 = false
    refine WC.skip ?_
    refine WC.seq ?_
    refine WC.region ?_
    refine WL.alloc GOk.no ze41 fun w1 hg1 hb1 hz1 => ?_
    have hW1 : Below w.heap.size w w1 := Bg (Below.refl _ _) hg1
    refine WL.nil ?_
    refine WC.seq ?_
    refine WC.seq ?_
    refine WC.region ?_
    refine WL.pure rfl ?_
    refine WL.mkIface GOk.no Tryd.underlying68 rfl rfl ?_
    refine WL.call GOk.no F35 rfl (as_told e w.heap.size _ w1 (Bc hW1 hg) hb1 (by have := lt_of_cell hg; simp at this; omega)) ?_
    rintro ev w2 ⟨rfl, hb2, hg2⟩; refine ⟨_, rfl, ?_⟩
    have hW2 : Below w.heap.size w w2 := Br hW1 hg2 (Nat.le_refl _)
    have hb3_1 := hb2
    refine WL.nil ?_
    refine WC.cond rfl (fun hc8 => ?_) (fun hc8 => ?_)
    · -- t8 = true
      refine WC.seq ?_
      refine WC.region ?_
      refine WL.ld GOk.no sh41 rfl ((hb3_1.cell 0).trans rfl) ?_
      refine WL.pure rfl ?_
      refine WL.nil ?_
      refine WC.retn (Ret1 rfl ⟨rfl, hW2⟩)
    · -- t8 = false
      refine WC.skip ?_
      refine WC.seq ?_
      refine WC.region ?_
      refine WL.pure rfl ?_
      refine WL.nil ?_
      refine WC.retn (Ret1 rfl ⟨(by cases hc8), hW2⟩)
theorem weirsame_Error_calls (v : Value) (e k : Int) (w : World) (hv : (v = .nilIface ∧ e = 0) ∨ v = .iface 41 (.int .i64 e)) (hg : w.cell? ⟨0, 0, none⟩ = some errHandle) : Calls Tryd.prog 10 #[v, .int .i64 k] w fun ev w' => ev = .returned (.bool (decide (e = k))) ∧ Below w.heap.size w w' := by
  refine enter F10 rfl rfl ?_
  refine WC.seq ?_
  refine WC.region ?_
  refine WL.pure rfl ?_
  refine WL.nil ?_
  refine WC.seq ?_
  refine WC.region ?_
  refine WL.pure rfl ?_
  refine WL.call GOk.no F20 rfl (plain_Told_calls v e w hv hg) ?_
  rintro ev w1 ⟨rfl, hB1⟩; refine ⟨_, rfl, ?_⟩
  have hW1 : Below w.heap.size w w1 := B2 (Below.refl _ _) hB1
  refine WL.pure rfl ?_
  refine WL.nil ?_
  refine WC.seq ?_
  refine WC.region ?_
  refine WL.pure rfl ?_
  refine WL.pure rfl ?_
  refine WL.pure rfl ?_
  refine WL.pure rfl ?_
  refine WL.nil ?_
  refine WC.retn (Ret1 rfl ⟨rfl, hW1⟩)
end Go.Proofs.YtfgbplbohekghaaDoor
