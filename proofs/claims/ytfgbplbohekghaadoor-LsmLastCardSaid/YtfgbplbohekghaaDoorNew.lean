/- lsm.New. -/
import Derived.Test.YtfgbplbohekghaaDoorCode
import Derived.Test.YtfgbplbohekghaaDoorTy
import Derived.Test.YtfgbplbohekghaaDoorRowX
import Derived.Test.YtfgbplbohekghaaDoorL10
import Derived.Test.YtfgbplbohekghaaDoorOpen
set_option linter.unusedVariables false
set_option maxRecDepth 2000
namespace Go.Proofs.YtfgbplbohekghaaDoor
open Go.Wl Go.RowKit

theorem lsm_New_calls (limit : Int) (w : World) : Calls Tryd.prog 4 #[.int .i64 limit] w fun e w' => ((∃ v, e = .returned (.tuple #[.pointer none, v]) ∧ isIf v = true ∧ nilB v = false ∧ (limit < 1 ∨ 400 < limit)) ∨ (e = .returned (.tuple #[.pointer (some ⟨w.heap.size + 1, 0, none⟩), .nilIface]) ∧ 1 ≤ limit ∧ limit ≤ 400 ∧ Box w' (w.heap.size + 1) #[.int .i64 limit, .map (some w.heap.size), .slice none 0 0, .slice none 0 0] 50 ∧ MapAt kStrE vEnt (fun _ => False) w' w.heap.size [])) ∧ Below w.heap.size w w' := by
  refine enter F4 rfl rfl ?_
  refine WC.seq ?_
  refine WC.region ?_
  refine WL.pure rfl ?_
  refine WL.pure rfl ?_
  refine WL.nil ?_
  refine WC.seq ?_
  refine WC.region ?_
  refine WL.pure rfl ?_
  refine WL.call GOk.no F11 rfl (lsm_Open_calls limit w) ?_
  rintro e w1 ⟨h, hW1⟩
  rcases h with ⟨v, rfl, h2⟩ | ⟨rfl, h2⟩
  · refine ⟨_, rfl, ?_⟩
    refine WL.pure rfl ?_
    refine WL.pure rfl ?_
    refine WL.pure rfl ?_
    refine WL.pure rfl ?_
    refine WL.nil ?_
    exact WC.retn (Ret2 rfl rfl ⟨.inl ⟨v, rfl, h2⟩, hW1⟩)
  · refine ⟨_, rfl, ?_⟩
    refine WL.pure rfl ?_
    refine WL.pure rfl ?_
    refine WL.pure rfl ?_
    refine WL.pure rfl ?_
    refine WL.nil ?_
    exact WC.retn (Ret2 rfl rfl ⟨.inr ⟨rfl, h2⟩, hW1⟩)
end Go.Proofs.YtfgbplbohekghaaDoor
