/- lsm Put and Del. -/
import Derived.Test.YtfgbplbohekghaaDoorCode
import Derived.Test.YtfgbplbohekghaaDoorTy
import Derived.Test.YtfgbplbohekghaaDoorRowX
import Derived.Test.YtfgbplbohekghaaDoorL10
import Derived.Test.YtfgbplbohekghaaDoorPut
set_option linter.unusedVariables false
set_option maxRecDepth 2000
namespace Go.Proofs.YtfgbplbohekghaaDoor
open Go.Wl Go.RowKit

theorem lsm_Store__Put_calls (base g mb : Nat) (limit : Int) (m : List (ByteArray × Ent)) (ls : List (List Ent)) (key value : ByteArray) (w : World) (hst : St base g mb limit w m ls) (hbase : base ≤ w.heap.size) (hml : m.length ≤ 900) (hll : ls.length ≤ 900) (hsum : (ls.map List.length).sum ≤ 900) : Calls Tryd.prog 5 #[.pointer (some ⟨g, 0, none⟩), .string key, .string value] w fun e w' => ∃ v, e = .returned v ∧ isIf v = true ∧ Below base w w' ∧ (nilB v = true → (key.size ≤ 120 ∧ value.size ≤ 120) ∧ (St base g mb limit w' (setM kStrE m key ⟨key, value, false⟩) ls ∨ ∃ xs : List Ent, xs.Perm ((setM kStrE m key ⟨key, value, false⟩).map (·.2)) ∧ St base g mb limit w' [] (xs :: ls))) ∧ (key.size ≤ 120 → value.size ≤ 120 → m.length + (ls.map List.length).sum < 400 → ((setM kStrE m key ⟨key, value, false⟩).length : Int) < limit → nilB v = true ∧ St base g mb limit w' (setM kStrE m key ⟨key, value, false⟩) ls) := by
  refine enter F5 rfl rfl ?_
  refine WC.seq ?_
  refine WC.region ?_
  refine WL.pure rfl ?_
  refine WL.nil ?_
  refine WC.seq ?_
  refine WC.region ?_
  refine WL.pure rfl ?_
  refine WL.pure rfl ?_
  refine WL.pure rfl ?_
  refine WL.bld (cs := #[.string key, .string value, .bool false]) GOk.no rfl (by kernel_rfl) ?_
  refine WL.call GOk.no F12 rfl (lsm_Store__put_calls base g mb limit m ls ⟨key, value, false⟩ w hst hbase hml hll hsum) ?_
  rintro e w1 ⟨v1, rfl, hv1, hB1, h1⟩; refine ⟨_, rfl, ?_⟩
  have hW1 := hB1
  refine WL.pure rfl ?_
  refine WL.nil ?_
  refine WC.retn (Ret1 rfl ⟨_, rfl, hv1, hW1, h1⟩)
theorem lsm_Store__Del_calls (base g mb : Nat) (limit : Int) (m : List (ByteArray × Ent)) (ls : List (List Ent)) (key : ByteArray) (w : World) (hst : St base g mb limit w m ls) (hbase : base ≤ w.heap.size) (hml : m.length ≤ 900) (hll : ls.length ≤ 900) (hsum : (ls.map List.length).sum ≤ 900) : Calls Tryd.prog 9 #[.pointer (some ⟨g, 0, none⟩), .string key] w fun e w' => ∃ v, e = .returned v ∧ isIf v = true ∧ Below base w w' ∧ (nilB v = true → (St base g mb limit w' (setM kStrE m key ⟨key, { data := #[] }, true⟩) ls ∨ ∃ xs : List Ent, xs.Perm ((setM kStrE m key ⟨key, { data := #[] }, true⟩).map (·.2)) ∧ St base g mb limit w' [] (xs :: ls))) := by
  refine enter F9 rfl rfl ?_
  refine WC.seq ?_
  refine WC.region ?_
  refine WL.pure rfl ?_
  refine WL.nil ?_
  refine WC.seq ?_
  refine WC.region ?_
  refine WL.pure rfl ?_
  refine WL.pure rfl ?_
  refine WL.bld (cs := #[.string key, .string { data := #[] }, .bool true]) GOk.no rfl (by kernel_rfl) ?_
  refine WL.call GOk.no F12 rfl (lsm_Store__put_calls base g mb limit m ls ⟨key, { data := #[] }, true⟩ w hst hbase hml hll hsum) ?_
  rintro e w1 ⟨v1, rfl, hv1, hB1, h1⟩; refine ⟨_, rfl, ?_⟩
  have hW1 := hB1
  refine WL.pure rfl ?_
  refine WL.nil ?_
  refine WC.retn (Ret1 rfl ⟨_, rfl, hv1, hW1, fun h => (h1.1 h).2⟩)
end Go.Proofs.YtfgbplbohekghaaDoor
