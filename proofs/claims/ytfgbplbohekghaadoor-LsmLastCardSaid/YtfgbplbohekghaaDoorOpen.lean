/- lsm.Open of no tables. -/
import Derived.Test.YtfgbplbohekghaaDoorCode
import Derived.Test.YtfgbplbohekghaaDoorTy
import Derived.Test.YtfgbplbohekghaaDoorRowX
import Derived.Test.YtfgbplbohekghaaDoorL10
import Derived.Test.YtfgbplbohekghaaDoorAll
set_option linter.unusedVariables false
set_option maxRecDepth 2000
namespace Go.Proofs.YtfgbplbohekghaaDoor
open Go.Wl Go.RowKit

theorem lsm_Open_calls (limit : Int) (w : World) : Calls Tryd.prog 11 #[.slice none 0 0, .int .i64 limit] w fun e w' => ((∃ v, e = .returned (.tuple #[.pointer none, v]) ∧ isIf v = true ∧ nilB v = false ∧ (limit < 1 ∨ 400 < limit)) ∨ (e = .returned (.tuple #[.pointer (some ⟨w.heap.size + 1, 0, none⟩), .nilIface]) ∧ 1 ≤ limit ∧ limit ≤ 400 ∧ Box w' (w.heap.size + 1) #[.int .i64 limit, .map (some w.heap.size), .slice none 0 0, .slice none 0 0] 50 ∧ MapAt kStrE vEnt (fun _ => False) w' w.heap.size [])) ∧ Below w.heap.size w w' := by
  refine enter F11 rfl rfl ?_
  refine WC.seq ?_
  refine WC.region ?_
  refine WL.pure rfl ?_
  refine WL.pure rfl ?_
  refine WL.nil ?_
  refine WC.seq ?_
  refine WC.seq ?_
  refine WC.region ?_
  refine WL.pure rfl ?_
  refine WL.pure rfl ?_
  refine WL.pure rfl ?_
  refine WL.caseD (d := 13) rfl (fun h13 => ?_) (fun h13 => ?_)
  · -- t13 = true
    refine WL.offF rfl ?_
    refine WL.offF rfl ?_
    refine WL.pure rfl ?_
    refine WL.nil ?_
    refine WC.condT rfl rfl ?_
    refine WC.seq ?_
    refine WC.region ?_
    refine WL.mkIface GOk.no Tryd.underlying41 rfl rfl ?_
    refine WL.pure rfl ?_
    refine WL.pure rfl ?_
    refine WL.nil ?_
    refine WC.retn (Ret2 rfl rfl ⟨.inl ⟨_, rfl, rfl, rfl, by omega⟩, (Below.refl _ _)⟩)
  · -- t13 = false
    refine WL.gpure rfl rfl ?_
    refine WL.gpure rfl rfl ?_
    refine WL.pure rfl ?_
    refine WL.nil ?_
    refine WC.condD rfl (fun hc16 => ?_) (fun hc16 => ?_)
    · -- t16 = true
      refine WC.seq ?_
      refine WC.region ?_
      refine WL.mkIface GOk.no Tryd.underlying41 rfl rfl ?_
      refine WL.pure rfl ?_
      refine WL.pure rfl ?_
      refine WL.nil ?_
      refine WC.retn (Ret2 rfl rfl ⟨.inl ⟨_, rfl, rfl, rfl, by omega⟩, (Below.refl _ _)⟩)
    · -- t16 = false
      refine WC.skip ?_
      refine WC.seq ?_
      refine WC.region ?_
      refine WL.pure rfl ?_
      refine WL.mkMap kStrE vEnt (fun _ => False) GOk.no fun w1 hg1 hm1 hz1 => ?_
      have hW1 : Below w.heap.size w w1 := Bg (Below.refl _ _) hg1
      refine WL.bld (cs := #[.int .i64 limit, .map (some w.heap.size), .slice none 0 0, .slice none 0 0]) GOk.no rfl (by kernel_rfl) ?_
      refine WL.box GOk.no rfl fun w2 hg2 hb2 hz2 => ?_
      have hW2 : Below w.heap.size w w2 := Bg hW1 hg2
      refine WL.pure rfl ?_
      refine WL.nil ?_
      refine WC.seq ?_
      refine WC.seq ?_
      refine WC.region ?_
      refine WL.pure rfl ?_
      refine WL.lenS GOk.no Tryd.underlying45 rfl ?_
      refine WL.pure rfl ?_
      refine WL.nil ?_
      refine WC.block ?_
      refine WC.loop (σ := Nat) (fun k => [(4, .pointer none), (5, .nilIface), (6, .pointer (some ⟨w1.heap.size, 0, none⟩)), (22, .slice none 0 0), (23, .int .i64 0), (24, .int .i64 (k : Int))])
        (fun k w' => k ≤ 0 ∧ Box w' w1.heap.size #[.int .i64 limit, .map (some w.heap.size), .slice none 0 0, .slice none 0 0] 50 ∧ MapAt kStrE vEnt (fun _ => False) w' w.heap.size [] ∧ Below w.heap.size w w') (fun k => 0 - k) 0 ⟨by omega, hb2, hm1.step hg2 (by simp) (fun _ h => h.elim), hW2⟩ (.cons rfl (.cons rfl (.cons rfl (.cons rfl (.cons rfl (.cons rfl (.nil _))))))) ?_
      rintro k w' ⟨hk, hbx, hmp, hB⟩
      refine WC.seq ?_
      refine WC.region ?_
      refine WL.pure rfl ?_
      refine WL.nil ?_
      refine WC.seq ?_
      refine WC.condD rfl (fun hc25 => ?_) (fun hc25 => ?_)
      · omega
      · -- t25 = false
        refine WC.exit rfl ?_
        refine WC.seq ?_
        refine WC.seq ?_
        refine WC.region ?_
        refine WL.pure rfl ?_
        refine WL.call GOk.no F13 rfl (all_calls (ok := fun _ => True) w1.heap.size w.heap.size [] none 0 [] w' (hbx.cell 1) (hbx.cell 3) hmp (fun _ h => by cases h) (Row.nil _ _ _ _) (by simp) (by simp)) ?_
        rintro e w12 ⟨v12, ns, xs, rfl, hpn, _, hpx, _, hox, hB12⟩; refine ⟨_, rfl, ?_⟩
        have hW12 : Below w.heap.size w w12 := B2 hB hB12
        obtain ⟨A9, c9, rfl, _, _⟩ := hox.slv
        refine WL.lenS GOk.no Tryd.underlying39 rfl ?_
        refine WL.pure rfl ?_
        refine WL.nil ?_
        refine WC.condD rfl (fun hc61 => ?_) (fun hc61 => ?_)
        · -- t61 = true
          refine WC.seq ?_
          refine WC.region ?_
          refine WL.mkIface GOk.no Tryd.underlying41 rfl rfl ?_
          refine WL.pure rfl ?_
          refine WL.pure rfl ?_
          refine WL.nil ?_
          refine WC.retn (Ret2 rfl rfl ⟨absurd hc61 (by have h1 := hpx.length_eq; have h2 := hpn.length_eq; have h3 := mixAll_len [ns]; simp only [List.length_map, List.map_nil, List.length_nil, List.map_cons, List.sum_cons, List.sum_nil] at h1 h2 h3; omega), hW12⟩)
        · -- t61 = false
          refine WC.skip ?_
          refine WC.seq ?_
          refine WC.region ?_
          refine WL.pure rfl ?_
          refine WL.pure rfl ?_
          refine WL.pure rfl ?_
          refine WL.nil ?_
          refine WC.retn (Ret2 rfl rfl ⟨.inr ⟨by rw [← hz1], by omega, by omega, by rw [← hz1]; exact Box.below hbx hB12, hmp.move (hB12.block _ hmp.lt) (fun _ h => h.elim)⟩, hW12⟩)
end Go.Proofs.YtfgbplbohekghaaDoor
