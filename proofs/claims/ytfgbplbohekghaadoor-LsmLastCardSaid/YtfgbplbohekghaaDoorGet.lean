/- lsm.Get. -/
import Derived.Test.YtfgbplbohekghaaDoorCode
import Derived.Test.YtfgbplbohekghaaDoorTy
import Derived.Test.YtfgbplbohekghaaDoorRowX
import Derived.Test.YtfgbplbohekghaaDoorL10
import Derived.Test.YtfgbplbohekghaaDoorAll
set_option linter.unusedVariables false
set_option maxRecDepth 2000
namespace Go.Proofs.YtfgbplbohekghaaDoor
open Go.Wl Go.RowKit

theorem lsm_Store__Get_calls {ok : Nat → Prop} (g mb : Nat) (m : List (ByteArray × Ent)) (A : Option Addr) (c : Nat) (ls : List (List Ent)) (key : ByteArray) (w : World) (hc1 : w.cell? ((⟨g, 0, none⟩ : Addr).add 1) = some (.map (some mb))) (hc3 : w.cell? ((⟨g, 0, none⟩ : Addr).add 3) = some (.slice A ls.length c)) (hm : MapAt kStrE vEnt (fun _ => False) w mb m) (hk : ∀ p ∈ m, p.1 = p.2.key) (hls : Row rLE ok w A ls) (hl : m.length + (ls.map List.length).sum ≤ 100000) (hll : ls.length ≤ 1000) : Calls Tryd.prog 6 #[.pointer (some ⟨g, 0, none⟩), .string key] w fun e w' => ∃ ns xs : List Ent, ns.Perm (m.map (·.2)) ∧ xs.Perm ((mixAll (ns :: ls)).map (·.2)) ∧ ((∃ i, ∃ h : i < xs.length, e = .returned (.tuple #[.string xs[i].value, .nilIface]) ∧ xs[i].key = key ∧ xs[i].dead = false) ∨ ((∃ s, e = .returned (.tuple #[.string s, .iface 41 (.int .i64 6)])) ∧ ∀ i (h : i < xs.length), xs[i].key = key → xs[i].dead = true)) ∧ Below w.heap.size w w' := by
  refine enter F6 rfl rfl ?_
  refine WC.seq ?_
  refine WC.region ?_
  refine WL.pure rfl ?_
  refine WL.pure rfl ?_
  refine WL.nil ?_
  refine WC.seq ?_
  refine WC.seq ?_
  refine WC.region ?_
  refine WL.pure rfl ?_
  refine WL.call GOk.no F13 rfl (all_calls g mb m A c ls w hc1 hc3 hm hk hls hl hll) ?_
  rintro e w1 ⟨v1, ns, xs, rfl, hpn, _, hpx, _, hox, hB1⟩; refine ⟨_, rfl, ?_⟩
  obtain ⟨A9, c9, rfl, hc9, hxl⟩ := hox.slv
  have hxn : xs.length ≤ 100000 := by have h1 := hpx.length_eq; have h2 := hpn.length_eq; have h3 := mixAll_len (ns :: ls); simp only [List.length_map, List.map_cons, List.sum_cons] at h1 h2 h3; omega
  have hW1 : Below w.heap.size w w1 := B2 (Below.refl _ _) hB1
  refine WL.lenS GOk.no Tryd.underlying39 rfl ?_
  refine WL.pure rfl ?_
  refine WL.nil ?_
  refine WC.block ?_
  refine WC.loop (σ := Nat) (fun k => [(1, .string key), (4, .string .empty), (5, .nilIface), (9, .slice A9 xs.length c9), (10, .int .i64 (xs.length : Int)), (11, .int .i64 (k : Int))])
    (fun k w' => k ≤ xs.length ∧ Row rEnt (fun b => False ∨ some b = (Value.slice A9 xs.length c9).ownBlock) w' A9 xs ∧ (∀ i (h : i < xs.length), i < k → xs[i].key = key → xs[i].dead = true) ∧ Below w.heap.size w w') (fun k => xs.length - k) 0 ⟨by omega, hxl, fun i _ h => absurd h (by omega), hW1⟩ (.cons rfl (.cons rfl (.cons rfl (.cons rfl (.cons rfl (.cons rfl (.nil _))))))) ?_
  rintro k w' ⟨hkl, hxw, hno, hB⟩
  refine WC.seq ?_
  refine WC.region ?_
  refine WL.pure rfl ?_
  refine WL.nil ?_
  refine WC.seq ?_
  refine WC.condD rfl (fun hc12 => ?_) (fun hc12 => ?_)
  · -- t12 = true
    refine WC.skip ?_
    refine WC.seq ?_
    refine WC.block ?_
    refine WC.seq ?_
    refine WC.region ?_
    have hka : k < xs.length := by omega
    obtain ⟨ad, rfl, hat⟩ := hxw.ent k hka
    refine WL.idxAddr GOk.no el39 rfl rfl (by omega) (by omega) ?_
    refine WL.ldAgg GOk.no sh38 rfl rfl hat ?_
    refine WL.alloc GOk.no ze38 fun w2 hg2 hb2 hz2 => ?_
    have hW2 : Below w.heap.size w w2 := Bg hB hg2
    refine WL.stAll GOk.no sh38 rfl rfl hb2 rfl rfl (by simp [Value.cells, Value.oneCell']) fun w3 hg3 hz3 hb3 => ?_
    have hW3 : Below w.heap.size w w3 := Br hW2 hg3 (hB.size)
    refine WL.nil ?_
    refine WC.seq ?_
    refine WC.region ?_
    refine WL.fldAddr GOk.no fo38_0 rfl ?_
    refine WL.ld GOk.no sh9 rfl ((hb3.cell 0).trans rfl) ?_
    refine WL.pure rfl ?_
    refine WL.pure rfl ?_
    refine WL.pure rfl ?_
    refine WL.caseD (d := 19) rfl (fun h19 => ?_) (fun h19 => ?_)
    · -- t19 = true
      refine WL.fldAddr (GOk.yes rfl) fo38_2 rfl ?_
      refine WL.ld (GOk.yes rfl) sh4 rfl ((hb3.cell 2).trans rfl) ?_
      refine WL.gpure rfl rfl ?_
      refine WL.pure rfl ?_
      refine WL.nil ?_
      refine WC.cond rfl (fun hc23 => ?_) (fun hc23 => ?_)
      · -- t23 = true
        refine WC.seq ?_
        refine WC.region ?_
        refine WL.fldAddr GOk.no fo38_1 rfl ?_
        refine WL.ld GOk.no sh9 rfl ((hb3.cell 1).trans rfl) ?_
        refine WL.pure rfl ?_
        refine WL.pure rfl ?_
        refine WL.nil ?_
        refine WC.retn (Ret2 rfl rfl ⟨ns, xs, hpn, hpx, .inl ⟨k, hka, rfl, h19, by simpa using hc23⟩, hW3⟩)
      · -- t23 = false
        refine WC.skip ?_
        refine WC.region ?_
        refine WL.addI GOk.no rfl rfl (in_i64 (by omega) (by omega)) ?_
        refine WL.pure rfl ?_
        refine WL.nil ?_
        refine ⟨rfl, k + 1, (.cons rfl (.cons rfl (.cons rfl (.cons rfl (.cons rfl (.cons rfl (.nil _))))))), ⟨by omega, hxw.move (show 0 < rEnt.sz by decide) (fun b _ hl => (Br (Bg (Below.refl _ _) hg2) hg3 (Nat.le_refl _)).block b hl), (fun i h hi he => by by_cases e : i = k; (subst e; first | exact absurd he h19 | simpa using hc23); exact hno i h (by omega) he), hW3⟩, by omega⟩
    · -- t19 = false
      refine WL.offT rfl ?_
      refine WL.offT rfl ?_
      refine WL.offT rfl ?_
      refine WL.pure rfl ?_
      refine WL.nil ?_
      refine WC.condF rfl rfl ?_
      refine WC.skip ?_
      refine WC.region ?_
      refine WL.addI GOk.no rfl rfl (in_i64 (by omega) (by omega)) ?_
      refine WL.pure rfl ?_
      refine WL.nil ?_
      refine ⟨rfl, k + 1, (.cons rfl (.cons rfl (.cons rfl (.cons rfl (.cons rfl (.cons rfl (.nil _))))))), ⟨by omega, hxw.move (show 0 < rEnt.sz by decide) (fun b _ hl => (Br (Bg (Below.refl _ _) hg2) hg3 (Nat.le_refl _)).block b hl), (fun i h hi he => by by_cases e : i = k; (subst e; first | exact absurd he h19 | simpa using hc23); exact hno i h (by omega) he), hW3⟩, by omega⟩
  · -- t12 = false
    refine WC.exit rfl ?_
    refine WC.seq ?_
    refine WC.region ?_
    refine WL.mkIface GOk.no Tryd.underlying41 rfl rfl ?_
    refine WL.pure rfl ?_
    refine WL.pure rfl ?_
    refine WL.nil ?_
    refine WC.retn (Ret2 rfl rfl ⟨ns, xs, hpn, hpx, .inr ⟨⟨_, rfl⟩, fun i h => hno i h (by omega)⟩, hB⟩)
end Go.Proofs.YtfgbplbohekghaaDoor
