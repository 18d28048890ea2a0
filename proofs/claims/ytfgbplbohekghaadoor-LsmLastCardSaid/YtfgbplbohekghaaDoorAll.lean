/- lsm: all. -/
import Derived.Test.YtfgbplbohekghaaDoorCode
import Derived.Test.YtfgbplbohekghaaDoorTy
import Derived.Test.YtfgbplbohekghaaDoorRowX
import Derived.Test.YtfgbplbohekghaaDoorL10
import Derived.Test.YtfgbplbohekghaaDoorNews
set_option linter.unusedVariables false
set_option maxRecDepth 2000
namespace Go.Proofs.YtfgbplbohekghaaDoor
open Go.Wl Go.RowKit

theorem Own.ofBox {α : Type} {r : Rep α} {e : TypeId} {base : Nat} {ok : Nat → Prop} {w : World} {g : Nat} {cs : List Value} {xs : List α} (hb : Box w g cs.toArray e) (hg : base ≤ g) (hl : cs.length = xs.length * r.sz) (hm : xs.length ≤ 1000000)
    (hr : Reps (r.R (fun b => ok b ∧ some b ≠ some g) w) r.sz xs cs) : Own r e base ok w (.slice (some ⟨g, 0, none⟩) xs.length xs.length) xs :=
  ⟨cs, ⟨hl, .inr ⟨g, xs.length, cs.toArray, rfl, hg, hb, Nat.le_refl _, by simp only [maxLen]; omega, by simp [hl], by rw [← hl]; simp⟩⟩, hr⟩
theorem all_calls {ok : Nat → Prop} (g mb : Nat) (m : List (ByteArray × Ent)) (A : Option Addr) (c : Nat) (ls : List (List Ent)) (w : World) (hc1 : w.cell? ((⟨g, 0, none⟩ : Addr).add 1) = some (.map (some mb))) (hc3 : w.cell? ((⟨g, 0, none⟩ : Addr).add 3) = some (.slice A ls.length c)) (hm : MapAt kStrE vEnt (fun _ => False) w mb m) (hk : ∀ p ∈ m, p.1 = p.2.key) (hls : Row rLE ok w A ls) (hl : m.length + (ls.map List.length).sum ≤ 100000) (hll : ls.length ≤ 1000) : Calls Tryd.prog 13 #[.pointer (some ⟨g, 0, none⟩)] w fun e w' => ∃ v ns xs, e = .returned v ∧ ns.Perm (m.map (·.2)) ∧ ns.Pairwise (fun a b => ¬ blt b.key a.key) ∧ xs.Perm ((mixAll (ns :: ls)).map (·.2)) ∧ xs.Pairwise (fun a b => ¬ blt b.key a.key) ∧ Own rEnt 38 w.heap.size (fun _ => False) w' v xs ∧ Below w.heap.size w w' := by
  refine enter F13 rfl rfl ?_
  refine WC.seq ?_
  refine WC.region ?_
  refine WL.pure rfl ?_
  refine WL.nil ?_
  refine WC.seq ?_
  refine WC.mix (Below w.heap.size w) (by kernel_rfl) fun w1 hg1 hh1 => ?_
  have hW1 : Below w.heap.size w w1 := Bg (Below.refl _ _) hg1
  have hS1 : Below w.heap.size w w1 := below_gb hg1
  refine WM.p hS1 rfl ?_
  refine WM.p hS1 rfl ?_
  refine WM.o GOk.no hS1 (fun w0 hS0 => o_nilCk rfl) ?_
  refine WM.o GOk.no hS1 (fun w0 hS0 => o_fldAddr fo50_3 rfl) ?_
  refine WM.o GOk.no hS1 (fun w0 hS0 => o_ld sh48 rfl (Bc hS0 hc3)) ?_
  refine WM.e ?_
  refine WL.call GOk.no F14 rfl (news_calls g mb m w1 (Bc hS1 hc1) (hm.move (hS1.block _ hm.lt) (fun _ h => h.elim)) hk (by omega)) ?_
  rintro e w2 ⟨v2, ns, rfl, hpn, hpwn, hon, hB2⟩; refine ⟨_, rfl, ?_⟩
  have hW2 : Below w.heap.size w w2 := B2 hW1 hB2
  have hS2 : Below w.heap.size w w2 := B2 hS1 hB2
  refine WL.nil ⟨hS2, ?_⟩
  refine WM.e ?_
  obtain ⟨A2, c2, rfl, hcn, hrn⟩ := hon.slv
  refine WL.bldS (e := 39) (cs := #[.slice A2 ns.length c2]) GOk.no rfl (by kernel_rfl) fun w3 hg3 hb3 hz3 => ?_
  have hW3 : Below w.heap.size w w3 := Bg hW2 hg3
  have hS3 : Below w.heap.size w w3 := Bg hS2 hg3
  refine WL.nil ⟨hS3, ?_⟩
  refine WM.e ?_
  have hown3 : Own rLE 39 w.heap.size (fun b => b < w2.heap.size) w3 (.slice (some ⟨w2.heap.size, 0, none⟩) 1 1) [ns] :=
    Own.ofBox (xs := [ns]) (cs := [.slice A2 ns.length c2]) hb3 hW2.size rfl (by simp) (Reps.one ⟨_, rfl, A2, c2, rfl, hcn, (hrn.move (by decide) fun b _ hlt => hg3.block b hlt (by simp)).mono (by decide) fun b hb _ => ⟨by
      rcases hb with hb | hb
      · exact hb.elim
      · exact hon.blt b hb.symm, by
      rcases hb with hb | hb
      · exact hb.elim
      · have h1 := hon.blt b hb.symm
        intro e; cases e; omega⟩⟩ rfl)
  have hls3 : RowE rLE (fun b => b < w2.heap.size ∧ some b ≠ (Value.slice (some ⟨w2.heap.size, 0, none⟩) 1 1).ownBlock) w3 A ls :=
    (Brow (by decide) hW3 (hls.mono (by decide) (ok' := fun b => b < w2.heap.size ∧ some b ≠ (Value.slice (some ⟨w2.heap.size, 0, none⟩) 1 1).ownBlock) fun b _ hlt => ⟨Nat.lt_of_lt_of_le hlt hW2.size, fun e => by cases e; have h8 := hW2.size; have h9 : w2.heap.size < w.heap.size := hlt; omega⟩)).e
  refine WL.app (r := rLE) (xs := [ns]) (ys := ls) (by decide) GOk.no el48 rfl (by decide) rfl rfl hown3 hls3 hW3.size (by simp only [List.length_cons, List.length_nil]; omega) fun v4 w4 ho4 hg4 hx4 => ?_
  have hW4 : Below w.heap.size w w4 := hW3.grown hg4 hW3.size (fun j hj => hown3.bge j hj)
  have hS4 : Below w.heap.size w w4 := hW4
  refine WL.nil ⟨hS4, ?_⟩
  refine WM.e ?_
  obtain ⟨A4, c4, rfl, hc4, hrow4⟩ := ho4.slv
  have hnl : ns.length = m.length := by rw [hpn.length_eq, List.length_map]
  have hmix := table_Mix_calls A4 c4 ([ns] ++ ls) w4 hrow4 (by simp; omega)
  refine WL.call GOk.no F25 rfl (hmix) ?_
  rintro e w5 ⟨v5, xs, rfl, hp5, hpw5, ho5, hB5⟩; refine ⟨_, rfl, ?_⟩
  have hW5 : Below w.heap.size w w5 := B2 hW4 hB5
  have hS5 : Below w.heap.size w w5 := B2 hS4 hB5
  refine WL.nil ⟨hS5, ?_⟩
  refine WM.p hS5 rfl ?_
  refine WM.nil ?_
  refine WC.retn (Ret1 rfl ⟨_, ns, xs, rfl, hpn, hpwn, hp5, hpw5, ho5.base hW4.size, hW5⟩)
end Go.Proofs.YtfgbplbohekghaaDoor
