/- den.Lines. -/
import Derived.Test.YtfgbplbohekghaaShelf
import Derived.Test.YtfgbplbohekghaaCode
import Derived.Test.YtfgbplbohekghaaTy
import Derived.Test.YtfgbplbohekghaaRowX
import Derived.Test.YtfgbplbohekghaaLine
import Derived.Test.YtfgbplbohekghaaSrt
set_option linter.unusedVariables false
set_option maxRecDepth 2000
namespace Go.Proofs.Ytfgbplbohekghaa
open Go.Wl Go.RowKit Go.Sort Go.Shelf

abbrev Raw := ByteArray × Option Addr × Nat × Nat
def encR (x : Raw) : List Value := [.string x.1, .slice x.2.1 x.2.2.1 x.2.2.2]
def decR : List Value → Raw
  | [.string k, .slice A n c] => (k, A, n, c)
  | _ => default
theorem encR_dec {ok : Nat → Prop} {w : World} {x : Line} {cs : List Value} (h : rLine.R ok w x cs) : encR (decR cs) = cs := by
  obtain ⟨A, c, rfl, _⟩ := rLine_open h
  rfl
theorem encR_key {ok : Nat → Prop} {w : World} {x : Line} {t : Raw} (h : rLine.R ok w x (encR t)) : x.key = t.1 := by
  obtain ⟨A, c, e, _⟩ := rLine_open h
  simp [encR] at e
  exact e.1.symm
def cmpR (x y : Raw) : Int := if Op.bytesLess x.1.toList y.1.toList = true then -1 else 1
theorem ltOf_cmpR (x y : Raw) : ltOf cmpR x y = Op.bytesLess x.1.toList y.1.toList := by
  unfold ltOf cmpR
  cases Op.bytesLess x.1.toList y.1.toList <;> simp
theorem swoR : SWO (ltOf cmpR) := {
  irrefl x := by rw [ltOf_cmpR]; exact bl_irrefl _
  trans x y z h1 h2 := by rw [ltOf_cmpR] at *; exact bl_trans _ _ _ h1 h2
  ntrans x y z h1 h2 := by
    rw [ltOf_cmpR] at *
    rcases blt_total x.1 y.1 with h | h | h
    · rw [blt] at h; rw [h1] at h; cases h
    · rw [h]; exact h2
    · rcases blt_total y.1 z.1 with k | k | k
      · rw [blt] at k; rw [h2] at k; cases k
      · rw [← k]; exact h1
      · have := blt_trans k h
        cases hx : Op.bytesLess x.1.toList z.1.toList with
        | false => rfl
        | true => exact absurd hx (fun hx => blt_asymm this hx)
  }
theorem linesFn_calls (x y : Raw) (w : World) : Calls Try.prog 24 #[.agg (encR x).toArray, .agg (encR y).toArray] w fun e w' => e = .returned (.int .i64 (cmpR x y)) ∧ ∃ q os', w' = grow (w.drewN q) os' := by
  refine enter F24 rfl rfl ?_
  refine WC.seq ?_
  refine WC.region ?_
  refine WL.boxX GOk.no rfl ?_
  refine WL.boxX GOk.no rfl ?_
  have hb2_1 : Box ((w.alloc (.cells (Value.agg (encR x).toArray).cells 29)).alloc (.cells (Value.agg (encR y).toArray).cells 29)) w.heap.size (encR x).toArray 29 := (heap_alloc_old _ _ (by simp)).trans (heap_alloc_new _ _)
  have hb2 : Box ((w.alloc (.cells (Value.agg (encR x).toArray).cells 29)).alloc (.cells (Value.agg (encR y).toArray).cells 29)) (w.alloc (.cells (Value.agg (encR x).toArray).cells 29)).heap.size (encR y).toArray 29 := heap_alloc_new _ _
  refine WL.pure rfl ?_
  refine WL.nil ?_
  refine WC.seq ?_
  refine WC.seq ?_
  refine WC.region ?_
  refine WL.fldAddr GOk.no fo29_0 rfl ?_
  refine WL.ld GOk.no sh9 rfl ((hb2_1.cell 0).trans rfl) ?_
  refine WL.fldAddr GOk.no fo29_0 rfl ?_
  refine WL.ld GOk.no sh9 rfl ((hb2.cell 0).trans rfl) ?_
  refine WL.pure rfl ?_
  refine WL.nil ?_
  refine WC.cond rfl (fun hc9 => ?_) (fun hc9 => ?_)
  · -- t9 = true
    refine WC.seq ?_
    refine WC.region ?_
    refine WL.pure rfl ?_
    refine WL.nil ?_
    refine WC.retn (Ret1 rfl ⟨by show Ending.returned (.int .i64 (-1)) = _; unfold cmpR; rw [if_pos hc9], 0, _, by rw [alloc_eq_grow, alloc_eq_grow, grow_grow]; rfl⟩)
  · -- t9 = false
    refine WC.skip ?_
    refine WC.seq ?_
    refine WC.region ?_
    refine WL.pure rfl ?_
    refine WL.nil ?_
    refine WC.retn (Ret1 rfl ⟨by show Ending.returned (.int .i64 1) = _; unfold cmpR; rw [if_neg (by rw [show Op.bytesLess x.1.toList y.1.toList = false from hc9]; simp)], 0, _, by rw [alloc_eq_grow, alloc_eq_grow, grow_grow]; rfl⟩)
theorem sortLines_calls {base : Nat} {ok : Nat → Prop} {w : World} {g cap : Nat} {xs : List Line} (hown : Own rLine 29 base ok w (.slice (some ⟨g, 0, none⟩) xs.length cap) xs) (hl : xs.length ≤ 1000000000) :
    Calls Try.prog 23 #[.slice (some ⟨g, 0, none⟩) xs.length cap, .func (.func 24) #[] #[]] w fun e w' => e = .returned (.tuple #[]) ∧
      ∃ xs', xs'.Perm xs ∧ xs'.Pairwise (fun a b => ¬ blt b.key a.key) ∧ Own rLine 29 base ok w' (.slice (some ⟨g, 0, none⟩) xs.length cap) xs' ∧ w.grownBy w' (some g) := by
  obtain ⟨zs, hz1, hH, hg, hR, hafter⟩ := Own.toK (r := rLine) (by decide) encR (fun _ => rfl) decR (fun h => encR_dec h) hown
  have hlen : zs.length = xs.length := by rw [← hz1, List.length_map]
  have eg : ∀ args w, (callFunc 24 args).run Try.prog w = .ok (.enter 24 args) w := fun args w => F24.run args w
  have hcon := Go.Proofs.AnyQ.slices_SortFunc Try.sortLn 2 Try.isAgg29 Try.sizeOf29 encR (fun _ => rfl) (fun x v hv => by simp [encR] at hv; rcases hv with rfl | rfl <;> rfl) cmpR swoR 24 #[] g 0 cap (zs.map (fun p : Line × Raw => p.2)).toArray w eg (fun m os dk _ x y => linesFn_calls x y _) hH hg (by simp; omega)
  change Calls Try.prog 23 _ _ _ at hcon
  have hsz : (zs.map (·.2)).toArray.size = xs.length := by simp [hlen]
  rw [hsz] at hcon
  refine hcon.mono ?_
  rintro e w' ⟨rfl, d', n, os, hperm, hsort, rfl⟩
  refine ⟨rfl, ?_⟩
  have hds : d'.size = xs.length := by rw [hperm.1, hsz]
  have hp : d'.toList.Perm (zs.map (·.2)) := by
    have := hperm.2.2
    rw [← hds, Array.extract_size] at this
    rw [hds, ← hsz, Array.extract_size] at this
    simpa using this
  obtain ⟨zs', hz', hz2⟩ := perm_of_map (fun p : Line × Raw => p.2) hp rfl
  have e1 : d' = (zs'.map (·.2)).toArray := by rw [hz2]
  have ha := hafter n os zs' hz'
  rw [← e1] at ha
  refine ⟨zs'.map (fun p : Line × Raw => p.1), by rw [← hz1]; exact hz'.map _, ?_, ha.1, ha.2⟩
  rw [List.pairwise_iff_getElem]
  intro i j hi hj hij hb
  have hi' : i < zs'.length := by simpa using hi
  have hj' : j < zs'.length := by simpa using hj
  have hzl : zs'.length = xs.length := by rw [hz'.length_eq, hlen]
  have h1 := hsort i j (Nat.zero_le _) hij (by omega)
  rw [ltOf_cmpR, e1, getElem!_pos _ j (by simpa using hj'), getElem!_pos _ i (by simpa using hi')] at h1
  simp only [List.getElem_toArray, List.getElem_map] at h1 hb
  have k1 := encR_key (hR _ (hz'.mem_iff.1 (List.getElem_mem hi')))
  have k2 := encR_key (hR _ (hz'.mem_iff.1 (List.getElem_mem hj')))
  rw [k1, k2, blt, h1] at hb
  cases hb
def vInts : VRep (List Int) := rInts.v1
noncomputable abbrev kStr := strK (P := Try.prog) (K := 9) Try.underlying9
def toLine (p : ByteArray × List Int) : Line := ⟨p.1, p.2⟩
theorem denLines_calls {ok : Nat → Prop} (b : Nat) (m : List (ByteArray × List Int)) (w : World) (hm : MapAt kStr vInts ok w b m) (hok : ∀ c, ok c → c < w.heap.size) (hl : m.length ≤ 1000000) :
    Calls Try.prog 13 #[.map (some b)] w fun e w' => ∃ v xs', e = .returned v ∧ xs'.Perm (m.map toLine) ∧ xs'.Pairwise (fun a b => ¬ blt b.key a.key) ∧ Own rLine 29 w.heap.size ok w' v xs' ∧ Below w.heap.size w w' := by
  refine enter F13 rfl rfl ?_
  refine WC.rseq (WL.pure rfl (WL.nil ?_))
  refine WC.rseq (WL.pure rfl (WL.nil ?_))
  refine WC.seq ?_
  refine WC.rseq ?_
  refine WL.pure rfl ?_
  refine WL.range GOk.no Try.underlying40 rfl hm fun w1 hg1 hi1 hz1 => ?_
  have hW1 : Below w.heap.size w w1 := Bg (Below.refl _ _) hg1
  refine WL.nil ?_
  refine WC.block ?_
  refine WC.loop (σ := List (ByteArray × List Int) × Value) (fun y => [(2, .slice none 0 0), (3, y.2), (7, .pointer (some ⟨w.heap.size, 0, none⟩))])
    (fun y w' => IterAt kStr vInts ok w' w.heap.size b m y.1 ∧ Own rLine 29 (w.heap.size + 1) ok w' y.2 (y.1.map toLine) ∧ w1.heap.size ≤ w'.heap.size ∧ Below w.heap.size w w') (fun y => m.length - y.1.length) ([], .slice none 0 0)
    ⟨hi1, Own.nil _ _ _ _ _, Nat.le_refl _, hW1⟩ (.cons rfl (.cons rfl (.cons rfl (.nil _)))) ?_
  rintro ⟨vis, v⟩ w' ⟨hI, hown, hge, hB⟩
  dsimp only at hI hown
  have hnok : ¬ ok w.heap.size := fun h => by have := hok _ h; omega
  have hbge : ∀ k, v.ownBlock = some k → w.heap.size + 1 ≤ k := fun k hk => hown.bge k hk
  have hbl : b < w.heap.size := hm.lt
  refine WC.rseq ?_
  refine WL.next GOk.no rfl hI hnok (fun hp => ?_) (fun p u q w2 hpm hpv hg2 hz2 hi2 hv2 he2 => ?_)
  · refine WL.pure rfl (WL.nil ?_)
    refine WC.seq (WC.condF rfl rfl ?_)
    refine WC.exit rfl ?_
    refine WC.rseq ?_
    refine WL.pure rfl ?_
    have hlen : (vis.map toLine).length = m.length := by rw [List.length_map, hp.length_eq]
    obtain ⟨A, c, rfl, hc, _⟩ := hown.len
    have hsort : Calls Try.prog 23 #[.slice A (vis.map toLine).length c, .func (.func 24) #[] #[]] w' fun e w2 => e = .returned (.tuple #[]) ∧
        ∃ xs', xs'.Perm (vis.map toLine) ∧ xs'.Pairwise (fun a b => ¬ blt b.key a.key) ∧ Own rLine 29 (w.heap.size + 1) ok w2 (.slice A (vis.map toLine).length c) xs' ∧ Below w.heap.size w w2 := by
      have hown' := hown
      obtain ⟨cs, ⟨hcl, ho⟩, hr⟩ := hown'
      rcases ho with ⟨e0, h0⟩ | ⟨g, cap, cur, e0, _⟩
      · injection e0 with eA eL eC
        subst eA; subst eC
        have h1 : vis.map toLine = [] := List.length_eq_zero_iff.1 h0
        have hcon := Go.Proofs.AnyF.slices_SortFunc_none Try.sortLn none 0 (.func (.func 24) #[] #[]) w'
        change Calls Try.prog 23 _ _ _ at hcon
        rw [h1] at hown ⊢
        refine hcon.mono ?_
        rintro e w2 ⟨rfl, rfl⟩
        exact ⟨rfl, [], .refl _, List.Pairwise.nil, hown, hB⟩
      · cases e0
        refine (sortLines_calls hown (by omega)).mono ?_
        rintro e w2 ⟨rfl, xs', h1, h2, h3, h4⟩
        exact ⟨rfl, xs', h1, h2, h3, Br hB h4 (by have := hbge g rfl; omega)⟩
    refine WL.call GOk.no F23 rfl hsort ?_
    rintro e w3 ⟨rfl, xs', hp', hpw, hown3, hB3⟩
    refine ⟨_, rfl, WL.nil ?_⟩
    refine WC.rseq (WL.pure rfl (WL.pure rfl (WL.nil ?_)))
    exact WC.retn (Ret1 rfl ⟨_, xs', rfl, hp'.trans (hp.map _), hpw, hown3.base (by omega), hB3⟩)
  · refine WL.pure rfl (WL.nil ?_)
    obtain ⟨q', e1, A, c, rfl, hc, hrow⟩ := hv2
    cases e1
    refine WC.seq (WC.condT rfl rfl ?_)
    refine WC.skip ?_
    refine WC.block ?_
    refine WC.rseq ?_
    refine WL.entry GOk.no rfl he2 ?_
    refine WL.pure rfl (WL.pure rfl (WL.pure rfl (WL.pure rfl (WL.nil ?_))))
    refine WC.region ?_
    refine WL.pure rfl (WL.pure rfl (WL.pure rfl ?_))
    refine WL.bld (cs := #[.string p.1, .slice A p.2.length c]) GOk.no rfl (by rfl) ?_
    have hW2 : Below w.heap.size w w2 := Br hB hg2 (Nat.le_refl _)
    have hown2 : Own rLine 29 (w.heap.size + 1) ok w2 v (vis.map toLine) := hown.step hg2 (.inl fun e => by have := hbge _ e; omega) (fun c hc e => by cases e; exact hnok hc)
    refine WL.bldS (e := 29) (cs := #[.string p.1, .slice A p.2.length c]) GOk.no rfl (by kernel_rfl) fun w3 hg3 hb3 hz3 => ?_
    have hW3 : Below w.heap.size w w3 := Bg hW2 hg3
    have hown3 : Own rLine 29 (w.heap.size + 1) ok w3 v (vis.map toLine) := hown2.step hg3 (.inr rfl) (fun c hc e => by cases e)
    have hne : ∀ c, ok c → some c ≠ v.ownBlock := fun c hc e => by have := hbge c e.symm; have := hok c hc; omega
    refine WL.app (r := rLine) (ys := [toLine p]) (by decide) GOk.no el22 rfl (by decide) rfl rfl hown3
      (RowE.box (cs := [.string p.1, .slice A p.2.length c]) hb3 (Reps.one (rLine_mk (x := toLine p) hc ((hrow.move (by decide) fun c _ hl => hg3.block c hl (by simp)).mono (by decide) fun c hc _ => ⟨hc, hne c hc⟩)) rfl)) (by have := hW3.size; have := hg3.size; omega) (by
        have := hi2.len; simp at this ⊢; omega) fun v4 w4 ho4 hg4 hx4 => ?_
    refine WL.pure rfl (WL.nil ?_)
    have hvlt := hi2.len
    refine ⟨rfl, (vis ++ [p], v4), .cons rfl (.cons rfl (.cons rfl (.nil _))), ⟨(hi2.step hg3 (by simp) (by simp) (fun c hc e => by cases e)).step hg4 (fun e => by have := hbge _ e.symm; omega) (fun e => by have := hbge _ e.symm; omega) hne, by simpa using ho4, ?_, hW3.grown hg4 hW3.size (fun k hk => by have := hbge k hk; omega)⟩, ?_⟩
    · have := hg4.size; have := hg3.size; omega
    · simp at hvlt ⊢; omega
end Go.Proofs.Ytfgbplbohekghaa
