/- table.Mix's sort. -/
import Derived.Test.YtfgbplbohekghaaDoorCode
import Derived.Test.YtfgbplbohekghaaDoorTy
import Derived.Test.YtfgbplbohekghaaDoorRowX
import Derived.Test.YtfgbplbohekghaaDoorL10
import Derived.Test.YtfgbplbohekghaaDoorEntry
import Derived.Test.YtfgbplbohekghaaDoorSrt
import Derived.Test.YtfgbplbohekghaaDoorShelf
set_option linter.unusedVariables false
set_option maxRecDepth 2000
namespace Go.Proofs.YtfgbplbohekghaaDoor
open Go.Wl Go.RowKit Go.Sort Go.Shelf

instance : Inhabited Ent := ⟨⟨ByteArray.empty, ByteArray.empty, false⟩⟩
def encE (x : Ent) : List Value := [.string x.key, .string x.value, .bool x.dead]
def decE : List Value → Ent
  | [.string k, .string v, .bool d] => ⟨k, v, d⟩
  | _ => default
theorem encE_dec {ok : Nat → Prop} {w : World} {x : Ent} {cs : List Value} (h : rEnt.R ok w x cs) : encE (decE cs) = cs := by
  obtain rfl := rEnt_open h
  rfl
theorem encE_eq {ok : Nat → Prop} {w : World} {x t : Ent} (h : rEnt.R ok w x (encE t)) : x = t := by
  have e := rEnt_open h
  simp [encE] at e
  cases x; cases t
  simp at e
  obtain ⟨e1, e2, e3⟩ := e
  subst e1; subst e2; subst e3
  rfl
def cmpE (x y : Ent) : Int := Lib.compareBytes x.key.data.toList y.key.data.toList
theorem ltOf_cmpE (x y : Ent) : ltOf cmpE x y = true ↔ blt x.key y.key := by
  unfold ltOf cmpE
  rw [decide_eq_true_iff, cmp_neg]
theorem ltOf_cmpE' (x y : Ent) : ltOf cmpE x y = false ↔ ¬ blt x.key y.key := by
  rw [← ltOf_cmpE]
  cases ltOf cmpE x y <;> simp
theorem swoE : SWO (ltOf cmpE) := {
  irrefl := fun x => by rw [ltOf_cmpE']; exact blt_irrefl _
  trans := fun x y z h1 h2 => by rw [ltOf_cmpE] at *; exact blt_trans h1 h2
  ntrans := fun x y z h1 h2 => by
    rw [ltOf_cmpE'] at *
    intro h3
    rcases blt_total x.key y.key with h | h | h
    · exact h1 h
    · rw [h] at h3; exact h2 h3
    · exact h2 (blt_trans h h3)
  }
theorem mixFn_calls (x y : Ent) (w : World) : Calls Tryd.prog 42 #[.agg (encE x).toArray, .agg (encE y).toArray] w fun e w' => e = .returned (.int .i64 (cmpE x y)) ∧ ∃ q os', w' = grow (w.drewN q) os' := by
  refine enter F42 rfl rfl ?_
  refine WC.seq ?_
  refine WC.region ?_
  refine WL.boxX GOk.no rfl ?_
  refine WL.boxX GOk.no rfl ?_
  have hb2_1 : Box ((w.alloc (.cells (Value.agg (encE x).toArray).cells 38)).alloc (.cells (Value.agg (encE y).toArray).cells 38)) w.heap.size (encE x).toArray 38 := (heap_alloc_old _ _ (by simp)).trans (heap_alloc_new _ _)
  have hb2 : Box ((w.alloc (.cells (Value.agg (encE x).toArray).cells 38)).alloc (.cells (Value.agg (encE y).toArray).cells 38)) (w.alloc (.cells (Value.agg (encE x).toArray).cells 38)).heap.size (encE y).toArray 38 := heap_alloc_new _ _
  refine WL.pure rfl ?_
  refine WL.nil ?_
  refine WC.seq ?_
  refine WC.region ?_
  refine WL.fldAddr GOk.no fo38_0 rfl ?_
  refine WL.ld GOk.no sh9 rfl ((hb2_1.cell 0).trans rfl) ?_
  refine WL.fldAddr GOk.no fo38_0 rfl ?_
  refine WL.ld GOk.no sh9 rfl ((hb2.cell 0).trans rfl) ?_
  refine WL.call GOk.no F43 rfl (Go.Proofs.Tryd.strings_Compare x.key y.key _) ?_
  rintro e w3 ⟨rfl, rfl⟩; refine ⟨_, rfl, ?_⟩
  refine WL.pure rfl ?_
  refine WL.nil ?_
  refine WC.retn (Ret1 rfl ⟨rfl, 0, _, by rw [alloc_eq_grow, alloc_eq_grow, grow_grow]; rfl⟩)
theorem sortEnts_calls {base : Nat} {ok : Nat → Prop} {w : World} {g cap : Nat} {xs : List Ent} (hown : Own rEnt 38 base ok w (.slice (some ⟨g, 0, none⟩) xs.length cap) xs) (hl : xs.length ≤ 1000000000) :
    Calls Tryd.prog 41 #[.slice (some ⟨g, 0, none⟩) xs.length cap, .func (.func 42) #[] #[]] w fun e w' => e = .returned (.tuple #[]) ∧
      ∃ xs', xs'.Perm xs ∧ xs'.Pairwise (fun a b => ¬ blt b.key a.key) ∧ Own rEnt 38 base ok w' (.slice (some ⟨g, 0, none⟩) xs.length cap) xs' ∧ w.grownBy w' (some g) := by
  obtain ⟨zs, hz1, hH, hg, hR, hafter⟩ := Own.toK (r := rEnt) (by decide) encE (fun _ => rfl) decE (fun h => encE_dec h) hown
  have hlen : zs.length = xs.length := by rw [← hz1, List.length_map]
  have eg : ∀ args w, (callFunc 42 args).run Tryd.prog w = .ok (.enter 42 args) w := fun args w => F42.run args w
  have hcon := Go.Proofs.AnyQ.slices_SortFunc Tryd.sortEn 3 Tryd.isAgg38 Tryd.sizeOf38 encE (fun _ => rfl) (fun x v hv => by simp [encE] at hv; rcases hv with rfl | rfl | rfl <;> rfl) cmpE swoE 42 #[] g 0 cap (zs.map (fun p : Ent × Ent => p.2)).toArray w eg (fun m os dk _ x y => mixFn_calls x y _) hH hg (by simp; omega)
  change Calls Tryd.prog 41 _ _ _ at hcon
  have hsz : (zs.map (fun p : Ent × Ent => p.2)).toArray.size = xs.length := by simp [hlen]
  rw [hsz] at hcon
  refine hcon.mono ?_
  rintro e w' ⟨rfl, d', n, os, hperm, hsort, rfl⟩
  refine ⟨rfl, ?_⟩
  have hds : d'.size = xs.length := by rw [hperm.1, hsz]
  have hp : d'.toList.Perm (zs.map (fun p : Ent × Ent => p.2)) := by
    have := hperm.2.2
    rw [← hds, Array.extract_size] at this
    rw [hds, ← hsz, Array.extract_size] at this
    simpa using this
  obtain ⟨zs', hz', hz2⟩ := perm_of_map (fun p : Ent × Ent => p.2) hp rfl
  have e1 : d' = (zs'.map (fun p : Ent × Ent => p.2)).toArray := by rw [hz2]
  have ha := hafter n os zs' hz'
  rw [← e1] at ha
  refine ⟨zs'.map (fun p : Ent × Ent => p.1), by rw [← hz1]; exact hz'.map _, ?_, ha.1, ha.2⟩
  rw [List.pairwise_iff_getElem]
  intro i j hi hj hij hb
  have hi' : i < zs'.length := by simpa using hi
  have hj' : j < zs'.length := by simpa using hj
  have hzl : zs'.length = xs.length := by rw [hz'.length_eq, hlen]
  have h1 := hsort i j (Nat.zero_le _) hij (by omega)
  rw [ltOf_cmpE', e1, getElem!_pos _ j (by simpa using hj'), getElem!_pos _ i (by simpa using hi')] at h1
  simp only [List.getElem_toArray, List.getElem_map] at h1 hb
  have k1 := encE_eq (hR _ (hz'.mem_iff.1 (List.getElem_mem hi')))
  have k2 := encE_eq (hR _ (hz'.mem_iff.1 (List.getElem_mem hj')))
  rw [k1, k2] at hb
  exact h1 hb
end Go.Proofs.YtfgbplbohekghaaDoor
