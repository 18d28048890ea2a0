/- lsm: news. -/
import Derived.Test.YtfgbplbohekghaaDoorCode
import Derived.Test.YtfgbplbohekghaaDoorTy
import Derived.Test.YtfgbplbohekghaaDoorRowX
import Derived.Test.YtfgbplbohekghaaDoorL10
import Derived.Test.YtfgbplbohekghaaDoorMix
set_option linter.unusedVariables false
set_option maxRecDepth 2000
namespace Go.Proofs.YtfgbplbohekghaaDoor
open Go.Wl Go.RowKit

theorem mixL_new (l : List Ent) : ∀ (m : List (ByteArray × Ent)), ((m.map (·.1)) ++ l.map (·.key)).Nodup → mixL m l = m ++ l.map (fun e => (e.key, e)) := by
  induction l with
  | nil => intro m _; simp [mixL]
  | cons e l ih =>
    intro m h
    have hnot : e.key ∉ m.map (·.1) := by
      rw [List.nodup_append] at h
      exact fun hx => h.2.2 _ hx e.key (by simp) rfl
    have hget : getM kStrE m e.key = none := by
      clear ih h
      induction m with
      | nil => rfl
      | cons p m ihm =>
        simp only [List.map_cons, List.mem_cons, not_or] at hnot
        simp only [getM]
        rw [if_neg hnot.1]
        exact ihm hnot.2
    have e1 : addE m e = m ++ [(e.key, e)] := by unfold addE; rw [hget]
    have h2 := ih (m ++ [(e.key, e)]) (by simpa using h)
    unfold mixL at h2 ⊢
    rw [List.foldl_cons, e1, h2]
    simp
theorem news_calls (g mb : Nat) (m : List (ByteArray × Ent)) (w : World) (hc : w.cell? ((⟨g, 0, none⟩ : Addr).add 1) = some (.map (some mb))) (hm : MapAt kStrE vEnt (fun _ => False) w mb m) (hk : ∀ p ∈ m, p.1 = p.2.key) (hl : m.length ≤ 100000) :
    Calls Tryd.prog 14 #[.pointer (some ⟨g, 0, none⟩)] w fun e w' => ∃ v xs, e = .returned v ∧ xs.Perm (m.map (·.2)) ∧ xs.Pairwise (fun a b => ¬ blt b.key a.key) ∧ Own rEnt 38 w.heap.size (fun _ => False) w' v xs ∧ Below w.heap.size w w' := by
  refine enter F14 rfl rfl ?_
  refine WC.rseq (WL.pure rfl (WL.nil ?_))
  refine WC.rseq (WL.pure rfl (WL.nil ?_))
  refine WC.seq ?_
  refine WC.rseq ?_
  refine WL.pure rfl ?_
  refine WL.nilCk GOk.no rfl ?_
  refine WL.fldAddr GOk.no fo50_1 rfl ?_
  refine WL.ld GOk.no sh47 rfl hc ?_
  refine WL.range GOk.no Tryd.underlying47 rfl hm fun w7 hg7 hi7 hz7 => ?_
  have hW7 : Below w.heap.size w w7 := Bg (Below.refl _ _) hg7
  refine WL.nil ?_
  refine WC.block ?_
  refine WC.loop (σ := List (ByteArray × Ent) × Value) (fun y => [(2, .slice none 0 0), (3, y.2), (10, .pointer (some ⟨w.heap.size, 0, none⟩))])
    (fun y u' => IterAt kStrE vEnt (fun _ => False) u' w.heap.size mb m y.1 ∧ Own rEnt 38 (w.heap.size + 1) (fun _ => False) u' y.2 (y.1.map (·.2)) ∧ w7.heap.size ≤ u'.heap.size ∧ Below w.heap.size w u') (fun y => m.length - y.1.length) ([], .slice none 0 0)
    ⟨hi7, Own.nil _ _ _ _ _, Nat.le_refl _, hW7⟩ (.cons rfl (.cons rfl (.cons rfl (.nil _)))) ?_
  rintro ⟨vis, v⟩ u' ⟨hI, hown, hge, hBu⟩
  dsimp only at hI hown
  have hbge : ∀ j, v.ownBlock = some j → w.heap.size + 1 ≤ j := fun j hj => hown.bge j hj
  have hbm : mb < w.heap.size := hm.lt
  refine WC.rseq ?_
  refine WL.next GOk.no rfl hI (fun h => h) (fun hp => ?_) (fun p u q w8 hpm hpv hg8 hz8 hi8 hv8 he8 => ?_)
  · refine WL.pure rfl (WL.nil ?_)
    refine WC.seq (WC.condF rfl rfl ?_)
    refine WC.exit rfl ?_
    refine WC.rseq ?_
    refine WL.pure rfl ?_
    have hlen : (vis.map (·.2)).length = m.length := by rw [List.length_map, hp.length_eq]
    obtain ⟨A9, c9, rfl, hc9, hrow9⟩ := hown.slv
    refine WL.bldS (e := 39) (cs := #[.slice A9 (vis.map (·.2)).length c9]) GOk.no rfl (by kernel_rfl) fun w9 hg9 hb9 hz9 => ?_
    have hW9 : Below w.heap.size w w9 := Bg hBu hg9
    have hrowLL : Row rLE (fun _ => True) w9 (some ⟨u'.heap.size, 0, none⟩) [vis.map (·.2)] := by
      refine ⟨by simp, fun _ => ⟨_, rfl, trivial, fun i x hi => ?_⟩⟩
      match i, hi with
      | 0, hi =>
        cases hi
        refine ⟨_, ⟨_, rfl, A9, c9, rfl, hc9, (hrow9.move (by decide) fun c _ hlt => hg9.block c hlt (by simp)).mono (by decide) fun _ _ _ => trivial⟩, fun j u hu => hb9.at_ j u hu⟩
    have hmix := table_Mix_calls (some ⟨u'.heap.size, 0, none⟩) 1 [vis.map (·.2)] w9 hrowLL (by simp only [List.map_cons, List.map_nil, List.sum_cons, List.sum_nil]; omega)
    refine WL.call GOk.no F25 rfl hmix ?_
    rintro e w10 ⟨v10, xs, rfl, hp10, hpw10, ho10, hB10⟩
    refine ⟨_, rfl, WL.pure rfl (WL.nil ?_)⟩
    refine WC.retn (Ret1 rfl ⟨_, xs, rfl, ?_, hpw10, ho10.base hW9.size, B2 hW9 hB10⟩)
    have hkeys : (vis.map (·.2)).map (·.key) = vis.map (·.1) := by
      rw [List.map_map]
      exact List.map_congr_left fun p hpv => (hk p (hp.mem_iff.1 hpv)).symm
    have hnd : ((vis.map (·.2)).map (·.key)).Nodup := by rw [hkeys]; exact hI.nodup.1
    have e1 : mixAll [vis.map (·.2)] = (vis.map (·.2)).map (fun e => (e.key, e)) := by
      show mixL [] (vis.map (·.2)) = _
      rw [mixL_new _ [] (by simpa using hnd)]; rfl
    rw [e1, List.map_map] at hp10
    have e2 : (vis.map (·.2)).map ((fun x : ByteArray × Ent => x.2) ∘ fun e : Ent => (e.key, e)) = vis.map (·.2) := List.map_id _
    rw [e2] at hp10
    exact hp10.trans (hp.map _)
  · refine WL.pure rfl (WL.nil ?_)
    obtain ⟨cs, rfl, h4⟩ := hv8
    obtain rfl := rEnt_open h4
    refine WC.seq (WC.condT rfl rfl ?_)
    refine WC.skip ?_
    refine WC.block ?_
    refine WC.rseq ?_
    refine WL.entry GOk.no rfl he8 ?_
    refine WL.pure rfl ?_
    refine WL.alloc GOk.no ze38 fun w9 hg9 hb9 hz9 => ?_
    refine WL.stAll GOk.no sh38 rfl rfl hb9 rfl rfl (by simp [Value.cells, Value.oneCell']) fun w10 hg10 hz10 hb10 => ?_
    refine WL.nil ?_
    refine WC.region ?_
    refine WL.pure rfl ?_
    refine WL.ldAgg GOk.no sh38 rfl rfl hb10.at_ ?_
    refine WL.bldS (e := 38) (cs := (encE p.2).toArray) GOk.no rfl (by kernel_rfl) fun w11 hg11 hb11 hz11 => ?_
    have hown8 := hown.step hg8 (.inl fun e => by have := hbge _ e; omega) (fun _ hc => hc.elim)
    have h11 : Below w8.heap.size w8 w11 := Bg (Br (below_gb hg9) hg10 (Nat.le_refl _)) hg11
    have hown11 := hown8.move (fun j hj => h11.block j (hown8.blt j hj)) (fun _ hc => hc.elim)
    have hW8 : Below w.heap.size w w8 := Br hBu hg8 (Nat.le_refl _)
    have hW11 : Below w.heap.size w w11 := B2 hW8 h11
    have hvlt := hi8.len
    refine WL.app (r := rEnt) (ys := [p.2]) (by decide) GOk.no el39 rfl (by decide) rfl rfl hown11 (RowE.box (cs := encE p.2) hb11 (Reps.one rEnt_mk rfl)) (by have := h11.size; have := hg8.size; omega) (by
      simp at hvlt ⊢; omega) fun v12 w12 ho12 hg12 hx12 => ?_
    refine WL.pure rfl (WL.nil ?_)
    have hi11 := hi8.move (h11.block _ hi8.lt.1) (h11.block _ hi8.lt.2.1) (fun _ hc => hc.elim)
    refine ⟨rfl, (vis ++ [p], v12), .cons rfl (.cons rfl (.cons rfl (.nil _))), ⟨hi11.step hg12 (fun e => by have := hbge _ e.symm; omega) (fun e => by have := hbge _ e.symm; omega) (fun _ hc => hc.elim), by simpa using ho12, by have := hg12.size; have := h11.size; have := hg8.size; omega, hW11.grown hg12 hW11.size (fun j hj => by have := hbge j hj; omega)⟩, ?_⟩
    simp at hvlt ⊢; omega
end Go.Proofs.YtfgbplbohekghaaDoor
