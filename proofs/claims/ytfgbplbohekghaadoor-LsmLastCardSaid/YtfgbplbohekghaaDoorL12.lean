/- Rules for a statement whose order is open in more than one way: each order is walked, those that only read first. No condition. -/
import Derived.Test.YtfgbplbohekghaaDoorL11
set_option linter.unusedVariables false
set_option linter.unusedSimpArgs false
namespace Go.Wl
open Go.RowKit
section
variable (P : Program) (n : Nat) (S : World → Prop) (X : Cont) (pan : PCont)
def WT : Tr → Cont
  | .fin, s, ds, w => X s ds w
  | .stop, _, _, _ => True
  | .quiet o t, s, ds, w => S w ∧ ∃ v, ((GOk s o.guard ∧ ∀ w', S w' → Op1 P n s ds w' o.op v) ∨ (v = undef ∧ ∃ d want, o.guard = some (d, want) ∧ find d s = some (.bool (!want)))) ∧ WT t (push o.dst v s) ds w
  | .alt o t r, s, ds, w => WL P n [o] (fun s' ds' w' => S w' ∧ WT t s' ds' w') pan s ds w ∧ WT r s ds w
end
section
variable {P : Program} {n : Nat} {nor ret : Cont} {brk : List (Nat × Cont)} {pan : PCont} {s : Sl} {ds : List Deferred} {w : World} {X : Cont} {S : World → Prop} {ops : Array Oper} {QQ : Exit → Act → World → Prop}

theorem quiet_free {listed : Array Bool} {i : Nat} (h : quietOf ops listed = some i) : i ∈ Region.ready .any ops listed ∧ Region.free .any ops listed i = true := by
  have h1 := List.mem_of_find?_eq_some h
  have h2 := List.find?_some h
  refine ⟨h1, ?_⟩
  split at h2
  · simp only [Bool.and_eq_true] at h2; exact h2.2
  · cases h2

theorem alts_mem {g : Nat → Option (SOp × Tr)} {s : Sl} {ds : List Deferred} {w : World} : ∀ {l : List Nat} {t : Tr}, altsOf g l = some t → WT P n S X pan t s ds w → ∀ i ∈ l, ∃ o t', g i = some (o, t') ∧ WL P n [o] (fun s' ds' w' => S w' ∧ WT P n S X pan t' s' ds' w') pan s ds w
  | [], _, _, _, i, hi => by cases hi
  | j :: l, t, ht, hw, i, hi => by
    simp only [altsOf] at ht
    split at ht
    · rename_i o t' r h1 h2
      cases ht
      rcases List.mem_cons.1 hi with rfl | hi
      · exact ⟨o, t', h1, hw.1⟩
      · exact alts_mem h2 hw.2 i hi
    · cases ht

theorem wpAnyJ_of_tree (hs : Region.noSelect ops = true) (hq : PanOk QQ) (hn : ∀ a w s ds, Fr n s ds a → X s ds w → QQ .normal a w) (hp : ∀ ch a w s ds, Fr n s ds a → pan ch ds w → QQ (.panic ch) a w) :
    ∀ (f : Nat) (listed : Array Bool) (t : Tr) (a : Act) (w : World) (s : Sl) (ds : List Deferred), treeOf n ops f listed = some t → Down .any ops listed → Fr n s ds a → WT P n S X pan t s ds w → wpAnyJ P .any ops QQ (fun _ => true) S f listed a w
  | 0, listed, t, a, w, s, ds, ht, hd, ha, h => by
    simp only [treeOf] at ht
    split at ht
    · rename_i h0
      cases ht
      exact ⟨h0, hn a w s ds ha h⟩
    · cases ht
  | f + 1, listed, t, a, w, s, ds, ht, hd, ha, h => by
    simp only [treeOf] at ht
    split at ht
    · rename_i i hi
      split at ht
      · rename_i oo ho
        split at ht
        · rename_i o t' h1 h2
          cases ht
          obtain ⟨hw, v, hv, hr⟩ := h
          obtain ⟨h3, h4⟩ := quiet_free hi
          have hy : YieldsIf P ops S oo v a := by
            rcases hv with ⟨hg, hv⟩ | ⟨rfl, d, want, hg, hf⟩
            · exact .inl ⟨ha.wanted h1 hg, fun w' hS => hv w' hS a ha oo (simpOp_spec h1).2.2.1.symm⟩
            · refine .inr ⟨?_, rfl⟩
              obtain ⟨_, _, _, h5⟩ := simpOp_spec h1
              rcases h5 with ⟨hg1, hg2⟩ | ⟨j, want', oj, d', hg1, hj, hdj, hg2⟩
              · rw [hg2] at hg; cases hg
              · rw [hg2] at hg
                cases hg
                have := ha.at_ _ _ hf
                simp [Region.wanted, hg1, yielded, hj, hdj, this]
          refine wpAnyJ_first ho (Region.noSelect_spec hs) (fun c a' w' => hq c a' _ v w') (fun j hj hD => by cases hD) f listed a w hd (Region.free_spec ho h4) h3 hy hw ?_
          exact wpAnyJ_of_tree hs hq hn hp f _ t' _ w _ ds h2 (hd.set h3) (ha.pushed h1 v) hr
        · cases ht
      · cases ht
    · rename_i hnone
      split at ht
      · rename_i h0
        cases ht
        exact ⟨fun _ => hn a w s ds ha h, fun i hi => by rw [h0] at hi; cases hi⟩
      · rename_i hne
        refine ⟨fun h0 => absurd h0 hne, fun i hi => ?_⟩
        obtain ⟨o, t', hg, hw⟩ := alts_mem ht h i hi
        split at hg
        · rename_i oo ho
          split at hg
          · rename_i o' t'' h1 h2
            cases hg
            refine wpOp_of_list ho (hw ops [oo] (.cons h1 .nil) (QK (fun a' w' => ((fun _ => true) i = true → S w') ∧ wpAnyJ P .any ops QQ (fun _ => true) S f (listed.setIfInBounds i true) a' w') QQ)
              (fun a' w' s' ds' ha' h' => ⟨fun _ => h'.1, wpAnyJ_of_tree hs hq hn hp f _ t' a' w' s' ds' h2 (hd.set hi) ha' h'.2⟩) (fun ch a' w' s' ds' ha' h' => hp ch a' w' s' ds' ha' h') a ha)
          · cases hg
        · cases hg

theorem WC.tree {t : Tr} (S : World → Prop) (hm : P.follows .mixedOrders = true) (h : ∀ w1, w.grownBy w1 none → w1.heap = w.heap → WT P n S nor pan t s ds w1) : WC P n (.tree t) nor brk ret pan s ds w := by
  intro code hc a ha
  obtain ⟨id, ops, rfl, h2, h3⟩ := simp?_tree hc
  refine wp_region_any hm (wpAny_of_J (D := fun _ => true) (S := S) _ _ _ _ ?_)
  exact wpAnyJ_of_tree h2 Q_panOk (fun a w s ds ha h => ⟨s, ds, ha, h⟩) (fun ch a w s ds ha h => ⟨ha.size, by rw [ha.defers]; exact h⟩) _ _ t a _ s ds h3 (Down.start _) ha (h { w with drawn := w.drawn + 1 } ⟨rfl, rfl, rfl, Nat.le_refl _, fun _ _ _ => rfl⟩ rfl)

variable {t r : Tr} {d0 : Option Nat} {op : Op} {v : Value} {g : Option (Nat × Bool)}
theorem WT.nil (h : X s ds w) : WT P n S X pan .fin s ds w := h
theorem WT.stop : WT P n S X pan .stop s ds w := trivial
theorem WT.o (hg : GOk s g) (hw : S w) (hv : ∀ w', S w' → Op1 P n s ds w' op v) (h : WT P n S X pan t (push d0 v s) ds w) : WT P n S X pan (.quiet ⟨d0, op, g⟩ t) s ds w := ⟨hw, v, .inl ⟨hg, hv⟩, h⟩
theorem WT.p (hw : S w) (hv : pv s op = some v) (h : WT P n S X pan t (push d0 v s) ds w) : WT P n S X pan (.quiet ⟨d0, op, none⟩ t) s ds w := WT.o GOk.no hw (fun w' _ => o_pure hv) h
theorem WT.gp {d : Nat} {want : Bool} (hw : S w) (hf : find d s = some (.bool want)) (hv : pv s op = some v) (h : WT P n S X pan t (push d0 v s) ds w) : WT P n S X pan (.quiet ⟨d0, op, some (d, want)⟩ t) s ds w := WT.o (GOk.yes hf) hw (fun w' _ => o_pure hv) h
theorem WT.offT {d : Nat} (hw : S w) (hf : find d s = some (.bool false)) (h : WT P n S X pan t (push d0 undef s) ds w) : WT P n S X pan (.quiet ⟨d0, op, some (d, true)⟩ t) s ds w := ⟨hw, undef, .inr ⟨rfl, d, true, rfl, hf⟩, h⟩
theorem WT.offF {d : Nat} (hw : S w) (hf : find d s = some (.bool true)) (h : WT P n S X pan t (push d0 undef s) ds w) : WT P n S X pan (.quiet ⟨d0, op, some (d, false)⟩ t) s ds w := ⟨hw, undef, .inr ⟨rfl, d, false, rfl, hf⟩, h⟩
theorem WT.alt {o : SOp} (h : WL P n [o] (fun s' ds' w' => S w' ∧ WT P n S X pan t s' ds' w') pan s ds w) (hr : WT P n S X pan r s ds w) : WT P n S X pan (.alt o t r) s ds w := ⟨h, hr⟩
theorem WT.one {o : SOp} (h : WL P n [o] (fun s' ds' w' => S w' ∧ WT P n S X pan t s' ds' w') pan s ds w) : WT P n S X pan (.alt o t .stop) s ds w := ⟨h, trivial⟩
end
end Go.Wl
