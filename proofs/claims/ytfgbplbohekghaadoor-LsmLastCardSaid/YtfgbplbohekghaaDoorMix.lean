/- table.Mix. -/
import Derived.Test.YtfgbplbohekghaaDoorCode
import Derived.Test.YtfgbplbohekghaaDoorTy
import Derived.Test.YtfgbplbohekghaaDoorRowX
import Derived.Test.YtfgbplbohekghaaDoorL10
import Derived.Test.YtfgbplbohekghaaDoorSortE
import Derived.Test.YtfgbplbohekghaaDoorInsert
set_option linter.unusedVariables false
set_option maxRecDepth 2000
namespace Go.Proofs.YtfgbplbohekghaaDoor
open Go.Wl Go.RowKit

noncomputable abbrev kStrE := strK (P := Tryd.prog) (K := 9) Tryd.underlying9
def vEnt : VRep Ent := rEnt.vA
noncomputable def addE (m : List (ByteArray × Ent)) (e : Ent) : List (ByteArray × Ent) := match getM kStrE m e.key with
  | some _ => m
  | none => m ++ [(e.key, e)]
noncomputable def mixL (m : List (ByteArray × Ent)) (l : List Ent) : List (ByteArray × Ent) := l.foldl addE m
noncomputable def mixAll (ls : List (List Ent)) : List (ByteArray × Ent) := ls.foldl mixL []
theorem addE_len (m : List (ByteArray × Ent)) (e : Ent) : (addE m e).length ≤ m.length + 1 := by unfold addE; split <;> simp
theorem mixL_len (l : List Ent) : ∀ m, (mixL m l).length ≤ m.length + l.length := by
  induction l with
  | nil => intro m; exact Nat.le_refl _
  | cons e l ih =>
    intro m
    have h1 := ih (addE m e)
    have h2 := addE_len m e
    simp only [mixL, List.foldl_cons, List.length_cons] at *
    omega
theorem foldL_len (ls : List (List Ent)) : ∀ m, (ls.foldl mixL m).length ≤ m.length + (ls.map List.length).sum := by
  induction ls with
  | nil => intro m; simp
  | cons l ls ih =>
    intro m
    have h1 := ih (mixL m l)
    have h2 := mixL_len l m
    simp only [List.foldl_cons, List.map_cons, List.sum_cons] at *
    omega
theorem mixAll_len (ls : List (List Ent)) : (mixAll ls).length ≤ (ls.map List.length).sum := by have h := foldL_len ls []; rw [List.length_nil, Nat.zero_add] at h; exact h
theorem mix_look {w : World} {ok : Nat → Prop} {b : Nat} {m : List (ByteArray × Ent)} (q : ByteArray) (hm : MapAt kStrE vEnt ok w b m) :
    ∃ x0 bo, (∀ (n : Nat) (s : Sl) (ds : List Deferred) (x y : Operand), Wl.val s x = some (.map (some b)) → Wl.val s y = some (.string q) → Op1 Tryd.prog n s ds w (.lookup 47 x y true) (.tuple #[.agg (encE x0).toArray, .bool bo])) ∧ ((bo = false ∧ getM kStrE m q = none) ∨ (bo = true ∧ ∃ u, getM kStrE m q = some u)) := by
  obtain ⟨v, bo, h1, h2⟩ := run_look (k := kStrE) (r := vEnt) Tryd.underlying47 ze38 hm q true
  have h1' : (Instr.lookup 47 (.map (some b)) (.string q) true).run Tryd.prog w = .ok (.tuple #[v, .bool bo]) w := h1
  have hop : ∀ (n : Nat) (s : Sl) (ds : List Deferred) (x y : Operand), Wl.val s x = some (.map (some b)) → Wl.val s y = some (.string q) → Op1 Tryd.prog n s ds w (.lookup 47 x y true) (.tuple #[v, .bool bo]) := fun n s ds x y hx hy a ha oo ho => by
    unfold execOp; rw [ho]
    simp only [ha.val hx, ha.val hy, Sem.run_bind, h1']
    rfl
  rcases h2 with ⟨h3, rfl, rfl⟩ | ⟨u, h3, ⟨cs, rfl, h4⟩, rfl⟩
  · exact ⟨⟨{ data := #[] }, { data := #[] }, false⟩, false, hop, .inl ⟨rfl, h3⟩⟩
  · obtain rfl := rEnt_open h4
    exact ⟨u, true, hop, .inr ⟨rfl, u, h3⟩⟩
theorem Row.ents {ok : Nat → Prop} {w : World} {A : Option Addr} {ls : List (List Ent)} (h : Row rLE ok w A ls) (i : Nat) (hi : i < ls.length) :
    ∃ ad A' c, A = some ad ∧ w.cell? (ad.add (i * 1)) = some (.slice A' ls[i].length c) ∧ ls[i].length ≤ c ∧ Row rEnt ok w A' ls[i] := by
  obtain ⟨ad, cs, h1, _, ⟨v, rfl, A', c, rfl, hc, hr⟩, h3⟩ := h.get i hi
  have h4 := h3 0 _ rfl
  rw [add_zero'] at h4
  exact ⟨ad, A', c, h1, h4, hc, hr⟩
theorem table_Mix_calls {ok : Nat → Prop} (A : Option Addr) (c : Nat) (ls : List (List Ent)) (w : World) (hss : Row rLE ok w A ls) (hsum : (ls.map List.length).sum ≤ 1000000) : Calls Tryd.prog 25 #[.slice A ls.length c, .bool true] w fun e w' => ∃ v xs, e = .returned v ∧ xs.Perm ((mixAll ls).map (·.2)) ∧ xs.Pairwise (fun a b => ¬ blt b.key a.key) ∧ Own rEnt 38 w.heap.size (fun _ => False) w' v xs ∧ Below w.heap.size w w' := by
  refine enter F25 rfl rfl ?_
  have hla := hss.1
  refine WC.seq ?_
  refine WC.region ?_
  refine WL.pure rfl ?_
  refine WL.nil ?_
  refine WC.seq ?_
  refine WC.region ?_
  refine WL.mkMap kStrE vEnt (fun _ => False) GOk.no fun w1 hg1 hm1 hz1 => ?_
  have hW1 : Below w.heap.size w w1 := Bg (Below.refl _ _) hg1
  refine WL.pure rfl ?_
  refine WL.nil ?_
  refine WC.seq ?_
  refine WC.seq ?_
  refine WC.region ?_
  refine WL.pure rfl ?_
  refine WL.lenS GOk.no Tryd.underlying48 rfl ?_
  refine WL.pure rfl ?_
  refine WL.nil ?_
  refine WC.block ?_
  refine WC.loop (σ := Nat) (fun k => [(1, .bool true), (4, .slice none 0 0), (5, .map (some w.heap.size)), (16, .slice A ls.length c), (17, .int .i64 (ls.length : Int)), (18, .int .i64 (k : Int))])
    (fun k w' => k ≤ ls.length ∧ MapAt kStrE vEnt (fun _ => False) w' w.heap.size (mixAll (ls.take k)) ∧ Below w.heap.size w w') (fun k => ls.length - k) 0 ⟨by omega, hm1, hW1⟩ (.cons rfl (.cons rfl (.cons rfl (.cons rfl (.cons rfl (.cons rfl (.nil _))))))) ?_
  rintro k w' ⟨hk, hmap, hB⟩
  refine WC.seq ?_
  refine WC.region ?_
  refine WL.pure rfl ?_
  refine WL.nil ?_
  refine WC.seq ?_
  refine WC.condD rfl (fun hc19 => ?_) (fun hc19 => ?_)
  · -- t19 = true
    refine WC.skip ?_
    refine WC.seq ?_
    refine WC.block ?_
    refine WC.seq ?_
    refine WC.region ?_
    have hka : k < ls.length := by omega
    obtain ⟨ad, A', c', rfl, hat, hc', hrow⟩ := Row.ents hss k hka
    have hlr := hrow.1
    refine WL.idxAddr GOk.no el48 rfl rfl (by omega) (by omega) ?_
    refine WL.ld GOk.no sh39 rfl (Bc hB hat) ?_
    refine WL.pure rfl ?_
    refine WL.nil ?_
    refine WC.seq ?_
    refine WC.region ?_
    refine WL.pure rfl ?_
    refine WL.lenS GOk.no Tryd.underlying39 rfl ?_
    refine WL.pure rfl ?_
    refine WL.nil ?_
    refine WC.block ?_
    refine WC.loop (σ := Nat) (fun j => [(1, .bool true), (4, .slice none 0 0), (5, .map (some w.heap.size)), (16, .slice (some ad)  ls.length c), (17, .int .i64 (ls.length : Int)), (18, .int .i64 (k : Int)), (22, .slice A' ls[k].length c'), (23, .int .i64 (ls[k].length : Int)), (24, .int .i64 (j : Int))])
      (fun j w' => j ≤ ls[k].length ∧ MapAt kStrE vEnt (fun _ => False) w' w.heap.size (mixL (mixAll (ls.take k)) (ls[k].take j)) ∧ Below w.heap.size w w') (fun j => ls[k].length - j) 0 ⟨by omega, hmap, hB⟩ (.cons rfl (.cons rfl (.cons rfl (.cons rfl (.cons rfl (.cons rfl (.cons rfl (.cons rfl (.cons rfl (.nil _)))))))))) ?_
    rintro j w2' ⟨hj, hmap2, hB2'⟩
    refine WC.seq ?_
    refine WC.region ?_
    refine WL.pure rfl ?_
    refine WL.nil ?_
    refine WC.seq ?_
    refine WC.condD rfl (fun hc25 => ?_) (fun hc25 => ?_)
    · -- t25 = true
      refine WC.skip ?_
      refine WC.seq ?_
      refine WC.block ?_
      refine WC.seq ?_
      refine WC.region ?_
      have hja : j < ls[k].length := by omega
      obtain ⟨ad2, rfl, hat2⟩ := hrow.ent j hja
      refine WL.idxAddr GOk.no el39 rfl rfl (by omega) (by omega) ?_
      refine WL.ldAgg GOk.no sh38 rfl rfl (Ba hB2' hat2) ?_
      refine WL.alloc GOk.no ze38 fun w2 hg2 hb2 hz2 => ?_
      have hW2 : Below w.heap.size w w2 := Bg hB2' hg2
      refine WL.stAll GOk.no sh38 rfl rfl hb2 rfl rfl (by simp [Value.cells, Value.oneCell']) fun w3 hg3 hz3 hb3 => ?_
      have hW3 : Below w.heap.size w w3 := Br hW2 hg3 (hB2'.size)
      refine WL.nil ?_
      refine WC.seq ?_
      refine WC.region ?_
      refine WL.pure rfl ?_
      refine WL.fldAddr GOk.no fo38_0 rfl ?_
      refine WL.ld GOk.no sh9 rfl ((hb3.cell 0).trans rfl) ?_
      have h3 : Below w2'.heap.size w2' w3 := Br (below_gb hg2) hg3 (Nat.le_refl _)
      have hmap3 := hmap2.move (h3.block _ hmap2.lt) (fun _ hc => hc.elim)
      obtain ⟨x0, bo, hl32, hc32⟩ := mix_look ls[k][j].key hmap3
      refine WL.val GOk.no (hl32 _ _ _ _ _ rfl rfl) ?_
      refine WL.pure rfl ?_
      refine WL.pure rfl ?_
      refine WL.pure rfl ?_
      refine WL.alloc GOk.no ze38 fun w4 hg4 hb4 hz4 => ?_
      -- the found one's own copy
      have hW4 : Below w.heap.size w w4 := Bg hW3 hg4
      have hb9_1 := Box.step hb3 hg4 (by simp)
      refine WL.stAll GOk.no sh38 rfl rfl hb4 rfl rfl (by simp [Value.cells, Value.oneCell', encE]) fun w5 hg5 hz5 hb5 => ?_
      have hW5 : Below w.heap.size w w5 := Br hW4 hg5 (hW3.size)
      have hb9_2 := Box.step hb9_1 hg5 (by simp; omega)
      refine WL.pure rfl ?_
      refine WL.nil ?_
      have h5 : Below w2'.heap.size w2' w5 := Br (Bg h3 hg4) hg5 (by have := h3.size; omega)
      have hmap5 := hmap2.move (h5.block _ hmap2.lt) (fun _ hc => hc.elim)
      refine WC.seq ?_
      refine WC.region ?_
      refine WL.pure rfl ?_
      refine WL.pure rfl ?_
      refine WL.nil ?_
      refine WC.cond rfl (fun hc36 => ?_) (fun hc36 => ?_)
      · -- t36 = true
        refine WC.region ?_
        refine WL.pure rfl ?_
        refine WL.fldAddr GOk.no fo38_0 rfl ?_
        refine WL.ld GOk.no sh9 rfl ((hb9_2.cell 0).trans rfl) ?_
        refine WL.ldAgg GOk.no sh38 rfl rfl hb9_2.at_ ?_
        refine WL.upd GOk.no Tryd.underlying47 rfl rfl rfl hmap5 ⟨_, rfl, rEnt_mk⟩ (fun h => h) fun w6 hg6 hz6 hm6 => ?_
        refine WL.nil ?_
        refine WC.region ?_
        refine WL.addI GOk.no rfl rfl (in_i64 (by omega) (by omega)) ?_
        refine WL.pure rfl ?_
        refine WL.nil ?_
        have hW6 : Below w.heap.size w w6 := Br hW5 hg6 (Nat.le_refl _)
        have hget : getM kStrE (mixL (mixAll (ls.take k)) (ls[k].take j)) ls[k][j].key = none := by
          rcases hc32 with ⟨_, h⟩ | ⟨h, _⟩
          · exact h
          · subst h; cases hc36
        have hm6' : MapAt kStrE vEnt (fun _ => False) w6 w.heap.size (mixL (mixAll (ls.take k)) (ls[k].take (j + 1))) := by
          rw [List.take_succ_eq_append_getElem hja]
          rw [setM_new hget] at hm6
          have e : mixL (mixAll (ls.take k)) (ls[k].take j ++ [ls[k][j]]) = mixL (mixAll (ls.take k)) (ls[k].take j) ++ [(ls[k][j].key, ls[k][j])] := by
            unfold mixL at hget ⊢
            rw [List.foldl_append, List.foldl_cons, List.foldl_nil, addE, hget]
          rw [e]; exact hm6
        refine ⟨rfl, j + 1,  (.cons rfl (.cons rfl (.cons rfl (.cons rfl (.cons rfl (.cons rfl (.cons rfl (.cons rfl (.cons rfl (.nil _)))))))))), ⟨by omega, hm6', hW6⟩, by omega⟩
      · -- t36 = false
        refine WC.skip ?_
        refine WC.region ?_
        refine WL.addI GOk.no rfl rfl (in_i64 (by omega) (by omega)) ?_
        refine WL.pure rfl ?_
        refine WL.nil ?_
        have hm5' : MapAt kStrE vEnt (fun _ => False) w5 w.heap.size (mixL (mixAll (ls.take k)) (ls[k].take (j + 1))) := by
          rcases hc32 with ⟨h, _⟩ | ⟨_, u, h⟩
          · subst h; cases hc36
          · rw [List.take_succ_eq_append_getElem hja]
            have e : mixL (mixAll (ls.take k)) (ls[k].take j ++ [ls[k][j]]) = mixL (mixAll (ls.take k)) (ls[k].take j) := by
              unfold mixL at h ⊢
              rw [List.foldl_append, List.foldl_cons, List.foldl_nil, addE, h]
            rw [e]; exact hmap5
        refine ⟨rfl, j + 1,  (.cons rfl (.cons rfl (.cons rfl (.cons rfl (.cons rfl (.cons rfl (.cons rfl (.cons rfl (.cons rfl (.nil _)))))))))), ⟨by omega, hm5', hW5⟩, by omega⟩
    · -- t25 = false
      refine WC.exit rfl ?_
      refine WC.region ?_
      refine WL.addI GOk.no rfl rfl (in_i64 (by omega) (by omega)) ?_
      refine WL.pure rfl ?_
      refine WL.nil ?_
      obtain rfl : j = ls[k].length := by omega
      have hm0 : MapAt kStrE vEnt (fun _ => False) w2' w.heap.size (mixAll (ls.take (k + 1))) := by
        rw [List.take_length] at hmap2
        rw [List.take_succ_eq_append_getElem hka]
        unfold mixAll at hmap2 ⊢
        rw [List.foldl_append]
        exact hmap2
      refine ⟨rfl, k + 1, (.cons rfl (.cons rfl (.cons rfl (.cons rfl (.cons rfl (.cons rfl (.nil _))))))), ⟨by omega, hm0, hB2'⟩, by omega⟩
  · -- t19 = false
    refine WC.exit rfl ?_
    refine WC.seq ?_
    refine WC.region ?_
    refine WL.pure rfl ?_
    refine WL.nil ?_
    refine WC.seq ?_
    refine WC.seq ?_
    refine WC.region ?_
    refine WL.pure rfl ?_
    obtain rfl : k = ls.length := by omega
    rw [List.take_length] at hmap
    have hmlen := mixAll_len ls
    refine WL.range GOk.no Tryd.underlying47 rfl hmap fun w7 hg7 hi7 hz7 => ?_
    have hW7 : Below w.heap.size w w7 := Bg hB hg7
    refine WL.nil ?_
    refine WC.block ?_
    refine WC.loop (σ := List (ByteArray × Ent) × Value) (fun y => [(1, .bool true), (4, .slice none 0 0), (12, y.2), (44, .pointer (some ⟨w'.heap.size, 0, none⟩))])
      (fun y u' => IterAt kStrE vEnt (fun _ => False) u' w'.heap.size w.heap.size (mixAll ls) y.1 ∧ Own rEnt 38 (w'.heap.size + 1) (fun _ => False) u' y.2 (y.1.map (·.2)) ∧ w7.heap.size ≤ u'.heap.size ∧ Below w.heap.size w u') (fun y => (mixAll ls).length - y.1.length) ([], .slice none 0 0)
      ⟨hi7, Own.nil _ _ _ _ _, Nat.le_refl _, hW7⟩ (.cons rfl (.cons rfl (.cons rfl (.cons rfl (.nil _))))) ?_
    rintro ⟨vis, v⟩ u' ⟨hI, hown, hge, hBu⟩
    dsimp only at hI hown
    have hbge : ∀ j, v.ownBlock = some j → w'.heap.size + 1 ≤ j := fun j hj => hown.bge j hj
    have hbm : w.heap.size < w'.heap.size := hmap.lt
    refine WC.rseq ?_
    refine WL.next GOk.no rfl hI (fun h => h) (fun hp => ?_) (fun p u q w8 hpm hpv hg8 hz8 hi8 hv8 he8 => ?_)
    · refine WL.pure rfl (WL.nil ?_)
      refine WC.seq (WC.condF rfl rfl ?_)
      refine WC.exit rfl ?_
      refine WC.rseq ?_
      refine WL.pure rfl ?_
      have hlen : (vis.map (·.2)).length = (mixAll ls).length := by rw [List.length_map, hp.length_eq]
      obtain ⟨A9, c9, rfl, hc9, _⟩ := hown.len
      have hsort : Calls Tryd.prog 41 #[.slice A9 (vis.map (·.2)).length c9, .func (.func 42) #[] #[]] u' fun e w2 => e = .returned (.tuple #[]) ∧
          ∃ xs', xs'.Perm (vis.map (·.2)) ∧ xs'.Pairwise (fun a b => ¬ blt b.key a.key) ∧ Own rEnt 38 (w'.heap.size + 1) (fun _ => False) w2 (.slice A9 (vis.map (·.2)).length c9) xs' ∧ Below w.heap.size w w2 := by
        have hown' := hown
        obtain ⟨cs, ⟨hcl, ho⟩, hr⟩ := hown'
        rcases ho with ⟨e0, h0⟩ | ⟨g, cap, cur, e0, _⟩
        · injection e0 with eA eL eC
          subst eA; subst eC
          have h1 : vis.map (·.2) = [] := List.length_eq_zero_iff.1 h0
          have hcon := Go.Proofs.AnyF.slices_SortFunc_none Tryd.sortEn none 0 (.func (.func 42) #[] #[]) u'
          change Calls Tryd.prog 41 _ _ _ at hcon
          rw [h1] at hown ⊢
          refine hcon.mono ?_
          rintro e w2 ⟨rfl, rfl⟩
          exact ⟨rfl, [], .refl _, List.Pairwise.nil, hown, hBu⟩
        · cases e0
          refine (sortEnts_calls hown (by omega)).mono ?_
          rintro e w2 ⟨rfl, xs', h1, h2, h3, h4⟩
          exact ⟨rfl, xs', h1, h2, h3, Br hBu h4 (by have := hbge g rfl; omega)⟩
      refine WL.call GOk.no F41 rfl hsort ?_
      rintro e w3 ⟨rfl, xs', hp', hpw, hown3, hB3⟩
      refine ⟨_, rfl, WL.nil ?_⟩
      refine WC.rseq (WL.pure rfl (WL.pure rfl (WL.nil ?_)))
      exact WC.retn (Ret1 rfl ⟨_, xs', rfl, hp'.trans (hp.map _), hpw, hown3.base (by omega), hB3⟩)
    · refine WL.pure rfl (WL.nil ?_)
      obtain ⟨cs, rfl, h4⟩ := hv8
      obtain rfl := rEnt_open h4
      refine WC.seq (WC.condT rfl rfl ?_)
      refine WC.skip ?_
      refine WC.block ?_
      refine WC.rseq ?_
      refine WL.entry GOk.no rfl he8 ?_
      refine WL.pure rfl ?_
      refine WL.alloc GOk.no ze38 fun w9 hg9 hb9 hz9 => ?_
      refine WL.stAll GOk.no sh38 rfl rfl hb9 rfl rfl (by simp [Value.cells, Value.oneCell']) fun w10 hg10 hz10 hb10 => ?_
      refine WL.nil ?_
      refine WC.rseq ?_
      refine WL.pure rfl (WL.pure rfl ?_)
      refine WL.caseB (d := 50) rfl (fun h50 => ?_) (fun h50 => by cases h50)
      refine WL.offF rfl (WL.offF rfl (WL.offF rfl (WL.pure rfl (WL.nil ?_))))
      refine WC.condT rfl rfl ?_
      refine WC.region ?_
      refine WL.pure rfl ?_
      refine WL.ldAgg GOk.no sh38 rfl rfl hb10.at_ ?_
      refine WL.bldS (e := 38) (cs := (encE p.2).toArray) GOk.no rfl (by kernel_rfl) fun w11 hg11 hb11 hz11 => ?_
      have hown8 := hown.step hg8 (.inl fun e => by have := hbge _ e; omega) (fun _ hc => hc.elim)
      have h11 : Below w8.heap.size w8 w11 := Bg (Br (below_gb hg9) hg10 (Nat.le_refl _)) hg11
      have hown11 := hown8.move (fun j hj => h11.block j (hown8.blt j hj)) (fun _ hc => hc.elim)
      have hW8 : Below w.heap.size w w8 := Br hBu hg8 (Nat.le_of_lt hbm)
      have hW11 : Below w.heap.size w w11 := B2 hW8 h11
      have hvlt := hi8.len
      refine WL.app (r := rEnt) (ys := [p.2]) (by decide) GOk.no el39 rfl (by decide) rfl rfl hown11 (RowE.box (cs := encE p.2) hb11 (Reps.one rEnt_mk rfl)) (by have := h11.size; have := hg8.size; omega) (by
        simp at hvlt ⊢; omega) fun v12 w12 ho12 hg12 hx12 => ?_
      refine WL.pure rfl (WL.nil ?_)
      have hi11 := hi8.move (h11.block _ hi8.lt.1) (h11.block _ hi8.lt.2.1) (fun _ hc => hc.elim)
      refine ⟨rfl, (vis ++ [p], v12), .cons rfl (.cons rfl (.cons rfl (.cons rfl (.nil _)))), ⟨hi11.step hg12 (fun e => by have := hbge _ e.symm; omega) (fun e => by have := hbge _ e.symm; omega) (fun _ hc => hc.elim), by simpa using ho12, by have := hg12.size; have := h11.size; have := hg8.size; omega, hW11.grown hg12 hW11.size (fun j hj => by have := hbge j hj; omega)⟩, ?_⟩
      simp at hvlt ⊢; omega
end Go.Proofs.YtfgbplbohekghaaDoor
