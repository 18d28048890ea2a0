/- table.Build. -/
import Derived.Test.YtfgbplbohekghaaDoorCode
import Derived.Test.YtfgbplbohekghaaDoorTy
import Derived.Test.YtfgbplbohekghaaDoorRowX
import Derived.Test.YtfgbplbohekghaaDoorL10
import Derived.Test.YtfgbplbohekghaaDoorTEntry
import Derived.Test.YtfgbplbohekghaaDoorOrd
set_option linter.unusedVariables false
set_option maxRecDepth 2000
namespace Go.Proofs.YtfgbplbohekghaaDoor
open Go.Wl Go.RowKit

def entAt (l : List Ent) (i : Nat) : Prop := ∀ h : i < l.length, entOk l[i] ∧ ∀ (j : Nat) (hj : j + 1 = i), blt (l[j]'(by omega)).key l[i].key
/-- What table.Build lets pass. -/
def GoodE (l : List Ent) : Prop := l.length ≤ 400 ∧ ∀ i, entAt l i
def entB (x : Ent) : List Int := textB x.key ++ [if x.dead then 1 else 0] ++ textB x.value
def bodyB (l : List Ent) (k : Nat) : List Int := ((l.take k).map entB).flatten
def tableB (l : List Ent) : List Int := sealB (numV l.length ++ bodyB l l.length)
theorem bodyB_take (l : List Ent) (k : Nat) (hk : k < l.length) (d : Int) (hd : d = (if l[k].dead then 1 else 0)) : bodyB l (k + 1) = bodyB l k ++ (textB l[k].key ++ [d] ++ textB l[k].value) := by
  unfold bodyB
  rw [List.take_succ_eq_append_getElem hk, List.map_append, List.flatten_append, hd]
  simp [entB]
theorem bodyB_len (l : List Ent) : ∀ k, k ≤ l.length → (∀ i, i < k → entAt l i) → (bodyB l k).length ≤ 263 * k
  | 0, _, _ => by simp [bodyB]
  | k + 1, hk, h => by
    have ih := bodyB_len l k (by omega) (fun i hi => h i (by omega))
    have h1 := (h k (by omega) (by omega)).1
    rw [bodyB_take l k (by omega) _ rfl]
    have h2 := textB_len l[k].key
    have h3 := textB_len l[k].value
    have h4 := h1.1
    have h5 := h1.2.1
    simp only [List.length_append, List.length_cons, List.length_nil]
    omega
theorem table_Build_calls {ok : Nat → Prop} (A : Option Addr) (c : Nat) (l : List Ent) (w : World) (hl : Row rEnt ok w A l) : Calls Tryd.prog 15 #[.slice A l.length c] w fun e w' => ∃ v u, e = .returned (.tuple #[v, u]) ∧ isIf u = true ∧ (nilB u = true ↔ GoodE l) ∧ (GoodE l → Own rU8 5 w.heap.size (fun _ => False) w' v (tableB l)) ∧ Below w.heap.size w w' := by
  refine enter F15 rfl rfl ?_
  have hla := hl.1
  refine WC.seq ?_
  refine WC.region ?_
  refine WL.pure rfl ?_
  refine WL.pure rfl ?_
  refine WL.nil ?_
  refine WC.seq ?_
  refine WC.seq ?_
  refine WC.region ?_
  refine WL.pure rfl ?_
  refine WL.lenS GOk.no Tryd.underlying39 rfl ?_
  refine WL.pure rfl ?_
  refine WL.nil ?_
  refine WC.condD rfl (fun hc11 => ?_) (fun hc11 => ?_)
  · -- t11 = true
    refine WC.seq ?_
    refine WC.region ?_
    refine WL.mkIface GOk.no Tryd.underlying41 rfl rfl ?_
    refine WL.pure rfl ?_
    refine WL.pure rfl ?_
    refine WL.nil ?_
    refine WC.retn (Ret2 rfl rfl ⟨_, _, rfl, rfl, noNil (fun g => by have := g.1; omega), fun g => absurd g.1 (by omega), (Below.refl _ _)⟩)
  · -- t11 = false
    refine WC.skip ?_
    refine WC.seq ?_
    refine WC.region ?_
    refine WL.pure rfl ?_
    refine WL.lenS GOk.no Tryd.underlying39 rfl ?_
    refine WL.call GOk.no F26 rfl (frame_Num_calls l.length (fun _ => False) w) ?_
    rintro e w1 ⟨v1, rfl, ho1, hB1⟩; refine ⟨_, rfl, ?_⟩
    have hW1 : Below w.heap.size w w1 := B2 (Below.refl _ _) hB1
    refine WL.pure rfl ?_
    refine WL.nil ?_
    refine WC.seq ?_
    refine WC.seq ?_
    refine WC.region ?_
    refine WL.pure rfl ?_
    refine WL.lenS GOk.no Tryd.underlying39 rfl ?_
    refine WL.pure rfl ?_
    refine WL.nil ?_
    refine WC.block ?_
    refine WC.loop (σ := Nat × Value) (fun y => [(0, .slice A l.length c), (2, .slice none 0 0), (3, .nilIface), (4, y.2), (16, .slice A l.length c), (17, .int .i64 (l.length : Int)), (18, .int .i64 (y.1 : Int))])
      (fun y w' => y.1 ≤ l.length ∧ (∀ i, i < y.1 → entAt l i) ∧ Own rU8 5 w.heap.size (fun _ => False) w' y.2 (numV l.length ++ bodyB l y.1) ∧ Below w.heap.size w w') (fun y => l.length - y.1) (0, v1) ⟨Nat.zero_le _, fun i hi => absurd hi (by dsimp only; omega), by simpa [bodyB, numV] using ho1,  hW1⟩ (.cons rfl (.cons rfl (.cons rfl (.cons rfl (.cons rfl (.cons rfl (.cons rfl (.nil _)))))))) ?_
    rintro ⟨k, v⟩ w' ⟨hk, hall, hown, hB⟩
    dsimp only at hk hall hown
    refine WC.seq ?_
    refine WC.region ?_
    refine WL.pure rfl ?_
    refine WL.nil ?_
    refine WC.seq ?_
    refine WC.condD rfl (fun hc19 => ?_) (fun hc19 => ?_)
    · -- t19 = true
      refine WC.skip ?_
      refine WC.seq ?_
      refine WC.block ?_
      refine WC.seq ?_
      have hka : k < l.length := by dsimp only at hc19; omega
      obtain ⟨ad, rfl, hat⟩ := hl.ent k hka
      have hvne : some w'.heap.size ≠ v.ownBlock := fun e => by have := hown.blt _ e.symm; omega
      have hbl : (numV l.length ++ bodyB l k).length ≤ 200000 := by
        have h1 := bodyB_len l k hk hall
        have h2 := numV_len l.length
        rw [List.length_append]; omega
      refine WC.region ?_
      refine WL.pure rfl ?_
      refine WL.idxAddr GOk.no el39 rfl rfl (by omega) (by omega) ?_
      refine WL.ldAgg GOk.no sh38 rfl rfl (Ba hB hat) ?_
      refine WL.alloc GOk.no ze38 fun w2 hg2 hb2 hz2 => ?_
      have hW2 : Below w.heap.size w w2 := Bg hB hg2
      refine WL.pure rfl ?_
      refine WL.stAll GOk.no sh38 rfl rfl hb2 rfl rfl (by simp [Value.cells, Value.oneCell']) fun w3 hg3 hz3 hb3 => ?_
      have hW3 : Below w.heap.size w w3 := Br hW2 hg3 (hB.size)
      refine WL.nil ?_
      refine WC.seq ?_
      refine WC.seq ?_
      refine WC.region ?_
      refine WL.ldAgg GOk.no sh38 rfl rfl hb3.at_ ?_
      refine WL.call GOk.no F27 rfl (table_entry_calls l[k] w3) ?_
      rintro e w4 ⟨v4, rfl, hv4, hn4, hB4⟩; refine ⟨_, rfl, ?_⟩
      have hW4 : Below w.heap.size w w4 := B2 hW3 hB4
      have hb6_1 := Box.below hb3 hB4
      refine WL.pure rfl ?_
      refine WL.nil ?_
      refine WC.seq ?_
      refine WC.region ?_
      refine WL.pure rfl ?_
      refine WL.neNil GOk.no Tryd.underlying25 rfl hv4 ?_
      refine WL.nil ?_
      refine WC.cond rfl (fun hc26 => ?_) (fun hc26 => ?_)
      · -- t26 = true
        have hv4f : nilB v4 = false := by have h9 : (!nilB v4) = true := hc26; cases hx : nilB v4 <;> simp [hx] at h9 ⊢
        have hng : ¬ GoodE l := fun g => by rw [hn4.2 (g.2 k hka).1] at hv4f; cases hv4f
        refine WC.seq ?_
        refine WC.region ?_
        refine WL.pure rfl ?_
        refine WL.pure rfl ?_
        refine WL.pure rfl ?_
        refine WL.nil ?_
        refine WC.retn (Ret2 rfl rfl ⟨_, _, rfl, hv4, ⟨fun h => (by rw [show nilB v4 = true from h] at hv4f; cases hv4f), fun g => absurd g hng⟩, fun g => absurd g hng, hW4⟩)
      · -- t26 = false
        refine WC.skip ?_
        have hok : entOk l[k] := hn4.1 (by have h9 : (!nilB v4) = false := hc26; cases hx : nilB v4 <;> simp [hx] at h9 ⊢)
        have h5k : 0 < k → ∀ w0, Below w4.heap.size w4 w0 → w0.cell? ((ad.add (((k : Int) - 1).toNat * 3)).add 0) = some (.string (l[k - 1]).key) := by
          intro h0 w0 h
          obtain ⟨ad', e1, hat'⟩ := hl.ent (k - 1) (by omega)
          cases e1
          have e2 : ((k : Int) - 1).toNat = k - 1 := by omega
          rw [e2]
          exact Bc (B2 hW4 h) (hat' 0 _ rfl)
        have hstep : entOk l[k] → (∀ (j : Nat) (hj : j + 1 = k), blt (l[j]'(by omega)).key l[k].key) → ∀ i, i < k + 1 → entAt l i := fun h1 h2 i hi => by
          by_cases e : i = k
          · subst e; exact fun _ => ⟨h1, h2⟩
          · exact hall i (by omega)
        refine WC.seq ?_
        refine WC.cut (fun s1 d1 u1 => d1 = [] ∧ w4.grownBy u1 none ∧ (∀ (j : Nat) (hj : j + 1 = k), blt (l[j]'(by omega)).key l[k].key) ∧ Sub [(0, .slice (some ad) l.length c), (2, .slice none 0 0), (3, .nilIface), (4, v), (6, .pointer (some ⟨w'.heap.size, 0, none⟩)), (16, .slice (some ad) l.length c), (17, .int .i64 (l.length : Int)), (18, .int .i64 (k : Int))] s1) ?_ (fun s1 d1 u1 hJ => ?_)
        · refine WC.seq ?_
          refine WC.mix (Below w4.heap.size w4) (by kernel_rfl) fun w5 hg5 hh5 => ?_
          have hW5 : Below w.heap.size w w5 := Bg hW4 hg5
          have hS5 : Below w4.heap.size w4 w5 := below_gb hg5
          have hb6_2 := Box.step hb6_1 hg5 (by simp)
          refine WM.p hS5 rfl ?_
          refine WM.p hS5 rfl ?_
          refine WM.p hS5 rfl ?_
          refine WM.caseD (d := 30) rfl (fun h30 => ?_) (fun h30 => ?_)
          · -- t30 = true
            refine WM.gp hS5 rfl rfl ?_
            refine WM.gp hS5 rfl rfl ?_
            refine WM.o (GOk.yes rfl) hS5 (fun w0 hS0 => o_subI rfl rfl (in_i64 (by omega) (by omega))) ?_
            refine WM.o (GOk.yes rfl) hS5 (fun w0 hS0 => o_idxAddr el39 rfl rfl (by omega) (by omega)) ?_
            refine WM.o (GOk.yes rfl) hS5 (fun w0 hS0 => o_fldAddr fo38_0 rfl) ?_
            refine WM.o (GOk.yes rfl) hS5 (fun w0 hS0 => o_ld sh9 rfl (h5k (by omega) w0 hS0)) ?_
            refine WM.o (GOk.yes rfl) hS5 (fun w0 hS0 => o_fldAddr fo38_0 rfl) ?_
            refine WM.o (GOk.yes rfl) hS5 (fun w0 hS0 => o_ld sh9 rfl (Bc hS0 ((hb6_1.cell 0).trans rfl))) ?_
            refine WM.gp hS5 rfl rfl ?_
            refine WM.p hS5 rfl ?_
            refine WM.nil ?_
            refine WC.cond rfl (fun hc40 => ?_) (fun hc40 => ?_)
            · -- t40 = true
              refine WC.seq ?_
              refine WC.region ?_
              refine WL.mkIface GOk.no Tryd.underlying41 rfl rfl ?_
              refine WL.pure rfl ?_
              refine WL.pure rfl ?_
              refine WL.nil ?_
              refine WC.retn (Ret2 rfl rfl ⟨_, _, rfl, rfl, noNil (fun g => (by have h7 := (g.2 k hka).2 (k - 1) (by omega); have h9 : (!Op.bytesLess (l[k - 1]).key.toList (l[k]).key.toList) = true := hc40; rw [show Op.bytesLess (l[k - 1]).key.toList (l[k]).key.toList = true from h7] at h9; cases h9)), fun g => (by have h7 := (g.2 k hka).2 (k - 1) (by omega); have h9 : (!Op.bytesLess (l[k - 1]).key.toList (l[k]).key.toList) = true := hc40; rw [show Op.bytesLess (l[k - 1]).key.toList (l[k]).key.toList = true from h7] at h9; cases h9), hW5⟩)
            · -- t40 = false
              refine WC.skip ?_
              exact ⟨rfl, hg5, fun j hj => by obtain rfl : j = k - 1 := (by omega); have h9 : (!Op.bytesLess (l[k - 1]).key.toList (l[k]).key.toList) = false := hc40; simpa [blt] using h9, (.cons rfl (.cons rfl (.cons rfl (.cons rfl (.cons rfl (.cons rfl (.cons rfl (.cons rfl (.nil _)))))))))⟩
          · -- t30 = false
            refine WM.offT hS5 rfl ?_
            refine WM.offT hS5 rfl ?_
            refine WM.offT hS5 rfl ?_
            refine WM.offT hS5 rfl ?_
            refine WM.offT hS5 rfl ?_
            refine WM.offT hS5 rfl ?_
            refine WM.offT hS5 rfl ?_
            refine WM.offT hS5 rfl ?_
            refine WM.offT hS5 rfl ?_
            refine WM.p hS5 rfl ?_
            refine WM.nil ?_
            refine WC.condF rfl rfl ?_
            refine WC.skip ?_
            exact ⟨rfl, hg5, fun j hj => by omega, (.cons rfl (.cons rfl (.cons rfl (.cons rfl (.cons rfl (.cons rfl (.cons rfl (.cons rfl (.nil _)))))))))⟩
        · obtain ⟨rfl, hg5, hord, hsub⟩ := hJ
          refine WC.sub hsub ?_
          have hW5 : Below w.heap.size w u1 := Bg hW4 hg5
          have hb6_2 := Box.step hb6_1 hg5 (by simp)
          obtain ⟨w5, rfl⟩ : ∃ w5, w5 = u1 := ⟨_, rfl⟩
          have h5w : Below w'.heap.size w' w5 := Bg (B2 (Br (below_gb hg2) hg3 (Nat.le_refl _)) hB4) hg5
          have hown5 := hown.move (fun j hj => h5w.block j (hown.blt j hj)) (fun _ hc => hc.elim)
          refine WC.seq ?_
          refine WC.region ?_
          refine WL.pure rfl ?_
          refine WL.nil ?_
          refine WC.seq ?_
          refine WC.cut (fun s1 d1 u1 => d1 = [] ∧ w5 = u1 ∧ ∃ d : Int, d = (if l[k].dead then 1 else 0) ∧ Sub [(0, .slice (some ad) l.length c), (2, .slice none 0 0), (3, .nilIface), (4, v), (6, .pointer (some ⟨w'.heap.size, 0, none⟩)), (8, .int .u8 d), (16, .slice (some ad) l.length c), (17, .int .i64 (l.length : Int)), (18, .int .i64 (k : Int))] s1) ?_ (fun s1 d1 u1 hJ => ?_)
          · refine WC.seq ?_
            refine WC.region ?_
            refine WL.fldAddr GOk.no fo38_2 rfl ?_
            refine WL.ld GOk.no sh4 rfl ((hb6_2.cell 2).trans rfl) ?_
            refine WL.nil ?_
            refine WC.cond rfl (fun hc43 => ?_) (fun hc43 => ?_)
            · refine WC.region ?_
              refine WL.pure rfl ?_
              refine WL.nil ?_
              exact ⟨rfl, rfl, 1, by rw [show l[k].dead = true from hc43]; rfl, (.cons rfl (.cons rfl (.cons rfl (.cons rfl (.cons rfl (.cons rfl (.cons rfl (.cons rfl (.cons rfl (.nil _))))))))))⟩
            · refine WC.skip ?_
              exact ⟨rfl, rfl, 0, by rw [show l[k].dead = false from hc43]; rfl, (.cons rfl (.cons rfl (.cons rfl (.cons rfl (.cons rfl (.cons rfl (.cons rfl (.cons rfl (.cons rfl (.nil _))))))))))⟩
          · obtain ⟨rfl, rfl, d, hd, hsub⟩ := hJ
            refine WC.sub hsub ?_
            refine WC.tree (fun w0 => w5.grownBy w0 v.ownBlock) (by kernel_rfl) fun w6 hg6 hh6 => ?_
            have hW6 : Below w.heap.size w w6 := Bg hW5 hg6
            have hS6 : w5.grownBy w6 v.ownBlock := gb_none hg6 _
            have hown6 := hown5.step hg6 (.inr rfl) (fun _ hc => hc.elim)
            have hq6 : ∀ b, v.ownBlock = some b → v.ownBlock = v.ownBlock ∨ w5.heap.size ≤ b := fun _ _ => .inl rfl
            refine WT.p hS6 rfl ?_
            refine WT.o GOk.no hS6 (fun w0 hS0 => o_fldAddr fo38_0 rfl) ?_
            refine WT.o GOk.no hS6 (fun w0 hS0 => o_ld sh9 rfl (((Box.step hb6_2 hS0 hvne).cell 0).trans rfl)) ?_
            refine WT.p hS6 rfl ?_
            refine WT.o GOk.no hS6 (fun w0 hS0 => o_fldAddr fo38_1 rfl) ?_
            refine WT.o GOk.no hS6 (fun w0 hS0 => o_ld sh9 rfl (((Box.step hb6_2 hS0 hvne).cell 1).trans rfl)) ?_
            refine WT.alt ?_ ?_
            · -- operation 3
              refine WL.call GOk.no F28 rfl (frame_Text_calls l[k].key (fun _ => False) w6 (by have h1 := (hok).1; have h2 := (hok).2.1; omega)) ?_
              rintro e w7 ⟨u7, rfl, hu7, hB7⟩; refine ⟨_, rfl, ?_⟩
              have ho7 := hown6.move (fun j hj => hB7.block j (hown6.blt j hj)) (fun _ hc => hc.elim)
              have hW7 : Below w.heap.size w w7 := B2 hW6 hB7
              have hS7 : w5.grownBy w7 v.ownBlock := gb_more hS6 (gb_of_below hB7) (fun b e => by cases e)
              refine WL.nil ⟨hS7, ?_⟩
              refine WT.alt ?_ ?_
              · -- operation 4
                obtain ⟨A8, c8, rfl, _, hr8⟩ := hu7.slv
                refine WL.app (r := rU8) (ys := textB l[k].key) (by decide) GOk.no el42 rfl (by decide) rfl rfl ho7 (show RowE rU8 _ w7 A8 _ from hr8.e) hW7.size (by have h1 := textB_len l[k].key; have h2 := textB_len l[k].value; have h3 := hok.1; have h4 := hok.2.1; have h5 := hbl; simp only [List.length_append, List.length_cons, List.length_nil] at h5 ⊢; omega) fun v8 w8 ho8 hg8 hx8 => ?_
                have hq8 : ∀ b, v8.ownBlock = some b → v8.ownBlock = v.ownBlock ∨ w5.heap.size ≤ b := by
                  intro b e
                  rcases hx8 with h | h
                  · rw [h] at e ⊢; exact hq6 b e
                  · rw [h] at e; cases e; exact .inr hS7.size
                have hW8 : Below w.heap.size w w8 := hW7.grown hg8 hW7.size (fun j hj => ho7.bge j hj)
                have hS8 : w5.grownBy w8 v.ownBlock := gb_more hS7 hg8 hq6
                refine WL.nil ⟨hS8, ?_⟩
                refine WT.one ?_
                refine WL.bldS (e := 5) (cs := #[.int .u8 d]) GOk.no rfl (by kernel_rfl) fun w9 hg9 hb9 hz9 => ?_
                have ho9 := ho8.step hg9 (.inr rfl) (fun _ hc => hc.elim)
                have hW9 : Below w.heap.size w w9 := Bg hW8 hg9
                have hS9 : w5.grownBy w9 v.ownBlock := gb_more hS8 hg9 (fun b e => by cases e)
                refine WL.nil ⟨hS9, ?_⟩
                refine WT.one ?_
                refine WL.app (r := rU8) (ys := [d]) (by decide) GOk.no el42 rfl (by decide) rfl rfl ho9 (RowE.box (cs := [.int .u8 d]) hb9 (Reps.one rfl rfl)) hW9.size (by have h1 := textB_len l[k].key; have h2 := textB_len l[k].value; have h3 := hok.1; have h4 := hok.2.1; have h5 := hbl; simp only [List.length_append, List.length_cons, List.length_nil] at h5 ⊢; omega) fun v10 w10 ho10 hg10 hx10 => ?_
                have hq10 : ∀ b, v10.ownBlock = some b → v10.ownBlock = v.ownBlock ∨ w5.heap.size ≤ b := by
                  intro b e
                  rcases hx10 with h | h
                  · rw [h] at e ⊢; exact hq8 b e
                  · rw [h] at e; cases e; exact .inr hS9.size
                have hW10 : Below w.heap.size w w10 := hW9.grown hg10 hW9.size (fun j hj => ho9.bge j hj)
                have hS10 : w5.grownBy w10 v.ownBlock := gb_more hS9 hg10 hq8
                refine WL.nil ⟨hS10, ?_⟩
                refine WT.one ?_
                refine WL.call GOk.no F28 rfl (frame_Text_calls l[k].value (fun _ => False) w10 (by have h1 := (hok).1; have h2 := (hok).2.1; omega)) ?_
                rintro e w11 ⟨u11, rfl, hu11, hB11⟩; refine ⟨_, rfl, ?_⟩
                have ho11 := ho10.move (fun j hj => hB11.block j (ho10.blt j hj)) (fun _ hc => hc.elim)
                have hW11 : Below w.heap.size w w11 := B2 hW10 hB11
                have hS11 : w5.grownBy w11 v.ownBlock := gb_more hS10 (gb_of_below hB11) (fun b e => by cases e)
                refine WL.nil ⟨hS11, ?_⟩
                refine WT.one ?_
                obtain ⟨A12, c12, rfl, _, hr12⟩ := hu11.slv
                refine WL.app (r := rU8) (ys := textB l[k].value) (by decide) GOk.no el42 rfl (by decide) rfl rfl ho11 (show RowE rU8 _ w11 A12 _ from hr12.e) hW11.size (by have h1 := textB_len l[k].key; have h2 := textB_len l[k].value; have h3 := hok.1; have h4 := hok.2.1; have h5 := hbl; simp only [List.length_append, List.length_cons, List.length_nil] at h5 ⊢; omega) fun v12 w12 ho12 hg12 hx12 => ?_
                have hq12 : ∀ b, v12.ownBlock = some b → v12.ownBlock = v.ownBlock ∨ w5.heap.size ≤ b := by
                  intro b e
                  rcases hx12 with h | h
                  · rw [h] at e ⊢; exact hq10 b e
                  · rw [h] at e; cases e; exact .inr hS11.size
                have hW12 : Below w.heap.size w w12 := hW11.grown hg12 hW11.size (fun j hj => ho11.bge j hj)
                have hS12 : w5.grownBy w12 v.ownBlock := gb_more hS11 hg12 hq10
                refine WL.nil ⟨hS12, ?_⟩
                refine WT.p hS12 rfl ?_
                refine WT.nil ?_
                refine WC.region ?_
                refine WL.addI GOk.no rfl rfl (in_i64 (by omega) (by omega)) ?_
                refine WL.pure rfl ?_
                refine WL.nil ?_
                refine ⟨rfl, (k + 1, v12), (.cons rfl (.cons rfl (.cons rfl (.cons rfl (.cons rfl (.cons rfl (.cons rfl (.nil _)))))))), ⟨by dsimp only; omega, by dsimp only; exact hstep hok hord, by dsimp only; rw [bodyB_take l k hka d hd]; simpa [List.append_assoc] using ho12, hW12⟩, by dsimp only; omega⟩
              · -- another
                refine WT.one ?_
                refine WL.bldS (e := 5) (cs := #[.int .u8 d]) GOk.no rfl (by kernel_rfl) fun w13 hg13 hb13 hz13 => ?_
                have ho13 := ho7.step hg13 (.inr rfl) (fun _ hc => hc.elim)
                have hu13b := hu7.step hg13 (.inr rfl) (fun _ hc => hc.elim)
                have hW13 : Below w.heap.size w w13 := Bg hW7 hg13
                have hS13 : w5.grownBy w13 v.ownBlock := gb_more hS7 hg13 (fun b e => by cases e)
                refine WL.nil ⟨hS13, ?_⟩
                refine WT.one ?_
                obtain ⟨A14, c14, rfl, _, hr14⟩ := hu13b.slv
                refine WL.app (r := rU8) (ys := textB l[k].key) (by decide) GOk.no el42 rfl (by decide) rfl rfl ho13 (show RowE rU8 _ w13 A14 _ from hr14.e) hW13.size (by have h1 := textB_len l[k].key; have h2 := textB_len l[k].value; have h3 := hok.1; have h4 := hok.2.1; have h5 := hbl; simp only [List.length_append, List.length_cons, List.length_nil] at h5 ⊢; omega) fun v14 w14 ho14 hg14 hx14 => ?_
                have hq14 : ∀ b, v14.ownBlock = some b → v14.ownBlock = v.ownBlock ∨ w5.heap.size ≤ b := by
                  intro b e
                  rcases hx14 with h | h
                  · rw [h] at e ⊢; exact hq6 b e
                  · rw [h] at e; cases e; exact .inr hS13.size
                have hbx14 := Box.step hb13 hg14 (fun e => by have h1 := hown5.blt _ e.symm; have h2 := hS7.size; omega)
                have hW14 : Below w.heap.size w w14 := hW13.grown hg14 hW13.size (fun j hj => ho13.bge j hj)
                have hS14 : w5.grownBy w14 v.ownBlock := gb_more hS13 hg14 hq6
                refine WL.nil ⟨hS14, ?_⟩
                refine WT.one ?_
                refine WL.app (r := rU8) (ys := [d]) (by decide) GOk.no el42 rfl (by decide) rfl rfl ho14 (RowE.box (cs := [.int .u8 d]) hbx14 (Reps.one rfl rfl)) hW14.size (by have h1 := textB_len l[k].key; have h2 := textB_len l[k].value; have h3 := hok.1; have h4 := hok.2.1; have h5 := hbl; simp only [List.length_append, List.length_cons, List.length_nil] at h5 ⊢; omega) fun v15 w15 ho15 hg15 hx15 => ?_
                have hq15 : ∀ b, v15.ownBlock = some b → v15.ownBlock = v.ownBlock ∨ w5.heap.size ≤ b := by
                  intro b e
                  rcases hx15 with h | h
                  · rw [h] at e ⊢; exact hq14 b e
                  · rw [h] at e; cases e; exact .inr hS14.size
                have hW15 : Below w.heap.size w w15 := hW14.grown hg15 hW14.size (fun j hj => ho14.bge j hj)
                have hS15 : w5.grownBy w15 v.ownBlock := gb_more hS14 hg15 hq14
                refine WL.nil ⟨hS15, ?_⟩
                refine WT.one ?_
                refine WL.call GOk.no F28 rfl (frame_Text_calls l[k].value (fun _ => False) w15 (by have h1 := (hok).1; have h2 := (hok).2.1; omega)) ?_
                rintro e w16 ⟨u16, rfl, hu16, hB16⟩; refine ⟨_, rfl, ?_⟩
                have ho16 := ho15.move (fun j hj => hB16.block j (ho15.blt j hj)) (fun _ hc => hc.elim)
                have hW16 : Below w.heap.size w w16 := B2 hW15 hB16
                have hS16 : w5.grownBy w16 v.ownBlock := gb_more hS15 (gb_of_below hB16) (fun b e => by cases e)
                refine WL.nil ⟨hS16, ?_⟩
                refine WT.one ?_
                obtain ⟨A17, c17, rfl, _, hr17⟩ := hu16.slv
                refine WL.app (r := rU8) (ys := textB l[k].value) (by decide) GOk.no el42 rfl (by decide) rfl rfl ho16 (show RowE rU8 _ w16 A17 _ from hr17.e) hW16.size (by have h1 := textB_len l[k].key; have h2 := textB_len l[k].value; have h3 := hok.1; have h4 := hok.2.1; have h5 := hbl; simp only [List.length_append, List.length_cons, List.length_nil] at h5 ⊢; omega) fun v17 w17 ho17 hg17 hx17 => ?_
                have hq17 : ∀ b, v17.ownBlock = some b → v17.ownBlock = v.ownBlock ∨ w5.heap.size ≤ b := by
                  intro b e
                  rcases hx17 with h | h
                  · rw [h] at e ⊢; exact hq15 b e
                  · rw [h] at e; cases e; exact .inr hS16.size
                have hW17 : Below w.heap.size w w17 := hW16.grown hg17 hW16.size (fun j hj => ho16.bge j hj)
                have hS17 : w5.grownBy w17 v.ownBlock := gb_more hS16 hg17 hq15
                refine WL.nil ⟨hS17, ?_⟩
                refine WT.p hS17 rfl ?_
                refine WT.nil ?_
                refine WC.region ?_
                refine WL.addI GOk.no rfl rfl (in_i64 (by omega) (by omega)) ?_
                refine WL.pure rfl ?_
                refine WL.nil ?_
                refine ⟨rfl, (k + 1, v17), (.cons rfl (.cons rfl (.cons rfl (.cons rfl (.cons rfl (.cons rfl (.cons rfl (.nil _)))))))), ⟨by dsimp only; omega, by dsimp only; exact hstep hok hord, by dsimp only; rw [bodyB_take l k hka d hd]; simpa [List.append_assoc] using ho17, hW17⟩, by dsimp only; omega⟩
            · -- another
              refine WT.one ?_
              refine WL.bldS (e := 5) (cs := #[.int .u8 d]) GOk.no rfl (by kernel_rfl) fun w18 hg18 hb18 hz18 => ?_
              have ho18 := hown6.step hg18 (.inr rfl) (fun _ hc => hc.elim)
              have hW18 : Below w.heap.size w w18 := Bg hW6 hg18
              have hS18 : w5.grownBy w18 v.ownBlock := gb_more hS6 hg18 (fun b e => by cases e)
              refine WL.nil ⟨hS18, ?_⟩
              refine WT.one ?_
              refine WL.call GOk.no F28 rfl (frame_Text_calls l[k].key (fun _ => False) w18 (by have h1 := (hok).1; have h2 := (hok).2.1; omega)) ?_
              rintro e w19 ⟨u19, rfl, hu19, hB19⟩; refine ⟨_, rfl, ?_⟩
              have ho19 := ho18.move (fun j hj => hB19.block j (ho18.blt j hj)) (fun _ hc => hc.elim)
              have hx19b := Box.below hb18 hB19
              have hW19 : Below w.heap.size w w19 := B2 hW18 hB19
              have hS19 : w5.grownBy w19 v.ownBlock := gb_more hS18 (gb_of_below hB19) (fun b e => by cases e)
              refine WL.nil ⟨hS19, ?_⟩
              refine WT.one ?_
              obtain ⟨A20, c20, rfl, _, hr20⟩ := hu19.slv
              refine WL.app (r := rU8) (ys := textB l[k].key) (by decide) GOk.no el42 rfl (by decide) rfl rfl ho19 (show RowE rU8 _ w19 A20 _ from hr20.e) hW19.size (by have h1 := textB_len l[k].key; have h2 := textB_len l[k].value; have h3 := hok.1; have h4 := hok.2.1; have h5 := hbl; simp only [List.length_append, List.length_cons, List.length_nil] at h5 ⊢; omega) fun v20 w20 ho20 hg20 hx20 => ?_
              have hq20 : ∀ b, v20.ownBlock = some b → v20.ownBlock = v.ownBlock ∨ w5.heap.size ≤ b := by
                intro b e
                rcases hx20 with h | h
                · rw [h] at e ⊢; exact hq6 b e
                · rw [h] at e; cases e; exact .inr hS19.size
              have hbx20 := Box.step hx19b hg20 (fun e => by have h1 := hown5.blt _ e.symm; have h2 := hS6.size; omega)
              have hW20 : Below w.heap.size w w20 := hW19.grown hg20 hW19.size (fun j hj => ho19.bge j hj)
              have hS20 : w5.grownBy w20 v.ownBlock := gb_more hS19 hg20 hq6
              refine WL.nil ⟨hS20, ?_⟩
              refine WT.one ?_
              refine WL.app (r := rU8) (ys := [d]) (by decide) GOk.no el42 rfl (by decide) rfl rfl ho20 (RowE.box (cs := [.int .u8 d]) hbx20 (Reps.one rfl rfl)) hW20.size (by have h1 := textB_len l[k].key; have h2 := textB_len l[k].value; have h3 := hok.1; have h4 := hok.2.1; have h5 := hbl; simp only [List.length_append, List.length_cons, List.length_nil] at h5 ⊢; omega) fun v21 w21 ho21 hg21 hx21 => ?_
              have hq21 : ∀ b, v21.ownBlock = some b → v21.ownBlock = v.ownBlock ∨ w5.heap.size ≤ b := by
                intro b e
                rcases hx21 with h | h
                · rw [h] at e ⊢; exact hq20 b e
                · rw [h] at e; cases e; exact .inr hS20.size
              have hW21 : Below w.heap.size w w21 := hW20.grown hg21 hW20.size (fun j hj => ho20.bge j hj)
              have hS21 : w5.grownBy w21 v.ownBlock := gb_more hS20 hg21 hq20
              refine WL.nil ⟨hS21, ?_⟩
              refine WT.one ?_
              refine WL.call GOk.no F28 rfl (frame_Text_calls l[k].value (fun _ => False) w21 (by have h1 := (hok).1; have h2 := (hok).2.1; omega)) ?_
              rintro e w22 ⟨u22, rfl, hu22, hB22⟩; refine ⟨_, rfl, ?_⟩
              have ho22 := ho21.move (fun j hj => hB22.block j (ho21.blt j hj)) (fun _ hc => hc.elim)
              have hW22 : Below w.heap.size w w22 := B2 hW21 hB22
              have hS22 : w5.grownBy w22 v.ownBlock := gb_more hS21 (gb_of_below hB22) (fun b e => by cases e)
              refine WL.nil ⟨hS22, ?_⟩
              refine WT.one ?_
              obtain ⟨A23, c23, rfl, _, hr23⟩ := hu22.slv
              refine WL.app (r := rU8) (ys := textB l[k].value) (by decide) GOk.no el42 rfl (by decide) rfl rfl ho22 (show RowE rU8 _ w22 A23 _ from hr23.e) hW22.size (by have h1 := textB_len l[k].key; have h2 := textB_len l[k].value; have h3 := hok.1; have h4 := hok.2.1; have h5 := hbl; simp only [List.length_append, List.length_cons, List.length_nil] at h5 ⊢; omega) fun v23 w23 ho23 hg23 hx23 => ?_
              have hq23 : ∀ b, v23.ownBlock = some b → v23.ownBlock = v.ownBlock ∨ w5.heap.size ≤ b := by
                intro b e
                rcases hx23 with h | h
                · rw [h] at e ⊢; exact hq21 b e
                · rw [h] at e; cases e; exact .inr hS22.size
              have hW23 : Below w.heap.size w w23 := hW22.grown hg23 hW22.size (fun j hj => ho22.bge j hj)
              have hS23 : w5.grownBy w23 v.ownBlock := gb_more hS22 hg23 hq21
              refine WL.nil ⟨hS23, ?_⟩
              refine WT.p hS23 rfl ?_
              refine WT.nil ?_
              refine WC.region ?_
              refine WL.addI GOk.no rfl rfl (in_i64 (by omega) (by omega)) ?_
              refine WL.pure rfl ?_
              refine WL.nil ?_
              refine ⟨rfl, (k + 1, v23), (.cons rfl (.cons rfl (.cons rfl (.cons rfl (.cons rfl (.cons rfl (.cons rfl (.nil _)))))))), ⟨by dsimp only; omega, by dsimp only; exact hstep hok hord, by dsimp only; rw [bodyB_take l k hka d hd]; simpa [List.append_assoc] using ho23, hW23⟩, by dsimp only; omega⟩
    · -- t19 = false
      refine WC.exit rfl ?_
      refine WC.seq ?_
      refine WC.region ?_
      refine WL.pure rfl ?_
      obtain rfl : k = l.length := by dsimp only at hc19; omega
      have hbl2 := bodyB_len l l.length (Nat.le_refl _) hall
      have hnl2 := numV_len l.length
      obtain ⟨A9, c9, rfl, hc9, hrow9⟩ := hown.slv
      have hseal := frame_Seal_calls (fun _ => False) A9 c9 (numV l.length ++ bodyB l l.length) w' hrow9 (by rw [List.length_append]; omega)
      refine WL.call GOk.no F29 rfl (hseal) ?_
      rintro e w78 ⟨v78, rfl, ho78, hB78⟩; refine ⟨_, rfl, ?_⟩
      have hW78 : Below w.heap.size w w78 := B2 hB hB78
      refine WL.pure rfl ?_
      refine WL.pure rfl ?_
      refine WL.nil ?_
      refine WC.retn (Ret2 rfl rfl ⟨_, _, rfl, rfl, ⟨fun _ => ⟨by omega, fun i hi => hall i (by dsimp only at hc19; omega) hi⟩, fun _ => rfl⟩, fun _ => ho78.base hB.size, hW78⟩)


end Go.Proofs.YtfgbplbohekghaaDoor
