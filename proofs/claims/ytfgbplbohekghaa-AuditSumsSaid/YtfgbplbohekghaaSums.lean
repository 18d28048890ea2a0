/- weirlaw6.AuditSums. -/
import Derived.Test.YtfgbplbohekghaaCode
import Derived.Test.YtfgbplbohekghaaTy
import Derived.Test.YtfgbplbohekghaaRowX
import Derived.Test.YtfgbplbohekghaaLine
import Derived.Test.YtfgbplbohekghaaCut
set_option linter.unusedVariables false
set_option maxRecDepth 2000
namespace Go.Proofs.Ytfgbplbohekghaa
open Go.Wl Go.RowKit

def keyA : ByteArray := { data := #[97] }
theorem weirlaw6_AuditSums_calls {ok : Nat → Prop} (A : Option Addr) (c : Nat) (l : List Line) (i0 m0 : Int) (w : World) (hl : Row rLine ok w A l) (hc : l.length ≤ c) : Calls Try.prog 3 #[.slice A l.length c, .int .i64 i0, .int .i64 m0] w fun e w' => e = .returned (.bool true) ∧ Below w.heap.size w w' := by
  refine enter F3 rfl rfl ?_
  refine WC.seq ?_
  refine WC.region ?_
  refine WL.pure rfl ?_
  refine WL.nil ?_
  refine WC.seq ?_
  refine WC.region ?_
  refine WL.bldS (e := 3) (cs := #[.int .i64 1]) GOk.no rfl (by kernel_rfl) fun w1 hg1 hb1 hz1 => ?_
  have hW1 : Below w.heap.size w w1 := Bg (Below.refl _ _) hg1
  refine WL.bld (cs := #[.string keyA, .slice (some ⟨w.heap.size, 0, none⟩) 1 1]) GOk.no rfl (by kernel_rfl) ?_
  refine WL.bldS (e := 29) (cs := #[.string keyA, .slice (some ⟨w.heap.size, 0, none⟩) 1 1]) GOk.no rfl (by kernel_rfl) fun w2 hg2 hb2 hz2 => ?_
  have hW2 : Below w.heap.size w w2 := Bg hW1 hg2
  refine WL.bldS (e := 3) (cs := #[.int .i64 1]) GOk.no rfl (by kernel_rfl) fun w3 hg3 hb3 hz3 => ?_
  have hW3 : Below w.heap.size w w3 := Bg hW2 hg3
  refine WL.bld (cs := #[.string keyA, .slice (some ⟨w2.heap.size, 0, none⟩) 1 1]) GOk.no rfl (by kernel_rfl) ?_
  refine WL.bldS (e := 29) (cs := #[.string keyA, .slice (some ⟨w2.heap.size, 0, none⟩) 1 1]) GOk.no rfl (by kernel_rfl) fun w4 hg4 hb4 hz4 => ?_
  have hW4 : Below w.heap.size w w4 := Bg hW3 hg4
  have hra := row1 (w := w4) (key := keyA) (ns := [1]) (ok := fun _ => True) (Box.step (Box.step hb2 hg3 (by simp)) hg4 (by simp)) (Box.step (Box.step (Box.step hb1 hg2 (by simp)) hg3 (by simp)) hg4 (by simp)) trivial trivial (by simp)
  have hrb := row1 (w := w4) (key := keyA) (ns := [1]) (ok := fun _ => True) hb4 (Box.step hb3 hg4 (by simp)) trivial trivial (by simp)
  refine WL.call GOk.no F4 rfl (audit_Less_calls _ _ 1 1 [⟨keyA, [1]⟩] [⟨keyA, [1]⟩] w4 hra hrb) ?_
  rintro e w5 ⟨r5, v5, rfl, hv5, hn5, hr5, hB5⟩; refine ⟨_, rfl, ?_⟩
  have hW5 : Below w.heap.size w w5 := B2 hW4 hB5
  have hnil5 : nilB v5 = true := hn5.2 ⟨⟨good1 (by decide) (by decide), good1 (by decide) (by decide)⟩, fun i h => by obtain rfl : i = 0 := (by simpa using h); exact ⟨0, by simp, rfl, fun j hj => absurd hj (by omega), Nat.le_refl _, rfl⟩⟩
  obtain rfl := nil_of hv5 hnil5
  obtain rfl : r5 = 0 := by rw [hr5 rfl]; exact Int.sub_self _
  refine WL.pure rfl ?_
  refine WL.pure rfl ?_
  refine WL.pure rfl ?_
  refine WL.pure rfl ?_
  refine WL.pure rfl ?_
  refine WL.nil ?_
  refine WC.seq ?_
  refine WC.region ?_
  refine WL.bldS (e := 3) (cs := #[.int .i64 1, .int .i64 2]) GOk.no rfl (by kernel_rfl) fun w6 hg6 hb6 hz6 => ?_
  have hW6 : Below w.heap.size w w6 := Bg hW5 hg6
  refine WL.bld (cs := #[.string keyA, .slice (some ⟨w5.heap.size, 0, none⟩) 2 2]) GOk.no rfl (by kernel_rfl) ?_
  refine WL.bldS (e := 29) (cs := #[.string keyA, .slice (some ⟨w5.heap.size, 0, none⟩) 2 2]) GOk.no rfl (by kernel_rfl) fun w7 hg7 hb7 hz7 => ?_
  have hW7 : Below w.heap.size w w7 := Bg hW6 hg7
  have hrc := row1 (w := w7) (key := keyA) (ns := [1, 2]) (ok := fun _ => True) hb7 (Box.step hb6 hg7 (by simp)) trivial trivial (by simp)
  refine WL.call GOk.no F4 rfl (audit_Less_calls _ none 1 0 [⟨keyA, [1, 2]⟩] [] w7 hrc (Row.nil rLine (fun _ => True) w7 none)) ?_
  rintro e w8 ⟨r8, v8, rfl, hv8, hn8, hr8, hB8⟩; refine ⟨_, rfl, ?_⟩
  have hW8 : Below w.heap.size w w8 := B2 hW7 hB8
  have hnil8 : nilB v8 = true := hn8.2 ⟨⟨good1 (by decide) (by decide), good0⟩, fun i h => absurd h (by simp)⟩
  obtain rfl := nil_of hv8 hnil8
  obtain rfl : r8 = 2 := by rw [hr8 rfl]; rfl
  refine WL.pure rfl ?_
  refine WL.pure rfl ?_
  refine WL.pure rfl ?_
  refine WL.pure rfl ?_
  refine WL.pure rfl ?_
  refine WL.nil ?_
  refine WC.seq ?_
  refine WC.seq ?_
  refine WC.region ?_
  refine WL.pure rfl ?_
  refine WL.neNil GOk.no Try.underlying24 rfl rfl ?_
  refine WL.pure rfl ?_
  refine WL.caseB (d := 46) rfl (fun h46 => ?_) (fun h46 => ?_)
  · cases h46
  · -- t46 = false
    refine WL.gpure rfl rfl ?_
    refine WL.neNil (GOk.yes rfl) Try.underlying24 rfl rfl ?_
    refine WL.pure rfl ?_
    refine WL.pure rfl ?_
    refine WL.caseB (d := 50) rfl (fun h50 => ?_) (fun h50 => ?_)
    · cases h50
    · -- t50 = false
      refine WL.gpure rfl rfl ?_
      refine WL.gpure rfl rfl ?_
      refine WL.pure rfl ?_
      refine WL.pure rfl ?_
      refine WL.caseN (d := 54) rfl (fun h54 => ?_) (fun h54 => ?_)
      · exact absurd rfl h54
      · -- t54 = false
        refine WL.gpure rfl rfl ?_
        refine WL.gpure rfl rfl ?_
        refine WL.pure rfl ?_
        refine WL.nil ?_
        refine WC.condN rfl (fun hc57 => ?_) (fun hc57 => ?_)
        · exact absurd rfl hc57
        · -- t57 = false
          refine WC.skip ?_
          refine WC.seq ?_
          refine WC.region ?_
          refine WL.pure rfl ?_
          refine WL.call GOk.no F5 rfl (audit_Check_calls A c l w8 (Brow (by decide) hW8 hl)) ?_
          rintro e w9 ⟨v9, rfl, hv9, hn9, hB9⟩; refine ⟨_, rfl, ?_⟩
          have hW9 : Below w.heap.size w w9 := B2 hW8 hB9
          refine WL.pure rfl ?_
          refine WL.nil ?_
          refine WC.seq ?_
          refine WC.seq ?_
          refine WC.region ?_
          refine WL.pure rfl ?_
          refine WL.neNil GOk.no Try.underlying24 rfl hv9 ?_
          refine WL.nil ?_
          refine WC.cond rfl (fun hc61 => ?_) (fun hc61 => ?_)
          · -- t61 = true
            refine WC.seq ?_
            refine WC.region ?_
            refine WL.pure rfl ?_
            refine WL.nil ?_
            refine WC.retn (Ret1 rfl ⟨rfl, hW9⟩)
          · -- t61 = false
            refine WC.skip ?_
            have hg : Good l := hn9.1 (by
              have h9 : (!nilB v9) = false := hc61
              cases hx : nilB v9 <;> simp [hx] at h9 ⊢)
            have hm1 := audit_Merge_calls A none c 0 l [] w9 (Brow (by decide) hW9 hl) (Row.nil rLine (fun _ => True) w9 none) hc (Nat.le_refl _) hg good0 (by rw [List.append_nil]; exact hg)
            simp only [List.append_nil] at hm1
            refine WC.seq ?_
            refine WC.region ?_
            refine WL.pure rfl ?_
            refine WL.call GOk.no F6 rfl (hm1) ?_
            rintro e w10 ⟨A10, c10, ok10, rfl, hc10, hrow10, hB10⟩; refine ⟨_, rfl, ?_⟩
            have hW10 : Below w.heap.size w w10 := B2 hW9 hB10
            refine WL.pure rfl ?_
            refine WL.pure rfl ?_
            refine WL.pure rfl ?_
            refine WL.pure rfl ?_
            refine WL.pure rfl ?_
            refine WL.nil ?_
            have hm2 := audit_Merge_calls none A 0 c [] l w10 (Row.nil rLine (fun _ => True) w10 none) (Brow (by decide) hW10 hl) (Nat.le_refl _) hc good0 hg (by rw [List.nil_append]; exact hg)
            simp only [List.nil_append] at hm2
            refine WC.seq ?_
            refine WC.region ?_
            refine WL.pure rfl ?_
            refine WL.call GOk.no F6 rfl (hm2) ?_
            rintro e w11 ⟨A11, c11, ok11, rfl, hc11, hrow11, hB11⟩; refine ⟨_, rfl, ?_⟩
            have hW11 : Below w.heap.size w w11 := B2 hW10 hB11
            refine WL.pure rfl ?_
            refine WL.pure rfl ?_
            refine WL.pure rfl ?_
            refine WL.pure rfl ?_
            refine WL.pure rfl ?_
            refine WL.nil ?_
            refine WC.seq ?_
            refine WC.region ?_
            refine WL.pure rfl ?_
            refine WL.pure rfl ?_
            refine WL.call GOk.no F7 rfl (weirsame_Lines_calls A10 A c10 c l l w11 (Brow (by decide) hB11 hrow10) (Brow (by decide) hW11 hl)) ?_
            rintro e w12 ⟨rfl, hB12⟩; refine ⟨_, rfl, ?_⟩
            have hW12 : Below w.heap.size w w12 := B2 hW11 hB12
            refine WL.pure rfl ?_
            refine WL.nil ?_
            refine WC.seq ?_
            refine WC.region ?_
            refine WL.pure rfl ?_
            refine WL.pure rfl ?_
            refine WL.call GOk.no F7 rfl (weirsame_Lines_calls A11 A c11 c l l w12 (Brow (by decide) hB12 hrow11) (Brow (by decide) hW12 hl)) ?_
            rintro e w13 ⟨rfl, hB13⟩; refine ⟨_, rfl, ?_⟩
            have hW13 : Below w.heap.size w w13 := B2 hW12 hB13
            refine WL.pure rfl ?_
            refine WL.nil ?_
            refine WC.seq ?_
            refine WC.seq ?_
            refine WC.region ?_
            refine WL.pure rfl ?_
            refine WL.neNil GOk.no Try.underlying24 rfl rfl ?_
            refine WL.pure rfl ?_
            refine WL.caseB (d := 80) rfl (fun h80 => ?_) (fun h80 => ?_)
            · cases h80
            · -- t80 = false
              refine WL.gpure rfl rfl ?_
              refine WL.neNil (GOk.yes rfl) Try.underlying24 rfl rfl ?_
              refine WL.pure rfl ?_
              refine WL.pure rfl ?_
              refine WL.caseB (d := 84) rfl (fun h84 => ?_) (fun h84 => ?_)
              · cases h84
              · -- t84 = false
                refine WL.gpure rfl rfl ?_
                refine WL.gpure rfl rfl ?_
                refine WL.pure rfl ?_
                refine WL.pure rfl ?_
                refine WL.caseB (d := 88) rfl (fun h88 => ?_) (fun h88 => ?_)
                · exact absurd (show (!decide (l = l)) = true from h88) (by simp)
                · -- t88 = false
                  refine WL.gpure rfl rfl ?_
                  refine WL.gpure rfl rfl ?_
                  refine WL.pure rfl ?_
                  refine WL.nil ?_
                  refine WC.cond rfl (fun hc91 => ?_) (fun hc91 => ?_)
                  · exact absurd (show (!decide (l = l)) = true from hc91) (by simp)
                  · -- t91 = false
                    refine WC.skip ?_
                    refine WC.seq ?_
                    refine WC.seq ?_
                    refine WC.region ?_
                    refine WL.pure rfl ?_
                    refine WL.pure rfl ?_
                    refine WL.pure rfl ?_
                    refine WL.caseD (d := 94) rfl (fun h94 => ?_) (fun h94 => ?_)
                    · -- t94 = true
                      refine WL.offF rfl ?_
                      refine WL.offF rfl ?_
                      refine WL.offF rfl ?_
                      refine WL.offF rfl ?_
                      refine WL.pure rfl ?_
                      refine WL.pure rfl ?_
                      refine WL.offF rfl ?_
                      refine WL.offF rfl ?_
                      refine WL.pure rfl ?_
                      refine WL.pure rfl ?_
                      refine WL.offF rfl ?_
                      refine WL.offF rfl ?_
                      refine WL.offF rfl ?_
                      refine WL.offF rfl ?_
                      refine WL.offF rfl ?_
                      refine WL.offF rfl ?_
                      refine WL.offF rfl ?_
                      refine WL.offF rfl ?_
                      refine WL.pure rfl ?_
                      refine WL.nil ?_
                      refine WC.condT rfl rfl ?_
                      refine WC.seq ?_
                      refine WC.region ?_
                      refine WL.pure rfl ?_
                      refine WL.nil ?_
                      refine WC.retn (Ret1 rfl ⟨rfl, hW13⟩)
                    · -- t94 = false
                      refine WL.gpure rfl rfl ?_
                      have hla := hl.1
                      refine WL.gpure rfl rfl ?_
                      refine WL.lenS (GOk.yes rfl) Try.underlying22 rfl ?_
                      refine WL.gpure rfl rfl ?_
                      refine WL.pure rfl ?_
                      refine WL.pure rfl ?_
                      refine WL.caseD (d := 100) rfl (fun h100 => ?_) (fun h100 => ?_)
                      · -- t100 = true
                        refine WL.offF rfl ?_
                        refine WL.offF rfl ?_
                        refine WL.pure rfl ?_
                        refine WL.pure rfl ?_
                        refine WL.offF rfl ?_
                        refine WL.offF rfl ?_
                        refine WL.offF rfl ?_
                        refine WL.offF rfl ?_
                        refine WL.offF rfl ?_
                        refine WL.offF rfl ?_
                        refine WL.offF rfl ?_
                        refine WL.offF rfl ?_
                        refine WL.pure rfl ?_
                        refine WL.nil ?_
                        refine WC.condT rfl rfl ?_
                        refine WC.seq ?_
                        refine WC.region ?_
                        refine WL.pure rfl ?_
                        refine WL.nil ?_
                        refine WC.retn (Ret1 rfl ⟨rfl, hW13⟩)
                      · -- t100 = false
                        refine WL.gpure rfl rfl ?_
                        refine WL.gpure rfl rfl ?_
                        refine WL.pure rfl ?_
                        refine WL.pure rfl ?_
                        refine WL.caseD (d := 104) rfl (fun h104 => ?_) (fun h104 => ?_)
                        · -- t104 = true
                          refine WL.offF rfl ?_
                          refine WL.offF rfl ?_
                          refine WL.offF rfl ?_
                          refine WL.offF rfl ?_
                          refine WL.offF rfl ?_
                          refine WL.offF rfl ?_
                          refine WL.offF rfl ?_
                          refine WL.offF rfl ?_
                          refine WL.pure rfl ?_
                          refine WL.nil ?_
                          refine WC.condT rfl rfl ?_
                          refine WC.seq ?_
                          refine WC.region ?_
                          refine WL.pure rfl ?_
                          refine WL.nil ?_
                          refine WC.retn (Ret1 rfl ⟨rfl, hW13⟩)
                        · -- t104 = false
                          obtain ⟨p, rfl⟩ : ∃ p : Nat, i0 = (p : Int) := ⟨i0.toNat, by omega⟩
                          obtain ⟨q, rfl⟩ : ∃ q : Nat, m0 = (q : Int) := ⟨m0.toNat, by omega⟩
                          have hpl : p < l.length := by omega
                          obtain ⟨ad, A', c1, rfl, hat, hc1, hrowN⟩ := hl.line p hpl
                          have hl400 := hg.1
                          have hN400 := (hg.2 p hpl).1
                          refine WL.gpure rfl rfl ?_
                          refine WL.gpure rfl rfl ?_
                          refine WL.gpure rfl rfl ?_
                          refine WL.idxAddr (GOk.yes rfl) el22 rfl rfl (by omega) (by omega) ?_
                          refine WL.fldAddr (GOk.yes rfl) fo29_1 rfl ?_
                          refine WL.ld (GOk.yes rfl) sh27 rfl (Ba hW13 hat 1 _ rfl) ?_
                          refine WL.lenS (GOk.yes rfl) Try.underlying27 rfl ?_
                          refine WL.gpure rfl rfl ?_
                          refine WL.pure rfl ?_
                          refine WL.nil ?_
                          refine WC.condD rfl (fun hc113 => ?_) (fun hc113 => ?_)
                          · -- t113 = true
                            refine WC.seq ?_
                            refine WC.region ?_
                            refine WL.pure rfl ?_
                            refine WL.nil ?_
                            refine WC.retn (Ret1 rfl ⟨rfl, hW13⟩)
                          · -- t113 = false
                            refine WC.skip ?_
                            have hq : q < l[p].nums.length := by omega
                            have hGl := cutAt_len l p q
                            have hsz13 := hW13.size
                            refine WC.seq ?_
                            refine WC.region ?_
                            refine WL.pure rfl ?_
                            refine WL.nil ?_
                            refine WC.seq ?_
                            refine WC.seq ?_
                            refine WC.region ?_
                            refine WL.pure rfl ?_
                            refine WL.nil ?_
                            refine WC.block ?_
                            refine WC.loop (σ := Nat × Value) (fun y =>  [(0, .slice (some ad) l.length c), (1, .int .i64 (p : Int)), (2, .int .i64 (q : Int)), (6, .bool false), (18, y.2), (19, .int .i64 (y.1 : Int))])
                              (fun y w' => y.1 ≤ l.length ∧ Own rLine 29 w13.heap.size (fun c => c < w.heap.size) w' y.2 ((cutAt l p q).take y.1) ∧ w13.heap.size ≤ w'.heap.size ∧ Below w.heap.size w w') (fun y => l.length - y.1) (0, .slice none 0 0) ⟨Nat.zero_le _, Own.nil _ _ _ _ _, Nat.le_refl _,  hW13⟩ (.cons rfl (.cons rfl (.cons rfl (.cons rfl (.cons rfl (.cons rfl (.nil _))))))) ?_
                            rintro ⟨k, v⟩ w' ⟨hk, hown, hge, hB⟩
                            dsimp only at hk hown
                            refine WC.seq ?_
                            refine WC.seq ?_
                            refine WC.region ?_
                            refine WL.pure rfl ?_
                            refine WL.pure rfl ?_
                            refine WL.lenS GOk.no Try.underlying22 rfl ?_
                            refine WL.pure rfl ?_
                            refine WL.nil ?_
                            refine WC.condD rfl (fun hc117 => ?_) (fun hc117 => ?_)
                            · -- t117 = true
                              refine WC.skip ?_
                              refine WC.seq ?_
                              refine WC.block ?_
                              refine WC.seq ?_
                              refine WC.region ?_
                              have hka : k < l.length := by dsimp only at hc117; omega
                              obtain ⟨_, A2, c2, e2, hatk, hck, hrowk⟩ := hl.line k hka
                              cases e2
                              have hrowk' := hrowk.mono (by decide) (ok' := fun c => c < w.heap.size) fun c _ h => h
                              have hk400 := (hg.2 k hka).1
                              have hne : ∀ b, b < w.heap.size → some b ≠ v.ownBlock := fun b hb e => by have := hown.bge b e.symm; omega
                              have hgk := cutAt_get l p q k (by omega)
                              refine WL.pure rfl ?_
                              refine WL.pure rfl ?_
                              refine WL.idxAddr GOk.no el22 rfl rfl (by omega) (by omega) ?_
                              refine WL.ldAgg GOk.no sh29 rfl rfl (Ba hB hatk) ?_
                              refine WL.alloc GOk.no ze29 fun w14 hg14 hb14 hz14 => ?_
                              have hW14 : Below w.heap.size w w14 := Bg hB hg14
                              refine WL.stAll GOk.no sh29 rfl rfl hb14 rfl rfl (by simp [Value.cells, Value.oneCell']) fun w15 hg15 hz15 hb15 => ?_
                              have hW15 : Below w.heap.size w w15 := Br hW14 hg15 (hB.size)
                              refine WL.nil ?_
                              refine WC.seq ?_
                              refine WC.seq ?_
                              refine WC.region ?_
                              refine WL.pure rfl ?_
                              refine WL.pure rfl ?_
                              refine WL.pure rfl ?_
                              refine WL.nil ?_
                              refine WC.condD rfl (fun hc126 => ?_) (fun hc126 => ?_)
                              · -- t126 = true
                                have hkp : p = k := by dsimp only at hc126; omega
                                subst hkp
                                refine WC.region ?_
                                refine WL.fldAddr GOk.no fo29_1 rfl ?_
                                refine WL.ld GOk.no sh27 rfl ((hb15.cell 1).trans rfl) ?_
                                refine WL.fldAddr GOk.no fo29_1 rfl ?_
                                refine WL.ld GOk.no sh27 rfl ((hb15.cell 1).trans rfl) ?_
                                refine WL.lenS GOk.no Try.underlying27 rfl ?_
                                refine WL.pure rfl ?_
                                refine WL.subI GOk.no rfl rfl (in_i64 (by omega) (by omega)) ?_
                                refine WL.cut 0 (l[p].nums.length - q) GOk.no el27 rfl rfl rfl (.inl ⟨rfl, rfl⟩) (.inr ⟨.i64, (l[p].nums.length : Int) - (q : Int), rfl, by omega, by omega⟩) (by omega) (by omega) ?_
                                refine WL.fldAddr GOk.no fo29_1 rfl ?_
                                refine WL.stOne (k := 0) (off := 1) GOk.no sh27 rfl rfl hb15 (Nat.lt_succ_self 1) rfl fun w16 hg16 hz16 hb16 => ?_
                                have hW16 : Below w.heap.size w w16 := Br hW15 hg16 (hB.size)
                                refine WL.nil ?_
                                refine WC.region ?_
                                refine WL.pure rfl ?_
                                refine WL.ldAgg GOk.no sh29 rfl rfl hb16.at_ ?_
                                refine WL.bldS (e := 29) (cs := #[.string l[p].key, .slice (cutAddr A2 c2 0 1) (l[p].nums.length - q - 0) (c2 - 0)]) GOk.no rfl (by kernel_rfl) fun w17 hg17 hb17 hz17 => ?_
                                have hW17 : Below w.heap.size w w17 := Bg hW16 hg17
                                have hb20_1 := Box.step hb16 hg17 (by simp)
                                have h17 : Below w'.heap.size w' w17 := Bg (Br (Br (below_gb hg14) hg15 (Nat.le_refl _)) hg16 (Nat.le_refl _)) hg17
                                have hown17 := hown.move (fun j hj => h17.block j (hown.blt j hj)) (fun c hc _ hl => h17.block c hl)
                                have hR : rLine.R (fun b => b < w.heap.size ∧ some b ≠ v.ownBlock) w17 (cutL q l[p]) [.string l[p].key, .slice (cutAddr A2 c2 0 1) (l[p].nums.length - q - 0) (c2 - 0)] := by
                                  have h5 := rLine_mk (x := cutL q l[p]) (c := c2 - 0) (by rw [cutL_len]; omega) ((((Brow (by decide) hW17 hrowk').mono (ok' := fun b => b < w.heap.size ∧ some b ≠ v.ownBlock) (by decide) fun c hc _ => ⟨hc, hne c hc⟩).drop 0 c2 hck).take (l[p].nums.length - q))
                                  rw [cutL_len] at h5
                                  exact h5
                                rw [if_pos rfl] at hgk
                                refine WL.app (r := rLine) (ys := [cutL q l[p]]) (by decide) GOk.no el22 rfl (by decide) rfl rfl hown17 (RowE.box (cs := [.string l[p].key, .slice (cutAddr A2 c2 0 1) (l[p].nums.length - q - 0) (c2 - 0)]) hb17 (Reps.one hR rfl)) (by have := h17.size; omega) (by simp only [List.length_take, List.length_cons, List.length_nil]; omega) fun v18 w18 ho18 hg18 hx18 => ?_
                                refine WL.pure rfl ?_
                                refine WL.nil ?_
                                have hW18 : Below w.heap.size w w18 := hW17.grown hg18 hW17.size (fun j hj => by have := hown.bge j hj; omega)
                                refine WC.region ?_
                                refine WL.pure rfl ?_
                                refine WL.addI GOk.no rfl rfl (in_i64 (by omega) (by omega)) ?_
                                refine WL.pure rfl ?_
                                refine WL.nil ?_
                                refine ⟨rfl, (p + 1, v18),  (.cons rfl (.cons rfl (.cons rfl (.cons rfl (.cons rfl (.cons rfl (.nil _))))))), ⟨by dsimp only; omega, by dsimp only; rw [List.take_succ_eq_append_getElem (by omega), hgk]; exact ho18, by have := hg18.size; have := h17.size; omega, hW18⟩, by dsimp only; omega⟩
                              · -- t126 = false
                                have hkp : ¬ p = k := by dsimp only at hc126; omega
                                rw [if_neg hkp] at hgk
                                refine WC.skip ?_
                                refine WC.region ?_
                                refine WL.pure rfl ?_
                                refine WL.ldAgg GOk.no sh29 rfl rfl hb15.at_ ?_
                                refine WL.bldS (e := 29) (cs := #[.string l[k].key, .slice A2 l[k].nums.length c2]) GOk.no rfl (by kernel_rfl) fun w19 hg19 hb19 hz19 => ?_
                                have hW19 : Below w.heap.size w w19 := Bg hW15 hg19
                                have hb20_2 := Box.step hb15 hg19 (by simp)
                                have h19 : Below w'.heap.size w' w19 := Bg (Br (below_gb hg14) hg15 (Nat.le_refl _)) hg19
                                have hown19 := hown.move (fun j hj => h19.block j (hown.blt j hj)) (fun c hc _ hl => h19.block c hl)
                                have hR : rLine.R (fun b => b < w.heap.size ∧ some b ≠ v.ownBlock) w19 l[k] [.string l[k].key, .slice A2 l[k].nums.length c2] := rLine_mk hck ((Brow (by decide) hW19 hrowk').mono (by decide) fun c hc _ => ⟨hc, hne c hc⟩)
                                refine WL.app (r := rLine) (ys := [l[k]]) (by decide) GOk.no el22 rfl (by decide) rfl rfl hown19 (RowE.box (cs := [.string l[k].key, .slice A2 l[k].nums.length c2]) hb19 (Reps.one hR rfl)) (by have := h19.size; omega) (by simp only [List.length_take, List.length_cons, List.length_nil]; omega) fun v20 w20 ho20 hg20 hx20 => ?_
                                refine WL.pure rfl ?_
                                refine WL.nil ?_
                                have hW20 : Below w.heap.size w w20 := hW19.grown hg20 hW19.size (fun j hj => by have := hown.bge j hj; omega)
                                refine WC.region ?_
                                refine WL.pure rfl ?_
                                refine WL.addI GOk.no rfl rfl (in_i64 (by omega) (by omega)) ?_
                                refine WL.pure rfl ?_
                                refine WL.nil ?_
                                refine ⟨rfl, (k + 1, v20),  (.cons rfl (.cons rfl (.cons rfl (.cons rfl (.cons rfl (.cons rfl (.nil _))))))), ⟨by dsimp only; omega, by dsimp only; rw [List.take_succ_eq_append_getElem (by omega), hgk]; exact ho20, by have := hg20.size; have := h19.size; omega, hW20⟩, by dsimp only; omega⟩
                            · -- t117 = false
                              obtain rfl : k = l.length := by dsimp only at hc117; omega
                              rw [← hGl, List.take_length] at hown
                              obtain ⟨A5, c5, rfl, hc5, hrow5⟩ := hown.slv
                              have hgG := cutAt_good hg hpl hq
                              have hls := audit_Less_calls (some ad) A5 c c5 l (cutAt l p q) w' (Brow (by decide) hB hl) hrow5
                              refine WC.exit rfl ?_
                              refine WC.seq ?_
                              refine WC.region ?_
                              refine WL.pure rfl ?_
                              refine WL.pure rfl ?_
                              refine WL.call GOk.no F4 rfl (hls) ?_
                              rintro e w21 ⟨r21, v21, rfl, hv21, hn21, hr21, hB21⟩; refine ⟨_, rfl, ?_⟩
                              have hW21 : Below w.heap.size w w21 := B2 hB hB21
                              obtain rfl := nil_of hv21 (hn21.2 ⟨⟨hg, hgG⟩, fun i h => cutAt_pre hg i h⟩)
                              obtain rfl : r21 = (q : Int) := by rw [hr21 rfl]; have := cutAt_count hpl hq; omega
                              have hpG : p < (cutAt l p q).length := by omega
                              obtain ⟨ad5, A6, c6, rfl, hat5, _, _⟩ := hrow5.line p hpG
                              have hgp := cutAt_get l p q p hpG
                              rw [if_pos rfl] at hgp
                              have hjd := audit_Judge_calls (some ad) (some ad5) c c5 l (cutAt l p q) w21 (Brow (by decide) hW21 hl) (Brow (by decide) hB21 hrow5) hc hc5 hg hgG p hpl hGl (fun i h => cutAt_key l p q i (by omega)) (fun i h hi => by rw [cutAt_get, if_neg (fun e => hi e.symm)]) (by rw [hgp, cutL_len]; rfl) (by rw [hgp, cutL_len]; omega)
                              refine WL.pure rfl ?_
                              refine WL.pure rfl ?_
                              refine WL.pure rfl ?_
                              refine WL.pure rfl ?_
                              refine WL.pure rfl ?_
                              refine WL.nil ?_
                              refine WC.seq ?_
                              refine WC.region ?_
                              refine WL.pure rfl ?_
                              refine WL.pure rfl ?_
                              refine WL.call GOk.no F8 rfl (hjd) ?_
                              rintro e w22 ⟨rfl, hB22⟩; refine ⟨_, rfl, ?_⟩
                              have hW22 : Below w.heap.size w w22 := B2 hW21 hB22
                              refine WL.pure rfl ?_
                              refine WL.pure rfl ?_
                              refine WL.pure rfl ?_
                              refine WL.pure rfl ?_
                              refine WL.pure rfl ?_
                              refine WL.pure rfl ?_
                              refine WL.pure rfl ?_
                              refine WL.pure rfl ?_
                              refine WL.pure rfl ?_
                              refine WL.nil ?_
                              refine WC.seq ?_
                              refine WC.region ?_
                              refine WL.pure rfl ?_
                              refine WL.eqNil GOk.no Try.underlying24 rfl rfl ?_
                              refine WL.pure rfl ?_
                              refine WL.caseB (d := 156) rfl (fun h156 => ?_) (fun h156 => ?_)
                              · -- t156 = true
                                refine WL.gpure rfl rfl ?_
                                refine WL.gpure rfl rfl ?_
                                refine WL.gpure rfl rfl ?_
                                refine WL.pure rfl ?_
                                refine WL.pure rfl ?_
                                refine WL.caseD (d := 161) rfl (fun h161 => ?_) (fun h161 => ?_)
                                · -- t161 = true
                                  refine WL.gpure rfl rfl ?_
                                  refine WL.eqNil (GOk.yes rfl) Try.underlying24 rfl rfl ?_
                                  refine WL.pure rfl ?_
                                  refine WL.pure rfl ?_
                                  refine WL.caseB (d := 165) rfl (fun h165 => ?_) (fun h165 => ?_)
                                  · -- t165 = true
                                    refine WL.gpure rfl rfl ?_
                                    refine WL.gpure rfl rfl ?_
                                    refine WL.pure rfl ?_
                                    refine WL.pure rfl ?_
                                    refine WL.caseD (d := 169) rfl (fun h169 => ?_) (fun h169 => ?_)
                                    · -- t169 = true
                                      refine WL.gpure rfl rfl ?_
                                      refine WL.gpure rfl rfl ?_
                                      refine WL.gpure rfl rfl ?_
                                      refine WL.idxAddr (GOk.yes rfl) el22 rfl rfl (by omega) (by omega) ?_
                                      refine WL.fldAddr (GOk.yes rfl) fo29_0 rfl ?_
                                      refine WL.ld (GOk.yes rfl) sh9 rfl (Ba hW22 hat 0 _ rfl) ?_
                                      refine WL.gpure rfl rfl ?_
                                      refine WL.pure rfl ?_
                                      refine WL.pure rfl ?_
                                      refine WL.caseD (d := 178) rfl (fun h178 => ?_) (fun h178 => ?_)
                                      · -- t178 = true
                                        refine WL.gpure rfl rfl ?_
                                        refine WL.gpure rfl rfl ?_
                                        refine WL.gpure rfl rfl ?_
                                        refine WL.idxAddr (GOk.yes rfl) el22 rfl rfl (by omega) (by omega) ?_
                                        refine WL.fldAddr (GOk.yes rfl) fo29_1 rfl ?_
                                        refine WL.ld (GOk.yes rfl) sh27 rfl (Ba (B2 hB21 hB22) hat5 1 _ rfl) ?_
                                        refine WL.lenS (GOk.yes rfl) Try.underlying27 rfl ?_
                                        refine WL.gpure rfl rfl ?_
                                        refine WL.pure rfl ?_
                                        refine WL.pure rfl ?_
                                        refine WL.nil ?_
                                        refine WC.retn (Ret1 rfl ⟨by show Ending.returned (.bool (decide ((((cutAt l p q)[p]).nums.length : Int) = ((cutAt l p q)[p]).nums.length))) = _; simp, hW22⟩)
                                      · exact absurd rfl h178
                                    · exact absurd rfl h169
                                  · cases h165
                                · exact absurd rfl h161
                              · cases h156
end Go.Proofs.Ytfgbplbohekghaa
