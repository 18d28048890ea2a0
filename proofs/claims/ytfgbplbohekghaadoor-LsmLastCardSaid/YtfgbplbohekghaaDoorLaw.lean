/- weirlaw6.LsmLast. -/
import Derived.Test.YtfgbplbohekghaaDoorCode
import Derived.Test.YtfgbplbohekghaaDoorTy
import Derived.Test.YtfgbplbohekghaaDoorRowX
import Derived.Test.YtfgbplbohekghaaDoorL10
import Derived.Test.YtfgbplbohekghaaDoorLaw1
import Derived.Test.YtfgbplbohekghaaDoorError
set_option linter.unusedVariables false
set_option maxRecDepth 2000
namespace Go.Proofs.YtfgbplbohekghaaDoor
open Go.Wl Go.RowKit

theorem weirlaw6_LsmLast_calls (limit : Int) (A1 : Option Addr) (c1 : Nat) (ks : List ByteArray) (A2 : Option Addr) (c2 : Nat) (vs : List ByteArray) (gone : ByteArray) (w : World) (hks : Row rStr (fun _ => True) w A1 ks) (hvs : Row rStr (fun _ => True) w A2 vs) (hg : w.cell? ⟨0, 0, none⟩ = some errHandle) : Calls Tryd.prog 3 #[.int .i64 limit, .slice A1 ks.length c1, .slice A2 vs.length c2, .string gone] w fun e w' => e = .returned (.bool true) ∧ Below w.heap.size w w' := by
  have hkl := hks.1
  have hvl := hvs.1
  refine enter F3 rfl rfl ?_
  refine WC.seq ?_
  refine WC.region ?_
  refine WL.pure rfl ?_
  refine WL.nil ?_
  refine WC.seq ?_
  refine WC.region ?_
  refine WL.pure rfl ?_
  refine WL.call GOk.no F4 rfl (new_good limit w) ?_
  rintro e w1 ⟨pv, ev, rfl, hiv, h1, hB1⟩; refine ⟨_, rfl, ?_⟩
  have hW1 : Below w.heap.size w w1 := B2 (Below.refl _ _) hB1
  refine WL.pure rfl ?_
  refine WL.pure rfl ?_
  refine WL.pure rfl ?_
  refine WL.pure rfl ?_
  refine WL.pure rfl ?_
  refine WL.nil ?_
  refine WC.seq ?_
  refine WC.seq ?_
  refine WC.region ?_
  refine WL.pure rfl ?_
  refine WL.neNil GOk.no Tryd.underlying25 rfl hiv ?_
  refine WL.nil ?_
  refine WC.cond rfl (fun hc32 => ?_) (fun hc32 => ?_)
  · -- t32 = true
    have hbad : limit < 1 ∨ 400 < limit := by
      rcases h1 with ⟨_, h⟩ | ⟨h, _⟩
      · exact h
      · exact absurd hc32 (by show ¬ (!nilB ev) = true; rw [h]; simp)
    refine WC.seq ?_
    refine WC.region ?_
    refine WL.pure rfl ?_
    refine WL.pure rfl ?_
    refine WL.pure rfl ?_
    refine WL.caseD (d := 35) rfl (fun h35 => ?_) (fun h35 => ?_)
    · -- t35 = true
      refine WL.offF rfl ?_
      refine WL.offF rfl ?_
      refine WL.pure rfl ?_
      refine WL.pure rfl ?_
      refine WL.nil ?_
      refine WC.retn (Ret1 rfl ⟨rfl, hW1⟩)
    · -- t35 = false
      refine WL.gpure rfl rfl ?_
      refine WL.gpure rfl rfl ?_
      refine WL.pure rfl ?_
      refine WL.pure rfl ?_
      refine WL.nil ?_
      refine WC.retn (Ret1 rfl ⟨(by show Ending.returned (.bool (decide (400 < limit))) = _; rw [decide_eq_true (by omega)]), hW1⟩)
  · -- t32 = false
    obtain ⟨hl1, hl2, rfl, hst⟩ : 1 ≤ limit ∧ limit ≤ 400 ∧ pv = .pointer (some ⟨w.heap.size + 1, 0, none⟩) ∧ ∀ base, base ≤ w.heap.size → St base (w.heap.size + 1) w.heap.size limit w1 [] [] := by
      rcases h1 with ⟨h, _⟩ | ⟨_, h⟩
      · exact absurd hc32 (by show ¬ (!nilB ev) = false; rw [h]; simp)
      · exact h
    refine WC.skip ?_
    refine WC.seq ?_
    refine WC.region ?_
    refine WL.call GOk.no F4 rfl (new_good 9 w1) ?_
    rintro e w2 ⟨pv2, ev2, rfl, hiv2, h2, hB2⟩; refine ⟨_, rfl, ?_⟩
    have hW2 : Below w.heap.size w w2 := B2 hW1 hB2
    refine WL.pure rfl ?_
    refine WL.pure rfl ?_
    refine WL.pure rfl ?_
    refine WL.pure rfl ?_
    refine WL.pure rfl ?_
    refine WL.nil ?_
    refine WC.seq ?_
    refine WC.seq ?_
    refine WC.region ?_
    refine WL.pure rfl ?_
    refine WL.neNil GOk.no Tryd.underlying25 rfl hiv2 ?_
    refine WL.nil ?_
    refine WC.cond rfl (fun hc44 => ?_) (fun hc44 => ?_)
    · -- t44 = true
      refine WC.seq ?_
      refine WC.region ?_
      refine WL.pure rfl ?_
      refine WL.nil ?_
      refine WC.retn (Ret1 rfl ⟨(by rcases h2 with ⟨_, h⟩ | ⟨h, _⟩; exact absurd h (by omega); exact absurd hc44 (by show ¬ (!nilB ev2) = true; rw [h]; simp)), hW2⟩)
    · -- t44 = false
      obtain ⟨rfl, hst2⟩ : pv2 = .pointer (some ⟨w1.heap.size + 1, 0, none⟩) ∧ ∀ base, base ≤ w1.heap.size → St base (w1.heap.size + 1) w1.heap.size 9 w2 [] [] := by
        rcases h2 with ⟨h, _⟩ | ⟨_, _, _, h⟩
        · exact absurd hc44 (by show ¬ (!nilB ev2) = false; rw [h]; simp)
        · exact h
      refine WC.skip ?_
      refine WC.seq ?_
      refine WC.region ?_
      refine WL.pure rfl ?_
      refine WL.call GOk.no F5 rfl (lsm_Store__Put_calls w1.heap.size (w1.heap.size + 1) w1.heap.size 9 [] [] { data := #[97] } { data := #[120] } w2 (hst2 _ (Nat.le_refl _)) hB2.size (by simp) (by simp) (by simp)) ?_
      rintro e w3 ⟨v3, rfl, hv3, hB3, _, h3⟩; refine ⟨_, rfl, ?_⟩
      have hW3 : Below w.heap.size w w3 := hW2.trans (hB3.mono hB1.size)
      have hV3 : Below w1.heap.size w1 w3 := hB2.trans hB3
      obtain ⟨hn3, hst3⟩ := h3 (by decide) (by decide) (by simp) (by simp [setM])
      refine WL.pure rfl ?_
      refine WL.nil ?_
      refine WC.seq ?_
      refine WC.region ?_
      refine WL.pure rfl ?_
      refine WL.call GOk.no F5 rfl (lsm_Store__Put_calls w1.heap.size (w1.heap.size + 1) w1.heap.size 9 _ [] { data := #[97] } { data := #[121] } w3 hst3 hV3.size (Nat.le_trans (setM_len _ _ _ _) (by simp)) (by simp) (by simp)) ?_
      rintro e w4 ⟨v4, rfl, hv4, hB4, _, h4⟩; refine ⟨_, rfl, ?_⟩
      have hW4 : Below w.heap.size w w4 := hW3.trans (hB4.mono hB1.size)
      have hV4 : Below w1.heap.size w1 w4 := hV3.trans hB4
      obtain ⟨hn4, hst4⟩ := h4 (by decide) (by decide) (Nat.lt_of_le_of_lt (Nat.add_le_add_right (setM_len _ _ _ _) _) (by simp)) (Int.ofNat_lt.2 (Nat.lt_of_le_of_lt (setM_len _ _ _ _) (Nat.lt_of_le_of_lt (Nat.add_le_add_right (setM_len _ _ _ _) _) (by simp))))
      refine WL.pure rfl ?_
      refine WL.nil ?_
      refine WC.seq ?_
      refine WC.region ?_
      refine WL.pure rfl ?_
      refine WL.call GOk.no F6 rfl (get_view hst4 (Nat.le_trans (Nat.add_le_add_right (setM_len _ _ _ _) _) (Nat.le_trans (Nat.add_le_add_right (Nat.add_le_add_right (setM_len _ _ _ _) _) _) (by simp))) (by simp) { data := #[97] } _ (by rw [view_set, if_pos rfl]) rfl) ?_
      rintro e w5 ⟨h5, hB5⟩; obtain rfl : e = .returned (.tuple #[.string { data := #[121] }, .nilIface]) := (by rcases h5 with ⟨_, h⟩ | ⟨h, _⟩; exact h; cases h); refine ⟨_, rfl, ?_⟩
      have hW5 : Below w.heap.size w w5 := B2 hW4 hB5
      have hst5 : Good w.heap.size (w.heap.size + 1) w.heap.size limit (KF ks) (KF vs) w5 0 0 := ⟨[], [], (hst _ (Nat.le_refl _)).below (hV4.trans (hB5.mono hV4.size)), fun q => rfl, by simp, by simp⟩
      refine WL.pure rfl ?_
      refine WL.pure rfl ?_
      refine WL.pure rfl ?_
      refine WL.pure rfl ?_
      refine WL.pure rfl ?_
      refine WL.nil ?_
      refine WC.seq ?_
      refine WC.seq ?_
      refine WC.region ?_
      refine WL.pure rfl ?_
      refine WL.neNil GOk.no Tryd.underlying25 rfl hv3 ?_
      refine WL.pure rfl ?_
      refine WL.caseB (d := 56) rfl (fun h56 => ?_) (fun h56 => ?_)
      · -- t56 = true
        refine WL.offF rfl ?_
        refine WL.offF rfl ?_
        refine WL.pure rfl ?_
        refine WL.pure rfl ?_
        refine WL.offF rfl ?_
        refine WL.offF rfl ?_
        refine WL.pure rfl ?_
        refine WL.pure rfl ?_
        refine WL.offF rfl ?_
        refine WL.offF rfl ?_
        refine WL.pure rfl ?_
        refine WL.nil ?_
        refine WC.condT rfl rfl ?_
        refine WC.seq ?_
        refine WC.region ?_
        refine WL.pure rfl ?_
        refine WL.nil ?_
        refine WC.retn (Ret1 rfl ⟨(by exfalso; exact absurd h56 (by show ¬ (!nilB v3) = true; rw [hn3]; simp)), hW5⟩)
      · -- t56 = false
        refine WL.gpure rfl rfl ?_
        refine WL.neNil (GOk.yes rfl) Tryd.underlying25 rfl hv4 ?_
        refine WL.pure rfl ?_
        refine WL.pure rfl ?_
        refine WL.caseB (d := 60) rfl (fun h60 => ?_) (fun h60 => ?_)
        · -- t60 = true
          refine WL.offF rfl ?_
          refine WL.offF rfl ?_
          refine WL.pure rfl ?_
          refine WL.pure rfl ?_
          refine WL.offF rfl ?_
          refine WL.offF rfl ?_
          refine WL.pure rfl ?_
          refine WL.nil ?_
          refine WC.condT rfl rfl ?_
          refine WC.seq ?_
          refine WC.region ?_
          refine WL.pure rfl ?_
          refine WL.nil ?_
          refine WC.retn (Ret1 rfl ⟨(by exfalso; exact absurd h60 (by show ¬ (!nilB v4) = true; rw [hn4]; simp)), hW5⟩)
        · -- t60 = false
          refine WL.gpure rfl rfl ?_
          refine WL.neNil (GOk.yes rfl) Tryd.underlying25 rfl rfl ?_
          refine WL.pure rfl ?_
          refine WL.pure rfl ?_
          refine WL.caseB (d := 64) rfl (fun h64 => ?_) (fun h64 => ?_)
          · -- t64 = true
            refine WL.offF rfl ?_
            refine WL.offF rfl ?_
            refine WL.pure rfl ?_
            refine WL.nil ?_
            refine WC.condT rfl rfl ?_
            refine WC.seq ?_
            refine WC.region ?_
            refine WL.pure rfl ?_
            refine WL.nil ?_
            refine WC.retn (Ret1 rfl ⟨(by cases h64), hW5⟩)
          · -- t64 = false
            refine WL.gpure rfl rfl ?_
            refine WL.gpure rfl rfl ?_
            refine WL.pure rfl ?_
            refine WL.nil ?_
            refine WC.condN rfl (fun hc67 => ?_) (fun hc67 => ?_)
            · -- t67 = true
              refine WC.seq ?_
              refine WC.region ?_
              refine WL.pure rfl ?_
              refine WL.nil ?_
              refine WC.retn (Ret1 rfl ⟨(by exact absurd rfl hc67), hW5⟩)
            · -- t67 = false
              refine WC.skip ?_
              refine WC.seq ?_
              refine WC.region ?_
              refine WL.pure rfl ?_
              refine WL.lenS GOk.no Tryd.underlying22 rfl ?_
              refine WL.pure rfl ?_
              refine WL.nil ?_
              refine WC.seqJ (σ := Nat) [(1, _), (2, _), (3, _), (8, _), (9, _)] (.cons rfl (.cons rfl (.cons rfl (.cons rfl (.cons rfl (.nil _)))))) (fun z => [(16, .int .i64 (z : Int))])
                (fun z w' => (w' = w5 ∧ z = min ks.length vs.length) ∧ Below w.heap.size w w') ?_ ?_
              · -- up to the join 1
                refine WC.seq ?_
                refine WC.region ?_
                refine WL.pure rfl ?_
                refine WL.lenS GOk.no Tryd.underlying22 rfl ?_
                refine WL.pure rfl ?_
                refine WL.pure rfl ?_
                refine WL.nil ?_
                refine WC.condD rfl (fun hc73 => ?_) (fun hc73 => ?_)
                · -- t73 = true
                  refine WC.region ?_
                  refine WL.pure rfl ?_
                  refine WL.lenS GOk.no Tryd.underlying22 rfl ?_
                  refine WL.pure rfl ?_
                  refine WL.nil ?_
                  refine ⟨rfl, (.cons rfl (.cons rfl (.cons rfl (.cons rfl (.cons rfl (.nil _)))))), vs.length, (.cons rfl (.nil _)), ⟨⟨rfl, by omega⟩, hW5⟩⟩
                · -- t73 = false
                  refine WC.skip ?_
                  refine ⟨rfl, (.cons rfl (.cons rfl (.cons rfl (.cons rfl (.cons rfl (.nil _)))))), ks.length, (.cons rfl (.nil _)), ⟨⟨rfl, by omega⟩, hW5⟩⟩
              · -- behind the join 1
                rintro n wj1 ⟨⟨rfl, hn⟩, hBj1⟩
                refine WC.seqJ (σ := Unit) [(1, _), (2, _), (3, _), (8, _), (9, _), (16, _)] (.cons rfl (.cons rfl (.cons rfl (.cons rfl (.cons rfl (.cons rfl (.nil _))))))) (fun z => [])
                  (fun z w' => Good w.heap.size (w.heap.size + 1) w.heap.size limit (KF ks) (KF vs) w' (min n 40) 120 ∧ Below w.heap.size w w') ?_ ?_
                · -- up to the join 2
                  refine WC.seq ?_
                  refine WC.region ?_
                  refine WL.pure rfl ?_
                  refine WL.nil ?_
                  refine WC.block ?_
                  refine WC.loopK (σ := Nat) [(1, _), (2, _), (3, _), (8, _), (9, _), (16, _)] (.cons rfl (.cons rfl (.cons rfl (.cons rfl (.cons rfl (.cons rfl (.nil _))))))) (fun k => [(17, .int .i64 (k : Int))])
                    (fun k w' => (k ≤ min n 40 ∧ Good w.heap.size (w.heap.size + 1) w.heap.size limit (KF ks) (KF vs) w' k (3 * k)) ∧ Below w.heap.size w w') (fun k => min n 40 - k) 0 ⟨⟨by omega, hst5⟩, hBj1⟩ (.cons rfl (.nil _)) ?_
                  rintro k3 wl3 ⟨⟨hk3, hgd3⟩, hBl3⟩
                  refine WC.seq ?_
                  refine WC.seq ?_
                  refine WC.region ?_
                  refine WL.pure rfl ?_
                  refine WL.pure rfl ?_
                  refine WL.pure rfl ?_
                  refine WL.pure rfl ?_
                  refine WL.caseD (d := 79) rfl (fun h79 => ?_) (fun h79 => ?_)
                  · -- t79 = true
                    refine WL.gpure rfl rfl ?_
                    refine WL.gpure rfl rfl ?_
                    refine WL.pure rfl ?_
                    refine WL.nil ?_
                    refine WC.condD rfl (fun hc82 => ?_) (fun hc82 => ?_)
                    · -- t82 = true
                      refine WC.skip ?_
                      refine WC.seq ?_
                      refine WC.block ?_
                      refine WC.seq ?_
                      refine WC.mix (Below w.heap.size w) (by kernel_rfl) fun w6 hg6 hh6 => ?_
                      have hW6 : Below w.heap.size w w6 := Bg hBl3 hg6
                      have hS6 : Below w.heap.size w w6 := hW6
                      have hgd6 := hgd3.below (below_gb hg6)
                      obtain ⟨ad1, rfl, hk1⟩ := rowK hks k3 (by omega)
                      obtain ⟨ad2, rfl, hv1⟩ := rowK hvs k3 (by omega)
                      refine WM.p hS6 rfl ?_
                      refine WM.p hS6 rfl ?_
                      refine WM.p hS6 rfl ?_
                      refine WM.o GOk.no hS6 (fun w0 hS0 => o_idxAddr el22 rfl rfl (by omega) (by omega)) ?_
                      refine WM.o GOk.no hS6 (fun w0 hS0 => o_ld sh9 rfl (Bc hS0 hk1)) ?_
                      refine WM.p hS6 rfl ?_
                      refine WM.p hS6 rfl ?_
                      refine WM.o GOk.no hS6 (fun w0 hS0 => o_idxAddr el22 rfl rfl (by omega) (by omega)) ?_
                      refine WM.o GOk.no hS6 (fun w0 hS0 => o_ld sh9 rfl (Bc hS0 hv1)) ?_
                      refine WM.e ?_
                      refine WL.call GOk.no F5 rfl (put_good hgd6 hW6.size (by omega) (by omega)) ?_
                      rintro e w7 ⟨v7, rfl, hv7, hB7, h7⟩; refine ⟨_, rfl, ?_⟩
                      have hW7 : Below w.heap.size w w7 := hW6.trans hB7
                      have hS7 : Below w.heap.size w w7 := hW7
                      refine WL.nil ⟨hS7, ?_⟩
                      refine WM.p hS7 rfl ?_
                      refine WM.nil ?_
                      refine WC.seq ?_
                      refine WC.seq ?_
                      refine WC.region ?_
                      refine WL.pure rfl ?_
                      refine WL.neNil GOk.no Tryd.underlying25 rfl hv7 ?_
                      refine WL.nil ?_
                      refine WC.cond rfl (fun hc96 => ?_) (fun hc96 => ?_)
                      · -- t96 = true
                        refine WC.seq ?_
                        refine WC.region ?_
                        refine WL.pure rfl ?_
                        refine WL.nil ?_
                        refine WC.retn (Ret1 rfl ⟨rfl, hW7⟩)
                      · -- t96 = false
                        have hgd7 := h7 (by simpa using hc96)
                        refine WC.skip ?_
                        refine WC.seq ?_
                        refine WC.seq ?_
                        refine WC.region ?_
                        refine WL.pure rfl ?_
                        refine WL.remI GOk.no rfl rfl (by decide) ?_
                        refine WL.pure rfl ?_
                        refine WL.nil ?_
                        refine WC.condD rfl (fun hc99 => ?_) (fun hc99 => ?_)
                        · -- t99 = true
                          refine WC.region ?_
                          refine WL.pure rfl ?_
                          refine WL.call GOk.no F7 rfl (flush_good hgd7 hW7.size (by omega) (by omega)) ?_
                          rintro e w8 ⟨v8, rfl, hB8, hgd8⟩; refine ⟨_, rfl, ?_⟩
                          have hW8 : Below w.heap.size w w8 := hW7.trans hB8
                          refine WL.nil ?_
                          refine WC.seq ?_
                          refine WC.region ?_
                          refine WL.pure rfl ?_
                          refine WL.remI GOk.no rfl rfl (by decide) ?_
                          refine WL.pure rfl ?_
                          refine WL.nil ?_
                          refine WC.condD rfl (fun hc104 => ?_) (fun hc104 => ?_)
                          · -- t104 = true
                            refine WC.region ?_
                            refine WL.pure rfl ?_
                            refine WL.call GOk.no F8 rfl (compact_good hgd8 hW8.size (by omega) (by omega)) ?_
                            rintro e w9 ⟨v9, rfl, hB9, hgd9⟩; refine ⟨_, rfl, ?_⟩
                            have hW9 : Below w.heap.size w w9 := hW8.trans hB9
                            refine WL.nil ?_
                            refine WC.region ?_
                            refine WL.pure rfl ?_
                            refine WL.addI GOk.no rfl rfl (in_i64 (by omega) (by omega)) ?_
                            refine WL.pure rfl ?_
                            refine WL.nil ?_
                            refine ⟨rfl, (.cons rfl (.cons rfl (.cons rfl (.cons rfl (.cons rfl (.cons rfl (.nil _))))))), k3 + 1, (.cons rfl (.nil _)), ⟨⟨by omega, hgd9.more (by omega)⟩, hW9⟩, by omega⟩
                          · -- t104 = false
                            refine WC.skip ?_
                            refine WC.region ?_
                            refine WL.pure rfl ?_
                            refine WL.addI GOk.no rfl rfl (in_i64 (by omega) (by omega)) ?_
                            refine WL.pure rfl ?_
                            refine WL.nil ?_
                            refine ⟨rfl, (.cons rfl (.cons rfl (.cons rfl (.cons rfl (.cons rfl (.cons rfl (.nil _))))))), k3 + 1, (.cons rfl (.nil _)), ⟨⟨by omega, hgd8.more (by omega)⟩, hW8⟩, by omega⟩
                        · -- t99 = false
                          refine WC.skip ?_
                          refine WC.seq ?_
                          refine WC.region ?_
                          refine WL.pure rfl ?_
                          refine WL.remI GOk.no rfl rfl (by decide) ?_
                          refine WL.pure rfl ?_
                          refine WL.nil ?_
                          refine WC.condD rfl (fun hc104 => ?_) (fun hc104 => ?_)
                          · -- t104 = true
                            refine WC.region ?_
                            refine WL.pure rfl ?_
                            refine WL.call GOk.no F8 rfl (compact_good hgd7 hW7.size (by omega) (by omega)) ?_
                            rintro e w10 ⟨v10, rfl, hB10, hgd10⟩; refine ⟨_, rfl, ?_⟩
                            have hW10 : Below w.heap.size w w10 := hW7.trans hB10
                            refine WL.nil ?_
                            refine WC.region ?_
                            refine WL.pure rfl ?_
                            refine WL.addI GOk.no rfl rfl (in_i64 (by omega) (by omega)) ?_
                            refine WL.pure rfl ?_
                            refine WL.nil ?_
                            refine ⟨rfl, (.cons rfl (.cons rfl (.cons rfl (.cons rfl (.cons rfl (.cons rfl (.nil _))))))), k3 + 1, (.cons rfl (.nil _)), ⟨⟨by omega, hgd10.more (by omega)⟩, hW10⟩, by omega⟩
                          · -- t104 = false
                            refine WC.skip ?_
                            refine WC.region ?_
                            refine WL.pure rfl ?_
                            refine WL.addI GOk.no rfl rfl (in_i64 (by omega) (by omega)) ?_
                            refine WL.pure rfl ?_
                            refine WL.nil ?_
                            refine ⟨rfl, (.cons rfl (.cons rfl (.cons rfl (.cons rfl (.cons rfl (.cons rfl (.nil _))))))), k3 + 1, (.cons rfl (.nil _)), ⟨⟨by omega, hgd7.more (by omega)⟩, hW7⟩, by omega⟩
                    · -- t82 = false
                      refine WC.exit rfl ?_
                      refine ⟨rfl, (.cons rfl (.cons rfl (.cons rfl (.cons rfl (.cons rfl (.cons rfl (.nil _))))))), (), (.nil _), ⟨(by rw [show min n 40 = k3 by omega]; exact hgd3.more (by omega)), hBl3⟩⟩
                  · -- t79 = false
                    refine WL.offT rfl ?_
                    refine WL.offT rfl ?_
                    refine WL.pure rfl ?_
                    refine WL.nil ?_
                    refine WC.condF rfl rfl ?_
                    refine WC.exit rfl ?_
                    refine ⟨rfl, (.cons rfl (.cons rfl (.cons rfl (.cons rfl (.cons rfl (.cons rfl (.nil _))))))), (), (.nil _), ⟨(by rw [show min n 40 = k3 by omega]; exact hgd3.more (by omega)), hBl3⟩⟩
                · -- behind the join 2
                  rintro z2 wj2 ⟨hj2, hBj2⟩
                  refine WC.seq ?_
                  refine WC.region ?_
                  refine WL.pure rfl ?_
                  refine WL.pure rfl ?_
                  refine WL.call GOk.no F9 rfl (del_good gone hj2 hBj2.size (by omega) (by omega)) ?_
                  rintro e w11 ⟨v11, rfl, hv11, hB11, h11⟩; refine ⟨_, rfl, ?_⟩
                  have hW11 : Below w.heap.size w w11 := hBj2.trans hB11
                  refine WL.pure rfl ?_
                  refine WL.nil ?_
                  refine WC.seq ?_
                  refine WC.seq ?_
                  refine WC.region ?_
                  refine WL.pure rfl ?_
                  refine WL.neNil GOk.no Tryd.underlying25 rfl hv11 ?_
                  refine WL.nil ?_
                  refine WC.cond rfl (fun hc111 => ?_) (fun hc111 => ?_)
                  · -- t111 = true
                    refine WC.seq ?_
                    refine WC.region ?_
                    refine WL.pure rfl ?_
                    refine WL.nil ?_
                    refine WC.retn (Ret1 rfl ⟨rfl, hW11⟩)
                  · -- t111 = false
                    have hgd11 := h11 (by simpa using hc111)
                    refine WC.skip ?_
                    refine WC.seq ?_
                    refine WC.seq ?_
                    refine WC.region ?_
                    refine WL.pure rfl ?_
                    refine WL.nil ?_
                    refine WC.block ?_
                    refine WC.loopK (σ := Nat) [(1, _), (2, _), (3, _), (8, _), (9, _), (16, _)] (.cons rfl (.cons rfl (.cons rfl (.cons rfl (.cons rfl (.cons rfl (.nil _))))))) (fun k => [(20, .int .i64 (k : Int))])
                      (fun k w' => (k ≤ min n 40 ∧ GoodD w.heap.size (w.heap.size + 1) w.heap.size limit (KF ks) (KF vs) gone w' (min n 40)) ∧ Below w.heap.size w w') (fun k => min n 40 - k) 0 ⟨⟨by omega, hgd11⟩, hW11⟩ (.cons rfl (.nil _)) ?_
                    rintro k4 wl4 ⟨⟨hk4, hgd4⟩, hBl4⟩
                    refine WC.seq ?_
                    refine WC.seq ?_
                    refine WC.region ?_
                    refine WL.pure rfl ?_
                    refine WL.pure rfl ?_
                    refine WL.pure rfl ?_
                    refine WL.pure rfl ?_
                    refine WL.caseD (d := 115) rfl (fun h115 => ?_) (fun h115 => ?_)
                    · -- t115 = true
                      refine WL.gpure rfl rfl ?_
                      refine WL.gpure rfl rfl ?_
                      refine WL.pure rfl ?_
                      refine WL.nil ?_
                      refine WC.condD rfl (fun hc118 => ?_) (fun hc118 => ?_)
                      · -- t118 = true
                        refine WC.skip ?_
                        refine WC.seq ?_
                        refine WC.block ?_
                        refine WC.seq ?_
                        refine WC.region ?_
                        refine WL.pure rfl ?_
                        refine WL.pure rfl ?_
                        refine WL.nil ?_
                        refine WC.seqJ (σ := Nat) [(1, _), (2, _), (3, _), (8, _), (9, _), (16, _), (20, _)] (.cons rfl (.cons rfl (.cons rfl (.cons rfl (.cons rfl (.cons rfl (.cons rfl (.nil _)))))))) (fun z => [(21, .int .i64 (z : Int))])
                          (fun z w' => (GoodD w.heap.size (w.heap.size + 1) w.heap.size limit (KF ks) (KF vs) gone w' (min n 40) ∧ z < min n 40 ∧ KF ks z = KF ks k4 ∧ ∀ j, z < j → j < min n 40 → KF ks j ≠ KF ks k4) ∧ Below w.heap.size w w') ?_ ?_
                        · -- up to the join 5
                          refine WC.seq ?_
                          refine WC.region ?_
                          refine WL.pure rfl ?_
                          refine WL.addI GOk.no rfl rfl (in_i64 (by omega) (by omega)) ?_
                          refine WL.pure rfl ?_
                          refine WL.nil ?_
                          refine WC.block ?_
                          refine WC.loopK (σ := Nat × Nat) [(1, _), (2, _), (3, _), (8, _), (9, _), (16, _), (20, _)] (.cons rfl (.cons rfl (.cons rfl (.cons rfl (.cons rfl (.cons rfl (.cons rfl (.nil _)))))))) (fun k => [(21, .int .i64 (k.2 : Int)), (22, .int .i64 (k.1 : Int))])
                            (fun k w' => ((k.1 ≤ min n 40 ∧ k.2 < k.1 ∧ k4 < k.1 ∧ KF ks k.2 = KF ks k4 ∧ ∀ j, k.2 < j → j < k.1 → KF ks j ≠ KF ks k4) ∧ GoodD w.heap.size (w.heap.size + 1) w.heap.size limit (KF ks) (KF vs) gone w' (min n 40)) ∧ Below w.heap.size w w') (fun k => min n 40 - k.1) (k4 + 1, k4) ⟨⟨⟨by simp only; omega, by simp only; omega, by simp only; omega, rfl, fun j h1 h2 => by simp only at h1 h2; omega⟩, hgd4⟩, hBl4⟩ (.cons rfl (.cons rfl (.nil _))) ?_
                          rintro ⟨j6, last⟩ wl6 ⟨⟨⟨hj6, hl6, hi6, he6, hno6⟩, hgd6⟩, hBl6⟩; dsimp only at hj6 hl6 hi6 he6 hno6
                          refine WC.seq ?_
                          refine WC.seq ?_
                          refine WC.region ?_
                          refine WL.pure rfl ?_
                          refine WL.pure rfl ?_
                          refine WL.pure rfl ?_
                          refine WL.pure rfl ?_
                          refine WL.caseD (d := 127) rfl (fun h127 => ?_) (fun h127 => ?_)
                          · -- t127 = true
                            refine WL.gpure rfl rfl ?_
                            refine WL.gpure rfl rfl ?_
                            refine WL.pure rfl ?_
                            refine WL.nil ?_
                            refine WC.condD rfl (fun hc130 => ?_) (fun hc130 => ?_)
                            · -- t130 = true
                              refine WC.skip ?_
                              refine WC.seq ?_
                              refine WC.block ?_
                              refine WC.seq ?_
                              refine WC.mix (Below wl6.heap.size wl6) (by kernel_rfl) fun w12 hg12 hh12 => ?_
                              have hW12 : Below w.heap.size w w12 := Bg hBl6 hg12
                              have hS12 : Below wl6.heap.size wl6 w12 := below_gb hg12
                              have hgd12 := hgd6.below hS12
                              obtain ⟨ad1, rfl, hk1⟩ := rowK hks j6 (by omega)
                              obtain ⟨ad2, hea, hk2⟩ := rowK hks k4 (by omega)
                              cases hea
                              refine WM.p hS12 rfl ?_
                              refine WM.p hS12 rfl ?_
                              refine WM.o GOk.no hS12 (fun w0 hS0 => o_idxAddr el22 rfl rfl (by omega) (by omega)) ?_
                              refine WM.o GOk.no hS12 (fun w0 hS0 => o_ld sh9 rfl (Bc hS0 (Bc hBl6 hk1))) ?_
                              refine WM.p hS12 rfl ?_
                              refine WM.p hS12 rfl ?_
                              refine WM.o GOk.no hS12 (fun w0 hS0 => o_idxAddr el22 rfl rfl (by omega) (by omega)) ?_
                              refine WM.o GOk.no hS12 (fun w0 hS0 => o_ld sh9 rfl (Bc hS0 (Bc hBl6 hk2))) ?_
                              refine WM.p hS12 rfl ?_
                              refine WM.nil ?_
                              refine WC.condD rfl (fun hc141 => ?_) (fun hc141 => ?_)
                              · -- t141 = true
                                refine WC.region ?_
                                refine WL.pure rfl ?_
                                refine WL.pure rfl ?_
                                refine WL.nil ?_
                                refine WC.region ?_
                                refine WL.pure rfl ?_
                                refine WL.addI GOk.no rfl rfl (in_i64 (by omega) (by omega)) ?_
                                refine WL.pure rfl ?_
                                refine WL.nil ?_
                                refine ⟨rfl, (.cons rfl (.cons rfl (.cons rfl (.cons rfl (.cons rfl (.cons rfl (.cons rfl (.nil _)))))))), (j6 + 1, j6), (.cons rfl (.cons rfl (.nil _))), ⟨⟨⟨by simp only; omega, by simp only; omega, by simp only; omega, hc141, fun j h1 h2 => by simp only at h1 h2; omega⟩, hgd12⟩, hW12⟩, by omega⟩
                              · -- t141 = false
                                refine WC.skip ?_
                                refine WC.region ?_
                                refine WL.pure rfl ?_
                                refine WL.addI GOk.no rfl rfl (in_i64 (by omega) (by omega)) ?_
                                refine WL.pure rfl ?_
                                refine WL.nil ?_
                                refine ⟨rfl, (.cons rfl (.cons rfl (.cons rfl (.cons rfl (.cons rfl (.cons rfl (.cons rfl (.nil _)))))))), (j6 + 1, last), (.cons rfl (.cons rfl (.nil _))), ⟨⟨⟨by simp only; omega, by simp only; omega, by simp only; omega, he6, fun j h1 h2 => by (simp only at h1 h2; by_cases e : j = j6; (subst e; exact hc141); exact hno6 j h1 (by omega))⟩, hgd12⟩, hW12⟩, by omega⟩
                            · -- t130 = false
                              refine WC.exit rfl ?_
                              refine ⟨rfl, (.cons rfl (.cons rfl (.cons rfl (.cons rfl (.cons rfl (.cons rfl (.cons rfl (.nil _)))))))), last, (.cons rfl (.nil _)), ⟨⟨hgd6, by omega, he6, fun j h1 h2 => hno6 j h1 (by omega)⟩, hBl6⟩⟩
                          · -- t127 = false
                            refine WL.offT rfl ?_
                            refine WL.offT rfl ?_
                            refine WL.pure rfl ?_
                            refine WL.nil ?_
                            refine WC.condF rfl rfl ?_
                            refine WC.exit rfl ?_
                            refine ⟨rfl, (.cons rfl (.cons rfl (.cons rfl (.cons rfl (.cons rfl (.cons rfl (.cons rfl (.nil _)))))))), last, (.cons rfl (.nil _)), ⟨⟨hgd6, by omega, he6, fun j h1 h2 => hno6 j h1 (by omega)⟩, hBl6⟩⟩
                        · -- behind the join 5
                          rintro last wj5 ⟨⟨hgd5, hl5, he5, hno5⟩, hBj5⟩
                          refine WC.seq ?_
                          refine WC.region ?_
                          obtain ⟨ad1, rfl, hk1⟩ := rowK hks k4 (by omega)
                          refine WL.pure rfl ?_
                          refine WL.pure rfl ?_
                          refine WL.pure rfl ?_
                          refine WL.idxAddr GOk.no el22 rfl rfl (by omega) (by omega) ?_
                          refine WL.ld GOk.no sh9 rfl (Bc hBj5 hk1) ?_
                          refine WL.call GOk.no F6 rfl (get_good hgd5 (KF ks k4) (KF vs last) (fun _ => lastV_at _ _ _ _ last hl5 he5 hno5)) ?_
                          rintro e w13 ⟨s13, v13, rfl, h13, hB13⟩; refine ⟨_, rfl, ?_⟩
                          have hW13 : Below w.heap.size w w13 := B2 hBj5 hB13
                          have hgd13 := hgd5.below hB13
                          refine WL.pure rfl ?_
                          refine WL.pure rfl ?_
                          refine WL.pure rfl ?_
                          refine WL.pure rfl ?_
                          refine WL.pure rfl ?_
                          refine WL.nil ?_
                          refine WC.seq ?_
                          refine WC.region ?_
                          refine WL.pure rfl ?_
                          refine WL.pure rfl ?_
                          refine WL.idxAddr GOk.no el22 rfl rfl (by omega) (by omega) ?_
                          refine WL.ld GOk.no sh9 rfl (Bc hW13 hk1) ?_
                          refine WL.pure rfl ?_
                          refine WL.pure rfl ?_
                          refine WL.nil ?_
                          refine WC.condD rfl (fun hc157 => ?_) (fun hc157 => ?_)
                          · -- t157 = true
                            obtain rfl : v13 = .iface 41 (.int .i64 6) := by rcases h13 with ⟨_, h⟩ | ⟨h, _⟩; exact h; exact absurd hc157 h
                            refine WC.seq ?_
                            refine WC.region ?_
                            refine WL.pure rfl ?_
                            refine WL.call GOk.no F10 rfl (weirsame_Error_calls _ 6 6 w13 (.inr rfl) (Bc hW13 hg)) ?_
                            rintro ev14 w14 ⟨rfl, hB14⟩; refine ⟨_, rfl, ?_⟩
                            have hW14 : Below w.heap.size w w14 := B2 hW13 hB14
                            refine WL.pure rfl ?_
                            refine WL.nil ?_
                            refine WC.seq ?_
                            refine WC.region ?_
                            refine WL.pure rfl ?_
                            refine WL.pure rfl ?_
                            refine WL.nil ?_
                            refine WC.cond rfl (fun hc161 => ?_) (fun hc161 => ?_)
                            · -- t161 = true
                              refine WC.seq ?_
                              refine WC.region ?_
                              refine WL.pure rfl ?_
                              refine WL.nil ?_
                              refine WC.retn (Ret1 rfl ⟨(by cases hc161), hW14⟩)
                            · -- t161 = false
                              refine WC.skip ?_
                              refine WC.region ?_
                              refine WL.pure rfl ?_
                              refine WL.addI GOk.no rfl rfl (in_i64 (by omega) (by omega)) ?_
                              refine WL.pure rfl ?_
                              refine WL.nil ?_
                              refine ⟨rfl, (.cons rfl (.cons rfl (.cons rfl (.cons rfl (.cons rfl (.cons rfl (.nil _))))))), k4 + 1, (.cons rfl (.nil _)), ⟨⟨by omega, hgd13.below hB14⟩, hW14⟩, by omega⟩
                          · -- t157 = false
                            refine WC.seq ?_
                            obtain ⟨rfl, rfl⟩ : s13 = KF vs last ∧ v13 = .nilIface := by rcases h13 with ⟨h, _⟩ | ⟨_, h⟩; exact absurd h hc157; exact h
                            obtain ⟨ad3, rfl, hv3'⟩ := rowK hvs last (by omega)
                            refine WC.region ?_
                            refine WL.pure rfl ?_
                            refine WL.neNil GOk.no Tryd.underlying25 rfl rfl ?_
                            refine WL.pure rfl ?_
                            refine WL.caseB (d := 164) rfl (fun h164 => ?_) (fun h164 => ?_)
                            · -- t164 = true
                              refine WL.offF rfl ?_
                              refine WL.offF rfl ?_
                              refine WL.offF rfl ?_
                              refine WL.offF rfl ?_
                              refine WL.offF rfl ?_
                              refine WL.offF rfl ?_
                              refine WL.pure rfl ?_
                              refine WL.nil ?_
                              refine WC.condT rfl rfl ?_
                              refine WC.seq ?_
                              refine WC.region ?_
                              refine WL.pure rfl ?_
                              refine WL.nil ?_
                              refine WC.retn (Ret1 rfl ⟨(by cases h164), hW13⟩)
                            · -- t164 = false
                              refine WL.gpure rfl rfl ?_
                              refine WL.gpure rfl rfl ?_
                              refine WL.gpure rfl rfl ?_
                              refine WL.idxAddr (GOk.yes rfl) el22 rfl rfl (by omega) (by omega) ?_
                              refine WL.ld (GOk.yes rfl) sh9 rfl (Bc hW13 hv3') ?_
                              refine WL.gpure rfl rfl ?_
                              refine WL.pure rfl ?_
                              refine WL.nil ?_
                              refine WC.condN rfl (fun hc171 => ?_) (fun hc171 => ?_)
                              · -- t171 = true
                                refine WC.seq ?_
                                refine WC.region ?_
                                refine WL.pure rfl ?_
                                refine WL.nil ?_
                                refine WC.retn (Ret1 rfl ⟨(by exact absurd rfl hc171), hW13⟩)
                              · -- t171 = false
                                refine WC.skip ?_
                                refine WC.region ?_
                                refine WL.pure rfl ?_
                                refine WL.addI GOk.no rfl rfl (in_i64 (by omega) (by omega)) ?_
                                refine WL.pure rfl ?_
                                refine WL.nil ?_
                                refine ⟨rfl, (.cons rfl (.cons rfl (.cons rfl (.cons rfl (.cons rfl (.cons rfl (.nil _))))))), k4 + 1, (.cons rfl (.nil _)), ⟨⟨by omega, hgd13⟩, hW13⟩, by omega⟩
                      · -- t118 = false
                        refine WC.exit rfl ?_
                        refine WC.seq ?_
                        refine WC.region ?_
                        refine WL.pure rfl ?_
                        refine WL.nil ?_
                        refine WC.retn (Ret1 rfl ⟨rfl, hBl4⟩)
                    · -- t115 = false
                      refine WL.offT rfl ?_
                      refine WL.offT rfl ?_
                      refine WL.pure rfl ?_
                      refine WL.nil ?_
                      refine WC.condF rfl rfl ?_
                      refine WC.exit rfl ?_
                      refine WC.seq ?_
                      refine WC.region ?_
                      refine WL.pure rfl ?_
                      refine WL.nil ?_
                      refine WC.retn (Ret1 rfl ⟨rfl, hBl4⟩)
end Go.Proofs.YtfgbplbohekghaaDoor
