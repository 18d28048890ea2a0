/- weirsame. -/
import Derived.Test.YtfgbplbohekghaaCode
import Derived.Test.YtfgbplbohekghaaTy
import Derived.Test.YtfgbplbohekghaaRowX
import Derived.Test.YtfgbplbohekghaaLine
set_option linter.unusedVariables false
set_option maxRecDepth 2000
namespace Go.Proofs.Ytfgbplbohekghaa
open Go.Wl Go.RowKit

theorem weirsame_Ints_calls {ok ok' : Nat → Prop} (A B : Option Addr) (c c' : Nat) (a b : List Int) (w : World) (ha : Row rInt ok w A a) (hb : Row rInt ok' w B b) : Calls Try.prog 14 #[.slice A a.length c, .slice B b.length c'] w fun e w' => e = .returned (.bool (decide (a = b))) ∧ Below w.heap.size w w' := by
  refine enter F14 rfl rfl ?_
  have hla := ha.1
  have hlb := hb.1
  refine WC.seq ?_
  refine WC.region ?_
  refine WL.pure rfl ?_
  refine WL.nil ?_
  refine WC.seq ?_
  refine WC.seq ?_
  refine WC.region ?_
  refine WL.pure rfl ?_
  refine WL.lenS GOk.no Try.underlying27 rfl ?_
  refine WL.pure rfl ?_
  refine WL.lenS GOk.no Try.underlying27 rfl ?_
  refine WL.pure rfl ?_
  refine WL.nil ?_
  refine WC.condN rfl (fun hc10 => ?_) (fun hc10 => ?_)
  · -- t10 = true
    refine WC.seq ?_
    refine WC.region ?_
    refine WL.pure rfl ?_
    refine WL.nil ?_
    refine WC.retn (Ret1 rfl ⟨by rw [decide_eq_false]; rintro rfl; exact hc10 rfl, Below.refl _ _⟩)
  · -- t10 = false
    refine WC.skip ?_
    refine WC.seq ?_
    refine WC.seq ?_
    refine WC.region ?_
    refine WL.pure rfl ?_
    refine WL.nil ?_
    refine WC.block ?_
    refine WC.loop (σ := Nat) (fun k => [(0, .slice A a.length c), (1, .slice B b.length c'), (4, .bool false), (5, .int .i64 (k : Int))])
      (fun k w' => k ≤ a.length ∧ a.take k = b.take k ∧ Below w.heap.size w w') (fun k => a.length - k) 0 ⟨by omega, by simp, Below.refl _ _⟩ (.cons rfl (.cons rfl (.cons rfl (.cons rfl (.nil _))))) ?_
    rintro k w' ⟨hk, hsame, hB⟩
    refine WC.seq ?_
    refine WC.seq ?_
    refine WC.region ?_
    refine WL.pure rfl ?_
    refine WL.pure rfl ?_
    refine WL.lenS GOk.no Try.underlying27 rfl ?_
    refine WL.pure rfl ?_
    refine WL.nil ?_
    refine WC.condD rfl (fun hc14 => ?_) (fun hc14 => ?_)
    · -- t14 = true
      refine WC.skip ?_
      refine WC.seq ?_
      refine WC.block ?_
      refine WC.seq ?_
      have hka : k < a.length := by omega
      have hkb : k < b.length := by omega
      obtain ⟨ad, rfl, hat⟩ := ha.int k hka
      obtain ⟨bd, rfl, hbt⟩ := hb.int k hkb
      refine WC.mix (Below w'.heap.size w') (by kernel_rfl) fun w1 hg1 hh1 => ?_
      have hS1 : Below w'.heap.size w' w1 := below_gb hg1
      refine WM.p hS1 rfl ?_
      refine WM.p hS1 rfl ?_
      refine WM.o GOk.no hS1 (fun w0 hS0 => o_idxAddr el27 rfl rfl (by omega) (by omega)) ?_
      refine WM.o GOk.no hS1 (fun w0 hS0 => o_ld sh3 rfl (Bc (B2 hB hS0) hat)) ?_
      refine WM.p hS1 rfl ?_
      refine WM.p hS1 rfl ?_
      refine WM.o GOk.no hS1 (fun w0 hS0 => o_idxAddr el27 rfl rfl (by omega) (by omega)) ?_
      refine WM.o GOk.no hS1 (fun w0 hS0 => o_ld sh3 rfl (Bc (B2 hB hS0) hbt)) ?_
      refine WM.p hS1 rfl ?_
      refine WM.nil ?_
      refine WC.condN rfl (fun hc25 => ?_) (fun hc25 => ?_)
      · -- t25 = true
        refine WC.seq ?_
        refine WC.region ?_
        refine WL.pure rfl ?_
        refine WL.nil ?_
        refine WC.retn (Ret1 rfl ⟨by rw [decide_eq_false]; rintro rfl; exact hc25 rfl, B2 hB hS1⟩)
      · -- t25 = false
        refine WC.skip ?_
        refine WC.region ?_
        refine WL.pure rfl ?_
        refine WL.addI GOk.no rfl rfl (in_i64 (by omega) (by omega)) ?_
        refine WL.pure rfl ?_
        refine WL.nil ?_
        refine ⟨rfl, k + 1, (.cons rfl (.cons rfl (.cons rfl (.cons rfl (.nil _))))), ⟨by omega, take_succ_eq hka hkb hsame (by simpa using hc25), B2 hB hS1⟩, by omega⟩
    · -- t14 = false
      refine WC.exit rfl ?_
      refine WC.seq ?_
      refine WC.region ?_
      refine WL.pure rfl ?_
      refine WL.nil ?_
      refine WC.retn (Ret1 rfl ⟨by obtain rfl : k = a.length := (by omega); rw [List.take_length, List.take_of_length_le (by omega)] at hsame; simp [hsame], hB⟩)
theorem weirsame_Lines_calls {ok ok' : Nat → Prop} (A B : Option Addr) (c c' : Nat) (a b : List Line) (w : World) (ha : Row rLine ok w A a) (hb : Row rLine ok' w B b) : Calls Try.prog 7 #[.slice A a.length c, .slice B b.length c'] w fun e w' => e = .returned (.bool (decide (a = b))) ∧ Below w.heap.size w w' := by
  refine enter F7 rfl rfl ?_
  have hla := ha.1
  have hlb := hb.1
  refine WC.seq ?_
  refine WC.region ?_
  refine WL.pure rfl ?_
  refine WL.nil ?_
  refine WC.seq ?_
  refine WC.seq ?_
  refine WC.region ?_
  refine WL.pure rfl ?_
  refine WL.lenS GOk.no Try.underlying22 rfl ?_
  refine WL.pure rfl ?_
  refine WL.lenS GOk.no Try.underlying22 rfl ?_
  refine WL.pure rfl ?_
  refine WL.nil ?_
  refine WC.condN rfl (fun hc11 => ?_) (fun hc11 => ?_)
  · -- t11 = true
    refine WC.seq ?_
    refine WC.region ?_
    refine WL.pure rfl ?_
    refine WL.nil ?_
    refine WC.retn (Ret1 rfl ⟨by rw [decide_eq_false]; rintro rfl; exact hc11 rfl, Below.refl _ _⟩)
  · -- t11 = false
    refine WC.skip ?_
    refine WC.seq ?_
    refine WC.seq ?_
    refine WC.region ?_
    refine WL.pure rfl ?_
    refine WL.nil ?_
    refine WC.block ?_
    refine WC.loop (σ := Nat) (fun k => [(0, .slice A a.length c), (1, .slice B b.length c'), (4, .bool false), (5, .int .i64 (k : Int))])
      (fun k w' => k ≤ a.length ∧ a.take k = b.take k ∧ Below w.heap.size w w') (fun k => a.length - k) 0 ⟨by omega, by simp, Below.refl _ _⟩ (.cons rfl (.cons rfl (.cons rfl (.cons rfl (.nil _))))) ?_
    rintro k w' ⟨hk, hsame, hB⟩
    refine WC.seq ?_
    refine WC.seq ?_
    refine WC.region ?_
    refine WL.pure rfl ?_
    refine WL.pure rfl ?_
    refine WL.lenS GOk.no Try.underlying22 rfl ?_
    refine WL.pure rfl ?_
    refine WL.nil ?_
    refine WC.condD rfl (fun hc15 => ?_) (fun hc15 => ?_)
    · -- t15 = true
      refine WC.skip ?_
      refine WC.seq ?_
      refine WC.block ?_
      refine WC.seq ?_
      have hka : k < a.length := by omega
      have hkb : k < b.length := by omega
      obtain ⟨ad, A', c1, rfl, hat, hc1, hra⟩ := ha.line k hka
      obtain ⟨bd, B', c2, rfl, hbt, hc2, hrb⟩ := hb.line k hkb
      refine WC.mix (Below w'.heap.size w') (by kernel_rfl) fun w1 hg1 hh1 => ?_
      have hS1 : Below w'.heap.size w' w1 := below_gb hg1
      refine WM.p hS1 rfl ?_
      refine WM.p hS1 rfl ?_
      refine WM.o GOk.no hS1 (fun w0 hS0 => o_idxAddr el22 rfl rfl (by omega) (by omega)) ?_
      refine WM.o GOk.no hS1 (fun w0 hS0 => o_fldAddr fo29_1 rfl) ?_
      refine WM.o GOk.no hS1 (fun w0 hS0 => o_ld sh27 rfl (Ba (B2 hB hS0) hat 1 _ rfl)) ?_
      refine WM.p hS1 rfl ?_
      refine WM.p hS1 rfl ?_
      refine WM.o GOk.no hS1 (fun w0 hS0 => o_idxAddr el22 rfl rfl (by omega) (by omega)) ?_
      refine WM.o GOk.no hS1 (fun w0 hS0 => o_fldAddr fo29_1 rfl) ?_
      refine WM.o GOk.no hS1 (fun w0 hS0 => o_ld sh27 rfl (Ba (B2 hB hS0) hbt 1 _ rfl)) ?_
      refine WM.e ?_
      refine WL.call GOk.no F14 rfl (weirsame_Ints_calls A' B' c1 c2 a[k].nums b[k].nums w1 (Brow (by decide) (B2 hB hS1) hra) (Brow (by decide) (B2 hB hS1) hrb)) ?_
      rintro e w2 ⟨rfl, hB2⟩; refine ⟨_, rfl, ?_⟩
      have hS2 : Below w'.heap.size w' w2 := B2 hS1 hB2
      refine WL.nil ⟨hS2, ?_⟩
      refine WM.p hS2 rfl ?_
      refine WM.nil ?_
      refine WC.seq ?_
      refine WC.mix (Below w2.heap.size w2) (by kernel_rfl) fun w3 hg3 hh3 => ?_
      have hS3 : Below w2.heap.size w2 w3 := below_gb hg3
      refine WM.p hS3 rfl ?_
      refine WM.p hS3 rfl ?_
      refine WM.p hS3 rfl ?_
      refine WM.caseB (d := 31) rfl (fun h31 => ?_) (fun h31 => ?_)
      · -- t31 = true
        refine WM.offF hS3 rfl ?_
        refine WM.offF hS3 rfl ?_
        refine WM.offF hS3 rfl ?_
        refine WM.offF hS3 rfl ?_
        refine WM.offF hS3 rfl ?_
        refine WM.offF hS3 rfl ?_
        refine WM.offF hS3 rfl ?_
        refine WM.offF hS3 rfl ?_
        refine WM.offF hS3 rfl ?_
        refine WM.offF hS3 rfl ?_
        refine WM.offF hS3 rfl ?_
        refine WM.p hS3 rfl ?_
        refine WM.nil ?_
        refine WC.condT rfl rfl ?_
        refine WC.seq ?_
        refine WC.region ?_
        refine WL.pure rfl ?_
        refine WL.nil ?_
        refine WC.retn (Ret1 rfl ⟨by rw [decide_eq_false]; rintro rfl; simp at h31, B2 hB (B2 hS2 hS3)⟩)
      · -- t31 = false
        refine WM.gp hS3 rfl rfl ?_
        refine WM.gp hS3 rfl rfl ?_
        refine WM.o (GOk.yes rfl) hS3 (fun w0 hS0 => o_idxAddr el22 rfl rfl (by omega) (by omega)) ?_
        refine WM.o (GOk.yes rfl) hS3 (fun w0 hS0 => o_fldAddr fo29_0 rfl) ?_
        refine WM.o (GOk.yes rfl) hS3 (fun w0 hS0 => o_ld sh9 rfl (Ba (B2 hB (B2 hS2 hS0)) hat 0 _ rfl)) ?_
        refine WM.gp hS3 rfl rfl ?_
        refine WM.gp hS3 rfl rfl ?_
        refine WM.o (GOk.yes rfl) hS3 (fun w0 hS0 => o_idxAddr el22 rfl rfl (by omega) (by omega)) ?_
        refine WM.o (GOk.yes rfl) hS3 (fun w0 hS0 => o_fldAddr fo29_0 rfl) ?_
        refine WM.o (GOk.yes rfl) hS3 (fun w0 hS0 => o_ld sh9 rfl (Ba (B2 hB (B2 hS2 hS0)) hbt 0 _ rfl)) ?_
        refine WM.gp hS3 rfl rfl ?_
        refine WM.p hS3 rfl ?_
        refine WM.nil ?_
        refine WC.condN rfl (fun hc43 => ?_) (fun hc43 => ?_)
        · -- t43 = true
          refine WC.seq ?_
          refine WC.region ?_
          refine WL.pure rfl ?_
          refine WL.nil ?_
          refine WC.retn (Ret1 rfl ⟨by rw [decide_eq_false]; rintro rfl; exact hc43 rfl, B2 hB (B2 hS2 hS3)⟩)
        · -- t43 = false
          refine WC.skip ?_
          refine WC.region ?_
          refine WL.pure rfl ?_
          refine WL.addI GOk.no rfl rfl (in_i64 (by omega) (by omega)) ?_
          refine WL.pure rfl ?_
          refine WL.nil ?_
          refine ⟨rfl, k + 1, (.cons rfl (.cons rfl (.cons rfl (.cons rfl (.nil _))))), ⟨by omega, take_succ_eq hka hkb hsame (by cases ha' : a[k]; cases hb' : b[k]; simp [ha', hb'] at h31 hc43 ⊢; exact ⟨hc43, h31⟩), B2 hB (B2 hS2 hS3)⟩, by omega⟩
    · -- t15 = false
      refine WC.exit rfl ?_
      refine WC.seq ?_
      refine WC.region ?_
      refine WL.pure rfl ?_
      refine WL.nil ?_
      refine WC.retn (Ret1 rfl ⟨by obtain rfl : k = a.length := (by omega); rw [List.take_length, List.take_of_length_le (by omega)] at hsame; simp [hsame], hB⟩)
end Go.Proofs.Ytfgbplbohekghaa
