/- audit.line, where nothing is crossed. -/
import Derived.Test.YtfgbplbohekghaaCode
import Derived.Test.YtfgbplbohekghaaTy
import Derived.Test.YtfgbplbohekghaaRowX
import Derived.Test.YtfgbplbohekghaaLine
import Derived.Test.YtfgbplbohekghaaL9
set_option linter.unusedVariables false
set_option maxRecDepth 2000
namespace Go.Proofs.Ytfgbplbohekghaa
open Go.Wl Go.RowKit

theorem min_int (a b : Nat) (h : b ≤ a) : (if ((b : Nat) : Int) < ((a : Nat) : Int) then ((b : Nat) : Int) else ((a : Nat) : Int)) = (b : Int) := by split <;> omega
theorem audit_line_calls {ok ok' : Nat → Prop} (ad : Addr) (B : Option Addr) (c c' : Nat) (a b : List Int) (w : World) (ha : Row rInt ok w (some ad) a) (hb : Row rInt ok' w B b) (hle : b.length ≤ a.length) (hsame : b = a.take b.length) : Calls Try.prog 17 #[.slice (some ad) a.length c, .slice B b.length c'] w fun e w' => e = .returned (.tuple #[.int .i64 (if b.length < a.length then 1 else 0), .int .i64 (if b.length < a.length then b.length else 0)]) ∧ Below w.heap.size w w' := by
  refine enter F17 rfl rfl ?_
  have hla := ha.1
  have hlb := hb.1
  have hmin := min_int a.length b.length hle
  refine WC.seq ?_
  refine WC.region ?_
  refine WL.pure rfl ?_
  refine WL.pure rfl ?_
  refine WL.nil ?_
  refine WC.seq ?_
  refine WC.seq ?_
  refine WC.region ?_
  refine WL.pure rfl ?_
  refine WL.eqNilS GOk.no Try.underlying27 rfl ?_
  refine WL.nil ?_
  refine WC.cond rfl (fun hc9 => ?_) (fun hc9 => ?_)
  · cases hc9
  · -- t9 = false
    refine WC.skip ?_
    refine WC.seq ?_
    refine WC.region ?_
    refine WL.pure rfl ?_
    refine WL.lenS GOk.no Try.underlying27 rfl ?_
    refine WL.pure rfl ?_
    refine WL.lenS GOk.no Try.underlying27 rfl ?_
    refine WL.min2e hmin GOk.no rfl rfl ?_
    refine WL.pure rfl ?_
    refine WL.nil ?_
    refine WC.seq ?_
    refine WC.seq ?_
    refine WC.region ?_
    refine WL.pure rfl ?_
    refine WL.pure rfl ?_
    refine WL.nil ?_
    refine WC.block ?_
    refine WC.loop (σ := Nat) (fun k => [(0, .slice (some ad) a.length c), (1, .slice B b.length c'), (4, .int .i64 0), (5, .int .i64 0), (6, .int .i64 (b.length : Int)), (15, .int .i64 (b.length : Int)), (16, .int .i64 (k : Int))])
      (fun k w' => k ≤ b.length ∧ Below w.heap.size w w') (fun k => b.length - k) 0 ⟨by omega, (Below.refl _ _)⟩ (.cons rfl (.cons rfl (.cons rfl (.cons rfl (.cons rfl (.cons rfl (.cons rfl (.nil _)))))))) ?_
    rintro k w' ⟨hk, hB⟩
    refine WC.seq ?_
    refine WC.region ?_
    refine WL.pure rfl ?_
    refine WL.nil ?_
    refine WC.seq ?_
    refine WC.condD rfl (fun hc17 => ?_) (fun hc17 => ?_)
    · -- t17 = true
      refine WC.skip ?_
      refine WC.seq ?_
      refine WC.block ?_
      refine WC.seq ?_
      refine WC.region ?_
      refine WL.pure rfl ?_
      refine WL.pure rfl ?_
      refine WL.nil ?_
      refine WC.seq ?_
      refine WC.block ?_
      have hka : k < a.length := by omega
      have hkb : k < b.length := by omega
      obtain ⟨_, e1, hat⟩ := ha.int k hka
      cases e1
      obtain ⟨bd, rfl, hbt⟩ := hb.int k hkb
      refine WC.seq ?_
      refine WC.mix (Below w'.heap.size w') (by kernel_rfl) fun w1 hg1 hh1 => ?_
      have hW1 : Below w.heap.size w w1 := Bg hB hg1
      have hS1 : Below w'.heap.size w' w1 := below_gb hg1
      refine WM.p hS1 rfl ?_
      refine WM.p hS1 rfl ?_
      refine WM.o GOk.no hS1 (fun w0 hS0 => o_idxAddr el27 rfl rfl (by omega) (by omega)) ?_
      refine WM.o GOk.no hS1 (fun w0 hS0 => o_ld sh3 rfl (Bc (B2 hB hS0) hat)) ?_
      refine WM.p hS1 rfl ?_
      refine WM.p hS1 rfl ?_
      refine WM.o GOk.no hS1 (fun w0 hS0 => o_idxAddr el27 rfl rfl (by omega) (by omega)) ?_
      refine WM.o GOk.no hS1 (fun w0 hS0 => o_ld sh3 rfl (Bc (B2 hB hS0) hbt)) ?_
      refine WM.p hS1 rfl ?_
      refine WM.p hS1 rfl ?_
      refine WM.nil ?_
      refine WC.condD rfl (fun hc19 => ?_) (fun hc19 => ?_)
      · -- t19 = true
        refine WC.exit rfl ?_
        refine WC.region ?_
        refine WL.addI GOk.no rfl rfl (in_i64 (by omega) (by omega)) ?_
        refine WL.pure rfl ?_
        refine WL.nil ?_
        refine ⟨rfl, k + 1, (.cons rfl (.cons rfl (.cons rfl (.cons rfl (.cons rfl (.cons rfl (.cons rfl (.nil _)))))))), ⟨by omega, hW1⟩, by omega⟩
      · exfalso
        apply hc19
        have e : b[k] = (a.take b.length)[k]'(by rw [← hsame]; exact hkb) := by congr 1
        rw [e, List.getElem_take]
    · -- t17 = false
      refine WC.exit rfl ?_
      refine WC.seq ?_
      refine WC.block ?_
      refine WC.seq ?_
      refine WC.region ?_
      refine WL.pure rfl ?_
      refine WL.lenS GOk.no Try.underlying27 rfl ?_
      refine WL.pure rfl ?_
      refine WL.pure rfl ?_
      refine WL.pure rfl ?_
      refine WL.nil ?_
      refine WC.condD rfl (fun hc56 => ?_) (fun hc56 => ?_)
      · -- t56 = true
        refine WC.seq ?_
        refine WC.region ?_
        refine WL.pure rfl ?_
        refine WL.pure rfl ?_
        refine WL.pure rfl ?_
        refine WL.nil ?_
        refine WC.retn (Ret2 rfl rfl ⟨by omega, hB⟩)
      · -- t56 = false
        refine WC.seq ?_
        refine WC.region ?_
        refine WL.pure rfl ?_
        refine WL.lenS GOk.no Try.underlying27 rfl ?_
        refine WL.pure rfl ?_
        refine WL.pure rfl ?_
        refine WL.pure rfl ?_
        refine WL.nil ?_
        refine WC.condD rfl (fun hc62 => ?_) (fun hc62 => ?_)
        · -- t62 = true
          refine WC.seq ?_
          refine WC.region ?_
          refine WL.pure rfl ?_
          refine WL.pure rfl ?_
          refine WL.pure rfl ?_
          refine WL.nil ?_
          refine WC.retn (Ret2 rfl rfl ⟨by rw [if_pos (by omega), if_pos (by omega)], hB⟩)
        · -- t62 = false
          refine WC.skip ?_
          refine WC.seq ?_
          refine WC.region ?_
          refine WL.pure rfl ?_
          refine WL.pure rfl ?_
          refine WL.nil ?_
          refine WC.retn (Ret2 rfl rfl ⟨by rw [if_neg (by omega), if_neg (by omega)], hB⟩)
end Go.Proofs.Ytfgbplbohekghaa
