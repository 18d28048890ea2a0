/- audit.count. -/
import Derived.Test.YtfgbplbohekghaaCode
import Derived.Test.YtfgbplbohekghaaTy
import Derived.Test.YtfgbplbohekghaaLine
set_option linter.unusedVariables false
namespace Go.Proofs.Ytfgbplbohekghaa
open Go.Wl Go.RowKit

theorem count_calls {ok : Nat → Prop} (A : Option Addr) (c : Nat) (l : List Line) (w : World) (hl : Row rLine ok w A l) (hs : countL l ≤ 1000000000000) :
    Calls Try.prog 11 #[.slice A l.length c] w fun e w' => e = .returned (.int .i64 (countL l)) ∧ Below w.heap.size w w' := by
  refine enter F11 rfl rfl ?_
  have hlen := hl.1
  refine WC.rseq (WL.pure rfl (WL.nil ?_))
  refine WC.rseq (WL.pure rfl (WL.nil ?_))
  refine WC.seq (WC.rseq (WL.pure rfl (WL.lenS GOk.no Try.underlying22 rfl (WL.pure rfl (WL.nil ?_)))))
  refine WC.block ?_
  refine WC.loop (σ := Nat) (fun k => [(8, .int .i64 (k : Int)), (3, .int .i64 (countL (l.take k))), (7, .int .i64 l.length), (6, .slice A l.length c)])
    (fun k w' => k ≤ l.length ∧ Below w.heap.size w w') (fun k => l.length - k) 0 ⟨by omega, Below.refl _ _⟩ (.cons rfl (.cons rfl (.cons rfl (.cons rfl (.nil _))))) ?_
  rintro k w' ⟨hk, hB⟩
  refine WC.rseq (WL.pure rfl (WL.nil ?_))
  refine WC.seq (WC.condD rfl (fun hlt => WC.skip ?_) (fun hge => WC.exit rfl ?_))
  · have hlt' : k < l.length := by omega
    obtain ⟨ad, A', c', rfl, hat, hc', hrow⟩ := hl.line k hlt'
    have hat' : At w' (ad.add (k * 2)) _ := At_move hat (hB.block _ (Row.lt hat (by simp)))
    refine WC.seq (WC.block ?_)
    refine WC.rseq (WL.idxAddr GOk.no el22 rfl rfl (by omega) (by omega) ?_)
    refine WL.ldAgg GOk.no sh29 rfl rfl hat' ?_
    refine WL.alloc GOk.no ze29 fun w1 hg1 hb1 hz1 => ?_
    refine WL.stAll GOk.no sh29 rfl rfl hb1 rfl rfl (by simp [Value.cells, Value.oneCell']) fun w2 hg2 hz2 hb2 => ?_
    refine WL.nil (WC.region ?_)
    refine WL.pure rfl (WL.fldAddr GOk.no fo29_1 rfl ?_)
    refine WL.ld GOk.no sh27 rfl ((hb2.cell 1).trans rfl) ?_
    refine WL.lenS GOk.no Try.underlying27 rfl ?_
    have hct := countL_take l k hlt'
    have hle := countL_le l (k + 1)
    refine WL.addI GOk.no rfl rfl (in_i64 (by omega) (by omega)) (WL.pure rfl (WL.nil ?_))
    refine WC.region (WL.addI GOk.no rfl rfl (in_i64 (by omega) (by omega)) (WL.pure rfl (WL.nil ?_)))
    refine ⟨rfl, k + 1, .cons rfl (.cons ?_ (.cons rfl (.cons rfl (.nil _)))), ⟨by omega, ?_⟩, by omega⟩
    · rw [hct]; rfl
    · have := hB.size
      exact ((hB.grown hg1 hB.size (by simp)).grown hg2 (by omega) (by simp; omega))
  · obtain rfl : k = l.length := by omega
    refine WC.rseq (WL.pure rfl (WL.pure rfl (WL.nil ?_)))
    refine WC.retn (Ret1 rfl ⟨?_, hB⟩)
    rw [List.take_length]
end Go.Proofs.Ytfgbplbohekghaa
