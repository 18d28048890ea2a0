/- frame.Text, frame.sum, frame.Seal. -/
import Derived.Test.YtfgbplbohekghaaDoorCode
import Derived.Test.YtfgbplbohekghaaDoorTy
import Derived.Test.YtfgbplbohekghaaDoorRowX
import Derived.Test.YtfgbplbohekghaaDoorL10
import Derived.Test.YtfgbplbohekghaaDoorFrameNum
import Derived.Test.YtfgbplbohekghaaDoorL11
set_option linter.unusedVariables false
set_option maxRecDepth 2000
namespace Go.Proofs.YtfgbplbohekghaaDoor
open Go.Wl Go.RowKit

def numV (n : Int) : List Int := numB 10 (zig n).toNat
theorem numV_len (n : Int) : (numV n).length ≤ 11 := (numB_len 10 _).1
def textB (b : ByteArray) : List Int := numV b.size ++ bytesI b
theorem textB_len (b : ByteArray) : (textB b).length ≤ 11 + b.size := by unfold textB; rw [List.length_append, bytesI_len]; have := numV_len b.size; omega
def sumF (a b : Int) : Int := IntKind.u32.wrap (IntKind.u32.wrap (a * 31) + IntKind.u32.wrap b)
def sumB (l : List Int) : Int := l.foldl sumF 1
def sealE (s : Int) : List Int := [IntKind.u8.wrap s, IntKind.u8.wrap (s.fdiv (2 ^ (min (8 : Int).toNat IntKind.u32.bits))), IntKind.u8.wrap (s.fdiv (2 ^ (min (16 : Int).toNat IntKind.u32.bits))), IntKind.u8.wrap (s.fdiv (2 ^ (min (24 : Int).toNat IntKind.u32.bits)))]
def sealB (l : List Int) : List Int := numV l.length ++ l ++ sealE (sumB l)
theorem frame_Text_calls (b : ByteArray) (ok : Nat → Prop) (w : World) (hb : b.size ≤ 1000000000000) : Calls Tryd.prog 28 #[.string b] w fun e w' => ∃ v, e = .returned v ∧ Own rU8 5 w.heap.size ok w' v (textB b) ∧ Below w.heap.size w w' := by
  refine enter F28 rfl rfl ?_
  refine WC.seq ?_
  refine WC.region ?_
  refine WL.pure rfl ?_
  refine WL.nil ?_
  refine WC.seq ?_
  refine WC.region ?_
  refine WL.pure rfl ?_
  refine WL.lenStr GOk.no Tryd.underlying9 rfl ?_
  refine WL.call GOk.no F26 rfl (frame_Num_calls b.size ok w) ?_
  rintro e w1 ⟨v, rfl, hown, hB1⟩; refine ⟨_, rfl, ?_⟩
  have hW1 : Below w.heap.size w w1 := B2 (Below.refl _ _) hB1
  refine WL.pure rfl ?_
  refine WL.appS GOk.no el42 Tryd.underlying9 rfl rfl hown hW1.size (by have := (numB_len 10 (zig b.size).toNat).1; omega) fun v2 w2 ho2 hg2 => ?_
  have hW2 : Below w.heap.size w w2 := hW1.grown hg2 hW1.size (fun j hj => hown.bge j hj)
  refine WL.pure rfl ?_
  refine WL.nil ?_
  refine WC.retn (Ret1 rfl ⟨_, rfl, ho2, hW2⟩)
theorem frame_sum_calls {ok : Nat → Prop} (A : Option Addr) (c : Nat) (l : List Int) (w : World) (hl : Row rU8 ok w A l) : Calls Tryd.prog 44 #[.slice A l.length c] w fun e w' => e = .returned (.int .u32 (sumB l)) ∧ Below w.heap.size w w' := by
  refine enter F44 rfl rfl ?_
  have hla := hl.1
  refine WC.seq ?_
  refine WC.region ?_
  refine WL.pure rfl ?_
  refine WL.nil ?_
  refine WC.seq ?_
  refine WC.region ?_
  refine WL.pure rfl ?_
  refine WL.nil ?_
  refine WC.seq ?_
  refine WC.seq ?_
  refine WC.region ?_
  refine WL.pure rfl ?_
  refine WL.lenS GOk.no Tryd.underlying42 rfl ?_
  refine WL.pure rfl ?_
  refine WL.nil ?_
  refine WC.block ?_
  refine WC.loop (σ := Nat) (fun k => [(2, .int .u32 0), (3, .int .u32 ((l.take k).foldl sumF 1)), (6, .slice A l.length c), (7, .int .i64 (l.length : Int)), (8, .int .i64 (k : Int))])
    (fun k w' => k ≤ l.length ∧ Below w.heap.size w w') (fun k => l.length - k) 0 ⟨by omega, (Below.refl _ _)⟩ (.cons rfl (.cons rfl (.cons rfl (.cons rfl (.cons rfl (.nil _)))))) ?_
  rintro k w' ⟨hk, hB⟩
  refine WC.seq ?_
  refine WC.region ?_
  refine WL.pure rfl ?_
  refine WL.nil ?_
  refine WC.seq ?_
  refine WC.condD rfl (fun hc9 => ?_) (fun hc9 => ?_)
  · -- t9 = true
    refine WC.skip ?_
    refine WC.seq ?_
    refine WC.block ?_
    refine WC.seq ?_
    refine WC.region ?_
    have hka : k < l.length := by omega
    obtain ⟨ad, rfl, hat⟩ := hl.u8 k hka
    refine WL.idxAddr GOk.no el42 rfl rfl (by omega) (by omega) ?_
    refine WL.ld GOk.no sh5 rfl (Bc hB hat) ?_
    refine WL.pure rfl ?_
    refine WL.nil ?_
    refine WC.region ?_
    refine WL.pure rfl ?_
    refine WL.mulW GOk.no rfl rfl ?_
    refine WL.pure rfl ?_
    refine WL.convI GOk.no Tryd.underlying5 Tryd.underlying81 rfl ?_
    refine WL.addW GOk.no rfl rfl ?_
    refine WL.pure rfl ?_
    refine WL.nil ?_
    refine WC.region ?_
    refine WL.addI GOk.no rfl rfl (in_i64 (by omega) (by omega)) ?_
    refine WL.pure rfl ?_
    refine WL.nil ?_
    refine ⟨rfl, k + 1, (.cons rfl (.cons (by rw [List.take_succ_eq_append_getElem hka, List.foldl_append]; rfl) (.cons rfl (.cons rfl (.cons rfl (.nil _)))))), ⟨by omega, hB⟩, by omega⟩
  · -- t9 = false
    refine WC.exit rfl ?_
    refine WC.seq ?_
    refine WC.region ?_
    refine WL.pure rfl ?_
    refine WL.pure rfl ?_
    refine WL.nil ?_
    refine WC.retn (Ret1 rfl ⟨by obtain rfl : k = l.length := (by omega); rw [List.take_length]; rfl, hB⟩)
theorem frame_Seal_calls {ok : Nat → Prop} (ok' : Nat → Prop) (A : Option Addr) (c : Nat) (l : List Int) (w : World) (hl : Row rU8 ok w A l) (hb : l.length ≤ 1000000000000) : Calls Tryd.prog 29 #[.slice A l.length c] w fun e w' => ∃ v, e = .returned v ∧ Own rU8 5 w.heap.size ok' w' v (sealB l) ∧ Below w.heap.size w w' := by
  refine enter F29 rfl rfl ?_
  refine WC.seq ?_
  refine WC.region ?_
  refine WL.pure rfl ?_
  refine WL.nil ?_
  refine WC.seq ?_
  refine WC.region ?_
  refine WL.pure rfl ?_
  refine WL.call GOk.no F44 rfl (frame_sum_calls A c l w hl) ?_
  rintro e w1 ⟨rfl, hB1⟩; refine ⟨_, rfl, ?_⟩
  have hW1 : Below w.heap.size w w1 := B2 (Below.refl _ _) hB1
  refine WL.pure rfl ?_
  refine WL.nil ?_
  refine WC.seq ?_
  refine WC.region ?_
  refine WL.pure rfl ?_
  refine WL.lenS GOk.no Tryd.underlying42 rfl ?_
  refine WL.call GOk.no F26 rfl (frame_Num_calls l.length ok' w1) ?_
  rintro e w2 ⟨v2, rfl, hown2, hB2⟩; refine ⟨_, rfl, ?_⟩
  have hW2 : Below w.heap.size w w2 := B2 hW1 hB2
  have hown2' := hown2.base hW1.size
  have hnl := (numB_len 10 (zig l.length).toNat).1
  refine WL.pure rfl ?_
  refine WL.app (r := rU8) (ys := l) (by decide) GOk.no el42 rfl (by decide) rfl rfl hown2' (show RowE rU8 _ w2 A l from (Brow (by decide) hW2 hl).e) hW2.size (by omega) fun v3 w3 ho3 hg3 hx3 => ?_
  have hW3 : Below w.heap.size w w3 := hW2.grown hg3 hW2.size (fun j hj => hown2'.bge j hj)
  refine WL.pure rfl ?_
  refine WL.nil ?_
  refine WC.seq ?_
  refine WC.region ?_
  refine WL.pure rfl ?_
  refine WL.pure rfl ?_
  refine WL.convI GOk.no Tryd.underlying81 Tryd.underlying5 rfl ?_
  refine WL.pure rfl ?_
  refine WL.shrI GOk.no rfl rfl (by decide) ?_
  refine WL.convI GOk.no Tryd.underlying81 Tryd.underlying5 rfl ?_
  refine WL.pure rfl ?_
  refine WL.shrI GOk.no rfl rfl (by decide) ?_
  refine WL.convI GOk.no Tryd.underlying81 Tryd.underlying5 rfl ?_
  refine WL.pure rfl ?_
  refine WL.shrI GOk.no rfl rfl (by decide) ?_
  refine WL.convI GOk.no Tryd.underlying81 Tryd.underlying5 rfl ?_
  refine WL.bldS (e := 5) (cs := ((sealE (sumB l)).map (Value.int .u8)).toArray) GOk.no rfl (by kernel_rfl) fun w4 hg4 hb4 hz4 => ?_
  have hW4 : Below w.heap.size w w4 := Bg hW3 hg4
  have ho4 := ho3.step hg4 (.inr rfl) (fun _ _ e => by cases e)
  refine WL.app (r := rU8) (ys := sealE (sumB l)) (by decide) GOk.no el42 rfl (by decide) rfl rfl ho4 (RowE.box (cs := (sealE (sumB l)).map (Value.int .u8)) hb4 (reps_of _ _ _ _ _)) hW4.size (by have e1 : (sealE (sumB l)).length = 4 := rfl; rw [e1, List.length_append]; omega) fun v5 w5 ho5 hg5 hx5 => ?_
  have hW5 : Below w.heap.size w w5 := hW4.grown hg5 hW4.size (fun j hj => ho4.bge j hj)
  refine WL.pure rfl ?_
  refine WL.nil ?_
  refine WC.retn (Ret1 rfl ⟨_, rfl, ho5, hW5⟩)
end Go.Proofs.YtfgbplbohekghaaDoor
