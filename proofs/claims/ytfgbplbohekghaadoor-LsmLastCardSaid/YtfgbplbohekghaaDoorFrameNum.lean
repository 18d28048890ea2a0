/- frame.Num. -/
import Derived.Test.YtfgbplbohekghaaDoorCode
import Derived.Test.YtfgbplbohekghaaDoorTy
import Derived.Test.YtfgbplbohekghaaDoorRowX
import Derived.Test.YtfgbplbohekghaaDoorL10
set_option linter.unusedVariables false
set_option maxRecDepth 2000
namespace Go.Proofs.YtfgbplbohekghaaDoor
open Go.Wl Go.RowKit

/-- The number as frame.Num has it, ahead of its bytes. -/
def zig (n : Int) : Int := bitV .xor .u64 (IntKind.u64.wrap (IntKind.u64.wrap n * 2 ^ (min (1 : Int).toNat IntKind.u64.bits))) (IntKind.u64.wrap (n.fdiv (2 ^ (min (63 : Int).toNat IntKind.i64.bits))))
def numB : Nat → Nat → List Int
  | 0, x => [IntKind.u8.wrap x]
  | f + 1, x => if 128 ≤ x then bitV .or .u8 (IntKind.u8.wrap x) 128 :: numB f (x / 128) else [IntKind.u8.wrap x]
theorem numB_len : ∀ (f x : Nat), (numB f x).length ≤ f + 1 ∧ 1 ≤ (numB f x).length
  | 0, x => ⟨Nat.le_refl _, Nat.le_refl _⟩
  | f + 1, x => by
    have h := numB_len f (x / 128)
    unfold numB
    split
    · simp only [List.length_cons]; omega
    · simp
theorem zig_nat (n : Int) : ((zig n).toNat : Int) = zig n ∧ (zig n).toNat < 18446744073709551616 := by
  have h : 0 ≤ zig n ∧ zig n < 18446744073709551616 := by
    unfold zig bitV
    simp only [IntKind.wrap_u64]
    omega
  omega
theorem shr7 (x : Nat) : ((x : Int)).fdiv (2 ^ (min (7 : Int).toNat IntKind.u64.bits)) = ((x / 128 : Nat) : Int) := by
  have e : (2 : Int) ^ (min (7 : Int).toNat IntKind.u64.bits) = 128 := by decide
  rw [e, Int.fdiv_eq_ediv_of_nonneg _ (by omega)]
  omega
theorem frame_Num_calls (n : Int) (ok : Nat → Prop) (w : World) : Calls Tryd.prog 26 #[.int .i64 n] w fun e w' => ∃ v, e = .returned v ∧ Own rU8 5 w.heap.size ok w' v (numB 10 (zig n).toNat) ∧ Below w.heap.size w w' := by
  refine enter F26 rfl rfl ?_
  refine WC.seq ?_
  refine WC.region ?_
  refine WL.pure rfl ?_
  refine WL.nil ?_
  refine WC.seq ?_
  refine WC.region ?_
  refine WL.pure rfl ?_
  refine WL.convI GOk.no Tryd.underlying3 Tryd.underlying79 rfl ?_
  refine WL.shlI GOk.no rfl rfl (by decide) ?_
  refine WL.pure rfl ?_
  refine WL.shrI GOk.no rfl rfl (by decide) ?_
  refine WL.convI GOk.no Tryd.underlying3 Tryd.underlying79 rfl ?_
  refine WL.bits rfl GOk.no rfl rfl ?_
  refine WL.pure rfl ?_
  refine WL.nil ?_
  refine WC.seq ?_
  refine WC.block ?_
  refine WC.loop (σ := (Value × List Int) × Nat × Nat) (fun y => [(2, y.1.1), (3, .int .u64 (y.2.1 : Int))])
    (fun y w' => Own rU8 5 w.heap.size ok w' y.1.1 y.1.2 ∧ y.1.2 ++ numB y.2.2 y.2.1 = numB 10 (zig n).toNat ∧ y.2.1 < 128 ^ y.2.2 ∧ Below w.heap.size w w') (fun y => y.2.2) ((.slice none 0 0, []), ((zig n).toNat, 10)) ⟨Own.nil _ _ _ _ _, rfl, by have := (zig_nat n).2; dsimp only; omega,  (Below.refl _ _)⟩ (.cons rfl (.cons (by dsimp only; rw [(zig_nat n).1]; rfl) (.nil _))) ?_
  rintro ⟨⟨v, xs⟩, x, f⟩ w' ⟨hown, hnum, hx, hB⟩
  dsimp only at hown hnum hx
  refine WC.seq ?_
  refine WC.seq ?_
  refine WC.region ?_
  refine WL.pure rfl ?_
  refine WL.pure rfl ?_
  refine WL.nil ?_
  refine WC.condD rfl (fun hc12 => ?_) (fun hc12 => ?_)
  · -- t12 = true
    refine WC.skip ?_
    refine WC.block ?_
    obtain ⟨f, rfl⟩ : ∃ f', f = f' + 1 := by
      cases f with
      | zero => dsimp only at hc12; simp at hx; omega
      | succ f => exact ⟨f, rfl⟩
    have hx7 : 128 ≤ x := by dsimp only at hc12; omega
    have hnl := (numB_len 10 (zig n).toNat).1
    rw [← hnum, List.length_append] at hnl
    refine WC.seq ?_
    refine WC.region ?_
    refine WL.pure rfl ?_
    refine WL.pure rfl ?_
    refine WL.convI GOk.no Tryd.underlying79 Tryd.underlying5 rfl ?_
    refine WL.bits rfl GOk.no rfl rfl ?_
    refine WL.bldS (e := 5) (cs := #[.int .u8 (bitV .or .u8 (IntKind.u8.wrap x) 128)]) GOk.no rfl (by kernel_rfl) fun w1 hg1 hb1 hz1 => ?_
    have hW1 : Below w.heap.size w w1 := Bg hB hg1
    have hown1 := hown.step hg1 (.inr rfl) (fun _ _ e => by cases e)
    refine WL.app (r := rU8) (ys := [bitV .or .u8 (IntKind.u8.wrap x) 128]) (by decide) GOk.no el42 rfl (by decide) rfl rfl hown1 (RowE.box (cs := [.int .u8 (bitV .or .u8 (IntKind.u8.wrap x) 128)]) hb1 (Reps.one rfl rfl)) hW1.size (by simp only [List.length_cons, List.length_nil]; omega) fun v2 w2 ho2 hg2 hx2 => ?_
    refine WL.pure rfl ?_
    refine WL.nil ?_
    have hW2 : Below w.heap.size w w2 := hW1.grown hg2 hW1.size (fun j hj => hown.bge j hj)
    refine WC.region ?_
    refine WL.pure rfl ?_
    refine WL.shrI GOk.no rfl rfl (by decide) ?_
    refine WL.pure rfl ?_
    refine WL.nil ?_
    refine ⟨rfl, ((v2, xs ++ [bitV .or .u8 (IntKind.u8.wrap x) 128]), (x / 128, f)), (.cons rfl (.cons (by dsimp only; rw [← shr7]; rfl) (.nil _))), ⟨ho2, by dsimp only; rw [← hnum, List.append_assoc]; congr 1; simp only [numB]; rw [if_pos hx7]; rfl, by dsimp only; rw [Nat.pow_succ] at hx; omega, hW2⟩, by dsimp only; omega⟩
  · -- t12 = false
    have hx7 : ¬ 128 ≤ x := by dsimp only at hc12; omega
    have hnl := (numB_len 10 (zig n).toNat).1
    have hlast : numB f x = [IntKind.u8.wrap x] := by
      cases f with
      | zero => rfl
      | succ f => simp only [numB]; rw [if_neg hx7]
    rw [hlast] at hnum
    rw [← hnum, List.length_append] at hnl
    refine WC.exit rfl ?_
    refine WC.seq ?_
    refine WC.region ?_
    refine WL.pure rfl ?_
    refine WL.pure rfl ?_
    refine WL.convI GOk.no Tryd.underlying79 Tryd.underlying5 rfl ?_
    refine WL.bldS (e := 5) (cs := #[.int .u8 (IntKind.u8.wrap x)]) GOk.no rfl (by kernel_rfl) fun w3 hg3 hb3 hz3 => ?_
    have hW3 : Below w.heap.size w w3 := Bg hB hg3
    have hown3 := hown.step hg3 (.inr rfl) (fun _ _ e => by cases e)
    refine WL.app (r := rU8) (ys := [IntKind.u8.wrap x]) (by decide) GOk.no el42 rfl (by decide) rfl rfl hown3 (RowE.box (cs := [.int .u8 (IntKind.u8.wrap x)]) hb3 (Reps.one rfl rfl)) hW3.size (by simp only [List.length_cons, List.length_nil] at *; omega) fun v4 w4 ho4 hg4 hx4 => ?_
    refine WL.pure rfl ?_
    refine WL.nil ?_
    refine WC.retn (Ret1 rfl ⟨_, rfl, by rw [← hnum]; exact ho4, hW3.grown hg4 hW3.size (fun j hj => hown.bge j hj)⟩)
end Go.Proofs.YtfgbplbohekghaaDoor
