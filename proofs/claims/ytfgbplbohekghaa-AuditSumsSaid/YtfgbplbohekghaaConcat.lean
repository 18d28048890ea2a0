/- slices.Concat, slices.Grow at []api.Line. -/
import Derived.Test.YtfgbplbohekghaaCode
import Derived.Test.YtfgbplbohekghaaTy
import Derived.Test.YtfgbplbohekghaaRowX
import Derived.Test.YtfgbplbohekghaaLine
import Derived.Test.YtfgbplbohekghaaL9
set_option linter.unusedVariables false
set_option maxRecDepth 2000
namespace Go.Proofs.Ytfgbplbohekghaa
open Go.Wl Go.RowKit

def rLL : Rep (List Line) := rLine.sl (by decide)
def sumL (ss : List (List Line)) : Nat := (ss.map List.length).sum
theorem sumL_take (ss : List (List Line)) (i : Nat) (hi : i < ss.length) : sumL (ss.take (i + 1)) = sumL (ss.take i) + ss[i].length := by
  unfold sumL
  rw [List.take_succ_eq_append_getElem hi, List.map_append, List.sum_append]
  simp only [List.map_cons, List.map_nil, List.sum_cons, List.sum_nil, Nat.add_zero]
theorem sumL_le (ss : List (List Line)) (i : Nat) : sumL (ss.take i) ≤ sumL ss := by
  conv => rhs; rw [← List.take_append_drop i ss]
  unfold sumL
  rw [List.map_append, List.sum_append]; omega
theorem flat_len (ss : List (List Line)) : ss.flatten.length = sumL ss := by unfold sumL; rw [List.length_flatten]
theorem flat_take (ss : List (List Line)) (i : Nat) (hi : i < ss.length) : (ss.take (i + 1)).flatten = (ss.take i).flatten ++ ss[i] := by
  rw [List.take_succ_eq_append_getElem hi, List.flatten_append]; simp
theorem grow_calls (m : Nat) (ok : Nat → Prop) (w : World) (hm : m ≤ 1000000000) : Calls Try.prog 22 #[.slice none 0 0, .int .i64 (m : Int)] w fun e w' => ∃ v, e = .returned v ∧ Own rLine 29 w.heap.size ok w' v [] ∧ Below w.heap.size w w' := by
  refine enter F22 rfl rfl ?_
  refine WC.seq ?_
  refine WC.region ?_
  refine WL.pure rfl ?_
  refine WL.nil ?_
  refine WC.seq ?_
  refine WC.seq ?_
  refine WC.region ?_
  refine WL.pure rfl ?_
  refine WL.pure rfl ?_
  refine WL.nil ?_
  refine WC.condD rfl (fun hc6 => ?_) (fun hc6 => ?_)
  · exact absurd hc6 (by omega) -- panic
  · -- t6 = false
    refine WC.skip ?_
    refine WC.seq ?_
    refine WC.seq ?_
    refine WC.region ?_
    refine WL.pure rfl ?_
    refine WL.pure rfl ?_
    refine WL.capS GOk.no Try.underlying22 rfl ?_
    refine WL.pure rfl ?_
    refine WL.lenS GOk.no Try.underlying22 rfl ?_
    refine WL.subI GOk.no rfl rfl (in_i64 (by omega) (by omega)) ?_
    refine WL.subI GOk.no rfl rfl (in_i64 (by omega) (by omega)) ?_
    refine WL.pure rfl ?_
    refine WL.nil ?_
    refine WC.seq ?_
    refine WC.region ?_
    refine WL.pure rfl ?_
    refine WL.pure rfl ?_
    refine WL.nil ?_
    refine WC.condD rfl (fun hc16 => ?_) (fun hc16 => ?_)
    · -- t16 = true
      refine WC.region ?_
      refine WL.pure rfl ?_
      refine WL.pure rfl ?_
      refine WL.capS GOk.no Try.underlying22 rfl ?_
      refine WL.cut 0 0 GOk.no el22 rfl rfl rfl (.inl ⟨rfl, rfl⟩) (.inr ⟨.i64, 0, rfl, by omega, rfl⟩) (by omega) (by omega) ?_
      refine WL.pure rfl ?_
      refine WL.appMake (m := m) GOk.no el22 rfl (by decide) Try.underlying3 rfl (by show some (Value.int .i64 ((m : Int) - (((0:Nat) : Int) - ((0:Nat) : Int)))) = some (Value.int .i64 (m : Int)); simp) (by omega) (by omega) (by omega) fun cap cur w1 hc1 hc2 hg1 hh1 hs1 => ?_
      refine WL.pure rfl ?_
      refine WL.lenS GOk.no Try.underlying22 rfl ?_
      refine WL.cut 0 0 GOk.no el22 rfl rfl rfl (.inl ⟨rfl, rfl⟩) (.inr ⟨.i64, 0, rfl, by omega, rfl⟩) (by omega) (by omega) ?_
      refine WL.pure rfl ?_
      refine WL.nil ?_
      refine WC.seq ?_
      refine WC.region ?_
      refine WL.pure rfl ?_
      refine WL.pure rfl ?_
      refine WL.nil ?_
      refine WC.retn (Ret1 rfl ⟨_, rfl, by show Own rLine 29 w.heap.size ok w1 (.slice (cutAddr (some ⟨w.heap.size, 0, none⟩) cap 0 2) 0 cap) []; rw [cutAddr_zero]; exact Own.fresh (Nat.le_refl _) hh1 hc2 hs1, Bg (Below.refl _ _) hg1⟩)
    · -- t16 = false
      refine WC.skip ?_
      refine WC.seq ?_
      refine WC.region ?_
      refine WL.pure rfl ?_
      refine WL.pure rfl ?_
      refine WL.nil ?_
      refine WC.retn (Ret1 rfl ⟨_, rfl, Own.nil _ _ _ _ _, (Below.refl _ _)⟩)
theorem concat_calls {ok : Nat → Prop} (A : Option Addr) (c : Nat) (ss : List (List Line)) (w : World) (hss : Row rLL ok w A ss) (hsum : sumL ss ≤ 1000000000) (hok : ∀ b, ok b → b < w.heap.size) : Calls Try.prog 12 #[.slice A ss.length c] w fun e w' => ∃ v, e = .returned v ∧ Own rLine 29 w.heap.size ok w' v ss.flatten ∧ Below w.heap.size w w' := by
  refine enter F12 rfl rfl ?_
  have hls := hss.1
  refine WC.seq ?_
  refine WC.region ?_
  refine WL.pure rfl ?_
  refine WL.nil ?_
  refine WC.seq ?_
  refine WC.region ?_
  refine WL.pure rfl ?_
  refine WL.nil ?_
  refine WC.seq ?_
  refine WC.seq ?_
  refine WC.region ?_
  refine WL.pure rfl ?_
  refine WL.lenS GOk.no Try.underlying52 rfl ?_
  refine WL.pure rfl ?_
  refine WL.nil ?_
  refine WC.block ?_
  refine WC.loop (σ := Nat) (fun k => [(0, .slice A ss.length c), (2, .slice none 0 0), (3, .int .i64 (sumL (ss.take k) : Int)), (9, .slice A ss.length c), (10, .int .i64 (ss.length : Int)), (11, .int .i64 (k : Int))])
    (fun k w' => k ≤ ss.length ∧ Below w.heap.size w w') (fun k => ss.length - k) 0 ⟨by omega, (Below.refl _ _)⟩ (.cons rfl (.cons rfl (.cons rfl (.cons rfl (.cons rfl (.cons rfl (.nil _))))))) ?_
  rintro k w' ⟨hk, hB⟩
  refine WC.seq ?_
  refine WC.region ?_
  refine WL.pure rfl ?_
  refine WL.nil ?_
  refine WC.seq ?_
  refine WC.condD rfl (fun hc12 => ?_) (fun hc12 => ?_)
  · -- t12 = true
    refine WC.skip ?_
    refine WC.seq ?_
    refine WC.block ?_
    refine WC.seq ?_
    refine WC.region ?_
    have hka : k < ss.length := by omega
    obtain ⟨ad, cs, rfl, hokb, hr, hat⟩ := hss.get k hka
    obtain ⟨v, rfl, A', c', rfl, hc', hrow⟩ := hr
    have hst := sumL_take ss k hka
    have hsl := sumL_le ss (k + 1)
    refine WL.idxAddr GOk.no el52 rfl rfl (by omega) (by omega) ?_
    refine WL.ld GOk.no sh22 rfl ((Ba hB hat 0 _ rfl)) ?_
    refine WL.pure rfl ?_
    refine WL.nil ?_
    refine WC.seq ?_
    refine WC.region ?_
    refine WL.pure rfl ?_
    refine WL.pure rfl ?_
    refine WL.lenS GOk.no Try.underlying22 rfl ?_
    refine WL.addI GOk.no rfl rfl (in_i64 (by omega) (by omega)) ?_
    refine WL.pure rfl ?_
    refine WL.nil ?_
    refine WC.seq ?_
    refine WC.region ?_
    refine WL.pure rfl ?_
    refine WL.pure rfl ?_
    refine WL.nil ?_
    refine WC.condD rfl (fun hc20 => ?_) (fun hc20 => ?_)
    · exact absurd hc20 (by omega) -- panic
    · -- t20 = false
      refine WC.skip ?_
      refine WC.region ?_
      refine WL.addI GOk.no rfl rfl (in_i64 (by omega) (by omega)) ?_
      refine WL.pure rfl ?_
      refine WL.nil ?_
      refine ⟨rfl, k + 1, (.cons rfl (.cons rfl (.cons (by rw [hst]; rfl) (.cons rfl (.cons rfl (.cons rfl (.nil _))))))), ⟨by omega, hB⟩, by omega⟩
  · -- t12 = false
    refine WC.exit rfl ?_
    refine WC.seq ?_
    refine WC.region ?_
    refine WL.pure rfl ?_
    refine WL.call GOk.no F22 rfl (grow_calls (sumL (ss.take k)) ok w' (Nat.le_trans (sumL_le ss k) hsum)) ?_
    rintro e w1 ⟨v0, rfl, ho1, hB1⟩; refine ⟨_, rfl, ?_⟩
    have hW1 : Below w.heap.size w w1 := B2 hB hB1
    refine WL.pure rfl ?_
    refine WL.nil ?_
    refine WC.seq ?_
    refine WC.seq ?_
    refine WC.region ?_
    refine WL.pure rfl ?_
    refine WL.lenS GOk.no Try.underlying52 rfl ?_
    refine WL.pure rfl ?_
    refine WL.nil ?_
    refine WC.block ?_
    refine WC.loop (σ := Nat × Value) (fun y => [(2,  .slice none 0 0), (6, y.2), (25, .slice A ss.length c), (26, .int .i64 (ss.length : Int)), (27, .int .i64 (y.1 : Int))])
      (fun y w' => y.1 ≤ ss.length ∧ Own rLine 29 w.heap.size ok w' y.2 (ss.take y.1).flatten ∧ Below w.heap.size w w') (fun y => ss.length - y.1) (0, v0) ⟨Nat.zero_le _, by simpa using ho1.base hB.size,  hW1⟩ (.cons rfl (.cons rfl (.cons rfl (.cons rfl (.cons rfl (.nil _)))))) ?_
    rintro ⟨k, v⟩ w' ⟨hk, hown, hB⟩
    refine WC.seq ?_
    refine WC.region ?_
    refine WL.pure rfl ?_
    refine WL.nil ?_
    refine WC.seq ?_
    refine WC.condD rfl (fun hc28 => ?_) (fun hc28 => ?_)
    · -- t28 = true
      refine WC.skip ?_
      refine WC.seq ?_
      refine WC.block ?_
      refine WC.seq ?_
      refine WC.region ?_
      have hka : k < ss.length := by simp only at hc28 hk; omega
      obtain ⟨ad, cs, rfl, hokb, hr, hat⟩ := hss.get k hka
      obtain ⟨u, rfl, A', c', rfl, hc', hrow⟩ := hr
      have hst := flat_take ss k hka
      have hsl := sumL_le ss (k + 1)
      have hsk := sumL_take ss k hka
      have hfl := flat_len (ss.take k)
      have hne : ∀ b, ok b → some b ≠ v.ownBlock := fun b hb e => by
        have h1 := hown.bge b e.symm
        have h2 := hok b hb
        omega
      refine WL.idxAddr GOk.no el52 rfl rfl (by omega) (by omega) ?_
      refine WL.ld GOk.no sh22 rfl ((Ba hB hat 0 _ rfl)) ?_
      refine WL.pure rfl ?_
      refine WL.nil ?_
      refine WC.region ?_
      refine WL.pure rfl ?_
      refine WL.pure rfl ?_
      refine WL.app (r := rLine) (by decide) GOk.no el22 rfl (by decide) rfl rfl hown (((Brow (by decide) hB hrow).e).mono fun b hb _ => ⟨hb, hne b hb⟩) hB.size (by simp only at *; omega) fun v2 w2 ho2 hg2 hx2 => ?_
      refine WL.pure rfl ?_
      refine WL.nil ?_
      have hW2 : Below w.heap.size w w2 := hB.grown hg2 hB.size (fun k hk => hown.bge k hk)
      refine WC.region ?_
      refine WL.addI GOk.no rfl rfl (in_i64 (by omega) (by omega)) ?_
      refine WL.pure rfl ?_
      refine WL.nil ?_
      refine ⟨rfl, (k + 1, v2), (.cons rfl (.cons rfl (.cons rfl (.cons rfl (.cons rfl (.nil _)))))), ⟨by simp only; omega, by simp only; rw [hst]; exact ho2, hW2⟩, by simp only at *; omega⟩
    · -- t28 = false
      refine WC.exit rfl ?_
      refine WC.seq ?_
      refine WC.region ?_
      refine WL.pure rfl ?_
      refine WL.pure rfl ?_
      refine WL.nil ?_
      refine WC.retn (Ret1 rfl ⟨_, rfl, by obtain rfl : k = ss.length := (by simp only at *; omega); simpa using hown, hB⟩)
end Go.Proofs.Ytfgbplbohekghaa
