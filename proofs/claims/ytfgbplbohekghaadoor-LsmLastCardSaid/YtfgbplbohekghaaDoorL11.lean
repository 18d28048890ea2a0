/- append(bytes, string...). No condition. -/
import Derived.Test.YtfgbplbohekghaaDoorL10
import Derived.Lib.AppendStr
set_option linter.unusedVariables false
namespace Go.Wl
open Go.RowKit
def bytesI (b : ByteArray) : List Int := b.data.toList.map fun c => (c.toNat : Int)
theorem bytesI_len (b : ByteArray) : (bytesI b).length = b.size := by unfold bytesI; rw [List.length_map, Array.length_toList]; rfl
theorem reps_of {α : Type} (enc : α → Value) (h1 : ∀ x, (enc x).oneCell' = true) (ok : Nat → Prop) (w : World) (xs : List α) : Reps ((Rep.of enc h1).R ok w) 1 xs (xs.map enc) := by
  refine ⟨by simp, fun i x hi => ?_⟩
  have hlt := (List.getElem?_eq_some_iff.1 hi).1
  have e : ((xs.map enc).drop (i * 1)).take 1 = [enc x] := by
    apply List.ext_getElem?
    intro j
    cases j with
    | zero => rw [List.getElem?_take_of_lt (by omega), List.getElem?_drop]; simp [hi]
    | succ j => rw [List.getElem?_take_eq_none (by omega)]; rfl
  rw [e]
  exact rfl
section
variable {P : Program} {n : Nat} {s : Sl} {ds : List Deferred} {w : World} {l : List SOp} {X : Cont} {pan : PCont} {d0 : Option Nat} {g : Option (Nat × Bool)}
theorem WL.appS {t u e : TypeId} {x y : Operand} {base : Nat} {ok : Nat → Prop} {v : Value} {xs : List Int} {b : ByteArray} (hg : GOk s g) (hu : elemOf' P t = some (e, 1, 1, .int .u8 0)) (hs : P.underlying u = some .string)
    (hx : Wl.val s x = some v) (hy : Wl.val s y = some (.string b)) (hv : Own rU8 e base ok w v xs) (hbase : base ≤ w.heap.size) (hl : xs.length + b.size ≤ 140737488355328)
    (h : ∀ v1 w1, Own rU8 e base ok w1 v1 (xs ++ bytesI b) → w.grownBy w1 v.ownBlock → WL P n l X pan (push d0 v1 s) ds w1) :
    WL P n (⟨d0, .call { callee := .builtin .append, args := #[x, y], argTypes := #[t, u] }, g⟩ :: l) X pan s ds w := by
  obtain ⟨hut, i, hi, hiz, hisz, hiby⟩ := elemOf'_spec hu
  obtain ⟨cs, ho, hr⟩ := hv
  refine WL.run hg fun q hq oo ho' Kt QQ hK hp h1 h2 => ?_
  obtain ⟨v1, w1, hrun, h3, h4, _⟩ := Lib.run_append_own_string (P := P) w base t u oo.type e i hut hs hi hiz hisz hiby v xs.length cs ho b (by simp only [maxLen]; omega) hl hbase
  unfold Oper.wp execOp
  rw [ho']
  simp only [resolve, invoke, builtin, Sem.run_bind, Sem.run_pure, Result.andThen_ok, List.map_toArray, List.map_cons, List.map_nil, hq.val hx, hq.val hy, hrun]
  refine hK v1 w1 (h v1 w1 ⟨cs ++ Lib.strCells b, ?_, ?_⟩ h4) _ ?_
  · have e1 : xs.length + b.size = (xs ++ bytesI b).length := by rw [List.length_append, bytesI_len]
    rw [← e1]; exact h3
  · have e2 : Lib.strCells b = (bytesI b).map (Value.int .u8) := by simp [Lib.strCells, bytesI]
    rw [e2]
    exact Reps.append (show Reps (rU8.R (fun b => ok b ∧ some b ≠ v1.ownBlock) w1) 1 xs cs from hr) (reps_of (Value.int .u8) (fun _ => rfl) _ _ _)
  · have := hq.putO h1 v1
    rw [h2] at this ⊢
    exact this
end
end Go.Wl
