/- api.Line as data. No condition. -/
import Derived.Test.YtfgbplbohekghaaL5
set_option linter.unusedVariables false
namespace Go.Wl
structure Line where
  key : ByteArray
  nums : List Int
  deriving DecidableEq
def rInts : Rep (List Int) := rInt.sl (by decide)
def rLine : Rep Line := Rep.via (rStr.pair rInts) (fun x => (x.key, x.nums))
theorem rLine_sz : rLine.sz = 2 := rfl
theorem rLine_open {ok : Nat → Prop} {w : World} {x : Line} {cs : List Value} (h : rLine.R ok w x cs) : ∃ A c, cs = [.string x.key, .slice A x.nums.length c] ∧ x.nums.length ≤ c ∧ Row rInt ok w A x.nums := by
  obtain ⟨c1, c2, rfl, h1, v, rfl, A, c, rfl, h2, h3⟩ := h
  cases h1
  exact ⟨A, c, rfl, h2, h3⟩
theorem rLine_mk {ok : Nat → Prop} {w : World} {x : Line} {A : Option Addr} {c : Nat} (h2 : x.nums.length ≤ c) (h3 : Row rInt ok w A x.nums) : rLine.R ok w x [.string x.key, .slice A x.nums.length c] :=
  ⟨[.string x.key], [.slice A x.nums.length c], rfl, rfl, _, rfl, A, c, rfl, h2, h3⟩
/-- An element of a slice of lines. -/
theorem Row.line {ok : Nat → Prop} {w : World} {A : Option Addr} {l : List Line} (h : Row rLine ok w A l) (i : Nat) (hi : i < l.length) :
    ∃ ad A' c, A = some ad ∧ At w (ad.add (i * 2)) [.string l[i].key, .slice A' l[i].nums.length c] ∧ l[i].nums.length ≤ c ∧ Row rInt ok w A' l[i].nums := by
  obtain ⟨ad, cs, h1, _, h2, h3⟩ := h.get i hi
  obtain ⟨A', c, rfl, h4, h5⟩ := rLine_open h2
  exact ⟨ad, A', c, h1, h3, h4, h5⟩
def countL (l : List Line) : Nat := (l.map fun x => x.nums.length).sum
theorem countL_take (l : List Line) (i : Nat) (hi : i < l.length) : countL (l.take (i + 1)) = countL (l.take i) + l[i].nums.length := by
  unfold countL
  rw [List.take_succ_eq_append_getElem hi, List.map_append, List.sum_append]
  simp only [List.map_cons, List.map_nil, List.sum_cons, List.sum_nil, Nat.add_zero]
theorem countL_append (l m : List Line) : countL (l ++ m) = countL l + countL m := by unfold countL; rw [List.map_append, List.sum_append]
theorem countL_le (l : List Line) (i : Nat) : countL (l.take i) ≤ countL l := by
  have h := countL_append (l.take i) (l.drop i)
  rw [List.take_append_drop] at h
  omega
end Go.Wl
