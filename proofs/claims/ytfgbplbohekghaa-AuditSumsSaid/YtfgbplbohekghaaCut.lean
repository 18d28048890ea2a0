/- Lines of which one lacks its end. -/
import Derived.Test.YtfgbplbohekghaaCode
import Derived.Test.YtfgbplbohekghaaTy
import Derived.Test.YtfgbplbohekghaaRowX
import Derived.Test.YtfgbplbohekghaaLine
import Derived.Test.YtfgbplbohekghaaJudge
import Derived.Test.YtfgbplbohekghaaLess
import Derived.Test.YtfgbplbohekghaaSame
set_option linter.unusedVariables false
set_option maxRecDepth 2000
namespace Go.Proofs.Ytfgbplbohekghaa
open Go.Wl Go.RowKit

theorem nil_of {v : Value} (h : isIf v = true) (k : nilB v = true) : v = .nilIface := by
  cases v <;> first | rfl | (cases k; done) | (cases h; done)
def cutL (q : Nat) (x : Line) : Line := ⟨x.key, x.nums.take (x.nums.length - q)⟩
def cutAt (l : List Line) (p q : Nat) : List Line := l.modify p (cutL q)
theorem cutAt_len (l : List Line) (p q : Nat) : (cutAt l p q).length = l.length := by simp [cutAt]
theorem cutAt_get (l : List Line) (p q i : Nat) (h : i < (cutAt l p q).length) : (cutAt l p q)[i] = if p = i then cutL q (l[i]'(by rw [cutAt_len] at h; exact h)) else l[i]'(by rw [cutAt_len] at h; exact h) := by
  simp only [cutAt, List.getElem_modify]
theorem cutAt_key (l : List Line) (p q i : Nat) (h : i < (cutAt l p q).length) : (cutAt l p q)[i].key = (l[i]'(by rw [cutAt_len] at h; exact h)).key := by
  rw [cutAt_get]; split <;> rfl
theorem cutL_len (q : Nat) (x : Line) : (cutL q x).nums.length = x.nums.length - q := by simp [cutL]
theorem cutAt_good {l : List Line} {p q : Nat} (hg : Good l) (hp : p < l.length) (hq : q < l[p].nums.length) : Good (cutAt l p q) := by
  refine ⟨by rw [cutAt_len]; exact hg.1, fun i hi => ?_⟩
  have hi' : i < l.length := by rw [cutAt_len] at hi; exact hi
  obtain ⟨h1, h2, h3⟩ := hg.2 i hi'
  refine ⟨?_, ?_, fun j hj => ?_⟩
  · rw [cutAt_get]; split
    · rw [cutL_len]; omega
    · exact h1
  · rw [cutAt_get]; split
    · rename_i e; subst e; rw [cutL_len]; omega
    · exact h2
  · rw [cutAt_key, cutAt_key]; exact h3 j hj
theorem cutAt_pre {l : List Line} {p q : Nat} (hg : Good l) (i : Nat) (hi : i < (cutAt l p q).length) : preAt (cutAt l p q)[i] l := by
  have hi' : i < l.length := by rw [cutAt_len] at hi; exact hi
  refine ⟨i, hi', (cutAt_key l p q i hi).symm, fun j hj e => ?_, ?_, ?_⟩
  · rw [cutAt_key] at e
    have := hg.inj j i (by omega) hi' e
    omega
  · rw [cutAt_get]; split
    · rw [cutL_len]; omega
    · exact Nat.le_refl _
  · rw [cutAt_get]; split
    · rw [cutL_len]; rfl
    · rw [List.take_length]
theorem cutAt_count {l : List Line} {p q : Nat} (hp : p < l.length) (hq : q < l[p].nums.length) : countL (cutAt l p q) + q = countL l := by
  have e1 : cutAt l p q = l.take p ++ cutL q l[p] :: l.drop (p + 1) := by
    unfold cutAt
    rw [List.modify_eq_take_cons_drop hp]
  have e2 : l = l.take p ++ l[p] :: l.drop (p + 1) := by
    rw [List.getElem_cons_drop, List.take_append_drop]
  have e3 : countL l = countL (l.take p ++ l[p] :: l.drop (p + 1)) := congrArg countL e2
  rw [e3, e1, countL_append, countL_append]
  have e4 : ∀ (x : Line) (r : List Line), countL (x :: r) = x.nums.length + countL r := fun x r => by simp [countL]
  rw [e4, e4, cutL_len]
  omega
theorem good1 {x : Line} (h1 : x.nums.length ≤ 400) (h2 : x.nums.length ≠ 0) : Good [x] := by
  refine ⟨by simp, fun i hi => ?_⟩
  obtain rfl : i = 0 := by simp at hi; exact hi
  exact ⟨h1, h2, fun j hj => by omega⟩
theorem good0 : Good [] := ⟨by simp, fun i hi => by simp at hi⟩
theorem row1 {w : World} {g h : Nat} {key : ByteArray} {ns : List Int} {t t' : TypeId} {ok : Nat → Prop} (hb : Box w g #[.string key, .slice (some ⟨h, 0, none⟩) ns.length ns.length] t) (hn : Box w h (ns.map (Value.int .i64)).toArray t') (hg : ok g) (hh : ok h) (hl : ns.length ≤ 1000) :
    Row rLine ok w (some ⟨g, 0, none⟩) [⟨key, ns⟩] := by
  refine ⟨by simp, fun _ => ⟨_, rfl, hg, fun i x hi => ?_⟩⟩
  match i, hi with
  | 0, hi =>
    cases hi
    refine ⟨[.string key, .slice (some ⟨h, 0, none⟩) ns.length ns.length], rLine_mk (x := ⟨key, ns⟩) (Nat.le_refl _) ⟨by show ns.length ≤ _; omega, fun _ => ⟨_, rfl, hh, fun j y hj => ⟨[.int .i64 y], rfl, fun k u hu => ?_⟩⟩⟩, fun j u hu => hb.at_ j u hu⟩
    cases k with
    | zero =>
      cases hu
      have := hn.at_ j (.int .i64 y) (by simp [hj])
      rw [add_zero', show j * rInt.sz = j from Nat.mul_one j]
      exact this
    | succ k => cases hu
  | i + 1, hi => cases hi
end Go.Proofs.Ytfgbplbohekghaa
