/- api.Entry as data. No condition. -/
import Derived.Test.YtfgbplbohekghaaDoorL12
import Derived.Test.YtfgbplbohekghaaDoorRowX
set_option linter.unusedVariables false
namespace Go.Wl
open Go.RowKit
structure Ent where
  key : ByteArray
  value : ByteArray
  dead : Bool
  deriving DecidableEq
def rEnt : Rep Ent := Rep.via (rStr.pair (rStr.pair rBool)) (fun x => (x.key, (x.value, x.dead)))
theorem rEnt_open {ok : Nat → Prop} {w : World} {x : Ent} {cs : List Value} (h : rEnt.R ok w x cs) : cs = [.string x.key, .string x.value, .bool x.dead] := by
  obtain ⟨c1, c2, rfl, h1, c3, c4, rfl, h2, h3⟩ := h
  cases h1; cases h2; cases h3
  rfl
theorem rEnt_mk {ok : Nat → Prop} {w : World} {x : Ent} : rEnt.R ok w x [.string x.key, .string x.value, .bool x.dead] :=
  ⟨[.string x.key], [.string x.value, .bool x.dead], rfl, rfl, [.string x.value], [.bool x.dead], rfl, rfl, rfl⟩
theorem Row.ent {ok : Nat → Prop} {w : World} {A : Option Addr} {l : List Ent} (h : Row rEnt ok w A l) (i : Nat) (hi : i < l.length) :
    ∃ ad, A = some ad ∧ At w (ad.add (i * 3)) [.string l[i].key, .string l[i].value, .bool l[i].dead] := by
  obtain ⟨ad, cs, h1, _, h2, h3⟩ := h.get i hi
  obtain rfl := rEnt_open h2
  exact ⟨ad, h1, h3⟩
theorem gb_more {w w1 w2 : World} {r0 r1 : Option Nat} (h : w.grownBy w1 r0) (k : w1.grownBy w2 r1) (hr : ∀ b, r1 = some b → r1 = r0 ∨ w.heap.size ≤ b) : w.grownBy w2 r0 :=
  ⟨k.os.trans h.os, k.tape.trans h.tape, k.output.trans h.output, Nat.le_trans h.size k.size, fun b hb hne => (k.block b (Nat.lt_of_lt_of_le hb h.size) (fun e => by
    rcases hr b e.symm with h1 | h1
    · exact hne (e.trans h1)
    · omega)).trans (h.block b hb hne)⟩
end Go.Wl
