/- Rows of ints and strings, cell by cell; what stands still. No condition. -/
import Derived.Test.YtfgbplbohekghaaDoorL8
set_option linter.unusedVariables false
namespace Go.Wl
open Go.RowKit
theorem add_zero' (a : Addr) : a.add 0 = a := by unfold Addr.add; split <;> simp_all
theorem Row.int {ok : Nat → Prop} {w : World} {A : Option Addr} {xs : List Int} (h : Row rInt ok w A xs) (i : Nat) (hi : i < xs.length) :
    ∃ ad, A = some ad ∧ w.cell? (ad.add (i * 1)) = some (.int .i64 xs[i]) := by
  obtain ⟨ad, cs, h1, _, h2, h3⟩ := h.get i hi
  cases h2
  have h4 := h3 0 _ rfl
  rw [add_zero'] at h4
  exact ⟨ad, h1, h4⟩
theorem Row.u8 {ok : Nat → Prop} {w : World} {A : Option Addr} {xs : List Int} (h : Row rU8 ok w A xs) (i : Nat) (hi : i < xs.length) :
    ∃ ad, A = some ad ∧ w.cell? (ad.add (i * 1)) = some (.int .u8 xs[i]) := by
  obtain ⟨ad, cs, h1, _, h2, h3⟩ := h.get i hi
  cases h2
  have h4 := h3 0 _ rfl
  rw [add_zero'] at h4
  exact ⟨ad, h1, h4⟩
theorem Row.str {ok : Nat → Prop} {w : World} {A : Option Addr} {xs : List ByteArray} (h : Row rStr ok w A xs) (i : Nat) (hi : i < xs.length) :
    ∃ ad, A = some ad ∧ w.cell? (ad.add (i * 1)) = some (.string xs[i]) := by
  obtain ⟨ad, cs, h1, _, h2, h3⟩ := h.get i hi
  cases h2
  have h4 := h3 0 _ rfl
  rw [add_zero'] at h4
  exact ⟨ad, h1, h4⟩
/-- What was written before a call's time stands. -/
theorem Bc {w w' : World} {a : Addr} {v : Value} (hB : Below w.heap.size w w') (h : w.cell? a = some v) : w'.cell? a = some v := (hB.cell (lt_of_cell h)).trans h
theorem Ba {w w' : World} {a : Addr} {cs : List Value} (hB : Below w.heap.size w w') (h : At w a cs) : At w' a cs := fun i u hu => Bc hB (h i u hu)
theorem B2 {w w' w0 : World} (hB : Below w.heap.size w w') (h : Below w'.heap.size w' w0) : Below w.heap.size w w0 := hB.trans (h.mono hB.size)
theorem Bg {w w' w0 : World} (hB : Below w.heap.size w w') (h : w'.grownBy w0 none) : Below w.heap.size w w0 := B2 hB (below_gb h)
theorem Br {w w' w0 : World} {k : Nat} (hB : Below w.heap.size w w') (h : w'.grownBy w0 (some k)) (hk : w.heap.size ≤ k) : Below w.heap.size w w0 := hB.grown h hB.size (fun _ e => by cases e; exact hk)
theorem Brow {α : Type} {r : Rep α} (hs : 0 < r.sz) {ok : Nat → Prop} {w w' : World} {A : Option Addr} {xs : List α} (hB : Below w.heap.size w w') (h : Row r ok w A xs) : Row r ok w' A xs := h.move hs fun b _ hl => hB.block b hl
theorem take_succ_eq {α : Type} {a b : List α} {k : Nat} (ha : k < a.length) (hb : k < b.length) (h : a.take k = b.take k) (he : a[k] = b[k]) : a.take (k + 1) = b.take (k + 1) := by
  rw [List.take_succ_eq_append_getElem ha, List.take_succ_eq_append_getElem hb, h, he]
theorem Box.below {w w' : World} {g : Nat} {cs : Array Value} {t : TypeId} (h : Box w g cs t) (hB : Below w.heap.size w w') : Box w' g cs t := (hB.block g h.lt).trans h
end Go.Wl
