/- Slices of strings of the call's own: the library sorts and compacts them. No condition. -/
import Derived.Test.YtfgbplbohekghaaSrt
import Derived.Lib.SlicesCompact
set_option linter.unusedVariables false
namespace Go.Wl
open Go.RowKit Go.Proofs Go.Sort

theorem compact_mem {α : Type} [Inhabited α] [DecidableEq α] (zs : List α) (x : α) : x ∈ Lib.compact zs ↔ x ∈ zs := by
  unfold Lib.compact Lib.compactUpTo
  simp only [List.mem_map, List.mem_filter, List.mem_range]
  constructor
  · rintro ⟨i, ⟨hi, _⟩, rfl⟩
    rw [getElem!_pos zs.toArray i (by simpa using hi)]
    simp
  · intro hx
    obtain ⟨i, hi, rfl⟩ := List.getElem_of_mem hx
    have key : ∀ j (hj : j < zs.length), ∃ k, (k < zs.length ∧ Lib.keeps zs.toArray k = true) ∧ zs.toArray[k]! = zs[j] := by
      intro j
      induction j with
      | zero => intro hj; exact ⟨0, ⟨hj, Lib.keeps_lt_one _ 0 (by omega)⟩, by rw [getElem!_pos zs.toArray 0 (by simpa using hj)]; simp⟩
      | succ j ih =>
        intro hj
        by_cases he : zs.toArray[j + 1]! = zs.toArray[j + 1 - 1]!
        · obtain ⟨k, h1, h2⟩ := ih (by omega)
          refine ⟨k, h1, h2.trans ?_⟩
          rw [getElem!_pos zs.toArray (j + 1) (by simpa using hj), getElem!_pos zs.toArray (j + 1 - 1) (by simp; omega)] at he
          simpa using he.symm
        · exact ⟨j + 1, ⟨hj, Lib.keeps_pos he⟩, by rw [getElem!_pos zs.toArray (j + 1) (by simpa using hj)]; simp⟩
    obtain ⟨k, h1, h2⟩ := key i hi
    exact ⟨k, h1, h2⟩

def bytesOf (x : ByteArray) : List UInt8 := x.data.toList
theorem encStr_bytes (x : ByteArray) : encStr (bytesOf x) = .string x := by cases x; simp [encStr, bytesOf]
/-- Block g is a row of strings, zs at its front. -/
def StrBlk (e : TypeId) (w : World) (g cap : Nat) (zs : List (List UInt8)) : Prop :=
  ∃ cur, w.heap[g]? = some (.cells cur e (0, 0)) ∧ zs.length ≤ cap ∧ cap ≤ maxLen ∧ cur.size = cap ∧ cur.toList.take zs.length = zs.map encStr
theorem reps_str {ok : Nat → Prop} {w : World} {xs : List ByteArray} {cs : List Value} (h : Reps (rStr.R ok w) 1 xs cs) : cs = (xs.map bytesOf).map encStr := by
  obtain ⟨h1, h2⟩ := h
  apply List.ext_getElem?
  intro i
  by_cases hi : i < xs.length
  · have h3 := h2 i xs[i] (List.getElem?_eq_getElem hi)
    have h4 : (cs.drop (i * 1)).take 1 = [.string xs[i]] := h3
    have h5 : ((cs.drop (i * 1)).take 1)[0]? = some (.string xs[i]) := by rw [h4]; rfl
    rw [List.getElem?_take_of_lt (by omega), List.getElem?_drop, Nat.mul_one, Nat.add_zero] at h5
    rw [h5]
    simp [List.getElem?_eq_getElem hi, encStr_bytes]
  · rw [List.getElem?_eq_none (by omega), List.getElem?_eq_none (by simp; omega)]
theorem Own.blk {e : TypeId} {base : Nat} {ok : Nat → Prop} {w : World} {g cap : Nat} {xs : List ByteArray} (h : Own rStr e base ok w (.slice (some ⟨g, 0, none⟩) xs.length cap) xs) : StrBlk e w g cap (xs.map bytesOf) := by
  obtain ⟨cs, ⟨hl, ho⟩, hr⟩ := h
  rcases ho with ⟨h0, _⟩ | ⟨g', cap', cur, hv, hb, hh, h1, h2, h3, h4⟩
  · cases h0
  cases hv
  have hcs := reps_str hr
  refine ⟨cur, hh, by simpa using h1, h2, by rw [h3]; exact Nat.mul_one _, ?_⟩
  rw [← hcs]
  have e1 : xs.length * rStr.sz = xs.length := Nat.mul_one _
  rw [e1] at h4
  rw [List.length_map]; exact h4
theorem StrBlk.holds {e : TypeId} {w : World} {g cap : Nat} {zs : List (List UInt8)} (h : StrBlk e w g cap zs) : Holds encStr w g 0 zs.toArray := by
  obtain ⟨cur, hh, _, _, _, h4⟩ := h
  exact holds_of_block hh h4
theorem StrBlk.lt {e : TypeId} {w : World} {g cap : Nat} {zs : List (List UInt8)} (h : StrBlk e w g cap zs) : g < w.heap.size := by
  obtain ⟨cur, hh, _⟩ := h
  exact (Array.getElem?_eq_some_iff.1 hh).1
theorem StrBlk.put {e : TypeId} {w : World} {g cap n : Nat} {os : Array Obj} {zs ts : List (List UInt8)} (h : StrBlk e w g cap zs) (hl : ts.length = zs.length) : StrBlk e (grow (putRow encStr (Sort.ahead w n) g 0 ts.toArray) os) g cap ts := by
  obtain ⟨cur, hh, h1, h2, h3, h4⟩ := h
  exact ⟨_, heap_sorted _ hh, by omega, h2, by simp [putCells, h3], take_putCells cur ts (by omega)⟩
theorem StrBlk.cell {e : TypeId} {w : World} {g cap : Nat} {zs : List (List UInt8)} (h : StrBlk e w g cap zs) (i : Nat) (hi : i < zs.length) : w.cell? ((⟨g, 0, none⟩ : Addr).add (i * 1)) = some (encStr zs[i]) := by
  have h1 := (h.holds i (by simpa using hi)).1
  rw [getElem!_pos zs.toArray i (by simpa using hi)] at h1
  have e1 : ((⟨g, 0, none⟩ : Addr).add (i * 1)) = ⟨g, 0 + i, none⟩ := by unfold Addr.add; split <;> simp_all
  rw [e1]
  simpa using h1
end Go.Wl
