/- Slices of the call's own, sorted by the library. No condition. -/
import Derived.Test.YtfgbplbohekghaaDoorOrd
import Derived.Shelf.SlSortCmp.WholeK
import Derived.Sort.OwnSorted
set_option linter.unusedVariables false
namespace Go.Wl
open Go.RowKit Go.Proofs Go.Sort

theorem WL.boxX {P : Program} {n : Nat} {s : Sl} {ds : List Deferred} {w : World} {l : List SOp} {X : Cont} {pan : PCont} {d0 : Option Nat} {t : TypeId} {x : Operand} {v : Value} {g : Option (Nat × Bool)} (hg : GOk s g) (hx : Wl.val s x = some v)
    (h : WL P n l X pan (push d0 (.pointer (some ⟨w.heap.size, 0, none⟩)) s) ds (w.alloc (.cells v.cells t))) : WL P n (⟨d0, .box t x, g⟩ :: l) X pan s ds w :=
  WL.val hg (w' := w.alloc (.cells v.cells t)) (fun q hq oo ho => by
    unfold execOp; rw [ho]; simp [Instr.box, Sem.run_bind, newVar, newRow, hq.val hx]) h

theorem perm_of_map {β γ : Type} (f : β → γ) {l' l : List γ} (h : l'.Perm l) : ∀ {zs : List β}, zs.map f = l → ∃ zs' : List β, zs'.Perm zs ∧ zs'.map f = l' := by
  induction h with
  | nil => intro zs e; exact ⟨zs, .refl _, e⟩
  | cons x _ ih =>
    intro zs e
    cases zs with
    | nil => cases e
    | cons z zs =>
      simp only [List.map_cons, List.cons.injEq] at e
      obtain ⟨zs', h1, h2⟩ := ih e.2
      exact ⟨z :: zs', h1.cons z, by simp [e.1, h2]⟩
  | swap x y l =>
    intro zs e
    match zs, e with
    | z :: u :: zs, e =>
      simp only [List.map_cons, List.cons.injEq] at e
      exact ⟨u :: z :: zs, .swap z u zs, by simp [e.1, e.2.1, e.2.2]⟩
  | trans _ _ ih1 ih2 =>
    intro zs e
    obtain ⟨z2, h1, h2⟩ := ih2 e
    obtain ⟨z3, h3, h4⟩ := ih1 h2
    exact ⟨z3, h3.trans h1, h4⟩

section
variable {α τ : Type} [Inhabited τ] {r : Rep α} {e : TypeId} {base : Nat} {ok : Nat → Prop} {w : World} {xs : List α} {g cap : Nat}
theorem flat_get (enc : τ → List Value) (k : Nat) (hk : ∀ x, (enc x).length = k) (d : List τ) (i j : Nat) (hi : i < d.length) (hj : j < k) : (flatK enc k d.toArray).toList[i * k + j]? = (enc d[i])[j]? := by
  have hlt : i * k + j < d.length * k := by
    have : (i + 1) * k ≤ d.length * k := Nat.mul_le_mul_right _ hi
    rw [Nat.add_mul] at this; omega
  have h1 : (i * k + j) / k = i := by rw [Nat.mul_comm, Nat.mul_add_div (by omega), Nat.div_eq_of_lt hj]; rfl
  have h2 : (i * k + j) % k = j := by rw [Nat.mul_comm, Nat.mul_add_mod, Nat.mod_eq_of_lt hj]
  simp only [flatK, Array.toList_map, Array.toList_range, List.getElem?_map, List.size_toArray, List.getElem?_range hlt, Option.map_some, h1, h2]
  rw [getElem!_pos d.toArray i (by simpa using hi), List.getElem_toArray, getElem!_pos _ j (by rw [hk]; exact hj), List.getElem?_eq_getElem]
theorem flat_chunk (enc : τ → List Value) (k : Nat) (hk : ∀ x, (enc x).length = k) (d : List τ) (i : Nat) (hi : i < d.length) : ((flatK enc k d.toArray).toList.drop (i * k)).take k = enc d[i] := by
  apply List.ext_getElem?
  intro j
  by_cases hj : j < k
  · rw [List.getElem?_take_of_lt hj, List.getElem?_drop, flat_get enc k hk d i j hi hj]
  · rw [List.getElem?_take_eq_none (by omega), List.getElem?_eq_none (by rw [hk]; omega)]
theorem flat_eq (enc : τ → List Value) (k : Nat) (h0 : 0 < k) (hk : ∀ x, (enc x).length = k) (d : List τ) (cs : List Value) (hl : cs.length = d.length * k) (h : ∀ i (hi : i < d.length), (cs.drop (i * k)).take k = enc d[i]) : (flatK enc k d.toArray).toList = cs := by
  apply List.ext_getElem?
  intro t
  by_cases ht : t < d.length * k
  · have hi : t / k < d.length := Nat.div_lt_of_lt_mul (by rwa [Nat.mul_comm])
    have hj : t % k < k := Nat.mod_lt _ h0
    have e1 : t = t / k * k + t % k := by rw [Nat.mul_comm]; exact (Nat.div_add_mod t k).symm
    have h2 := flat_get enc k hk d (t / k) (t % k) hi hj
    rw [← e1] at h2
    rw [h2, ← h _ hi, List.getElem?_take_of_lt hj, List.getElem?_drop, ← e1]
  · rw [List.getElem?_eq_none (by simp; omega), List.getElem?_eq_none (by omega)]
theorem take_put (F : Array Value) (cur : Array Value) (h : F.size ≤ cur.size) : (putCells id 0 F cur).toList.take F.size = F.toList := by
  apply List.ext_getElem?
  intro j
  by_cases hj : j < F.size
  · rw [List.getElem?_take_of_lt hj, Array.getElem?_toList]
    simp [putCells, hj, show j < cur.size by omega]
  · rw [List.getElem?_take_eq_none (by omega), List.getElem?_eq_none (by simp; omega)]

/-- An own slice, as the sort's contract asks for it, and what is left behind it. -/
theorem Own.toK (hs : 0 < r.sz) (enc : τ → List Value) (hk : ∀ x, (enc x).length = r.sz) (dec : List Value → τ) (hdec : ∀ {ok' : Nat → Prop} {w x cs}, r.R ok' w x cs → enc (dec cs) = cs)
    (h : Own r e base ok w (.slice (some ⟨g, 0, none⟩) xs.length cap) xs) :
    ∃ zs : List (α × τ), zs.map (·.1) = xs ∧ HoldsK enc r.sz w g 0 (zs.map (·.2)).toArray ∧ g < w.heap.size ∧ (∀ p ∈ zs, r.R (fun b => ok b ∧ some b ≠ some g) w p.1 (enc p.2)) ∧
      ∀ m os (zs' : List (α × τ)), zs'.Perm zs → Own r e base ok (sortWorldK enc r.sz w g 0 m (zs'.map (·.2)).toArray os) (.slice (some ⟨g, 0, none⟩) xs.length cap) (zs'.map (·.1)) ∧ w.grownBy (sortWorldK enc r.sz w g 0 m (zs'.map (·.2)).toArray os) (some g) := by
  obtain ⟨cs, ⟨hl, ho⟩, hr⟩ := h
  rcases ho with ⟨h0, _⟩ | ⟨g', cap', cur, hv, hb, hh, h1, h2, h3, h4⟩
  · cases h0
  cases hv
  have hg := (Array.getElem?_eq_some_iff.1 hh).1
  let f : Nat × α → α × τ := fun p => (p.2, dec ((cs.drop (p.1 * r.sz)).take r.sz))
  let zs := (xs.zipIdx.map fun p => (p.1, dec ((cs.drop (p.2 * r.sz)).take r.sz)))
  have hzl : zs.length = xs.length := by simp [zs]
  have hzi : ∀ i (hi : i < xs.length), zs[i]'(by rw [hzl]; exact hi) = (xs[i], dec ((cs.drop (i * r.sz)).take r.sz)) := by
    intro i hi; simp [zs]
  have hR : ∀ i (hi : i < xs.length), r.R (fun b => ok b ∧ some b ≠ some g) w xs[i] ((cs.drop (i * r.sz)).take r.sz) := fun i hi => hr.2 i _ (List.getElem?_eq_getElem hi)
  have hz1 : zs.map (·.1) = xs := by
    apply List.ext_getElem (by simp [hzl])
    intro i h5 h6
    rw [List.getElem_map, hzi i h6]
  have hRz : ∀ p ∈ zs, r.R (fun b => ok b ∧ some b ≠ some g) w p.1 (enc p.2) := by
    intro p hp
    obtain ⟨i, hi, rfl⟩ := List.getElem_of_mem hp
    rw [hzl] at hi
    rw [hzi i hi]
    have := hR i hi
    simp only [hdec this]
    exact this
  have hflat : (flatK enc r.sz (zs.map (·.2)).toArray).toList = cs := by
    refine flat_eq enc r.sz hs hk _ cs (by simp [hzl, hl]) fun i hi => ?_
    have hi' : i < xs.length := by simpa [hzl] using hi
    rw [List.getElem_map, hzi i hi']
    exact (hdec (hR i hi')).symm
  refine ⟨zs, hz1, ?_, hg, hRz, ?_⟩
  · intro j hj
    have hj' : j < cs.length := by
      have := hj
      rw [size_flatK] at this
      simp [hzl] at this
      omega
    refine ⟨?_, by simp [World.frozen?, hh]⟩
    have e1 : (flatK enc r.sz (zs.map (·.2)).toArray)[j]! = cs[j] := by
      rw [getElem!_pos _ j hj]
      have : (flatK enc r.sz (zs.map (·.2)).toArray).toList[j]? = cs[j]? := by rw [hflat]
      rw [Array.getElem?_toList, Array.getElem?_eq_getElem hj, List.getElem?_eq_getElem hj'] at this
      simpa using this
    simp only [id, e1, World.cell?, hh, Nat.zero_add, Option.isSome_none, Bool.false_eq_true, if_false]
    have h5 : cur.toList[j]? = cs[j]? := by
      have : (cur.toList.take (xs.length * r.sz))[j]? = cs[j]? := by rw [h4]
      rwa [List.getElem?_take_of_lt (by rw [← hl]; exact hj')] at this
    rw [← Array.getElem?_toList, h5, List.getElem?_eq_getElem hj']
  · intro m os zs' hp
    have hzl' : zs'.length = xs.length := by rw [hp.length_eq, hzl]
    have hgb : w.grownBy (sortWorldK enc r.sz w g 0 m (zs'.map (·.2)).toArray os) (some g) := by
      refine ⟨rfl, rfl, rfl, by simp [sortWorldK, putRowK], fun k hk hne => ?_⟩
      unfold sortWorldK
      rw [heap_grow_old _ _ (by simpa [putRowK] using hk)]
      have : g ≠ k := fun e => hne (by rw [e])
      simp [putRowK, putRow, mapBlock, Sort.ahead, Array.getElem?_modify, this]
    have hheap : (sortWorldK enc r.sz w g 0 m (zs'.map (·.2)).toArray os).heap[g]? = some (.cells (putCells id 0 (flatK enc r.sz (zs'.map (·.2)).toArray) cur) e (0, 0)) := by
      unfold sortWorldK
      rw [heap_grow_old _ _ (by simpa [putRowK] using hg)]
      simp [putRowK, putRow, mapBlock, Sort.ahead, Array.getElem?_modify, hh, onCells]
    have hfs : (flatK enc r.sz (zs'.map (·.2)).toArray).size = xs.length * r.sz := by rw [size_flatK]; simp [hzl']
    have hcur : xs.length * r.sz ≤ cur.size := by rw [h3]; exact Nat.mul_le_mul_right _ h1
    refine ⟨⟨(flatK enc r.sz (zs'.map (·.2)).toArray).toList, ⟨by simp [hzl'], .inr ⟨g, cap, _, by simp [hzl'], hb, hheap, by simp [hzl', h1], h2, by simp [putCells, h3], ?_⟩⟩, ?_⟩, hgb⟩
    · have := take_put (flatK enc r.sz (zs'.map (·.2)).toArray) cur (by rw [hfs]; exact hcur)
      rw [hfs] at this
      simpa [hzl'] using this
    · refine ⟨by simp [hzl'], fun i x hi => ?_⟩
      have hi' : i < zs'.length := by simpa using (List.getElem?_eq_some_iff.1 hi).1
      have hc := flat_chunk enc r.sz hk (zs'.map (·.2)) i (by simpa using hi')
      rw [hc]
      obtain ⟨_, hx⟩ := List.getElem?_eq_some_iff.1 hi
      have hmem : zs'[i] ∈ zs := hp.mem_iff.1 (List.getElem_mem hi')
      have h7 := hRz _ hmem
      rw [List.getElem_map] at hx ⊢
      rw [← hx]
      exact r.move h7 fun b hb hlt => hgb.block b hlt hb.2
end
end Go.Wl
