/- More laws: stores, struct and slice literals, cuts, strings, calls. No condition. -/
import Derived.Test.YtfgbplbohekghaaDoorL3
import Derived.Great.BuildSlice
import Derived.Laws.AppendOwnNone
import Derived.Maps.AppendAt
set_option linter.unusedVariables false
set_option linter.unusedSimpArgs false
namespace Go.Wl
open Go.RowKit

section
variable {P : Program} {n : Nat} {s : Sl} {ds : List Deferred} {w : World} {l : List SOp} {X : Cont} {pan : PCont} {d0 : Option Nat}

theorem WL.skp {op : Op} {w' : World} {g : Option (Nat × Bool)} (hg : GOk s g) (hr : ∀ a, Fr n s ds a → ∀ oo : Oper, oo.op = op → (execOp a.eval oo).run P w = .ok .skip w')
    (h : WL P n l X pan (push d0 undef s) ds w') : WL P n (⟨d0, op, g⟩ :: l) X pan s ds w := WL.skips hg hr h

/-! #### stores -/
/-- A whole variable is written. -/
theorem WL.stAll {t t' : TypeId} {k : Nat} {b : Bool} {x y : Operand} {gb : Nat} {v : Value} {cs : Array Value} {g : Option (Nat × Bool)} (hg : GOk s g) (hu : shapeOf P t = some (b, k)) (hx : Wl.val s x = some (.pointer (some ⟨gb, 0, none⟩))) (hy : Wl.val s y = some v)
    (hb : Box w gb cs t') (hk : v.cells.size = k) (hk' : cs.size = k) (h1 : ∀ u ∈ v.cells.toList, u.oneCell' = true)
    (h : ∀ w1, w.grownBy w1 (some gb) → w1.heap.size = w.heap.size → Box w1 gb v.cells t' → WL P n l X pan (push d0 undef s) ds w1) : WL P n (⟨d0, .store t x y, g⟩ :: l) X pan s ds w := by
  obtain ⟨w1, hr, hb1, hg1, hsz⟩ := run_storeCells (P := P) v.cells.toList cs 0 0 w hb (by simp; omega) h1
  refine WL.skp hg (w' := w1) (fun q hq oo ho => ?_) (h w1 hg1 hsz ?_)
  · unfold execOp; rw [ho]
    simp only [hq.val hx, hq.val hy, Instr.storeAt, Instr.sureAddr, storeVar, Sem.run_bind, Sem.run_pure, Result.andThen_ok, (run_isAgg hu).2]
    rw [if_neg (by omega)]
    simp only [Sem.run_bind, Sem.run_pure, Result.andThen_ok, hr]
  · have : ∀ (vs : List Value) (cs : Array Value) (k : Nat), k + vs.length = cs.size → (vs.zipIdx k).foldl (fun cs (p : Value × Nat) => cs.setIfInBounds (0 + 0 + p.2) p.1) cs = (cs.toList.take k ++ vs).toArray := by
      intro vs
      induction vs with
      | nil => intro cs k h; simp at h ⊢; apply Array.toList_inj.1; simp [List.take_of_length_le, h]
      | cons u r ih =>
        intro cs k h
        simp only [List.length_cons] at h
        rw [List.zipIdx_cons, List.foldl_cons, ih _ (k + 1) (by simp; omega)]
        congr 1
        have hlt : k < cs.toList.length := by simp; omega
        simp only [Nat.zero_add, Array.toList_setIfInBounds]
        rw [List.take_succ_eq_append_getElem (by simpa using hlt)]
        simp [List.take_set_of_le]
    have h2 := this v.cells.toList cs 0 (by simp; omega)
    rw [h2] at hb1
    simpa using hb1

/-- One cell of a variable is written. -/
theorem WL.stOne {t t' : TypeId} {off : Nat} {x y : Operand} {gb : Nat} {v : Value} {cs : Array Value} {g : Option (Nat × Bool)} (hg : GOk s g) (hu : shapeOf P t = some (false, 1)) (hx : Wl.val s x = some (.pointer (some ⟨gb, off, none⟩))) (hy : Wl.val s y = some v)
    (hb : Box w gb cs t') (hk' : off < cs.size) (h1 : v.oneCell' = true)
    (h : ∀ w1, w.grownBy w1 (some gb) → w1.heap.size = w.heap.size → Box w1 gb (cs.setIfInBounds off v) t' → WL P n l X pan (push d0 undef s) ds w1) : WL P n (⟨d0, .store t x y, g⟩ :: l) X pan s ds w := by
  have hcell : v.cells = #[v] := by cases v <;> first | rfl | (simp [Value.oneCell'] at h1)
  obtain ⟨w1, hr, hb1, hg1, hsz⟩ := run_storeCells (P := P) [v] cs off 0 w hb (by simp; omega) (by simpa using h1)
  refine WL.skp hg (w' := w1) (fun q hq oo ho => ?_) (h w1 hg1 hsz (by simpa using hb1))
  unfold execOp; rw [ho]
  simp only [hq.val hx, hq.val hy, Instr.storeAt, Instr.sureAddr, storeVar, Sem.run_bind, Sem.run_pure, Result.andThen_ok, (run_isAgg hu).2, hcell]
  rw [if_neg (by simp)]
  simp only [Sem.run_bind, Sem.run_pure, Result.andThen_ok, hr]

/-! #### literals -/
def pvals (s : Sl) : List (Nat × Operand) → Option (List (Nat × Value))
  | [] => some []
  | (i, x) :: r => match Wl.val s x, pvals s r with
    | some v, some l => some ((i, v) :: l)
    | _, _ => none
theorem Fr.pvals {a : Act} (h : Fr n s ds a) : ∀ {xs : List (Nat × Operand)} {vs : List (Nat × Value)}, Wl.pvals s xs = some vs → xs.map (fun p => (p.1, a.eval p.2)) = vs
  | [], vs, hx => by cases hx; rfl
  | (i, x) :: r, vs, hx => by
    simp only [Wl.pvals] at hx
    split at hx
    · rename_i v l hv hl
      cases hx
      simp [h.val hv, h.pvals hl]
    · cases hx

theorem o_bld {t : TypeId} {ps : Array (Nat × Operand)} {vs : List (Nat × Value)} {cs : Array Value} (hv : pvals s ps.toList = some vs) (hb : P.built t vs = some cs) :
    Op1 P n s ds w (.build t ps) ((.agg cs)) :=
  (fun q hq oo ho => by
    unfold execOp; rw [ho]
    have h1 := hq.pvals hv
    have h2 : (ps.map fun (i, x) => (i, q.eval x)).toList = vs := by rw [← h1]; simp
    simp only [Sem.run_bind]
    rw [run_build w t _ cs (by rw [h2]; exact hb)]
    rfl)
theorem WL.bld {t : TypeId} {ps : Array (Nat × Operand)} {vs : List (Nat × Value)} {cs : Array Value} {g : Option (Nat × Bool)} (hg : GOk s g) (hv : pvals s ps.toList = some vs) (hb : P.built t vs = some cs)
    (h : WL P n l X pan (push d0 (.agg cs) s) ds w) : WL P n (⟨d0, .build t ps, g⟩ :: l) X pan s ds w := WL.val hg (o_bld hv hb) h

/-- A slice literal: its element type and its cells. -/
def builtSl (P : Program) (t : TypeId) (len : Nat) (parts : List (Nat × Value)) : Option (TypeId × Array Value) :=
  match P.underlying t with
  | some (.slice e) => match P.info? e with
    | some i => match i.zero with
      | some z => cond (Nat.ble (len * i.size) 16777216 && !Nat.beq (len * i.size) 0)
          (match Instr.fill (fun j => some (j * i.size, i.size)) ((Array.range (len * i.size)).map (z.cells[· % z.cells.size]!)) parts with
            | some cells => some (e, cells)
            | none => none) none
      | none => none
    | none => none
  | _ => none

theorem WL.bldS {t e : TypeId} {len : Nat} {ps : Array (Nat × Operand)} {vs : List (Nat × Value)} {cs : Array Value} {g : Option (Nat × Bool)} (hg : GOk s g) (hv : pvals s ps.toList = some vs) (hb : builtSl P t len vs = some (e, cs))
    (h : ∀ w1, w.grownBy w1 none → Box w1 w.heap.size cs e → w1.heap.size = w.heap.size + 1 → WL P n l X pan (push d0 (.slice (some ⟨w.heap.size, 0, none⟩) len len) s) ds w1) : WL P n (⟨d0, .buildSlice t len ps, g⟩ :: l) X pan s ds w :=
  WL.val hg (w' := w.alloc (.cells cs e)) (fun q hq oo ho => by
    unfold execOp; rw [ho]
    have h1 := hq.pvals hv
    have h2 : (ps.map fun (i, x) => (i, q.eval x)).toList = vs := by rw [← h1]; simp
    unfold builtSl at hb
    split at hb
    · rename_i e' hu
      split at hb
      · rename_i i hi
        split at hb
        · rename_i z hz
          cases hc : (Nat.ble (len * i.size) 16777216 && !Nat.beq (len * i.size) 0) with
          | false => rw [hc] at hb; cases hb
          | true =>
            rw [hc] at hb
            simp only [cond_true] at hb
            split at hb
            · rename_i cells hf
              cases hb
              simp only [Bool.and_eq_true, Bool.not_eq_true'] at hc
              have hc1 : len * i.size ≤ 16777216 := Nat.le_of_ble_eq_true hc.1
              have hc2 : len * i.size ≠ 0 := fun e => by rw [e] at hc; simp at hc
              simp only [Sem.run_bind]
              rw [run_buildSlice w t _ len _ _ i z hu hi hz (by omega) hc2 (by rw [h2]; exact hf)]
              rfl
            · cases hb
        · cases hb
      · cases hb
    · cases hb) (h _ (gb_alloc _ _) (heap_alloc_new w _) (by simp))

/-! #### cuts of a slice -/
def cutAddr (A : Option Addr) (c lo k : Nat) : Option Addr := if c = lo then A else A.map (·.add (lo * k))
theorem run_cut {t e : TypeId} {k by_ : Nat} {z : Value} (hu : elemOf' P t = some (e, k, by_, z)) (A : Option Addr) (m c : Nat) (lo hi : Option Value) (l h : Nat)
    (hl : (lo = none ∧ l = 0) ∨ ∃ ik i, lo = some (.int ik i) ∧ 0 ≤ i ∧ i.toNat = l) (hh : (hi = none ∧ h = m) ∨ ∃ ik i, hi = some (.int ik i) ∧ 0 ≤ i ∧ i.toNat = h) (hlh : l ≤ h) (hc : h ≤ c) :
    (Instr.sliceAt t (.slice A m c) lo hi none).run P w = .ok (.slice (cutAddr A c l k) (h - l) (c - l)) w := by
  unfold elemOf' at hu
  split at hu
  · rename_i e' hut
    split at hu
    · rename_i i' hi'
      split at hu
      · cases hu
        have hel : P.elem t = e := by simp [Program.elem, hut]
        have hut' : P.underlying t = some (.slice (P.elem t)) := by rw [hel]; exact hut
        rw [run_sliceAt_slice (P := P) w t _ _ _ _ hut']
        rcases hl with ⟨rfl, rfl⟩ | ⟨ik, i, rfl, hi0, rfl⟩ <;> rcases hh with ⟨rfl, rfl⟩ | ⟨jk, j, rfl, hj0, rfl⟩
        · rw [run_slice_all (P := P) w t A h c hut', hel]
          simp [sizeOf, typeInfo, hi', sliced, cutAddr, Result.andThen]
        · rw [run_slice_h (P := P) w t A m c hut' jk j hj0 (by omega), hel]
          simp [sizeOf, typeInfo, hi', sliced, cutAddr, Result.andThen]
        · rw [run_slice_l (P := P) w t A h c hut' ik i hi0 (by omega), hel]
          simp [sizeOf, typeInfo, hi', sliced, cutAddr, Result.andThen]
        · rw [run_slice_lh (P := P) w t A m c hut' ik jk i j hi0 (by omega) (by omega), hel]
          simp [sizeOf, typeInfo, hi', sliced, cutAddr, Result.andThen]
      · cases hu
    · cases hu
  · cases hu
def ovals (s : Sl) : Option Operand → Option (Option Value)
  | none => some none
  | some x => match Wl.val s x with
    | some v => some (some v)
    | none => none
theorem Fr.ovals {a : Act} (h : Fr n s ds a) {x : Option Operand} {v : Option Value} (hx : Wl.ovals s x = some v) : x.map a.eval = v := by
  cases x with
  | none => cases hx; rfl
  | some y =>
    simp only [Wl.ovals] at hx
    split at hx
    · rename_i u hu
      cases hx
      simp [h.val hu]
    · cases hx
theorem o_cut {t e : TypeId} {k by_ : Nat} {z : Value} {x : Operand} {lo hi : Option Operand} {vl vh : Option Value} {A : Option Addr} {m c : Nat} (i j : Nat) (hu : elemOf' P t = some (e, k, by_, z)) (hx : Wl.val s x = some (.slice A m c))
    (hlo : ovals s lo = some vl) (hhi : ovals s hi = some vh) (hl : (vl = none ∧ i = 0) ∨ ∃ ik q, vl = some (.int ik q) ∧ 0 ≤ q ∧ q.toNat = i) (hh : (vh = none ∧ j = m) ∨ ∃ ik q, vh = some (.int ik q) ∧ 0 ≤ q ∧ q.toNat = j) (hij : i ≤ j) (hj : j ≤ c) :
    Op1 P n s ds w (.slice t x lo hi none) ((.slice (cutAddr A c i k) (j - i) (c - i))) :=
  (fun q hq oo ho => by
    unfold execOp; rw [ho]
    simp only [hq.val hx, hq.ovals hlo, hq.ovals hhi, Option.map_none, Sem.run_bind]
    rw [run_cut hu A m c vl vh i j hl hh hij hj]
    rfl)
theorem WL.cut {t e : TypeId} {k by_ : Nat} {z : Value} {x : Operand} {lo hi : Option Operand} {vl vh : Option Value} {A : Option Addr} {m c : Nat} (i j : Nat) {g : Option (Nat × Bool)} (hg : GOk s g) (hu : elemOf' P t = some (e, k, by_, z)) (hx : Wl.val s x = some (.slice A m c))
    (hlo : ovals s lo = some vl) (hhi : ovals s hi = some vh) (hl : (vl = none ∧ i = 0) ∨ ∃ ik q, vl = some (.int ik q) ∧ 0 ≤ q ∧ q.toNat = i) (hh : (vh = none ∧ j = m) ∨ ∃ ik q, vh = some (.int ik q) ∧ 0 ≤ q ∧ q.toNat = j) (hij : i ≤ j) (hj : j ≤ c)
    (h : WL P n l X pan (push d0 (.slice (cutAddr A c i k) (j - i) (c - i)) s) ds w) : WL P n (⟨d0, .slice t x lo hi none, g⟩ :: l) X pan s ds w := WL.val hg (o_cut i j hu hx hlo hhi hl hh hij hj) h

/-! #### calls -/
theorem WL.call {f : FuncId} {xs : Array Operand} {ts : Array TypeId} {vs : List Value} {n' : Nat} {c' : SC} {rs' : Array ResultVar} {R : Ending → World → Prop} {g : Option (Nat × Bool)} (hg : GOk s g) (hF : Fun P f n' c' rs') (hx : vals s xs.toList = some vs)
    (hc : Calls P f vs.toArray w R) (h : ∀ e w1, R e w1 → ∃ v, e = .returned v ∧ WL P n l X pan (push d0 v s) ds w1) : WL P n (⟨d0, .call { callee := .value (.func f), args := xs, argTypes := ts }, g⟩ :: l) X pan s ds w := by
  refine WL.run hg fun a ha oo ho Kt QQ hK hp h1 h2 => ?_
  have hargs : xs.map a.eval = vs.toArray := by apply Array.toList_inj.1; simpa using ha.vals hx
  unfold Oper.wp
  have hrun : (execOp a.eval oo).run P w = .ok (.enter f vs.toArray) w := by
    unfold execOp; rw [ho]
    simp only [resolve, invoke, Act.eval, Deferred.ofValue, Sem.run_bind, Sem.run_pure, Result.andThen_ok, hargs]
    simpa using hF.run _ w
  rw [hrun]
  refine hc.mono fun e w1 hR => ?_
  obtain ⟨v, rfl, hw⟩ := h e w1 hR
  refine hK v w1 hw _ ?_
  have := ha.putO h1 v
  rw [h2] at this
  rw [h2]
  exact this

/-- A call that may end in a panic. -/
theorem WL.callP {f : FuncId} {xs : Array Operand} {ts : Array TypeId} {vs : List Value} {n' : Nat} {c' : SC} {rs' : Array ResultVar} {R : Ending → World → Prop} {g : Option (Nat × Bool)} (hg : GOk s g) (hF : Fun P f n' c' rs') (hx : vals s xs.toList = some vs)
    (hc : Calls P f vs.toArray w R) (h : ∀ e w1, R e w1 → (∃ v, e = .returned v ∧ WL P n l X pan (push d0 v s) ds w1) ∨ ∃ ch, e = .panicked ch ∧ pan ch ds w1) : WL P n (⟨d0, .call { callee := .value (.func f), args := xs, argTypes := ts }, g⟩ :: l) X pan s ds w := by
  refine WL.run hg fun a ha oo ho Kt QQ hK hp h1 h2 => ?_
  have hargs : xs.map a.eval = vs.toArray := by apply Array.toList_inj.1; simpa using ha.vals hx
  unfold Oper.wp
  have hrun : (execOp a.eval oo).run P w = .ok (.enter f vs.toArray) w := by
    unfold execOp; rw [ho]
    simp only [resolve, invoke, Act.eval, Deferred.ofValue, Sem.run_bind, Sem.run_pure, Result.andThen_ok, hargs]
    simpa using hF.run _ w
  rw [hrun]
  refine hc.mono fun e w1 hR => ?_
  rcases h e w1 hR with ⟨v, rfl, hw⟩ | ⟨ch, rfl, hw⟩
  · refine hK v w1 hw _ ?_
    have := ha.putO h1 v
    rw [h2] at this
    rw [h2]
    exact this
  · exact hp ch a w1 s ds ha hw

/-- A call of a function value. -/
theorem WL.callV {f : FuncId} {x : Operand} {caps : Array Value} {xs : Array Operand} {ts : Array TypeId} {vs : List Value} {n' : Nat} {c' : SC} {rs' : Array ResultVar} {R : Ending → World → Prop} {g : Option (Nat × Bool)} (hg : GOk s g) (hfv : Wl.val s x = some (.func (.func f) #[] caps)) (hF : Fun P f n' c' rs') (hx : vals s xs.toList = some vs)
    (hc : Calls P f (vs ++ caps.toList).toArray w R) (h : ∀ e w1, R e w1 → ∃ v, e = .returned v ∧ WL P n l X pan (push d0 v s) ds w1) : WL P n (⟨d0, .call { callee := .value x, args := xs, argTypes := ts }, g⟩ :: l) X pan s ds w := by
  refine WL.run hg fun a ha oo ho Kt QQ hK hp h1 h2 => ?_
  have hargs : xs.map a.eval = vs.toArray := by apply Array.toList_inj.1; simpa using ha.vals hx
  unfold Oper.wp
  have hrun : (execOp a.eval oo).run P w = .ok (.enter f (vs ++ caps.toList).toArray) w := by
    unfold execOp; rw [ho]
    simp only [resolve, invoke, ha.val hfv, Deferred.ofValue, Sem.run_bind, Sem.run_pure, Result.andThen_ok, hargs]
    have e : (vs ++ caps.toList).toArray = vs.toArray ++ caps := by apply Array.toList_inj.1; simp
    rw [e]
    simpa using hF.run _ w
  rw [hrun]
  refine hc.mono fun e w1 hR => ?_
  obtain ⟨v, rfl, hw⟩ := h e w1 hR
  refine hK v w1 hw _ ?_
  have := ha.putO h1 v
  rw [h2] at this
  rw [h2]
  exact this
end
end Go.Wl
