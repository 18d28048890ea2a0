/- Maps in memory: what they hold, entry by entry; look-up, update, delete, ranging. No condition. -/
import Derived.Test.YtfgbplbohekghaaDoorL6
set_option linter.unusedVariables false
set_option linter.unusedSimpArgs false
namespace Go.Wl
open Go.RowKit

/-- How data of a kind lie in one value (a map's element, an argument). -/
structure VRep (α : Type) where
  V : (Nat → Prop) → World → α → Value → Prop
  move : ∀ {ok : Nat → Prop} {w w' : World} {x v}, V ok w x v → (∀ b, ok b → b < w.heap.size → w'.heap[b]? = w.heap[b]?) → V ok w' x v
  mono : ∀ {ok ok' : Nat → Prop} {w x v}, V ok w x v → (∀ b, ok b → b < w.heap.size → ok' b) → V ok' w x v
def Rep.v1 {α : Type} (r : Rep α) : VRep α := {
  V := fun ok w x v => r.R ok w x [v]
  move := r.move
  mono := r.mono
  }
def Rep.vA {α : Type} (r : Rep α) : VRep α := {
  V := fun ok w x v => ∃ cs, v = .agg cs.toArray ∧ r.R ok w x cs
  move := by
    intro ok w w' x v h hm
    obtain ⟨cs, h, h1⟩ := h
    exact ⟨cs, h, r.move h1 hm⟩
  mono := by
    intro ok ok' w x v h hm
    obtain ⟨cs, h, h1⟩ := h
    exact ⟨cs, h, r.mono h1 hm⟩
  }

/-- Keys of a map, of key type K. -/
structure KeyK (P : Program) (K : TypeId) (κ : Type) where
  enc : κ → Value
  d : TypeDesc
  hu : P.underlying K = some d
  dec : DecidableEq κ
  same : ∀ a b, Instr.sameNow d (enc a) (enc b) = some (decide (a = b))
  chk : ∀ (e : Bool) (a : κ) (w : World), (Instr.checkKey e 10000 K (enc a)).run P w = .ok () w
  bits : ∀ a, Instr.sameBits 10000 (enc a) (enc a) = true

theorem beq_byteArray (a b : ByteArray) : (a == b) = decide (a = b) := by
  cases a with | mk a => cases b with | mk b =>
  show (ByteArray.mk a == ByteArray.mk b) = _
  by_cases h : a = b
  · subst h; simp only [BEq.beq, ByteArray.beq, decide_true]; exact Array.isEqv_self a
  · simp only [BEq.beq, ByteArray.beq, ByteArray.mk.injEq, h, decide_false]
    cases hc : a.isEqv b (fun a b => decide (a = b))
    · rfl
    · exact absurd (Array.eq_of_isEqv a b hc) h

theorem checkKey_plain {P : Program} {K : TypeId} {d : TypeDesc} (hu : P.underlying K = some d) (v : Value) (h : (match d with | .interface _ | .array _ _ | .struct _ => false | _ => true) = true) (e : Bool) (w : World) : (Instr.checkKey e 10000 K v).run P w = .ok () w := by
  have : ∀ n : Nat, (Instr.checkKey e (n + 1) K v).run P w = .ok () w := by
    intro n
    simp only [Instr.checkKey, Sem.run_bind, run_underlying hu, Result.andThen_ok]
    cases d <;> first | (cases h; done) | (cases v <;> rfl)
  exact this 9999

def strK {P : Program} {K : TypeId} (hu : P.underlying K = some .string) : KeyK P K ByteArray := {
  enc := .string
  d := .string
  hu := hu
  dec := inferInstance
  same := fun a b => by simp only [Instr.sameNow, beq_byteArray]
  chk := fun e a w => checkKey_plain hu _ rfl e w
  bits := fun a => by show Instr.sameBits (9999 + 1) _ _ = true; simp [Instr.sameBits, beq_byteArray]
  }
def intK {P : Program} {K : TypeId} (hu : P.underlying K = some (.int .i64)) : KeyK P K Int := {
  enc := .int .i64
  d := .int .i64
  hu := hu
  dec := inferInstance
  same := fun a b => by
    simp only [Instr.sameNow, if_true]
    congr 1
  chk := fun e a w => checkKey_plain hu _ rfl e w
  bits := fun a => by show Instr.sameBits (9999 + 1) _ _ = true; simp [Instr.sameBits]
  }

/-- Entries of a map, and what they tell. -/
inductive Ents {P : Program} {K : TypeId} {κ α : Type} (k : KeyK P K κ) (r : VRep α) (ok : Nat → Prop) (w : World) : List MapEntry → List (κ × α) → Prop
  | nil : Ents k r ok w [] []
  | cons {e es x xs} : e.key = k.enc x.1 → r.V ok w x.2 e.val → Ents k r ok w es xs → Ents k r ok w (e :: es) (x :: xs)

section
variable {P : Program} {K : TypeId} {κ α : Type} {k : KeyK P K κ} {r : VRep α} {ok ok' : Nat → Prop} {w w' : World}
theorem Ents.move {es : List MapEntry} {m : List (κ × α)} (h : Ents k r ok w es m) (hm : ∀ b, ok b → b < w.heap.size → w'.heap[b]? = w.heap[b]?) : Ents k r ok w' es m := by
  induction h with
  | nil => exact .nil
  | cons h1 h2 _ ih => exact .cons h1 (r.move h2 hm) ih
theorem Ents.mono {es : List MapEntry} {m : List (κ × α)} (h : Ents k r ok w es m) (hm : ∀ b, ok b → b < w.heap.size → ok' b) : Ents k r ok' w es m := by
  induction h with
  | nil => exact .nil
  | cons h1 h2 _ ih => exact .cons h1 (r.mono h2 hm) ih
theorem Ents.length {es : List MapEntry} {m : List (κ × α)} (h : Ents k r ok w es m) : es.length = m.length := by
  induction h with
  | nil => rfl
  | cons _ _ _ ih => simp [ih]
theorem Ents.append {es fs : List MapEntry} {m n : List (κ × α)} (h : Ents k r ok w es m) (h' : Ents k r ok w fs n) : Ents k r ok w (es ++ fs) (m ++ n) := by
  induction h with
  | nil => exact h'
  | cons h1 h2 _ ih => exact .cons h1 h2 ih
theorem Ents.get {es : List MapEntry} {m : List (κ × α)} (h : Ents k r ok w es m) : ∀ (i : Nat) (x : κ × α), m[i]? = some x → ∃ e, es[i]? = some e ∧ e.key = k.enc x.1 ∧ r.V ok w x.2 e.val := by
  induction h with
  | nil => intro i x hx; simp at hx
  | cons h1 h2 _ ih =>
    intro i x hx
    cases i with
    | zero => simp at hx; subst hx; exact ⟨_, rfl, h1, h2⟩
    | succ i => simpa using ih i x (by simpa using hx)

/-- The value of a key (the first that is found). -/
def getM (k : KeyK P K κ) (m : List (κ × α)) (x : κ) : Option α := match m with
  | [] => none
  | p :: r => @ite _ (x = p.1) (k.dec x p.1) (some p.2) (getM k r x)
/-- A key's value is set: in its place, else at the end. -/
def setM (k : KeyK P K κ) (m : List (κ × α)) (x : κ) (v : α) : List (κ × α) := match m with
  | [] => [(x, v)]
  | p :: r => @ite _ (x = p.1) (k.dec x p.1) ((x, v) :: r) (p :: setM k r x v)
def delM (k : KeyK P K κ) (m : List (κ × α)) (x : κ) : List (κ × α) := match m with
  | [] => []
  | p :: r => @ite _ (x = p.1) (k.dec x p.1) r (p :: delM k r x)

theorem findNow_ents {es : List MapEntry} {m : List (κ × α)} (h : Ents k r ok w es m) (x : κ) : ∀ i, ∃ res, Instr.findNow k.d (k.enc x) es i = some res ∧
    ((res = none ∧ getM k m x = none) ∨ ∃ j e y, res = some (i + j, e.val) ∧ es[j]? = some e ∧ e.key = k.enc x ∧ getM k m x = some y ∧ r.V ok w y e.val ∧
      (∀ v (e' : MapEntry), e'.key = k.enc x → r.V ok w v e'.val → Ents k r ok w (es.set j e') (setM k m x v)) ∧ Ents k r ok w (es.eraseIdx j) (delM k m x) ∧ (setM k m x y).length = m.length) := by
  induction h with
  | nil => intro i; exact ⟨none, rfl, .inl ⟨rfl, rfl⟩⟩
  | cons h1 h2 h3 ih =>
    rename_i e es p ps
    intro i
    simp only [Instr.findNow, h1, k.same]
    by_cases hx : x = p.1
    · rw [@decide_eq_true _ (k.dec x p.1) hx]
      refine ⟨_, rfl, .inr ⟨0, e, p.2, rfl, rfl, by rw [h1, hx], by simp [getM, hx], h2, ?_, ?_, ?_⟩⟩
      · intro v e' he' hv
        simp only [List.set_cons_zero, setM]
        rw [if_pos hx]
        exact .cons he' hv h3
      · simp only [List.eraseIdx_cons_zero, delM]
        rw [if_pos hx]
        exact h3
      · simp only [setM]; rw [if_pos hx]; simp
    · rw [@decide_eq_false _ (k.dec x p.1) hx]
      obtain ⟨res, hr, hc⟩ := ih (i + 1)
      refine ⟨res, hr, ?_⟩
      rcases hc with ⟨h4, h5⟩ | ⟨j, e1, y, h4, h5, h6, h7, h8, h9, h10, h11⟩
      · exact .inl ⟨h4, by simp only [getM]; rw [if_neg hx]; exact h5⟩
      · refine .inr ⟨j + 1, e1, y, by rw [h4]; congr 2; omega, by simpa using h5, h6, by simp only [getM]; rw [if_neg hx]; exact h7, h8, ?_, ?_, ?_⟩
        · intro v e' he' hv
          simp only [List.set_cons_succ, setM]
          rw [if_neg hx]
          exact .cons h1 h2 (h9 v e' he' hv)
        · simp only [List.eraseIdx_cons_succ, delM]
          rw [if_neg hx]
          exact .cons h1 h2 h10
        · simp only [setM]; rw [if_neg hx]; simp [h11]
end

/-- Block b is a map that holds m. -/
def MapAt {P : Program} {K : TypeId} {κ α : Type} (k : KeyK P K κ) (r : VRep α) (ok : Nat → Prop) (w : World) (b : Nat) (m : List (κ × α)) : Prop :=
  ∃ es clock, w.heap[b]? = some (.map es clock) ∧ Ents k r ok w es.toList m ∧ (es.toList.map (·.born)).Nodup ∧ (∀ e ∈ es.toList, e.born < clock) ∧ (m.map (·.1)).Nodup

section
variable {P : Program} {K : TypeId} {κ α : Type} {k : KeyK P K κ} {r : VRep α} {ok ok' : Nat → Prop} {w w' : World} {b : Nat} {m : List (κ × α)}
theorem MapAt.lt (h : MapAt k r ok w b m) : b < w.heap.size := by
  obtain ⟨es, clock, h, _⟩ := h
  exact (Array.getElem?_eq_some_iff.1 h).1
theorem MapAt.move (h : MapAt k r ok w b m) (hb : w'.heap[b]? = w.heap[b]?) (hm : ∀ b, ok b → b < w.heap.size → w'.heap[b]? = w.heap[b]?) : MapAt k r ok w' b m := by
  obtain ⟨es, clock, h1, h2, h3⟩ := h
  exact ⟨es, clock, hb.trans h1, h2.move hm, h3⟩
theorem MapAt.step (h : MapAt k r ok w b m) {row : Option Nat} (hg : w.grownBy w' row) (hb : some b ≠ row) (hr : ∀ b, ok b → some b ≠ row) : MapAt k r ok w' b m :=
  h.move (hg.block b h.lt hb) fun c hc hl => hg.block c hl (hr c hc)
theorem MapAt.mono (h : MapAt k r ok w b m) (hm : ∀ b, ok b → b < w.heap.size → ok' b) : MapAt k r ok' w b m := by
  obtain ⟨es, clock, h1, h2, h3⟩ := h
  exact ⟨es, clock, h1, h2.mono hm, h3⟩
theorem MapAt.nodup (h : MapAt k r ok w b m) : (m.map (·.1)).Nodup := by obtain ⟨es, clock, _, _, _, _, h⟩ := h; exact h

theorem getM_none {x : κ} (h : getM k m x = none) : x ∉ m.map (·.1) := by
  induction m with
  | nil => simp
  | cons p r ih =>
    simp only [getM] at h
    by_cases hx : x = p.1
    · rw [if_pos hx] at h; cases h
    · rw [if_neg hx] at h
      simp only [List.map_cons, List.mem_cons, not_or]
      exact ⟨hx, ih h⟩
theorem setM_new {x : κ} {v : α} (h : getM k m x = none) : setM k m x v = m ++ [(x, v)] := by
  induction m with
  | nil => rfl
  | cons p r ih =>
    simp only [getM] at h
    by_cases hx : x = p.1
    · rw [if_pos hx] at h; cases h
    · rw [if_neg hx] at h
      simp only [setM]
      rw [if_neg hx, ih h]
      rfl
theorem setM_keys {x : κ} {v y : α} (h : getM k m x = some y) : (setM k m x v).map (·.1) = m.map (·.1) := by
  induction m with
  | nil => cases h
  | cons p r ih =>
    simp only [getM] at h
    by_cases hx : x = p.1
    · simp only [setM]; rw [if_pos hx]; simp [hx]
    · rw [if_neg hx] at h
      simp only [setM]; rw [if_neg hx]
      simp [ih h]
end

section
variable {P : Program} {n : Nat} {s : Sl} {ds : List Deferred} {w : World} {l : List SOp} {X : Cont} {pan : PCont} {d0 : Option Nat}
variable {K : TypeId} {κ α : Type} {k : KeyK P K κ} {r : VRep α} {ok : Nat → Prop}

/-- make(map[K]V) -/
theorem WL.mkMap (k : KeyK P K κ) (r : VRep α) (ok : Nat → Prop) {t : TypeId} {g : Option (Nat × Bool)} (hg : GOk s g)
    (h : ∀ w1, w.grownBy w1 none → MapAt k r ok w1 w.heap.size [] → w1.heap.size = w.heap.size + 1 → WL P n l X pan (push d0 (.map (some w.heap.size)) s) ds w1) : WL P n (⟨d0, .makeMap t none, g⟩ :: l) X pan s ds w :=
  WL.val hg (w' := w.alloc (.map #[] 0)) (fun q hq oo ho => by
    unfold execOp; rw [ho]; simp [Instr.makeMap, Sem.run_bind]) (h _ (gb_alloc _ _) ⟨#[], 0, heap_alloc_new w _, .nil, by simp, by simp, by simp⟩ (by simp))

theorem run_findKey {es : List MapEntry} {x : κ} {res : Option (Nat × Value)} (h : Instr.findNow k.d (k.enc x) es 0 = some res) : (Instr.findKey K (k.enc x) es).run P w = .ok res w := by
  simp only [Instr.findKey, Sem.run_bind, run_underlying k.hu, Result.andThen_ok, h]
  rfl

/-- m[x], of one or two values. -/
theorem run_look {t E : TypeId} {z : Value} {b : Nat} {m : List (κ × α)} (hu : P.underlying t = some (.map K E)) (hz : zeroOf P E = some z) (hm : MapAt k r ok w b m) (x : κ) (cok : Bool) :
    ∃ v bo, (Instr.lookup t (.map (some b)) (k.enc x) cok).run P w = .ok (if cok then .tuple #[v, .bool bo] else v) w ∧ ((getM k m x = none ∧ v = z ∧ bo = false) ∨ ∃ y, getM k m x = some y ∧ r.V ok w y v ∧ bo = true) := by
  obtain ⟨es, clock, hb, he, _⟩ := hm
  obtain ⟨res, hr, hc⟩ := findNow_ents he x 0
  have hf := run_findKey (w := w) hr
  have hget : (getObj b).run P w = .ok (.map es clock) w := by simp [getObj, Sem.run, hb]
  unfold zeroOf at hz
  split at hz
  · rename_i i hi
    have hzv : (zeroValue E).run P w = .ok z w := by simp [zeroValue, Sem.run_bind, typeInfo, hi, hz]
    rcases hc with ⟨rfl, h4⟩ | ⟨j, e1, y, rfl, h5, h6, h7, h8, _⟩
    · refine ⟨z, false, ?_, .inl ⟨h4, rfl, rfl⟩⟩
      simp only [Instr.lookup, Sem.run_bind, run_underlying hu, Result.andThen_ok, hget, Sem.run_pure, k.chk, hf, hzv]
    · refine ⟨e1.val, true, ?_, .inr ⟨y, h7, h8, rfl⟩⟩
      simp only [Instr.lookup, Sem.run_bind, run_underlying hu, Result.andThen_ok, hget, Sem.run_pure, k.chk, hf]
  · cases hz

theorem o_look {t E : TypeId} {z : Value} {b : Nat} {m : List (κ × α)} {x y : Operand} {q : κ} (hu : P.underlying t = some (.map K E)) (hz : zeroOf P E = some z) (hx : Wl.val s x = some (.map (some b))) (hy : Wl.val s y = some (k.enc q)) (hm : MapAt k r ok w b m) :
    ∃ v, Op1 P n s ds w (.lookup t x y false) v ∧ ((getM k m q = none ∧ v = z) ∨ ∃ u, getM k m q = some u ∧ r.V ok w u v) := by
  obtain ⟨v, bo, h1, h2⟩ := run_look hu hz hm q false
  refine ⟨v, fun a ha oo ho => ?_, ?_⟩
  · unfold execOp; rw [ho]
    simp only [ha.val hx, ha.val hy, Sem.run_bind, h1]
    rfl
  · rcases h2 with ⟨h3, h4, _⟩ | ⟨u, h3, h4, _⟩
    · exact .inl ⟨h3, h4⟩
    · exact .inr ⟨u, h3, h4⟩
theorem o_lookOk {t E : TypeId} {z : Value} {b : Nat} {m : List (κ × α)} {x y : Operand} {q : κ} (hu : P.underlying t = some (.map K E)) (hz : zeroOf P E = some z) (hx : Wl.val s x = some (.map (some b))) (hy : Wl.val s y = some (k.enc q)) (hm : MapAt k r ok w b m) :
    ∃ v bo, Op1 P n s ds w (.lookup t x y true) (.tuple #[v, .bool bo]) ∧ ((getM k m q = none ∧ v = z ∧ bo = false) ∨ ∃ u, getM k m q = some u ∧ r.V ok w u v ∧ bo = true) := by
  obtain ⟨v, bo, h1, h2⟩ := run_look hu hz hm q true
  refine ⟨v, bo, fun a ha oo ho => ?_, h2⟩
  unfold execOp; rw [ho]
  simp only [ha.val hx, ha.val hy, Sem.run_bind, h1]
  rfl

theorem setBlock_gb {w : World} {b : Nat} {o o' : Obj} (h : w.heap[b]? = some o) : w.grownBy { w with heap := w.heap.setIfInBounds b o' } (some b) ∧ ({ w with heap := w.heap.setIfInBounds b o' } : World).heap[b]? = some o' := by
  refine ⟨⟨rfl, rfl, rfl, by simp, fun c hc hne => ?_⟩, ?_⟩
  · show (w.heap.setIfInBounds b o')[c]? = _
    rw [Array.getElem?_setIfInBounds_ne (fun e => hne (by rw [e]))]
  · show (w.heap.setIfInBounds b o')[b]? = _
    have := (Array.getElem?_eq_some_iff.1 h).1
    simp [this]

/-- m[x] = v -/
theorem run_upd {t E : TypeId} {b : Nat} {m : List (κ × α)} (hu : P.underlying t = some (.map K E)) (hm : MapAt k r ok w b m) (x : κ) {y : α} {v : Value} (hv : r.V ok w y v) (hok : ¬ ok b) :
    ∃ w1, (Instr.mapUpdate t (.map (some b)) (k.enc x) v).run P w = .ok () w1 ∧ w.grownBy w1 (some b) ∧ w1.heap.size = w.heap.size ∧ MapAt k r ok w1 b (setM k m x y) := by
  obtain ⟨es, clock, hb, he, hn1, hn2, hn3⟩ := hm
  obtain ⟨res, hr, hc⟩ := findNow_ents he x 0
  have hf := run_findKey (w := w) hr
  have hget : (getObj b).run P w = .ok (.map es clock) w := by simp [getObj, Sem.run, hb]
  have hset : ∀ o', (setObj b o').run P w = .ok () { w with heap := w.heap.setIfInBounds b o' } := fun o' => by simp [setObj, Sem.run, hb]
  have hmv : ∀ o' c, ok c → c < w.heap.size → (w.heap.setIfInBounds b o')[c]? = w.heap[c]? := fun o' c hc _ => by
    rw [Array.getElem?_setIfInBounds_ne (fun e => hok (by rw [e]; exact hc))]
  rcases hc with ⟨rfl, h4⟩ | ⟨j, e1, y', rfl, h5, h6, h7, h8, h9, _, _⟩
  · obtain ⟨g1, g2⟩ := setBlock_gb (o' := .map (es.push { key := k.enc x, val := v, born := clock }) (clock + 1)) hb
    refine ⟨_, ?_, g1, by simp, ⟨_, _, g2, ?_, ?_, ?_, ?_⟩⟩
    · simp only [Instr.mapUpdate, Sem.run_bind, run_underlying hu, Result.andThen_ok, hget, k.chk, hf, hset]
    · rw [setM_new h4, Array.toList_push]
      exact (he.move (hmv _)).append (.cons rfl (r.move hv (hmv _)) .nil)
    · rw [Array.toList_push, List.map_append, List.nodup_append]
      refine ⟨hn1, by simp, fun c hc c' hc' => ?_⟩
      simp at hc'
      obtain ⟨e, he', rfl⟩ := List.mem_map.1 hc
      have := hn2 e he'
      omega
    · intro e he'
      rw [Array.toList_push, List.mem_append] at he'
      rcases he' with he' | he'
      · have := hn2 e he'; omega
      · simp at he'; subst he'; simp
    · rw [setM_new h4, List.map_append, List.nodup_append]
      refine ⟨hn3, by simp, fun c hc c' hc' => ?_⟩
      simp at hc'
      subst hc'
      intro e
      exact getM_none h4 (e ▸ hc)
  · have hj : j < es.size := by
      have := (List.getElem?_eq_some_iff.1 h5).1
      simpa using this
    have hej : es[j]? = some e1 := by simpa using h5
    have hkts : (Instr.keyThatStays (((es[0 + j]?).map (·.key)).getD (k.enc x)) (k.enc x)).run P w = .ok (k.enc x) w := by
      rw [Nat.zero_add, hej]
      simp only [Option.map_some, Option.getD_some, h6, Instr.keyThatStays, k.bits]
      rfl
    obtain ⟨g1, g2⟩ := setBlock_gb (o' := .map (es.modify (0 + j) fun e => { e with key := k.enc x, val := v }) clock) hb
    have hmod : (es.modify (0 + j) fun e => { e with key := k.enc x, val := v }).toList = es.toList.set j { e1 with key := k.enc x, val := v } := by
      rw [Nat.zero_add]
      apply List.ext_getElem?
      intro i
      rw [Array.getElem?_toList, Array.getElem?_modify, List.getElem?_set, Array.getElem?_toList]
      by_cases hij : j = i
      · subst hij; simp [hej, hj, (Array.getElem?_eq_some_iff.1 hej).2]
      · simp [hij]
    refine ⟨_, ?_, g1, by simp, ⟨_, _, g2, ?_, ?_, ?_, ?_⟩⟩
    · simp only [Instr.mapUpdate, Sem.run_bind, run_underlying hu, Result.andThen_ok, hget, k.chk, hf, hkts, hset]
    · rw [hmod]
      exact (h9 y { e1 with key := k.enc x, val := v } rfl hv).move (hmv _)
    · rw [hmod]
      have : (es.toList.set j { e1 with key := k.enc x, val := v }).map (·.born) = es.toList.map (·.born) := by
        apply List.ext_getElem?
        intro i
        rw [List.getElem?_map, List.getElem?_set, List.getElem?_map]
        by_cases hij : j = i
        · subst hij; simp [hej, hj, (Array.getElem?_eq_some_iff.1 hej).2]
        · simp [hij]
      rw [this]; exact hn1
    · intro e he'
      rw [hmod] at he'
      rcases List.mem_or_eq_of_mem_set he' with he' | he'
      · exact hn2 e he'
      · subst he'; exact hn2 e1 (List.mem_of_getElem? h5)
    · rw [setM_keys h7]; exact hn3

theorem WL.upd {t E : TypeId} {b : Nat} {m : List (κ × α)} {x y z : Operand} {q : κ} {u : α} {v : Value} {g : Option (Nat × Bool)} (hg : GOk s g) (hu : P.underlying t = some (.map K E)) (hx : Wl.val s x = some (.map (some b))) (hy : Wl.val s y = some (k.enc q)) (hz : Wl.val s z = some v) (hm : MapAt k r ok w b m) (hv : r.V ok w u v) (hok : ¬ ok b)
    (h : ∀ w1, w.grownBy w1 (some b) → w1.heap.size = w.heap.size → MapAt k r ok w1 b (setM k m q u) → WL P n l X pan (push d0 undef s) ds w1) : WL P n (⟨d0, .mapUpdate t x y z, g⟩ :: l) X pan s ds w := by
  obtain ⟨w1, hr, h1, h2, h3⟩ := run_upd hu hm q hv hok
  exact WL.skp hg (w' := w1) (fun a ha oo ho => by
    unfold execOp; rw [ho]
    simp only [ha.val hx, ha.val hy, ha.val hz, Sem.run_bind, hr]
    rfl) (h w1 h1 h2 h3)
end
end Go.Wl
