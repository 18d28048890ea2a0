/- A statement whose order is open: operations that only read may be taken first; the others come one by one. No condition. -/
import Derived.OrdersHeld
import Derived.Still
set_option linter.unusedVariables false
set_option linter.unusedSimpArgs false
namespace Go.Wl

section
variable {P : Program} {ops : Array Oper} {Q : Exit → Act → World → Prop} {md : Region.Mode} {S S0 : World → Prop} {D : Nat → Bool}

/-- Whatever order is picked from here on; behind each operation that D names, S holds. -/
def wpAnyJ (P : Program) (md : Region.Mode) (ops : Array Oper) (Q : Exit → Act → World → Prop) (D : Nat → Bool) (S : World → Prop) : Nat → Array Bool → Act → World → Prop
  | 0, listed, a, w => Region.ready md ops listed = [] ∧ Q .normal a w
  | fuel + 1, listed, a, w =>
    (Region.ready md ops listed = [] → Q .normal a w) ∧
    ∀ i ∈ Region.ready md ops listed, wpOp P ops Q i (fun a' w' => (D i = true → S w') ∧ wpAnyJ P md ops Q D S fuel (listed.setIfInBounds i true) a' w') a w

theorem wpAny_of_J : ∀ (fuel : Nat) (listed : Array Bool) (a : Act) (w : World), wpAnyJ P md ops Q D S fuel listed a w → wpAny P md ops Q fuel listed a w
  | 0, _, _, _, h => h
  | fuel + 1, _, _, _, h => ⟨h.1, fun i hi => wpOp_mono (fun a' w' h' => wpAny_of_J fuel _ a' w' h'.2) (h.2 i hi)⟩

/-- What was listed waits for nothing that isn't. -/
def Down (md : Region.Mode) (ops : Array Oper) (listed : Array Bool) : Prop := ∀ k o, ops[k]? = some o → listed.getD k false = true → ∀ e ∈ o.after, Region.binds md e = true → listed.getD e.on false = true

/-- Does j wait for i, directly or through others? -/
def depB (md : Region.Mode) (ops : Array Oper) : Nat → Nat → Nat → Bool
  | 0, _, _ => false
  | f + 1, j, i => match ops[j]? with
    | some o => o.after.any fun e => Region.binds md e && (Nat.beq e.on i || depB md ops f e.on i)
    | none => false

theorem depB_listed {listed : Array Bool} (hd : Down md ops listed) : ∀ (f j i : Nat), depB md ops f j i = true → (∀ o, ops[j]? = some o → ∀ e ∈ o.after, Region.binds md e = true → listed.getD e.on false = true) → listed.getD i false = true
  | 0, j, i, h, _ => by cases h
  | f + 1, j, i, h, hl => by
    simp only [depB] at h
    split at h
    · rename_i o ho
      rw [Array.any_eq_true'] at h
      obtain ⟨e, he, hb⟩ := h
      simp only [Bool.and_eq_true, Bool.or_eq_true] at hb
      obtain ⟨hb1, hb2⟩ := hb
      have h1 := hl o ho e he hb1
      rcases hb2 with hb2 | hb2
      · rw [Nat.eq_of_beq_eq_true hb2] at h1
        exact h1
      · exact depB_listed hd f e.on i hb2 fun o' ho' e' he' hb' => hd e.on o' ho' h1 e' he' hb'
    · cases h

theorem getD_set (listed : Array Bool) (i k : Nat) (d : Bool) : (listed.setIfInBounds i true).getD k d = if i = k ∧ i < listed.size then true else listed.getD k d := by
  simp only [Array.getD_eq_getD_getElem?, Array.getElem?_setIfInBounds]
  by_cases h : i = k
  · subst h
    by_cases h2 : i < listed.size
    · simp [h2]
    · simp [h2]
  · simp [h]

theorem Down.set {listed : Array Bool} (hd : Down md ops listed) {i : Nat} (hi : i ∈ Region.ready md ops listed) : Down md ops (listed.setIfInBounds i true) := by
  intro k o ho hk e he hb
  obtain ⟨h1, o', ho', hall⟩ := mem_ready.1 hi
  have hmono : ∀ x, listed.getD x false = true → (listed.setIfInBounds i true).getD x false = true := fun x hx => by
    rw [getD_set]; split
    · rfl
    · exact hx
  rw [getD_set] at hk
  split at hk
  · rename_i h
    obtain ⟨rfl, _⟩ := h
    rw [ho] at ho'
    cases ho'
    exact hmono _ (hall e he hb)
  · exact hmono _ (hd k o ho hk e he hb)

/-- An operation that only reads may be taken first. -/
theorem wpAnyJ_first {i : Nat} {oi : Oper} {v : Value} (hi : ops[i]? = some oi) (hsel : ∀ (j : Nat) (o : Oper) cs b, ops[j]? = some o → o.op ≠ .select cs b)
    (hQ : ∀ c a w, Q (.panic c) (a.put oi.dst v) w → Q (.panic c) a w)
    (hdep : ∀ j, j ≠ i → D j = false → ∃ f, depB md ops f j i = true) :
    ∀ (fuel : Nat) (listed : Array Bool) (a : Act) (w : World), Down md ops listed →
      (∀ j oj, ops[j]? = some oj → j ≠ i → listed.getD j true = false → (∀ e ∈ oj.after, Region.binds md e = true → e.on ≠ i) → oi.apart ops oj = true) →
      i ∈ Region.ready md ops listed → YieldsIf P ops S oi v a → S w →
      wpAnyJ P md ops Q D S fuel (listed.setIfInBounds i true) (a.put oi.dst v) w → wpAnyJ P md ops Q D S (fuel + 1) listed a w := by
  intro fuel
  induction fuel with
  | zero =>
    intro listed a w _ _ hr hy hS H
    refine ⟨fun h => (by rw [h] at hr; cases hr), fun j hj => ?_⟩
    by_cases hji : j = i
    · subst hji; exact hy.wpOp hi hS ⟨fun _ => hS, H⟩
    · have := ready_mono hj hji
      rw [H.1] at this
      cases this
  | succ fuel ih =>
    intro listed a w hd hfree hr hy hS H
    refine ⟨fun h => (by rw [h] at hr; cases hr), fun j hj => ?_⟩
    by_cases hji : j = i
    · subst hji; exact hy.wpOp hi hS ⟨fun _ => hS, H⟩
    · have h1 := H.2 j (ready_mono hj hji)
      obtain ⟨hjun, oj, hoj, hall⟩ := mem_ready.1 hj
      have hiun : listed.getD i false = false := by
        have h0 := (mem_ready.1 hr).1
        rcases Nat.lt_or_ge i listed.size with h' | h'
        · simp [h'] at h0 ⊢; exact h0
        · simp [Array.getElem?_eq_none h']
      have hnot : ∀ e ∈ oj.after, Region.binds md e = true → e.on ≠ i := fun e he hb heq => by
        have h1 := hall e he hb
        rw [heq, hiun] at h1
        cases h1
      have h2 := wpOp_putIf (S := S) hoj (hfree j oj hoj hji hjun hnot) (fun cs b => hsel i oi cs b hi) (fun cs b => hsel j oj cs b hoj) hQ hy h1
      have hfree' : ∀ k ok, ops[k]? = some ok → k ≠ i → (listed.setIfInBounds j true).getD k true = false →
          (∀ e ∈ ok.after, Region.binds md e = true → e.on ≠ i) → oi.apart ops ok = true := fun k ok hk hki hun hno => by
        refine hfree k ok hk hki ?_ hno
        by_cases hjk : j = k
        · subst hjk; exact hjun
        · rw [getD_set_ne true hjk] at hun; exact hun
      have hSj : ∀ w', (D j = true → S w') → S w' := by
        intro w' hw'
        cases hDj : D j with
        | true => exact hw' hDj
        | false =>
          obtain ⟨f, hf⟩ := hdep j hji hDj
          have := depB_listed hd f j i hf fun o ho e he hb => by rw [hoj] at ho; cases ho; exact hall e he hb
          rw [hiun] at this
          cases this
      refine wpOp_mono (fun a' w' h3 => ⟨h3.2.1, ?_⟩) h2
      refine ih (listed.setIfInBounds j true) a' w' (hd.set hj) hfree' (ready_mono hr (Ne.symm hji)) h3.1 (hSj w' h3.2.1) ?_
      rw [Array.setIfInBounds_comm _ _ hji]
      exact h3.2.2

/-! ### An order in which to take them -/
/-- The kinds of operations: 0 reckons or reads only, 1 does more. -/
def kindOf : Op → Nat
  | .move _ | .assign _ | .pick .. | .build .. | .load .. | .nilCheck _ | .binOp .. | .unOp .. | .makeInterface .. | .makeFunc .. | .slice .. | .fieldAddr .. | .field .. | .indexAddr .. | .index .. | .lookup .. | .entry _ | .typeAssert .. | .extract .. => 0
  | .convert .. => 1
  | .call { callee := .builtin .len, .. } => 0
  | .call { callee := .builtin .cap, .. } => 0
  | .call { callee := .builtin .min, .. } => 0
  | .call { callee := .builtin .max, .. } => 0
  | _ => 1

/-- The next one to take: the first that only reads and is free; else the only one that may come up. -/
def nextOp (ops : Array Oper) (listed : Array Bool) : Option (Nat × Bool) :=
  match (Region.ready .any ops listed).find? (fun i => match ops[i]? with
      | some o => Nat.beq (kindOf o.op) 0 && Region.free .any ops listed i
      | none => false) with
  | some i => some (i, true)
  | none => match Region.ready .any ops listed with
    | [i] => some (i, false)
    | _ => none

def mixOrd (ops : Array Oper) : Nat → Array Bool → Option (List (Nat × Bool))
  | 0, listed => if (Region.ready .any ops listed).isEmpty then some [] else none
  | f + 1, listed => match nextOp ops listed with
    | some (i, q) => match mixOrd ops f (listed.setIfInBounds i true) with
      | some l => some ((i, q) :: l)
      | none => none
    | none => none

/-- Does an operation wait for all those that only read? Behind it nothing need hold. -/
def lateB (ops : Array Oper) (ord : List (Nat × Bool)) (j : Nat) : Bool := ord.all fun p => !p.2 || (Nat.beq p.1 j == false && depB .any ops ops.size j p.1)

/-- The walk of such an order. -/
def wpMix (P : Program) (ops : Array Oper) (Q : Exit → Act → World → Prop) (late : Nat → Bool) (S : World → Prop) : List (Nat × Bool) → Act → World → Prop
  | [], a, w => Q .normal a w
  | (i, true) :: r, a, w => ∃ o v, ops[i]? = some o ∧ YieldsIf P ops S o v a ∧ S w ∧ (∀ c a' w, Q (.panic c) (a'.put o.dst v) w → Q (.panic c) a' w) ∧ wpMix P ops Q late S r (a.put o.dst v) w
  | (i, false) :: r, a, w => wpOp P ops Q i (fun a' w' => (late i = false → S w') ∧ wpMix P ops Q late S r a' w') a w

theorem free_of_find {listed : Array Bool} {i : Nat} (h : nextOp ops listed = some (i, true)) : i ∈ Region.ready .any ops listed ∧ Region.free .any ops listed i = true := by
  unfold nextOp at h
  split at h
  · rename_i j hj
    cases h
    have h1 := List.mem_of_find?_eq_some hj
    have h2 := List.find?_some hj
    refine ⟨h1, ?_⟩
    split at h2
    · simp only [Bool.and_eq_true] at h2; exact h2.2
    · cases h2
  · split at h <;> cases h
theorem sole_of_next {listed : Array Bool} {i : Nat} (h : nextOp ops listed = some (i, false)) : Region.ready .any ops listed = [i] := by
  unfold nextOp at h
  split at h
  · cases h
  · split at h
    · rename_i h1; cases h; exact h1
    · cases h

theorem wpAnyJ_of_mix (hs : Region.noSelect ops = true) (late : Nat → Bool) (full : List (Nat × Bool)) (hlate : ∀ j, late j = true → ∀ p ∈ full, p.2 = true → p.1 ≠ j → ∃ f, depB .any ops f j p.1 = true) :
    ∀ (f : Nat) (listed : Array Bool) (ord : List (Nat × Bool)) (a : Act) (w : World), mixOrd ops f listed = some ord → (∀ p ∈ ord, p ∈ full) → Down .any ops listed → wpMix P ops Q late S ord a w → wpAnyJ P .any ops Q (fun j => !late j) S f listed a w
  | 0, listed, ord, a, w, ho, _, _, h => by
    simp only [mixOrd] at ho
    split at ho
    · rename_i he
      cases ho
      exact ⟨by simpa using he, h⟩
    · cases ho
  | f + 1, listed, ord, a, w, ho, hfull, hd, h => by
    simp only [mixOrd] at ho
    split at ho
    · rename_i i q hn
      split at ho
      · rename_i l hl
        cases ho
        cases q with
        | true =>
          obtain ⟨o, v, hi, hy, hS, hQ, hr⟩ := h
          obtain ⟨h1, h2⟩ := free_of_find hn
          refine wpAnyJ_first hi (Region.noSelect_spec hs) hQ (fun j hj hD => hlate j (by simpa using hD) _ (hfull _ List.mem_cons_self) rfl (Ne.symm hj)) f listed a w hd (Region.free_spec hi h2) h1 hy hS ?_
          exact wpAnyJ_of_mix hs late full hlate f _ l _ w hl (fun p hp => hfull p (List.mem_cons_of_mem _ hp)) (hd.set h1) hr
        | false =>
          have h1 := sole_of_next hn
          refine ⟨fun h0 => (by rw [h1] at h0; cases h0), fun j hj => ?_⟩
          have hd' := hd.set hj
          rw [h1] at hj
          obtain rfl : j = i := by simpa using hj
          refine wpOp_mono (fun a' w' h3 => ⟨fun hD => h3.1 (by simpa using hD), ?_⟩) h
          exact wpAnyJ_of_mix hs late full hlate f _ l _ w' hl (fun p hp => hfull p (List.mem_cons_of_mem _ hp)) hd' h3.2
      · cases ho
    · cases ho

theorem Down.start (n : Nat) : Down md ops (Array.replicate n false) := fun k o _ hk => by
  simp only [Array.getD_eq_getD_getElem?, Array.getElem?_replicate] at hk
  split at hk <;> cases hk

/-- A region that draws its order, by one walk. -/
theorem wp_region_mix {id : Nat} {a : Act} {w : World} (hm : P.follows .mixedOrders = true) (hs : Region.noSelect ops = true) {ord : List (Nat × Bool)} (ho : mixOrd ops ops.size (Array.replicate ops.size false) = some ord)
    (h : wpMix P ops Q (lateB ops ord) S ord a { w with drawn := w.drawn + 1 }) : (Code.region id ops true).wp P Q a w := by
  refine wp_region_any hm (wpAny_of_J (D := fun j => !lateB ops ord j) (S := S) _ _ _ _ ?_)
  refine wpAnyJ_of_mix hs (lateB ops ord) ord (fun j hj p hp hq hne => ?_) _ _ ord a _ ho (fun _ h => h) (Down.start _) h
  unfold lateB at hj
  rw [List.all_eq_true] at hj
  have := hj p hp
  rw [hq] at this
  simp only [Bool.not_true, Bool.false_or, Bool.and_eq_true] at this
  exact ⟨_, this.2⟩
end
end Go.Wl
