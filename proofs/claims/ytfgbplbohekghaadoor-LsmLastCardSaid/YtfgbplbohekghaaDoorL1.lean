/- A small calculus over the walk's rules: a frame is a list of what is known of its slots; a piece of code is told by its short form. No condition. -/
import Derived.WalkKit
import Derived.Test.YtfgbplbohekghaaDoorL0
import Derived.KernelRfl
import Derived.Deep.QuietTactic
set_option linter.unusedVariables false
set_option linter.unusedSimpArgs false
namespace Go.Wl

abbrev Sl := List (Nat × Value)

def find (t : Nat) : Sl → Option Value
  | [] => none
  | p :: r => cond (Nat.beq p.1 t) (some p.2) (find t r)

/-- What is known of a frame. -/
structure Fr (n : Nat) (s : Sl) (ds : List Deferred) (a : Act) : Prop where
  size : a.tmps.size = n
  defers : a.defers = ds
  at_ : ∀ t v, find t s = some v → a.tmps[t]? = some v

theorem find_cons (d t : Nat) (v : Value) (s : Sl) : find t ((d, v) :: s) = if d = t then some v else find t s := by
  show cond (Nat.beq d t) (some v) (find t s) = _
  by_cases h : d = t
  · subst h; simp
  · have : Nat.beq d t = false := by
      cases hb : Nat.beq d t
      · rfl
      · exact absurd (Nat.eq_of_beq_eq_true hb) h
    rw [this]; simp [h]

theorem Fr.put {n : Nat} {s : Sl} {ds : List Deferred} {a : Act} (h : Fr n s ds a) {d : Nat} (hd : d < n) (v : Value) : Fr n ((d, v) :: s) ds (a.put (some d) v) := by
  obtain ⟨h1, h2, h3⟩ := h
  refine ⟨by simpa [Act.put] using h1, by simpa [Act.put] using h2, fun t u ht => ?_⟩
  rw [find_cons] at ht
  simp only [Act.put, Array.getElem?_setIfInBounds]
  by_cases e : d = t
  · subst e
    simp only [if_true] at ht ⊢
    rw [if_pos (by omega)]
    exact ht
  · rw [if_neg e] at ht ⊢
    exact h3 t u ht

theorem Fr.putNone {n : Nat} {s : Sl} {ds : List Deferred} {a : Act} (h : Fr n s ds a) (v : Value) : Fr n s ds (a.put none v) := h

/-- s' knows no more than s. -/
def Sub (s' s : Sl) : Prop := ∀ t v, find t s' = some v → find t s = some v
theorem Sub.refl (s : Sl) : Sub s s := fun _ _ h => h
theorem Sub.nil (s : Sl) : Sub [] s := fun _ _ h => by cases h
theorem Sub.cons {d : Nat} {v : Value} {s' s : Sl} (h : find d s = some v) (k : Sub s' s) : Sub ((d, v) :: s') s := fun t u ht => by
  rw [find_cons] at ht
  by_cases e : d = t
  · subst e; simp only [if_true] at ht; rw [h, ht]
  · rw [if_neg e] at ht; exact k t u ht
theorem Fr.sub {n : Nat} {s s' : Sl} {ds : List Deferred} {a : Act} (h : Fr n s ds a) (k : Sub s' s) : Fr n s' ds a := ⟨h.size, h.defers, fun t v ht => h.at_ t v (k t v ht)⟩

def val (s : Sl) : Operand → Option Value
  | .tmp t => find t s
  | .const v => some v
  | .global g => some (.pointer (some ⟨g, 0, none⟩))
  | .func f => some (.func (.func f) #[] #[])

theorem Fr.val {n : Nat} {s : Sl} {ds : List Deferred} {a : Act} (h : Fr n s ds a) {x : Operand} {v : Value} (hx : val s x = some v) : a.eval x = v := by
  cases x with
  | tmp t =>
    have := h.at_ t v hx
    simp [Act.eval, this]
  | const u => exact Option.some.inj hx
  | global g => exact Option.some.inj hx
  | func f => exact Option.some.inj hx

def vals (s : Sl) : List Operand → Option (List Value)
  | [] => some []
  | x :: r => match val s x, vals s r with
    | some v, some l => some (v :: l)
    | _, _ => none

theorem Fr.vals {n : Nat} {s : Sl} {ds : List Deferred} {a : Act} (h : Fr n s ds a) : ∀ {xs : List Operand} {vs : List Value}, Wl.vals s xs = some vs → xs.map a.eval = vs
  | [], vs, hx => by cases hx; rfl
  | x :: r, vs, hx => by
    simp only [Wl.vals] at hx
    split at hx
    · rename_i v l hv hl
      cases hx
      simp [h.val hv, h.vals hl]
    · cases hx

/-! ### The short form of code -/
structure SOp where
  dst : Option Nat
  op : Op
  guard : Option (Nat × Bool)

def simpOp (n : Nat) (ops : Array Oper) (o : Oper) : Option SOp :=
  cond (match o.dst with | none => true | some d => Nat.blt d n)
    (match o.guard with
      | none => some ⟨o.dst, o.op, none⟩
      | some (j, want) => match ops[j]? with
        | some oj => match oj.dst with
          | some d => some ⟨o.dst, o.op, some (d, want)⟩
          | none => none
        | none => none)
    none

def simpOps (n : Nat) (ops : Array Oper) : List Oper → Option (List SOp)
  | [] => some []
  | o :: r => match simpOp n ops o, simpOps n ops r with
    | some s, some l => some (s :: l)
    | _, _ => none

/-- The short form of a region that draws its order, as it is walked: kinds 0: it only reads; 1: it does more; 2: it comes last. -/
def simpMix (n : Nat) (ops : Array Oper) (late : Nat → Bool) : List (Nat × Bool) → Option (List SOp × List Nat)
  | [] => some ([], [])
  | (i, q) :: r => match ops[i]? with
    | some o => match simpOp n ops o, simpMix n ops late r with
      | some s, some (l, k) => some (s :: l, (cond q 0 (cond (late i) 2 1)) :: k)
      | _, _ => none
    | none => none

/-- The orders in which a region's operations may come, as it is walked: those that only read are taken first; of the others each one that may come up. -/
inductive Tr where
  | fin
  | stop
  | quiet (o : SOp) (t : Tr)
  | alt (o : SOp) (t r : Tr)
def quietOf (ops : Array Oper) (listed : Array Bool) : Option Nat := (Region.ready .any ops listed).find? (fun i => match ops[i]? with
  | some o => Nat.beq (kindOf o.op) 0 && Region.free .any ops listed i
  | none => false)
def altsOf (g : Nat → Option (SOp × Tr)) : List Nat → Option Tr
  | [] => some .stop
  | i :: r => match g i, altsOf g r with
    | some (o, t), some r => some (.alt o t r)
    | _, _ => none
def treeOf (n : Nat) (ops : Array Oper) : Nat → Array Bool → Option Tr
  | 0, listed => match Region.ready .any ops listed with
    | [] => some .fin
    | _ => none
  | f + 1, listed => match quietOf ops listed with
    | some i => match ops[i]? with
      | some o => match simpOp n ops o, treeOf n ops f (listed.setIfInBounds i true) with
        | some s, some t => some (.quiet s t)
        | _, _ => none
      | none => none
    | none => match Region.ready .any ops listed with
      | [] => some .fin
      | l => altsOf (fun i => match ops[i]? with
        | some o => match simpOp n ops o, treeOf n ops f (listed.setIfInBounds i true) with
          | some s, some t => some (s, t)
          | _, _ => none
        | none => none) l

inductive SC where
  | skip
  | region (draw : Bool) (l : List SOp)
  | seq (a b : SC)
  | cond (c : Operand) (x y : SC)
  | block (id : Nat) (c : SC)
  | loop (c : SC)
  | exit (id : Nat)
  | ret
  | scope (c : SC)
  | label (l : Nat)
  | mix (l : List SOp) (k : List Nat)
  | tree (t : Tr)
  | raw (c : Code)

def simp? (n : Nat) : Code → Option SC
  | .skip => some .skip
  | .region id ops draw => match draw with
    | false => match simpOps n ops ops.toList with
      | some l => some (.region false l)
      | none => none
    | true => match mixOrd ops ops.size (Array.replicate ops.size false) with
      | some ord => cond (Region.noSelect ops)
          (match simpMix n ops (lateB ops ord) ord with
            | some (l, k) => some (.mix l k)
            | none => none)
          none
      | none => cond (Region.noSelect ops)
          (match treeOf n ops ops.size (Array.replicate ops.size false) with
            | some t => some (.tree t)
            | none => some (.raw (.region id ops true)))
          (some (.raw (.region id ops true)))
  | .seq a b => match simp? n a, simp? n b with
    | some x, some y => some (.seq x y)
    | _, _ => none
  | .cond c a b => match simp? n a, simp? n b with
    | some x, some y => some (.cond c x y)
    | _, _ => none
  | .block id c => match simp? n c with
    | some x => some (.block id x)
    | none => none
  | .loop c => match simp? n c with
    | some x => some (.loop x)
    | none => none
  | .exit id => some (.exit id)
  | .ret => some .ret
  | .label l => some (.label l)
  | c => some (.raw c)

abbrev Cont := Sl → List Deferred → World → Prop
abbrev PCont := List PanicEntry → List Deferred → World → Prop
def brkOf (id : Nat) : List (Nat × Cont) → Option Cont
  | [] => none
  | p :: r => cond (Nat.beq p.1 id) (some p.2) (brkOf id r)

/-- What is asked behind a piece of code. -/
def Q (n : Nat) (nor : Cont) (brk : List (Nat × Cont)) (ret : Cont) (pan : PCont) : Exit → Act → World → Prop
  | .normal, a, w => ∃ s ds, Fr n s ds a ∧ nor s ds w
  | .exit id, a, w => ∃ s ds, Fr n s ds a ∧ ∃ f, brkOf id brk = some f ∧ f s ds w
  | .ret, a, w => ∃ s ds, Fr n s ds a ∧ ret s ds w
  | .panic ch, a, w => a.tmps.size = n ∧ pan ch a.defers w
  | _, _, _ => False

section
variable (P : Program) (n : Nat)

def WC (c : SC) (nor : Cont) (brk : List (Nat × Cont)) (ret : Cont) (pan : PCont) (s : Sl) (ds : List Deferred) (w : World) : Prop :=
  ∀ code, simp? n code = some c → ∀ a, Fr n s ds a → code.wp P (Q n nor brk ret pan) a w

/-- The short form of a region's operations. -/
inductive Like (ops : Array Oper) : List Oper → List SOp → Prop
  | nil : Like ops [] []
  | cons {o r s l} : simpOp n ops o = some s → Like ops r l → Like ops (o :: r) (s :: l)

theorem Like.of {ops : Array Oper} : ∀ {r : List Oper} {l : List SOp}, simpOps n ops r = some l → Like n ops r l
  | [], l, h => by cases h; exact .nil
  | o :: r, l, h => by
    simp only [simpOps] at h
    split at h
    · rename_i s l' hs hl
      cases h
      exact .cons hs (Like.of hl)
    · cases h

/-- A list of operations, carried out in their order. X: what is asked at its end; pan: at a panic. -/
def WL (l : List SOp) (X : Cont) (pan : PCont) (s : Sl) (ds : List Deferred) (w : World) : Prop :=
  ∀ ops r, Like n ops r l → ∀ QQ : Exit → Act → World → Prop, (∀ a w s ds, Fr n s ds a → X s ds w → QQ .normal a w) → (∀ ch a w s ds, Fr n s ds a → pan ch ds w → QQ (.panic ch) a w) →
    ∀ a, Fr n s ds a → wpList P ops QQ r a w
end

section
variable {P : Program} {n : Nat} {nor ret : Cont} {brk : List (Nat × Cont)} {pan : PCont} {s s' : Sl} {ds : List Deferred} {w : World} {l : List SOp} {X : Cont}

theorem simpOp_spec {ops : Array Oper} {o : Oper} {so : SOp} (h : simpOp n ops o = some so) :
    (∀ d, o.dst = some d → d < n) ∧ so.dst = o.dst ∧ so.op = o.op ∧
      ((o.guard = none ∧ so.guard = none) ∨ ∃ j want oj d, o.guard = some (j, want) ∧ ops[j]? = some oj ∧ oj.dst = some d ∧ so.guard = some (d, want)) := by
  unfold simpOp at h
  cases hd : o.dst with
  | none =>
    rw [hd] at h
    simp only [cond_true] at h
    cases hg : o.guard with
    | none => rw [hg] at h; cases h; exact ⟨fun _ h => (by cases h), rfl, rfl, .inl ⟨rfl, rfl⟩⟩
    | some p =>
      obtain ⟨j, want⟩ := p
      rw [hg] at h
      simp only at h
      split at h
      · rename_i oj hj
        split at h
        · rename_i d hdj
          cases h
          exact ⟨fun _ h => (by cases h), rfl, rfl, .inr ⟨j, want, oj, d, rfl, hj, hdj, rfl⟩⟩
        · cases h
      · cases h
  | some d0 =>
    rw [hd] at h
    simp only at h
    cases hb : Nat.blt d0 n with
    | false => rw [hb] at h; cases h
    | true =>
      rw [hb] at h
      simp only [cond_true] at h
      have hlt : d0 < n := by simpa [Nat.blt_eq] using hb
      cases hg : o.guard with
      | none => rw [hg] at h; cases h; exact ⟨fun _ h => (by cases h; exact hlt), rfl, rfl, .inl ⟨rfl, rfl⟩⟩
      | some p =>
        obtain ⟨j, want⟩ := p
        rw [hg] at h
        simp only at h
        split at h
        · rename_i oj hj
          split at h
          · rename_i d hdj
            cases h
            exact ⟨fun _ h => (by cases h; exact hlt), rfl, rfl, .inr ⟨j, want, oj, d, rfl, hj, hdj, rfl⟩⟩
          · cases h
        · cases h

def push (dst : Option Nat) (v : Value) (s : Sl) : Sl := match dst with | some d => (d, v) :: s | none => s

theorem Fr.putO {a : Act} (h : Fr n s ds a) {dst : Option Nat} (hd : ∀ d, dst = some d → d < n) (v : Value) : Fr n (push dst v s) ds (a.put dst v) := by
  cases dst with
  | none => exact h.putNone v
  | some d => exact h.put (hd d rfl) v

/-! ### Operations -/
theorem WL.nil (h : X s ds w) : WL P n [] X pan s ds w := by
  intro ops r hl QQ hn hp a ha
  cases hl
  exact wpList_nil (hn a w s ds ha h)

/-- One operation that is carried out: what it comes to, by its run. -/
theorem WL.run {o : SOp} (hg : o.guard = none ∨ ∃ d want, o.guard = some (d, want) ∧ find d s = some (.bool want))
    (h : ∀ a, Fr n s ds a → ∀ (oo : Oper), oo.op = o.op → ∀ (Kt : Act → World → Prop) (QQ : Exit → Act → World → Prop),
      (∀ v w', WL P n l X pan (push o.dst v s) ds w' → ∀ a', Fr n (push o.dst v s) ds a' → Kt a' w') →
      (∀ ch a w s ds, Fr n s ds a → pan ch ds w → QQ (.panic ch) a w) → (∀ d, oo.dst = some d → d < n) → oo.dst = o.dst →
      oo.wp P a w Kt QQ) : WL P n (o :: l) X pan s ds w := by
  intro ops r hl QQ hn hp a ha
  cases hl with
  | cons hs hr =>
    rename_i oo r
    obtain ⟨h1, h2, h3, h4⟩ := simpOp_spec hs
    refine wpList_step fun K hK => ?_
    have hw : Region.wanted oo (yielded ops a.tmps) = true := by
      rcases h4 with ⟨hg1, hg2⟩ | ⟨j, want, oj, d, hg1, hj, hdj, hg2⟩
      · simp [Region.wanted, hg1]
      · rcases hg with hg | ⟨d', want', hg, hf⟩
        · rw [hg2] at hg; cases hg
        · rw [hg2] at hg
          cases hg
          have := ha.at_ _ _ hf
          simp [Region.wanted, hg1, yielded, hj, hdj, this]
    rw [if_pos hw]
    refine h a ha oo h3.symm K QQ (fun v w' hv a' ha' => hK a' w' (hv ops r hr QQ hn hp a' ha')) hp h1 h2.symm

/-- What a run of an operation comes to, when it gives a value. -/
theorem WL.value {o : SOp} {v : Value} {w' : World} (hg : o.guard = none ∨ ∃ d want, o.guard = some (d, want) ∧ find d s = some (.bool want))
    (hr : ∀ a, Fr n s ds a → ∀ oo : Oper, oo.op = o.op → (execOp a.eval oo).run P w = .ok (.value v) w')
    (h : WL P n l X pan (push o.dst v s) ds w') : WL P n (o :: l) X pan s ds w := by
  refine WL.run hg fun a ha oo ho Kt QQ hK hp h1 h2 => ?_
  unfold Oper.wp
  rw [hr a ha oo ho]
  refine hK v w' h _ ?_
  have := ha.putO h1 v
  rw [h2] at this
  rw [h2]
  exact this

theorem WL.skips {o : SOp} {w' : World} (hg : o.guard = none ∨ ∃ d want, o.guard = some (d, want) ∧ find d s = some (.bool want))
    (hr : ∀ a, Fr n s ds a → ∀ oo : Oper, oo.op = o.op → (execOp a.eval oo).run P w = .ok .skip w')
    (h : WL P n l X pan (push o.dst undef s) ds w') : WL P n (o :: l) X pan s ds w := by
  refine WL.run hg fun a ha oo ho Kt QQ hK hp h1 h2 => ?_
  unfold Oper.wp
  rw [hr a ha oo ho]
  refine hK undef w' h _ ?_
  have := ha.putO h1 undef
  rw [h2] at this
  rw [h2]
  exact this

/-- An operation whose guard says no. -/
theorem WL.off {d0 : Option Nat} {op : Op} {d : Nat} {want b : Bool} (hf : find d s = some (.bool b)) (hb : b = !want) (h : WL P n l X pan (push d0 undef s) ds w) : WL P n (⟨d0, op, some (d, want)⟩ :: l) X pan s ds w := by
  intro ops r hl QQ hn hp a ha
  cases hl with
  | cons hs hr =>
    rename_i oo r
    obtain ⟨h1, h2, h3, h4⟩ := simpOp_spec hs
    refine wpList_step fun K hK => ?_
    have hw : Region.wanted oo (yielded ops a.tmps) = false := by
      rcases h4 with ⟨hg1, hg2⟩ | ⟨j, want', oj, d', hg1, hj, hdj, hg2⟩
      · cases hg2
      · cases hg2
        have := ha.at_ _ _ hf
        subst hb
        simp [Region.wanted, hg1, yielded, hj, hdj, this]
    rw [if_neg (by rw [hw]; simp)]
    refine hK _ _ (h ops r hr QQ hn hp _ ?_)
    have h5 := ha.putO h1 undef
    simp only at h2
    rw [← h2] at h5 ⊢
    exact h5
theorem WL.offT {d0 : Option Nat} {op : Op} {d : Nat} (hf : find d s = some (.bool false)) (h : WL P n l X pan (push d0 undef s) ds w) : WL P n (⟨d0, op, some (d, true)⟩ :: l) X pan s ds w := WL.off hf rfl h
theorem WL.offF {d0 : Option Nat} {op : Op} {d : Nat} (hf : find d s = some (.bool true)) (h : WL P n l X pan (push d0 undef s) ds w) : WL P n (⟨d0, op, some (d, false)⟩ :: l) X pan s ds w := WL.off hf rfl h

/-! ### Operations that only reckon -/
def bin (op : BinOp) : Value → Value → Option Value
  | .int k a, .int k' b => cond (decide (k = k')) (match op with
    | .eql => some (.bool (decide (a = b)))
    | .neq => some (.bool (!decide (a = b)))
    | .lss => some (.bool (decide (a < b)))
    | .leq => some (.bool (decide (a ≤ b)))
    | .gtr => some (.bool (decide (b < a)))
    | .geq => some (.bool (decide (b ≤ a)))
    | _ => none) none
  | .string a, .string b => match op with
    | .eql => some (.bool (decide (a = b)))
    | .neq => some (.bool (!decide (a = b)))
    | .lss => some (.bool (Op.bytesLess a.toList b.toList))
    | .geq => some (.bool (!Op.bytesLess a.toList b.toList))
    | _ => none
  | _, _ => none

def pv (s : Sl) : Op → Option Value
  | .move x | .assign x => val s x
  | .pick c x y => match val s c with
    | some (.bool true) => val s x
    | some (.bool false) => val s y
    | _ => none
  | .binOp op _ x y _ => match val s x, val s y with
    | some a, some b => bin op a b
    | _, _ => none
  | .unOp .not _ x => match val s x with
    | some (.bool b) => some (.bool (!b))
    | _ => none
  | .extract x i => match val s x with
    | some (.tuple vs) => vs[i]?
    | _ => none
  | .makeFunc fn f c => match vals s f.toList, vals s c.toList with
    | some f, some c => some (.func fn f.toArray c.toArray)
    | _, _ => none
  | _ => none

theorem byteArray_toList_eq (a b : ByteArray) : (a.toList == b.toList) = decide (a = b) := by
  by_cases e : a = b
  · subst e; simp
  · have h : ¬ a.toList = b.toList := fun h => e (by rw [ByteArray.toList_eq, ByteArray.toList_eq] at h; cases a; cases b; simpa using h)
    simp [e, h]

theorem run_bin {op : BinOp} {a b v : Value} (h : bin op a b = some v) (t : TypeId) (x y : Operand) (w : World) :
    (do eqGuard op t x y a b; binOp op t a b : Sem Value).run P w = .ok v w := by
  cases a <;> cases b <;> try (simp [bin] at h; done)
  · rename_i k m k' m'
    simp only [bin] at h
    by_cases hk : k = k'
    · subst hk
      simp only [decide_true, cond_true] at h
      cases op <;> simp at h <;> subst h <;> simp [eqGuard, binOp, Op.intCmp, bind, Sem.bind, Sem.run, pure]
      all_goals first | rfl | (by_cases e : m = m' <;> simp [e]) | skip
    · simp [hk] at h
  · rename_i c d
    cases op <;> simp [bin] at h <;> subst h <;> simp only [eqGuard, binOp, Op.stringOp, bind, Sem.bind, Sem.run, pure, byteArray_toList_eq] <;> rfl

theorem run_pure_op {o : Op} {v : Value} (h : pv s o = some v) {a : Act} (ha : Fr n s ds a) (oo : Oper) (ho : oo.op = o) (w : World) : (execOp a.eval oo).run P w = .ok (.value v) w := by
  unfold execOp
  rw [ho]
  cases o <;> try (simp [pv] at h; done)
  · simp only [pv] at h; simp only [ha.val h]; rfl
  · simp only [pv] at h; simp only [ha.val h]; rfl
  · rename_i c x y
    simp only [pv] at h
    split at h
    · rename_i hc; simp only [ha.val hc, ha.val h]; rfl
    · rename_i hc; simp only [ha.val hc, ha.val h]; rfl
    · cases h
  · rename_i op xt x y yt
    simp only [pv] at h
    split at h
    · rename_i u u' hx hy
      have := run_bin (P := P) h xt x y w
      simp only [ha.val hx, ha.val hy]
      simp only [Sem.run_bind, this]
      rfl
    · cases h
  · rename_i op xt x
    cases op <;> simp only [pv] at h
    all_goals first | (cases h; done) | skip
    split at h
    · rename_i b hb
      cases h
      simp only [ha.val hb]
      rfl
    · cases h
  · rename_i fn f c
    simp only [pv] at h
    split at h
    · rename_i f' c' hf hc
      cases h
      have h1 := ha.vals hf
      have h2 := ha.vals hc
      have e1 : f.map a.eval = f'.toArray := by apply Array.toList_inj.1; simpa using h1
      have e2 : c.map a.eval = c'.toArray := by apply Array.toList_inj.1; simpa using h2
      simp only [e1, e2]
      rfl
    · cases h
  · rename_i x i
    simp only [pv] at h
    split at h
    · rename_i vs hx
      simp only [ha.val hx, Instr.extract, h]
      rfl
    · cases h

theorem WL.pure {d0 : Option Nat} {op : Op} {v : Value} (hv : pv s op = some v) (h : WL P n l X pan (push d0 v s) ds w) : WL P n (⟨d0, op, none⟩ :: l) X pan s ds w :=
  WL.value (.inl rfl) (fun a ha oo ho => run_pure_op hv ha oo ho w) h
theorem WL.gpure {d0 : Option Nat} {op : Op} {v : Value} {d : Nat} {want : Bool} (hf : find d s = some (.bool want)) (hv : pv s op = some v) (h : WL P n l X pan (push d0 v s) ds w) : WL P n (⟨d0, op, some (d, want)⟩ :: l) X pan s ds w :=
  WL.value (.inr ⟨d, want, rfl, hf⟩) (fun a ha oo ho => run_pure_op hv ha oo ho w) h
end
end Go.Wl
