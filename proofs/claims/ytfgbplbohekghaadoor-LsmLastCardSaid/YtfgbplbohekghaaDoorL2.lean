/- Rules for pieces of code told by their short form; how a call is entered; loops. No condition. -/
import Derived.Test.YtfgbplbohekghaaDoorL1
set_option linter.unusedVariables false
set_option linter.unusedSimpArgs false
namespace Go.Wl

section
variable {P : Program} {n : Nat} {nor ret : Cont} {brk : List (Nat × Cont)} {pan : PCont} {s s' : Sl} {ds : List Deferred} {w : World} {l : List SOp} {X : Cont}

theorem Q_normal {a : Act} (ha : Fr n s ds a) (h : nor s ds w) : Q n nor brk ret pan .normal a w := ⟨s, ds, ha, h⟩

theorem WC.sub {c : SC} (k : Sub s' s) (h : WC P n c nor brk ret pan s' ds w) : WC P n c nor brk ret pan s ds w := fun code hc a ha => h code hc a (ha.sub k)
theorem WL.sub (k : Sub s' s) (h : WL P n l X pan s' ds w) : WL P n l X pan s ds w := fun ops r hl QQ hn hp a ha => h ops r hl QQ hn hp a (ha.sub k)

theorem simp?_reg {id : Nat} {ops : Array Oper} {draw : Bool} {x : SC} (h : simp? n (.region id ops draw) = some x) :
    (∃ l, x = .region draw l ∧ simpOps n ops ops.toList = some l ∧ (draw = true → Region.lexB .any ops = true)) ∨
    (∃ ord l k, x = .mix l k ∧ draw = true ∧ mixOrd ops ops.size (Array.replicate ops.size false) = some ord ∧ Region.noSelect ops = true ∧ simpMix n ops (lateB ops ord) ord = some (l, k)) ∨ (∃ t, x = .tree t ∧ draw = true ∧ Region.noSelect ops = true ∧ treeOf n ops ops.size (Array.replicate ops.size false) = some t) ∨ ∃ c, x = .raw c := by
  simp only [simp?] at h
  cases draw with
  | false =>
    simp only at h
    split at h
    · rename_i l hl
      cases h
      exact .inl ⟨l, rfl, hl, fun h => by cases h⟩
    · cases h
  | true =>
    simp only at h
    split at h
    · rename_i ord ho
      cases hs : Region.noSelect ops with
      | false => rw [hs] at h; cases h
      | true =>
        rw [hs] at h
        simp only [cond_true] at h
        split at h
        · rename_i l k hl
          cases h
          exact .inr (.inl ⟨ord, l, k, rfl, rfl, ho, rfl, hl⟩)
        · cases h
    · cases hs : Region.noSelect ops with
      | false => rw [hs] at h; cases h; exact .inr (.inr (.inr ⟨_, rfl⟩))
      | true =>
        rw [hs] at h
        simp only [cond_true] at h
        split at h
        · rename_i t ht
          cases h
          exact .inr (.inr (.inl ⟨t, rfl, rfl, rfl, ht⟩))
        · cases h; exact .inr (.inr (.inr ⟨_, rfl⟩))
theorem simp?_reg_ne {id : Nat} {ops : Array Oper} {draw : Bool} {x : SC} (h1 : ∀ d l, x ≠ .region d l) (h2 : ∀ l k, x ≠ .mix l k) (h3 : ∀ c, x ≠ .raw c) (h4 : ∀ t, x ≠ .tree t := by intro _ h; cases h) : ¬ simp? n (.region id ops draw) = some x := fun h => by
  rcases simp?_reg h with ⟨l, h, _⟩ | ⟨_, l, k, h, _⟩ | ⟨t, h, _⟩ | ⟨c, h⟩
  · exact h1 _ _ h
  · exact h2 _ _ h
  · exact h4 _ h
  · exact h3 _ h
theorem simp?_region {c : Code} {d : Bool} {l : List SOp} (h : simp? n c = some (.region d l)) : ∃ id ops, c = .region id ops d ∧ simpOps n ops ops.toList = some l ∧ (d = true → Region.lexB .any ops = true) := by
  cases c
  case region id ops draw =>
    rcases simp?_reg h with ⟨l', h1, h2, h3⟩ | ⟨_, l', k, h1, _⟩ | ⟨_, h1, _⟩ | ⟨c, h1⟩
    · cases h1; exact ⟨id, ops, rfl, h2, h3⟩
    · cases h1
    · cases h1
    · cases h1
  all_goals (simp only [simp?] at h; first | (cases h; done) | (split at h <;> cases h))
theorem simp?_mix {c : Code} {l : List SOp} {k : List Nat} (h : simp? n c = some (.mix l k)) : ∃ id ops ord, c = .region id ops true ∧ mixOrd ops ops.size (Array.replicate ops.size false) = some ord ∧ Region.noSelect ops = true ∧ simpMix n ops (lateB ops ord) ord = some (l, k) := by
  cases c
  case region id ops draw =>
    rcases simp?_reg h with ⟨l', h1, h2, h3⟩ | ⟨ord, l', k', h1, h2, h3, h4, h5⟩ | ⟨_, h1, _⟩ | ⟨c, h1⟩
    · cases h1
    · cases h1; cases h2; exact ⟨id, ops, ord, rfl, h3, h4, h5⟩
    · cases h1
    · cases h1
  all_goals (simp only [simp?] at h; first | (cases h; done) | (split at h <;> cases h))

theorem simp?_tree {c : Code} {t : Tr} (h : simp? n c = some (.tree t)) : ∃ id ops, c = .region id ops true ∧ Region.noSelect ops = true ∧ treeOf n ops ops.size (Array.replicate ops.size false) = some t := by
  cases c
  case region id ops draw =>
    rcases simp?_reg h with ⟨l', h1, h2, h3⟩ | ⟨ord, l', k', h1, h2, h3, h4, h5⟩ | ⟨t', h1, h2, h3, h4⟩ | ⟨c, h1⟩
    · cases h1
    · cases h1
    · cases h1; cases h2; exact ⟨id, ops, rfl, h3, h4⟩
    · cases h1
  all_goals (simp only [simp?] at h; first | (cases h; done) | (split at h <;> cases h))
theorem simp?_seq {c : Code} {x y : SC} (h : simp? n c = some (.seq x y)) : ∃ a b, c = .seq a b ∧ simp? n a = some x ∧ simp? n b = some y := by
  cases c
  case region id ops draw => exact absurd h (simp?_reg_ne (by simp) (by simp) (by simp))
  all_goals simp only [simp?] at h
  all_goals try (cases h; done)
  case seq a b =>
    split at h
    · rename_i x' y' h1 h2; cases h; exact ⟨a, b, rfl, h1, h2⟩
    · cases h
  all_goals (split at h <;> cases h)

theorem simp?_cond {c : Code} {o : Operand} {x y : SC} (h : simp? n c = some (.cond o x y)) : ∃ a b, c = .cond o a b ∧ simp? n a = some x ∧ simp? n b = some y := by
  cases c
  case region id ops draw => exact absurd h (simp?_reg_ne (by simp) (by simp) (by simp))
  all_goals simp only [simp?] at h
  all_goals try (cases h; done)
  case cond o' a b =>
    split at h
    · rename_i x' y' h1 h2; cases h; exact ⟨a, b, rfl, h1, h2⟩
    · cases h
  all_goals (split at h <;> cases h)

theorem simp?_block {c : Code} {id : Nat} {x : SC} (h : simp? n c = some (.block id x)) : ∃ a, c = .block id a ∧ simp? n a = some x := by
  cases c
  case region id ops draw => exact absurd h (simp?_reg_ne (by simp) (by simp) (by simp))
  all_goals simp only [simp?] at h
  all_goals try (cases h; done)
  case block id' a =>
    split at h
    · rename_i x' h1; cases h; exact ⟨a, rfl, h1⟩
    · cases h
  all_goals (split at h <;> cases h)

theorem simp?_loop {c : Code} {x : SC} (h : simp? n c = some (.loop x)) : ∃ a, c = .loop a ∧ simp? n a = some x := by
  cases c
  case region id ops draw => exact absurd h (simp?_reg_ne (by simp) (by simp) (by simp))
  all_goals simp only [simp?] at h
  all_goals try (cases h; done)
  case loop a =>
    split at h
    · rename_i x' h1; cases h; exact ⟨a, rfl, h1⟩
    · cases h
  all_goals (split at h <;> cases h)

theorem simp?_exit {c : Code} {id : Nat} (h : simp? n c = some (.exit id)) : c = .exit id := by
  cases c
  case region id ops draw => exact absurd h (simp?_reg_ne (by simp) (by simp) (by simp))
  all_goals simp only [simp?] at h
  all_goals try (cases h; done)
  case exit id' => cases h; rfl
  all_goals (split at h <;> cases h)

theorem simp?_ret {c : Code} (h : simp? n c = some .ret) : c = .ret := by
  cases c
  case region id ops draw => exact absurd h (simp?_reg_ne (by simp) (by simp) (by simp))
  all_goals simp only [simp?] at h
  all_goals try (cases h; done)
  case ret => rfl
  all_goals (split at h <;> cases h)

theorem WC.region (h : WL P n l nor pan s ds w) : WC P n (.region false l) nor brk ret pan s ds w := by
  intro code hc a ha
  obtain ⟨id, ops, rfl, hl, _⟩ := simp?_region hc
  exact wp_region_list (h ops ops.toList (Like.of n hl) _ (fun a w s ds ha h => ⟨s, ds, ha, h⟩) (fun ch a w s ds ha h => ⟨ha.size, by rw [ha.defers]; exact h⟩) a ha)

theorem WC.seq {x y : SC} (h : WC P n x (fun s ds w => WC P n y nor brk ret pan s ds w) brk ret pan s ds w) : WC P n (.seq x y) nor brk ret pan s ds w := by
  intro code hc a ha
  obtain ⟨ca, cb, rfl, h1, h2⟩ := simp?_seq hc
  refine wp_seq (wp_mono (h ca h1 a ha) ?_)
  intro e a' w' hq
  cases e with
  | normal =>
    obtain ⟨s', ds', ha', hk⟩ := hq
    exact hk cb h2 a' ha'
  | exit id => exact hq
  | goto l => exact hq
  | ret => exact hq
  | panic ch => exact hq
  | outgrown => exact hq

/-- A region, and what stands behind it. -/
theorem WC.rseq {y : SC} (h : WL P n l (fun s ds w => WC P n y nor brk ret pan s ds w) pan s ds w) : WC P n (.seq (.region false l) y) nor brk ret pan s ds w := WC.seq (WC.region h)

/-- A cut: what holds behind x. -/
theorem WC.cut {x : SC} (J : Cont) (h : WC P n x J brk ret pan s ds w) (k : ∀ s ds w, J s ds w → nor s ds w) : WC P n x nor brk ret pan s ds w := by
  intro code hc a ha
  refine wp_mono (h code hc a ha) ?_
  intro e a' w' hq
  cases e with
  | normal =>
    obtain ⟨s', ds', ha', hk⟩ := hq
    exact ⟨s', ds', ha', k _ _ _ hk⟩
  | exit id => exact hq
  | goto l => exact hq
  | ret => exact hq
  | panic ch => exact hq
  | outgrown => exact hq

theorem WC.cond {c : Operand} {x y : SC} {b : Bool} (hv : val s c = some (.bool b)) (ht : b = true → WC P n x nor brk ret pan s ds w) (hf : b = false → WC P n y nor brk ret pan s ds w) :
    WC P n (.cond c x y) nor brk ret pan s ds w := by
  intro code hc a ha
  obtain ⟨ca, cb, rfl, h1, h2⟩ := simp?_cond hc
  exact wp_cond_split (ha.val hv) (fun h => ht h ca h1 a ha) (fun h => hf h cb h2 a ha)

theorem WC.condD {c : Operand} {x y : SC} {p : Prop} [Decidable p] (hv : val s c = some (.bool (decide p))) (ht : p → WC P n x nor brk ret pan s ds w) (hf : ¬ p → WC P n y nor brk ret pan s ds w) :
    WC P n (.cond c x y) nor brk ret pan s ds w := WC.cond hv (fun h => ht (of_decide_eq_true h)) (fun h => hf (of_decide_eq_false h))
theorem WC.condN {c : Operand} {x y : SC} {p : Prop} [Decidable p] (hv : val s c = some (.bool (!decide p))) (ht : ¬ p → WC P n x nor brk ret pan s ds w) (hf : p → WC P n y nor brk ret pan s ds w) :
    WC P n (.cond c x y) nor brk ret pan s ds w := WC.cond hv (fun h => ht (by simpa using h)) (fun h => hf (by simpa using h))
theorem WC.condT {c : Operand} {x y : SC} {b : Bool} (hv : val s c = some (.bool b)) (hb : b = true) (ht : WC P n x nor brk ret pan s ds w) : WC P n (.cond c x y) nor brk ret pan s ds w :=
  WC.cond hv (fun _ => ht) (fun h => by rw [hb] at h; cases h)
theorem WC.condF {c : Operand} {x y : SC} {b : Bool} (hv : val s c = some (.bool b)) (hb : b = false) (hf : WC P n y nor brk ret pan s ds w) : WC P n (.cond c x y) nor brk ret pan s ds w :=
  WC.cond hv (fun h => by rw [hb] at h; cases h) (fun _ => hf)

theorem brkOf_cons (id id' : Nat) (f : Cont) (brk : List (Nat × Cont)) : brkOf id' ((id, f) :: brk) = if id = id' then some f else brkOf id' brk := by
  show _root_.cond (Nat.beq id id') (some f) (brkOf id' brk) = _
  by_cases h : id = id'
  · subst h; simp
  · have : Nat.beq id id' = false := by
      cases hb : Nat.beq id id'
      · rfl
      · exact absurd (Nat.eq_of_beq_eq_true hb) h
    rw [this]; simp [h]

theorem WC.block {id : Nat} {c : SC} (h : WC P n c nor ((id, nor) :: brk) ret pan s ds w) : WC P n (.block id c) nor brk ret pan s ds w := by
  intro code hc a ha
  obtain ⟨ca, rfl, h1⟩ := simp?_block hc
  refine wp_block (wp_mono (h ca h1 a ha) ?_)
  intro e a' w' hq
  cases e with
  | normal => exact hq
  | exit id' =>
    obtain ⟨s', ds', ha', f, hf, hk⟩ := hq
    rw [brkOf_cons] at hf
    show if id' = id then _ else _
    by_cases e : id = id'
    · rw [if_pos e] at hf
      cases hf
      rw [if_pos e.symm]
      exact ⟨s', ds', ha', hk⟩
    · rw [if_neg e] at hf
      rw [if_neg (Ne.symm e)]
      exact ⟨s', ds', ha', f, hf, hk⟩
  | goto l => exact hq
  | ret => exact hq
  | panic ch => exact hq
  | outgrown => exact hq

theorem WC.exit {id : Nat} {f : Cont} (hf : brkOf id brk = some f) (h : f s ds w) : WC P n (.exit id) nor brk ret pan s ds w := by
  intro code hc a ha
  obtain rfl := simp?_exit hc
  exact wp_exit ⟨s, ds, ha, f, hf, h⟩

theorem simp?_skip {c : Code} (h : simp? n c = some .skip) : c = .skip := by
  cases c <;> simp only [simp?] at h
  all_goals try (cases h; done)
  case skip => rfl
  case region id ops draw =>
    exact absurd h (simp?_reg_ne (by simp) (by simp) (by simp))
  all_goals (split at h <;> cases h)

theorem WC.skip (h : nor s ds w) : WC P n .skip nor brk ret pan s ds w := by
  intro code hc a ha
  obtain rfl := simp?_skip hc
  exact wp_skip (Q_normal ha h)

theorem WC.retn (h : ret s ds w) : WC P n .ret nor brk ret pan s ds w := by
  intro code hc a ha
  obtain rfl := simp?_ret hc
  exact wp_ret ⟨s, ds, ha, h⟩

theorem wp_loop_ex {c : Code} {QQ : Exit → Act → World → Prop} (J : Nat → Act → World → Prop)
    (round : ∀ m a w, J m a w → c.wp P (Exit.then (fun a' w' => ∃ m', m' < m ∧ J m' a' w') QQ) a w) : ∀ m a w, J m a w → (Code.loop c).wp P QQ a w := by
  intro m a w hJ b k cs
  have key : ∀ m a w, J m a w → ∃ e a' w', QQ e a' w' ∧ Arrives P (lone (b.at a (.code c :: .inLoop c :: k)) cs w) b k cs e a' w' := by
    intro m
    induction m using Nat.strongRecOn with
    | _ m ih =>
      intro a w hI
      obtain ⟨e, a₁, w₁, hq, harr⟩ := round m a w hI b (.inLoop c :: k) cs
      cases e with
      | normal =>
        obtain ⟨m', hlt, hI₁⟩ := hq
        obtain ⟨e₂, a₂, w₂, hq₂, harr₂⟩ := ih m' hlt a₁ w₁ hI₁
        exact ⟨e₂, a₂, w₂, hq₂, .of_steps (Steps.trans harr (.one step_inLoop)) harr₂⟩
      | exit id => exact ⟨_, a₁, w₁, hq, .pass (x := .inLoop c) rfl (fun _ _ => .inl (by simp)) harr⟩
      | goto l => exact ⟨_, a₁, w₁, hq, .pass (x := .inLoop c) rfl (fun _ _ => .inl (by simp)) harr⟩
      | ret => exact ⟨_, a₁, w₁, hq, .pass (x := .inLoop c) rfl (fun _ _ => .inl (by simp)) harr⟩
      | panic ch => exact ⟨_, a₁, w₁, hq, .pass (x := .inLoop c) rfl (fun _ _ => .inl (by simp)) harr⟩
      | outgrown => exact ⟨_, a₁, w₁, hq, .pass (x := .inLoop c) rfl (fun _ _ => .inl (by simp)) harr⟩
  obtain ⟨e, a', w', hq, harr⟩ := key m a w hJ
  exact ⟨e, a', w', hq, .of_steps (.one step_loop) harr⟩

/-- A loop: σ is what the rounds' heads hold (a letter), E the slots there, I what is known, μ what goes down. -/
theorem WC.loop {σ : Type} {c : SC} (E : σ → Sl) (I : σ → World → Prop) (μ : σ → Nat) (x : σ) (hx : I x w) (hE : Sub (E x) s)
    (round : ∀ y w', I y w' → WC P n c (fun s' ds' w'' => ds' = ds ∧ ∃ z, Sub (E z) s' ∧ I z w'' ∧ μ z < μ y) brk ret pan (E y) ds w') :
    WC P n (.loop c) nor brk ret pan s ds w := by
  intro code hc a ha
  obtain ⟨cc, rfl, h1⟩ := simp?_loop hc
  refine wp_loop_ex (fun m a w => ∃ z, Fr n (E z) ds a ∧ I z w ∧ μ z = m) ?_ (μ x) a w ⟨x, ha.sub hE, hx, rfl⟩
  rintro m a w ⟨y, hy1, hy2, rfl⟩
  refine wp_mono (round y w hy2 cc h1 a hy1) ?_
  intro e a' w' hq
  cases e with
  | normal =>
    obtain ⟨s', ds', ha', rfl, u, hu1, hu2, hu3⟩ := hq
    exact ⟨_, hu3, u, ha'.sub hu1, hu2, rfl⟩
  | exit id => exact hq
  | goto l => exact hq
  | ret => exact hq
  | panic ch => exact hq
  | outgrown => exact hq
end

/-! ### A call is entered -/
/-- Function f of P: n slots, short form c, results rs. -/
def Fun (P : Program) (f : FuncId) (n : Nat) (c : SC) (rs : Array ResultVar) : Prop :=
  ∃ fn code, P.funcs[f]? = some fn ∧ fn.body = some code ∧ fn.ntmps = n ∧ simp? n code = some c ∧ fn.results = rs ∧ (fn.name == "runtime.NumGoroutine") = false

theorem Fun.run {P : Program} {f : FuncId} {n : Nat} {c : SC} {rs : Array ResultVar} (h : Fun P f n c rs) (args : Array Value) (w : World) : (callFunc f args).run P w = .ok (.enter f args) w := by
  obtain ⟨fn, code, h1, h2, h3, h4, h5, h6⟩ := h
  have h7 : ¬ fn.name = "runtime.NumGoroutine" := by simpa using h6
  simp [callFunc, h1, h2, h7]

def envOf : Nat → List Value → Sl
  | _, [] => []
  | i, v :: r => (i, v) :: envOf (i + 1) r

theorem find_envOf : ∀ (l : List Value) (i t : Nat) (v : Value), find t (envOf i l) = some v → i ≤ t ∧ l[t - i]? = some v
  | [], i, t, v, h => by cases h
  | u :: r, i, t, v, h => by
    simp only [envOf] at h
    rw [find_cons] at h
    by_cases e : i = t
    · rw [if_pos e] at h; cases h; subst e; simp
    · rw [if_neg e] at h
      obtain ⟨h1, h2⟩ := find_envOf r (i + 1) t v h
      refine ⟨by omega, ?_⟩
      obtain ⟨k, hk⟩ : ∃ k, t - i = k + 1 := ⟨t - i - 1, by omega⟩
      rw [hk, List.getElem?_cons_succ]
      rw [show t - (i + 1) = k by omega] at h2
      exact h2

/-- What is asked where a call returns: the results, and what is to be shown. -/
def Ret (P : Program) (rs : Array ResultVar) (R : Ending → World → Prop) : Cont := fun s ds w =>
  ds = [] ∧ ∃ v, (∀ n a, Fr n s ds a → ∀ fn : Func, fn.results = rs → (results fn a.tmps).run P w = .ok v w) ∧ R (.returned v) w

def Pan (R : Ending → World → Prop) : PCont := fun ch ds w => ds = [] ∧ R (.panicked ch) w

theorem enter {P : Program} {f : FuncId} {n : Nat} {c : SC} {rs : Array ResultVar} {args : Array Value} {w : World} {R : Ending → World → Prop} (hf : Fun P f n c rs) {s : Sl} (hs : envOf 0 args.toList = s) (hn' : Nat.ble args.size n = true)
    (h : WC P n c (Ret P rs R) [] (Ret P rs R) (Pan R) s [] w) : Calls P f args w R := by
  obtain ⟨fn, code, h1, h2, h3, h4, h5, _⟩ := hf
  have hn : args.size ≤ n := Nat.le_of_ble_eq_true hn'
  refine calls_of_wp h1 h2 ?_
  have ha : Fr n s [] { tmps := args ++ Array.replicate (fn.ntmps - args.size) undef, defers := [] } := by
    refine ⟨by simp; omega, rfl, fun t v ht => ?_⟩
    subst hs
    obtain ⟨_, h7⟩ := find_envOf _ _ _ _ ht
    have h8 : args[t]? = some v := by simpa using h7
    have h9 : t < args.size := (Array.getElem?_eq_some_iff.1 h8).1
    simp only
    rw [Array.getElem?_append_left h9]
    exact h8
  refine wp_mono (h code h4 _ ha) ?_
  intro e a w' hq
  cases e with
  | normal =>
    obtain ⟨s', ds', ha', rfl, v, hv, hR⟩ := hq
    exact ⟨ha'.defers, v, hv n a ha' fn h5, hR⟩
  | exit id =>
    obtain ⟨_, _, _, _, hx, _⟩ := hq
    cases hx
  | goto l => exact hq.elim
  | ret =>
    obtain ⟨s', ds', ha', rfl, v, hv, hR⟩ := hq
    exact ⟨ha'.defers, v, hv n a ha' fn h5, hR⟩
  | panic ch =>
    exact hq.2
  | outgrown => exact hq.elim

section
variable {P : Program} {R : Ending → World → Prop} {s : Sl} {w : World}
theorem Ret0 (h : R (.returned (.tuple #[])) w) : Ret P #[] R s [] w :=
  ⟨rfl, _, fun n a ha fn hfn => by simp [results, hfn, go_sem], h⟩
theorem Ret1 {t : Nat} {v : Value} (hv : find t s = some v) (h : R (.returned v) w) : Ret P #[.tmp t] R s [] w :=
  ⟨rfl, v, fun n a ha fn hfn => by simp [results, hfn, ha.at_ t v hv, go_sem], h⟩
theorem Ret2 {t u : Nat} {v1 v2 : Value} (h1 : find t s = some v1) (h2 : find u s = some v2) (h : R (.returned (.tuple #[v1, v2])) w) : Ret P #[.tmp t, .tmp u] R s [] w :=
  ⟨rfl, _, fun n a ha fn hfn => by simp [results, hfn, ha.at_ t v1 h1, ha.at_ u v2 h2, go_sem], h⟩
theorem Ret3 {t u r : Nat} {v1 v2 v3 : Value} (h1 : find t s = some v1) (h2 : find u s = some v2) (h3 : find r s = some v3) (h : R (.returned (.tuple #[v1, v2, v3])) w) : Ret P #[.tmp t, .tmp u, .tmp r] R s [] w :=
  ⟨rfl, _, fun n a ha fn hfn => by simp [results, hfn, ha.at_ t v1 h1, ha.at_ u v2 h2, ha.at_ r v3 h3, go_sem], h⟩
theorem Ret4 {t u r q : Nat} {v1 v2 v3 v4 : Value} (h1 : find t s = some v1) (h2 : find u s = some v2) (h3 : find r s = some v3) (h4 : find q s = some v4) (h : R (.returned (.tuple #[v1, v2, v3, v4])) w) : Ret P #[.tmp t, .tmp u, .tmp r, .tmp q] R s [] w :=
  ⟨rfl, _, fun n a ha fn hfn => by simp [results, hfn, ha.at_ t v1 h1, ha.at_ u v2 h2, ha.at_ r v3 h3, ha.at_ q v4 h4, go_sem], h⟩
end
end Go.Wl
