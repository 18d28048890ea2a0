/- Rules for a statement whose order is open. No condition. -/
import Derived.Test.YtfgbplbohekghaaDoorL5
set_option linter.unusedVariables false
set_option linter.unusedSimpArgs false
namespace Go.Wl
open Go.RowKit

/-- What a region's walk asks of what stands behind: a slot's value makes no difference to a panic. -/
def PanOk (QQ : Exit → Act → World → Prop) : Prop := ∀ ch (a : Act) (d : Option Nat) v w, QQ (.panic ch) (a.put d v) w → QQ (.panic ch) a w
theorem Q_panOk {n : Nat} {nor ret : Cont} {brk : List (Nat × Cont)} {pan : PCont} : PanOk (Q n nor brk ret pan) := fun ch a d v w h => by
  cases d with
  | none => exact h
  | some d => exact ⟨by have := h.1; simpa [Act.put] using this, by have := h.2; simpa [Act.put] using this⟩

section
variable (P : Program) (n : Nat)
/-- The mixed walk of a region: S holds of the world as long as something is still to be read. -/
def WM (S : World → Prop) (l : List SOp) (k : List Nat) (X : Cont) (pan : PCont) (s : Sl) (ds : List Deferred) (w : World) : Prop :=
  ∀ (ops : Array Oper) (late : Nat → Bool) (ord : List (Nat × Bool)), simpMix n ops late ord = some (l, k) → ∀ QQ : Exit → Act → World → Prop, PanOk QQ → (∀ a w s ds, Fr n s ds a → X s ds w → QQ .normal a w) → (∀ ch a w s ds, Fr n s ds a → pan ch ds w → QQ (.panic ch) a w) →
    ∀ a, Fr n s ds a → wpMix P ops QQ late S ord a w
end

section
variable {P : Program} {n : Nat} {nor ret : Cont} {brk : List (Nat × Cont)} {pan : PCont} {s : Sl} {ds : List Deferred} {w : World} {l : List SOp} {k : List Nat} {X : Cont} {S : World → Prop}

theorem WC.mix (S : World → Prop) (hm : P.follows .mixedOrders = true) (h : ∀ w1, w.grownBy w1 none → w1.heap = w.heap → WM P n S l k nor pan s ds w1) : WC P n (.mix l k) nor brk ret pan s ds w := by
  intro code hc a ha
  obtain ⟨id, ops, ord, rfl, h1, h2, h3⟩ := simp?_mix hc
  exact wp_region_mix (S := S) hm h2 h1 (h { w with drawn := w.drawn + 1 } ⟨rfl, rfl, rfl, Nat.le_refl _, fun _ _ _ => rfl⟩ rfl ops _ ord h3 _ Q_panOk (fun a w s ds ha h => ⟨s, ds, ha, h⟩) (fun ch a w s ds ha h => ⟨ha.size, by rw [ha.defers]; exact h⟩) a ha)

theorem WM.nil (h : X s ds w) : WM P n S [] [] X pan s ds w := by
  intro ops late ord ho QQ hq hn hp a ha
  cases ord with
  | nil => exact hn a w s ds ha h
  | cons p r =>
    obtain ⟨i, q⟩ := p
    simp only [simpMix] at ho
    split at ho
    · split at ho
      · simp at ho
      · cases ho
    · cases ho

theorem simpMix_cons {ops : Array Oper} {late : Nat → Bool} {ord : List (Nat × Bool)} {o : SOp} {c : Nat} (h : simpMix n ops late ord = some (o :: l, c :: k)) :
    ∃ i q r oo, ord = (i, q) :: r ∧ ops[i]? = some oo ∧ simpOp n ops oo = some o ∧ simpMix n ops late r = some (l, k) ∧ c = cond q 0 (cond (late i) 2 1) := by
  cases ord with
  | nil => simp [simpMix] at h
  | cons p r =>
    obtain ⟨i, q⟩ := p
    simp only [simpMix] at h
    split at h
    · rename_i oo hoo
      split at h
      · rename_i s' l' k' h1 h2
        simp only [Option.some.injEq, Prod.mk.injEq, List.cons.injEq] at h
        obtain ⟨⟨rfl, rfl⟩, rfl, rfl⟩ := h
        exact ⟨i, q, r, oo, rfl, hoo, h1, h2, rfl⟩
      · cases h
    · cases h

theorem Fr.wanted {ops : Array Oper} {oo : Oper} {o : SOp} {a : Act} (ha : Fr n s ds a) (hs : simpOp n ops oo = some o) (hg : GOk s o.guard) : Region.wanted oo (yielded ops a.tmps) = true := by
  obtain ⟨h1, h2, h3, h4⟩ := simpOp_spec hs
  rcases h4 with ⟨hg1, hg2⟩ | ⟨j, want, oj, d, hg1, hj, hdj, hg2⟩
  · simp [Region.wanted, hg1]
  · rcases hg with hg | ⟨d', want', hg, hf⟩
    · rw [hg2] at hg; cases hg
    · rw [hg2] at hg
      cases hg
      have := ha.at_ _ _ hf
      simp [Region.wanted, hg1, yielded, hj, hdj, this]

theorem Fr.pushed {ops : Array Oper} {oo : Oper} {o : SOp} {a : Act} (ha : Fr n s ds a) (hs : simpOp n ops oo = some o) (v : Value) : Fr n (push o.dst v s) ds (a.put oo.dst v) := by
  obtain ⟨h1, h2, h3, h4⟩ := simpOp_spec hs
  have := ha.putO h1 v
  rwa [← h2] at this ⊢

/-- An operation that only reads, wherever S holds. -/
theorem WM.o {d0 : Option Nat} {op : Op} {v : Value} {g : Option (Nat × Bool)} (hg : GOk s g) (hw : S w) (hv : ∀ w', S w' → Op1 P n s ds w' op v) (h : WM P n S l k X pan (push d0 v s) ds w) : WM P n S (⟨d0, op, g⟩ :: l) (0 :: k) X pan s ds w := by
  intro ops late ord ho QQ hq hn hp a ha
  obtain ⟨i, q, r, oo, rfl, h1, h2, h3, h4⟩ := simpMix_cons ho
  cases q with
  | false => cases hl : late i <;> rw [hl] at h4 <;> cases h4
  | true =>
    refine ⟨oo, v, h1, .inl ⟨ha.wanted h2 hg, fun w' hS => hv w' hS a ha oo (simpOp_spec h2).2.2.1.symm⟩, hw, fun c a' w' => hq c a' _ v w', ?_⟩
    exact h ops late r h3 QQ hq hn hp _ (ha.pushed h2 v)
theorem WM.p {d0 : Option Nat} {op : Op} {v : Value} (hw : S w) (hv : pv s op = some v) (h : WM P n S l k X pan (push d0 v s) ds w) : WM P n S (⟨d0, op, none⟩ :: l) (0 :: k) X pan s ds w := WM.o GOk.no hw (fun w' _ => o_pure hv) h
theorem WM.gp {d0 : Option Nat} {op : Op} {v : Value} {d : Nat} {want : Bool} (hw : S w) (hf : find d s = some (.bool want)) (hv : pv s op = some v) (h : WM P n S l k X pan (push d0 v s) ds w) : WM P n S (⟨d0, op, some (d, want)⟩ :: l) (0 :: k) X pan s ds w := WM.o (GOk.yes hf) hw (fun w' _ => o_pure hv) h
/-- An operation whose guard says no. -/
theorem WM.off {d0 : Option Nat} {op : Op} {d : Nat} {want b : Bool} (hw : S w) (hf : find d s = some (.bool b)) (hb : b = !want) (h : WM P n S l k X pan (push d0 undef s) ds w) : WM P n S (⟨d0, op, some (d, want)⟩ :: l) (0 :: k) X pan s ds w := by
  intro ops late ord ho QQ hq hn hp a ha
  obtain ⟨i, q, r, oo, rfl, h1, h2, h3, h4⟩ := simpMix_cons ho
  cases q with
  | false => cases hl : late i <;> rw [hl] at h4 <;> cases h4
  | true =>
    refine ⟨oo, undef, h1, .inr ⟨?_, rfl⟩, hw, fun c a' w' => hq c a' _ undef w', ?_⟩
    · obtain ⟨_, _, _, h5⟩ := simpOp_spec h2
      rcases h5 with ⟨hg1, hg2⟩ | ⟨j, want', oj, d', hg1, hj, hdj, hg2⟩
      · cases hg2
      · cases hg2
        have := ha.at_ _ _ hf
        subst hb
        simp [Region.wanted, hg1, yielded, hj, hdj, this]
    · exact h ops late r h3 QQ hq hn hp _ (ha.pushed h2 undef)
theorem WM.offT {d0 : Option Nat} {op : Op} {d : Nat} (hw : S w) (hf : find d s = some (.bool false)) (h : WM P n S l k X pan (push d0 undef s) ds w) : WM P n S (⟨d0, op, some (d, true)⟩ :: l) (0 :: k) X pan s ds w := WM.off hw hf rfl h
theorem WM.offF {d0 : Option Nat} {op : Op} {d : Nat} (hw : S w) (hf : find d s = some (.bool true)) (h : WM P n S l k X pan (push d0 undef s) ds w) : WM P n S (⟨d0, op, some (d, false)⟩ :: l) (0 :: k) X pan s ds w := WM.off hw hf rfl h

/-- What stands behind, with another word for the region's end. -/
def QK (K : Act → World → Prop) (QQ : Exit → Act → World → Prop) : Exit → Act → World → Prop
  | .normal, a, w => K a w
  | e, a, w => QQ e a w

theorem wp_QK {o : Oper} {a : Act} {K : Act → World → Prop} {QQ : Exit → Act → World → Prop} (h : o.wp P a w K (QK K QQ)) : o.wp P a w K QQ := by
  unfold Oper.wp at *
  generalize (execOp a.eval o).run P w = r at *
  cases r with
  | ok x w' => cases x <;> simp only [Oper.upon] at h ⊢ <;> first | exact h | exact h.mono fun e w'' he => by cases e <;> exact he
  | halt x w' => cases x <;> simp only [Oper.upon] at h ⊢ <;> exact h

theorem wpOp_of_list {ops : Array Oper} {i : Nat} {oo : Oper} {a : Act} {K : Act → World → Prop} {QQ : Exit → Act → World → Prop} (hi : ops[i]? = some oo) (h : wpList P ops (QK K QQ) [oo] a w) : wpOp P ops QQ i K a w := by
  unfold wpOp
  simp only [hi]
  simp only [wpList] at h
  split
  · rename_i hw
    rw [if_pos hw] at h
    rcases h with h | ⟨h1, h2⟩
    · exact .inl (wp_QK h)
    · exact .inr ⟨h1, h2⟩
  · rename_i hw
    rw [if_neg hw] at h
    exact h

/-- An operation that does more: by its own law, alone; S behind it. -/
theorem WM.e {o : SOp} (h : WL P n [o] (fun s' ds' w' => S w' ∧ WM P n S l k X pan s' ds' w') pan s ds w) : WM P n S (o :: l) (1 :: k) X pan s ds w := by
  intro ops late ord ho QQ hq hn hp a ha
  obtain ⟨i, q, r, oo, rfl, h1, h2, h3, h4⟩ := simpMix_cons ho
  cases q with
  | true => cases h4
  | false =>
    exact wpOp_of_list h1 (h ops [oo] (.cons h2 .nil) (QK (fun a' w' => (late i = false → S w') ∧ wpMix P ops QQ late S r a' w') QQ) (fun a' w' s' ds' ha' h' => ⟨fun _ => h'.1, h'.2 ops late r h3 QQ hq hn hp a' ha'⟩) (fun ch a' w' s' ds' ha' h' => hp ch a' w' s' ds' ha' h') a ha)
/-- The last one: nothing need hold behind it. -/
theorem WM.z {o : SOp} (h : WL P n [o] (fun s' ds' w' => WM P n S l k X pan s' ds' w') pan s ds w) : WM P n S (o :: l) (2 :: k) X pan s ds w := by
  intro ops late ord ho QQ hq hn hp a ha
  obtain ⟨i, q, r, oo, rfl, h1, h2, h3, h4⟩ := simpMix_cons ho
  cases q with
  | true => cases h4
  | false =>
    have hl : late i = true := by
      cases hl : late i with
      | true => rfl
      | false => rw [hl] at h4; cases h4
    exact wpOp_of_list h1 (h ops [oo] (.cons h2 .nil) (QK (fun a' w' => (late i = false → S w') ∧ wpMix P ops QQ late S r a' w') QQ) (fun a' w' s' ds' ha' h' => ⟨fun hc => (by rw [hl] at hc; cases hc), h' ops late r h3 QQ hq hn hp a' ha'⟩) (fun ch a' w' s' ds' ha' h' => hp ch a' w' s' ds' ha' h') a ha)
end
end Go.Wl
