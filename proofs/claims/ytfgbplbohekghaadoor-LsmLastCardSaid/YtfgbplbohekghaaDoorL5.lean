/- What values in memory tell: kinds of data (Rep), slices that are read, slices of the call's own; append. No condition. -/
import Derived.Test.YtfgbplbohekghaaDoorL4
set_option linter.unusedVariables false
set_option linter.unusedSimpArgs false
namespace Go.Wl
open Go.RowKit

/-- How data of a kind lie in cells. ok: which blocks they may lead to. -/
structure Rep (α : Type) where
  sz : Nat
  R : (Nat → Prop) → World → α → List Value → Prop
  len : ∀ {ok w x cs}, R ok w x cs → cs.length = sz
  one : ∀ {ok w x cs}, R ok w x cs → ∀ u ∈ cs, u.oneCell' = true
  move : ∀ {ok : Nat → Prop} {w w' : World} {x cs}, R ok w x cs → (∀ b, ok b → b < w.heap.size → w'.heap[b]? = w.heap[b]?) → R ok w' x cs
  mono : ∀ {ok ok' : Nat → Prop} {w x cs}, R ok w x cs → (∀ b, ok b → b < w.heap.size → ok' b) → R ok' w x cs

/-- A slice's elements, from address A on. -/
def Row {α : Type} (r : Rep α) (ok : Nat → Prop) (w : World) (A : Option Addr) (xs : List α) : Prop :=
  xs.length ≤ 9223372036854775807 ∧ (xs ≠ [] → ∃ ad, A = some ad ∧ ok ad.block ∧ ∀ i x, xs[i]? = some x → ∃ cs, r.R ok w x cs ∧ At w (ad.add (i * r.sz)) cs)

theorem At_move {w w' : World} {a : Addr} {cs : List Value} (h : At w a cs) (hm : w'.heap[a.block]? = w.heap[a.block]?) : At w' a cs := fun i u hu =>
  (World.cell?_of_block (a := a.add i) (by rw [add_block]; exact hm)).trans (h i u hu)

section
variable {α : Type} {r : Rep α} {ok ok' : Nat → Prop} {w w' : World} {A : Option Addr} {xs : List α}
/-- Rows of elements without cells don't come up: each element has one at least. -/
theorem Row.lt {ad : Addr} {cs : List Value} (h : At w ad cs) (hc : cs ≠ []) : ad.block < w.heap.size := by
  cases cs with
  | nil => exact absurd rfl hc
  | cons c r =>
    have := h 0 c rfl
    have := lt_of_cell this
    rwa [add_block] at this
theorem Row.move (hs : 0 < r.sz) (h : Row r ok w A xs) (hm : ∀ b, ok b → b < w.heap.size → w'.heap[b]? = w.heap[b]?) : Row r ok w' A xs := by
  refine ⟨h.1, fun hn => ?_⟩
  obtain ⟨ad, he, hb, hx⟩ := h.2 hn
  refine ⟨ad, he, hb, fun i x hi => ?_⟩
  obtain ⟨cs, h1, h2⟩ := hx i x hi
  have hne : cs ≠ [] := fun e => by have := r.len h1; rw [e] at this; simp at this; omega
  have hlt := Row.lt h2 hne
  rw [add_block] at hlt
  exact ⟨cs, r.move h1 hm, At_move h2 (by rw [add_block]; exact hm _ hb hlt)⟩
theorem Row.mono (hs : 0 < r.sz) (h : Row r ok w A xs) (hm : ∀ b, ok b → b < w.heap.size → ok' b) : Row r ok' w A xs := by
  refine ⟨h.1, fun hn => ?_⟩
  obtain ⟨ad, he, hb, hx⟩ := h.2 hn
  have hlt : ad.block < w.heap.size := by
    cases xs with
    | nil => exact absurd rfl hn
    | cons x xs =>
      obtain ⟨cs, h1, h2⟩ := hx 0 x rfl
      have hne : cs ≠ [] := fun e => by have := r.len h1; rw [e] at this; simp at this; omega
      have := Row.lt h2 hne
      rwa [add_block] at this
  refine ⟨ad, he, hm _ hb hlt, fun i x hi => ?_⟩
  obtain ⟨cs, h1, h2⟩ := hx i x hi
  exact ⟨cs, r.mono h1 hm, h2⟩
theorem Row.get (h : Row r ok w A xs) (i : Nat) (hi : i < xs.length) : ∃ ad cs, A = some ad ∧ ok ad.block ∧ r.R ok w xs[i] cs ∧ At w (ad.add (i * r.sz)) cs := by
  have hn : xs ≠ [] := fun e => by subst e; simp at hi
  obtain ⟨ad, he, hb, hx⟩ := h.2 hn
  obtain ⟨cs, h1, h2⟩ := hx i xs[i] (List.getElem?_eq_getElem hi)
  exact ⟨ad, cs, he, hb, h1, h2⟩
theorem Row.nil (r : Rep α) (ok : Nat → Prop) (w : World) (A : Option Addr) : Row r ok w A [] := ⟨by simp, fun h => absurd rfl h⟩
theorem Row.take (h : Row r ok w A xs) (k : Nat) : Row r ok w A (xs.take k) := by
  refine ⟨by rw [List.length_take]; exact Nat.le_trans (Nat.min_le_right _ _) h.1, fun hn => ?_⟩
  obtain ⟨ad, he, hb, hx⟩ := h.2 (fun e => hn (by rw [e]; simp))
  refine ⟨ad, he, hb, fun i x hi => hx i x ?_⟩
  rw [List.getElem?_take] at hi
  split at hi
  · exact hi
  · cases hi
theorem Row.drop (h : Row r ok w A xs) (k c : Nat) (hc : xs.length ≤ c) : Row r ok w (cutAddr A c k r.sz) (xs.drop k) := by
  refine ⟨by rw [List.length_drop]; exact Nat.le_trans (Nat.sub_le _ _) h.1, fun hn => ?_⟩
  obtain ⟨ad, he, hb, hx⟩ := h.2 (fun e => hn (by rw [e]; simp))
  have hk : k < xs.length := by
    rcases Nat.lt_or_ge k xs.length with h | h
    · exact h
    · exact absurd (List.drop_of_length_le h) hn
  refine ⟨ad.add (k * r.sz), by unfold cutAddr; rw [if_neg (by omega), he]; rfl, by rw [add_block]; exact hb, fun i x hi => ?_⟩
  rw [List.getElem?_drop] at hi
  obtain ⟨cs, h1, h2⟩ := hx (k + i) x hi
  refine ⟨cs, h1, ?_⟩
  rw [add_add, ← Nat.add_mul]
  exact h2
end

/-- A slice's value. -/
def SlV {α : Type} (r : Rep α) (ok : Nat → Prop) (w : World) (v : Value) (xs : List α) : Prop := ∃ A c, v = .slice A xs.length c ∧ xs.length ≤ c ∧ Row r ok w A xs

section
variable {α : Type} {r : Rep α} {ok ok' : Nat → Prop} {w w' : World} {v : Value} {xs : List α}
theorem SlV.move (hs : 0 < r.sz) (h : SlV r ok w v xs) (hm : ∀ b, ok b → b < w.heap.size → w'.heap[b]? = w.heap[b]?) : SlV r ok w' v xs := by
  obtain ⟨A, c, h1, h2, h3⟩ := h
  exact ⟨A, c, h1, h2, h3.move hs hm⟩
theorem SlV.mono (hs : 0 < r.sz) (h : SlV r ok w v xs) (hm : ∀ b, ok b → b < w.heap.size → ok' b) : SlV r ok' w v xs := by
  obtain ⟨A, c, h1, h2, h3⟩ := h
  exact ⟨A, c, h1, h2, h3.mono hs hm⟩
theorem SlV.step (hs : 0 < r.sz) (h : SlV r ok w v xs) {row : Option Nat} (hg : w.grownBy w' row) (hr : ∀ b, ok b → some b ≠ row) : SlV r ok w' v xs := h.move hs fun b hb hl => hg.block b hl (hr b hb)
theorem SlV.nil (r : Rep α) (ok : Nat → Prop) (w : World) : SlV r ok w (.slice none 0 0) [] := ⟨none, 0, rfl, Nat.le_refl _, Row.nil _ _ _ _⟩
end

/-! ### Kinds -/
def Rep.of {α : Type} (enc : α → Value) (h1 : ∀ x, (enc x).oneCell' = true) : Rep α := {
  sz := 1
  R := fun _ _ x cs => cs = [enc x]
  len := fun h => by rw [h]; rfl
  one := fun h u hu => by rw [h] at hu; simp at hu; rw [hu]; exact h1 _
  move := fun h _ => h
  mono := fun h _ => h
  }
def rInt : Rep Int := Rep.of (Value.int .i64) (fun _ => rfl)
def rU8 : Rep Int := Rep.of (Value.int .u8) (fun _ => rfl)
def rStr : Rep ByteArray := Rep.of Value.string (fun _ => rfl)
def rBool : Rep Bool := Rep.of Value.bool (fun _ => rfl)
def Rep.sl {α : Type} (r : Rep α) (hs : 0 < r.sz) : Rep (List α) := {
  sz := 1
  R := fun ok w xs cs => ∃ v, cs = [v] ∧ SlV r ok w v xs
  len := fun ⟨v, h, _⟩ => by rw [h]; rfl
  one := fun ⟨v, h, A, c, h1, _⟩ u hu => by rw [h] at hu; simp at hu; rw [hu, h1]; rfl
  move := fun ⟨v, h, h1⟩ hm => ⟨v, h, h1.move hs hm⟩
  mono := fun ⟨v, h, h1⟩ hm => ⟨v, h, h1.mono hs hm⟩
  }
def Rep.pair {α β : Type} (a : Rep α) (b : Rep β) : Rep (α × β) := {
  sz := a.sz + b.sz
  R := fun ok w x cs => ∃ c1 c2, cs = c1 ++ c2 ∧ a.R ok w x.1 c1 ∧ b.R ok w x.2 c2
  len := fun ⟨c1, c2, h, h1, h2⟩ => by rw [h, List.length_append, a.len h1, b.len h2]
  one := fun ⟨c1, c2, h, h1, h2⟩ u hu => by
    rw [h] at hu
    rcases List.mem_append.1 hu with hu | hu
    · exact a.one h1 u hu
    · exact b.one h2 u hu
  move := fun ⟨c1, c2, h, h1, h2⟩ hm => ⟨c1, c2, h, a.move h1 hm, b.move h2 hm⟩
  mono := fun ⟨c1, c2, h, h1, h2⟩ hm => ⟨c1, c2, h, a.mono h1 hm, b.mono h2 hm⟩
  }
def Rep.via {α β : Type} (r : Rep β) (f : α → β) : Rep α := {
  sz := r.sz
  R := fun ok w x cs => r.R ok w (f x) cs
  len := r.len
  one := r.one
  move := r.move
  mono := r.mono
  }

/-! ### Slices of the call's own -/
/-- Elements' cells, one behind the other. -/
def Reps {α : Type} (R : α → List Value → Prop) (size : Nat) (xs : List α) (cs : List Value) : Prop :=
  cs.length = xs.length * size ∧ ∀ i x, xs[i]? = some x → R x ((cs.drop (i * size)).take size)
theorem Reps.nil {α : Type} (R : α → List Value → Prop) (size : Nat) : Reps R size [] [] := ⟨by simp, fun i x h => by simp at h⟩
theorem Reps.imp {α : Type} {R R' : α → List Value → Prop} {size : Nat} {xs : List α} {cs : List Value} (h : Reps R size xs cs) (hR : ∀ x c, R x c → R' x c) : Reps R' size xs cs := ⟨h.1, fun i x hi => hR _ _ (h.2 i x hi)⟩
theorem Reps.append {α : Type} {R : α → List Value → Prop} {size : Nat} {xs ys : List α} {cs c : List Value} (h : Reps R size xs cs) (k : Reps R size ys c) : Reps R size (xs ++ ys) (cs ++ c) := by
  refine ⟨by rw [List.length_append, h.1, k.1, List.length_append, Nat.add_mul], fun i x hi => ?_⟩
  rcases Nat.lt_or_ge i xs.length with hj | hj
  · rw [List.getElem?_append_left hj] at hi
    have h1 : i * size + size ≤ cs.length := by rw [h.1, ← Nat.succ_mul]; exact Nat.mul_le_mul_right _ hj
    rw [List.drop_append_of_le_length (by omega), List.take_append_of_le_length (by rw [List.length_drop]; omega)]
    exact h.2 i x hi
  · rw [List.getElem?_append_right hj] at hi
    have h2 := k.2 _ _ hi
    have e : i * size = cs.length + (i - xs.length) * size := by rw [h.1, ← Nat.add_mul]; congr 1; omega
    rw [e, List.drop_append]
    have e2 : List.drop (cs.length + (i - xs.length) * size) cs = [] := List.drop_of_length_le (by omega)
    rw [e2, List.nil_append, Nat.add_sub_cancel_left]
    exact h2
theorem Reps.one {α : Type} {R : α → List Value → Prop} {size : Nat} {x : α} {cs : List Value} (h : R x cs) (hl : cs.length = size) : Reps R size [x] cs := by
  refine ⟨by simp [hl], fun i y hi => ?_⟩
  match i, hi with
  | 0, hi =>
    simp at hi
    subst hi
    simp
    rw [List.take_of_length_le (by omega)]
    exact h

/-- A slice of the call's own: nil, or a whole row of its own from block 'base' on, to which its elements don't lead. -/
def Own {α : Type} (r : Rep α) (e : TypeId) (base : Nat) (ok : Nat → Prop) (w : World) (v : Value) (xs : List α) : Prop :=
  ∃ cs, w.ownsRow base e r.sz v xs.length cs ∧ Reps (r.R (fun b => ok b ∧ some b ≠ v.ownBlock) w) r.sz xs cs

section
variable {α : Type} {r : Rep α} {e : TypeId} {base : Nat} {ok ok' : Nat → Prop} {w w' : World} {v : Value} {xs : List α}
theorem Own.nil (r : Rep α) (e : TypeId) (base : Nat) (ok : Nat → Prop) (w : World) : Own r e base ok w (.slice none 0 0) [] := ⟨[], ⟨by simp, .inl ⟨rfl, rfl⟩⟩, Reps.nil _ _⟩
theorem own_base {cs : List Value} {n size : Nat} (h : w.ownsRow base e size v n cs) (k : Nat) (hk : v.ownBlock = some k) : base ≤ k ∧ k < w.heap.size ∧ ∃ c, w.heap[k]? = some (.cells c e (0, 0)) := by
  rcases h.2 with ⟨rfl, _⟩ | ⟨g, cap, cur, rfl, hb, hh, _⟩
  · simp [Value.ownBlock] at hk
  · have : g = k := by simpa [Value.ownBlock] using hk
    subst this
    exact ⟨hb, (Array.getElem?_eq_some_iff.1 hh).1, _, hh⟩
theorem Own.bge (h : Own r e base ok w v xs) (k : Nat) (hk : v.ownBlock = some k) : base ≤ k := by
  obtain ⟨cs, ho, _⟩ := h
  exact (own_base ho k hk).1
theorem Own.blt (h : Own r e base ok w v xs) (k : Nat) (hk : v.ownBlock = some k) : k < w.heap.size := by
  obtain ⟨cs, ho, _⟩ := h
  exact (own_base ho k hk).2.1
theorem Own.mono (h : Own r e base ok w v xs) (hm : ∀ b, ok b → b < w.heap.size → ok' b) : Own r e base ok' w v xs := by
  obtain ⟨cs, ho, hr⟩ := h
  exact ⟨cs, ho, hr.imp fun x c hx => r.mono hx fun b hb hl => ⟨hm b hb.1 hl, hb.2⟩⟩
theorem Own.move (h : Own r e base ok w v xs) (hv : ∀ k, v.ownBlock = some k → w'.heap[k]? = w.heap[k]?) (hm : ∀ b, ok b → some b ≠ v.ownBlock → b < w.heap.size → w'.heap[b]? = w.heap[b]?) : Own r e base ok w' v xs := by
  obtain ⟨cs, ho, hr⟩ := h
  refine ⟨cs, ⟨ho.1, ?_⟩, hr.imp fun x c hx => r.move hx fun b hb hl => hm b hb.1 hb.2 hl⟩
  rcases ho.2 with h2 | ⟨g, cap, cur, rfl, hg, hh, r⟩
  · exact .inl h2
  · exact .inr ⟨g, cap, cur, rfl, hg, (hv g (by simp [Value.ownBlock])).trans hh, r⟩
/-- Something else has been written. -/
theorem Own.step (h : Own r e base ok w v xs) {row : Option Nat} (hg : w.grownBy w' row) (hv : v.ownBlock ≠ row ∨ row = none) (hr : ∀ b, ok b → some b ≠ row) : Own r e base ok w' v xs :=
  h.move (fun k hk => hg.block k (h.blt k hk) (fun e => by rcases hv with hv | hv; exact hv (hk.trans e); rw [hv] at e; cases e)) (fun b hb _ hl => hg.block b hl (hr b hb))
theorem Own.len (h : Own r e base ok w v xs) : ∃ A c, v = .slice A xs.length c ∧ xs.length ≤ c ∧ xs.length ≤ 9223372036854775807 := by
  obtain ⟨cs, ho, _⟩ := h
  rcases ho.2 with ⟨rfl, h0⟩ | ⟨g, cap, cur, rfl, _, _, h1, h2, _⟩
  · exact ⟨none, 0, by rw [h0], by omega, by omega⟩
  · exact ⟨_, cap, rfl, h1, by simp only [maxLen] at h2; omega⟩
/-- It reads as a slice. -/
theorem Own.slv (h : Own r e base ok w v xs) : SlV r (fun b => ok b ∨ some b = v.ownBlock) w v xs := by
  obtain ⟨A, c, rfl, hc, hm⟩ := h.len
  refine ⟨A, c, rfl, hc, hm, fun hn => ?_⟩
  obtain ⟨cs, ho, hr⟩ := h
  have hpos : 0 < xs.length := List.length_pos_iff.2 hn
  rcases ho.2 with ⟨he, h0⟩ | ⟨g, cap, cur, he, hb, hh, h1, h2, h3, h4⟩
  · omega
  · injection he with hA _ hcap
    subst hA
    refine ⟨_, rfl, .inr rfl, fun i x hi => ⟨_, r.mono (hr.2 i x hi) (fun b hb _ => .inl hb.1), fun j u hu => ?_⟩⟩
    have hil := (List.getElem?_eq_some_iff.1 hi).1
    rw [add_add]
    have ha : (⟨g, 0, none⟩ : Addr).add (i * r.sz + j) = ⟨g, i * r.sz + j, none⟩ := by unfold Addr.add; split <;> simp_all
    rw [ha]
    simp only [World.cell?, hh]
    rw [List.getElem?_take] at hu
    split at hu
    · rename_i hj
      rw [List.getElem?_drop] at hu
      rw [← h4, List.getElem?_take] at hu
      split at hu
      · simpa using hu
      · cases hu
    · cases hu
end

/-- A slice's elements, wherever the row lies. -/
def RowE {α : Type} (r : Rep α) (ok : Nat → Prop) (w : World) (A : Option Addr) (xs : List α) : Prop :=
  xs ≠ [] → ∃ ad, A = some ad ∧ ∀ i x, xs[i]? = some x → ∃ cs, r.R ok w x cs ∧ At w (ad.add (i * r.sz)) cs
theorem Row.e {α : Type} {r : Rep α} {ok : Nat → Prop} {w : World} {A : Option Addr} {xs : List α} (h : Row r ok w A xs) : RowE r ok w A xs := fun hn => by
  obtain ⟨ad, he, _, hx⟩ := h.2 hn
  exact ⟨ad, he, hx⟩
/-- A row that has just been laid. -/
theorem RowE.box {α : Type} {r : Rep α} {ok : Nat → Prop} {w : World} {g : Nat} {cs : List Value} {t : TypeId} {xs : List α} (hb : Box w g cs.toArray t) (hr : Reps (r.R ok w) r.sz xs cs) : RowE r ok w (some ⟨g, 0, none⟩) xs := fun hn => by
  refine ⟨_, rfl, fun i x hi => ⟨_, hr.2 i x hi, fun j u hu => ?_⟩⟩
  rw [add_add]
  rw [List.getElem?_take] at hu
  split at hu
  · rw [List.getElem?_drop] at hu
    exact hb.at_ _ u (by simpa using hu)
  · cases hu
theorem RowE.mono {α : Type} {r : Rep α} {ok ok' : Nat → Prop} {w : World} {A : Option Addr} {xs : List α} (h : RowE r ok w A xs) (hm : ∀ b, ok b → b < w.heap.size → ok' b) : RowE r ok' w A xs := fun hn => by
  obtain ⟨ad, he, hx⟩ := h hn
  refine ⟨ad, he, fun i x hi => ?_⟩
  obtain ⟨cs, h1, h2⟩ := hx i x hi
  exact ⟨cs, r.mono h1 hm, h2⟩
/-- All the cells of a row. -/
theorem RowE.cells {α : Type} {r : Rep α} {ok : Nat → Prop} {w : World} {ad : Addr} {xs : List α} (h : RowE r ok w (some ad) xs) : ∃ cs, Reps (r.R ok w) r.sz xs cs ∧ At w ad cs := by
  have key : ∀ k, k ≤ xs.length → ∃ cs, Reps (r.R ok w) r.sz (xs.take k) cs ∧ At w ad cs := by
    intro k
    induction k with
    | zero => intro _; exact ⟨[], by simpa using Reps.nil _ _, fun i u hu => by simp at hu⟩
    | succ k ih =>
      intro hk
      obtain ⟨cs, h1, h2⟩ := ih (by omega)
      obtain ⟨ad', he, hx⟩ := h (fun e => by subst e; simp at hk)
      cases he
      obtain ⟨c, h3, h4⟩ := hx k xs[k] (List.getElem?_eq_getElem (by omega))
      refine ⟨cs ++ c, ?_, ?_⟩
      · rw [List.take_succ_eq_append_getElem (by omega)]
        exact h1.append (Reps.one h3 (r.len h3))
      · intro i u hu
        rcases Nat.lt_or_ge i cs.length with hi | hi
        · rw [List.getElem?_append_left hi] at hu
          exact h2 i u hu
        · rw [List.getElem?_append_right hi] at hu
          have h5 := h4 _ u hu
          rw [add_add] at h5
          have h6 : cs.length = k * r.sz := by rw [h1.1, List.length_take, Nat.min_eq_left (by omega)]
          rwa [show k * r.sz + (i - cs.length) = i by omega] at h5
  obtain ⟨cs, h1, h2⟩ := key xs.length (Nat.le_refl _)
  rw [List.take_length] at h1
  exact ⟨cs, h1, h2⟩

section
variable {P : Program} {n : Nat} {s : Sl} {ds : List Deferred} {w : World} {l : List SOp} {X : Cont} {pan : PCont} {d0 : Option Nat}

theorem elemOf'_spec {t e : TypeId} {k by_ : Nat} {z : Value} (hu : elemOf' P t = some (e, k, by_, z)) : P.underlying t = some (.slice e) ∧ ∃ i, P.info? e = some i ∧ i.zero = some z ∧ i.size = k ∧ i.bytes = by_ := by
  unfold elemOf' at hu
  split at hu
  · rename_i e' hut
    split at hu
    · rename_i i' hi'
      split at hu
      · rename_i z' hz
        cases hu
        exact ⟨hut, i', hi', hz, rfl, rfl⟩
      · cases hu
    · cases hu
  · cases hu

theorem run_app {α : Type} {r : Rep α} (hs : 0 < r.sz) {t ty e : TypeId} {by_ : Nat} {z : Value} {base : Nat} {ok : Nat → Prop} {v : Value} {xs ys : List α} (hu : elemOf' P t = some (e, r.sz, by_, z)) (hz : z.cells.size = r.sz) (hb0 : 0 < by_)
    (hv : Own r e base ok w v xs) {A : Option Addr} {c : Nat} (hys : RowE r (fun b => ok b ∧ some b ≠ v.ownBlock) w A ys) (hbase : base ≤ w.heap.size) (hl : (xs.length + ys.length) * by_ ≤ 140737488355328) :
    ∃ v1 w1, (Builtin.append_ #[t, t] ty #[v, .slice A ys.length c]).run P w = .ok v1 w1 ∧ Own r e base ok w1 v1 (xs ++ ys) ∧ w.grownBy w1 v.ownBlock ∧ (v1.ownBlock = v.ownBlock ∨ v1.ownBlock = some w.heap.size) := by
  obtain ⟨hut, i, hi, hiz, hisz, hiby⟩ := elemOf'_spec hu
  obtain ⟨cs, ho, hr⟩ := hv
  have hlen : xs.length + ys.length ≤ 140737488355328 := Nat.le_trans (Nat.le_mul_of_pos_right _ hb0) hl
  cases A with
  | none =>
    have h0 : ys = [] := by
      cases ys with
      | nil => rfl
      | cons y ys => obtain ⟨ad, he, _⟩ := hys (by simp); cases he
    subst h0
    refine ⟨v, w, ?_, ⟨cs, by simpa using ho, by simpa using hr⟩, gb_refl w _, .inl rfl⟩
    rcases ho.2 with ⟨rfl, hn⟩ | ⟨g, cap, cur, rfl, _, _, hnc, _⟩
    · simp [Builtin.append_, run_underlying hut, sizeOf, typeInfo, hi, Builtin.lenOf, Builtin.firstCells]
    · simp [Builtin.append_, run_underlying hut, sizeOf, typeInfo, hi, Builtin.lenOf, Builtin.firstCells, hnc, storeCells]
  | some ad =>
    obtain ⟨news, hn1, hn2⟩ := hys.cells
    obtain ⟨v1, w1, hrun, h2, h3, _, h5⟩ := run_append_own_at (P := P) w base t ty e i z r.sz by_ hut hi hiz hisz hiby hz hs v xs.length cs ho ad ys.length c news hn1.1 hn2
      (fun u hu => by
        obtain ⟨j, hj, he⟩ := List.getElem_of_mem hu
        have hj2 : j / r.sz < ys.length := by rw [hn1.1] at hj; exact Nat.div_lt_of_lt_mul (by rwa [Nat.mul_comm])
        have h6 := hn1.2 (j / r.sz) _ (List.getElem?_eq_getElem hj2)
        refine r.one h6 u ?_
        rw [List.mem_iff_getElem?]
        refine ⟨j % r.sz, ?_⟩
        rw [List.getElem?_take, if_pos (Nat.mod_lt _ hs), List.getElem?_drop]
        have : j / r.sz * r.sz + j % r.sz = j := by rw [Nat.mul_comm]; exact Nat.div_add_mod j r.sz
        rw [this, List.getElem?_eq_getElem hj, he])
      (by simp only [maxLen]; omega) hl hbase
    refine ⟨v1, w1, hrun, ⟨cs ++ news, by simpa using h2, ?_⟩, h3, h5⟩
    refine (hr.append hn1).imp fun x c hx => ?_
    have h6 : r.R (fun b => (ok b ∧ some b ≠ v.ownBlock) ∧ some b ≠ v1.ownBlock) w x c := r.mono hx fun b hb hlt => ⟨hb, by
      rcases h5 with h5 | h5
      · rw [h5]; exact hb.2
      · rw [h5]; intro e; injection e with e; omega⟩
    exact r.mono (r.move h6 fun b hb hlt => h3.block b hlt hb.1.2) fun b hb _ => ⟨hb.1.1, hb.2⟩

/-- append(v, ys...), v of the call's own. ys: any slice that is read; ok: to what the elements of both lead. -/
theorem WL.app {α : Type} {r : Rep α} (hs : 0 < r.sz) {t e : TypeId} {by_ : Nat} {z : Value} {x y : Operand} {base : Nat} {ok : Nat → Prop} {v : Value} {xs ys : List α} {A : Option Addr} {c : Nat} {g : Option (Nat × Bool)} (hg : GOk s g) (hu : elemOf' P t = some (e, r.sz, by_, z)) (hz : z.cells.size = r.sz) (hb0 : 0 < by_)
    (hx : Wl.val s x = some v) (hy : Wl.val s y = some (.slice A ys.length c)) (hv : Own r e base ok w v xs) (hys : RowE r (fun b => ok b ∧ some b ≠ v.ownBlock) w A ys)
    (hbase : base ≤ w.heap.size) (hl : (xs.length + ys.length) * by_ ≤ 140737488355328)
    (h : ∀ v1 w1, Own r e base ok w1 v1 (xs ++ ys) → w.grownBy w1 v.ownBlock → (v1.ownBlock = v.ownBlock ∨ v1.ownBlock = some w.heap.size) → WL P n l X pan (push d0 v1 s) ds w1) :
    WL P n (⟨d0, .call { callee := .builtin .append, args := #[x, y], argTypes := #[t, t] }, g⟩ :: l) X pan s ds w := by
  refine WL.run hg fun q hq oo ho Kt QQ hK hp h1 h2 => ?_
  obtain ⟨v1, w1, hrun, h3, h4, h5⟩ := run_app (P := P) (ty := oo.type) (c := c) hs hu hz hb0 hv hys hbase hl
  unfold Oper.wp execOp
  rw [ho]
  simp only [resolve, invoke, builtin, Sem.run_bind, Sem.run_pure, Result.andThen_ok, List.map_toArray, List.map_cons, List.map_nil, hq.val hx, hq.val hy, hrun]
  refine hK v1 w1 (h v1 w1 h3 h4 h5) _ ?_
  have := hq.putO h1 v1
  rw [h2] at this
  rw [h2]
  exact this
end
end Go.Wl
