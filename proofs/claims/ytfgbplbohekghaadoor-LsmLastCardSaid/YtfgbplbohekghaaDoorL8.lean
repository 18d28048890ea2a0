/- Case splits at a guard; boxes, min, cap, conversions; nil slices; ranging over a map. No condition. -/
import Derived.Test.YtfgbplbohekghaaDoorL7
import Derived.Maps.RangeRun
set_option linter.unusedVariables false
set_option linter.unusedSimpArgs false
namespace Go.Wl
open Go.RowKit

section
variable {P : Program} {n : Nat} {s : Sl} {ds : List Deferred} {w : World} {l : List SOp} {kk : List Nat} {S : World → Prop} {X : Cont} {pan : PCont} {d0 : Option Nat}

theorem sub_case {d : Nat} {v : Value} (h : find d s = some v) : Sub ((d, v) :: s) s := Sub.cons h (Sub.refl s)
theorem WL.caseB {d : Nat} {b : Bool} (hf : find d s = some (.bool b)) (ht : b = true → WL P n l X pan ((d, .bool true) :: s) ds w) (hx : b = false → WL P n l X pan ((d, .bool false) :: s) ds w) : WL P n l X pan s ds w := by
  cases b with
  | true => exact WL.sub (sub_case hf) (ht rfl)
  | false => exact WL.sub (sub_case hf) (hx rfl)
theorem WL.caseD {d : Nat} {p : Prop} [Decidable p] (hf : find d s = some (.bool (decide p))) (ht : p → WL P n l X pan ((d, .bool true) :: s) ds w) (hx : ¬ p → WL P n l X pan ((d, .bool false) :: s) ds w) : WL P n l X pan s ds w :=
  WL.caseB hf (fun h => ht (of_decide_eq_true h)) (fun h => hx (of_decide_eq_false h))
theorem WL.caseN {d : Nat} {p : Prop} [Decidable p] (hf : find d s = some (.bool (!decide p))) (ht : ¬ p → WL P n l X pan ((d, .bool true) :: s) ds w) (hx : p → WL P n l X pan ((d, .bool false) :: s) ds w) : WL P n l X pan s ds w :=
  WL.caseB hf (fun h => ht (by simpa using h)) (fun h => hx (by simpa using h))
theorem WM.sub {s' : Sl} (k : Sub s' s) (h : WM P n S l kk X pan s' ds w) : WM P n S l kk X pan s ds w := fun ops late r ho QQ hq hn hp a ha => h ops late r ho QQ hq hn hp a (ha.sub k)
theorem WM.caseB {d : Nat} {b : Bool} (hf : find d s = some (.bool b)) (ht : b = true → WM P n S l kk X pan ((d, .bool true) :: s) ds w) (hx : b = false → WM P n S l kk X pan ((d, .bool false) :: s) ds w) : WM P n S l kk X pan s ds w := by
  cases b with
  | true => exact WM.sub (sub_case hf) (ht rfl)
  | false => exact WM.sub (sub_case hf) (hx rfl)
theorem WM.caseD {d : Nat} {p : Prop} [Decidable p] (hf : find d s = some (.bool (decide p))) (ht : p → WM P n S l kk X pan ((d, .bool true) :: s) ds w) (hx : ¬ p → WM P n S l kk X pan ((d, .bool false) :: s) ds w) : WM P n S l kk X pan s ds w :=
  WM.caseB hf (fun h => ht (of_decide_eq_true h)) (fun h => hx (of_decide_eq_false h))
theorem WM.caseN {d : Nat} {p : Prop} [Decidable p] (hf : find d s = some (.bool (!decide p))) (ht : ¬ p → WM P n S l kk X pan ((d, .bool true) :: s) ds w) (hx : p → WM P n S l kk X pan ((d, .bool false) :: s) ds w) : WM P n S l kk X pan s ds w :=
  WM.caseB hf (fun h => ht (by simpa using h)) (fun h => hx (by simpa using h))

theorem WL.box {t : TypeId} {x : Operand} {v : Value} {g : Option (Nat × Bool)} (hg : GOk s g) (hx : Wl.val s x = some v)
    (h : ∀ w1, w.grownBy w1 none → Box w1 w.heap.size v.cells t → w1.heap.size = w.heap.size + 1 → WL P n l X pan (push d0 (.pointer (some ⟨w.heap.size, 0, none⟩)) s) ds w1) : WL P n (⟨d0, .box t x, g⟩ :: l) X pan s ds w :=
  WL.val hg (w' := w.alloc (.cells v.cells t)) (fun q hq oo ho => by
    unfold execOp; rw [ho]; simp [Instr.box, Sem.run_bind, newVar, newRow, hq.val hx]) (h _ (gb_alloc _ _) (heap_alloc_new w _) (by simp))

theorem o_min2 {ts : Array TypeId} {x y : Operand} {k k' : IntKind} {a b : Int} (hx : Wl.val s x = some (.int k a)) (hy : Wl.val s y = some (.int k' b)) :
    Op1 P n s ds w (.call { callee := .builtin .min, args := #[x, y], argTypes := ts }) (.int k (if b < a then b else a)) :=
  (fun q hq oo ho => by unfold execOp; rw [ho]; simp [resolve, invoke, builtin, hq.val hx, hq.val hy, Builtin.min_, Builtin.min2, Sem.run_bind])
theorem WL.min2 {ts : Array TypeId} {x y : Operand} {k k' : IntKind} {a b : Int} {g : Option (Nat × Bool)} (hg : GOk s g) (hx : Wl.val s x = some (.int k a)) (hy : Wl.val s y = some (.int k' b))
    (h : WL P n l X pan (push d0 (.int k (if b < a then b else a)) s) ds w) : WL P n (⟨d0, .call { callee := .builtin .min, args := #[x, y], argTypes := ts }, g⟩ :: l) X pan s ds w := WL.val hg (o_min2 hx hy) h
theorem o_capS {t e : TypeId} {x : Operand} {A : Option Addr} {m c : Nat} (hu : P.underlying t = some (.slice e)) (hx : Wl.val s x = some (.slice A m c)) :
    Op1 P n s ds w (.call { callee := .builtin .cap, args := #[x], argTypes := #[t] }) ((.int .i64 c)) :=
  (fun q hq oo ho => by unfold execOp; rw [ho]; simp [resolve, invoke, builtin, hq.val hx, Builtin.cap_, Sem.run_bind, run_underlying hu, goInt])
theorem WL.capS {t e : TypeId} {x : Operand} {A : Option Addr} {m c : Nat} {g : Option (Nat × Bool)} (hg : GOk s g) (hu : P.underlying t = some (.slice e)) (hx : Wl.val s x = some (.slice A m c))
    (h : WL P n l X pan (push d0 (.int .i64 c) s) ds w) : WL P n (⟨d0, .call { callee := .builtin .cap, args := #[x], argTypes := #[t] }, g⟩ :: l) X pan s ds w := WL.val hg (o_capS hu hx) h
theorem o_convI {t t' : TypeId} {x : Operand} {k k0 k' : IntKind} {a : Int} (hu0 : P.underlying t = some (.int k0)) (hu : P.underlying t' = some (.int k')) (hx : Wl.val s x = some (.int k a)) :
    Op1 P n s ds w (.convert t t' x) (.int k' (k'.wrap a)) :=
  (fun q hq oo ho => by unfold execOp; rw [ho]; simp [hq.val hx, convert, Sem.run_bind, run_underlying hu, run_underlying hu0, Conv.intToInt])
theorem WL.convI {t t' : TypeId} {x : Operand} {k k0 k' : IntKind} {a : Int} {g : Option (Nat × Bool)} (hg : GOk s g) (hu0 : P.underlying t = some (.int k0)) (hu : P.underlying t' = some (.int k')) (hx : Wl.val s x = some (.int k a))
    (h : WL P n l X pan (push d0 (.int k' (k'.wrap a)) s) ds w) : WL P n (⟨d0, .convert t t' x, g⟩ :: l) X pan s ds w := WL.val hg (o_convI hu0 hu hx) h
theorem o_shrI {t t' : TypeId} {x y : Operand} {k k' : IntKind} {a b : Int} (hx : Wl.val s x = some (.int k a)) (hy : Wl.val s y = some (.int k' b)) (hb : 0 ≤ b) :
    Op1 P n s ds w (.binOp .shr t x y t') (.int k (a.fdiv (2 ^ (min b.toNat k.bits)))) :=
  (fun q hq oo ho => by unfold execOp; rw [ho]; simp only [hq.val hx, hq.val hy]; simp [eqGuard, binOp, Op.shift, Sem.run_bind, show ¬ b < 0 by omega])
theorem WL.shrI {t t' : TypeId} {x y : Operand} {k k' : IntKind} {a b : Int} {g : Option (Nat × Bool)} (hg : GOk s g) (hx : Wl.val s x = some (.int k a)) (hy : Wl.val s y = some (.int k' b)) (hb : 0 ≤ b)
    (h : WL P n l X pan (push d0 (.int k (a.fdiv (2 ^ (min b.toNat k.bits)))) s) ds w) : WL P n (⟨d0, .binOp .shr t x y t', g⟩ :: l) X pan s ds w := WL.val hg (o_shrI hx hy hb) h
/-- x == nil, x a slice. -/
theorem o_eqNilS {t e t' : TypeId} {x : Operand} {A : Option Addr} {m c : Nat} (hu : P.underlying t = some (.slice e)) (hx : Wl.val s x = some (.slice A m c)) :
    Op1 P n s ds w (.binOp .eql t x (.const (.slice none 0 0)) t') (.bool A.isNone) :=
  (fun q hq oo ho => by
    unfold execOp; rw [ho]; simp only [hq.val hx]
    have h1 : ∀ d : Nat, (Op.equalIn (d + 1) t (.slice A m c) (.slice none 0 0)).run P w = .ok A.isNone w := fun d => by
      cases A <;> simp only [Op.equalIn, Sem.run_bind, run_underlying hu, Result.andThen_ok] <;> rfl
    have h2 : (binOp .eql t (.slice A m c) (.slice none 0 0)).run P w = .ok (.bool A.isNone) w := by
      show (do let b ← Op.equal t (.slice A m c) (.slice none 0 0); pure (.bool b) : Sem Value).run P w = _
      simp only [Op.equal, Sem.run_bind]
      obtain ⟨dd, hd⟩ : ∃ dd, Op.maxDepth = dd + 1 := ⟨_, rfl⟩
      rw [hd, h1 dd]; rfl
    have h3 : (eqGuard .eql t x (.const (.slice none 0 0)) (.slice A m c) (.slice none 0 0)).run P w = .ok () w := rfl
    simp only [Act.eval, Sem.run_bind, h3, h2, Result.andThen_ok]
    rfl)
theorem WL.eqNilS {t e t' : TypeId} {x : Operand} {A : Option Addr} {m c : Nat} {g : Option (Nat × Bool)} (hg : GOk s g) (hu : P.underlying t = some (.slice e)) (hx : Wl.val s x = some (.slice A m c))
    (h : WL P n l X pan (push d0 (.bool A.isNone) s) ds w) : WL P n (⟨d0, .binOp .eql t x (.const (.slice none 0 0)) t', g⟩ :: l) X pan s ds w := WL.val hg (o_eqNilS hu hx) h
end

theorem nodup_len {β : Type} : ∀ (a b : List β), a.Nodup → (∀ x ∈ a, x ∈ b) → a.length ≤ b.length
  | [], _, _, _ => by simp
  | x :: r, b, hn, hs => by
    obtain ⟨p, q, rfl⟩ := List.append_of_mem (hs x (by simp))
    simp only [List.nodup_cons] at hn
    have := nodup_len r (p ++ q) hn.2 fun y hy => by
      have h1 := hs y (by simp [hy])
      simp only [List.mem_append, List.mem_cons] at h1 ⊢
      rcases h1 with h1 | rfl | h1
      · exact .inl h1
      · exact absurd hy hn.1
      · exact .inr h1
    simp only [List.length_append, List.length_cons] at this ⊢
    omega
theorem nodup_of_map {β γ : Type} (f : β → γ) {l : List β} (h : (l.map f).Nodup) : l.Nodup :=
  List.nodup_iff_pairwise_ne.2 (List.Pairwise.of_map f (fun a b hab e => hab (by rw [e])) (List.nodup_iff_pairwise_ne.1 h))

/-- Ranging over a map: iterator r, map b that holds m; vis: what has come out. -/
def IterAt {P : Program} {K : TypeId} {κ α : Type} (k : KeyK P K κ) (r : VRep α) (ok : Nat → Prop) (w : World) (it b : Nat) (m vis : List (κ × α)) : Prop :=
  ∃ es clock seen, ∃ idx : List Nat, w.heap[it]? = some (.mapIter (some b) clock seen clock) ∧ w.heap[b]? = some (.map es clock) ∧ Ents k r ok w es.toList m ∧ (es.toList.map (·.born)).Nodup ∧ (∀ e ∈ es.toList, e.born < clock) ∧ (m.map (·.1)).Nodup ∧
    idx.Nodup ∧ seen.toList.map some = idx.map (fun i => (es[i]?).map (·.born)) ∧ vis.map some = idx.map (fun i => m[i]?)

section
variable {P : Program} {K : TypeId} {κ α : Type} {k : KeyK P K κ} {r : VRep α} {ok ok' : Nat → Prop} {w w' : World} {it b : Nat} {m vis : List (κ × α)}
theorem idx_lt {β : Type} {idx : List Nat} {m vis : List β} (h : vis.map some = idx.map (fun i => m[i]?)) : ∀ i ∈ idx, i < m.length := by
  intro i hi
  have h1 : m[i]? ∈ vis.map some := by rw [h]; exact List.mem_map_of_mem hi
  obtain ⟨v, _, hv⟩ := List.mem_map.1 h1
  exact (List.getElem?_eq_some_iff.1 hv.symm).1
theorem IterAt.lt (h : IterAt k r ok w it b m vis) : it < w.heap.size ∧ b < w.heap.size ∧ it ≠ b := by
  obtain ⟨es, clock, seen, idx, h1, h2, _⟩ := h
  refine ⟨(Array.getElem?_eq_some_iff.1 h1).1, (Array.getElem?_eq_some_iff.1 h2).1, fun e => ?_⟩
  subst e
  rw [h1] at h2
  cases h2
theorem IterAt.move (h : IterAt k r ok w it b m vis) (hi : w'.heap[it]? = w.heap[it]?) (hb : w'.heap[b]? = w.heap[b]?) (hm : ∀ b, ok b → b < w.heap.size → w'.heap[b]? = w.heap[b]?) : IterAt k r ok w' it b m vis := by
  obtain ⟨es, clock, seen, idx, h1, h2, h3, h4⟩ := h
  exact ⟨es, clock, seen, idx, hi.trans h1, hb.trans h2, h3.move hm, h4⟩
theorem IterAt.step (h : IterAt k r ok w it b m vis) {row : Option Nat} (hg : w.grownBy w' row) (hi : some it ≠ row) (hb : some b ≠ row) (hr : ∀ b, ok b → some b ≠ row) : IterAt k r ok w' it b m vis :=
  h.move (hg.block it h.lt.1 hi) (hg.block b h.lt.2.1 hb) fun c hc hl => hg.block c hl (hr c hc)
theorem IterAt.map (h : IterAt k r ok w it b m vis) : MapAt k r ok w b m := by
  obtain ⟨es, clock, seen, idx, h1, h2, h3, h4, h5, h6, _⟩ := h
  exact ⟨es, clock, h2, h3, h4, h5, h6⟩
theorem IterAt.nodup (h : IterAt k r ok w it b m vis) : (vis.map (·.1)).Nodup ∧ ∀ x ∈ vis, x ∈ m := by
  obtain ⟨es, clock, seen, idx, h1, h2, h3, h4, h5, h6, h7, h8, h9⟩ := h
  have hmem : ∀ x ∈ vis, x ∈ m := fun x hx => by
    have h10 : some x ∈ idx.map (fun i => m[i]?) := by rw [← h9]; exact List.mem_map_of_mem hx
    obtain ⟨i, _, hi⟩ := List.mem_map.1 h10
    exact List.mem_of_getElem? hi
  refine ⟨?_, hmem⟩
  have : ∀ (idx : List Nat) (vis : List (κ × α)), idx.Nodup → vis.map some = idx.map (fun i => m[i]?) → (vis.map (·.1)).Nodup := by
    intro idx
    induction idx with
    | nil => intro vis _ h; cases vis with
      | nil => exact List.nodup_nil
      | cons => cases h
    | cons i idx ih =>
      intro vis hn h
      cases vis with
      | nil => cases h
      | cons x vis =>
        simp only [List.map_cons, List.cons.injEq] at h
        simp only [List.nodup_cons] at hn
        simp only [List.map_cons, List.nodup_cons]
        refine ⟨fun hx => ?_, ih vis hn.2 h.2⟩
        obtain ⟨y, hy, hyx⟩ := List.mem_map.1 hx
        have h10 : some y ∈ idx.map (fun i => m[i]?) := by rw [← h.2]; exact List.mem_map_of_mem hy
        obtain ⟨j, hj, hjy⟩ := List.mem_map.1 h10
        have e1 := (List.getElem?_eq_some_iff.1 h.1.symm)
        have e2 := (List.getElem?_eq_some_iff.1 hjy)
        obtain ⟨l1, e1⟩ := e1
        obtain ⟨l2, e2⟩ := e2
        have := (List.getElem_inj (i := i) (j := j) (h₀ := by simpa using l1) (h₁ := by simpa using l2) h6).1 (by simp [e1, e2, hyx])
        exact hn.1 (this ▸ hj)
  exact this idx vis h7 h9
theorem IterAt.len (h : IterAt k r ok w it b m vis) : vis.length ≤ m.length := by
  obtain ⟨h1, h2⟩ := h.nodup
  have h3 : vis.Nodup := nodup_of_map _ h1
  exact nodup_len _ _ h3 h2
theorem perm_of_all (h : IterAt k r ok w it b m vis) (hall : ∀ x ∈ m, x ∈ vis) : vis.Perm m := by
  obtain ⟨h1, h2⟩ := h.nodup
  have h3 : vis.Nodup := nodup_of_map _ h1
  have h4 : m.Nodup := nodup_of_map _ h.map.nodup
  exact (List.perm_ext_iff_of_nodup h3 h4).2 fun x => ⟨h2 x, hall x⟩
end

section
variable {P : Program} {n : Nat} {s : Sl} {ds : List Deferred} {w : World} {l : List SOp} {X : Cont} {pan : PCont} {d0 : Option Nat}
variable {K : TypeId} {κ α : Type} {k : KeyK P K κ} {r : VRep α} {ok : Nat → Prop}
theorem WL.range {t E : TypeId} {b : Nat} {m : List (κ × α)} {x : Operand} {g : Option (Nat × Bool)} (hg : GOk s g) (hu : P.underlying t = some (.map K E)) (hx : Wl.val s x = some (.map (some b))) (hm : MapAt k r ok w b m)
    (h : ∀ w1, w.grownBy w1 none → IterAt k r ok w1 w.heap.size b m [] → w1.heap.size = w.heap.size + 1 → WL P n l X pan (push d0 (.pointer (some ⟨w.heap.size, 0, none⟩)) s) ds w1) : WL P n (⟨d0, .range t x, g⟩ :: l) X pan s ds w := by
  obtain ⟨es, clock, hb, he, h1, h2, h3⟩ := hm
  have hget : (getObj b).run P w = .ok (.map es clock) w := by simp [getObj, Sem.run, hb]
  have hlt : b < w.heap.size := (Array.getElem?_eq_some_iff.1 hb).1
  refine WL.val hg (w' := w.alloc (.mapIter (some b) clock #[] clock)) (fun q hq oo ho => ?_) (h _ (gb_alloc _ _) ⟨es, clock, #[], [], heap_alloc_new w _, ?_, ?_, h1, h2, h3, List.nodup_nil, rfl, rfl⟩ (by simp))
  · unfold execOp; rw [ho]
    simp [hq.val hx, Instr.range, Sem.run_bind, run_underlying hu, hget]
  · exact (Below.heap_alloc w _ b hlt).trans hb
  · exact he.move fun c _ hc => Below.heap_alloc w _ c hc

theorem gb_setBlock {w w1 : World} (hw : w1 = w ∨ w1 = w.drew) (it : Nat) (o : Obj) : w.grownBy (Go.ChangeMaps.setBlock w1 it o) (some it) := by
  have : ∀ w1 : World, w1.grownBy (Go.ChangeMaps.setBlock w1 it o) (some it) := fun w1 => ⟨rfl, rfl, rfl, by simp [Go.ChangeMaps.setBlock], fun c hc hne => by
    show (w1.heap.setIfInBounds it o)[c]? = _
    rw [Array.getElem?_setIfInBounds_ne (fun e => hne (by rw [e]))]⟩
  rcases hw with rfl | rfl
  · exact this _
  · exact ⟨rfl, rfl, rfl, by simp [Go.ChangeMaps.setBlock, World.drew_eq], fun c hc hne => by
      show (w.heap.setIfInBounds it o)[c]? = _
      rw [Array.getElem?_setIfInBounds_ne (fun e => hne (by rw [e]))]⟩

theorem run_next_it {it b : Nat} {m vis : List (κ × α)} (hi : IterAt k r ok w it b m vis) (hok : ¬ ok it) (ty : TypeId) :
    (vis.Perm m ∧ (Instr.next (.pointer (some ⟨it, 0, none⟩)) false ty).run P w = .ok (.tuple #[.bool false]) w) ∨
    ∃ x v w1, x ∈ m ∧ x ∉ vis ∧ w.grownBy w1 (some it) ∧ w1.heap.size = w.heap.size ∧ (∃ u, (Instr.next (.pointer (some ⟨it, 0, none⟩)) false ty).run P w = .ok (.tuple #[.bool true, u, v]) w1) ∧ IterAt k r ok w1 it b m (vis ++ [x]) ∧ r.V ok w1 x.2 v ∧ (Instr.entry (.pointer (some ⟨it, 0, none⟩))).run P w1 = .ok (.tuple #[k.enc x.1, v]) w1 := by
  have hI := hi
  obtain ⟨es, clock, seen, idx, h1, h2, h3, h4, h5, h6, h7, h8, h9⟩ := hi
  rcases run_next_at (P := P) w ty it b clock clock seen es clock h1 h2 h5 (Nat.le_refl _) with ⟨h0, hr⟩ | ⟨e, he, w1, hw, hr⟩
  · left
    refine ⟨perm_of_all hI fun x hx => ?_, hr⟩
    obtain ⟨i, hi⟩ := List.getElem?_of_mem hx
    obtain ⟨e, he1, he2, he3⟩ := h3.get i x hi
    have hz : leftOf es seen = #[] := Array.eq_empty_of_size_eq_zero h0
    have hsn : seen.contains e.born = true := by
      cases hc : seen.contains e.born with
      | true => rfl
      | false =>
        have : e ∈ leftOf es seen := by unfold leftOf; rw [Array.mem_filter]; exact ⟨by simpa using List.mem_of_getElem? he1, by rw [hc]; rfl⟩
        rw [hz] at this; simp at this
    have hs2 : e.born ∈ seen.toList := by simpa using hsn
    have hs3 : some e.born ∈ idx.map (fun i => (es[i]?).map (·.born)) := by rw [← h8]; exact List.mem_map_of_mem hs2
    obtain ⟨j, hj, hj2⟩ := List.mem_map.1 hs3
    have hij : j = i := by
      have hjl := idx_lt h9 j hj
      cases hej : es[j]? with
      | none => rw [hej] at hj2; cases hj2
      | some ej =>
        rw [hej] at hj2
        obtain ⟨l1, e1⟩ := Array.getElem?_eq_some_iff.1 hej
        obtain ⟨l2, e2⟩ := List.getElem?_eq_some_iff.1 he1
        refine (List.getElem_inj (i := j) (j := i) (h₀ := by simpa using l1) (h₁ := by simpa using l2) h4).1 ?_
        simp only [List.getElem_map, Array.getElem_toList, e1]
        simp at e2 hj2
        rw [hj2, ← e2]
    subst hij
    have h10 : m[j]? ∈ vis.map some := by rw [h9]; exact List.mem_map.2 ⟨j, hj, rfl⟩
    rw [hi] at h10
    simpa using h10
  · right
    obtain ⟨he1, he2⟩ := mem_left he
    obtain ⟨i, hie⟩ := List.getElem?_of_mem he1
    have hil : i < m.length := by rw [← h3.length]; exact (List.getElem?_eq_some_iff.1 hie).1
    obtain ⟨e', he3, he4, he5⟩ := h3.get i m[i] (List.getElem?_eq_getElem hil)
    rw [hie] at he3; cases he3
    have hg := gb_setBlock hw it (.mapIter (some b) clock (seen.push e.born) clock)
    have hne : b ≠ it := fun h => hI.lt.2.2 h.symm
    have hb1 := (hg.block b hI.lt.2.1 (by simpa using hne)).trans h2
    have hmv : ∀ c, ok c → c < w.heap.size → (Go.ChangeMaps.setBlock w1 it (.mapIter (some b) clock (seen.push e.born) clock)).heap[c]? = w.heap[c]? := fun c hc hl => hg.block c hl (by simp; rintro rfl; exact hok hc)
    have hit1 : (Go.ChangeMaps.setBlock w1 it (.mapIter (some b) clock (seen.push e.born) clock)).heap[it]? = some (.mapIter (some b) clock (seen.push e.born) clock) := by
      show (w1.heap.setIfInBounds it _)[it]? = _
      have : it < w1.heap.size := by rcases hw with rfl | rfl <;> exact hI.lt.1
      simp [this]
    have hidx : i ∉ idx := fun hmem => by
      have : some e.born ∈ seen.toList.map some := by rw [h8]; exact List.mem_map.2 ⟨i, hmem, by rw [← Array.getElem?_toList, hie]; rfl⟩
      have : e.born ∈ seen.toList := by simpa using this
      have : seen.contains e.born = true := by simpa using this
      rw [he2] at this; cases this
    have hI1 : IterAt k r ok (Go.ChangeMaps.setBlock w1 it (.mapIter (some b) clock (seen.push e.born) clock)) it b m (vis ++ [m[i]]) := by
      refine ⟨es, clock, seen.push e.born, idx ++ [i], hit1, hb1, h3.move hmv, h4, h5, h6, ?_, ?_, ?_⟩
      · rw [List.nodup_append]
        exact ⟨h7, by simp, fun c hc c' hc' => by simp at hc'; subst hc'; rintro rfl; exact hidx hc⟩
      · rw [Array.toList_push, List.map_append, List.map_append, h8]
        simp only [List.map_cons, List.map_nil]
        rw [← Array.getElem?_toList, hie]; rfl
      · rw [List.map_append, List.map_append, h9]
        simp [List.getElem?_eq_getElem hil]
    refine ⟨m[i], e.val, _, List.getElem_mem hil, fun hv => ?_, hg, ?_, ⟨_, hr⟩, hI1, r.move he5 hmv, ?_⟩
    · have hnd := hI1.nodup.1
      rw [List.map_append, List.nodup_append] at hnd
      exact hnd.2.2 _ (List.mem_map_of_mem hv) _ (by simp) rfl
    · rcases hw with rfl | rfl <;> simp [Go.ChangeMaps.setBlock, World.drew_eq]
    · rw [run_entry_at (P := P) _ it b clock seen es clock e hit1 hb1 he1 h4, he4]

theorem WL.next {it b : Nat} {m vis : List (κ × α)} {x : Operand} {g : Option (Nat × Bool)} (hg : GOk s g) (hx : Wl.val s x = some (.pointer (some ⟨it, 0, none⟩))) (hi : IterAt k r ok w it b m vis) (hok : ¬ ok it)
    (h0 : vis.Perm m → WL P n l X pan (push d0 (.tuple #[.bool false]) s) ds w)
    (h1 : ∀ p u v w1, p ∈ m → p ∉ vis → w.grownBy w1 (some it) → w1.heap.size = w.heap.size → IterAt k r ok w1 it b m (vis ++ [p]) → r.V ok w1 p.2 v → (Instr.entry (.pointer (some ⟨it, 0, none⟩))).run P w1 = .ok (.tuple #[k.enc p.1, v]) w1 → WL P n l X pan (push d0 (.tuple #[.bool true, u, v]) s) ds w1) :
    WL P n (⟨d0, .next x false, g⟩ :: l) X pan s ds w := by
  refine WL.run hg fun q hq oo ho Kt QQ hK hp hn1 hn2 => ?_
  unfold Oper.wp
  rcases run_next_it hi hok oo.type with ⟨h2, h3⟩ | ⟨p, v, w1, h2, h3, h4, h5, ⟨u, h6⟩, h7, h8, h9⟩
  · have hrun : (execOp q.eval oo).run P w = .ok (.value (.tuple #[.bool false])) w := by
      unfold execOp; rw [ho]; simp only [hq.val hx, Sem.run_bind, h3]; rfl
    rw [hrun]
    refine hK _ _ (h0 h2) _ ?_
    have := hq.putO hn1 (.tuple #[.bool false])
    rw [hn2] at this ⊢
    exact this
  · have hrun : (execOp q.eval oo).run P w = .ok (.value (.tuple #[.bool true, u, v])) w1 := by
      unfold execOp; rw [ho]; simp only [hq.val hx, Sem.run_bind, h6]; rfl
    rw [hrun]
    refine hK _ _ (h1 p u v w1 h2 h3 h4 h5 h7 h8 h9) _ ?_
    have := hq.putO hn1 (.tuple #[.bool true, u, v])
    rw [hn2] at this ⊢
    exact this
theorem WL.entry {it : Nat} {v : Value} {x : Operand} {g : Option (Nat × Bool)} (hg : GOk s g) (hx : Wl.val s x = some (.pointer (some ⟨it, 0, none⟩))) (hr : (Instr.entry (.pointer (some ⟨it, 0, none⟩))).run P w = .ok v w)
    (h : WL P n l X pan (push d0 v s) ds w) : WL P n (⟨d0, .entry x, g⟩ :: l) X pan s ds w :=
  WL.val hg (fun q hq oo ho => by unfold execOp; rw [ho]; simp only [hq.val hx, Sem.run_bind, hr]; rfl) h
end
end Go.Wl
