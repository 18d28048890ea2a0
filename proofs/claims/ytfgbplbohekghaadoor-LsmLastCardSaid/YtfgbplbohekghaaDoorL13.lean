/- copy, calls of the model's own entries, append of a make where there is no room. No condition. -/
import Derived.Test.YtfgbplbohekghaaDoorL12
import Derived.Lib.Overlaps
set_option linter.unusedVariables false
set_option linter.unusedSimpArgs false
namespace Go.Wl
open Go.RowKit
/-- An array with these cells from place o on. -/
def putAt (cs : Array Value) (o : Nat) (vs : List Value) : Array Value := (cs.toList.take o ++ vs ++ cs.toList.drop (o + vs.length)).toArray
theorem fold_putAt : ∀ (vs : List Value) (cs : Array Value) (o m : Nat), o + m + vs.length ≤ cs.size → (vs.zipIdx m).foldl (fun cs (p : Value × Nat) => cs.setIfInBounds (o + 0 + p.2) p.1) cs = putAt cs (o + m) vs
  | [], cs, o, m, h => by simp [putAt]
  | v :: r, cs, o, m, h => by
    simp only [List.length_cons] at h
    rw [List.zipIdx_cons, List.foldl_cons, fold_putAt r _ o (m + 1) (by simp; omega)]
    unfold putAt
    have hlt : o + m < cs.toList.length := by simp; omega
    simp only [Nat.add_zero, Array.toList_setIfInBounds]
    rw [← Nat.add_assoc, List.take_succ_eq_append_getElem (by simpa using hlt)]
    simp only [List.getElem_set_self, List.take_set_of_le (Nat.le_refl (o + m)), List.append_assoc, List.cons_append, List.nil_append, List.length_cons]
    rw [List.drop_set_of_lt (by omega), show o + m + 1 + r.length = o + m + (r.length + 1) by omega]
theorem size_putAt {cs : Array Value} {o : Nat} {vs : List Value} (h : o + vs.length ≤ cs.size) : (putAt cs o vs).size = cs.size := by
  simp [putAt]; omega
section
variable {P : Program} {n : Nat} {s : Sl} {ds : List Deferred} {w : World} {l : List SOp} {X : Cont} {pan : PCont} {d0 : Option Nat} {g : Option (Nat × Bool)}
theorem WL.copy {t e : TypeId} {k by_ : Nat} {z : Value} {x y : Operand} {gb o dl dc sl sc : Nat} {a : Addr} {cs : Array Value} {te : TypeId} (src : List Value) (hg : GOk s g) (hu : elemOf' P t = some (e, k, by_, z)) (hx : Wl.val s x = some (.slice (some ⟨gb, o, none⟩) dl dc)) (hy : Wl.val s y = some (.slice (some a) sl sc))
    (hb : Box w gb cs te) (hs : At w a src) (hl : src.length = Nat.min sl dl * k) (hfit : o + src.length ≤ cs.size) (h1 : ∀ u ∈ src, u.oneCell' = true)
    (h : ∀ w1, w.grownBy w1 (some gb) → w1.heap.size = w.heap.size → Box w1 gb (putAt cs o src) te → WL P n l X pan (push d0 (.int .i64 (Nat.min sl dl : Nat)) s) ds w1) :
    WL P n (⟨d0, .call { callee := .builtin .copy, args := #[x, y], argTypes := #[t, t] }, g⟩ :: l) X pan s ds w := by
  obtain ⟨hut, i, hi, hiz, hisz, hiby⟩ := elemOf'_spec hu
  obtain ⟨w1, hr, hb1, hg1, hsz⟩ := run_storeCells (P := P) src cs o 0 w hb (by omega) h1
  have hf := run_firstCells_some (P := P) (w := w) k (Nat.min sl dl) a sl sc src hl hs
  refine WL.val hg (w' := w1) (fun q hq oo ho => ?_) (h w1 hg1 hsz ?_)
  · unfold execOp; rw [ho]
    simp [resolve, invoke, builtin, hq.val hx, hq.val hy, Builtin.copy_, Sem.run_bind, run_underlying hut, Builtin.lenOf, sizeOf, typeInfo, hi, hisz, hf, hr, goInt]
  · have := fold_putAt src cs o 0 (by omega)
    rw [Nat.add_zero] at this
    rw [← this]
    simpa using hb1
/-- A call of a function that the model runs itself. -/
theorem WL.callX {f : FuncId} {xs : Array Operand} {ts : Array TypeId} {vs : List Value} {v : Value} {w' : World} (hg : GOk s g) (hx : vals s xs.toList = some vs)
    (hr : (callFunc f vs.toArray).run P w = .ok (.value v) w') (h : WL P n l X pan (push d0 v s) ds w') : WL P n (⟨d0, .call { callee := .value (.func f), args := xs, argTypes := ts }, g⟩ :: l) X pan s ds w := by
  refine WL.val hg (w' := w') (fun q hq oo ho => ?_) h
  have hargs : xs.map q.eval = vs.toArray := by apply Array.toList_inj.1; simpa using hq.vals hx
  unfold execOp; rw [ho]
  simp only [resolve, invoke, Act.eval, Deferred.ofValue, Sem.run_bind, Sem.run_pure, Result.andThen_ok, hargs]
  simpa using hr
theorem WL.appMake' {t tn e k by_ : Nat} {z : Value} {x y : Operand} {A : Option Addr} {m c : Nat} {kn : IntKind} (hg : GOk s g) (hu : elemOf' P t = some (e, k, by_, z)) (hz : z.cells.size = k) (hk0 : 0 < k) (hn : P.underlying tn = some (.int kn))
    (hx : Wl.val s x = some (.slice A 0 c)) (hy : Wl.val s y = some (.int .i64 m)) (h0 : c < m) (hl : m * by_ ≤ 140737488355328) (h63 : m ≤ 4611686018427387904)
    (h : ∀ cap cur w1, m ≤ cap → cap ≤ maxLen → w.grownBy w1 none → Box w1 w.heap.size cur e → cur.size = cap * k → w1.heap.size = w.heap.size + 1 → WL P n l X pan (push d0 (.slice (some ⟨w.heap.size, 0, none⟩) m cap) s) ds w1) :
    WL P n (⟨d0, .call { callee := .builtin .append, args := #[x, y], argTypes := #[t, tn] }, g⟩ :: l) X pan s ds w := by
  obtain ⟨hut, i, hi, hiz, hisz, hiby⟩ := elemOf'_spec hu
  refine WL.run hg fun q hq oo ho Kt QQ hK hp h1 h2 => ?_
  have hfc : (Builtin.firstCells i.size 0 (.slice A 0 c)).run P w.drew = .ok ([] : List Value).toArray w.drew := by
    cases A with
    | none => exact run_firstCells_none w.drew i.size 0 0 c
    | some a => exact run_firstCells_some w.drew i.size 0 a 0 c [] (by simp) (fun j v hj => by simp at hj)
  have hrun := Lib.run_append_grow_zeros (P := P) w t tn oo.type e i z .i64 kn hut hn hi hiz A 0 c [] hfc m (by omega) (by omega) (by omega) (by omega) (by rw [hiby]; omega) (by rw [Nat.zero_add, hiby]; exact growslice_fits h0 hl)
  rw [Nat.zero_add] at hrun
  unfold Oper.wp execOp
  rw [ho]
  simp only [resolve, invoke, builtin, Sem.run_bind, Sem.run_pure, Result.andThen_ok, List.map_toArray, List.map_cons, List.map_nil, hq.val hx, hq.val hy, hrun]
  have hge := grownCap_ge w m c e
  have hgb : ∀ o, w.grownBy (w.drew.alloc o) none := fun o => ⟨rfl, rfl, rfl, by simp, fun c hc _ => heap_alloc_old w.drew o hc⟩
  refine hK _ _ (h (grownCap w m c e) _ _ hge (grownCap_le_maxLen w m c e (by unfold maxLen; omega)) (hgb _) (heap_alloc_new w.drew _) ?_ (by simp)) _ ?_
  · simp only [Array.size_append, size_zeroCells, List.size_toArray, List.length_nil, hz, Nat.zero_add, ← Nat.add_mul]
    congr 1; omega
  · have := hq.putO h1 (Value.slice (some ⟨w.heap.size, 0, none⟩) m (grownCap w m c e))
    rw [h2] at this ⊢
    exact this
theorem cutAddr_some (g o c i k : Nat) (h : c ≠ i) : cutAddr (some ⟨g, o, none⟩) c i k = some ⟨g, o + i * k, none⟩ := by
  unfold cutAddr
  rw [if_neg h]
  simp only [Option.map_some]
  unfold Addr.add
  split
  · rename_i h0; rw [h0]; rfl
  · rfl
theorem o_cutE {t e : TypeId} {k by_ : Nat} {z : Value} {x : Operand} {lo hi : Option Operand} {vl vh : Option Value} {A A' : Option Addr} {m c m' c' : Nat} (i j : Nat) (hu : elemOf' P t = some (e, k, by_, z)) (hx : Wl.val s x = some (.slice A m c))
    (hlo : ovals s lo = some vl) (hhi : ovals s hi = some vh) (hl : (vl = none ∧ i = 0) ∨ ∃ ik q, vl = some (.int ik q) ∧ 0 ≤ q ∧ q.toNat = i) (hh : (vh = none ∧ j = m) ∨ ∃ ik q, vh = some (.int ik q) ∧ 0 ≤ q ∧ q.toNat = j) (hij : i ≤ j) (hj : j ≤ c)
    (hA : cutAddr A c i k = A') (hm : j - i = m') (hc : c - i = c') : Op1 P n s ds w (.slice t x lo hi none) (.slice A' m' c') := by
  subst hA; subst hm; subst hc; exact o_cut i j hu hx hlo hhi hl hh hij hj
theorem WL.cutE {t e : TypeId} {k by_ : Nat} {z : Value} {x : Operand} {lo hi : Option Operand} {vl vh : Option Value} {A A' : Option Addr} {m c m' c' : Nat} (i j : Nat) (hg : GOk s g) (hu : elemOf' P t = some (e, k, by_, z)) (hx : Wl.val s x = some (.slice A m c))
    (hlo : ovals s lo = some vl) (hhi : ovals s hi = some vh) (hl : (vl = none ∧ i = 0) ∨ ∃ ik q, vl = some (.int ik q) ∧ 0 ≤ q ∧ q.toNat = i) (hh : (vh = none ∧ j = m) ∨ ∃ ik q, vh = some (.int ik q) ∧ 0 ≤ q ∧ q.toNat = j) (hij : i ≤ j) (hj : j ≤ c)
    (hA : cutAddr A c i k = A') (hm : j - i = m') (hc : c - i = c') (h : WL P n l X pan (push d0 (.slice A' m' c') s) ds w) : WL P n (⟨d0, .slice t x lo hi none, g⟩ :: l) X pan s ds w := by
  subst hA; subst hm; subst hc; exact WL.cut i j hg hu hx hlo hhi hl hh hij hj h
theorem addI_e {t t' : TypeId} {x y : Operand} {k : IntKind} {a b c : Int} (hx : Wl.val s x = some (.int k a)) (hy : Wl.val s y = some (.int k b)) (hc : a + b = c) (hw : inK k c) : Op1 P n s ds w (.binOp .add t x y t') (.int k c) := by
  subst hc; exact o_addI hx hy hw
theorem WL.addE {t t' : TypeId} {x y : Operand} {k : IntKind} {a b c : Int} (hg : GOk s g) (hx : Wl.val s x = some (.int k a)) (hy : Wl.val s y = some (.int k b)) (hc : a + b = c) (hw : inK k c)
    (h : WL P n l X pan (push d0 (.int k c) s) ds w) : WL P n (⟨d0, .binOp .add t x y t', g⟩ :: l) X pan s ds w := by
  subst hc; exact WL.addI hg hx hy hw h
theorem WL.subE {t t' : TypeId} {x y : Operand} {k : IntKind} {a b c : Int} (hg : GOk s g) (hx : Wl.val s x = some (.int k a)) (hy : Wl.val s y = some (.int k b)) (hc : a - b = c) (hw : inK k c)
    (h : WL P n l X pan (push d0 (.int k c) s) ds w) : WL P n (⟨d0, .binOp .sub t x y t', g⟩ :: l) X pan s ds w := by
  subst hc; exact WL.subI hg hx hy hw h
end
/-- A row whose elements are one cell each, as a box. -/
theorem own_open {α : Type} {r : Rep α} (h1 : r.sz = 1) {e : TypeId} {base : Nat} {ok : Nat → Prop} {w : World} {v : Value} {xs : List α} (h : Own r e base ok w v xs) :
    (v = .slice none 0 0 ∧ xs = []) ∨ ∃ g cap cur cs, v = .slice (some ⟨g, 0, none⟩) xs.length cap ∧ base ≤ g ∧ Box w g cur e ∧ xs.length ≤ cap ∧ cap ≤ maxLen ∧ cur.size = cap ∧ cur.toList.take xs.length = cs ∧ cs.length = xs.length ∧ Reps (r.R (fun b => ok b ∧ some b ≠ some g) w) 1 xs cs := by
  obtain ⟨cs, ⟨hl, ho⟩, hr⟩ := h
  rcases ho with ⟨rfl, hn⟩ | ⟨g, cap, cur, rfl, hb, hh, hc1, hc2, hs, ht⟩
  · exact .inl ⟨rfl, List.length_eq_zero_iff.1 hn⟩
  · rw [h1] at hl hs ht hr
    rw [Nat.mul_one] at hl hs ht
    exact .inr ⟨g, cap, cur, cs, rfl, hb, hh, hc1, hc2, hs, ht, hl, hr⟩
theorem own_close {α : Type} {r : Rep α} (h1 : r.sz = 1) {e : TypeId} {base : Nat} {ok : Nat → Prop} {w : World} {xs : List α} {g cap n : Nat} {cur : Array Value} {cs : List Value} (hn : n = xs.length) (hb : base ≤ g) (hh : Box w g cur e) (hc1 : xs.length ≤ cap) (hc2 : cap ≤ maxLen) (hs : cur.size = cap) (ht : cur.toList.take xs.length = cs)
    (hr : Reps (r.R (fun b => ok b ∧ some b ≠ some g) w) 1 xs cs) : Own r e base ok w (.slice (some ⟨g, 0, none⟩) n cap) xs := by
  subst hn
  refine ⟨cs, ⟨by rw [h1]; exact hr.1, .inr ⟨g, cap, cur, rfl, hb, hh, hc1, hc2, by rw [h1, Nat.mul_one]; exact hs, by rw [h1, Nat.mul_one]; exact ht⟩⟩, by rw [h1]; exact hr⟩
theorem take_putAt2 (cur : Array Value) (cs : List Value) (u : Value) (m : Nat) (hm : m = cs.length + 1) (h : cs.length + 1 ≤ cur.size) : (putAt (putAt cur 1 cs) 0 [u]).toList.take m = u :: cs := by
  subst hm
  have e1 : (cur.toList.take 1).length = 1 := by rw [List.length_take, Array.length_toList]; omega
  simp only [putAt, List.take_zero, List.nil_append, Nat.zero_add, List.length_cons, List.length_nil, List.cons_append, List.take_succ_cons, List.append_assoc]
  rw [List.drop_append, e1, List.drop_of_length_le (by omega)]
  simp
theorem Box.shape {w : World} {g : Nat} {cs : Array Value} {t : TypeId} (h : Box w g cs t) : w.shape? g = some (t, cs.size) := by
  unfold Box at h
  simp [World.shape?, h]
theorem Sub.append {a b s : Sl} (ha : Sub a s) (hb : Sub b s) : Sub (a ++ b) s := by
  induction a with
  | nil => exact hb
  | cons p r ih =>
    intro t v ht
    obtain ⟨d, u⟩ := p
    rw [List.cons_append, find_cons] at ht
    by_cases e : d = t
    · rw [if_pos e] at ht
      exact ha t v (by rw [find_cons, if_pos e]; exact ht)
    · rw [if_neg e] at ht
      by_cases e2 : ∃ x, find t r = some x
      · obtain ⟨x, hx⟩ := e2
        have h1 := ha t x (by rw [find_cons, if_neg e]; exact hx)
        have h2 : ∀ l : Sl, find t l = some x → find t (l ++ b) = some x := by
          intro l
          induction l with
          | nil => intro h; cases h
          | cons q l ih =>
            intro h
            obtain ⟨d', u'⟩ := q
            rw [List.cons_append, find_cons] at *
            by_cases e3 : d' = t
            · rw [if_pos e3] at h ⊢; exact h
            · rw [if_neg e3] at h ⊢; exact ih h
        rw [h2 r hx] at ht
        rw [h1, ← ht]
      · have h3 : ∀ l : Sl, (¬ ∃ x, find t l = some x) → find t (l ++ b) = find t b := by
          intro l
          induction l with
          | nil => intro _; rfl
          | cons q l ih =>
            intro h
            obtain ⟨d', u'⟩ := q
            rw [List.cons_append, find_cons]
            rw [find_cons] at h
            by_cases e3 : d' = t
            · rw [if_pos e3] at h; exact absurd ⟨_, rfl⟩ h
            · rw [if_neg e3] at h ⊢; exact ih h
        rw [h3 r e2] at ht
        exact hb t v ht
section
variable {P : Program} {n : Nat} {nor ret : Cont} {brk : List (Nat × Cont)} {pan : PCont} {s : Sl} {ds : List Deferred} {w : World}
/-- Roads that meet: behind x, these slots are kept, and those hold F. -/
theorem WC.seqJ {σ : Type} {x y : SC} (s0 : Sl) (hs : Sub s0 s) (F : σ → Sl) (I : σ → World → Prop)
    (h : WC P n x (fun s' ds' w' => ds' = ds ∧ Sub s0 s' ∧ ∃ z, Sub (F z) s' ∧ I z w') brk ret pan s ds w)
    (k : ∀ z w', I z w' → WC P n y nor brk ret pan (F z ++ s0) ds w') : WC P n (.seq x y) nor brk ret pan s ds w :=
  WC.seq (WC.cut _ h fun s' ds' w' hJ => by
    obtain ⟨rfl, h0, z, hF, hI⟩ := hJ
    exact WC.sub (Sub.append hF h0) (k z w' hI))
/-- A loop: s0 is kept, F changes. -/
theorem WC.loopK {σ : Type} {c : SC} (s0 : Sl) (hs : Sub s0 s) (F : σ → Sl) (I : σ → World → Prop) (μ : σ → Nat) (x : σ) (hx : I x w) (hF : Sub (F x) s)
    (round : ∀ y w', I y w' → WC P n c (fun s' ds' w'' => ds' = ds ∧ Sub s0 s' ∧ ∃ z, Sub (F z) s' ∧ I z w'' ∧ μ z < μ y) brk ret pan (F y ++ s0) ds w') :
    WC P n (.loop c) nor brk ret pan s ds w :=
  WC.loop (fun z => F z ++ s0) I μ x hx (Sub.append hF hs) fun y w' hI => WC.cut _ (round y w' hI) fun s' ds' w'' hJ => by
    obtain ⟨rfl, h0, z, hF, hI, hm⟩ := hJ
    exact ⟨rfl, z, Sub.append hF h0, hI, hm⟩
end
end Go.Wl
