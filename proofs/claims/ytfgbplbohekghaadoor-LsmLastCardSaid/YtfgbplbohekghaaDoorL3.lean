/- Laws for single operations: calls, addresses, loads, stores, new variables, arithmetic, tests. No condition. -/
import Derived.Test.YtfgbplbohekghaaDoorL2
import Derived.WalkLawsBesides
import Derived.Below
set_option linter.unusedVariables false
set_option linter.unusedSimpArgs false
namespace Go.Wl
open Go.RowKit

/-! ### Worlds -/
theorem gb_refl (w : World) (row : Option Nat) : w.grownBy w row := ⟨rfl, rfl, rfl, Nat.le_refl _, fun _ _ _ => rfl⟩
theorem gb_none {w w' : World} (h : w.grownBy w' none) (row : Option Nat) : w.grownBy w' row := ⟨h.os, h.tape, h.output, h.size, fun k hk _ => h.block k hk (by simp)⟩
theorem gb_alloc (w : World) (o : Obj) : w.grownBy (w.alloc o) none := ⟨rfl, rfl, rfl, by simp, fun k hk _ => Below.heap_alloc w o k hk⟩
theorem gb_of_below {w w1 : World} (h : Below w.heap.size w w1) : w.grownBy w1 none := ⟨h.os, h.tape, h.output, h.size, fun i hi _ => h.block i hi⟩
theorem below_gb {w w1 : World} (h : w.grownBy w1 none) : Below w.heap.size w w1 := ⟨h.os, h.tape, h.output, h.size, fun i hi => h.block i hi (by simp)⟩
/-- What was made from B on may have been written. -/
theorem below_step {B : Nat} {w0 w w1 : World} {row : Option Nat} (h : Below B w0 w) (hB : B ≤ w.heap.size) (hg : w.grownBy w1 row) (hr : ∀ k, row = some k → B ≤ k) : Below B w0 w1 := h.grown hg hB hr
theorem below_le {B : Nat} {w0 w : World} (h : Below B w0 w) (hB : B ≤ w0.heap.size) : B ≤ w.heap.size := Nat.le_trans hB h.size
theorem gb_trans {w w1 w2 : World} {row : Option Nat} (h : w.grownBy w1 row) (k : w1.grownBy w2 row) : w.grownBy w2 row :=
  ⟨k.os.trans h.os, k.tape.trans h.tape, k.output.trans h.output, Nat.le_trans h.size k.size, fun i hi hr => (k.block i (Nat.lt_of_lt_of_le hi h.size) hr).trans (h.block i hi hr)⟩

/-- Block g is a variable with these cells. -/
def Box (w : World) (g : Nat) (cs : Array Value) (t : TypeId) : Prop := w.heap[g]? = some (.cells cs t (0, 0))
theorem Box.lt {w : World} {g : Nat} {cs : Array Value} {t : TypeId} (h : Box w g cs t) : g < w.heap.size := (Array.getElem?_eq_some_iff.1 h).1
theorem Box.cell {w : World} {g : Nat} {cs : Array Value} {t : TypeId} (h : Box w g cs t) (i : Nat) : w.cell? ⟨g, i, none⟩ = cs[i]? := by
  unfold Box at h
  simp [World.cell?, h]
theorem Box.frozen {w : World} {g : Nat} {cs : Array Value} {t : TypeId} (h : Box w g cs t) (i : Nat) : w.frozen? ⟨g, i, none⟩ = false := by
  unfold Box at h
  simp [World.frozen?, h]
theorem Box.step {w w1 : World} {g : Nat} {cs : Array Value} {t : TypeId} {row : Option Nat} (h : Box w g cs t) (hg : w.grownBy w1 row) (hr : some g ≠ row) : Box w1 g cs t := (hg.block g h.lt hr).trans h

/-- These cells stand at an address, one behind the other. -/
def At (w : World) (a : Addr) (cs : List Value) : Prop := ∀ i u, cs[i]? = some u → w.cell? (a.add i) = some u
theorem Box.at_ {w : World} {g : Nat} {cs : Array Value} {t : TypeId} (h : Box w g cs t) : At w ⟨g, 0, none⟩ cs.toList := fun i u hu => by
  have ha : (⟨g, 0, none⟩ : Addr).add i = ⟨g, i, none⟩ := by unfold Addr.add; split <;> simp_all
  rw [ha, h.cell]
  simpa using hu

theorem add_block (a : Addr) (n : Nat) : (a.add n).block = a.block := by unfold Addr.add; split <;> rfl
theorem add_add (a : Addr) (i j : Nat) : (a.add i).add j = a.add (i + j) := by
  unfold Addr.add
  by_cases h1 : i = 0 <;> by_cases h2 : j = 0 <;> simp [h1, h2, Nat.add_assoc]
theorem lt_of_cell {w : World} {a : Addr} {v : Value} (h : w.cell? a = some v) : a.block < w.heap.size := World.block_lt_of_cell? w a h
theorem cell_step {w w1 : World} {a : Addr} {v : Value} {row : Option Nat} (h : w.cell? a = some v) (hg : w.grownBy w1 row) (hr : some a.block ≠ row) : w1.cell? a = some v :=
  (World.cell?_of_block (hg.block a.block (lt_of_cell h) hr)).trans h
theorem At.step {w w1 : World} {a : Addr} {cs : List Value} {row : Option Nat} (h : At w a cs) (hg : w.grownBy w1 row) (hr : some a.block ≠ row) : At w1 a cs :=
  fun i u hu => cell_step (h i u hu) hg (by rw [add_block]; exact hr)

/-! ### Types -/
/-- Is a type one of several cells (a struct, an array)? How many cells has it? -/
def shapeOf (P : Program) (t : TypeId) : Option (Bool × Nat) :=
  match P.underlying t, P.info? t with
  | some d, some i => some ((match d with | .struct _ | .array _ _ => true | _ => false), i.size)
  | _, _ => none
/-- A field's place: where its cells begin. -/
def fieldOff (P : Program) (t : TypeId) (f : Nat) : Option Nat :=
  match P.underlying t with
  | some (.struct fs) => match fs[f]? with
    | some x => match P.info? x.type with
      | some i => if i.size = 0 then none else some x.offset
      | none => none
    | none => none
  | _ => none
/-- A slice's element type, its cells, its bytes, its zero. -/
def elemOf' (P : Program) (t : TypeId) : Option (TypeId × Nat × Nat × Value) :=
  match P.underlying t with
  | some (.slice e) => match P.info? e with
    | some i => match i.zero with
      | some z => some (e, i.size, i.bytes, z)
      | none => none
    | none => none
  | _ => none
def zeroOf (P : Program) (t : TypeId) : Option Value :=
  match P.info? t with
  | some i => i.zero
  | none => none

section
variable {P : Program} {w : World}
theorem run_isAgg {t : TypeId} {b : Bool} {k : Nat} (h : shapeOf P t = some (b, k)) : (isAgg t).run P w = .ok b w ∧ (sizeOf t).run P w = .ok k w := by
  unfold shapeOf at h
  split at h
  · rename_i d i hd hi
    simp only [Option.some.injEq, Prod.mk.injEq] at h
    obtain ⟨h1, h2⟩ := h
    constructor
    · simp only [isAgg, Sem.run_bind, run_underlying hd, Result.andThen_ok]
      subst h1
      cases d <;> rfl
    · subst h2
      simp [sizeOf, typeInfo, hi]
  · cases h

theorem run_loadCellsFrom {cs : List Value} {a : Addr} : ∀ (k i : Nat) (acc : Array Value), i + k = cs.length → At w a cs → (loadCellsFrom a i k acc).run P w = .ok (acc ++ (cs.drop i).toArray) w
  | 0, i, acc, h, _ => by
    simp only [loadCellsFrom, Sem.run_pure]
    rw [List.drop_of_length_le (by omega)]
    simp
  | k + 1, i, acc, h, hc => by
    have hi : i < cs.length := by omega
    have h1 := hc i cs[i] (List.getElem?_eq_getElem hi)
    simp only [loadCellsFrom, Sem.run_bind]
    have h2 : (load (a.add i)).run P w = .ok cs[i] w := by simp [load, Sem.run, h1]
    rw [h2]
    simp only [Result.andThen_ok]
    rw [run_loadCellsFrom k (i + 1) (acc.push cs[i]) (by omega) hc]
    rw [List.drop_eq_getElem_cons hi]
    simp

theorem run_loadVar_one {t : TypeId} {k : Nat} {a : Addr} {v : Value} (h : shapeOf P t = some (false, k)) (hc : w.cell? a = some v) : (loadVar t a).run P w = .ok v w := by
  simp only [loadVar, Sem.run_bind, (run_isAgg h).1, Result.andThen_ok]
  simp [load, Sem.run, hc]
theorem run_loadVar_agg {t : TypeId} {a : Addr} {cs : List Value} (h : shapeOf P t = some (true, cs.length)) (hc : At w a cs) : (loadVar t a).run P w = .ok (.agg cs.toArray) w := by
  simp only [loadVar, Sem.run_bind, (run_isAgg h).1, (run_isAgg h).2, Result.andThen_ok, if_true, loadCells]
  rw [run_loadCellsFrom cs.length 0 #[] (by omega) hc]
  simp
end

section
variable {P : Program} {n : Nat} {s : Sl} {ds : List Deferred} {w : World} {l : List SOp} {X : Cont} {pan : PCont} {d0 : Option Nat}

/-- Guards: none, or met. -/
def GOk (s : Sl) (g : Option (Nat × Bool)) : Prop := g = none ∨ ∃ d want, g = some (d, want) ∧ find d s = some (.bool want)
theorem GOk.no : GOk s none := .inl rfl
theorem GOk.yes {d : Nat} {want : Bool} (h : find d s = some (.bool want)) : GOk s (some (d, want)) := .inr ⟨d, want, rfl, h⟩

/-- What an operation that leaves the world alone comes to. -/
def Op1 (P : Program) (n : Nat) (s : Sl) (ds : List Deferred) (w : World) (op : Op) (v : Value) : Prop := ∀ a, Fr n s ds a → ∀ oo : Oper, oo.op = op → (execOp a.eval oo).run P w = .ok (.value v) w
theorem o_pure {op : Op} {v : Value} (hv : pv s op = some v) : Op1 P n s ds w op v := fun a ha oo ho => run_pure_op hv ha oo ho w

theorem WL.val {op : Op} {v : Value} {w' : World} {g : Option (Nat × Bool)} (hg : GOk s g) (hr : ∀ a, Fr n s ds a → ∀ oo : Oper, oo.op = op → (execOp a.eval oo).run P w = .ok (.value v) w')
    (h : WL P n l X pan (push d0 v s) ds w') : WL P n (⟨d0, op, g⟩ :: l) X pan s ds w := WL.value hg hr h

/-! #### integers -/
/-- The numbers of a kind. -/
def inK (k : IntKind) (x : Int) : Prop := k.wrap x = x
theorem in_i64 {x : Int} (h0 : -9223372036854775808 ≤ x) (h1 : x ≤ 9223372036854775807) : inK .i64 x := IntWalk.i64_in _ ⟨h0, h1⟩

theorem o_addI {t t' : TypeId} {x y : Operand} {k : IntKind} {a b : Int} (hx : Wl.val s x = some (.int k a)) (hy : Wl.val s y = some (.int k b)) (hw : inK k (a + b)) :
    Op1 P n s ds w (.binOp .add t x y t') ((.int k (a + b))) :=
  (fun q hq oo ho => by unfold execOp; rw [ho]; simp only [hq.val hx, hq.val hy]; simp [eqGuard, binOp, Op.intArith, Sem.run_bind, show k.wrap (a + b) = a + b from hw])
theorem WL.addI {t t' : TypeId} {x y : Operand} {k : IntKind} {a b : Int} {g : Option (Nat × Bool)} (hg : GOk s g) (hx : Wl.val s x = some (.int k a)) (hy : Wl.val s y = some (.int k b)) (hw : inK k (a + b))
    (h : WL P n l X pan (push d0 (.int k (a + b)) s) ds w) : WL P n (⟨d0, .binOp .add t x y t', g⟩ :: l) X pan s ds w := WL.val hg (o_addI hx hy hw) h
theorem o_subI {t t' : TypeId} {x y : Operand} {k : IntKind} {a b : Int} (hx : Wl.val s x = some (.int k a)) (hy : Wl.val s y = some (.int k b)) (hw : inK k (a - b)) :
    Op1 P n s ds w (.binOp .sub t x y t') ((.int k (a - b))) :=
  (fun q hq oo ho => by unfold execOp; rw [ho]; simp only [hq.val hx, hq.val hy]; simp [eqGuard, binOp, Op.intArith, Sem.run_bind, show k.wrap (a - b) = a - b from hw])
theorem WL.subI {t t' : TypeId} {x y : Operand} {k : IntKind} {a b : Int} {g : Option (Nat × Bool)} (hg : GOk s g) (hx : Wl.val s x = some (.int k a)) (hy : Wl.val s y = some (.int k b)) (hw : inK k (a - b))
    (h : WL P n l X pan (push d0 (.int k (a - b)) s) ds w) : WL P n (⟨d0, .binOp .sub t x y t', g⟩ :: l) X pan s ds w := WL.val hg (o_subI hx hy hw) h
theorem o_mulI {t t' : TypeId} {x y : Operand} {k : IntKind} {a b : Int} (hx : Wl.val s x = some (.int k a)) (hy : Wl.val s y = some (.int k b)) (hw : inK k (a * b)) :
    Op1 P n s ds w (.binOp .mul t x y t') ((.int k (a * b))) :=
  (fun q hq oo ho => by unfold execOp; rw [ho]; simp only [hq.val hx, hq.val hy]; simp [eqGuard, binOp, Op.intArith, Sem.run_bind, show k.wrap (a * b) = a * b from hw])
theorem WL.mulI {t t' : TypeId} {x y : Operand} {k : IntKind} {a b : Int} {g : Option (Nat × Bool)} (hg : GOk s g) (hx : Wl.val s x = some (.int k a)) (hy : Wl.val s y = some (.int k b)) (hw : inK k (a * b))
    (h : WL P n l X pan (push d0 (.int k (a * b)) s) ds w) : WL P n (⟨d0, .binOp .mul t x y t', g⟩ :: l) X pan s ds w := WL.val hg (o_mulI hx hy hw) h
/-- + - * as the machine has them. -/
theorem o_addW {t t' : TypeId} {x y : Operand} {k : IntKind} {a b : Int} (hx : Wl.val s x = some (.int k a)) (hy : Wl.val s y = some (.int k b)) :
    Op1 P n s ds w (.binOp .add t x y t') ((.int k (k.wrap (a + b)))) :=
  (fun q hq oo ho => by unfold execOp; rw [ho]; simp only [hq.val hx, hq.val hy]; simp [eqGuard, binOp, Op.intArith, Sem.run_bind])
theorem WL.addW {t t' : TypeId} {x y : Operand} {k : IntKind} {a b : Int} {g : Option (Nat × Bool)} (hg : GOk s g) (hx : Wl.val s x = some (.int k a)) (hy : Wl.val s y = some (.int k b))
    (h : WL P n l X pan (push d0 (.int k (k.wrap (a + b))) s) ds w) : WL P n (⟨d0, .binOp .add t x y t', g⟩ :: l) X pan s ds w := WL.val hg (o_addW hx hy) h
theorem o_subW {t t' : TypeId} {x y : Operand} {k : IntKind} {a b : Int} (hx : Wl.val s x = some (.int k a)) (hy : Wl.val s y = some (.int k b)) :
    Op1 P n s ds w (.binOp .sub t x y t') ((.int k (k.wrap (a - b)))) :=
  (fun q hq oo ho => by unfold execOp; rw [ho]; simp only [hq.val hx, hq.val hy]; simp [eqGuard, binOp, Op.intArith, Sem.run_bind])
theorem WL.subW {t t' : TypeId} {x y : Operand} {k : IntKind} {a b : Int} {g : Option (Nat × Bool)} (hg : GOk s g) (hx : Wl.val s x = some (.int k a)) (hy : Wl.val s y = some (.int k b))
    (h : WL P n l X pan (push d0 (.int k (k.wrap (a - b))) s) ds w) : WL P n (⟨d0, .binOp .sub t x y t', g⟩ :: l) X pan s ds w := WL.val hg (o_subW hx hy) h
theorem o_mulW {t t' : TypeId} {x y : Operand} {k : IntKind} {a b : Int} (hx : Wl.val s x = some (.int k a)) (hy : Wl.val s y = some (.int k b)) :
    Op1 P n s ds w (.binOp .mul t x y t') ((.int k (k.wrap (a * b)))) :=
  (fun q hq oo ho => by unfold execOp; rw [ho]; simp only [hq.val hx, hq.val hy]; simp [eqGuard, binOp, Op.intArith, Sem.run_bind])
theorem WL.mulW {t t' : TypeId} {x y : Operand} {k : IntKind} {a b : Int} {g : Option (Nat × Bool)} (hg : GOk s g) (hx : Wl.val s x = some (.int k a)) (hy : Wl.val s y = some (.int k b))
    (h : WL P n l X pan (push d0 (.int k (k.wrap (a * b))) s) ds w) : WL P n (⟨d0, .binOp .mul t x y t', g⟩ :: l) X pan s ds w := WL.val hg (o_mulW hx hy) h
theorem o_quoI {t t' : TypeId} {x y : Operand} {k : IntKind} {a b : Int} (hx : Wl.val s x = some (.int k a)) (hy : Wl.val s y = some (.int k b)) (hb : b ≠ 0) :
    Op1 P n s ds w (.binOp .quo t x y t') ((.int k (k.wrap (a.tdiv b)))) :=
  (fun q hq oo ho => by unfold execOp; rw [ho]; simp only [hq.val hx, hq.val hy]; simp [eqGuard, binOp, Op.intDiv, Sem.run_bind, hb])
theorem WL.quoI {t t' : TypeId} {x y : Operand} {k : IntKind} {a b : Int} {g : Option (Nat × Bool)} (hg : GOk s g) (hx : Wl.val s x = some (.int k a)) (hy : Wl.val s y = some (.int k b)) (hb : b ≠ 0)
    (h : WL P n l X pan (push d0 (.int k (k.wrap (a.tdiv b))) s) ds w) : WL P n (⟨d0, .binOp .quo t x y t', g⟩ :: l) X pan s ds w := WL.val hg (o_quoI hx hy hb) h
theorem o_remI {t t' : TypeId} {x y : Operand} {k : IntKind} {a b : Int} (hx : Wl.val s x = some (.int k a)) (hy : Wl.val s y = some (.int k b)) (hb : b ≠ 0) :
    Op1 P n s ds w (.binOp .rem t x y t') ((.int k (a.tmod b))) :=
  (fun q hq oo ho => by unfold execOp; rw [ho]; simp only [hq.val hx, hq.val hy]; simp [eqGuard, binOp, Op.intDiv, Sem.run_bind, hb])
theorem WL.remI {t t' : TypeId} {x y : Operand} {k : IntKind} {a b : Int} {g : Option (Nat × Bool)} (hg : GOk s g) (hx : Wl.val s x = some (.int k a)) (hy : Wl.val s y = some (.int k b)) (hb : b ≠ 0)
    (h : WL P n l X pan (push d0 (.int k (a.tmod b)) s) ds w) : WL P n (⟨d0, .binOp .rem t x y t', g⟩ :: l) X pan s ds w := WL.val hg (o_remI hx hy hb) h
theorem o_negW {t : TypeId} {x : Operand} {k : IntKind} {a : Int} (hx : Wl.val s x = some (.int k a)) :
    Op1 P n s ds w (.unOp .neg t x) ((.int k (k.wrap (-a)))) :=
  (fun q hq oo ho => by unfold execOp; rw [ho]; simp only [hq.val hx]; simp [Op.unary, Op.intArith, Sem.run_bind])
theorem WL.negW {t : TypeId} {x : Operand} {k : IntKind} {a : Int} {g : Option (Nat × Bool)} (hg : GOk s g) (hx : Wl.val s x = some (.int k a))
    (h : WL P n l X pan (push d0 (.int k (k.wrap (-a))) s) ds w) : WL P n (⟨d0, .unOp .neg t x, g⟩ :: l) X pan s ds w := WL.val hg (o_negW hx) h

/-! #### errors and nil -/
theorem o_mkIface {t : TypeId} {x : Operand} {v : Value} {D : TypeDesc} (hu : P.underlying t = some D) (hD : (match D with | .interface _ => false | _ => true) = true) (hx : Wl.val s x = some v) :
    Op1 P n s ds w (.makeInterface t x) ((.iface t v)) :=
  (fun q hq oo ho => by
    unfold execOp; rw [ho]; simp only [hq.val hx, Instr.makeInterface, Sem.run_bind, run_underlying hu, Result.andThen_ok]
    cases D <;> first | rfl | (cases hD))
theorem WL.mkIface {t : TypeId} {x : Operand} {v : Value} {D : TypeDesc} {g : Option (Nat × Bool)} (hg : GOk s g) (hu : P.underlying t = some D) (hD : (match D with | .interface _ => false | _ => true) = true) (hx : Wl.val s x = some v)
    (h : WL P n l X pan (push d0 (.iface t v) s) ds w) : WL P n (⟨d0, .makeInterface t x, g⟩ :: l) X pan s ds w := WL.val hg (o_mkIface hu hD hx) h

/-- Is an interface's value nil? -/
def nilB : Value → Bool
  | .nilIface => true
  | _ => false
def isIf : Value → Bool
  | .nilIface => true
  | .iface _ _ => true
  | _ => false
theorem run_eqNil {t : TypeId} {ms : Array (String × TypeId)} (hu : P.underlying t = some (.interface ms)) {v : Value} (hv : isIf v = true) (x : Operand) (u : Value) (hu' : u = .nilIface) :
    (do eqGuard .eql t x (.const u) v .nilIface; binOp .eql t v .nilIface : Sem Value).run P w = .ok (.bool (nilB v)) w ∧
    (do eqGuard .neq t x (.const u) v .nilIface; binOp .neq t v .nilIface : Sem Value).run P w = .ok (.bool (!nilB v)) w := by
  have hm : P.underlying t = some (.interface (P.methodsAt t)) := by rw [hu]; simp [Program.methodsAt, hu]
  cases v <;> first | (cases hv; done) | skip
  · refine ⟨?_, ?_⟩
    · have h1 := run_eql_held_nil (P := P) (w := w) t ‹_› ‹_› hm
      simp only [Sem.run_bind]
      have h2 : (eqGuard .eql t x (.const u) (.iface ‹_› ‹_›) .nilIface).run P w = .ok () w := rfl
      rw [h2]
      exact h1
    · have h1 := run_neq_held_nil (P := P) (w := w) t ‹_› ‹_› hm
      simp only [Sem.run_bind]
      have h2 : (eqGuard .neq t x (.const u) (.iface ‹_› ‹_›) .nilIface).run P w = .ok () w := rfl
      rw [h2]
      exact h1
  · refine ⟨?_, ?_⟩
    · have h1 := run_eql_nil_nil (P := P) (w := w) t hm
      simp only [Sem.run_bind]
      have h2 : (eqGuard .eql t x (.const u) .nilIface .nilIface).run P w = .ok () w := by cases x <;> rfl
      rw [h2]
      exact h1
    · have h1 := run_neq_nil_nil (P := P) (w := w) t hm
      simp only [Sem.run_bind]
      have h2 : (eqGuard .neq t x (.const u) .nilIface .nilIface).run P w = .ok () w := by cases x <;> rfl
      rw [h2]
      exact h1
theorem o_eqNil {t t' : TypeId} {x : Operand} {v : Value} {ms : Array (String × TypeId)} (hu : P.underlying t = some (.interface ms)) (hx : Wl.val s x = some v) (hv : isIf v = true) :
    Op1 P n s ds w (.binOp .eql t x (.const .nilIface) t') ((.bool (nilB v))) :=
  (fun q hq oo ho => by
    unfold execOp; rw [ho]; simp only [hq.val hx]
    have := (run_eqNil (P := P) (w := w) hu hv x .nilIface rfl).1
    simp only [Act.eval]
    simp only [Sem.run_bind] at this ⊢
    rw [this]; rfl)
theorem WL.eqNil {t t' : TypeId} {x : Operand} {v : Value} {ms : Array (String × TypeId)} {g : Option (Nat × Bool)} (hg : GOk s g) (hu : P.underlying t = some (.interface ms)) (hx : Wl.val s x = some v) (hv : isIf v = true)
    (h : WL P n l X pan (push d0 (.bool (nilB v)) s) ds w) : WL P n (⟨d0, .binOp .eql t x (.const .nilIface) t', g⟩ :: l) X pan s ds w := WL.val hg (o_eqNil hu hx hv) h
theorem o_neNil {t t' : TypeId} {x : Operand} {v : Value} {ms : Array (String × TypeId)} (hu : P.underlying t = some (.interface ms)) (hx : Wl.val s x = some v) (hv : isIf v = true) :
    Op1 P n s ds w (.binOp .neq t x (.const .nilIface) t') ((.bool (!nilB v))) :=
  (fun q hq oo ho => by
    unfold execOp; rw [ho]; simp only [hq.val hx]
    have := (run_eqNil (P := P) (w := w) hu hv x .nilIface rfl).2
    simp only [Act.eval]
    simp only [Sem.run_bind] at this ⊢
    rw [this]; rfl)
theorem WL.neNil {t t' : TypeId} {x : Operand} {v : Value} {ms : Array (String × TypeId)} {g : Option (Nat × Bool)} (hg : GOk s g) (hu : P.underlying t = some (.interface ms)) (hx : Wl.val s x = some v) (hv : isIf v = true)
    (h : WL P n l X pan (push d0 (.bool (!nilB v)) s) ds w) : WL P n (⟨d0, .binOp .neq t x (.const .nilIface) t', g⟩ :: l) X pan s ds w := WL.val hg (o_neNil hu hx hv) h

/-! #### len -/
theorem o_lenS {t e : TypeId} {x : Operand} {A : Option Addr} {m c : Nat} (hu : P.underlying t = some (.slice e)) (hx : Wl.val s x = some (.slice A m c)) :
    Op1 P n s ds w (.call { callee := .builtin .len, args := #[x], argTypes := #[t] }) ((.int .i64 m)) :=
  (fun q hq oo ho => by unfold execOp; rw [ho]; simp [resolve, invoke, builtin, hq.val hx, Builtin.len_, Sem.run_bind, run_underlying hu, goInt])
theorem WL.lenS {t e : TypeId} {x : Operand} {A : Option Addr} {m c : Nat} {g : Option (Nat × Bool)} (hg : GOk s g) (hu : P.underlying t = some (.slice e)) (hx : Wl.val s x = some (.slice A m c))
    (h : WL P n l X pan (push d0 (.int .i64 m) s) ds w) : WL P n (⟨d0, .call { callee := .builtin .len, args := #[x], argTypes := #[t] }, g⟩ :: l) X pan s ds w := WL.val hg (o_lenS hu hx) h
theorem o_lenStr {t : TypeId} {x : Operand} {b : ByteArray} (hu : P.underlying t = some .string) (hx : Wl.val s x = some (.string b)) :
    Op1 P n s ds w (.call { callee := .builtin .len, args := #[x], argTypes := #[t] }) ((.int .i64 b.size)) :=
  (fun q hq oo ho => by unfold execOp; rw [ho]; simp [resolve, invoke, builtin, hq.val hx, Builtin.len_, Sem.run_bind, run_underlying hu, goInt])
theorem WL.lenStr {t : TypeId} {x : Operand} {b : ByteArray} {g : Option (Nat × Bool)} (hg : GOk s g) (hu : P.underlying t = some .string) (hx : Wl.val s x = some (.string b))
    (h : WL P n l X pan (push d0 (.int .i64 b.size) s) ds w) : WL P n (⟨d0, .call { callee := .builtin .len, args := #[x], argTypes := #[t] }, g⟩ :: l) X pan s ds w := WL.val hg (o_lenStr hu hx) h

/-! #### addresses -/
theorem o_idxAddr {t e : TypeId} {k by_ : Nat} {z : Value} {x ix : Operand} {ad : Addr} {m c : Nat} {ik : IntKind} {i : Int} (hu : elemOf' P t = some (e, k, by_, z)) (hx : Wl.val s x = some (.slice (some ad) m c)) (hi : Wl.val s ix = some (.int ik i))
    (h0 : 0 ≤ i) (h1 : i < m) :
    Op1 P n s ds w (.indexAddr t x ix) ((.pointer (some (ad.add (i.toNat * k))))) :=
  (fun q hq oo ho => by
    unfold elemOf' at hu
    split at hu
    · rename_i e' hut
      split at hu
      · rename_i i' hi'
        split at hu
        · rename_i z' hz
          cases hu
          unfold execOp; rw [ho]; simp [hq.val hx, hq.val hi, Instr.indexAt, asIntOf, Sem.run_bind, run_underlying hut, sizeOf, typeInfo, hi', h0, h1]
        · cases hu
      · cases hu
    · cases hu)
theorem WL.idxAddr {t e : TypeId} {k by_ : Nat} {z : Value} {x ix : Operand} {ad : Addr} {m c : Nat} {ik : IntKind} {i : Int} {g : Option (Nat × Bool)} (hg : GOk s g) (hu : elemOf' P t = some (e, k, by_, z)) (hx : Wl.val s x = some (.slice (some ad) m c)) (hi : Wl.val s ix = some (.int ik i))
    (h0 : 0 ≤ i) (h1 : i < m)
    (h : WL P n l X pan (push d0 (.pointer (some (ad.add (i.toNat * k)))) s) ds w) : WL P n (⟨d0, .indexAddr t x ix, g⟩ :: l) X pan s ds w := WL.val hg (o_idxAddr hu hx hi h0 h1) h
theorem o_fldAddr {t : TypeId} {f off : Nat} {x : Operand} {ad : Addr} (hu : fieldOff P t f = some off) (hx : Wl.val s x = some (.pointer (some ad))) :
    Op1 P n s ds w (.fieldAddr t x f) ((.pointer (some (ad.add off)))) :=
  (fun q hq oo ho => by
    unfold fieldOff at hu
    split at hu
    · rename_i fs hut
      split at hu
      · rename_i fl hfl
        split at hu
        · rename_i i hi
          split at hu
          · cases hu
          · rename_i hne
            cases hu
            unfold execOp; rw [ho]; simp [hq.val hx, Instr.fieldAt, Instr.sureAddr, Sem.run_bind, run_underlying hut, hfl, fieldPlace, sizeOf, typeInfo, hi, hne]
        · cases hu
      · cases hu
    · cases hu)
theorem WL.fldAddr {t : TypeId} {f off : Nat} {x : Operand} {ad : Addr} {g : Option (Nat × Bool)} (hg : GOk s g) (hu : fieldOff P t f = some off) (hx : Wl.val s x = some (.pointer (some ad)))
    (h : WL P n l X pan (push d0 (.pointer (some (ad.add off))) s) ds w) : WL P n (⟨d0, .fieldAddr t x f, g⟩ :: l) X pan s ds w := WL.val hg (o_fldAddr hu hx) h

/-! #### loads -/
theorem o_ld {t : TypeId} {k : Nat} {x : Operand} {ad : Addr} {v : Value} (hu : shapeOf P t = some (false, k)) (hx : Wl.val s x = some (.pointer (some ad))) (hc : w.cell? ad = some v) :
    Op1 P n s ds w (.load t x) (v) :=
  (fun q hq oo ho => by
    unfold execOp; rw [ho]; simp only [hq.val hx, Instr.loadAt, Instr.sureAddr, Sem.run_bind, Sem.run_pure, Result.andThen_ok, run_loadVar_one hu hc])
theorem WL.ld {t : TypeId} {k : Nat} {x : Operand} {ad : Addr} {v : Value} {g : Option (Nat × Bool)} (hg : GOk s g) (hu : shapeOf P t = some (false, k)) (hx : Wl.val s x = some (.pointer (some ad))) (hc : w.cell? ad = some v)
    (h : WL P n l X pan (push d0 v s) ds w) : WL P n (⟨d0, .load t x, g⟩ :: l) X pan s ds w := WL.val hg (o_ld hu hx hc) h
theorem o_ldAgg {t : TypeId} {x : Operand} {ad : Addr} {cs : List Value} {k : Nat} (hu : shapeOf P t = some (true, k)) (hk : cs.length = k) (hx : Wl.val s x = some (.pointer (some ad))) (hc : At w ad cs) :
    Op1 P n s ds w (.load t x) ((.agg cs.toArray)) :=
  (fun q hq oo ho => by
    subst hk
    unfold execOp; rw [ho]; simp only [hq.val hx, Instr.loadAt, Instr.sureAddr, Sem.run_bind, Sem.run_pure, Result.andThen_ok, run_loadVar_agg hu hc])
theorem WL.ldAgg {t : TypeId} {x : Operand} {ad : Addr} {cs : List Value} {k : Nat} {g : Option (Nat × Bool)} (hg : GOk s g) (hu : shapeOf P t = some (true, k)) (hk : cs.length = k) (hx : Wl.val s x = some (.pointer (some ad))) (hc : At w ad cs)
    (h : WL P n l X pan (push d0 (.agg cs.toArray) s) ds w) : WL P n (⟨d0, .load t x, g⟩ :: l) X pan s ds w := WL.val hg (o_ldAgg hu hk hx hc) h

/-! #### new variables and stores -/
theorem WL.alloc {t : TypeId} {z : Value} {g : Option (Nat × Bool)} (hg : GOk s g) (hz : zeroOf P t = some z)
    (h : ∀ w1, w.grownBy w1 none → Box w1 w.heap.size z.cells t → w1.heap.size = w.heap.size + 1 → WL P n l X pan (push d0 (.pointer (some ⟨w.heap.size, 0, none⟩)) s) ds w1) : WL P n (⟨d0, .alloc t, g⟩ :: l) X pan s ds w :=
  WL.val hg (w' := w.alloc (.cells z.cells t)) (fun q hq oo ho => by
    unfold zeroOf at hz
    split at hz
    · rename_i i hi
      unfold execOp; rw [ho]; simp [Instr.alloc, Sem.run_bind, zeroValue, typeInfo, hi, hz, newVar, newRow]
    · cases hz) (h _ (gb_alloc _ _) (heap_alloc_new w _) (by simp))

theorem run_storeCells {g : Nat} {t : TypeId} : ∀ (vs : List Value) (cs : Array Value) (off i : Nat) (w : World), Box w g cs t → off + i + vs.length ≤ cs.size → (∀ v ∈ vs, v.oneCell' = true) →
    ∃ w', (storeCells ⟨g, off, none⟩ vs i).run P w = .ok () w' ∧ Box w' g (vs.zipIdx.foldl (fun cs (v, j) => cs.setIfInBounds (off + i + j) v) cs) t ∧ w.grownBy w' (some g) ∧ w'.heap.size = w.heap.size
  | [], cs, off, i, w, hb, _, _ => ⟨w, rfl, by simpa using hb, gb_refl _ _, rfl⟩
  | v :: r, cs, off, i, w, hb, hl, h1 => by
    have ha : (⟨g, off, none⟩ : Addr).add i = ⟨g, off + i, none⟩ := by unfold Addr.add; split <;> simp_all
    have hc : w.cell? ⟨g, off + i, none⟩ = some (cs[off + i]'(by simp at hl; omega)) := by rw [hb.cell]; simp
    have hv := h1 v (by simp)
    have hs : (store (⟨g, off + i, none⟩ : Addr) v).run P w = .ok () (w.setCell ⟨g, off + i, none⟩ v) := by
      have hf := hb.frozen (off + i)
      cases v <;> first | (simp [Value.oneCell'] at hv; done) | simp [store, Sem.run, hc, hf]
    have hb' : Box (w.setCell ⟨g, off + i, none⟩ v) g (cs.setIfInBounds (off + i) v) t := by
      unfold Box at hb ⊢
      simp [World.setCell, Array.getElem?_modify, hb]
    obtain ⟨w', hr, hb'', hg, hsz⟩ := run_storeCells r (cs.setIfInBounds (off + i) v) off (i + 1) _ hb' (by simp at hl ⊢; omega) (fun u hu => h1 u (by simp [hu]))
    have hg0 : w.grownBy (w.setCell ⟨g, off + i, none⟩ v) (some g) := ⟨rfl, rfl, rfl, by simp [World.setCell], fun k hk hne => Below.heap_setCell _ _ _ _ (fun e => hne (by rw [e]))⟩
    refine ⟨w', ?_, ?_, gb_trans hg0 hg, by rw [hsz]; simp [World.setCell]⟩
    · simp only [storeCells, Sem.run_bind, ha, hs, Result.andThen_ok, hr]
    · rw [List.zipIdx_cons, List.foldl_cons]
      have : ∀ (l : List Value) (c0 : Array Value) (m : Nat), (l.zipIdx (m + 1)).foldl (fun cs (p : Value × Nat) => cs.setIfInBounds (off + i + p.2) p.1) c0 = (l.zipIdx m).foldl (fun cs (p : Value × Nat) => cs.setIfInBounds (off + (i + 1) + p.2) p.1) c0 := by
        intro l
        induction l with
        | nil => intros; rfl
        | cons a l ih =>
          intro c0 m
          rw [List.zipIdx_cons, List.zipIdx_cons, List.foldl_cons, List.foldl_cons, ih]
          congr 2
          show off + i + (m + 1) = off + (i + 1) + m
          omega
      have h2 := this r (cs.setIfInBounds (off + i) v) 0
      simp only [Nat.zero_add] at h2 ⊢
      simp only [Nat.add_zero]
      rw [h2]
      exact hb''
end
end Go.Wl
